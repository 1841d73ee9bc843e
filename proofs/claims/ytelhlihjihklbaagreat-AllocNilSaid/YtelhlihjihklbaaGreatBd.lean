/- Parts of the proof, in order: what the statement leans on. -/
import Derived.Test.YtelhlihjihklbaaGreatBc
section
open Go Go.Den Go.Proofs
namespace Go.Proofs.YtelhlihjihklbaaGreat
section
variable {w:World} {K:Value->World->Prop}
theorem nil_bytes:Al (eqS .eql 88 (.tmp 3) (.const (.slice none 0 0)) (.slice none 0 0) (.slice none 0 0)) (.bool true):=fun _=>by kernel_rfl
theorem some_bytes (a:Addr) (l c:Nat):Al (eqS .eql 88 (.tmp 3) (.const (.slice none 0 0)) (.slice (some a) l c) (.slice none 0 0)) (.bool false):=fun _=>by kernel_rfl
theorem builtB0 (w:World):(Instr.buildSlice 88 0 #[]).run Tryz.prog w=.ok (.slice (some ⟨w.heap.size,0,none⟩) 0 0) (w.alloc (.cells #[] 5)):=by kernel_rfl
theorem own_empty {T e:TypeId} {k:Nat} (hu:Tryz.prog.underlying T=some (.slice e)):Ow Tryz.prog (w.alloc (.cells #[] e)) w.heap.size T k (some ⟨w.heap.size,0,none⟩) 0 0 [] :=
 ⟨_,hu,by simp,.inr ⟨w.heap.size,0,#[],rfl,Nat.le_refl _,heap_new w _,Nat.le_refl _,Nat.zero_le _,by simp,by simp⟩⟩
theorem CloneB_c {a:Option Addr} {l c:Nat} {xs:List UInt8} (hr:Row w a (u8L xs)) (hl:xs.length=l) (h0:a=none->l=0/\c=0) (h63:l<=1000000000)
  (hk:∀ w' a' c',Ow Tryz.prog w' w.heap.size 88 1 a' l c' (u8L xs)->Mod No w w'->K (.slice a' l c') w'):Cal Tryz.prog F_slices_Clone_byte #[.slice a l c] w K:=by
 apply C_slices_Clone_byte
 unfold D_slices_Clone_byte
 cases a with
 | none =>
  obtain ⟨rfl,rfl⟩:=h0 rfl
  have hx:xs=[]:=List.eq_nil_of_length_eq_zero hl
  subst hx
  exact ⟨_,nil_bytes,tt rfl (hk w none 0 (Ow.nil elemZ_bytes) (Mod.refl _ _))⟩
 | some q =>
  refine ⟨_,some_bytes _ _ _,ff rfl ⟨_,_,_,_,builtB0 w,?_⟩⟩
  have m1:Mod No w (w.alloc (.cells #[] 5)):=(Mod.refl No w).alloc _
  have hu:Tryz.prog.underlying 88=some (.slice 5):=by kernel_rfl
  obtain ⟨a',c',w2,h2,o2,m2⟩:=(own_empty (w:=w) (k:=1) hu).append (ty:=88) elemZ_bytes (by omega) (a2:=some q) (m:=l) (c2:=c) (ys:=u8L xs) (hr.nos m1) (by simp [hl]) (fun e=>by cases e) (one_u8L xs) (by omega) (by omega) (by simp)
  rw [Nat.zero_add,List.nil_append] at *
  exact ⟨_,_,_,w2,h2,hk w2 a' c' o2 (m1.up m2 (Nat.le_refl _))⟩
theorem Index_c {a:Option Addr} {l c:Nat} {xs:List Int} {n:Int} (hl:xs.length=l) (h63:l<=9223372036854775806) (hr:Row w a (iL xs))
  (hk:K (.int .i64 (idxF (fun x=>n==x) xs 0)) w):Cal Tryz.prog F_slices_Index_int #[.slice a l c,.int .i64 n] w K:=by
 apply C_slices_Index_int
 unfold D_slices_Index_int
 refine ⟨fun x w1=>w1=w/\∃ i:Nat,i<=l/\x=[.int .i64 i]/\idxF (fun x=>n==x) xs 0=idxF (fun x=>n==x) (xs.drop i) i,fun x _=>(l-nI x 0).toNat,⟨rfl,0,by omega,rfl,rfl⟩,?_⟩
 rintro x w1 ⟨rfl,i,hi,rfl,hidx⟩
 refine ⟨_,rfl,cond_of (fun hb=>?_) (fun hb=>?_)⟩
 ·have hi:i<l:=by have:=of_decide_eq_true hb; omega
  have hix:i<xs.length:=by omega
  obtain ⟨b,o,rfl,hat⟩:=row_some hr hix
  refine ⟨_,index_slice (k:=1) (by kernel_rfl) (by omega) (by omega),?_⟩
  rw [add_none,show (i:Int).toNat*1=i by omega]
  refine ⟨_,hat.load (by kernel_rfl) (iL_get hix),cond_of (fun hp=>?_) (fun hp=>?_)⟩
  ·have e:idxF (fun x=>n==x) xs 0=i:=by rw [hidx,drop_get hix]; simp only [idxF]; rw [if_pos hp]
   rw [<- e]; exact hk
  ·rw [wrap64 (x:=(i:Int)+1) (by omega) (by omega)]
   refine ⟨⟨rfl,i+1,by omega,rfl,?_⟩,by simp [nI,nth]; omega⟩
   rw [hidx,drop_get hix]; simp only [idxF]; rw [if_neg (by rw [hp]; simp)]
 ·have hil:i=l:=by have:=of_decide_eq_false hb; omega
  have e:idxF (fun x=>n==x) xs 0=-1:=by rw [hidx,List.drop_eq_nil_of_le (by omega)]; rfl
  rw [<- e]; exact hk
theorem Contains_c {a:Option Addr} {l c:Nat} {xs:List Int} {n:Int} (hl:xs.length=l) (h63:l<=9223372036854775806) (hr:Row w a (iL xs))
  (hk:K (.bool (decide (n∈xs))) w):Cal Tryz.prog F_slices_Contains_int #[.slice a l c,.int .i64 n] w K:=by
 apply C_slices_Contains_int
 unfold D_slices_Contains_int
 refine Index_c hl h63 hr ⟨_,rfl,?_⟩
 have e:decide (idxF (fun x=>n==x) xs 0 >= 0)=decide (n∈xs):=by
  rcases idxF_cases (fun x=>n==x) xs 0 with ⟨h1,h2⟩ | ⟨j,x,h1,h2,h3,_⟩
  ·have:n ∉ xs:=fun h=>by have:=h2 n h; simp at this
   simp [h1,this]
  ·have:n=x:=by simpa using h3
   subst this
   have hm:=List.mem_of_getElem? h2
   simp [h1,hm]
 rw [e]; exact hk
theorem Diff_c {a0 a1:Option Addr} {l c0 c1:Nat} {xs ys:List UInt8} (hx:xs.length=l) (hy:ys.length=l) (h63:l<=1000000000) (h0:Row w a0 (u8L xs)) (h1:Row w a1 (u8L ys))
  (hk:∀ w' (f la:Int),Mod No w w'->(0<=f↔xs≠ys)->K (.tuple #[.int .i64 f,.int .i64 la]) w'):Cal Tryz.prog F_num_Diff #[.slice a0 l c0,.slice a1 l c1] w K:=by
 apply C_num_Diff
 unfold D_num_Diff
 refine ⟨fun x w1=>∃ (i:Nat) (f la:Int) (y:Value),i<=l/\x=[.int .i64 f,.int .i64 la,.int .i64 i,y]/\Mod No w w1/\(0<=f↔xs.take i≠ys.take i),fun x _=>(l-nI x 2).toNat,⟨0,-1,-1,_,by omega,rfl,Mod.refl _ _,by simp⟩,?_⟩
 rintro x w1 ⟨i,f,la,y,hi,rfl,hm,hf⟩
 have hself:(if (l:Int) > (l:Int) then (l:Int) else (l:Int))=l:=by simp
 have hself2:(if (l:Int)<(l:Int) then (l:Int) else (l:Int))=l:=by simp
 refine ⟨_,rfl,cond_of (fun hb=>?_) (fun hb=>?_)⟩
 ·rw [hself] at hb
  have hi:i<l:=by have:=of_decide_eq_true hb; omega
  have hix:i<xs.length:=by omega
  have hiy:i<ys.length:=by omega
  obtain ⟨b0,o0,rfl,hat0⟩:=h0.resolve_left (by intro e; have:=congrArg List.length e; simp at this; rw [this] at hix; simp at hix)
  obtain ⟨b1,o1,rfl,hat1⟩:=h1.resolve_left (by intro e; have:=congrArg List.length e; simp at this; rw [this] at hiy; simp at hiy)
  have hm':Mod No w (drew w1):=hm.drew
  have tk:(xs.take (i+1)≠ys.take (i+1))↔(xs.take i≠ys.take i\/xs[i]≠ys[i]):=by
   rw [List.take_succ_eq_append_getElem hix,List.take_succ_eq_append_getElem hiy]
   constructor
   ·intro h
    by_cases e:xs.take i=ys.take i
    ·right; intro e2; exact h (by rw [e,e2])
    ·exact .inl e
   ·intro h e
    have:=List.append_inj e (by simp; omega)
    simp at this
    rcases h with h | h
    ·exact h this.1
    ·exact h this.2
  refine Share.cut (fun z w3=>∃ (f' la':Int) (y':Value),z=[.int .i64 f',.int .i64 la',y']/\Mod No w w3/\(0<=f'↔xs.take (i+1)≠ys.take (i+1))) ?_ ?_
  ·refine Share.cut (fun z w3=>z=[.bool (decide (xs[i]=ys[i]))]/\w3=drew w1) (tt (by rw [hself2]; exact decide_eq_true (by omega)) ?_) ?_
   ·refine ⟨_,index_slice (k:=1) (by kernel_rfl) (by omega) (by omega),?_⟩
    rw [add_none,show (i:Int).toNat*1=i by omega]
    refine ⟨_,(hat0.keep hm' id).load (by kernel_rfl) (u8L_get hix),_,index_slice (k:=1) (by kernel_rfl) (by omega) (by omega),?_⟩
    rw [add_none,show (i:Int).toNat*1=i by omega]
    refine ⟨_,(hat1.keep hm' id).load (by kernel_rfl) (u8L_get hiy),?_,rfl⟩
    congr 2
    rw [Bool.eq_iff_iff]
    simp only [beq_iff_eq,decide_eq_true_eq]
    constructor
    ·intro e; exact UInt8.toNat_inj.1 (by omega)
    ·intro e; rw [e]
   rintro z w3 ⟨rfl,rfl⟩
   refine ⟨_,rfl,cond_of (fun hb=>?_) (fun hb=>?_)⟩
   ·have he:xs[i]=ys[i]:=of_decide_eq_true hb
    refine ⟨f,la,_,rfl,hm',?_⟩
    rw [hf,tk]
    exact ⟨fun h=>.inl h,fun h=>h.resolve_right fun h=>h he⟩
   ·have he:xs[i]≠ys[i]:=of_decide_eq_false hb
    refine ⟨_,rfl,Share.cut (fun z w4=>∃ f':Int,z=[.int .i64 f']/\0<=f'/\w4=drew w1) (cond_of (fun hb=>⟨_,rfl,by omega,rfl⟩) (fun hb=>⟨_,rfl,by have:=of_decide_eq_false hb; omega,rfl⟩)) ?_⟩
    rintro z w4 ⟨f',rfl,hf',rfl⟩
    refine ⟨f',_,_,rfl,hm',?_⟩
    rw [tk]
    exact ⟨fun _=>.inr he,fun _=>hf'⟩
  ·rintro z w3 ⟨f',la',y',rfl,hm3,hf3⟩
   rw [wrap64 (x:=(i:Int)+1) (by omega) (by omega)]
   exact ⟨⟨i+1,f',la',y',by omega,rfl,hm3,hf3⟩,by simp [nI,nth]; omega⟩
 ·rw [hself] at hb
  have hil:i=l:=by have:=of_decide_eq_false hb; omega
  subst hil
  refine ⟨_,rfl,_,rfl,hk w1 f la hm ?_⟩
  rw [hf,List.take_of_length_le (by omega),List.take_of_length_le (by omega)]
end
end Go.Proofs.YtelhlihjihklbaaGreat
end
section
open Go Go.Den Go.Proofs
namespace Go.Den
theorem cut_some {b o c l k:Nat} (h:l≠c):cutA (some ⟨b,o,none⟩) c l k=some ⟨b,o+l*k,none⟩:=by
 unfold cutA
 rw [if_neg (fun e=>h e.symm)]
 simp [add_none]
end Go.Den
namespace Go.Proofs.YtelhlihjihklbaaGreat
def gMark:List UInt8:=[76,71,82,80]
def gFront (g:Gm) (h:Hd):List UInt8:=gMark++toLe 2 h.no.toNat++toLe 2 (hFree g h).1.toNat++toLe 2 (hFree g h).2.toNat
def grpB (g:Gm) (h:Hd):List UInt8:=gFront g h++List.replicate 6 0++h.bs++h.ss++List.replicate 216 0
theorem gFront_len (g:Gm) (h:Hd):(gFront g h).length=10:=by simp [gFront,gMark]
theorem grpB_len {g:Gm} {h:Hd} (hw:hWf h):(grpB g h).length=256:=by
 unfold grpB
 rw [List.length_append,List.length_append,List.length_append,List.length_append,gFront_len,hw.1,hw.2,List.length_replicate,List.length_replicate]
theorem hFree_b {g:Gm} {h:Hd}:0<=(hFree g h).1/\(hFree g h).1<=128/\0<=(hFree g h).2/\(hFree g h).2<=64:=by
 unfold hFree
 split
 ·rename_i ho
  have hq:=gOk_iff.1 (hOk_iff.1 ho).1
  have h1:=cntB_le h.bs g.gr.toNat
  have h2:=cntB_le h.ss g.no.toNat
  exact ⟨by omega,by omega,by omega,by omega⟩
 ·exact ⟨by decide,by decide,by decide,by decide⟩
section
variable {w:World} {K:Value->World->Prop}
theorem hFree_c {g:Gm} {h:Hd} (hw:hWf h) (hk:∀ w',Mod No w w'->K (.tuple #[.int .i64 (hFree g h).1,.int .i64 (hFree g h).2]) w'):Cal Tryz.prog F_group_Free #[.agg ⟨gV g⟩,.agg ⟨hV h⟩] w K:=by
 apply C_group_Free
 unfold D_group_Free
 obtain ⟨w1,a1,a2,a3,a4⟩:=box_u (P:=Tryz.prog) (w:=w) (T:=40) (cs:=gV g)
 obtain ⟨w2,b1,b2,b3,b4⟩:=box_u (P:=Tryz.prog) (w:=w1) (T:=119) (cs:=hV h)
 have m2:=a3.no b3
 refine ⟨_,w1,a1,_,w2,b1,_,(a2.at.keep b3 id).all agg_geo rfl,_,b2.at.all agg_head (hV_len hw),hRight_c hw fun w3 m3=>⟨_,rfl,cond_of (fun ho=>?_) (fun ho=>?_)⟩⟩
 ·have e:hFree g h=(0,0):=by unfold hFree; rw [if_neg (by simpa using ho)]
  rw [e] at hk; exact hk _ (m2.no m3)
 have ho:hOk g h=true:=by simpa using ho
 have hq:=gOk_iff.1 (hOk_iff.1 ho).1
 have q2:=(a2.keep b3 id).keep m3 id
 have q3:=b2.keep m3 id
 have h1:=cntB_le h.bs g.gr.toNat
 have h2:=cntB_le h.ss g.no.toNat
 have md:Mod No w3 (Go.Den.drew w3):=(Mod.refl No w3).drew
 have ad1:Addr.add ⟨w1.heap.size,0,none⟩ 1=⟨w1.heap.size,1,none⟩:=by rw [add_none]
 have ad17:Addr.add ⟨w1.heap.size,0,none⟩ 17=⟨w1.heap.size,17,none⟩:=by rw [add_none]
 rw [ad1,ad17]
 refine ⟨_,q2.at.drew.fld sc_int rfl,_,_,_,sliceA_all arr16,_,q2.at.drew.fld sc_int rfl,_,q2.at.drew.fld sc_int rfl,_,_,_,sliceA_all arr8,_,q2.at.drew.fld sc_int rfl,?_⟩
 refine bitCount_c (xs:=h.bs) hw.1 (.inr ⟨_,_,rfl,At.bs hw q3.at.drew⟩) (by omega) fun w4 m4=>⟨_,rfl,?_⟩
 have M4:=md.no m4
 have r2:=q2.keep M4 id
 refine ⟨r2.at.fld sc_int rfl,r2.at.fld sc_int rfl,r2.at.fld sc_int rfl,?_⟩
 refine bitCount_c (xs:=h.ss) hw.2 (.inr ⟨_,_,rfl,At.ss hw (q3.keep M4 id).at⟩) (by omega) fun w5 m5=>⟨_,rfl,?_⟩
 have M5:=M4.no m5
 have s2:=q2.keep M5 id
 refine ⟨s2.at.fld sc_int rfl,s2.at.fld sc_int rfl,?_⟩
 have e:hFree g h=(g.gr-cntB h.bs g.gr.toNat,g.no-cntB h.ss g.no.toNat):=by unfold hFree; rw [if_pos ho]
 rw [e] at hk
 rw [wrap64 (by omega) (by omega),wrap64 (by omega) (by omega)]
 exact hk _ (m2.no (m3.no M5))
theorem build_three (a b c:Int):Al (Instr.build 312 #[(0,.int .i64 a),(1,.int .i64 b),(2,.int .i64 c)]) (.agg ⟨[.int .i64 a,.int .i64 b,.int .i64 c]⟩):=fun w=>by kernel_rfl
theorem arr3:arrN Tryz.prog 312=some (3,1):=by kernel_rfl
def gPre (g:Gm) (h:Hd):Nat->List UInt8
 | 0=>gMark
 | 1=>gMark++toLe 2 h.no.toNat
 | 2=>gMark++toLe 2 h.no.toNat++toLe 2 (hFree g h).1.toNat
 | _=>gFront g h
theorem gPre_len (g:Gm) (h:Hd) {i:Nat} (hi:i<=3):(gPre g h i).length=4+2*i:=by
 match i,hi with
 | 0,_=>rfl
 | 1,_=>simp [gPre,gMark]
 | 2,_=>simp [gPre,gMark]
 | 3,_=>exact gFront_len g h
set_option maxRecDepth 4000 in
theorem hPut_c {g:Gm} {h:Hd} (hw:hWf h) (h1:hOk g h=false->∀ w',Mod No w w'->K (.tuple #[.slice none 0 0,.int .i64 1]) w')
  (h2:hOk g h=true->∀ w' q,Mod No w w'->w.heap.size<=q->AtU w' q 0 (u8L (grpB g h))->K (.tuple #[.slice (some ⟨q,0,none⟩) 256 256,.int .i64 0]) w'):Cal Tryz.prog F_group_Put #[.agg ⟨gV g⟩,.agg ⟨hV h⟩] w K:=by
 apply C_group_Put
 unfold D_group_Put
 obtain ⟨w1,a1,a2,a3,a4⟩:=box_u (P:=Tryz.prog) (w:=w) (T:=40) (cs:=gV g)
 obtain ⟨w2,b1,b2,b3,b4⟩:=box_u (P:=Tryz.prog) (w:=w1) (T:=119) (cs:=hV h)
 have m2:=a3.no b3
 refine ⟨_,w1,a1,_,w2,b1,_,(a2.at.keep b3 id).all agg_geo rfl,_,b2.at.all agg_head (hV_len hw),hRight_c hw fun w3 m3=>⟨_,rfl,cond_of (fun ho=>h1 (by simpa using ho) _ (m2.no m3)) (fun ho=>?_)⟩⟩
 have ho:hOk g h=true:=by simpa using ho
 have hno:=(hOk_iff.1 ho).2.1
 have hq:=gOk_iff.1 (hOk_iff.1 ho).1
 have hf:=hFree_b (g:=g) (h:=h)
 obtain ⟨w4,c1,c2,c3,c4⟩:=makeSlice_run (P:=Tryz.prog) (w:=w3) (n:=256) elemZ_bytes (by omega) (by omega) (by omega)
 have c2':AtU w4 w3.heap.size 0 (u8L ([]++List.replicate 256 0)):=by
  have e:List.replicate (256*1) (Value.int .u8 0)=u8L ([]++List.replicate 256 0):=by
   rw [List.nil_append,u8L,List.map_replicate]; rfl
  rw [<- e]; exact c2
 obtain ⟨w5,d1,d2,d3,d4⟩:=copy_str (T:=88) (S:=9) (ty:=3) (i:=0) (n:=256) (c:=256) (xs:=gMark) (by kernel_rfl) c2' (by rw [length_u8L,List.length_append,List.length_replicate]; exact Nat.le_refl _) (by simp [gMark])
 rw [zs (pre:=[]) (i:=0) rfl (by simp [gMark])] at d2
 have m5:Mod No w3 w5:=c3.own d3 (Nat.le_refl _)
 have q2:=((a2.keep b3 id).keep m3 id).keep m5 id
 have q3:=(b2.keep m3 id).keep m5 id
 refine ⟨_,_,_,w4,c1,_,w5,d1,_,q2.at.all agg_geo rfl,_,q3.at.all agg_head (hV_len hw),hFree_c hw fun w6 m6=>⟨_,_,rfl,?_⟩⟩
 have m36:Mod No w3 w6:=m5.no m6
 refine ⟨_,(q3.keep m6 id).at.fld sc_int rfl,_,build_three _ _ _,?_⟩
 refine ⟨fun x w7=>∃ i:Nat,i<=3/\x=[.int .i64 i]/\AtU w7 w3.heap.size 0 (u8L (gPre g h i++List.replicate (252-2*i) 0))/\Mod No w3 w7,fun x _=>(3-nI x 0).toNat,⟨0,by omega,rfl,d2.keep m6 id,m36⟩,?_⟩
 rintro x w7 ⟨i,hi,rfl,hat,m7⟩
 refine ⟨_,rfl,cond_of (fun hl=>?_) (fun hl=>?_)⟩
 ·have hl:=of_decide_eq_true hl
  have hi3:i<3:=by omega
  have hlen:=gPre_len g h hi
  have step:∀ v:Int,0<=v->v<=4096->([Value.int .i64 h.no,.int .i64 (hFree g h).1,.int .i64 (hFree g h).2]:List Value)[i]?=some (.int .i64 v)->gPre g h (i+1)=gPre g h i++toLe 2 v.toNat ->
    ∃ n32:Int,Al (Instr.index 312 (.agg ⟨[.int .i64 h.no,.int .i64 (hFree g h).1,.int .i64 (hFree g h).2]⟩) (.int .i64 i)) (.int .i64 n32)/\∃ (a41:Option Addr) (l41 c41:Nat),Al (Instr.sliceAt 88 (.slice (some ⟨w3.heap.size,0,none⟩) 256 256) (some (.int .i64 (IntKind.i64.wrap (4+(IntKind.i64.wrap ((i:Int)*2)))))) (some (.int .i64 (IntKind.i64.wrap (4+(IntKind.i64.wrap ((IntKind.i64.wrap ((i:Int)+1))*2)))))) none) (.slice a41 l41 c41)/\Cal Tryz.prog F_num_Put #[.slice a41 l41 c41,.int .u64 (IntKind.u64.wrap n32)] w7 fun r44 w8=>r44=.tuple #[] /\
     ((∃ i':Nat,i'<=3/\[Value.int .i64 (IntKind.i64.wrap ((i:Int)+1))]=[.int .i64 i']/\AtU w8 w3.heap.size 0 (u8L (gPre g h i'++List.replicate (252-2*i') 0))/\Mod No w3 w8)/\(3-nI [Value.int .i64 (IntKind.i64.wrap ((i:Int)+1))] 0).toNat<(3-nI [Value.int .i64 i] 0).toNat):=by
   intro v hv0 hv hg hp
   have e1:IntKind.i64.wrap (4+(IntKind.i64.wrap ((i:Int)*2)))=((4+2*i:Nat):Int):=by rw [wrap64 (x:=(i:Int)*2) (by omega) (by omega),wrap64 (by omega) (by omega)]; omega
   have e2:IntKind.i64.wrap (4+(IntKind.i64.wrap ((IntKind.i64.wrap ((i:Int)+1))*2)))=((6+2*i:Nat):Int):=by rw [wrap64 (x:=(i:Int)+1) (by omega) (by omega),wrap64 (x:=((i:Int)+1)*2) (by omega) (by omega),wrap64 (by omega) (by omega)]; omega
   rw [e1,e2]
   refine ⟨v,index_val Tryz.underlying312 arr3 Tryz.underlying3 (by simp) (by simp) hi3 hg,_,_,_,slice_lh elemN_bytes (by omega) (by omega) (by omega),?_⟩
   rw [show ((4+2*i:Nat):Int).toNat=4+2*i by omega,cut_some (by omega),show ((6+2*i:Nat):Int).toNat-(4+2*i)=2 by omega]
   refine putz (m:=2) hat hlen (by omega) rfl hv0 (by omega) (by omega) fun w8 m8 z8 d8=>⟨rfl,?_⟩
   rw [wrap64 (x:=(i:Int)+1) (by omega) (by omega)]
   rw [<- hp,show 252-2*i-2=252-2*(i+1) by omega] at d8
   exact ⟨⟨i+1,by omega,by simp,d8,m7.own m8 (Nat.le_refl _)⟩,by simp [nI,nth]; omega⟩
  match i,hi3 with
  | 0,_=>exact step h.no hno.1 (by omega) rfl rfl
  | 1,_=>exact step (hFree g h).1 (by omega) (by omega) rfl rfl
  | 2,_=>exact step (hFree g h).2 (by omega) (by omega) rfl rfl
 have hl:=of_decide_eq_false hl
 have hi3:i=3:=by omega
 subst hi3
 have hat:AtU w7 w3.heap.size 0 (u8L (gFront g h++List.replicate 246 0)):=hat
 have e6:gFront g h++List.replicate 246 (0:UInt8)=(gFront g h++List.replicate 6 0)++List.replicate 240 0:=by
  rw [List.append_assoc,List.replicate_append_replicate]
 rw [e6] at hat
 have m37:Mod No w3 w7:=m7
 have q3':=(b2.keep m3 id).keep m37 id
 have ad1:Addr.add ⟨w1.heap.size,0,none⟩ 1=⟨w1.heap.size,1,none⟩:=by rw [add_none]
 have ad17:Addr.add ⟨w1.heap.size,0,none⟩ 17=⟨w1.heap.size,17,none⟩:=by rw [add_none]
 rw [ad1,ad17]
 have hne:w1.heap.size≠w3.heap.size:=by have:=m3.size; omega
 obtain ⟨w9,p1,p2,p3,p4⟩:=copy_in (P:=Tryz.prog) (T:=88) (T2:=88) (ty:=3) (i:=16) (n:=240) (c:=240) (n2:=16) (c2:=16) (a2:=some ⟨w1.heap.size,1,none⟩) (src:=u8L h.bs) elemN_bytes hat.drew
  (by rw [length_u8L,List.length_append,List.length_append,gFront_len,List.length_replicate,List.length_replicate]; omega) (.inr ⟨_,_,rfl,At.bs hw q3'.at.drew⟩) (by simp [hw.1]) (one_u8L _)
 rw [show Nat.min 16 240*1=16 by decide,List.take_of_length_le (by rw [length_u8L,hw.1]; omega),zs (i:=16) (by rw [List.length_append,gFront_len,List.length_replicate]) (by rw [hw.1]; omega),hw.1] at p2
 have M9:Mod No w3 w9:=m37.drew.own p3 (Nat.le_refl _)
 have q9:=q3'.drew.keep p3 (fun e=>hne e)
 obtain ⟨w10,r1,r2,r3,r4⟩:=copy_in (P:=Tryz.prog) (T:=88) (T2:=88) (ty:=3) (i:=32) (n:=224) (c:=224) (n2:=8) (c2:=8) (a2:=some ⟨w1.heap.size,17,none⟩) (src:=u8L h.ss) elemN_bytes p2.drew
  (by rw [length_u8L,List.length_append,List.length_append,List.length_append,gFront_len,hw.1,List.length_replicate,List.length_replicate]; omega) (.inr ⟨_,_,rfl,At.ss hw q9.at.drew⟩) (by simp [hw.2]) (one_u8L _)
 rw [show Nat.min 8 224*1=8 by decide,List.take_of_length_le (by rw [length_u8L,hw.2]; omega),zs (i:=32) (by rw [List.length_append,List.length_append,gFront_len,hw.1,List.length_replicate]) (by rw [hw.2]; omega),hw.2] at r2
 have M10:Mod No w3 w10:=M9.drew.own r3 (Nat.le_refl _)
 refine ⟨_,_,_,slice_l elemN_bytes (by omega) (by omega),_,_,_,sliceA_all arr16,?_⟩
 rw [show (16:Int).toNat=16 from rfl,cut_some (by omega)]
 refine ⟨_,w9,p1,_,_,_,slice_l elemN_bytes (by omega) (by omega),_,_,_,sliceA_all arr8,?_⟩
 rw [show (32:Int).toNat=32 from rfl,cut_some (by omega)]
 exact ⟨_,w10,r1,h2 ho w10 _ (m2.no (m3.no M10)) (Nat.le_trans m2.size m3.size) r2⟩
end
end Go.Proofs.YtelhlihjihklbaaGreat
end
section
open Go Go.Den Go.Proofs
namespace Go.Proofs.YtelhlihjihklbaaGreat
def readH (xs:List UInt8):Hd:=⟨leN ((xs.drop 4).take 2),(xs.drop 16).take 16,(xs.drop 32).take 8⟩
theorem readH_wf {xs:List UInt8} (h:xs.length=256):hWf (readH xs):=⟨by simp [readH,h],by simp [readH,h]⟩
def hGet (g:Gm) (xs:List UInt8):Hd×Int:=if gOk g=false then (hZ,1) else if xs.length≠256 then (hZ,4) else if hOk g (readH xs)=true/\grpB g (readH xs)=xs then (readH xs,0) else (hZ,8)
theorem hGet_wf (g:Gm) (xs:List UInt8):hWf (hGet g xs).1:=by
 unfold hGet
 split
 ·exact hZ_wf
 split
 ·exact hZ_wf
 split
 ·rename_i h _; exact readH_wf (by omega)
 ·exact hZ_wf
section
variable {w:World} {K:Value->World->Prop}
theorem u8L_take (xs:List UInt8) (n:Nat):u8L (xs.take n)=(u8L xs).take n:=by simp [u8L,List.map_take]
theorem DiffN_c {a0:Option Addr} {l c0:Nat} (h63:l<=1000000000) (hk:∀ w' (f la:Int),Mod No w w'->K (.tuple #[.int .i64 f,.int .i64 la]) w'):Cal Tryz.prog F_num_Diff #[.slice a0 l c0,.slice none 0 0] w K:=by
 apply C_num_Diff
 unfold D_num_Diff
 have e1:(if (l:Int) > ((0:Nat):Int) then (l:Int) else ((0:Nat):Int))=l:=by split <;> omega
 have e2:(if (l:Int)<((0:Nat):Int) then (l:Int) else ((0:Nat):Int))=0:=by split <;> omega
 refine ⟨fun x w1=>∃ (i:Nat) (f la:Int) (y:Value),i<=l/\x=[.int .i64 f,.int .i64 la,.int .i64 i,y]/\Mod No w w1,fun x _=>(l-nI x 2).toNat,⟨0,-1,-1,_,by omega,rfl,Mod.refl _ _⟩,?_⟩
 rintro x w1 ⟨i,f,la,y,hi,rfl,hm⟩
 refine ⟨_,rfl,cond_of (fun hb=>?_) (fun hb=>?_)⟩
 ·have hb:=of_decide_eq_true hb
  have hi:i<l:=by split at hb <;> omega
  have hm':Mod No w (Go.Den.drew w1):=hm.drew
  refine Share.cut (fun z w3=>∃ (f' la':Int) (y':Value),z=[.int .i64 f',.int .i64 la',y']/\w3=Go.Den.drew w1) ?_ ?_
  ·refine Share.cut (fun z w3=>z=[.bool false]/\w3=Go.Den.drew w1) (ff (decide_eq_false (by split <;> omega)) ⟨rfl,rfl⟩) ?_
   rintro z w3 ⟨rfl,rfl⟩
   refine ⟨_,rfl,ff rfl ⟨_,rfl,Share.cut (fun z w3=>(∃ f':Int,z=[.int .i64 f'])/\w3=Go.Den.drew w1) (cond_of (fun _=>⟨⟨_,rfl⟩,rfl⟩) (fun _=>⟨⟨_,rfl⟩,rfl⟩)) ?_⟩⟩
   rintro z w3 ⟨⟨f',rfl⟩,rfl⟩
   exact ⟨_,_,_,rfl,rfl⟩
  ·rintro z w3 ⟨f',la',y',rfl,rfl⟩
   rw [wrap64 (x:=(i:Int)+1) (by omega) (by omega)]
   exact ⟨⟨i+1,f',la',y',by omega,by simp [nth],hm'⟩,by simp [nI,nth]; omega⟩
 ·exact ⟨_,rfl,_,rfl,hk _ _ _ hm⟩
theorem splice_b {h:Hd} {ys:List UInt8} (hw:hWf h) (hy:ys.length=16):splice (hV h) 1 (u8L ys)=hV ⟨h.no,ys,h.ss⟩:=by
 unfold splice hV
 rw [List.take_succ_cons,List.take_zero,length_u8L,hy,show 1+16=16+1 from rfl,List.drop_succ_cons,List.drop_append,List.drop_eq_nil_of_le (by rw [length_u8L,hw.1]; omega),length_u8L,hw.1,Nat.sub_self,List.drop_zero]
 rfl
theorem splice_s {h:Hd} {ys:List UInt8} (hw:hWf h) (hy:ys.length=8):splice (hV h) 17 (u8L ys)=hV ⟨h.no,h.bs,ys⟩:=by
 unfold splice hV
 rw [show 17=16+1 from rfl,List.take_succ_cons,length_u8L,hy,show 16+1+8=24+1 from rfl,List.drop_succ_cons,List.drop_eq_nil_of_le (by rw [List.length_append,length_u8L,length_u8L,hw.1,hw.2]; omega),List.take_append_of_le_length (by rw [length_u8L,hw.1]; omega),List.take_of_length_le (by rw [length_u8L,hw.1]; omega),List.append_nil]
 rfl
set_option maxRecDepth 4000 in
theorem headGet_c {g:Gm} {a:Option Addr} {l c:Nat} {xs:List UInt8} (hl:xs.length=l) (hc:l<=c) (hr:Row w a (u8L xs)) (h63:l<=1048576)
  (hk:∀ w',Mod No w w'->K (.tuple #[.agg ⟨hV (hGet g xs).1⟩,.int .i64 (hGet g xs).2]) w'):Cal Tryz.prog F_group_Get #[.agg ⟨gV g⟩,.slice a l c] w K:=by
 apply C_group_Get
 unfold D_group_Get
 obtain ⟨w1,a1,a2,a3,a4⟩:=box_u (P:=Tryz.prog) (w:=w) (T:=40) (cs:=gV g)
 obtain ⟨w2,b1,b2,b3,b4⟩:=new_u (P:=Tryz.prog) (w:=w1) (T:=119) zero_head
 have m2:=a3.no b3
 have q2:=a2.keep b3 id
 have fin:∀ (w':World) (h:Hd) (e:Int),Mod No w2 w'->(h,e)=hGet g xs->∃ w3:World,RuU (Instr.storeAt 119 (.pointer (some ⟨w1.heap.size,0,none⟩)) (.agg ⟨hV h⟩)) w' w3/\∃ gR2:Array Value,Ru (Instr.loadAt 119 (.pointer (some ⟨w1.heap.size,0,none⟩))) w3 (.agg gR2) w3/\K (.tuple #[.agg gR2,.int .i64 e]) w3:=fun w' h e m he=>by
  have hw:hWf h:=by have:=hGet_wf g xs; rw [<- he] at this; exact this
  obtain ⟨w3,c1,c2,c3,c4⟩:=(b2.keep m id).put (T:=119) (vs:=hV h) agg_head (hV_len hZ_wf) (hV_len hw) (one_hV _)
  refine ⟨w3,c1,_,c2.at.all agg_head (hV_len hw),?_⟩
  have:=hk w3 ((m2.no m).own c3 a3.size)
  rw [<- he] at this
  exact this
 refine ⟨_,w1,a1,_,w2,b1,_,q2.at.all agg_geo rfl,geoRight_c fun w3 m3=>⟨_,rfl,cond_of (fun h=>⟨_,build_head0,?_⟩) (fun h=>?_)⟩⟩
 ·exact fin w3 hZ 1 m3 (by unfold hGet; rw [if_pos (by simpa using h)])
 have hg:gOk g=true:=by simpa using h
 rw [bneI]
 refine cond_of (fun h=>⟨_,build_head0,?_⟩) (fun h=>?_)
 ·have h:=of_decide_eq_true h
  exact fin w3 hZ 4 m3 (by unfold hGet; rw [if_neg (by rw [hg]; simp),if_pos (by omega)])
 have hl2:xs.length=256:=by have:=of_decide_eq_false h; omega
 have hl':l=256:=by omega
 subst hl'
 have hr3:=(hr.nos m2).nos m3
 have n4:leN ((xs.drop 4).take 2)<256 ^ 2:=leN_sub (by omega)
 refine ⟨_,_,_,slice_lh elemN_bytes (by omega) (by omega) (by omega),?_⟩
 refine Get_c (xs:=(xs.drop 4).take 2) (by simp; omega) (hr3.cut (by omega) (by omega)) (by omega) ⟨_,rfl,?_⟩
 rw [List.take_of_length_le (i:=8) (by simp; omega),wrap64 (x:=(leN ((xs.drop 4).take 2):Int)) (by omega) (by omega)]
 obtain ⟨w7,c1,c2,c3,c4⟩:=new_u (P:=Tryz.prog) (w:=w3) (T:=119) zero_head
 obtain ⟨w8,d1,d2,d3,d4⟩:=c2.put (T:=119) (vs:=hV ⟨leN ((xs.drop 4).take 2),List.replicate 16 0,List.replicate 8 0⟩) agg_head (hV_len hZ_wf) (hV_len ⟨rfl,rfl⟩) (one_hV _)
 have m8:Mod No w3 w8:=c3.own d3 (Nat.le_refl _)
 have ad1:Addr.add ⟨w3.heap.size,0,none⟩ 1=⟨w3.heap.size,1,none⟩:=by rw [add_none]
 have ad17:Addr.add ⟨w3.heap.size,0,none⟩ 17=⟨w3.heap.size,17,none⟩:=by rw [add_none]
 have hr8:Row (Go.Den.drew w8) a (u8L xs):=hr3.nos m8.drew
 have l16:((xs.drop 16).take 240).length=240:=by simp; omega
 have l32:((xs.drop 32).take 224).length=224:=by simp; omega
 obtain ⟨w9,p1,p2,p3,p4⟩:=copy_in (P:=Tryz.prog) (T:=88) (T2:=88) (ty:=3) (i:=1) (n:=16) (c:=16) (n2:=240) (c2:=c-16) (a2:=cutA a c 16 1) (src:=u8L ((xs.drop 16).take 240)) elemN_bytes d2.drew
  (by rw [hV_len ⟨rfl,rfl⟩]; omega) (hr8.cut (by omega) (by omega)) (by rw [length_u8L,l16]) (one_u8L _)
 have t16:(u8L ((xs.drop 16).take 240)).take (Nat.min 240 16*1)=u8L ((xs.drop 16).take 16):=by
  rw [show Nat.min 240 16*1=16 by decide,<- u8L_take,List.take_take]; rfl
 rw [t16,splice_b ⟨rfl,rfl⟩ (by simp; omega)] at p2
 have M9:Mod No w3 w9:=m8.drew.own p3 (Nat.le_refl _)
 have hr9:Row (Go.Den.drew w9) a (u8L xs):=hr3.nos M9.drew
 obtain ⟨w10,r1,r2,r3,r4⟩:=copy_in (P:=Tryz.prog) (T:=88) (T2:=88) (ty:=3) (i:=17) (n:=8) (c:=8) (n2:=224) (c2:=c-32) (a2:=cutA a c 32 1) (src:=u8L ((xs.drop 32).take 224)) elemN_bytes p2.drew
  (by rw [hV_len ⟨by simp; omega,rfl⟩]; omega) (hr9.cut (by omega) (by omega)) (by rw [length_u8L,l32]) (one_u8L _)
 have t32:(u8L ((xs.drop 32).take 224)).take (Nat.min 224 8*1)=u8L ((xs.drop 32).take 8):=by
  rw [show Nat.min 224 8*1=8 by decide,<- u8L_take,List.take_take]; rfl
 rw [t32,splice_s ⟨by simp; omega,rfl⟩ (by simp; omega)] at r2
 have r2:AtU w10 w3.heap.size 0 (hV (readH xs)):=r2
 have hwf:=readH_wf hl2
 have M10:Mod No w3 w10:=M9.drew.own r3 (Nat.le_refl _)
 have m210:=m3.no M10
 refine ⟨_,build_head _,_,w7,c1,w8,d1,?_⟩
 rw [ad1,ad17]
 refine ⟨_,_,_,sliceA_all arr16,_,_,_,slice_l elemN_bytes (by omega) (by omega),_,w9,p1,_,_,_,sliceA_all arr8,_,_,_,slice_l elemN_bytes (by omega) (by omega),_,w10,r1,_,(q2.keep m210 id).at.all agg_geo rfl,_,r2.at.all agg_head (hV_len hwf),?_⟩
 have last:∀ (w13:World) (b:Bool),Mod No w10 w13->(b=false↔hOk g (readH xs)=true/\grpB g (readH xs)=xs)->∃ b53:Bool,nth [.bool b] 0=.bool b53/\(bif b53 then
   ∃ g54:Array Value,Al (Instr.build 119 #[]) (.agg g54)/\∃ w14:World,RuU (Instr.storeAt 119 (.pointer (some ⟨w1.heap.size,0,none⟩)) (.agg g54)) w13 w14/\∃ gR4_3:Array Value,Ru (Instr.loadAt 119 (.pointer (some ⟨w1.heap.size,0,none⟩))) w14 (.agg gR4_3) w14/\K (.tuple #[.agg gR4_3,.int .i64 8]) w14
   else
   ∃ g55:Array Value,Ru (Instr.loadAt 119 (.pointer (some ⟨w3.heap.size,0,none⟩))) w13 (.agg g55) w13/\∃ w15:World,RuU (Instr.storeAt 119 (.pointer (some ⟨w1.heap.size,0,none⟩)) (.agg g55)) w13 w15/\∃ gR4_4:Array Value,Ru (Instr.loadAt 119 (.pointer (some ⟨w1.heap.size,0,none⟩))) w15 (.agg gR4_4) w15/\K (.tuple #[.agg gR4_4,.int .i64 0]) w15):=by
  intro w13 b m13 hb
  refine ⟨_,rfl,cond_of (fun h=>⟨_,build_head0,?_⟩) (fun h=>⟨_,(r2.keep m13 id).at.all agg_head (hV_len hwf),?_⟩)⟩
  ·exact fin w13 hZ 8 (m210.no m13) (by unfold hGet; rw [if_neg (by rw [hg]; simp),if_neg (by omega),if_neg fun e=>by rw [hb.2 e] at h; cases h])
  ·exact fin w13 (readH xs) 0 (m210.no m13) (by unfold hGet; rw [if_neg (by rw [hg]; simp),if_neg (by omega),if_pos (hb.1 h)])
 refine hPut_c hwf (fun ho w11 m11=>⟨_,_,_,_,rfl,DiffN_c (by omega) fun w12 f la m12=>⟨_,_,rfl,Share.dup (tt rfl ?_)⟩⟩) (fun ho w11 q m11 hqn hat=>⟨_,_,_,_,rfl,Diff_c (xs:=xs) (ys:=grpB g (readH xs)) hl2 (grpB_len hwf) (by omega) ((hr3.nos M10).nos m11) (.inr ⟨_,_,rfl,hat.at⟩) fun w12 f la m12 hf=>⟨_,_,rfl,Share.dup (ff rfl ?_)⟩⟩)
 ·refine last w12 true (m11.no m12) ⟨fun e=>(by cases e),fun e=>?_⟩
  rw [ho] at e; cases e.1
 ·refine last w12 _ (m11.no m12) ?_
  rw [decide_eq_false_iff_not]
  constructor
  ·intro h0
   refine ⟨ho,?_⟩
   exact Classical.not_not.1 fun hn=>h0 (hf.2 fun e=>hn e.symm)
  ·intro h0 h1
   exact hf.1 h1 h0.2.symm
end
end Go.Proofs.YtelhlihjihklbaaGreat
end
section
open Go Go.Den Go.Proofs
namespace Go.Den
theorem own_new {P:Program} {w:World} {base n:Nat} {T e:TypeId} {cs:List Value} (he:P.underlying T=some (.slice e)) (hn:cs.length=n) (h63:n<=maxLen) (hb:base<=w.heap.size):Ow P (w.alloc (.cells ⟨cs⟩ e)) base T 1 (some ⟨w.heap.size,0,none⟩) n n cs :=
 ⟨e,he,by omega,.inr ⟨w.heap.size,n,⟨cs⟩,rfl,hb,heap_new w _,Nat.le_refl _,h63,by simp [hn],by simp [<- hn]⟩⟩
end Go.Den
namespace Go.Proofs.YtelhlihjihklbaaGreat
theorem agg_rsup:aggN Tryz.prog 232=some 4:=by kernel_rfl
theorem zero_rsup:zeroC Tryz.prog 232=some (sV sZ):=by kernel_rfl
theorem build_rsup0:Al (Instr.build 232 #[]) (.agg ⟨sV sZ⟩):=fun w=>by kernel_rfl
theorem build_rsup (n:Int) (g:Gm):Al (Instr.build 232 #[(0,.int .i64 n),(1,.agg ⟨gV g⟩)]) (.agg ⟨sV ⟨n,g⟩⟩):=fun w=>by kernel_rfl
theorem built_smark (w:World):(Instr.buildSlice 88 4 #[(0,.int .u8 76),(1,.int .u8 86),(2,.int .u8 69),(3,.int .u8 69)]).run Tryz.prog w=.ok (.slice (some ⟨w.heap.size,0,none⟩) 4 4) (w.alloc (.cells ⟨u8L sMark⟩ 5)):=by kernel_rfl
theorem conv_mark {w:World} {cs:List Value} {n:Nat}:∃ w2,(convert 88 88 (.slice (some ⟨w.heap.size,0,none⟩) n n)).run Tryz.prog (w.alloc (.cells ⟨cs⟩ 5))=.ok (.slice (some ⟨w.heap.size,0,none⟩) n n) w2/\At w2 w.heap.size 0 cs/\Mod No w w2:=by
 have e:(convert 88 88 (.slice (some ⟨w.heap.size,0,none⟩) n n)).run Tryz.prog (w.alloc (.cells ⟨cs⟩ 5))=.ok (.slice (some ⟨w.heap.size,0,none⟩) n n) ((w.alloc (.cells ⟨cs⟩ 5)).freeze ⟨w.heap.size,cs.length,none⟩ 1):=by
  have hs:(w.alloc (.cells ⟨cs⟩ 5)).shape? w.heap.size=some (5,cs.length):=by unfold World.shape?; rw [heap_new]; rfl
  simp [convert,run_und Tryz.underlying88,run_und Tryz.underlying5,markStringish,hs]
 have hb:((w.alloc (.cells ⟨cs⟩ 5)).freeze ⟨w.heap.size,cs.length,none⟩ 1).heap[w.heap.size]?=some (.cells ⟨cs⟩ 5 (cs.length,cs.length+1)):=by
  unfold World.freeze
  rw [if_neg (by omega)]
  dsimp only
  rw [Array.getElem?_modify,if_pos rfl,heap_new]; rfl
 have ho:∀ k,k<w.heap.size->((w.alloc (.cells ⟨cs⟩ 5)).freeze ⟨w.heap.size,cs.length,none⟩ 1).heap[k]?=w.heap[k]?:=fun k hk=>by
  unfold World.freeze
  rw [if_neg (by omega)]
  dsimp only
  rw [Array.getElem?_modify,if_neg (by omega),heap_old hk]
 refine ⟨_,e,⟨cs,_,_,hb,by simp,by simp⟩,⟨?_,?_,?_,?_,fun k hk _=>ho k hk⟩⟩
 ·unfold World.freeze; rw [if_neg (by omega)]; rfl
 ·unfold World.freeze; rw [if_neg (by omega)]; rfl
 ·unfold World.freeze; rw [if_neg (by omega)]; rfl
 ·have:=(Array.getElem?_eq_some_iff.1 hb).1; omega
theorem app_full {w:World} {base b l m c2:Nat} {a2:Addr} {xs ys:List UInt8} (hat:At w b 0 (u8L xs)) (hx:xs.length=l) (hr:Row w (some a2) (u8L ys)) (hm:ys.length=m) (h0:0<m) (h63:l+m<=1048576) (hb:base<=w.heap.size) :
  ∃ a' c' w',(Builtin.append_ #[88,88] 88 #[.slice (some ⟨b,0,none⟩) l l,.slice (some a2) m c2]).run Tryz.prog w=.ok (.slice a' (l+m) c') w'/\Ow Tryz.prog w' base 88 1 a' (l+m) c' (u8L (xs++ys))/\Mod No w w':=by
 obtain ⟨e,i,zv,he,hi,hsz,hz,hzc,hby⟩:=elemZ_bytes.is
 have hcell:∀ j u,(u8L ys)[j]?=some u->w.cell? (a2.add j)=some u:=by
  intro j u hj
  rcases hr with hr | ⟨b,o,e,hat⟩
  ·rw [hr] at hj; cases hj
  ·simp at e; subst e; exact hat.cell hj
 have h:=run_append_grow (P:=Tryz.prog) w 88 88 e i zv he hi hz ⟨b,0,none⟩ l l (u8L xs) (by simp [hsz,hx]) (fun j v hj=>hat.cell hj) a2 m c2 (u8L ys) (by simp [hsz,hm]) hcell (by omega) (by omega)
  (growslice_fits (by omega) (by rw [hby]; omega))
 have hge:=grownCap_ge w (l+m) l e
 have hcm:grownCap w (l+m) l e<=maxLen:=grownCap_le_maxLen w (l+m) l e (by simp [maxLen]; omega)
 refine ⟨_,_,_,h,⟨e,he,by simp [hx,hm],.inr ⟨w.heap.size,_,_,rfl,hb,heap_new (drew w) _,hge,hcm,?_,?_⟩⟩,((Mod.refl No w).drew.alloc _)⟩
 ·simp only [Array.size_append,List.size_toArray,size_zeroCells,length_u8L,hx,hm]
  rw [hzc]; simp; omega
 ·simp only [Array.toList_append,u8L_append]
  rw [List.take_append_of_le_length (by simp [hx,hm]),List.take_of_length_le (by simp [hx,hm])]
section
variable {w:World} {K:Value->World->Prop}
theorem appB {base l c m c2:Nat} {a a2:Option Addr} {xs ys:List UInt8} (h:Ow Tryz.prog w base 88 1 a l c (u8L xs)) (hr:Row w a2 (u8L ys)) (hm:ys.length=m) (h0:a2=none->m=0/\c2=0) (h63:l+m<=1048576) (hb:base<=w.heap.size) :
  ∃ a' c' w',(Builtin.append_ #[88,88] 88 #[.slice a l c,.slice a2 m c2]).run Tryz.prog w=.ok (.slice a' (l+m) c') w'/\Ow Tryz.prog w' base 88 1 a' (l+m) c' (u8L (xs++ys))/\Mod (fun x=>base<=x) w w':=by
 obtain ⟨a',c',w',h1,h2,h3⟩:=h.append (ty:=88) elemZ_bytes (by omega) hr (by simp [hm]) h0 (one_u8L ys) (by omega) (by omega) hb
 rw [<- u8L_append] at h2
 exact ⟨a',c',w',h1,h2,h3⟩
theorem rsRight_c {s:Sp} (hk:∀ w',Mod No w w'->K (.bool (sOk s)) w'):Cal Tryz.prog F_leveeref04_Right #[.agg ⟨sV s⟩] w K:=by
 apply C_leveeref04_Right
 unfold D_leveeref04_Right
 obtain ⟨w1,a1,a2,a3,a4⟩:=box_u (P:=Tryz.prog) (w:=w) (T:=232) (cs:=sV s)
 have l0:Ru (Instr.loadAt 2 (.pointer (some (Addr.add ⟨w.heap.size,0,none⟩ 0)))) w1 (.int .i64 s.gen) w1:=a2.at.fld sc_i64 rfl
 have no:¬ (1<=s.gen/\s.gen<=4611686018427387904)->false=sOk s:=fun h=>by unfold sOk; rw [decide_eq_false h]; rfl
 refine ⟨_,w1,a1,Share.dup ⟨_,l0,cond_of (fun h=>⟨_,l0,cond_of (fun h2=>⟨_,a2.at.fldA (n:=3) (vs:=gV s.geo) agg_geo (by simp [sV,gV]) rfl,rgRight_c fun w2 m2=>⟨_,rfl,_,rfl,?_⟩⟩) (fun h2=>⟨_,rfl,?_⟩)⟩) (fun h=>⟨_,rfl,?_⟩)⟩⟩
 ·have h:=of_decide_eq_true h
  have h2:=of_decide_eq_true h2
  have e:gOk s.geo=sOk s:=by unfold sOk; rw [decide_eq_true ⟨h,h2⟩]; rfl
  rw [e]; exact hk _ (a3.no m2)
 ·rw [no fun e=>of_decide_eq_false h2 e.2]; exact hk _ a3
 ·rw [no fun e=>of_decide_eq_false h e.1]; exact hk _ a3
theorem numB {base l c m:Nat} {a:Option Addr} {xs:List UInt8} {v:Int} {Q:Value->World->Prop} (h:Ow Tryz.prog w base 88 1 a l c (u8L xs)) (hv0:0<=v) (hv:v<=18446744073709551615) (h63:l+m<=1048576) (hb:base<=w.heap.size)
  (hk:∀ w5 a2 c2 a' c' w',(Builtin.append_ #[88,88] 88 #[.slice a l c,.slice a2 m c2]).run Tryz.prog w5=.ok (.slice a' (l+m) c') w'->Mod (fun x=>base<=x) w w'->Ow Tryz.prog w' base 88 1 a' (l+m) c' (u8L (xs++toLe m v.toNat))->Q (.slice a2 m c2) w5) :
  Cal Tryz.prog F_leveeref01_Bytes #[.int .u64 (IntKind.u64.wrap v),.int .i64 m] w Q:=by
 obtain ⟨k,rfl⟩:∃ k:Nat,v=k:=⟨v.toNat,by omega⟩
 rw [wrapU64 hv0 hv]
 refine Bytes_c (by omega) (by omega) fun w' a2 c2 m1 o1=>?_
 obtain ⟨a',c',w'',h1,h2,h3⟩:=appB (h.nos m1) o1.rowU.row (by simp) (fun e=>by subst e; exact o1.zero) h63 (Nat.le_trans hb m1.size)
 exact hk w' a2 c2 a' c' w'' h1 ((m1.mono fun _ _ h=>h.elim).trans h3 fun _ _ h=>h) h2
theorem numF {base l b m:Nat} {xs:List UInt8} {v:Int} {Q:Value->World->Prop} (h:At w b 0 (u8L xs)) (hx:xs.length=l) (h0:0<m) (hv0:0<=v) (hv:v<=18446744073709551615) (h63:l+m<=1048576) (hb:base<=w.heap.size)
  (hk:∀ w5 a2 c2 a' c' w',(Builtin.append_ #[88,88] 88 #[.slice (some ⟨b,0,none⟩) l l,.slice a2 m c2]).run Tryz.prog w5=.ok (.slice a' (l+m) c') w'->Mod (fun x=>base<=x) w w'->Ow Tryz.prog w' base 88 1 a' (l+m) c' (u8L (xs++toLe m v.toNat))->Q (.slice a2 m c2) w5) :
  Cal Tryz.prog F_leveeref01_Bytes #[.int .u64 (IntKind.u64.wrap v),.int .i64 m] w Q:=by
 obtain ⟨k,rfl⟩:∃ k:Nat,v=k:=⟨v.toNat,by omega⟩
 rw [wrapU64 hv0 hv]
 refine Bytes_c (by omega) (by omega) fun w' a2 c2 m1 o1=>?_
 cases a2 with
 | none=>have:=o1.zero; omega
 | some a2 =>
  obtain ⟨a',c',w'',h1,h2,h3⟩:=app_full (base:=base) (h.keep m1 id) hx o1.rowU.row (by simp) h0 h63 (Nat.le_trans hb m1.size)
  exact hk w' (some a2) c2 a' c' w'' h1 ((m1.no h3).mono fun _ _ h=>h.elim) h2
def roomTo (n:Nat) (x:List Value):Nat:=match x with | [.slice _ l _]=>n-l | _=>0
set_option maxRecDepth 4000 in
theorem rsPut_c {s:Sp} (h1:sOk s=false->∀ w',Mod No w w'->K (.tuple #[.slice none 0 0,.int .i64 1]) w')
  (h2:sOk s=true->∀ w' a c,Mod No w w'->Ow Tryz.prog w' w.heap.size 88 1 a 256 c (u8L (supB s))->K (.tuple #[.slice a 256 c,.int .i64 0]) w'):Cal Tryz.prog F_leveeref04_Put #[.agg ⟨sV s⟩] w K:=by
 apply C_leveeref04_Put
 unfold D_leveeref04_Put
 obtain ⟨w1,a1,a2,a3,a4⟩:=box_u (P:=Tryz.prog) (w:=w) (T:=232) (cs:=sV s)
 refine ⟨_,w1,a1,_,a2.at.all agg_rsup rfl,rsRight_c fun w2 m2=>⟨_,rfl,cond_of (fun h=>h1 (by simpa using h) _ (a3.no m2)) (fun h=>?_)⟩⟩
 have hs:sOk s=true:=by simpa using h
 obtain ⟨⟨hg1,hg2⟩,hgeo⟩:=sOk_iff.1 hs
 have hg:=gOk_iff.1 hgeo
 obtain ⟨w3,c1,c2,c3⟩:=conv_mark (w:=w2) (cs:=u8L sMark) (n:=4)
 refine ⟨_,_,_,_,built_smark _,_,_,_,w3,c1,?_⟩
 have nb:¬ (w1.heap.size<=w.heap.size):=by omega
 have m3:Mod (fun x=>w1.heap.size<=x) w1 w3:=(m2.no c3).mono fun _ _ h=>h.elim
 have ld:∀ (j:Nat) (v:Value) (w':World) (T:TypeId),scal Tryz.prog T=true->(sV s)[j]?=some v->Mod (fun x=>w1.heap.size<=x) w1 w'->Ru (Instr.loadAt T (.pointer (some (Addr.add ⟨w.heap.size,0,none⟩ j)))) w' v w':=fun j v w' T hT hv m=>(a2.at.keep m nb).fld hT hv
 have ld2:∀ (j:Nat) (v:Value) (w':World),(sV s)[1+j]?=some v->Mod (fun x=>w1.heap.size<=x) w1 w'->Ru (Instr.loadAt 3 (.pointer (some (Addr.add (Addr.add ⟨w.heap.size,0,none⟩ 1) j)))) w' v w':=fun j v w' hv m=>(a2.at.keep m nb).fld2 sc_int hv
 have tr:∀ {a b:World},Mod (fun x=>w1.heap.size<=x) w1 a->Mod (fun x=>w1.heap.size<=x) a b->Mod (fun x=>w1.heap.size<=x) w1 b:=fun h k=>h.trans k fun _ _ h=>h
 refine ⟨_,ld 0 (.int .i64 s.gen) w3 2 sc_i64 rfl m3,?_⟩
 refine numF (m:=8) (l:=4) (base:=w1.heap.size) c2 rfl (by omega) (by omega) (by omega) (by omega) m3.size fun w5 e2 f2 e' f' w6 p6 m6 o6=>⟨_,_,_,rfl,_,_,_,w6,p6,?_⟩
 have M6:=tr m3 m6
 refine ⟨_,ld2 0 (.int .i64 s.geo.gr) w6 rfl M6,?_⟩
 refine numB (m:=2) (l:=12) o6 (by omega) (by omega) (by omega) M6.size fun w7 e2 f2 e' f' w8 p8 m8 o8=>⟨_,_,_,rfl,_,_,_,w8,p8,?_⟩
 have M8:=tr M6 m8
 refine ⟨_,ld2 1 (.int .i64 s.geo.no) w8 rfl M8,?_⟩
 refine numB (m:=2) (l:=14) o8 (by omega) (by omega) (by omega) M8.size fun w9 e2 f2 e' f' w10 p10 m10 o10=>⟨_,_,_,rfl,_,_,_,w10,p10,?_⟩
 have M10:=tr M8 m10
 refine ⟨_,ld2 2 (.int .i64 s.geo.gs) w10 rfl M10,?_⟩
 refine numB (m:=2) (l:=16) o10 (by omega) (by omega) (by omega) M10.size fun w11 e2 f2 e3 f3 w12 p12 m12 o12=>⟨_,_,_,rfl,_,_,_,w12,p12,?_⟩
 have M12:=tr M10 m12
 have o12':Ow Tryz.prog w12 w1.heap.size 88 1 e3 18 f3 (u8L (sFront s++List.replicate 0 0)):=by
  rw [List.replicate_zero,List.append_nil]; exact o12
 refine ⟨fun x w13=>∃ (i l:Nat) (a:Option Addr) (c:Nat),i<=234/\l=18+i/\x=[.slice a l c]/\Ow Tryz.prog w13 w1.heap.size 88 1 a l c (u8L (sFront s++List.replicate i 0))/\Mod (fun x=>w1.heap.size<=x) w1 w13,
  fun x _=>roomTo 252 x,⟨0,18,_,_,by omega,rfl,rfl,o12',M12⟩,?_⟩
 rintro x w13 ⟨i,l,a,c,hi,hl,rfl,o13,M13⟩
 refine ⟨_,_,_,rfl,cond_of (fun hb=>?_) (fun hb=>?_)⟩
 ·have hb:=of_decide_eq_true hb
  obtain ⟨a',c',w',q1,q2,q3⟩:=o13.snoc (ty:=88) (t:=5) (ys:=[.int .u8 0]) elemZ_bytes (by omega) rfl (by simp; rfl) (by omega) (by omega) M13.size
  refine ⟨_,_,_,_,built1 _ _,_,_,_,w',q1,⟨i+1,l+1,a',c',by omega,by omega,rfl,?_,tr M13 q3⟩,by simp only [roomTo]; omega⟩
  have e:u8L (sFront s++List.replicate i 0)++[.int .u8 0]=u8L (sFront s++List.replicate (i+1) 0):=by
   rw [List.replicate_succ',<- List.append_assoc,u8L_append (sFront s++List.replicate i 0)]; rfl
  rw [e] at q2; exact q2
 ·have hb:=of_decide_eq_false hb
  have hi:i=234:=by omega
  have hl:l=252:=by omega
  subst hi
  subst hl
  have o13:Ow Tryz.prog w13 w1.heap.size 88 1 a 252 c (u8L (sHead s)):=o13
  refine rCrc_c (xs:=sHead s) (sHead_len s) o13.rowU.row (by omega) ⟨_,rfl,?_⟩
  have hc:=crc_lt (sHead s)
  refine numB (m:=4) (l:=252) o13 (by omega) (by omega) (by omega) M13.size fun w16 e2 f2 e3 f3 w18 p18 m18 o18=>⟨_,_,_,rfl,_,_,_,w18,p18,?_⟩
  have o18:Ow Tryz.prog w18 w1.heap.size 88 1 e3 256 f3 (u8L (supB s)):=o18
  exact h2 hs w18 e3 f3 (a3.up (tr M13 m18) (by omega)) (o18.mono (by omega))
end
end Go.Proofs.YtelhlihjihklbaaGreat
end
section
open Go Go.Den Go.Proofs
namespace Go.Proofs.YtelhlihjihklbaaGreat
section
variable {w:World} {K:Value->World->Prop}
theorem getR {a:Option Addr} {l c i m m' c':Nat} {xs:List UInt8} {Q:Value->World->Prop} (hl:xs.length=l) (hc:l<=c) (hr:Row w a (u8L xs)) (hi:i+m<=l) (hm:m<=8) (hm':m'=m) (hk:Q (.int .u64 (leN ((xs.drop i).take m):Int)) w):Cal Tryz.prog F_leveeref01_Get #[.slice (cutA a c i 1) m' c'] w Q:=by
 subst hm'
 refine refGet_c (xs:=(xs.drop i).take m') (by simp; omega) (hr.cut (by omega) (by omega)) (by omega) ?_
 rw [List.take_of_length_le (i:=8) (by simp; omega)]
 exact hk
set_option maxRecDepth 4000 in
theorem rsGet_c {a:Option Addr} {l c:Nat} {xs:List UInt8} (hl:xs.length=l) (hc:l<=c) (hr:Row w a (u8L xs)) (h63:l<=1048576)
  (hk:∀ w',Mod No w w'->K (.tuple #[.agg ⟨sV (supG xs).1⟩,.int .i64 (supG xs).2]) w'):Cal Tryz.prog F_leveeref04_Get #[.slice a l c] w K:=by
 apply C_leveeref04_Get
 unfold D_leveeref04_Get
 obtain ⟨w1,b1,b2,b3,b4⟩:=new_u (P:=Tryz.prog) (w:=w) (T:=232) zero_rsup
 have fin:∀ (w':World) (s:Sp) (e:Int),Mod No w1 w'->(s,e)=supG xs->∃ w3:World,RuU (Instr.storeAt 232 (.pointer (some ⟨w.heap.size,0,none⟩)) (.agg ⟨sV s⟩)) w' w3/\∃ gR2:Array Value,Ru (Instr.loadAt 232 (.pointer (some ⟨w.heap.size,0,none⟩))) w3 (.agg gR2) w3/\K (.tuple #[.agg gR2,.int .i64 e]) w3:=fun w' s e m he=>by
  obtain ⟨w3,c1,c2,c3,c4⟩:=(b2.keep m id).put (T:=232) (vs:=sV s) agg_rsup rfl rfl (one_sV s)
  refine ⟨w3,c1,_,c2.at.all agg_rsup rfl,?_⟩
  have:=hk w3 ((b3.no m).own c3 (Nat.le_refl _))
  rw [<- he] at this
  exact this
 refine ⟨_,w1,b1,cond_of (fun h=>⟨_,build_rsup0,?_⟩) (fun h=>?_)⟩
 ·rw [bneI] at h
  have h:=of_decide_eq_true h
  exact fin w1 sZ 4 (Mod.refl _ _) (by unfold supG; rw [if_pos (by omega)])
 rw [bneI] at h
 have hl2:xs.length=256:=by have:=of_decide_eq_false h; omega
 have hl':l=256:=by omega
 subst hl'
 have hr1:=hr.nos b3
 refine ⟨_,_,_,slice_h elemN_bytes (by omega) (by omega),_,str_run (xs:=(xs.drop 0).take 4) mix_sup (hr1.cut (by omega) (by omega)) (by simp; omega),?_⟩
 rw [List.drop_zero,sMark_sB,beq_toList]
 refine cond_of (fun h=>⟨_,build_rsup0,?_⟩) (fun h=>?_)
 ·have h:xs.take 4≠sMark:=by simpa using h
  exact fin w1 sZ 8 (Mod.refl _ _) (by unfold supG; rw [if_neg (by omega),if_pos h])
 have h4:xs.take 4=sMark:=by simpa using h
 refine ⟨_,_,_,slice_l elemN_bytes (by omega) (by omega),_,_,_,slice_h elemN_bytes (by omega) (by omega),?_⟩
 have hs4:leN ((xs.drop 252).take 4)<256 ^ 4:=leN_sub (by omega)
 have e252:(xs.drop 252).take 4=xs.drop 252:=List.take_of_length_le (by simp; omega)
 have hrd:Row (Go.Den.drew w1) a (u8L xs):=hr.nos b3.drew
 refine getR (i:=252) (m:=4) hl2 hc hrd (by omega) (by omega) rfl ⟨_,rfl,?_⟩
 refine rCrc_c (xs:=(xs.drop 0).take 252) (by simp; omega) (hrd.cut (by omega) (by omega)) (by omega) ⟨_,rfl,?_⟩
 have hc0:=crc_lt ((xs.drop 0).take 252)
 rw [wrapU64 (by omega) (by omega),e252,List.drop_zero,bneI]
 rw [List.drop_zero] at hc0
 rw [e252] at hs4
 have md:Mod No w1 (Go.Den.drew w1):=(Mod.refl No w1).drew
 refine cond_of (fun h=>⟨_,build_rsup0,?_⟩) (fun h=>?_)
 ·have h:=of_decide_eq_true h
  exact fin _ sZ 7 md (by unfold supG; rw [if_neg (by omega),if_neg (by simpa using h4),if_pos (by omega)])
 have hsum:leN (xs.drop 252)=crc (xs.take 252):=by have:=of_decide_eq_false h; omega
 have n12:leN ((xs.drop 12).take 2)<256 ^ 2:=leN_sub (by omega)
 have n14:leN ((xs.drop 14).take 2)<256 ^ 2:=leN_sub (by omega)
 have n16:leN ((xs.drop 16).take 2)<256 ^ 2:=leN_sub (by omega)
 have eR:(⟨IntKind.i64.wrap (leN ((xs.drop 4).take 8)),⟨IntKind.i64.wrap (leN ((xs.drop 12).take 2)),IntKind.i64.wrap (leN ((xs.drop 14).take 2)),IntKind.i64.wrap (leN ((xs.drop 16).take 2))⟩⟩:Sp)=readS xs:=by
  rw [wrap64 (x:=(leN ((xs.drop 12).take 2):Int)) (by omega) (by omega),wrap64 (x:=(leN ((xs.drop 14).take 2):Int)) (by omega) (by omega),wrap64 (x:=(leN ((xs.drop 16).take 2):Int)) (by omega) (by omega)]; rfl
 have tail:∀ (w11:World) (q4:Nat),Mod No w1 w11->w1.heap.size<=q4->AtU w11 q4 0 (sV sZ)->∃ w12:World,RuU (Instr.storeAt 232 (.pointer (some ⟨q4,0,none⟩)) (.agg ⟨sV ⟨IntKind.i64.wrap (leN ((xs.drop 4).take 8)),⟨IntKind.i64.wrap (leN ((xs.drop 12).take 2)),IntKind.i64.wrap (leN ((xs.drop 14).take 2)),IntKind.i64.wrap (leN ((xs.drop 16).take 2))⟩⟩⟩)) w11 w12 /\
   ∃ g44:Array Value,Ru (Instr.loadAt 232 (.pointer (some ⟨q4,0,none⟩))) w12 (.agg g44) w12/\Cal Tryz.prog F_leveeref04_Put #[.agg g44] w12 fun r45 w13=>∃ (a45a:Option Addr) (l45a c45a:Nat),∃ n45b:Int,r45=.tuple #[.slice a45a l45a c45a,.int .i64 n45b]/\(bif n45b != 0 then
    ∃ g50:Array Value,Al (Instr.build 232 #[]) (.agg g50)/\∃ w14:World,RuU (Instr.storeAt 232 (.pointer (some ⟨w.heap.size,0,none⟩)) (.agg g50)) w13 w14/\∃ gR2_4:Array Value,Ru (Instr.loadAt 232 (.pointer (some ⟨w.heap.size,0,none⟩))) w14 (.agg gR2_4) w14/\K (.tuple #[.agg gR2_4,.int .i64 1]) w14
    else
    ∃ s52:ByteArray,Ru (convert 88 9 (.slice a45a l45a c45a)) w13 (.string s52) w13/\∃ s54:ByteArray,Ru (convert 88 9 (.slice a 256 c)) w13 (.string s54) w13/\(bif !((ByteArray.toList s52)==(ByteArray.toList s54)) then
    ∃ g56:Array Value,Al (Instr.build 232 #[]) (.agg g56)/\∃ w15:World,RuU (Instr.storeAt 232 (.pointer (some ⟨w.heap.size,0,none⟩)) (.agg g56)) w13 w15/\∃ gR2_5:Array Value,Ru (Instr.loadAt 232 (.pointer (some ⟨w.heap.size,0,none⟩))) w15 (.agg gR2_5) w15/\K (.tuple #[.agg gR2_5,.int .i64 8]) w15
    else
    ∃ g57:Array Value,Ru (Instr.loadAt 232 (.pointer (some ⟨q4,0,none⟩))) w13 (.agg g57) w13/\∃ w16:World,RuU (Instr.storeAt 232 (.pointer (some ⟨w.heap.size,0,none⟩)) (.agg g57)) w13 w16/\∃ gR2_6:Array Value,Ru (Instr.loadAt 232 (.pointer (some ⟨w.heap.size,0,none⟩))) w16 (.agg gR2_6) w16/\K (.tuple #[.agg gR2_6,.int .i64 0]) w16)):=by
  intro w11 q4 m11 hq hat
  rw [eR]
  obtain ⟨w12,d1,d2,d3,d4⟩:=hat.put (T:=232) (vs:=sV (readS xs)) agg_rsup rfl rfl (one_sV _)
  have m12:Mod No w1 w12:=m11.own d3 hq
  refine ⟨w12,d1,_,d2.at.all agg_rsup rfl,rsPut_c (fun h w13 m13=>⟨_,_,_,_,rfl,tt rfl ⟨_,build_rsup0,?_⟩⟩) (fun h w13 a' c' m13 o13=>⟨_,_,_,_,rfl,ff rfl ⟨_,str_run (xs:=supB (readS xs)) mix_sup o13.rowU.row (supB_len _),_,str_run (xs:=xs) mix_sup (hr1.nos (m12.no m13)) hl2,?_⟩⟩)⟩
  ·exact fin w13 sZ 1 (m12.no m13) (by unfold supG; rw [if_neg (by omega),if_neg (by simpa using h4),if_neg (by omega),if_pos h])
  ·rw [beq_toList]
   have hb:=sup_back hl2 h4 hsum h
   refine cond_of (fun h2=>⟨_,build_rsup0,?_⟩) (fun h2=>⟨_,(d2.keep m13 id).at.all agg_rsup rfl,?_⟩)
   ·have h2:¬ supB (readS xs)=xs:=by simpa using h2
    refine fin w13 sZ 8 (m12.no m13) ?_
    unfold supG
    rw [if_neg (by omega),if_neg (by simpa using h4),if_neg (by omega),if_neg (by rw [h]; simp),if_pos]
    cases hz:((xs.drop 18).take 234).all (·==0) with
    | true=>exact absurd (hb.2 hz) h2
    | false=>rfl
   ·have h2:supB (readS xs)=xs:=by simpa using h2
    exact fin w13 (readS xs) 0 (m12.no m13) (by unfold supG; rw [if_neg (by omega),if_neg (by simpa using h4),if_neg (by omega),if_neg (by rw [h]; simp),if_neg (by rw [hb.1 h2]; simp)])
 refine ⟨_,_,_,slice_lh elemN_bytes (by omega) (by omega) (by omega),_,_,_,slice_lh elemN_bytes (by omega) (by omega) (by omega),_,_,_,slice_lh elemN_bytes (by omega) (by omega) (by omega),_,_,_,slice_lh elemN_bytes (by omega) (by omega) (by omega),?_⟩
 have g4:∀ {w':World} {Q:Value->World->Prop},Row w' a (u8L xs)->Q (.int .u64 (leN ((xs.drop 4).take 8):Int)) w'->Cal Tryz.prog F_leveeref01_Get #[.slice (cutA a c (4:Int).toNat 1) ((12:Int).toNat-(4:Int).toNat) (c-(4:Int).toNat)] w' Q:=fun hr' hq=>getR (i:=4) (m:=8) hl2 hc hr' (by omega) (by omega) rfl hq
 have g12:∀ {w':World} {Q:Value->World->Prop},Row w' a (u8L xs)->Q (.int .u64 (leN ((xs.drop 12).take 2):Int)) w'->Cal Tryz.prog F_leveeref01_Get #[.slice (cutA a c (12:Int).toNat 1) ((14:Int).toNat-(12:Int).toNat) (c-(12:Int).toNat)] w' Q:=fun hr' hq=>getR (i:=12) (m:=2) hl2 hc hr' (by omega) (by omega) rfl hq
 have g14:∀ {w':World} {Q:Value->World->Prop},Row w' a (u8L xs)->Q (.int .u64 (leN ((xs.drop 14).take 2):Int)) w'->Cal Tryz.prog F_leveeref01_Get #[.slice (cutA a c (14:Int).toNat 1) ((16:Int).toNat-(14:Int).toNat) (c-(14:Int).toNat)] w' Q:=fun hr' hq=>getR (i:=14) (m:=2) hl2 hc hr' (by omega) (by omega) rfl hq
 have g16:∀ {w':World} {Q:Value->World->Prop},Row w' a (u8L xs)->Q (.int .u64 (leN ((xs.drop 16).take 2):Int)) w'->Cal Tryz.prog F_leveeref01_Get #[.slice (cutA a c (16:Int).toNat 1) ((18:Int).toNat-(16:Int).toNat) (c-(16:Int).toNat)] w' Q:=fun hr' hq=>getR (i:=16) (m:=2) hl2 hc hr' (by omega) (by omega) rfl hq
 obtain ⟨w2,e1,e2,e3,e4⟩:=new_u (P:=Tryz.prog) (w:=Go.Den.drew (Go.Den.drew w1)) (T:=232) zero_rsup
 have hrd:Row (Go.Den.drew (Go.Den.drew w1)) a (u8L xs):=hrd.nos (Mod.refl No _).drew
 have hr2:=hrd.nos e3
 have t2:=tail w2 _ (md.drew.no e3) (Nat.le_refl _) e2
 refine ⟨g4 hrd ⟨_,rfl,g12 hrd ⟨_,rfl,g14 hrd ⟨_,rfl,g16 hrd ⟨_,rfl,_,build_geo3 _ _ _,_,build_rsup _ _,_,w2,e1,t2⟩,_,w2,e1,g16 hr2 ⟨_,rfl,_,build_geo3 _ _ _,_,build_rsup _ _,t2⟩⟩,_,w2,e1,g14 hr2 ⟨_,rfl,g16 hr2 ⟨_,rfl,_,build_geo3 _ _ _,_,build_rsup _ _,t2⟩⟩⟩,_,w2,e1,g12 hr2 ⟨_,rfl,g14 hr2 ⟨_,rfl,g16 hr2 ⟨_,rfl,_,build_geo3 _ _ _,_,build_rsup _ _,t2⟩⟩⟩⟩,_,w2,e1,g4 hr2 ⟨_,rfl,g12 hr2 ⟨_,rfl,g14 hr2 ⟨_,rfl,g16 hr2 ⟨_,rfl,_,build_geo3 _ _ _,_,build_rsup _ _,t2⟩⟩⟩⟩⟩
theorem built_two (w:World) (a a':Option Addr) (l c l' c':Nat):(Instr.buildSlice 295 2 #[(0,.slice a l c),(1,.slice a' l' c')]).run Tryz.prog w=.ok (.slice (some ⟨w.heap.size,0,none⟩) 2 2) (w.alloc (.cells ⟨[.slice a l c,.slice a' l' c']⟩ 88)):=by kernel_rfl
set_option maxRecDepth 4000 in
theorem rsChoose_c {a1 a2:Option Addr} {l1 l2 c1 c2:Nat} {xs ys:List UInt8} {n:Int} (hl1:xs.length=l1) (hc1:l1<=c1) (hr1:Row w a1 (u8L xs)) (h631:l1<=1048576) (hl2:ys.length=l2) (hc2:l2<=c2) (hr2:Row w a2 (u8L ys)) (h632:l2<=1048576)
  (hk:∀ w',Mod No w w'->K (.tuple #[.agg ⟨sV (supChoose xs ys n).1⟩,.int .i64 (supChoose xs ys n).2.1,.int .i64 (supChoose xs ys n).2.2]) w'):Cal Tryz.prog F_leveeref04_Choose #[.slice a1 l1 c1,.slice a2 l2 c2,.int .i64 n] w K:=by
 apply C_leveeref04_Choose
 unfold D_leveeref04_Choose
 obtain ⟨w1,x1,x2,x3,x4⟩:=new_u (P:=Tryz.prog) (w:=w) (T:=232) zero_rsup
 obtain ⟨w2,hw2⟩:∃ w2,w2=w1.alloc (.cells ⟨[.slice a1 l1 c1,.slice a2 l2 c2]⟩ 88):=⟨_,rfl⟩
 have r2:AtU w2 w1.heap.size 0 [.slice a1 l1 c1,.slice a2 l2 c2]:=by rw [hw2]; exact AtU.new
 have m2:Mod No w1 w2:=by rw [hw2]; exact (Mod.refl No w1).alloc _
 have s2:w2.heap.size=w1.heap.size+1:=by rw [hw2]; exact World.size_alloc _ _
 have hbt:=built_two w1 a1 a2 l1 c1 l2 c2
 rw [<- hw2] at hbt
 obtain ⟨w3,y1,y2,y3,y4⟩:=new_u (P:=Tryz.prog) (w:=w2) (T:=232) zero_rsup
 refine ⟨_,w1,x1,_,_,_,w2,hbt,_,w3,y1,?_⟩
 have eN:elemN Tryz.prog 295=some 1:=by kernel_rfl
 have round:∀ (i:Nat) (a:Option Addr) (l c:Nat) (xs:List UInt8) (b:Sp) (pl:Value) (w4:World) (R:List Value->World->Prop),i<2->xs.length=l->l<=c->Row w a (u8L xs)->l<=1048576->0<=b.gen->AtU w4 w2.heap.size 0 (sV b)->Mod No w2 w4 ->
   (∀ w' p y,AtU w' w2.heap.size 0 (sV (supPick i xs n b))->Mod No w2 w'->(p=.int .i64 (i:Int)/\sOk (supPick i xs n b)=true/\(supPick i xs n b).gen % 2=i\/p=pl/\supPick i xs n b=b)->R [p,.int .i64 ((i+1:Nat):Int),y] w')->Cal Tryz.prog F_leveeref04_Get #[.slice a l c] w4 fun r27 w5=>∃ g27a:Array Value,∃ n27b:Int,r27=.tuple #[.agg g27a,.int .i64 n27b]/\∃ q13:Addr,∃ w6:World,Ru (Instr.alloc 232 true (.tuple #[])) w5 (.pointer (some q13)) w6/\∃ w7:World,RuU (Instr.storeAt 232 (.pointer (some q13)) (.agg g27a)) w6 w7/\Share (fun k_2=>(bif n27b==0 then ∃ n34:Int,Ru (Instr.loadAt 2 (.pointer (some (Addr.add q13 0)))) w7 (.int .i64 n34) w7/\(bif (Int.tmod n34 2)==(i:Int) then ∃ g41:Array Value,Ru (Instr.loadAt 40 (.pointer (some (Addr.add q13 1)))) w7 (.agg g41) w7/\Cal Tryz.prog F_leveeref03_Size #[.agg g41] w7 fun r42 w8=>∃ n42:Int,r42=.int .i64 n42/\(bif decide (n42<=n) then ∃ n48:Int,Ru (Instr.loadAt 2 (.pointer (some (Addr.add q13 0)))) w8 (.int .i64 n48) w8/\∃ n50:Int,Ru (Instr.loadAt 2 (.pointer (some (Addr.add ⟨w2.heap.size,0,none⟩ 0)))) w8 (.int .i64 n50) w8/\k_2 [.bool (decide (n48 > n50))] w8 else k_2 [.bool false] w8) else k_2 [.bool false] w7) else k_2 [.bool false] w7)) fun x_2 w9 =>
     ∃ b52:Bool,nth x_2 0=.bool b52/\Share (fun k_3=>(bif b52 then
      ∃ g53:Array Value,Ru (Instr.loadAt 232 (.pointer (some q13))) w9 (.agg g53) w9/\∃ w10:World,RuU (Instr.storeAt 232 (.pointer (some ⟨w2.heap.size,0,none⟩)) (.agg g53)) w9 w10/\k_3 [.int .i64 (i:Int)] w10
      else k_3 [pl] w9)) fun x_3 w11=>R [nth x_3 0,.int .i64 (IntKind.i64.wrap ((i:Int)+1)),.bool b52] w11:=by
  intro i a l c xs b pl w4 R hi hl hc hr h63 hb hat m4 hend
  have M4:=x3.no (m2.no m4)
  refine rsGet_c (xs:=xs) hl hc (hr.nos M4) h63 fun w5 m5=>⟨_,_,rfl,?_⟩
  obtain ⟨w6,d1,d2,d3,d4⟩:=new_u (P:=Tryz.prog) (w:=w5) (T:=232) zero_rsup
  obtain ⟨w7,e1,e2,e3,e4⟩:=d2.put (T:=232) (vs:=sV (supG xs).1) agg_rsup rfl rfl (one_sV _)
  have m47:Mod No w4 w7:=m5.no (d3.own e3 (Nat.le_refl _))
  have hb7:=hat.keep m47 id
  refine ⟨_,w6,d1,w7,e1,Share.cut (fun z w10=>Mod No w7 w10/\z=[.bool (decide ((supG xs).2=0/\(supG xs).1.gen % 2=(i:Int)/\gSize (supG xs).1.geo<=n/\(supG xs).1.gen > b.gen))]) ?_ ?_⟩
  ·have no:∀ {p:Prop} [Decidable p],¬ p->[Value.bool false]=[.bool (decide p)]:=fun h=>by rw [decide_eq_false h]
   rw [beqI]
   refine cond_of (fun h=>⟨_,e2.at.fld sc_i64 rfl,?_⟩) (fun h=>⟨Mod.refl _ _,no fun e=>of_decide_eq_false h e.1⟩)
   have h:=of_decide_eq_true h
   have hok:=(supG_ok h).1
   have hg:=(sOk_iff.1 hok).1.1
   rw [beqI,Int.tmod_eq_emod_of_nonneg (by omega)]
   refine cond_of (fun h2=>⟨_,e2.at.fldA (n:=3) (vs:=gV (supG xs).1.geo) agg_geo (by simp [sV,gV]) rfl,rgSize_c fun w8 m8=>⟨_,rfl,?_⟩⟩) (fun h2=>⟨Mod.refl _ _,no fun e=>of_decide_eq_false h2 e.2.1⟩)
   have h2:=of_decide_eq_true h2
   refine cond_of (fun h3=>⟨_,(e2.keep m8 id).at.fld sc_i64 rfl,_,(hb7.keep m8 id).at.fld sc_i64 rfl,m8,?_⟩) (fun h3=>⟨m8,no fun e=>of_decide_eq_false h3 e.2.2.1⟩)
   have h3:=of_decide_eq_true h3
   by_cases h4:(supG xs).1.gen > b.gen
   ·rw [decide_eq_true h4,decide_eq_true (show _/\_/\_/\_ from ⟨h,h2,h3,h4⟩)]
   ·rw [decide_eq_false h4]; exact no fun e=>h4 e.2.2.2
  rintro z w10 ⟨m10,rfl⟩
  have M10:Mod No w2 w10:=m4.no (m47.no m10)
  rw [wrap64 (x:=(i:Int)+1) (by omega) (by omega)]
  refine ⟨_,rfl,Share.dup (cond_of (fun h=>⟨_,(e2.keep m10 id).at.all agg_rsup rfl,?_⟩) (fun h=>?_))⟩
  ·have h:=of_decide_eq_true h
   obtain ⟨w11,f1,f2,f3,f4⟩:=((hb7.keep m10 id)).put (T:=232) (vs:=sV (supG xs).1) agg_rsup rfl rfl (one_sV _)
   have e:supPick i xs n b=(supG xs).1:=by unfold supPick; rw [if_pos h]
   refine ⟨w11,f1,?_⟩
   have:=hend w11 (.int .i64 (i:Int)) (.bool true) (by rw [e]; exact f2) (M10.own f3 (Nat.le_refl _)) (.inl ⟨rfl,by rw [e]; exact (supG_ok h.1).1,by rw [e]; exact h.2.1⟩)
   rwa [decide_eq_true h]
  ·have h:=of_decide_eq_false h
   have e:supPick i xs n b=b:=by unfold supPick; rw [if_neg h]
   have:=hend w10 pl (.bool false) (by rw [e]; exact hb7.keep m10 id) M10 (.inr ⟨rfl,e⟩)
   rwa [decide_eq_false h]
 obtain ⟨I,hI⟩:∃ I:List Value->World->Prop,I=fun x w4=>∃ (i:Nat) (p:Int) (y:Value),i<=2/\x=[.int .i64 p,.int .i64 i,y]/\AtU w4 w2.heap.size 0 (sV (bestTo xs ys n i))/\Mod No w2 w4/\(p=-1/\bestTo xs ys n i=sZ\/0<=p/\sOk (bestTo xs ys n i)=true/\(bestTo xs ys n i).gen % 2=p):=⟨_,rfl⟩
 refine ⟨I,fun x _=>(2-nI x 1).toNat,by rw [hI]; exact ⟨0,-1,_,by omega,rfl,y2,y3,.inl ⟨rfl,rfl⟩⟩,?_⟩
 intro x w4 hx
 have hx':=hx
 rw [hI] at hx'
 obtain ⟨i,p,y,hi,rfl,hat,m4,hp⟩:=hx'
 refine ⟨_,rfl,cond_of (fun h=>?_) (fun h=>?_)⟩
 ·have h:=of_decide_eq_true h
  have hsl:=r2.keep m4 id
  refine ⟨_,index_slice eN (by omega) (by omega) ,?_⟩
  rcases (by omega:i=0\/i=1) with rfl | rfl
  ·refine ⟨_,_,_,hsl.at.fld sc_bytes rfl,round 0 a1 l1 c1 xs sZ _ w4 (fun x' w'=>I x' w'/\(2-nI x' 1).toNat<(2-nI [.int .i64 p,.int .i64 ((0:Nat):Int),y] 1).toNat) (by omega) hl1 hc1 hr1 h631 (by decide) hat m4 fun w' p' y' f1 f2 f3=>⟨?_,by simp [nI,nth]⟩⟩
   rw [hI]
   rcases f3 with ⟨rfl,f4,f5⟩ | ⟨rfl,f4⟩
   ·exact ⟨1,0,y',by omega,rfl,f1,f2,.inr ⟨by omega,f4,f5⟩⟩
   ·refine ⟨1,p,y',by omega,rfl,f1,f2,?_⟩
    have e:bestTo xs ys n 1=sZ:=f4
    rw [e]
    exact hp
  ·refine ⟨_,_,_,hsl.at.fld sc_bytes rfl,round 1 a2 l2 c2 ys (supPick 0 xs n sZ) _ w4 (fun x' w'=>I x' w'/\(2-nI x' 1).toNat<(2-nI [.int .i64 p,.int .i64 ((1:Nat):Int),y] 1).toNat) (by omega) hl2 hc2 hr2 h632 (pick_gen (by decide)) hat m4 fun w' p' y' f1 f2 f3=>⟨?_,by simp [nI,nth]⟩⟩
   rw [hI]
   rcases f3 with ⟨rfl,f4,f5⟩ | ⟨rfl,f4⟩
   ·exact ⟨2,1,y',by omega,rfl,f1,f2,.inr ⟨by omega,f4,f5⟩⟩
   ·refine ⟨2,p,y',by omega,rfl,f1,f2,?_⟩
    have e:bestTo xs ys n 2=bestTo xs ys n 1:=f4
    rw [e]
    exact hp
 ·have h:=of_decide_eq_false h
  have hi2:i=2:=by omega
  subst hi2
  have hat:AtU w4 w2.heap.size 0 (sV (supBest xs ys n)):=hat
  have hp:p=-1/\supBest xs ys n=sZ\/0<=p/\sOk (supBest xs ys n)=true/\(supBest xs ys n).gen % 2=p:=hp
  have M4:Mod No w1 w4:=m2.no m4
  have q6:=x2.keep M4 id
  refine ⟨_,rfl,cond_of (fun h=>⟨_,build_rsup0,?_⟩) (fun h=>⟨_,hat.at.all agg_rsup rfl,?_⟩)⟩
  ·have h:=of_decide_eq_true h
   have hz:supBest xs ys n=sZ:=by rcases hp with h1 | h1; exact h1.2; omega
   obtain ⟨w15,f1,f2,f3,f4⟩:=q6.put (T:=232) (vs:=sV sZ) agg_rsup rfl rfl (one_sV _)
   refine ⟨w15,f1,_,f2.at.all agg_rsup rfl,?_⟩
   have hr:=hk w15 ((x3.no M4).own f3 (Nat.le_refl _))
   unfold supChoose at hr
   rw [if_pos hz] at hr
   exact hr
  ·have h:=of_decide_eq_false h
   obtain ⟨h1,h2,h3⟩:0<=p/\sOk (supBest xs ys n)=true/\(supBest xs ys n).gen % 2=p:=by rcases hp with h1 | h1; omega; exact h1
   have hz:supBest xs ys n≠sZ:=fun e=>by rw [e] at h2; cases h2
   obtain ⟨w15,f1,f2,f3,f4⟩:=q6.put (T:=232) (vs:=sV (supBest xs ys n)) agg_rsup rfl rfl (one_sV _)
   refine ⟨w15,f1,_,f2.at.all agg_rsup rfl,?_⟩
   have hr:=hk w15 ((x3.no M4).own f3 (Nat.le_refl _))
   unfold supChoose at hr
   rw [if_neg hz,h3] at hr
   exact hr
end
end Go.Proofs.YtelhlihjihklbaaGreat
end
section
open Go Go.Den Go.Proofs
namespace Go.Den
section
variable {P:Program} {w:World}
def elemG (P:Program) (T:TypeId) (k bytes:Nat):Prop:=∃ e i zv,P.underlying T=some (.slice e)/\P.info? e=some i/\i.size=k/\i.zero=some zv/\zv.cells.size=k/\i.bytes=bytes
def elemGb (P:Program) (T:TypeId):Option (Nat×Nat×Nat) :=
 match P.underlying T with
 | some (.slice e)=>match P.info? e with
  | some i=>match i.zero with
   | some z=>some (i.size,z.cells.size,i.bytes)
   | none=>none
  | none=>none
 | _=>none
theorem elemG_of {T:TypeId} {k bytes:Nat} (h:elemGb P T=some (k,k,bytes)):elemG P T k bytes:=by
 unfold elemGb at h
 split at h
 ·rename_i e he
  split at h
  ·rename_i i hi
   split at h
   ·rename_i zv hz
    have h:=Option.some.inj h
    simp only [Prod.mk.injEq] at h
    exact ⟨e,i,zv,he,hi,h.1,hz,h.2.1,h.2.2⟩
   ·cases h
  ·cases h
 ·cases h
theorem Ow.nilG {base k bytes:Nat} {T:TypeId} (hT:elemG P T k bytes):Ow P w base T k none 0 0 []:=by
 obtain ⟨e,i,zv,he,_⟩:=hT
 exact ⟨e,he,World.ownsRow_nil w base e k⟩
theorem Ow.appG {base k bytes l c m c2:Nat} {T ty:TypeId} {a:Option Addr} {ad:Addr} {xs ys:List Value} (hT:elemG P T k bytes) (hk:0<k) (h:Ow P w base T k a l c xs)
  (hr:Row w (some ad) ys) (hl:ys.length=m*k) (hm:0<m) (h1:∀ v∈ys,v.oneCell'=true) (h63:(l+m)*bytes<=140737488355328) (hb:0<bytes) (hbase:base<=w.heap.size) :
  ∃ q c' w',(Builtin.append_ #[T,T] ty #[.slice a l c,.slice (some ad) m c2]).run P w=.ok (.slice (some q) (l+m) c') w'/\Ow P w' base T k (some q) (l+m) c' (xs++ys)/\Mod (fun x=>∃ q,a=some q/\x=q.block) w w' /\
   ((∃ q',a=some q'/\q.block=q'.block)\/w.heap.size<=q.block):=by
 obtain ⟨e,i,zv,he,hi,hsz,hz,hzc,hby⟩:=hT
 obtain ⟨e',he',how⟩:=h
 have:e'=e:=by rw [he] at he'; simpa using he'.symm
 subst this
 have hlm:l+m<=(l+m)*bytes:=Nat.le_mul_of_pos_right _ hb
 have hmb:m*bytes<=(l+m)*bytes:=Nat.mul_le_mul_right _ (by omega)
 have hcell:∀ j u,ys[j]?=some u->w.cell? (ad.add j)=some u:=by
  intro j u hj
  rcases hr with hr | ⟨b,o,e,hat⟩
  ·subst hr; simp at hj
  ·simp at e; subst e; exact hat.cell hj
 obtain ⟨v',w',hrun,how',hgr,_⟩:=run_append_own w base T ty e' i zv k bytes he hi hz hsz hby hzc hk (.slice a l c) l xs how ad m c2 ys hl hcell h1 (by simp [maxLen]; omega) h63 hbase
 have hmod:Mod (fun x=>∃ q,a=some q/\x=q.block) w w':=(Mod.grown hgr).mono fun x hx e=>by
  cases a with
  | none=>cases e
  | some q=>exact ⟨q,rfl,by simpa [Value.ownBlock] using e.symm⟩
 rcases how.2 with ⟨hv,hx⟩ | ⟨g,cap,cur,hv,hbg,hg,hnc,hcm,hcs,htake⟩
 ·simp at hv
  obtain ⟨rfl,rfl,rfl⟩:=hv
  have hr2:=run_append_nil (P:=P) w T ty e' i zv he hi hz ad m c2 ys (by rw [hsz]; exact hl) hcell hm (by omega) (by rw [hby]; omega)
  have hrun':=hrun
  rw [hr2] at hrun'
  simp only [Result.ok.injEq] at hrun'
  obtain ⟨rfl,_⟩:=hrun'
  rw [Nat.zero_add] at how' |-
  exact ⟨_,_,w',hrun,⟨e',he,how'⟩,hmod,.inr (Nat.le_refl _)⟩
 ·simp at hv
  obtain ⟨rfl,rfl⟩:=hv
  by_cases hroom:l+m<=c
  ·have hr2:=run_append_room (P:=P) w T ty e' i he hi g l c cur hg ad m c2 ys (by rw [hsz]; exact hl) hcell h1 hroom (by rw [hsz,hl,hcs,<- Nat.add_mul]; exact Nat.mul_le_mul_right _ hroom)
   have hrun':=hrun
   rw [hr2] at hrun'
   simp only [Result.ok.injEq] at hrun'
   obtain ⟨rfl,_⟩:=hrun'
   exact ⟨_,_,w',hrun,⟨e',he,how'⟩,hmod,.inl ⟨_,rfl,rfl⟩⟩
  ·have holds:∀ j u,xs[j]?=some u->w.cell? ((⟨g,0,none⟩:Addr).add j)=some u:=how.cells (g:=g) rfl
   have hr2:=run_append_grow (P:=P) w T ty e' i zv he hi hz ⟨g,0,none⟩ l c xs (by rw [hsz]; exact how.1) holds ad m c2 ys (by rw [hsz]; exact hl) hcell (by omega) (by omega) (growslice_fits (by omega) (by rw [hby]; exact h63))
   have hrun':=hrun
   rw [hr2] at hrun'
   simp only [Result.ok.injEq] at hrun'
   obtain ⟨rfl,_⟩:=hrun'
   exact ⟨_,_,w',hrun,⟨e',he,how'⟩,hmod,.inr (Nat.le_refl _)⟩
theorem Ow.setK {base k l c g i:Nat} {T T':TypeId} {ys:List Value} {v:Value} (h:Ow P w base T k (some ⟨g,0,none⟩) l c ys) (hT:scal P T'=true) (hi:i<l*k) (hv:v.oneCell'=true) :
  ∃ w',(Instr.storeAt T' (.pointer (some ⟨g,i,none⟩)) v).run P w=.ok () w'/\Ow P w' base T k (some ⟨g,0,none⟩) l c (ys.set i v)/\Mod (fun x=>x=g) w w':=by
 have hlen:=h.len
 obtain ⟨e,he,h1,h2⟩:=h
 rcases h2 with ⟨hn,_⟩ | ⟨g',cap,cur,hw,hb,hg,hle,hm,hsz,ht⟩
 ·cases hn
 ·simp at hw
  obtain ⟨rfl,rfl⟩:=hw
  have hcur:w.heap[g]?=some (.cells ⟨cur.toList⟩ e (0,0)):=hg
  have hmul:l*k<=c*k:=Nat.mul_le_mul_right _ hle
  have hci:i<cur.toList.length:=by simp [hsz]; omega
  refine ⟨_,store_cell hT hcur hci (by simp) hv,⟨e,he,by simpa using h1,.inr ⟨g,c,⟨cur.toList.set i v⟩,rfl,hb,heap_put_same (lt_of_heap hg),hle,hm,by simp [hsz],?_⟩⟩,(Mod.refl (fun x=>x=g) w).put (.inr rfl) _⟩
  show (cur.toList.set i v).take (l*k)=ys.set i v
  rw [List.take_set,ht]
end
end Go.Den
end
section
open Go Go.Den Go.Proofs
namespace Go.Den
theorem xor_or {a k:Nat} (h:a.testBit k=false):a ^^^ 2 ^ k=a ||| 2 ^ k:=by
 apply Nat.eq_of_testBit_eq
 intro i
 rw [Nat.testBit_xor,Nat.testBit_or,Nat.testBit_two_pow]
 by_cases hi:k=i
 ·subst hi; rw [h]; simp
 ·rw [decide_eq_false hi]; simp
theorem setB_same {xs:List UInt8} {i:Nat} (hi:i<8*xs.length) (h:bitB xs i=true):setB xs i=xs:=by
 unfold setB
 have h8:i / 8<xs.length:=by omega
 apply List.ext_getElem?
 intro j
 by_cases hj:i / 8=j
 ·subst hj
  rw [List.getElem?_set_self h8,List.getElem?_eq_getElem h8]
  congr 1
  apply UInt8.toNat_inj.1
  rw [setB_byte]
  unfold bitB at h
  rw [List.getD_eq_getElem?_getD,List.getElem?_eq_getElem h8] at h |-
  apply Nat.eq_of_testBit_eq
  intro k
  rw [Nat.testBit_or,Nat.testBit_two_pow]
  by_cases hk:i % 8=k
  ·subst hk
   have h:xs[i / 8].toNat.testBit (i % 8)=true:=h
   show (xs[i / 8].toNat.testBit (i % 8) || _)=_
   rw [h]; rfl
  ·rw [decide_eq_false hk,Bool.or_false]; rfl
 ·rw [List.getElem?_set_ne hj]
def rV6 (no:Int) (a:Option Addr) (c:Nat) (a':Option Addr) (c':Nat):List Value:=[.int .i64 no,.slice a 16 c,.slice a' 8 c']
theorem one_rV6 (no:Int) (a:Option Addr) (c:Nat) (a':Option Addr) (c':Nat):∀ v∈rV6 no a c a' c',v.oneCell'=true:=by
 intro v hv
 simp only [rV6,List.mem_cons,List.not_mem_nil,or_false] at hv
 rcases hv with rfl | rfl | rfl <;> rfl
end Go.Den
namespace Go.Proofs.YtelhlihjihklbaaGreat
theorem agg_rhead:aggN Tryz.prog 183=some 3:=by kernel_rfl
section
variable {w:World} {K:Value->World->Prop}
theorem rbSet_c {a:Option Addr} {l c i:Nat} {xs:List UInt8} (hl:xs.length=l) (hr:Row w a (u8L xs)) (h0:a=none->l=0/\c=0) (h63:l<=1048576) (hi:i<8*l)
  (hk:∀ w' a' c',Mod No w w'->Ow Tryz.prog w' w.heap.size 88 1 a' l c' (u8L (setB xs i))->K (.tuple #[.slice a' l c',.int .i64 0]) w'):Cal Tryz.prog F_leveeref05_Set #[.slice a l c,.int .i64 i,.bool true] w K:=by
 apply C_leveeref05_Set
 unfold D_leveeref05_Set
 have hi8:i / 8<xs.length:=by omega
 have d1:IntKind.i64.wrap (Int.tdiv (i:Int) 8)=((i / 8:Nat):Int):=by rw [Int.tdiv_eq_ediv_of_nonneg (by omega),wrap64 (by omega) (by omega)]; omega
 have d2:IntKind.u64.wrap (Int.tmod (i:Int) 8)=((i % 8:Nat):Int):=by rw [Int.tmod_eq_emod_of_nonneg (by omega),wrapU64 (by omega) (by omega)]; omega
 rw [d1,d2]
 refine Share.dup (ff (decide_eq_false (by omega)) ⟨_,rfl,ff (decide_eq_false (by omega)) ?_⟩)
 obtain ⟨a',c',w2,p1,p2,p3⟩:=(Ow.nil (P:=Tryz.prog) (w:=w) (base:=w.heap.size) elemZ_bytes).append (ty:=88) (m:=l) (c2:=c) elemZ_bytes (by omega) hr (by simp [hl]) h0 (one_u8L xs) (by omega) (by omega) (Nat.le_refl _)
 rw [Nat.zero_add,List.nil_append] at *
 have M2:Mod No w w2:=(Mod.refl No w).up p3 (Nat.le_refl _)
 refine ⟨_,_,_,w2,p1,rbGet_c (xs:=xs) hl (hr.nos M2) h63 (by omega) ⟨_,rfl,?_⟩⟩
 have hlt:0<l:=by omega
 obtain ⟨g,rfl,hg,hat⟩:=p2.sm hlt
 refine Share.cut (fun z w5=>Ow Tryz.prog w5 w.heap.size 88 1 (some ⟨g,0,none⟩) l c' (u8L (setB xs i))/\Mod No w w5) (cond_of (fun hb=>?_) (fun hb=>?_)) ?_
 ·have hb:bitB xs i=false:=by cases hx:bitB xs i with | false=>rfl | true=>rw [hx] at hb; cases hb
  refine ⟨_,index_slice elemN_bytes (by omega) (by omega),(xs[i / 8].toNat:Int),?_,_,shl8 (by omega),_,index_slice elemN_bytes (by omega) (by omega),?_⟩
  ·rw [add_none,show ((i / 8:Nat):Int).toNat*1=i / 8 by omega]; exact hat.at.load sc_u8 (u8L_get hi8)
  rw [one_shl (Nat.mod_lt _ (by omega)),xor_nat8 (xs[i / 8].toNat_lt) (pow8 (Nat.mod_lt _ (by omega))),add_none,show ((i / 8:Nat):Int).toNat*1=i / 8 by omega]
  have hbit:xs[i / 8].toNat.testBit (i % 8)=false:=by
   unfold bitB at hb
   rw [List.getD_eq_getElem?_getD,List.getElem?_eq_getElem hi8] at hb
   exact hb
  rw [xor_or hbit]
  obtain ⟨w4,r1,r2,r3⟩:=Ow.setK (v:=.int .u8 ((xs[i / 8].toNat ||| 2 ^ (i % 8):Nat):Int)) p2 sc_u8 (i:=i / 8) (by omega) rfl
  refine ⟨w4,?_,?_,?_⟩
  ·simpa using r1
  ·have e:(u8L xs).set (i / 8) (.int .u8 ((xs[i / 8].toNat ||| 2 ^ (i % 8):Nat):Int))=u8L (setB xs i):=by
    rw [u8L_set _ _ _ (Nat.or_lt_two_pow (n:=8) (xs[i / 8].toNat_lt) (pow8 (Nat.mod_lt _ (by omega))))]
    unfold setB
    rw [List.getD_eq_getElem?_getD,List.getElem?_eq_getElem hi8]; rfl
   rw [<- e]; exact r2
  ·exact M2.own r3 hg
 ·have hb:bitB xs i=true:=by cases hx:bitB xs i with | true=>rfl | false=>rw [hx] at hb; cases hb
  rw [setB_same (by omega) hb]
  exact ⟨p2,M2⟩
 ·rintro z w5 ⟨h5,m5⟩
  exact hk w5 _ _ m5 h5
end
end Go.Proofs.YtelhlihjihklbaaGreat
end
section
open Go Go.Den Go.Proofs
namespace Go.Den
def clrB (xs:List UInt8) (i:Nat):List UInt8:=xs.set (i / 8) (UInt8.ofNat ((xs.getD (i / 8) 0).toNat &&& (255-2 ^ (i % 8))))
theorem clrB_len (xs:List UInt8) (i:Nat):(clrB xs i).length=xs.length:=by simp [clrB]
theorem clrB_byte (xs:List UInt8) (i:Nat):(UInt8.ofNat ((xs.getD (i / 8) 0).toNat &&& (255-2 ^ (i % 8)))).toNat=(xs.getD (i / 8) 0).toNat &&& (255-2 ^ (i % 8)):=by
 have h:=getD_lt (xs:=xs) (k:=i / 8)
 have:(xs.getD (i / 8) 0).toNat &&& (255-2 ^ (i % 8))<=(xs.getD (i / 8) 0).toNat:=Nat.and_le_left
 rw [UInt8.toNat_ofNat']; omega
theorem bitB_clrB {xs:List UInt8} {i j:Nat} (hi:i<8*xs.length):bitB (clrB xs i) j=(bitB xs j&&!decide (i=j)):=by
 unfold bitB clrB
 by_cases hj:i / 8=j / 8
 ·rw [<- hj,List.getD_eq_getElem?_getD,List.getElem?_set_self (by omega)]
  show (UInt8.ofNat _).toNat.testBit _=_
  rw [clrB_byte,Nat.testBit_and]
  congr 1
  have hp:=p8 (k:=i)
  have e:255-2 ^ (i % 8)=2 ^ 8-(2 ^ (i % 8)+1):=by omega
  rw [e,Nat.testBit_two_pow_sub_succ (by omega),Nat.testBit_two_pow]
  have h8:j % 8<8:=by omega
  rw [decide_eq_true h8,Bool.true_and]
  congr 1
  exact decide_eq_decide.2 ⟨fun h=>by omega,fun h=>by rw [h]⟩
 ·rw [List.getD_eq_getElem?_getD,List.getElem?_set_ne hj,<- List.getD_eq_getElem?_getD,decide_eq_false (fun h=>hj (by rw [h]))]
  simp
def putB (xs:List UInt8) (i:Nat) (on:Bool):List UInt8:=if on=true then setB (clrB xs i) i else clrB xs i
theorem putB_len (xs:List UInt8) (i:Nat) (on:Bool):(putB xs i on).length=xs.length:=by
 unfold putB; split <;> simp [setB_len,clrB_len]
theorem bitB_putB {xs:List UInt8} {i j:Nat} {on:Bool} (hi:i<8*xs.length):bitB (putB xs i on) j=if i=j then on else bitB xs j:=by
 unfold putB
 cases on
 ·rw [if_neg (by simp),bitB_clrB hi]
  by_cases h:i=j
  ·rw [if_pos h,decide_eq_true h]; simp
  ·rw [if_neg h,decide_eq_false h]; simp
 ·rw [if_pos rfl,bitB_setB (by rw [clrB_len]; exact hi),bitB_clrB hi]
  by_cases h:i=j
  ·rw [if_pos h,decide_eq_true h]; simp
  ·rw [if_neg h,decide_eq_false h]; simp
def clearB (xs:List UInt8) (i:Nat):Bool:=!bitB xs i
def fromB (n f:Int):Int:=if f<0\/n<f then 0 else f
def upB (xs:List UInt8) (n:Int):Nat:=(min (max n 0) (8*xs.length)).toNat
def firstB (xs:List UInt8) (n f:Int):Int :=
 match (List.range (upB xs n)).find? (fun i=>clearB xs i&&decide (fromB n f<=i)) with
 | some i=>i
 | none=>match (List.range (upB xs n)).find? (clearB xs) with
  | some i=>i
  | none=>-1
theorem find_range_succ (p:Nat->Bool) (n:Nat):(List.range (n+1)).find? p=match (List.range n).find? p with | some i=>some i | none=>if p n=true then some n else none:=by
 rw [List.range_succ,List.find?_append]
 cases h:(List.range n).find? p with
 | some i=>rfl
 | none=>simp only [Option.none_or,List.find?_cons,List.find?_nil]; cases p n <;> rfl
theorem find_range_mono {p : Nat → Bool} {m n i : Nat} (h : (List.range m).find? p = some i) (hm : m ≤ n) : (List.range n).find? p = some i := by
  induction n with
  | zero => have : m = 0 := by omega
            subst this; exact h
  | succ n ih =>
    by_cases e : m = n + 1
    · rw [← e]; exact h
    · rw [find_range_succ, ih (by omega)]
theorem find_range_some {p:Nat->Bool} {n i:Nat} (h:(List.range n).find? p=some i):p i=true/\i<n :=
 ⟨List.find?_some h,List.mem_range.1 (List.mem_of_find?_eq_some h)⟩
theorem firstB_some {xs:List UInt8} {n f:Int} (h:0<=firstB xs n f):∃ i:Nat,firstB xs n f=i/\bitB xs i=false/\(i:Int)<n/\i<8*xs.length:=by
 unfold firstB at h |-
 have up:∀ i,i<upB xs n->(i:Int)<n/\i<8*xs.length:=fun i hi=>by unfold upB at hi; omega
 split at h
 ·rename_i i hi
  obtain ⟨h1,h2⟩:=find_range_some hi
  refine ⟨i,rfl,?_,up i h2⟩
  simp only [clearB,Bool.and_eq_true,Bool.not_eq_true'] at h1
  exact h1.1
 ·rename_i h0
  rw [h0] at *
  split at h
  ·rename_i i hi
   obtain ⟨h1,h2⟩:=find_range_some hi
   refine ⟨i,rfl,?_,up i h2⟩
   simpa [clearB] using h1
  ·omega
end Go.Den
end
section
open Go Go.Den Go.Proofs
namespace Go.Den
def hC1 (g:Gm) (h:Hd) (i:Nat):Bool:=(!decide ((i:Int)<1+g.no / 4) || bitB h.bs i)&&(!decide (g.gr<=(i:Int)) || !bitB h.bs i)
def hC2 (g:Gm) (h:Hd) (i:Nat):Bool:=(!decide (g.no<=(i:Int)) || !bitB h.ss i)&&(!decide (h.no=0/\i<2) || bitB h.ss i)
theorem hOk_c (g:Gm) (h:Hd):hOk g h=(gOk g&&decide (0<=h.no/\h.no<g.gs)&&(List.range 128).all (hC1 g h)&&(List.range 64).all (hC2 g h)):=rfl
theorem all_to (f:Nat->Bool) (i:Nat):(List.range (i+1)).all f=((List.range i).all f&&f i):=by
 rw [List.range_succ,List.all_append]; simp
end Go.Den
namespace Go.Proofs.YtelhlihjihklbaaGreat
section
variable {w:World} {K:Value->World->Prop}
set_option maxRecDepth 4000 in
theorem rhRight_c {g:Gm} {h:Hd} {a a':Option Addr} {c c':Nat} (hw:hWf h) (ra:Row w a (u8L h.bs)) (rs:Row w a' (u8L h.ss)) (hk:∀ w',Mod No w w'->K (.bool (hOk g h)) w'):Cal Tryz.prog F_leveeref06_Right #[.agg ⟨gV g⟩,.agg ⟨rV6 h.no a c a' c'⟩] w K:=by
 apply C_leveeref06_Right
 unfold D_leveeref06_Right
 obtain ⟨w1,a1,a2,a3,a4⟩:=box_u (P:=Tryz.prog) (w:=w) (T:=40) (cs:=gV g)
 obtain ⟨w2,b1,b2,b3,b4⟩:=box_u (P:=Tryz.prog) (w:=w1) (T:=183) (cs:=rV6 h.no a c a' c')
 have m2:=a3.no b3
 have q2:=a2.keep b3 id
 have hw1:=hw.1
 have hw2:=hw.2
 refine ⟨_,w1,a1,_,w2,b1,Share.cut (fun z w4=>Mod No w2 w4/\z=[.bool (!(gOk g&&decide (0<=h.no/\h.no<g.gs)))]) ⟨_,q2.at.all agg_geo rfl,rgRight_c fun w3 m3=>⟨_,rfl,?_⟩⟩ ?_⟩
 ·have p2:=q2.keep m3 id
  have p3:=b2.keep m3 id
  refine cond_of (fun hg=>⟨m3,?_⟩) (fun hg=>⟨_,p3.at.fld sc_int rfl,cond_of (fun h1=>⟨m3,?_⟩) (fun h1=>⟨_,p3.at.fld sc_int rfl,_,p2.at.fld sc_int rfl,cond_of (fun h2=>⟨m3,?_⟩) (fun h2=>⟨_,_,_,p3.at.fld sc_bytes rfl,ff (by decide) ⟨_,_,_,p3.at.fld sc_bytes rfl,m3,?_⟩⟩)⟩)⟩)
  ·rw [Bool.not_eq_true'] at hg; rw [hg]; rfl
  ·have h1:=of_decide_eq_true h1
   rw [decide_eq_false (by omega),Bool.and_false]; rfl
  ·have h2:=of_decide_eq_true h2
   rw [decide_eq_false (by omega),Bool.and_false]; rfl
  ·have h1:=of_decide_eq_false h1
   have h2:=of_decide_eq_false h2
   rw [Bool.not_eq_false'] at hg
   rw [hg,decide_eq_true (show 0<=h.no/\h.no<g.gs by omega)]; rfl
 rintro z w4 ⟨m4,rfl⟩
 have M4:=m2.no m4
 have p2:=q2.keep m4 id
 have p3:=b2.keep m4 id
 refine ⟨_,rfl,cond_of (fun hc=>?_) (fun hc=>?_)⟩
 ·have e:hOk g h=false:=by
   rw [hOk_c]
   rw [Bool.not_eq_true'] at hc
   rw [hc]; rfl
  rw [<- e]; exact hk _ M4
 rw [Bool.not_eq_false'] at hc
 have hgo:gOk g=true:=by rw [Bool.and_eq_true] at hc; exact hc.1
 have hg:=gOk_iff.1 hgo
 refine ⟨fun x w5=>∃ (i:Nat) (y:Value),i<=128/\x=[.bool ((List.range i).all (hC1 g h)),.int .i64 i,y]/\w5=w4,fun x _=>(128-nI x 1).toNat,⟨0,_,by omega,rfl,rfl⟩,?_⟩
 rintro x w5 ⟨i,y,hi,rfl,rfl⟩
 have rb:=fun (w':World) (m:Mod No w5 w')=>ra.nos (M4.no m)
 have rsl:=fun (w':World) (m:Mod No w5 w')=>rs.nos (M4.no m)
 refine ⟨_,rfl,cond_of (fun hl=>?_) (fun hl=>?_)⟩
 ·have hl:=of_decide_eq_true hl
  refine Share.cut (fun z w9=>w9=w5/\z=[.bool (!hC1 g h i)]) ⟨_,p2.at.fld sc_int rfl,?_⟩ ?_
  ·rw [Int.tdiv_eq_ediv_of_nonneg (by omega),wrap64 (x:=g.no / 4) (by omega) (by omega),wrap64 (x:=1+g.no / 4) (by omega) (by omega)]
   refine cond_of (fun h1=>⟨_,_,_,p3.at.fld sc_bytes rfl,rbGet_c (xs:=h.bs) hw.1 (rb _ (Mod.refl _ _)) (by omega) (by omega) ⟨_,rfl,cond_of (fun h2=>⟨rfl,?_⟩) (fun h2=>⟨_,p2.at.fld sc_int rfl,cond_of (fun h3=>⟨_,_,_,p3.at.fld sc_bytes rfl,rbGet_c (xs:=h.bs) hw.1 (rb _ (Mod.refl _ _)) (by omega) (by omega) ⟨_,rfl,rfl,?_⟩⟩) (fun h3=>⟨rfl,?_⟩)⟩)⟩⟩)
    (fun h1=>⟨_,p2.at.fld sc_int rfl,cond_of (fun h3=>⟨_,_,_,p3.at.fld sc_bytes rfl,rbGet_c (xs:=h.bs) hw.1 (rb _ (Mod.refl _ _)) (by omega) (by omega) ⟨_,rfl,rfl,?_⟩⟩) (fun h3=>⟨rfl,?_⟩)⟩)
   ·rw [Bool.not_eq_true'] at h2; unfold hC1; rw [h1,h2]; rfl
   ·rw [Bool.not_eq_false'] at h2; unfold hC1; rw [h1,h2,show decide (g.gr<=(i:Int))=true from h3]; rfl
   ·rw [Bool.not_eq_false'] at h2; unfold hC1; rw [h1,h2,show decide (g.gr<=(i:Int))=false from h3]; rfl
   ·unfold hC1; rw [h1,show decide (g.gr<=(i:Int))=true from h3]; cases bitB h.bs i <;> rfl
   ·unfold hC1; rw [h1,show decide (g.gr<=(i:Int))=false from h3]; rfl
  rintro z w9 ⟨rfl,rfl⟩
  rw [wrap64 (x:=(i:Int)+1) (by omega) (by omega)]
  refine ⟨_,rfl,Share.cut (fun z w10=>w10=w9/\z=[.bool ((List.range (i+1)).all (hC1 g h))]) (cond_of (fun h1=>⟨rfl,?_⟩) (fun h1=>⟨rfl,?_⟩)) ?_⟩
  ·rw [Bool.not_eq_true'] at h1; rw [all_to,h1,Bool.and_false]
  ·rw [Bool.not_eq_false'] at h1; rw [all_to,h1,Bool.and_true]; rfl
  ·rintro z w10 ⟨rfl,rfl⟩
   exact ⟨⟨i+1,.bool (!hC1 g h i),by omega,by simp [nth],rfl⟩,by simp [nI,nth]; omega⟩
 have hl:=of_decide_eq_false hl
 have hi128:i=128:=by omega
 subst hi128
 refine ⟨fun x w11=>∃ (i:Nat) (y:Value),i<=64/\x=[.bool ((List.range 128).all (hC1 g h)&&(List.range i).all (hC2 g h)),.int .i64 i,y]/\w11=w5,fun x _=>(64-nI x 1).toNat,⟨0,undef,by omega,by simp [nth],rfl⟩,?_⟩
 rintro x w11 ⟨i,y,hi,rfl,rfl⟩
 refine ⟨_,rfl,cond_of (fun hl=>?_) (fun hl=>⟨_,rfl,?_⟩)⟩
 ·have hl:=of_decide_eq_true hl
  have second:∀ (R:List Value->World->Prop),(g.no<=(i:Int)->bitB h.ss i=false)->(R [.bool (!hC2 g h i)] w11)->(bif h.no==0 then (bif decide ((i:Int)<2) then ∃ (a88:Option Addr) (l88 c88:Nat),Ru (Instr.loadAt 88 (.pointer (some (Addr.add ⟨w1.heap.size,0,none⟩ 2)))) w11 (.slice a88 l88 c88) w11/\Cal Tryz.prog F_leveeref05_Get #[.slice a88 l88 c88,.int .i64 i] w11 fun r90 w13=>∃ b90:Bool,r90=.bool b90/\R [.bool (!b90)] w13 else R [.bool false] w11) else R [.bool false] w11):=by
   intro R hfirst hR
   have e0:∀ b:Bool,(b=decide (h.no=0/\i<2))->hC2 g h i=(!b || bitB h.ss i):=fun b hb=>by
    unfold hC2
    rw [<- hb]
    by_cases h1:g.no<=(i:Int)
    ·rw [hfirst h1]; simp
    ·rw [decide_eq_false h1]; simp
   rw [beqI]
   refine cond_of (fun h1=>cond_of (fun h2=>⟨_,_,_,p3.at.fld sc_bytes rfl,rbGet_c (xs:=h.ss) hw.2 (rsl _ (Mod.refl _ _)) (by omega) (by omega) ⟨_,rfl,?_⟩⟩) (fun h2=>?_)) (fun h1=>?_)
   ·have h1:=of_decide_eq_true h1
    have h2:=of_decide_eq_true h2
    rw [e0 true (decide_eq_true (show _/\_ from ⟨h1,by omega⟩)).symm] at hR
    simpa using hR
   ·have h2:=of_decide_eq_false h2
    rw [e0 false (decide_eq_false (fun e=>h2 (by omega))).symm] at hR
    simpa using hR
   ·have h1:=of_decide_eq_false h1
    rw [e0 false (decide_eq_false (fun e=>h1 e.1)).symm] at hR
    simpa using hR
  refine Share.cut (fun z w15=>w15=w11/\z=[.bool (!hC2 g h i)]) ⟨_,p2.at.fld sc_int rfl,cond_of (fun h1=>⟨_,_,_,p3.at.fld sc_bytes rfl,rbGet_c (xs:=h.ss) hw.2 (rsl _ (Mod.refl _ _)) (by omega) (by omega) ⟨_,rfl,cond_of (fun h2=>⟨rfl,?_⟩) (fun h2=>⟨_,p3.at.fld sc_int rfl,second (fun z w15=>w15=w11/\z=[.bool (!hC2 g h i)]) (fun _=>h2) ⟨rfl,rfl⟩⟩)⟩⟩) (fun h1=>⟨_,p3.at.fld sc_int rfl,second (fun z w15=>w15=w11/\z=[.bool (!hC2 g h i)]) (fun e=>absurd e (of_decide_eq_false h1)) ⟨rfl,rfl⟩⟩)⟩ ?_
  ·have h1:decide (g.no<=(i:Int))=true:=h1
   unfold hC2; rw [h1,h2]; rfl
  rintro z w15 ⟨rfl,rfl⟩
  rw [wrap64 (x:=(i:Int)+1) (by omega) (by omega)]
  refine ⟨_,rfl,Share.cut (fun z w10=>w10=w15/\z=[.bool ((List.range 128).all (hC1 g h)&&(List.range (i+1)).all (hC2 g h))]) (cond_of (fun h1=>⟨rfl,?_⟩) (fun h1=>⟨rfl,?_⟩)) ?_⟩
  ·rw [Bool.not_eq_true'] at h1; rw [all_to (hC2 g h) i,h1,Bool.and_false,Bool.and_false]
  ·rw [Bool.not_eq_false'] at h1; rw [all_to (hC2 g h) i,h1,Bool.and_true]; rfl
  ·rintro z w10 ⟨rfl,rfl⟩
   exact ⟨⟨i+1,.bool (!hC2 g h i),by omega,by simp [nth],rfl⟩,by simp [nI,nth]; omega⟩
 ·have hl:=of_decide_eq_false hl
  have hi64:i=64:=by omega
  subst hi64
  have e:((List.range 128).all (hC1 g h)&&(List.range 64).all (hC2 g h))=hOk g h:=by
   rw [hOk_c,hc,Bool.true_and]
  rw [e]; exact hk _ M4
theorem rhFree_c {g:Gm} {h:Hd} {a a':Option Addr} {c c':Nat} (hw:hWf h) (ra:Row w a (u8L h.bs)) (rs:Row w a' (u8L h.ss)) (hk:∀ w',Mod No w w'->K (.tuple #[.int .i64 (hFree g h).1,.int .i64 (hFree g h).2]) w'):Cal Tryz.prog F_leveeref06_Free #[.agg ⟨gV g⟩,.agg ⟨rV6 h.no a c a' c'⟩] w K:=by
 apply C_leveeref06_Free
 unfold D_leveeref06_Free
 obtain ⟨w1,a1,a2,a3,a4⟩:=box_u (P:=Tryz.prog) (w:=w) (T:=40) (cs:=gV g)
 obtain ⟨w2,b1,b2,b3,b4⟩:=box_u (P:=Tryz.prog) (w:=w1) (T:=183) (cs:=rV6 h.no a c a' c')
 have m2:=a3.no b3
 refine ⟨_,w1,a1,_,w2,b1,_,(a2.at.keep b3 id).all agg_geo rfl,_,b2.at.all agg_rhead rfl,rhRight_c hw (ra.nos m2) (rs.nos m2) fun w3 m3=>⟨_,rfl,cond_of (fun ho=>?_) (fun ho=>?_)⟩⟩
 ·have e:hFree g h=(0,0):=by unfold hFree; rw [if_neg (by simpa using ho)]
  rw [e] at hk; exact hk _ (m2.no m3)
 have ho:hOk g h=true:=by simpa using ho
 have hq:=gOk_iff.1 (hOk_iff.1 ho).1
 have q2:=(a2.keep b3 id).keep m3 id
 have q3:=b2.keep m3 id
 have h1:=cntB_le h.bs g.gr.toNat
 have h2:=cntB_le h.ss g.no.toNat
 have M3:Mod No w (Go.Den.drew w3):=(m2.no m3).drew
 refine ⟨_,q2.at.drew.fld sc_int rfl,_,_,_,q3.at.drew.fld sc_bytes rfl,_,q2.at.drew.fld sc_int rfl,_,q2.at.drew.fld sc_int rfl,_,_,_,q3.at.drew.fld sc_bytes rfl,_,q2.at.drew.fld sc_int rfl,?_⟩
 refine rbCount_c (xs:=h.bs) hw.1 (ra.nos M3) (by omega) ⟨_,rfl,q2.at.drew.fld sc_int rfl,q2.at.drew.fld sc_int rfl,q3.at.drew.fld sc_bytes rfl,q2.at.drew.fld sc_int rfl,?_⟩
 refine rbCount_c (xs:=h.ss) hw.2 (rs.nos M3) (by omega) ⟨_,rfl,q2.at.drew.fld sc_int rfl,q2.at.drew.fld sc_int rfl,?_⟩
 have e:hFree g h=(g.gr-cntB h.bs g.gr.toNat,g.no-cntB h.ss g.no.toNat):=by unfold hFree; rw [if_pos ho]
 rw [e] at hk
 rw [wrap64 (by omega) (by omega),wrap64 (by omega) (by omega)]
 exact hk _ M3
end
end Go.Proofs.YtelhlihjihklbaaGreat
end
section
open Go Go.Den Go.Proofs
namespace Go.Den
def rZ6:List Value:=[.int .i64 0,.slice none 0 0,.slice none 0 0]
def ssTo:Nat->List UInt8
 | 0=>List.replicate 8 0
 | i+1=>setB (ssTo i) i
theorem ssTo_len:∀ i,(ssTo i).length=8
 | 0=>rfl
 | i+1=>by rw [ssTo,setB_len,ssTo_len i]
theorem ssTo_two:ssTo 2=baseS 0:=by decide
end Go.Den
namespace Go.Proofs.YtelhlihjihklbaaGreat
theorem zero_rhead:zeroC Tryz.prog 183=some rZ6:=by kernel_rfl
theorem build_rhead0:Al (Instr.build 183 #[]) (.agg ⟨rZ6⟩):=fun w=>by kernel_rfl
theorem build_rhead (n:Int) (a:Option Addr) (c:Nat) (a':Option Addr) (c':Nat):Al (Instr.build 183 #[(0,.int .i64 n),(1,.slice a 16 c),(2,.slice a' 8 c')]) (.agg ⟨rV6 n a c a' c'⟩):=fun w=>by kernel_rfl
section
variable {w:World} {K:Value->World->Prop}
theorem make_z {n:Nat} (hn:n<=4096):∃ w',(Instr.makeSlice 88 (.int .i64 n) (.int .i64 n)).run Tryz.prog w=.ok (.slice (some ⟨w.heap.size,0,none⟩) n n) w'/\AtU w' w.heap.size 0 (u8L (List.replicate n 0))/\Mod No w w'/\w'.heap.size=w.heap.size+1:=by
 obtain ⟨w4,c1,c2,c3,c4⟩:=makeSlice_run (P:=Tryz.prog) (w:=w) (n:=n) elemZ_bytes (by omega) (by omega) (by omega)
 refine ⟨w4,c1,?_,c3,c4⟩
 have e:List.replicate (n*1) (Value.int .u8 0)=u8L (List.replicate n 0):=by
  rw [u8L,List.map_replicate,Nat.mul_one]; rfl
 rw [<- e]; exact c2
set_option maxRecDepth 8000 in
theorem rhFresh_c {g : Gm} {no : Int} (h1 : ¬ (gOk g = true ∧ 0 ≤ no ∧ no < g.gs) → ∀ w', Mod No w w' → K (.tuple #[.agg ⟨rZ6⟩, .int .i64 1]) w')
    (h2 : (gOk g = true ∧ 0 ≤ no ∧ no < g.gs) → ∀ w' a c a' c', Mod No w w' → Row w' a (u8L (hBase g no).bs) → Row w' a' (u8L (hBase g no).ss) → K (.tuple #[.agg ⟨rV6 no a c a' c'⟩, .int .i64 0]) w') : Cal Tryz.prog F_leveeref06_Fresh #[.agg ⟨gV g⟩, .int .i64 no] w K := by
  apply C_leveeref06_Fresh
  unfold D_leveeref06_Fresh
  obtain ⟨w1, a1, a2, a3, a4⟩ := box_u (P := Tryz.prog) (w := w) (T := 40) (cs := gV g)
  obtain ⟨w2, b1, b2, b3, b4⟩ := new_u (P := Tryz.prog) (w := w1) (T := 183) zero_rhead
  have m2 := a3.no b3
  have q2 := a2.keep b3 id
  refine ⟨_, w1, a1, _, w2, b1, ?_⟩
  have tail : ∀ (w5 : World) (q p p2 : Nat), Mod No w2 w5 → w2.heap.size ≤ q → AtU w5 q 0 rZ6 → w2.heap.size ≤ p → p ≠ q → At w5 p 0 (u8L (List.replicate 16 0)) → w2.heap.size ≤ p2 → p2 ≠ q → At w5 p2 0 (u8L (List.replicate 8 0)) →
      ∃ w6 : World, RuU (Instr.storeAt 183 (.pointer (some ⟨q, 0, none⟩)) (.agg ⟨rV6 no (some ⟨p, 0, none⟩) 16 (some ⟨p2, 0, none⟩) 8⟩)) w5 w6 ∧ Share (fun k => ∃ g13 : Array Value, Ru (Instr.loadAt 40 (.pointer (some ⟨w.heap.size, 0, none⟩))) w6 (.agg g13) w6 ∧ Cal Tryz.prog F_leveeref03_Right #[.agg g13] w6 fun r14 w7 => ∃ b14 : Bool, r14 = .bool b14 ∧ (bif !b14 then k [.bool true] w7 else (bif decide (no < 0) then k [.bool true] w7 else ∃ n23 : Int, Ru (Instr.loadAt 3 (.pointer (some (Addr.add ⟨w.heap.size, 0, none⟩ 2)))) w7 (.int .i64 n23) w7 ∧ k [.bool (decide (no ≥ n23))] w7))) fun x w8 =>
       ∃ b25 : Bool, nth x 0 = .bool b25 ∧ (bif b25 then
       ∃ g26 : Array Value, Al (Instr.build 183 #[]) (.agg g26) ∧ ∃ w9 : World, RuU (Instr.storeAt 183 (.pointer (some ⟨w1.heap.size, 0, none⟩)) (.agg g26)) w8 w9 ∧ ∃ gR4 : Array Value, Ru (Instr.loadAt 183 (.pointer (some ⟨w1.heap.size, 0, none⟩))) w9 (.agg gR4) w9 ∧ K (.tuple #[.agg gR4, .int .i64 1]) w9
       else
       LoopC (fun k_2 x_2 w10 =>
       ∃ n7 : Int, nth x_2 0 = .int .i64 n7 ∧ ∃ n29 : Int, Ru (Instr.loadAt 3 (.pointer (some (Addr.add ⟨w.heap.size, 0, none⟩ 1)))) w10 (.int .i64 n29) w10 ∧ (bif decide (n7 < (IntKind.i64.wrap (1 + (IntKind.i64.wrap (Int.tdiv n29 4))))) then
       ∃ (a37 : Option Addr) (l37 c37 : Nat), Ru (Instr.loadAt 88 (.pointer (some (Addr.add ⟨q, 0, none⟩ 1)))) w10 (.slice a37 l37 c37) w10 ∧ Cal Tryz.prog F_leveeref05_Set #[.slice a37 l37 c37, .int .i64 n7, .bool true] w10 fun r39 w11 => ∃ (a39a : Option Addr) (l39a c39a : Nat), ∃ n39b : Int, r39 = .tuple #[.slice a39a l39a c39a, .int .i64 n39b] ∧ ∃ w12 : World, RuU (Instr.storeAt 88 (.pointer (some (Addr.add ⟨q, 0, none⟩ 1))) (.slice a39a l39a c39a)) w11 w12 ∧ k_2 [.int .i64 (IntKind.i64.wrap (n7 + 1))] w12
       else
       LoopC (fun k_3 x_3 w13 =>
       Share (fun k_4 => ∃ n8 : Int, nth x_3 0 = .int .i64 n8 ∧ (bif decide (n8 < 2) then k_4 [.bool (no == 0)] w13 else k_4 [.bool false] w13)) fun x_4 w14 =>
       ∃ b48 : Bool, nth x_4 0 = .bool b48 ∧ (bif b48 then
       ∃ (a53 : Option Addr) (l53 c53 : Nat), Ru (Instr.loadAt 88 (.pointer (some (Addr.add ⟨q, 0, none⟩ 2)))) w14 (.slice a53 l53 c53) w14 ∧ ∃ n8_2 : Int, nth x_3 0 = .int .i64 n8_2 ∧ Cal Tryz.prog F_leveeref05_Set #[.slice a53 l53 c53, .int .i64 n8_2, .bool true] w14 fun r55 w15 => ∃ (a55a : Option Addr) (l55a c55a : Nat), ∃ n55b : Int, r55 = .tuple #[.slice a55a l55a c55a, .int .i64 n55b] ∧ ∃ w16 : World, RuU (Instr.storeAt 88 (.pointer (some (Addr.add ⟨q, 0, none⟩ 2))) (.slice a55a l55a c55a)) w15 w16 ∧ k_3 [.int .i64 (IntKind.i64.wrap (n8_2 + 1)), .bool b48] w16
       else
       ∃ g59 : Array Value, Ru (Instr.loadAt 183 (.pointer (some ⟨q, 0, none⟩))) w14 (.agg g59) w14 ∧ ∃ w17 : World, RuU (Instr.storeAt 183 (.pointer (some ⟨w1.heap.size, 0, none⟩)) (.agg g59)) w14 w17 ∧ ∃ gR4_2 : Array Value, Ru (Instr.loadAt 183 (.pointer (some ⟨w1.heap.size, 0, none⟩))) w17 (.agg gR4_2) w17 ∧ K (.tuple #[.agg gR4_2, .int .i64 0]) w17)) [.int .i64 0, undef] w10)) [.int .i64 0] w8) := by
    intro w5 q p p2 m5 hq hat hp hpq hap hp2 hpq2 has
    obtain ⟨w6, c1, c2, c3, c4⟩ := hat.put (T := 183) (vs := rV6 no (some ⟨p, 0, none⟩) 16 (some ⟨p2, 0, none⟩) 8) agg_rhead rfl rfl (one_rV6 _ _ _ _ _)
    have m6 : Mod No w2 w6 := m5.own c3 hq
    refine ⟨w6, c1, Share.cut (fun z w8 => Mod No w6 w8 ∧ z = [.bool (decide (¬ (gOk g = true ∧ 0 ≤ no ∧ no < g.gs)))]) ⟨_, (q2.keep m6 id).at.all agg_geo rfl, rgRight_c fun w7 m7 => ⟨_, rfl, cond_of (fun hg => ⟨m7, ?_⟩) (fun hg => cond_of (fun h0 => ⟨m7, ?_⟩) (fun h0 => ⟨_, (q2.keep (m6.no m7) id).at.fld sc_int rfl, m7, ?_⟩))⟩⟩ ?_⟩
    · rw [Bool.not_eq_true'] at hg; rw [decide_eq_true (show ¬ (gOk g = true ∧ 0 ≤ no ∧ no < g.gs) by rw [hg]; simp)]
    · have h0 := of_decide_eq_true h0; rw [decide_eq_true (show ¬ (gOk g = true ∧ 0 ≤ no ∧ no < g.gs) by omega)]
    · rw [Bool.not_eq_false'] at hg
      have h0 := of_decide_eq_false h0
      by_cases hn : no ≥ g.gs
      · rw [decide_eq_true hn, decide_eq_true (show ¬ (gOk g = true ∧ 0 ≤ no ∧ no < g.gs) by omega)]
      · rw [decide_eq_false hn, decide_eq_false (show ¬ ¬ (gOk g = true ∧ 0 ≤ no ∧ no < g.gs) from fun e => e ⟨hg, by omega, by omega⟩)]
    rintro z w8 ⟨m68, rfl⟩
    have m8 : Mod No w2 w8 := m6.no m68
    refine ⟨_, rfl, cond_of (fun hb => ⟨_, build_rhead0, ?_⟩) (fun hb => ?_)⟩
    · have hb := of_decide_eq_true hb
      obtain ⟨w9, e1, e2, e3, e4⟩ := (b2.keep m8 id).put (T := 183) (vs := rZ6) agg_rhead rfl rfl (by intro v hv; simp only [rZ6, List.mem_cons, List.not_mem_nil, or_false] at hv; rcases hv with rfl | rfl | rfl <;> rfl)
      exact ⟨w9, e1, _, e2.at.all agg_rhead rfl, h1 hb w9 ((m2.no m8).own e3 a3.size)⟩
    have hb := Classical.not_not.1 (of_decide_eq_false hb)
    have hgo := gOk_iff.1 hb.1
    have et : gTabs g = g.no / 4 := by unfold gTabs; rw [if_pos hb.1]
    have ok0 : ∀ x, (some ⟨p, 0, none⟩ : Option Addr) = some x → w2.heap.size ≤ x.block ∧ x.block ≠ q := fun x e => by cases e; exact ⟨hp, hpq⟩
    have ok1 : ∀ x, (some ⟨p2, 0, none⟩ : Option Addr) = some x → w2.heap.size ≤ x.block ∧ x.block ≠ q := fun x e => by cases e; exact ⟨hp2, hpq2⟩
    have rw0 : Row w8 (some ⟨p, 0, none⟩) (u8L (baseB 0)) := .inr ⟨_, _, rfl, (hap.keep c3 (fun e => hpq e)).keep m68 id⟩
    have rw1 : Row w8 (some ⟨p2, 0, none⟩) (u8L (ssTo 0)) := .inr ⟨_, _, rfl, (has.keep c3 (fun e => hpq2 e)).keep m68 id⟩
    refine ⟨fun x w10 => ∃ (i : Nat) (a : Option Addr) (c : Nat), i ≤ 1 + (gTabs g).toNat ∧ x = [.int .i64 i] ∧ AtU w10 q 0 (rV6 no a c (some ⟨p2, 0, none⟩) 8) ∧ Row w10 a (u8L (baseB i)) ∧ Row w10 (some ⟨p2, 0, none⟩) (u8L (ssTo 0)) ∧ (∀ x, a = some x → w2.heap.size ≤ x.block ∧ x.block ≠ q) ∧ a ≠ none ∧ Mod No w2 w10, fun x _ => (1 + (gTabs g).toNat - nI x 0).toNat,
      ⟨0, _, _, by omega, rfl, c2.keep m68 id, rw0, rw1, ok0, by simp, m8⟩, ?_⟩
    rintro x w10 ⟨i, a, c, hi, rfl, hat, ra, rs, oka, hna, m10⟩
    refine ⟨_, rfl, _, (q2.keep m10 id).at.fld sc_int rfl, ?_⟩
    rw [Int.tdiv_eq_ediv_of_nonneg (by omega), wrap64 (x := g.no / 4) (by omega) (by omega), wrap64 (x := 1 + g.no / 4) (by omega) (by omega)]
    refine cond_of (fun hl => ⟨_, _, _, hat.at.fld sc_bytes rfl, ?_⟩) (fun hl => ?_)
    · have hl := of_decide_eq_true hl
      refine rbSet_c (xs := baseB i) (baseB_len i) ra (fun e => absurd e hna) (by omega) (by omega) fun w11 a' c' m11 o11 => ⟨_, _, _, _, rfl, ?_⟩
      obtain ⟨w12, d1, d2, d3, d4⟩ := (hat.keep m11 id).putF (P := Tryz.prog) (T := 88) (j := 1) (v := .slice a' 16 c') sc_bytes (by simp [rV6]) rfl
      refine ⟨w12, d1, ?_⟩
      rw [wrap64 (x := (i : Int) + 1) (by omega) (by omega)]
      have okn : ∀ x, a' = some x → w2.heap.size ≤ x.block ∧ x.block ≠ q := fun x e => by
        have h3 := (o11.base e).1
        have h4 := hat.lt
        have h5 := m10.size
        exact ⟨by omega, by omega⟩
      obtain ⟨gg, hgg, _, _⟩ := o11.sm (by omega)
      exact ⟨⟨i + 1, a', c', by omega, by simp, d2, o11.rowU.row.keep d3 (fun x e hx => (okn x e).2 hx), (rs.nos m11).keep d3 (fun x e hx => (ok1 x e).2 hx), okn, by rw [hgg]; simp, (m10.no m11).own d3 hq⟩, by simp [nI, nth]; omega⟩
    have hl := of_decide_eq_false hl
    have hi2 : i = 1 + (gTabs g).toNat := by omega
    subst hi2
    refine ⟨fun x w13 => ∃ (i : Nat) (y : Value) (a' : Option Addr) (c' : Nat), i ≤ 2 ∧ (no ≠ 0 → i = 0) ∧ x = [.int .i64 i, y] ∧ AtU w13 q 0 (rV6 no a c a' c') ∧ Row w13 a (u8L (baseB (1 + (gTabs g).toNat))) ∧ Row w13 a' (u8L (ssTo i)) ∧ (∀ x, a' = some x → w2.heap.size ≤ x.block ∧ x.block ≠ q) ∧ a' ≠ none ∧ Mod No w2 w13, fun x _ => (2 - nI x 0).toNat,
      ⟨0, _, _, _, by omega, fun _ => rfl, rfl, hat, ra, rs, ok1, by simp, m10⟩, ?_⟩
    rintro x w13 ⟨i, y, a', c', hi, hz, rfl, hat, ra, rs, oks, hns, m13⟩
    refine Share.cut (fun z w14 => w14 = w13 ∧ z = [.bool (decide (i < 2 ∧ no = 0))]) ⟨_, rfl, cond_of (fun hl => ⟨rfl, ?_⟩) (fun hl => ⟨rfl, ?_⟩)⟩ ?_
    · have hl := of_decide_eq_true hl
      rw [beqI]
      by_cases hn : no = 0
      · rw [decide_eq_true hn, decide_eq_true (show _ ∧ _ from ⟨by omega, hn⟩)]
      · rw [decide_eq_false hn, decide_eq_false fun e => hn e.2]
    · have hl := of_decide_eq_false hl
      rw [decide_eq_false fun e => hl (by omega)]
    rintro z w14 ⟨rfl, rfl⟩
    refine ⟨_, rfl, cond_of (fun hl => ⟨_, _, _, hat.at.fld sc_bytes rfl, _, rfl, ?_⟩) (fun hl => ⟨_, hat.at.all agg_rhead rfl, ?_⟩)⟩
    · have hl := of_decide_eq_true hl
      refine rbSet_c (xs := ssTo i) (ssTo_len i) rs (fun e => absurd e hns) (by omega) (by omega) fun w15 a2' c2' m15 o15 => ⟨_, _, _, _, rfl, ?_⟩
      obtain ⟨w16, d1, d2, d3, d4⟩ := (hat.keep m15 id).putF (P := Tryz.prog) (T := 88) (j := 2) (v := .slice a2' 8 c2') sc_bytes (by simp [rV6]) rfl
      refine ⟨w16, d1, ?_⟩
      rw [wrap64 (x := (i : Int) + 1) (by omega) (by omega)]
      have okn : ∀ x, a2' = some x → w2.heap.size ≤ x.block ∧ x.block ≠ q := fun x e => by
        have h3 := (o15.base e).1
        have h4 := hat.lt
        have h5 := m13.size
        exact ⟨by omega, by omega⟩
      obtain ⟨gg, hgg, _, _⟩ := o15.sm (by omega)
      exact ⟨⟨i + 1, .bool (decide (i < 2 ∧ no = 0)), a2', c2', by omega, fun hn => absurd hl.2 hn, by simp, d2, (ra.nos m15).keep d3 (fun x e hx => (oka x e).2 hx), o15.rowU.row.keep d3 (fun x e hx => (okn x e).2 hx), okn, by rw [hgg]; simp, (m13.no m15).own d3 hq⟩, by simp [nI, nth]; omega⟩
    · have hl := of_decide_eq_false hl
      obtain ⟨w17, e1, e2, e3, e4⟩ := (b2.keep m13 id).put (T := 183) (vs := rV6 no a c a' c') agg_rhead rfl rfl (one_rV6 _ _ _ _ _)
      have hlow : ∀ (x : Addr), w2.heap.size ≤ x.block → ¬ (x.block = w1.heap.size) := fun x hx e => by omega
      refine ⟨w17, e1, _, e2.at.all agg_rhead rfl, h2 hb w17 a c a' c' ((m2.no m13).own e3 a3.size) (ra.keep e3 fun x e hx => hlow x (oka x e).1 hx) ?_⟩
      have es : (hBase g no).ss = ssTo i := by
        by_cases hn : no = 0
        · have hi2 : i = 2 := by
            by_cases h2 : i < 2
            · exact absurd ⟨h2, hn⟩ hl
            · omega
          rw [hi2, ssTo_two, ← hn]; rfl
        · rw [hz hn]
          show baseS no = _
          unfold baseS; rw [if_neg hn]; rfl
      rw [es]
      exact rs.keep e3 fun x e hx => hlow x (oks x e).1 hx
  have md : Mod No w2 (Go.Den.drew w2) := (Mod.refl No w2).drew
  have hd : (Go.Den.drew w2).heap.size = w2.heap.size := rfl
  -- sixteen bytes first
  obtain ⟨x3, s1, s2, s3, s4⟩ := make_z (w := Go.Den.drew w2) (n := 16) (by omega)
  obtain ⟨x4, t1, t2, t3, t4⟩ := make_z (w := x3) (n := 8) (by omega)
  obtain ⟨x5, u1, u2, u3, u4⟩ := new_u (P := Tryz.prog) (w := x4) (T := 183) zero_rhead
  obtain ⟨y4, v1, v2, v3, v4⟩ := new_u (P := Tryz.prog) (w := x3) (T := 183) zero_rhead
  obtain ⟨y5, z1, z2, z3, z4⟩ := make_z (w := y4) (n := 8) (by omega)
  -- eight bytes first
  obtain ⟨x3', s1', s2', s3', s4'⟩ := make_z (w := Go.Den.drew w2) (n := 8) (by omega)
  obtain ⟨x4', t1', t2', t3', t4'⟩ := make_z (w := x3') (n := 16) (by omega)
  obtain ⟨x5', u1', u2', u3', u4'⟩ := new_u (P := Tryz.prog) (w := x4') (T := 183) zero_rhead
  obtain ⟨y4', v1', v2', v3', v4'⟩ := new_u (P := Tryz.prog) (w := x3') (T := 183) zero_rhead
  obtain ⟨y5', z1', z2', z3', z4'⟩ := make_z (w := y4') (n := 16) (by omega)
  -- the header first
  obtain ⟨r3, f1, f2, f3, f4⟩ := new_u (P := Tryz.prog) (w := Go.Den.drew w2) (T := 183) zero_rhead
  obtain ⟨r4, g1, g2, g3, g4⟩ := make_z (w := r3) (n := 16) (by omega)
  obtain ⟨r5, k1, k2, k3, k4⟩ := make_z (w := r4) (n := 8) (by omega)
  obtain ⟨r4', g1', g2', g3', g4'⟩ := make_z (w := r3) (n := 8) (by omega)
  obtain ⟨r5', k1', k2', k3', k4'⟩ := make_z (w := r4') (n := 16) (by omega)
  refine ⟨⟨_, _, _, x3, s1, ⟨_, _, _, x4, t1, _, build_rhead _ _ _ _ _, _, x5, u1, ?_⟩, ⟨_, y4, v1, _, _, _, y5, z1, _, build_rhead _ _ _ _ _, ?_⟩⟩, ⟨_, _, _, x3', s1', ⟨_, _, _, x4', t1', _, build_rhead _ _ _ _ _, _, x5', u1', ?_⟩, ⟨_, y4', v1', _, _, _, y5', z1', _, build_rhead _ _ _ _ _, ?_⟩⟩, ⟨_, r3, f1, ⟨_, _, _, r4, g1, _, _, _, r5, k1, _, build_rhead _ _ _ _ _, ?_⟩, ⟨_, _, _, r4', g1', _, _, _, r5', k1', _, build_rhead _ _ _ _ _, ?_⟩⟩⟩
  · exact tail x5 _ _ _ (md.no (s3.no (t3.no u3))) (by omega) u2 (by omega) (by omega) ((s2.at.keep t3 id).keep u3 id) (by omega) (by omega) (t2.at.keep u3 id)
  · exact tail y5 _ _ _ (md.no (s3.no (v3.no z3))) (by omega) (v2.keep z3 id) (by omega) (by omega) ((s2.at.keep v3 id).keep z3 id) (by omega) (by omega) z2.at
  · exact tail x5' _ _ _ (md.no (s3'.no (t3'.no u3'))) (by omega) u2' (by omega) (by omega) (t2'.at.keep u3' id) (by omega) (by omega) ((s2'.at.keep t3' id).keep u3' id)
  · exact tail y5' _ _ _ (md.no (s3'.no (v3'.no z3'))) (by omega) (v2'.keep z3' id) (by omega) (by omega) z2'.at (by omega) (by omega) ((s2'.at.keep v3' id).keep z3' id)
  · exact tail r5 _ _ _ (md.no (f3.no (g3.no k3))) (by omega) ((f2.keep g3 id).keep k3 id) (by omega) (by omega) (g2.at.keep k3 id) (by omega) (by omega) k2.at
  · exact tail r5' _ _ _ (md.no (f3.no (g3'.no k3'))) (by omega) ((f2.keep g3' id).keep k3' id) (by omega) (by omega) k2'.at (by omega) (by omega) (g2'.at.keep k3' id)
end
end Go.Proofs.YtelhlihjihklbaaGreat
end
section
open Go Go.Den Go.Proofs
namespace Go.Proofs.YtelhlihjihklbaaGreat
theorem built_gmark (w:World):(Instr.buildSlice 88 4 #[(0,.int .u8 76),(1,.int .u8 71),(2,.int .u8 82),(3,.int .u8 80)]).run Tryz.prog w=.ok (.slice (some ⟨w.heap.size,0,none⟩) 4 4) (w.alloc (.cells ⟨u8L gMark⟩ 5)):=by kernel_rfl
section
variable {w:World} {K:Value->World->Prop}
theorem fillZ {base l c N:Nat} {n:Int} {a:Option Addr} {xs:List UInt8} {C:Option Addr->Nat->Nat->World->Prop} (o:Ow Tryz.prog w base 88 1 a l c (u8L xs)) (hl:l<=N) (hn:n=(N:Int)) (hN:N<=4096) (hb:base<=w.heap.size)
  (hC:∀ w' a' c',Mod (fun x=>base<=x) w w'->Ow Tryz.prog w' base 88 1 a' N c' (u8L (xs++List.replicate (N-l) 0))->C a' N c' w') :
  LoopC (fun k x w13=>∃ (a8:Option Addr) (l8 c8:Nat),nth x 0=.slice a8 l8 c8/\(bif decide ((l8:Int)<n) then
   ∃ (a41:Option Addr) (l41 c41:Nat),∃ w14:World,Ru (Instr.buildSlice 88 1 #[(0,.int .u8 0)]) w13 (.slice a41 l41 c41) w14/\∃ (a42:Option Addr) (l42 c42:Nat),∃ w15:World,Ru (Builtin.append_ #[88,88] 88 #[.slice a8 l8 c8,.slice a41 l41 c41]) w14 (.slice a42 l42 c42) w15/\k [.slice a42 l42 c42] w15
   else C a8 l8 c8 w13)) [.slice a l c] w:=by
 subst hn
 refine ⟨fun x w13=>∃ (i l':Nat) (a:Option Addr) (c:Nat),l'=l+i/\l'<=N/\x=[.slice a l' c]/\Ow Tryz.prog w13 base 88 1 a l' c (u8L (xs++List.replicate i 0))/\Mod (fun x=>base<=x) w w13,
  fun x _=>roomTo N x,⟨0,l,_,_,rfl,hl,rfl,by simpa using o,Mod.refl _ _⟩,?_⟩
 rintro x w13 ⟨i,l',a,c,hi,hlN,rfl,o13,M13⟩
 refine ⟨_,_,_,rfl,cond_of (fun hb=>?_) (fun hb=>?_)⟩
 ·have hb:=of_decide_eq_true hb
  obtain ⟨a',c',w',q1,q2,q3⟩:=o13.snoc (ty:=88) (t:=5) (ys:=[.int .u8 0]) elemZ_bytes (by omega) rfl (by simp; rfl) (by omega) (by omega) (Nat.le_trans ‹base<=w.heap.size› M13.size)
  refine ⟨_,_,_,_,built1 _ _,_,_,_,w',q1,⟨i+1,l'+1,a',c',by omega,by omega,rfl,?_,M13.trans q3 fun _ _ h=>h⟩,by simp only [roomTo]; omega⟩
  have e:u8L (xs++List.replicate i 0)++[.int .u8 0]=u8L (xs++List.replicate (i+1) 0):=by
   rw [List.replicate_succ',<- List.append_assoc,u8L_append (xs++List.replicate i 0)]; rfl
  rw [e] at q2; exact q2
 ·have hb:=of_decide_eq_false hb
  have hi:i=N-l:=by omega
  have hl:l'=N:=by omega
  subst hi
  subst hl
  exact hC _ _ _ M13 o13
set_option maxRecDepth 8000 in
theorem rhPut_c {g:Gm} {h:Hd} {a a':Option Addr} {c c':Nat} (hw:hWf h) (ra:Row w a (u8L h.bs)) (rs:Row w a' (u8L h.ss)) (h1:hOk g h=false->∀ w',Mod No w w'->K (.tuple #[.slice none 0 0,.int .i64 1]) w')
  (h2:hOk g h=true->∀ w' b d,Mod No w w'->Ow Tryz.prog w' w.heap.size 88 1 b 256 d (u8L (grpB g h))->K (.tuple #[.slice b 256 d,.int .i64 0]) w'):Cal Tryz.prog F_leveeref06_Put #[.agg ⟨gV g⟩,.agg ⟨rV6 h.no a c a' c'⟩] w K:=by
 apply C_leveeref06_Put
 unfold D_leveeref06_Put
 obtain ⟨w1,a1,a2,a3,a4⟩:=box_u (P:=Tryz.prog) (w:=w) (T:=40) (cs:=gV g)
 obtain ⟨w2,b1,b2,b3,b4⟩:=box_u (P:=Tryz.prog) (w:=w1) (T:=183) (cs:=rV6 h.no a c a' c')
 have m2:=a3.no b3
 refine ⟨_,w1,a1,_,w2,b1,_,(a2.at.keep b3 id).all agg_geo rfl,_,b2.at.all agg_rhead rfl,rhRight_c hw (ra.nos m2) (rs.nos m2) fun w3 m3=>⟨_,rfl,cond_of (fun ho=>h1 (by simpa using ho) _ (m2.no m3)) (fun ho=>?_)⟩⟩
 have ho:hOk g h=true:=by simpa using ho
 have hno:=(hOk_iff.1 ho).2.1
 have hq:=gOk_iff.1 (hOk_iff.1 ho).1
 have hf:=hFree_b (g:=g) (h:=h)
 have M3:=m2.no m3
 have q3:=b2.keep m3 id
 refine ⟨_,((a2.keep b3 id).keep m3 id).at.all agg_geo rfl,_,q3.at.all agg_rhead rfl,rhFree_c hw (ra.nos M3) (rs.nos M3) fun w4 m4=>⟨_,_,rfl,?_⟩⟩
 obtain ⟨w6,c1,c2,c3⟩:=conv_mark (w:=w4) (cs:=u8L gMark) (n:=4)
 refine ⟨_,_,_,_,built_gmark _,_,_,_,w6,c1,?_⟩
 have hB:w2.heap.size<=w4.heap.size:=(m3.no m4).size
 have m26:Mod (fun x=>w2.heap.size<=x) w2 w6:=((m3.no m4).no c3).mono fun _ _ h=>h.elim
 have nb:¬ (w2.heap.size<=w1.heap.size):=by omega
 have up:∀ {w':World},Mod (fun x=>w2.heap.size<=x) w2 w'->Mod No w w':=fun m=>m2.up m m2.size
 have tr:∀ {x y:World},Mod (fun x=>w2.heap.size<=x) w2 x->Mod (fun x=>w2.heap.size<=x) x y->Mod (fun x=>w2.heap.size<=x) w2 y:=fun h k=>h.trans k fun _ _ h=>h
 refine ⟨_,(b2.at.keep m26 nb).fld sc_int rfl,?_⟩
 refine numF (m:=2) (l:=4) (base:=w2.heap.size) c2 rfl (by omega) (by omega) (by omega) (by omega) m26.size fun w7 e2 f2 e3 f3 w8 p8 m8 o8=>⟨_,_,_,rfl,_,_,_,w8,p8,?_⟩
 have M8:=tr m26 m8
 refine numB (m:=2) (l:=6) o8 (by omega) (by omega) (by omega) M8.size fun w9 e2 f2 e3 f3 w10 p10 m10 o10=>⟨_,_,_,rfl,_,_,_,w10,p10,?_⟩
 have M10:=tr M8 m10
 refine numB (m:=2) (l:=8) o10 (by omega) (by omega) (by omega) M10.size fun w11 e2 f2 e3 f3 w12 p12 m12 o12=>⟨_,_,_,rfl,_,_,_,w12,p12,?_⟩
 have M12:=tr M10 m12
 have o12:Ow Tryz.prog w12 w2.heap.size 88 1 e3 10 f3 (u8L (gFront g h)):=o12
 refine fillZ (N:=16) o12 (by omega) rfl (by omega) M12.size fun w13 b8 d8 m13 o13=>?_
 have M13:=tr M12 m13
 have o13:Ow Tryz.prog w13 w2.heap.size 88 1 b8 16 d8 (u8L (gFront g h++List.replicate 6 0)):=o13
 have hra:a≠none:=fun e=>by
  rcases ra with h | ⟨b,o,h,_⟩
  ·have:=congrArg List.length h; simp [hw.1] at this
  ·rw [h] at e; cases e
 have hrs:a'≠none:=fun e=>by
  rcases rs with h | ⟨b,o,h,_⟩
  ·have:=congrArg List.length h; simp [hw.2] at this
  ·rw [h] at e; cases e
 obtain ⟨b9,d9,w16,p16,o16,m16⟩:=appB o13 (ra.nos (up M13)) hw.1 (c2:=c) (fun e=>absurd e hra) (by omega) M13.size
 have M16:=tr M13 m16
 obtain ⟨b10,d10,w17,p17,o17,m17⟩:=appB o16 (rs.nos (up M16)) hw.2 (c2:=c') (fun e=>absurd e hrs) (by omega) M16.size
 have M17:=tr M16 m17
 refine ⟨_,_,_,(b2.at.keep M13 nb).fld sc_bytes rfl,_,_,_,w16,p16,_,_,_,(b2.at.keep M16 nb).fld sc_bytes rfl,_,_,_,w17,p17,?_⟩
 refine fillZ (N:=256) o17 (by omega) rfl (by omega) M17.size fun w18 b11 d11 m18 o18=>?_
 exact h2 ho w18 b11 d11 (up (tr M17 m18)) (o18.mono m2.size)
theorem one_rZ6:∀ v∈rZ6,v.oneCell'=true:=by
 intro v hv
 simp only [rZ6,List.mem_cons,List.not_mem_nil,or_false] at hv
 rcases hv with rfl | rfl | rfl <;> rfl
set_option maxRecDepth 8000 in
theorem rhGet_c {g : Gm} {a : Option Addr} {l c : Nat} {xs : List UInt8} (hl : xs.length = l) (hc : l ≤ c) (hr : Row w a (u8L xs)) (h63 : l ≤ 1048576)
    (h1 : (hGet g xs).2 ≠ 0 → ∀ w', Mod No w w' → K (.tuple #[.agg ⟨rZ6⟩, .int .i64 (hGet g xs).2]) w')
    (h2 : (hGet g xs).2 = 0 → ∀ w' b d b' d', Mod No w w' → Row w' b (u8L (hGet g xs).1.bs) → Row w' b' (u8L (hGet g xs).1.ss) → K (.tuple #[.agg ⟨rV6 (hGet g xs).1.no b d b' d'⟩, .int .i64 0]) w') : Cal Tryz.prog F_leveeref06_Get #[.agg ⟨gV g⟩, .slice a l c] w K := by
  apply C_leveeref06_Get
  unfold D_leveeref06_Get
  obtain ⟨w1, a1, a2, a3, a4⟩ := box_u (P := Tryz.prog) (w := w) (T := 40) (cs := gV g)
  obtain ⟨w2, b1, b2, b3, b4⟩ := new_u (P := Tryz.prog) (w := w1) (T := 183) zero_rhead
  have m2 := a3.no b3
  have q2 := a2.keep b3 id
  have fin : ∀ (w' : World) (e : Int), Mod No w2 w' → e ≠ 0 → (hGet g xs).2 = e → ∃ w3 : World, RuU (Instr.storeAt 183 (.pointer (some ⟨w1.heap.size, 0, none⟩)) (.agg ⟨rZ6⟩)) w' w3 ∧ ∃ gR2 : Array Value, Ru (Instr.loadAt 183 (.pointer (some ⟨w1.heap.size, 0, none⟩))) w3 (.agg gR2) w3 ∧ K (.tuple #[.agg gR2, .int .i64 e]) w3 := fun w' e m he0 he => by
    obtain ⟨w3, c1, c2, c3, c4⟩ := (b2.keep m id).put (T := 183) (vs := rZ6) agg_rhead rfl rfl one_rZ6
    have := h1 (by rw [he]; exact he0) w3 ((m2.no m).own c3 a3.size)
    rw [he] at this
    exact ⟨w3, c1, _, c2.at.all agg_rhead rfl, this⟩
  refine ⟨_, w1, a1, _, w2, b1, _, q2.at.all agg_geo rfl, rgRight_c fun w3 m3 => ⟨_, rfl, cond_of (fun h => ⟨_, build_rhead0, ?_⟩) (fun h => ?_)⟩⟩
  · exact fin w3 1 m3 (by decide) (by unfold hGet; rw [if_pos (by simpa using h)])
  have hg : gOk g = true := by simpa using h
  rw [bneI]
  refine cond_of (fun h => ⟨_, build_rhead0, ?_⟩) (fun h => ?_)
  · have h := of_decide_eq_true h
    exact fin w3 4 m3 (by decide) (by unfold hGet; rw [if_neg (by rw [hg]; simp), if_pos (by omega)])
  have hl2 : xs.length = 256 := by have := of_decide_eq_false h; omega
  have hl' : l = 256 := by omega
  subst hl'
  have hwf := readH_wf hl2
  have n4 : leN ((xs.drop 4).take 2) < 256 ^ 2 := leN_sub (by omega)
  have hr2 := hr.nos m2
  have tail : ∀ (w9 : World) (q p e1 p2 e2 : Nat), Mod No w2 w9 → w2.heap.size ≤ q → AtU w9 q 0 rZ6 → w2.heap.size ≤ p → p ≠ q → Row w9 (some ⟨p, 0, none⟩) (u8L (readH xs).bs) → w2.heap.size ≤ p2 → p2 ≠ q → Row w9 (some ⟨p2, 0, none⟩) (u8L (readH xs).ss) →
      ∃ w10 : World, RuU (Instr.storeAt 183 (.pointer (some ⟨q, 0, none⟩)) (.agg ⟨rV6 (IntKind.i64.wrap (leN ((xs.drop 4).take 2) : Int)) (some ⟨p, 0, none⟩) e1 (some ⟨p2, 0, none⟩) e2⟩)) w9 w10 ∧ ∃ g29 : Array Value, Ru (Instr.loadAt 40 (.pointer (some ⟨w.heap.size, 0, none⟩))) w10 (.agg g29) w10 ∧ ∃ g30 : Array Value, Ru (Instr.loadAt 183 (.pointer (some ⟨q, 0, none⟩))) w10 (.agg g30) w10 ∧ Cal Tryz.prog F_leveeref06_Put #[.agg g29, .agg g30] w10 fun r31 w11 => ∃ (a31a : Option Addr) (l31a c31a : Nat), ∃ n31b : Int, r31 = .tuple #[.slice a31a l31a c31a, .int .i64 n31b] ∧ Share (fun k => (bif n31b != 0 then k [.bool true] w11 else ∃ s38 : ByteArray, Ru (convert 88 9 (.slice a31a l31a c31a)) w11 (.string s38) w11 ∧ ∃ s40 : ByteArray, Ru (convert 88 9 (.slice a 256 c)) w11 (.string s40) w11 ∧ k [.bool (!((ByteArray.toList s38) == (ByteArray.toList s40)))] w11)) fun x w12 =>
       ∃ b42 : Bool, nth x 0 = .bool b42 ∧ (bif b42 then
       ∃ g43 : Array Value, Al (Instr.build 183 #[]) (.agg g43) ∧ ∃ w13 : World, RuU (Instr.storeAt 183 (.pointer (some ⟨w1.heap.size, 0, none⟩)) (.agg g43)) w12 w13 ∧ ∃ gR4_3 : Array Value, Ru (Instr.loadAt 183 (.pointer (some ⟨w1.heap.size, 0, none⟩))) w13 (.agg gR4_3) w13 ∧ K (.tuple #[.agg gR4_3, .int .i64 8]) w13
       else
       ∃ g44 : Array Value, Ru (Instr.loadAt 183 (.pointer (some ⟨q, 0, none⟩))) w12 (.agg g44) w12 ∧ ∃ w14 : World, RuU (Instr.storeAt 183 (.pointer (some ⟨w1.heap.size, 0, none⟩)) (.agg g44)) w12 w14 ∧ ∃ gR4_4 : Array Value, Ru (Instr.loadAt 183 (.pointer (some ⟨w1.heap.size, 0, none⟩))) w14 (.agg gR4_4) w14 ∧ K (.tuple #[.agg gR4_4, .int .i64 0]) w14) := by
    intro w9 q p e1 p2 e2 m9 hq hat hp hpq hap hp2 hpq2 has
    rw [wrap64 (x := (leN ((xs.drop 4).take 2) : Int)) (by omega) (by omega)]
    obtain ⟨w10, c1, c2, c3, c4⟩ := hat.put (T := 183) (vs := rV6 (readH xs).no (some ⟨p, 0, none⟩) e1 (some ⟨p2, 0, none⟩) e2) agg_rhead rfl rfl (one_rV6 _ _ _ _ _)
    have m10 : Mod No w2 w10 := m9.own c3 hq
    have ra : Row w10 (some ⟨p, 0, none⟩) (u8L (readH xs).bs) := hap.keep c3 fun x e hx => by cases e; exact hpq hx
    have rs : Row w10 (some ⟨p2, 0, none⟩) (u8L (readH xs).ss) := has.keep c3 fun x e hx => by cases e; exact hpq2 hx
    refine ⟨w10, c1, _, (q2.keep m10 id).at.all agg_geo rfl, _, c2.at.all agg_rhead rfl, ?_⟩
    have last : ∀ (w12 : World) (b : Bool), Mod No w10 w12 → (b = false ↔ hOk g (readH xs) = true ∧ grpB g (readH xs) = xs) → ∃ b42 : Bool, nth [.bool b] 0 = .bool b42 ∧ (bif b42 then
        ∃ g43 : Array Value, Al (Instr.build 183 #[]) (.agg g43) ∧ ∃ w13 : World, RuU (Instr.storeAt 183 (.pointer (some ⟨w1.heap.size, 0, none⟩)) (.agg g43)) w12 w13 ∧ ∃ gR4_3 : Array Value, Ru (Instr.loadAt 183 (.pointer (some ⟨w1.heap.size, 0, none⟩))) w13 (.agg gR4_3) w13 ∧ K (.tuple #[.agg gR4_3, .int .i64 8]) w13
        else
        ∃ g44 : Array Value, Ru (Instr.loadAt 183 (.pointer (some ⟨q, 0, none⟩))) w12 (.agg g44) w12 ∧ ∃ w14 : World, RuU (Instr.storeAt 183 (.pointer (some ⟨w1.heap.size, 0, none⟩)) (.agg g44)) w12 w14 ∧ ∃ gR4_4 : Array Value, Ru (Instr.loadAt 183 (.pointer (some ⟨w1.heap.size, 0, none⟩))) w14 (.agg gR4_4) w14 ∧ K (.tuple #[.agg gR4_4, .int .i64 0]) w14) := by
      intro w12 b m12 hb
      refine ⟨_, rfl, cond_of (fun h => ⟨_, build_rhead0, ?_⟩) (fun h => ⟨_, (c2.keep m12 id).at.all agg_rhead rfl, ?_⟩)⟩
      · exact fin w12 8 (m10.no m12) (by decide) (by unfold hGet; rw [if_neg (by rw [hg]; simp), if_neg (by omega), if_neg fun e => by rw [hb.2 e] at h; cases h])
      · obtain ⟨w14, f1, f2, f3, f4⟩ := ((b2.keep m10 id).keep m12 id).put (T := 183) (vs := rV6 (readH xs).no (some ⟨p, 0, none⟩) e1 (some ⟨p2, 0, none⟩) e2) agg_rhead rfl rfl (one_rV6 _ _ _ _ _)
        refine ⟨w14, f1, _, f2.at.all agg_rhead rfl, ?_⟩
        have eh : hGet g xs = (readH xs, 0) := by unfold hGet; rw [if_neg (by rw [hg]; simp), if_neg (by omega), if_pos (hb.1 h)]
        have := h2 (by rw [eh]) w14 (some ⟨p, 0, none⟩) e1 (some ⟨p2, 0, none⟩) e2 ((m2.no (m10.no m12)).own f3 a3.size)
        rw [eh] at this
        exact this ((ra.nos m12).keep f3 fun x e hx => by cases e; have hx : p = w1.heap.size := hx; omega) ((rs.nos m12).keep f3 fun x e hx => by cases e; have hx : p2 = w1.heap.size := hx; omega)
    refine rhPut_c hwf ra rs (fun ho w11 m11 => ⟨_, _, _, _, rfl, Share.dup (tt rfl ?_)⟩) (fun ho w11 b d m11 o11 => ⟨_, _, _, _, rfl, Share.dup (ff rfl ⟨_, str_run (xs := grpB g (readH xs)) mix_sup o11.rowU.row (grpB_len hwf), _, str_run (xs := xs) mix_sup (hr2.nos (m10.no m11)) hl2, ?_⟩)⟩)
    · refine last w11 true m11 ⟨fun e => (by cases e), fun e => ?_⟩
      rw [ho] at e; cases e.1
    · rw [beq_toList]
      refine last w11 _ m11 ?_
      rw [Bool.not_eq_false', decide_eq_true_iff]
      exact ⟨fun e => ⟨ho, e⟩, fun e => e.2⟩
  have na : a ≠ none := fun e => by
    rcases hr with h | ⟨b, o, h, _⟩
    · have := congrArg List.length h; simp [hl2] at this
    · rw [h] at e; cases e
  have hrd : Row (Go.Den.drew w3) a (u8L xs) := hr2.nos m3.drew
  have md : Mod No w2 (Go.Den.drew w3) := m3.drew
  have g4 : ∀ {w' : World} {Q : Value → World → Prop}, Row w' a (u8L xs) → Q (.int .u64 (leN ((xs.drop 4).take 2) : Int)) w' → Cal Tryz.prog F_leveeref01_Get #[.slice (cutA a c (4 : Int).toNat 1) ((6 : Int).toNat - (4 : Int).toNat) (c - (4 : Int).toNat)] w' Q := fun hr' hq => getR (i := 4) (m := 2) hl2 hc hr' (by omega) (by omega) rfl hq
  have l16 : ∀ {w' : World} {Q : Value → World → Prop}, Row w' a (u8L xs) → (∀ w'' b cap, w'.heap.size ≤ b → Mod No w' w'' → Row w'' (some ⟨b, 0, none⟩) (u8L (readH xs).bs) → b < w''.heap.size → Q (.slice (some ⟨b, 0, none⟩) 16 cap) w'') → Cal Tryz.prog F_leveeref01_Lent #[.slice (cutA a c (16 : Int).toNat 1) ((32 : Int).toNat - (16 : Int).toNat) (c - (16 : Int).toNat)] w' Q := fun hr' hq =>
    Lent_c (xs := (readH xs).bs) hwf.1 (hr'.cut (by omega) (by omega)) (fun e => absurd (cutA_none e) na) (by decide) fun w'' b cap hb m hlent => hq w'' b cap hb m hlent.row hlent.2.2.lt
  have l8 : ∀ {w' : World} {Q : Value → World → Prop}, Row w' a (u8L xs) → (∀ w'' b cap, w'.heap.size ≤ b → Mod No w' w'' → Row w'' (some ⟨b, 0, none⟩) (u8L (readH xs).ss) → b < w''.heap.size → Q (.slice (some ⟨b, 0, none⟩) 8 cap) w'') → Cal Tryz.prog F_leveeref01_Lent #[.slice (cutA a c (32 : Int).toNat 1) ((40 : Int).toNat - (32 : Int).toNat) (c - (32 : Int).toNat)] w' Q := fun hr' hq =>
    Lent_c (xs := (readH xs).ss) hwf.2 (hr'.cut (by omega) (by omega)) (fun e => absurd (cutA_none e) na) (by decide) fun w'' b cap hb m hlent => hq w'' b cap hb m hlent.row hlent.2.2.lt
  have hs3 : w2.heap.size ≤ (Go.Den.drew w3).heap.size := md.size
  refine ⟨_, _, _, slice_lh elemN_bytes (by omega) (by omega) (by omega), _, _, _, slice_lh elemN_bytes (by omega) (by omega) (by omega), _, _, _, slice_lh elemN_bytes (by omega) (by omega) (by omega), ?_⟩
  refine ⟨g4 hrd ⟨_, rfl, l16 hrd fun w7 p e1 hp m7 rp lp => ⟨_, _, _, rfl, l8 (hrd.nos m7) fun w8 p2 e2 hp2 m8 rp2 lp2 => ⟨_, _, _, rfl, _, build_rhead _ _ _ _ _, ?_⟩, ?_⟩, ?_⟩, ?_⟩
  · obtain ⟨w9, u1, u2, u3, u4⟩ := new_u (P := Tryz.prog) (w := w8) (T := 183) zero_rhead
    have k7 := m7.size
    have k8 := m8.size
    exact ⟨_, w9, u1, tail w9 _ p e1 p2 e2 (md.no (m7.no (m8.no u3))) (by omega) u2 (by omega) (by omega) ((rp.nos m8).nos u3) (by omega) (by omega) (rp2.nos u3)⟩
  · obtain ⟨w9, u1, u2, u3, u4⟩ := new_u (P := Tryz.prog) (w := w7) (T := 183) zero_rhead
    have k7 := m7.size
    refine ⟨_, w9, u1, l8 ((hrd.nos m7).nos u3) fun w8 p2 e2 hp2 m8 rp2 lp2 => ⟨_, _, _, rfl, _, build_rhead _ _ _ _ _, ?_⟩⟩
    exact tail w8 _ p e1 p2 e2 (md.no (m7.no (u3.no m8))) (by omega) (u2.keep m8 id) (by omega) (by omega) ((rp.nos u3).nos m8) (by omega) (by omega) rp2
  · obtain ⟨w9, u1, u2, u3, u4⟩ := new_u (P := Tryz.prog) (w := Go.Den.drew w3) (T := 183) zero_rhead
    refine ⟨_, w9, u1, l16 (hrd.nos u3) fun w7 p e1 hp m7 rp lp => ⟨_, _, _, rfl, l8 ((hrd.nos u3).nos m7) fun w8 p2 e2 hp2 m8 rp2 lp2 => ⟨_, _, _, rfl, _, build_rhead _ _ _ _ _, ?_⟩⟩⟩
    have k7 := m7.size
    exact tail w8 _ p e1 p2 e2 (md.no (u3.no (m7.no m8))) (by omega) ((u2.keep m7 id).keep m8 id) (by omega) (by omega) (rp.nos m8) (by omega) (by omega) rp2
  · obtain ⟨w9, u1, u2, u3, u4⟩ := new_u (P := Tryz.prog) (w := Go.Den.drew w3) (T := 183) zero_rhead
    refine ⟨_, w9, u1, g4 (hrd.nos u3) ⟨_, rfl, l16 (hrd.nos u3) fun w7 p e1 hp m7 rp lp => ⟨_, _, _, rfl, l8 ((hrd.nos u3).nos m7) fun w8 p2 e2 hp2 m8 rp2 lp2 => ⟨_, _, _, rfl, _, build_rhead _ _ _ _ _, ?_⟩⟩⟩⟩
    have k7 := m7.size
    exact tail w8 _ p e1 p2 e2 (md.no (u3.no (m7.no m8))) (by omega) ((u2.keep m7 id).keep m8 id) (by omega) (by omega) (rp.nos m8) (by omega) (by omega) rp2
end
end Go.Proofs.YtelhlihjihklbaaGreat
end
section
open Go Go.Den Go.Proofs
namespace Go.Den
structure Nd where
 kind:Int
 links:Int
 size:Int
 id:Int
 p:List Int
deriving DecidableEq
theorem iL_inj:∀ {x y:List Int},iL x=iL y->x=y
 | [],[],_=>rfl
 | [],_::_,h=>by cases h
 | _::_,[],h=>by cases h
 | a::x,b::y,h=>by
  have h1:(Value.int .i64 a)::iL x=(Value.int .i64 b)::iL y:=h
  obtain ⟨h2,h3⟩:=List.cons.inj h1
  have h4:a=b:=by simpa using h2
  rw [iL_inj h3,h4]
def ndL (i:Nd):List Int:=i.kind::i.links::i.size::i.id::i.p
def nV (i:Nd):List Value:=iL (ndL i)
def nWf (i:Nd):Prop:=i.p.length=8
def nZ:Nd:=⟨0,0,0,0,[0,0,0,0,0,0,0,0]⟩
theorem nZ_wf:nWf nZ:=rfl
theorem nV_len {i:Nd} (h:nWf i):(nV i).length=12:=by unfold nV; rw [length_iL]; simp [ndL]; exact h
theorem one_nV (i:Nd):∀ v∈nV i,v.oneCell'=true:=one_iL _
def nSized (i:Nd):Bool:=decide (0<=i.links/\i.links<=1000/\0<=i.size/\i.size<=1066496/\1<=i.id/\i.id<=4611686018427387904)
def nIn (n:Int):Bool:=decide (0<=n/\n<4096)
def nOk (i:Nd):Bool:=i.p.all nIn&&(if i.kind=0 then decide (i=nZ) else if i.kind=2 then decide (i.size % 256=0)&&nSized i else if i.kind=1 then nSized i else if i.kind=3 then nSized i&&decide (1<=i.size/\i.size<=255) else false)
end Go.Den
namespace Go.Proofs.YtelhlihjihklbaaGreat
theorem agg_ino:aggN Tryz.prog 218=some 12:=by kernel_rfl
theorem zero_ino:zeroC Tryz.prog 218=some (nV nZ):=by kernel_rfl
theorem build_ino0:Al (Instr.build 218 #[]) (.agg ⟨nV nZ⟩):=fun w=>by kernel_rfl
theorem arrI8:arrN Tryz.prog 64=some (8,1):=by kernel_rfl
theorem arrI6:arrN Tryz.prog 216=some (6,1):=by kernel_rfl
theorem aggI8:aggN Tryz.prog 64=some 8:=by kernel_rfl
theorem zeroI8:zeroC Tryz.prog 64=some (iL [0,0,0,0,0,0,0,0]):=by kernel_rfl
theorem elemN_ints:elemN Tryz.prog 80=some 1:=by kernel_rfl
theorem ieq (s t:Nd) (hs:nWf s) (ht:nWf t) {o1 o2:Operand}:Al (eqS .eql 218 o1 o2 (.agg ⟨nV s⟩) (.agg ⟨nV t⟩)) (.bool (decide (s=t))):=fun w=>by
 have hc:∀ s:Nd,nWf s->confK (List.replicate 12 (.i .i64)) (nV s):=fun s hs=>⟨by rw [nV_len hs]; rfl,fun j k v hk hv=>by
  have e1:k=.i .i64:=by
   rw [List.getElem?_replicate] at hk
   split at hk
   ·exact (Option.some.inj hk).symm
   ·cases hk
  subst e1
  unfold nV iL at hv
  rw [List.getElem?_map] at hv
  cases hx2:(ndL s)[j]? with
  | none=>rw [hx2] at hv; cases hv
  | some c=>rw [hx2] at hv; cases hv; rfl⟩
 obtain ⟨b,hb,h1,_⟩:=eq_deep (P:=Tryz.prog) (T:=218) (ks:=List.replicate 12 (.i .i64)) (by kernel_rfl) (by kernel_rfl) agg_ino (o1:=o1) (o2:=o2) (hc s hs) (hc t ht) w
 rw [h1]
 have:b=decide (s=t):=by
  rw [Bool.eq_iff_iff,hb,decide_eq_true_iff]
  constructor
  ·intro e
   have e2:=iL_inj e
   obtain ⟨a,b,c,d,p⟩:=s
   obtain ⟨a',b',c',d',p'⟩:=t
   simpa [ndL] using e2
  ·intro e; rw [e]
 rw [this]
section
variable {w:World} {K:Value->World->Prop}
theorem sized_c {i:Nd} (_hw:nWf i) (hk:∀ w',Mod No w w'->K (.bool (nSized i)) w'):Cal Tryz.prog F_inode_sized #[.agg ⟨nV i⟩] w K:=by
 apply C_inode_sized
 unfold D_inode_sized
 obtain ⟨w1,a1,a2,a3,a4⟩:=box_u (P:=Tryz.prog) (w:=w) (T:=218) (cs:=nV i)
 have l1:Ru (Instr.loadAt 3 (.pointer (some (Addr.add ⟨w.heap.size,0,none⟩ 1)))) w1 (.int .i64 i.links) w1:=a2.at.fld sc_int rfl
 have l2:Ru (Instr.loadAt 2 (.pointer (some (Addr.add ⟨w.heap.size,0,none⟩ 2)))) w1 (.int .i64 i.size) w1:=a2.at.fld sc_i64 rfl
 have l3:Ru (Instr.loadAt 2 (.pointer (some (Addr.add ⟨w.heap.size,0,none⟩ 3)))) w1 (.int .i64 i.id) w1:=a2.at.fld sc_i64 rfl
 have no:∀ {p:Prop},(¬ (0<=i.links/\i.links<=1000/\0<=i.size/\i.size<=1066496/\1<=i.id/\i.id<=4611686018427387904))->∃ b2:Bool,nth [.bool false] 0=.bool b2/\K (.bool b2) w1:=fun h=>⟨_,rfl,by
  have e:false=nSized i:=by unfold nSized; rw [decide_eq_false h]
  rw [e]; exact hk _ a3⟩
 refine ⟨_,w1,a1,Share.dup ⟨_,l1,cond_of (fun h1=>⟨_,l1,cond_of (fun h2=>⟨_,l2,cond_of (fun h3=>⟨_,l2,cond_of (fun h4=>⟨_,l3,cond_of (fun h5=>⟨_,l3,_,rfl,?_⟩) (fun h5=>no (p:=True) fun e=>of_decide_eq_false h5 (by omega))⟩) (fun h4=>no (p:=True) fun e=>of_decide_eq_false h4 (by omega))⟩) (fun h3=>no (p:=True) fun e=>of_decide_eq_false h3 (by omega))⟩) (fun h2=>no (p:=True) fun e=>of_decide_eq_false h2 (by omega))⟩) (fun h1=>no (p:=True) fun e=>of_decide_eq_false h1 (by omega))⟩⟩
 have h1:=of_decide_eq_true h1
 have h2:=of_decide_eq_true h2
 have h3:=of_decide_eq_true h3
 have h4:=of_decide_eq_true h4
 have h5:=of_decide_eq_true h5
 have e:decide (i.id<=4611686018427387904)=nSized i:=by
  unfold nSized
  by_cases h6:i.id<=4611686018427387904
  ·rw [decide_eq_true h6,decide_eq_true (show _/\_/\_/\_/\_/\_ from ⟨h1,h2,h3,h4,h5,h6⟩)]
  ·rw [decide_eq_false h6,decide_eq_false fun e=>h6 e.2.2.2.2.2]
 rw [e]; exact hk _ a3
theorem allP_c {i:Nd} (hw:nWf i) (hk:∀ w',Mod No w w'->K (.agg ⟨iL i.p⟩) w'):Cal Tryz.prog F_inode_all #[.agg ⟨nV i⟩] w K:=by
 apply C_inode_all
 unfold D_inode_all
 obtain ⟨w1,a1,a2,a3,a4⟩:=box_u (P:=Tryz.prog) (w:=w) (T:=218) (cs:=nV i)
 obtain ⟨w2,b1,b2,b3,b4⟩:=new_u (P:=Tryz.prog) (w:=w1) (T:=64) zeroI8
 obtain ⟨w3,c1,c2,c3,c4⟩:=new_u (P:=Tryz.prog) (w:=w2) (T:=64) zeroI8
 have m3:=a3.no (b3.no c3)
 have q1:=(a2.keep b3 id).keep c3 id
 obtain ⟨k,l,s,d,p⟩:=i
 have hw:p.length=8:=hw
 match p,hw with
 | [p0,p1,p2,p3,p4,p5,p6,p7],_ =>
 have ad4:Addr.add ⟨w.heap.size,0,none⟩ 4=⟨w.heap.size,4,none⟩:=by rw [add_none]
 have hsub:At w3 w.heap.size 4 (iL [p0,p1,p2,p3,p4,p5]):=by
  have:=q1.at.sub (i:=4) (m:=6) (show 4+6<=12 by decide)
  exact this
 obtain ⟨w4,d1,d2,d3,d4⟩:=copy_in (P:=Tryz.prog) (T:=80) (T2:=80) (ty:=3) (i:=0) (n:=8) (c:=8) (n2:=6) (c2:=6) (a2:=some ⟨w.heap.size,4,none⟩) (src:=iL [p0,p1,p2,p3,p4,p5]) elemN_ints c2.drew (by rw [length_iL]; decide) (.inr ⟨_,_,rfl,hsub.drew⟩) (by rw [length_iL]; rfl) (one_iL _)
 have d2:AtU w4 w2.heap.size 0 (iL [p0,p1,p2,p3,p4,p5,0,0]):=d2
 have q4:=q1.drew.keep d3 (fun e=>by have:=a3.size; omega)
 obtain ⟨w5,e1,e2,e3,e4⟩:=d2.store (P:=Tryz.prog) (T:=3) (i:=6) (v:=.int .i64 p6) sc_int (show 6<8 by decide) rfl
 obtain ⟨w6,f1,f2,f3,f4⟩:=e2.store (P:=Tryz.prog) (T:=3) (i:=7) (v:=.int .i64 p7) sc_int (show 7<8 by decide) rfl
 have f2:AtU w6 w2.heap.size 0 (iL [p0,p1,p2,p3,p4,p5,p6,p7]):=f2
 have M6:Mod No w2 w6:=((c3.drew.own d3 (Nat.le_refl _)).own e3 (Nat.le_refl _)).own f3 (Nat.le_refl _)
 have q2:=b2.keep M6 id
 obtain ⟨w7,g1,g2,g3,g4⟩:=q2.put (T:=64) (vs:=iL [p0,p1,p2,p3,p4,p5,p6,p7]) aggI8 (by rw [length_iL]; rfl) (by rw [length_iL]; rfl) (one_iL _)
 refine ⟨_,w1,a1,_,w2,b1,_,w3,c1,_,_,_,sliceA_all arrI8,?_⟩
 rw [ad4]
 refine ⟨_,_,_,sliceA_all arrI6,_,w4,d1,_,q4.at.fld (j:=10) sc_int rfl,_,q4.at.fld (j:=11) sc_int rfl,_,index_arr arrI8 (by decide) (by decide),w5,?_,_,index_arr arrI8 (by decide) (by decide),w6,?_,_,f2.at.all aggI8 (by rw [length_iL]; rfl),w7,g1,_,g2.at.all aggI8 (by rw [length_iL]; rfl),?_⟩
 ·rw [add_none]; exact e1
 ·rw [add_none]; exact f1
 ·exact hk w7 (a3.no ((b3.no M6).own g3 (Nat.le_refl _)))
theorem inoRight_c {i:Nd} (hw:nWf i) (hk:∀ w',Mod No w w'->K (.bool (nOk i)) w'):Cal Tryz.prog F_inode_Right #[.agg ⟨nV i⟩] w K:=by
 apply C_inode_Right
 unfold D_inode_Right
 obtain ⟨w1,a1,a2,a3,a4⟩:=box_u (P:=Tryz.prog) (w:=w) (T:=218) (cs:=nV i)
 refine ⟨_,w1,a1,_,a2.at.all agg_ino (nV_len hw),allP_c hw fun w2 m2=>⟨_,rfl,?_⟩⟩
 have M2:=a3.no m2
 have q2:=a2.keep m2 id
 have hw8:i.p.length=8:=hw
 refine ⟨fun x w3=>∃ (j:Nat) (y z:Value),j<=8/\x=[y,.int .i64 j,z]/\(i.p.take j).all nIn=true/\w3=w2,fun x _=>(8-nI x 1).toNat,⟨0,_,_,by omega,rfl,by simp,rfl⟩,?_⟩
 rintro x w3 ⟨j,y,z,hj,rfl,hall,rfl⟩
 refine ⟨_,rfl,cond_of (fun hl=>?_) (fun hl=>?_)⟩
 ·have hl:=of_decide_eq_true hl
  have hjp:j<i.p.length:=by omega
  refine ⟨i.p[j],index_val Tryz.underlying64 arrI8 Tryz.underlying3 (by simp) (by simp) (by omega) (iL_get hjp),Share.cut (fun z w4=>w4=w3/\z=[.bool (!nIn i.p[j])]) (cond_of (fun h=>⟨rfl,?_⟩) (fun h=>⟨rfl,?_⟩)) ?_⟩
  ·have h:=of_decide_eq_true h
   unfold nIn; rw [decide_eq_false (by omega)]; rfl
  ·have h:=of_decide_eq_false h
   have e:decide (i.p[j] >= 4096)=!nIn i.p[j]:=by
    unfold nIn
    by_cases h2:i.p[j] >= 4096
    ·rw [decide_eq_true h2,decide_eq_false (show ¬ (0<=i.p[j]/\i.p[j]<4096) by omega)]; rfl
    ·rw [decide_eq_false h2,decide_eq_true (show 0<=i.p[j]/\i.p[j]<4096 by omega)]; rfl
   rw [e]
  rintro z w4 ⟨rfl,rfl⟩
  refine ⟨_,rfl,cond_of (fun h=>?_) (fun h=>?_)⟩
  ·rw [Bool.not_eq_true'] at h
   have e:nOk i=false:=by
    unfold nOk
    have:i.p.all nIn=false:=List.all_eq_false.2 ⟨i.p[j],List.getElem_mem hjp,by rw [h]; simp⟩
    rw [this]; rfl
   rw [<- e]; exact hk _ M2
  ·rw [Bool.not_eq_false'] at h
   rw [wrap64 (x:=(j:Int)+1) (by omega) (by omega)]
   exact ⟨⟨j+1,_,_,by omega,by simp [nth]; exact ⟨rfl,rfl⟩,by rw [List.take_succ_eq_append_getElem hjp,List.all_append,hall]; simp [h],rfl⟩,by simp [nI,nth]; omega⟩
 have hl:=of_decide_eq_false hl
 have hj8:j=8:=by omega
 subst hj8
 rw [List.take_of_length_le (by omega)] at hall
 have lk:Ru (Instr.loadAt 3 (.pointer (some (Addr.add ⟨w.heap.size,0,none⟩ 0)))) w3 (.int .i64 i.kind) w3:=q2.at.fld sc_int rfl
 have ls:∀ {w':World},Mod No w3 w'->Ru (Instr.loadAt 2 (.pointer (some (Addr.add ⟨w.heap.size,0,none⟩ 2)))) w' (.int .i64 i.size) w':=fun m=>(q2.keep m id).at.fld sc_i64 rfl
 have ek:nOk i=(if i.kind=0 then decide (i=nZ) else if i.kind=2 then decide (i.size % 256=0)&&nSized i else if i.kind=1 then nSized i else if i.kind=3 then nSized i&&decide (1<=i.size/\i.size<=255) else false):=by unfold nOk; rw [hall,Bool.true_and]
 rw [ek] at hk
 refine ⟨_,lk,Share.cut (fun _ w11=>w11=w3/\i.kind≠0/\i.kind≠2/\i.kind≠1/\i.kind≠3) (Share.cut (fun _ w9=>w9=w3/\((i.kind=2/\i.size % 256=0)\/i.kind=1)) ?_ ?_) ?_⟩
 ·rw [beqI,beqI,beqI,beqI]
  refine cond_of (fun h=>?_) (fun h=>cond_of (fun h2=>⟨_,ls (Mod.refl _ _),?_⟩) (fun h2=>cond_of (fun h3=>⟨rfl,.inr (of_decide_eq_true h3)⟩) (fun h3=>cond_of (fun h4=>?_) (fun h4=>⟨rfl,of_decide_eq_false h,of_decide_eq_false h2,of_decide_eq_false h3,of_decide_eq_false h4⟩))))
  ·have h:=of_decide_eq_true h
   obtain ⟨w5,b1,b2,b3,b4⟩:=new_u (P:=Tryz.prog) (w:=w3) (T:=218) zero_ino
   obtain ⟨w6,c1,c2,c3,c4⟩:=b2.put (T:=218) (vs:=nV nZ) agg_ino rfl rfl (one_nV _)
   have m6:Mod No w3 w6:=b3.own c3 (Nat.le_refl _)
   refine ⟨_,build_ino0,_,w5,b1,w6,c1,_,(q2.keep m6 id).at.all agg_ino (nV_len hw),_,c2.at.all agg_ino rfl,_,ieq i nZ hw nZ_wf,?_⟩
   rw [if_pos h] at hk
   exact hk w6 (M2.no m6)
  ·have h:=of_decide_eq_false h
   have h2:=of_decide_eq_true h2
   rw [bneI]
   have hm:Int.tmod i.size 256=0↔i.size % 256=0:=by
    rw [<- Int.dvd_iff_tmod_eq_zero,Int.dvd_iff_emod_eq_zero]
   refine cond_of (fun h3=>?_) (fun h3=>⟨rfl,.inl ⟨h2,hm.1 (Classical.not_not.1 (of_decide_eq_false h3))⟩⟩)
   have h3:=of_decide_eq_true h3
   rw [if_neg h,if_pos h2,decide_eq_false fun e=>h3 (hm.2 e),Bool.false_and] at hk
   exact hk _ M2
  ·have h:=of_decide_eq_false h
   have h2:=of_decide_eq_false h2
   have h3:=of_decide_eq_false h3
   have h4:=of_decide_eq_true h4
   rw [if_neg h,if_neg h2,if_neg h3,if_pos h4] at hk
   refine Share.cut (fun z w8=>Mod No w3 w8/\z=[.bool (nSized i&&decide (1<=i.size/\i.size<=255))]) ⟨_,q2.at.all agg_ino (nV_len hw),sized_c hw fun w7 m7=>⟨_,rfl,cond_of (fun h5=>⟨_,ls m7,cond_of (fun h6=>⟨_,ls m7,m7,?_⟩) (fun h6=>⟨m7,?_⟩)⟩) (fun h5=>⟨m7,?_⟩)⟩⟩ ?_
   ·have h6:=of_decide_eq_true h6
    rw [h5,Bool.true_and]
    by_cases h7:i.size<=255
    ·rw [decide_eq_true h7,decide_eq_true (show _/\_ from ⟨h6,h7⟩)]
    ·rw [decide_eq_false h7,decide_eq_false fun e=>h7 e.2]
   ·have h6:=of_decide_eq_false h6
    rw [decide_eq_false (show ¬ (1<=i.size/\i.size<=255) from fun e=>h6 e.1),Bool.and_false]
   ·rw [h5]; rfl
   ·rintro z w8 ⟨m8,rfl⟩
    exact ⟨_,rfl,hk _ (M2.no m8)⟩
 ·rintro z w9 ⟨rfl,hc⟩
  refine ⟨_,q2.at.all agg_ino (nV_len hw),sized_c hw fun w10 m10=>⟨_,rfl,?_⟩⟩
  rcases hc with ⟨h2,h3⟩ | h1
  ·rw [if_neg (by omega),if_pos h2,decide_eq_true h3,Bool.true_and] at hk
   exact hk _ (M2.no m10)
  ·rw [if_neg (by omega),if_neg (by omega),if_pos h1] at hk
   exact hk _ (M2.no m10)
 ·rintro z w11 ⟨rfl,h1,h2,h3,h4⟩
  rw [if_neg h1,if_neg h2,if_neg h3,if_neg h4] at hk
  exact hk _ M2
end
end Go.Proofs.YtelhlihjihklbaaGreat
end
section
open Go Go.Den Go.Proofs
namespace Go.Den
theorem nOk_b {i:Nd} (h:nOk i=true):0<=i.kind/\i.kind<=3/\0<=i.links/\i.links<=1000/\0<=i.size/\i.size<=1066496/\0<=i.id/\i.id<=4611686018427387904/\∀ n∈i.p,0<=n/\n<4096:=by
 unfold nOk at h
 rw [Bool.and_eq_true] at h
 obtain ⟨h1,h2⟩:=h
 have hp:∀ n∈i.p,0<=n/\n<4096:=fun n hn=>of_decide_eq_true (List.all_eq_true.1 h1 n hn)
 have hs:nSized i=true->0<=i.links/\i.links<=1000/\0<=i.size/\i.size<=1066496/\1<=i.id/\i.id<=4611686018427387904:=fun h=>of_decide_eq_true h
 split at h2
 ·have e:=of_decide_eq_true h2
  subst e
  exact ⟨by decide,by decide,by decide,by decide,by decide,by decide,by decide,by decide,hp⟩
 split at h2
 ·rw [Bool.and_eq_true] at h2
  have:=hs h2.2
  exact ⟨by omega,by omega,by omega,by omega,by omega,by omega,by omega,by omega,hp⟩
 split at h2
 ·have:=hs h2
  exact ⟨by omega,by omega,by omega,by omega,by omega,by omega,by omega,by omega,hp⟩
 split at h2
 ·rw [Bool.and_eq_true] at h2
  have:=hs h2.1
  exact ⟨by omega,by omega,by omega,by omega,by omega,by omega,by omega,by omega,hp⟩
 ·cases h2
end Go.Den
namespace Go.Proofs.YtelhlihjihklbaaGreat
def iFront (i:Nd):List UInt8:=[UInt8.ofNat i.kind.toNat,0]++toLe 2 i.links.toNat++toLe 4 i.size.toNat++toLe 8 i.id.toNat
def iNames (p:List Int):List UInt8:=p.flatMap fun n=>toLe 2 n.toNat
def inoB (i:Nd):List UInt8:=iFront i++iNames i.p++List.replicate 32 0
theorem iFront_len (i:Nd):(iFront i).length=16:=by simp [iFront]
theorem iNames_len:∀ p:List Int,(iNames p).length=2*p.length
 | []=>rfl
 | a::r=>by
  have e:iNames (a::r)=toLe 2 a.toNat++iNames r:=rfl
  rw [e,List.length_append,length_toLe,iNames_len r,List.length_cons]; omega
theorem inoB_len {i:Nd} (hw:nWf i):(inoB i).length=64:=by
 have hw:i.p.length=8:=hw
 unfold inoB
 rw [List.length_append,List.length_append,iFront_len,iNames_len,hw,List.length_replicate]
theorem iNames_snoc {p:List Int} {j:Nat} (hj:j<p.length):iNames (p.take (j+1))=iNames (p.take j)++toLe 2 p[j].toNat:=by
 unfold iNames
 rw [List.take_succ_eq_append_getElem hj,List.flatMap_append]; simp
section
variable {w:World} {K:Value->World->Prop}
set_option maxRecDepth 4000 in
theorem inoPut_c {i:Nd} (hw:nWf i) (h1:nOk i=false->∀ w',Mod No w w'->K (.tuple #[.slice none 0 0,.int .i64 1]) w')
  (h2:nOk i=true->∀ w' q,Mod No w w'->w.heap.size<=q->AtU w' q 0 (u8L (inoB i))->K (.tuple #[.slice (some ⟨q,0,none⟩) 64 64,.int .i64 0]) w'):Cal Tryz.prog F_inode_Put #[.agg ⟨nV i⟩] w K:=by
 apply C_inode_Put
 unfold D_inode_Put
 obtain ⟨w1,a1,a2,a3,a4⟩:=box_u (P:=Tryz.prog) (w:=w) (T:=218) (cs:=nV i)
 refine ⟨_,w1,a1,_,a2.at.all agg_ino (nV_len hw),inoRight_c hw fun w2 m2=>⟨_,rfl,cond_of (fun h=>h1 (by simpa using h) _ (a3.no m2)) (fun h=>?_)⟩⟩
 have ho:nOk i=true:=by simpa using h
 have hb:=nOk_b ho
 have hw8:i.p.length=8:=hw
 obtain ⟨w3,c1,c2,c3,c4⟩:=make_z (w:=w2) (n:=64) (by omega)
 have hne:¬ (w.heap.size=w2.heap.size):=by have:=m2.size; omega
 have q3:=(a2.keep m2 id).keep c3 id
 obtain ⟨w4,d1,d2,d3,d4⟩:=c2.store (P:=Tryz.prog) (T:=5) (i:=0) (v:=.int .u8 ((i.kind.toNat:Nat):Int)) sc_u8 (by rw [length_u8L,List.length_replicate]; omega) rfl
 have ek:IntKind.u8.wrap i.kind=((i.kind.toNat:Nat):Int):=by rw [wrapU8]; omega
 rw [u8L_set _ _ _ (by omega)] at d2
 have d2:AtU w4 w2.heap.size 0 (u8L ([UInt8.ofNat i.kind.toNat,0]++List.replicate 62 0)):=d2
 have M4:Mod No w2 w4:=c3.own d3 (Nat.le_refl _)
 have q4:=q3.keep d3 (fun e=>hne e)
 refine ⟨_,_,_,w3,c1,_,q3.at.fld sc_int rfl,_,index_slice elemN_bytes (by omega) (by omega),w4,?_,?_⟩
 ·rw [add_none,ek]; exact d1
 refine ⟨_,_,_,slice_lh elemN_bytes (by omega) (by omega) (by omega),_,q4.at.drew.fld sc_int rfl,?_⟩
 rw [show (2:Int).toNat=2 from rfl,cut_some (by omega)]
 refine putz (m:=2) d2.drew rfl (by omega) rfl (by omega) (by omega) (by omega) fun w5 m5 z5 d5=>⟨rfl,?_⟩
 have q5:=q4.drew.keep m5 (fun e=>hne e)
 have M5:=M4.drew.own m5 (Nat.le_refl _)
 refine ⟨_,_,_,slice_lh elemN_bytes (by omega) (by omega) (by omega),_,q5.at.drew.fld sc_i64 rfl,?_⟩
 rw [show (4:Int).toNat=4 from rfl,cut_some (by omega)]
 refine putz (m:=4) d5.drew (by simp) (by omega) rfl (by omega) (by omega) (by omega) fun w6 m6 z6 d6=>⟨rfl,?_⟩
 have q6:=q5.drew.keep m6 (fun e=>hne e)
 have M6:=M5.drew.own m6 (Nat.le_refl _)
 refine ⟨_,_,_,slice_lh elemN_bytes (by omega) (by omega) (by omega),_,q6.at.drew.fld sc_i64 rfl,?_⟩
 rw [show (8:Int).toNat=8 from rfl,cut_some (by omega)]
 refine putz (m:=8) d6.drew (by simp) (by omega) rfl (by omega) (by omega) (by omega) fun w7 m7 z7 d7=>⟨rfl,?_⟩
 have q7:=q6.drew.keep m7 (fun e=>hne e)
 have M7:=M6.drew.own m7 (Nat.le_refl _)
 refine ⟨_,q7.at.all agg_ino (nV_len hw),allP_c hw fun w8 m8=>⟨_,rfl,?_⟩⟩
 have M8:=M7.no m8
 have d8:AtU w8 w2.heap.size 0 (u8L ((iFront i++iNames (i.p.take 0))++List.replicate 48 0)):=by
  rw [List.take_zero,show iNames []=[] from rfl,List.append_nil]; exact d7.keep m8 id
 refine ⟨fun x w9=>∃ j:Nat,j<=8/\x=[.int .i64 j]/\AtU w9 w2.heap.size 0 (u8L ((iFront i++iNames (i.p.take j))++List.replicate (48-2*j) 0))/\Mod No w2 w9,fun x _=>(8-nI x 0).toNat,⟨0,by omega,rfl,d8,M8⟩,?_⟩
 rintro x w9 ⟨j,hj,rfl,hat,m9⟩
 refine ⟨_,rfl,cond_of (fun hl=>?_) (fun hl=>?_)⟩
 ·have hl:=of_decide_eq_true hl
  have hjp:j<i.p.length:=by omega
  have hv:=hb.2.2.2.2.2.2.2.2 _ (List.getElem_mem hjp)
  have e1:IntKind.i64.wrap (16+(IntKind.i64.wrap ((j:Int)*2)))=((16+2*j:Nat):Int):=by rw [wrap64 (x:=(j:Int)*2) (by omega) (by omega),wrap64 (by omega) (by omega)]; omega
  have e2:IntKind.i64.wrap (16+(IntKind.i64.wrap ((IntKind.i64.wrap ((j:Int)+1))*2)))=((18+2*j:Nat):Int):=by rw [wrap64 (x:=(j:Int)+1) (by omega) (by omega),wrap64 (x:=((j:Int)+1)*2) (by omega) (by omega),wrap64 (by omega) (by omega)]; omega
  rw [e1,e2]
  refine ⟨i.p[j],index_val Tryz.underlying64 arrI8 Tryz.underlying3 (by simp) (by simp) (by omega) (iL_get hjp),_,_,_,slice_lh elemN_bytes (by omega) (by omega) (by omega),?_⟩
  rw [show ((16+2*j:Nat):Int).toNat=16+2*j by omega,cut_some (by omega),show ((18+2*j:Nat):Int).toNat-(16+2*j)=2 by omega]
  refine putz (m:=2) hat (by rw [List.length_append,iFront_len,iNames_len,List.length_take]; omega) (by omega) rfl hv.1 (by omega) (by omega) fun w10 m10 z10 d10=>⟨rfl,?_⟩
  rw [wrap64 (x:=(j:Int)+1) (by omega) (by omega)]
  rw [List.append_assoc (iFront i),<- iNames_snoc hjp,show 48-2*j-2=48-2*(j+1) by omega] at d10
  exact ⟨⟨j+1,by omega,by simp,d10,m9.own m10 (Nat.le_refl _)⟩,by simp [nI,nth]; omega⟩
 ·have hl:=of_decide_eq_false hl
  have hj8:j=8:=by omega
  subst hj8
  rw [List.take_of_length_le (by omega)] at hat
  exact h2 ho w9 _ (a3.no (m2.no m9)) (Nat.le_trans (by omega) m2.size) hat
end
end Go.Proofs.YtelhlihjihklbaaGreat
end
section
open Go Go.Den Go.Proofs
namespace Go.Proofs.YtelhlihjihklbaaGreat
def nmAt (xs:List UInt8) (k:Nat):Int:=leN ((xs.drop (16+2*k)).take 2)
def nmTo (xs:List UInt8) (j:Nat):List Int:=(List.range 8).map fun k=>if k<j then nmAt xs k else 0
def readN (xs:List UInt8):Nd:=⟨(xs.getD 0 0).toNat,leN ((xs.drop 2).take 2),leN ((xs.drop 4).take 4),IntKind.i64.wrap (leN ((xs.drop 8).take 8)),nmTo xs 8⟩
def readN4 (xs:List UInt8):Nd:={ readN xs with p:=[0,0,0,0,0,0,0,0] }
theorem readN_wf (xs:List UInt8):nWf (readN xs):=rfl
def inoG (xs:List UInt8):Nd×Int:=if xs.length≠64 then (nZ,4) else if xs.getD 1 0=0/\(xs.drop 32).all (·==0)=true/\nOk (readN xs)=true then (readN xs,0) else (nZ,8)
theorem inoG_wf (xs:List UInt8):nWf (inoG xs).1:=by
 unfold inoG
 split
 ·rfl
 split <;> rfl
theorem nmTo_len (xs:List UInt8) (j:Nat):(nmTo xs j).length=8:=rfl
theorem nmTo_set {xs:List UInt8} {j:Nat} (hj:j<8):(iL (nmTo xs j)).set j (.int .i64 (nmAt xs j))=iL (nmTo xs (j+1)):=by
 match j,hj with
 | 0,_=>rfl
 | 1,_=>rfl
 | 2,_=>rfl
 | 3,_=>rfl
 | 4,_=>rfl
 | 5,_=>rfl
 | 6,_=>rfl
 | 7,_=>rfl
theorem build_ino4 (a b c d:Int):Al (Instr.build 218 #[(0,.int .i64 a),(1,.int .i64 b),(2,.int .i64 c),(3,.int .i64 d)]) (.agg ⟨nV ⟨a,b,c,d,[0,0,0,0,0,0,0,0]⟩⟩):=fun w=>by kernel_rfl
section
variable {w:World} {K:Value->World->Prop}
theorem getP {a:Option Addr} {l c i m m' c':Nat} {xs:List UInt8} {Q:Value->World->Prop} (hl:xs.length=l) (hc:l<=c) (hr:Row w a (u8L xs)) (hi:i+m<=l) (hm:m<=8) (hm':m'=m) (hk:Q (.int .u64 (leN ((xs.drop i).take m):Int)) w):Cal Tryz.prog F_num_Get #[.slice (cutA a c i 1) m' c'] w Q:=by
 subst hm'
 refine Get_c (xs:=(xs.drop i).take m') (by simp; omega) (hr.cut (by omega) (by omega)) (by omega) ?_
 rw [List.take_of_length_le (i:=8) (by simp; omega)]
 exact hk
set_option maxRecDepth 8000 in
theorem inoGet_c {a : Option Addr} {l c : Nat} {xs : List UInt8} (hl : xs.length = l) (hc : l ≤ c) (hr : Row w a (u8L xs)) (h63 : l ≤ 1048576)
    (hk : ∀ w', Mod No w w' → K (.tuple #[.agg ⟨nV (inoG xs).1⟩, .int .i64 (inoG xs).2]) w') : Cal Tryz.prog F_inode_Get #[.slice a l c] w K := by
  apply C_inode_Get
  unfold D_inode_Get
  obtain ⟨w1, b1, b2, b3, b4⟩ := new_u (P := Tryz.prog) (w := w) (T := 218) zero_ino
  have fin : ∀ (w' : World) (i : Nd) (e : Int), Mod No w1 w' → (i, e) = inoG xs → ∃ w3 : World, RuU (Instr.storeAt 218 (.pointer (some ⟨w.heap.size, 0, none⟩)) (.agg ⟨nV i⟩)) w' w3 ∧ ∃ gR2 : Array Value, Ru (Instr.loadAt 218 (.pointer (some ⟨w.heap.size, 0, none⟩))) w3 (.agg gR2) w3 ∧ K (.tuple #[.agg gR2, .int .i64 e]) w3 := fun w' i e m he => by
    have hw : nWf i := by have := inoG_wf xs; rw [← he] at this; exact this
    obtain ⟨w3, c1, c2, c3, c4⟩ := (b2.keep m id).put (T := 218) (vs := nV i) agg_ino rfl (nV_len hw) (one_nV _)
    refine ⟨w3, c1, _, c2.at.all agg_ino (nV_len hw), ?_⟩
    have := hk w3 ((b3.no m).own c3 (Nat.le_refl _))
    rw [← he] at this
    exact this
  refine ⟨_, w1, b1, ?_⟩
  rw [bneI]
  refine cond_of (fun h => ⟨_, build_ino0, ?_⟩) (fun h => ?_)
  · have h := of_decide_eq_true h
    exact fin w1 nZ 4 (Mod.refl _ _) (by unfold inoG; rw [if_pos (by omega)])
  have hl2 : xs.length = 64 := by have := of_decide_eq_false h; omega
  have hl' : l = 64 := by omega
  subst hl'
  have hr1 := hr.nos b3
  have h00 : 0 < xs.length := by omega
  obtain ⟨bb, oo, rfl, _⟩ := row_at hr h00
  have at0 : ∀ {w' : World}, Mod No w1 w' → At w' bb oo (u8L xs) := fun m => by
    obtain ⟨b', o', e, h⟩ := row_at (hr1.nos m) h00
    cases e; exact h
  have ex0 : (xs.getD 0 0) = xs[0] := by rw [List.getD_eq_getElem?_getD, List.getElem?_eq_getElem h00]; rfl
  have ex1 : (xs.getD 1 0) = xs[1]'(by omega) := by rw [List.getD_eq_getElem?_getD, List.getElem?_eq_getElem (by omega : 1 < xs.length)]; rfl
  have l0 : ∀ {w' : World}, Mod No w1 w' → Ru (Instr.loadAt 5 (.pointer (some (Addr.add ⟨bb, oo, none⟩ ((0 : Int).toNat * 1))))) w' (.int .u8 (xs[0].toNat : Int)) w' := fun m => by
    rw [add_none]; exact (at0 m).load (i := 0) sc_u8 (u8L_get h00)
  have l1 : ∀ {w' : World}, Mod No w1 w' → Ru (Instr.loadAt 5 (.pointer (some (Addr.add ⟨bb, oo, none⟩ ((1 : Int).toNat * 1))))) w' (.int .u8 ((xs[1]'(by omega)).toNat : Int)) w' := fun m => by
    rw [add_none]; exact (at0 m).load (i := 1) sc_u8 (u8L_get (by omega))
  have n2 : leN ((xs.drop 2).take 2) < 256 ^ 2 := leN_sub (by omega)
  have n4 : leN ((xs.drop 4).take 4) < 256 ^ 4 := leN_sub (by omega)
  have hx0 := xs[0].toNat_lt
  have eN : (⟨IntKind.i64.wrap (xs[0].toNat : Int), IntKind.i64.wrap (leN ((xs.drop 2).take 2) : Int), IntKind.i64.wrap (leN ((xs.drop 4).take 4) : Int), IntKind.i64.wrap (leN ((xs.drop 8).take 8) : Int), [0, 0, 0, 0, 0, 0, 0, 0]⟩ : Nd) = readN4 xs := by
    unfold readN4 readN
    rw [wrap64 (x := (xs[0].toNat : Int)) (by omega) (by omega), wrap64 (x := (leN ((xs.drop 2).take 2) : Int)) (by omega) (by omega), wrap64 (x := (leN ((xs.drop 4).take 4) : Int)) (by omega) (by omega), ex0]
  have tail : ∀ (w5 : World) (q : Nat), Mod No w1 w5 → w1.heap.size ≤ q → AtU w5 q 0 (nV nZ) →
      ∃ w7 : World, RuU (Instr.storeAt 218 (.pointer (some ⟨q, 0, none⟩)) (.agg ⟨nV (readN4 xs)⟩)) w5 w7 ∧ ∃ q5 : Addr, ∃ w8 : World, Ru (Instr.alloc 64 true (.tuple #[])) w7 (.pointer (some q5)) w8 ∧ LoopC (fun k x w9 =>
       ∃ n28 : Int, nth x 0 = .int .i64 n28 ∧ (bif decide (n28 < 8) then
       ∃ (a40 : Option Addr) (l40 c40 : Nat), Al (Instr.sliceAt 88 (.slice (some ⟨bb, oo, none⟩) 64 c) (some (.int .i64 (IntKind.i64.wrap (16 + (IntKind.i64.wrap (n28 * 2)))))) (some (.int .i64 (IntKind.i64.wrap (16 + (IntKind.i64.wrap ((IntKind.i64.wrap (n28 + 1)) * 2)))))) none) (.slice a40 l40 c40) ∧ Cal Tryz.prog F_num_Get #[.slice a40 l40 c40] w9 fun r41 w10 => ∃ n41 : Int, r41 = .int .u64 n41 ∧ ∃ q43 : Addr, Al (Instr.indexAt 64 (.pointer (some q5)) (.int .i64 n28)) (.pointer (some q43)) ∧ ∃ w11 : World, RuU (Instr.storeAt 3 (.pointer (some q43)) (.int .i64 (IntKind.i64.wrap n41))) w10 w11 ∧ k [.int .i64 (IntKind.i64.wrap (n28 + 1))] w11
       else
       ∃ (a46 : Option Addr) (l46 c46 : Nat), Al (Instr.sliceAt 216 (.pointer (some (Addr.add ⟨q, 0, none⟩ 4))) none none none) (.slice a46 l46 c46) ∧ ∃ (a47 : Option Addr) (l47 c47 : Nat), Al (Instr.sliceAt 64 (.pointer (some q5)) none none none) (.slice a47 l47 c47) ∧ ∃ n48 : Int, ∃ w12 : World, Ru (Builtin.copy_ #[80, 80] 3 #[.slice a46 l46 c46, .slice a47 l47 c47]) (drew w9) (.int .i64 n48) w12 ∧ ∃ q49 : Addr, Al (Instr.indexAt 64 (.pointer (some q5)) (.int .i64 6)) (.pointer (some q49)) ∧ ∃ n50 : Int, Ru (Instr.loadAt 3 (.pointer (some q49))) w12 (.int .i64 n50) w12 ∧ ∃ q51 : Addr, Al (Instr.indexAt 64 (.pointer (some q5)) (.int .i64 7)) (.pointer (some q51)) ∧ ∃ n52 : Int, Ru (Instr.loadAt 3 (.pointer (some q51))) w12 (.int .i64 n52) w12 ∧ ∃ w13 : World, RuU (Instr.storeAt 3 (.pointer (some (Addr.add ⟨q, 0, none⟩ 10))) (.int .i64 n50)) w12 w13 ∧ ∃ w14 : World, RuU (Instr.storeAt 3 (.pointer (some (Addr.add ⟨q, 0, none⟩ 11))) (.int .i64 n52)) w13 w14 ∧ Share (fun k_2 => ∃ q56 : Addr, Al (Instr.indexAt 88 (.slice (some ⟨bb, oo, none⟩) 64 c) (.int .i64 1)) (.pointer (some q56)) ∧ ∃ n57 : Int, Ru (Instr.loadAt 5 (.pointer (some q56))) w14 (.int .u8 n57) w14 ∧ (bif n57 != 0 then k_2 [.bool true] w14 else ∃ (a61 : Option Addr) (l61 c61 : Nat), Al (Instr.sliceAt 88 (.slice (some ⟨bb, oo, none⟩) 64 c) (some (.int .i64 32)) none none) (.slice a61 l61 c61) ∧ Cal Tryz.prog F_num_Zero #[.slice a61 l61 c61] w14 fun r62 w15 => ∃ b62 : Bool, r62 = .bool b62 ∧ (bif !b62 then k_2 [.bool true] w15 else ∃ g66 : Array Value, Ru (Instr.loadAt 218 (.pointer (some ⟨q, 0, none⟩))) w15 (.agg g66) w15 ∧ Cal Tryz.prog F_inode_Right #[.agg g66] w15 fun r67 w16 => ∃ b67 : Bool, r67 = .bool b67 ∧ k_2 [.bool (!b67)] w16))) fun x_2 w17 =>
       ∃ b69 : Bool, nth x_2 0 = .bool b69 ∧ (bif b69 then
       ∃ g70 : Array Value, Al (Instr.build 218 #[]) (.agg g70) ∧ ∃ w18 : World, RuU (Instr.storeAt 218 (.pointer (some ⟨w.heap.size, 0, none⟩)) (.agg g70)) w17 w18 ∧ ∃ gR2_2 : Array Value, Ru (Instr.loadAt 218 (.pointer (some ⟨w.heap.size, 0, none⟩))) w18 (.agg gR2_2) w18 ∧ K (.tuple #[.agg gR2_2, .int .i64 8]) w18
       else
       ∃ g71 : Array Value, Ru (Instr.loadAt 218 (.pointer (some ⟨q, 0, none⟩))) w17 (.agg g71) w17 ∧ ∃ w19 : World, RuU (Instr.storeAt 218 (.pointer (some ⟨w.heap.size, 0, none⟩)) (.agg g71)) w17 w19 ∧ ∃ gR2_3 : Array Value, Ru (Instr.loadAt 218 (.pointer (some ⟨w.heap.size, 0, none⟩))) w19 (.agg gR2_3) w19 ∧ K (.tuple #[.agg gR2_3, .int .i64 0]) w19))) [.int .i64 0] w8 := by
    intro w5 q m5 hq hat
    obtain ⟨w7, c1, c2, c3, c4⟩ := hat.put (T := 218) (vs := nV (readN4 xs)) agg_ino rfl rfl (one_nV _)
    have m7 : Mod No w1 w7 := m5.own c3 hq
    obtain ⟨w8, d1, d2, d3, d4⟩ := new_u (P := Tryz.prog) (w := w7) (T := 64) zeroI8
    have hqn : ¬ (q = w7.heap.size) := by have := c2.lt; omega
    refine ⟨w7, c1, _, w8, d1, ?_⟩
    refine ⟨fun x w9 => ∃ j : Nat, j ≤ 8 ∧ x = [.int .i64 j] ∧ AtU w9 w7.heap.size 0 (iL (nmTo xs j)) ∧ Mod No w7 w9, fun x _ => (8 - nI x 0).toNat, ⟨0, by omega, rfl, d2, d3⟩, ?_⟩
    rintro x w9 ⟨j, hj, rfl, ha, m9⟩
    refine ⟨_, rfl, cond_of (fun hl => ?_) (fun hl => ?_)⟩
    · have hl := of_decide_eq_true hl
      have e1 : IntKind.i64.wrap (16 + (IntKind.i64.wrap ((j : Int) * 2))) = ((16 + 2 * j : Nat) : Int) := by rw [wrap64 (x := (j : Int) * 2) (by omega) (by omega), wrap64 (by omega) (by omega)]; omega
      have e2 : IntKind.i64.wrap (16 + (IntKind.i64.wrap ((IntKind.i64.wrap ((j : Int) + 1)) * 2))) = ((18 + 2 * j : Nat) : Int) := by rw [wrap64 (x := (j : Int) + 1) (by omega) (by omega), wrap64 (x := ((j : Int) + 1) * 2) (by omega) (by omega), wrap64 (by omega) (by omega)]; omega
      rw [e1, e2]
      have nj : leN ((xs.drop (16 + 2 * j)).take 2) < 256 ^ 2 := leN_sub (by omega)
      refine ⟨_, _, _, slice_lh elemN_bytes (by omega) (by omega) (by omega), ?_⟩
      rw [show ((16 + 2 * j : Nat) : Int).toNat = 16 + 2 * j by omega]
      refine getP (i := 16 + 2 * j) (m := 2) hl2 hc (hr1.nos (m7.no m9)) (by omega) (by omega) (by omega) ⟨_, rfl, _, index_arr arrI8 (by omega) (by omega), ?_⟩
      rw [wrap64 (x := (leN ((xs.drop (16 + 2 * j)).take 2) : Int)) (by omega) (by omega), add_none, show (j : Int).toNat * 1 = j by omega]
      obtain ⟨w11, p1, p2, p3, p4⟩ := ha.store (P := Tryz.prog) (T := 3) (i := j) (v := .int .i64 (nmAt xs j)) sc_int (by rw [length_iL, nmTo_len]; omega) rfl
      rw [nmTo_set (by omega)] at p2
      rw [wrap64 (x := (j : Int) + 1) (by omega) (by omega)]
      exact ⟨w11, p1, ⟨j + 1, by omega, by simp, p2, m9.own p3 (Nat.le_refl _)⟩, by simp [nI, nth]; omega⟩
    have hl := of_decide_eq_false hl
    have hj8 : j = 8 := by omega
    subst hj8
    have ad4 : Addr.add ⟨q, 0, none⟩ 4 = ⟨q, 4, none⟩ := by rw [add_none]
    have c9 := c2.keep m9 id
    have e8 : iL (nmTo xs 8) = [.int .i64 (nmAt xs 0), .int .i64 (nmAt xs 1), .int .i64 (nmAt xs 2), .int .i64 (nmAt xs 3), .int .i64 (nmAt xs 4), .int .i64 (nmAt xs 5), .int .i64 (nmAt xs 6), .int .i64 (nmAt xs 7)] := rfl
    obtain ⟨w12, r1, r2, r3, r4⟩ := copy_in (P := Tryz.prog) (T := 80) (T2 := 80) (ty := 3) (i := 4) (n := 6) (c := 6) (n2 := 8) (c2 := 8) (a2 := some ⟨w7.heap.size, 0, none⟩) (src := iL (nmTo xs 8)) elemN_ints c9.drew (show 4 + 6 * 1 ≤ 12 by decide) (.inr ⟨_, _, rfl, ha.at.drew⟩) rfl (one_iL _)
    have r2 : AtU w12 q 0 (nV { readN xs with p := [nmAt xs 0, nmAt xs 1, nmAt xs 2, nmAt xs 3, nmAt xs 4, nmAt xs 5, 0, 0] }) := r2
    have h12 := ha.drew.keep r3 (fun e => hqn e.symm)
    obtain ⟨w13, s1, s2, s3, s4⟩ := r2.putF (P := Tryz.prog) (T := 3) (j := 10) (v := .int .i64 (nmAt xs 6)) sc_int (show 10 < 12 by decide) rfl
    obtain ⟨w14, t1, t2, t3, t4⟩ := s2.putF (P := Tryz.prog) (T := 3) (j := 11) (v := .int .i64 (nmAt xs 7)) sc_int (show 11 < 12 by decide) rfl
    have t2 : AtU w14 q 0 (nV (readN xs)) := t2
    have M14 : Mod No w1 w14 := (((m7.no m9).drew.own r3 hq).own s3 hq).own t3 hq
    rw [ad4]
    refine ⟨_, _, _, sliceA_all arrI6, _, _, _, sliceA_all arrI8, _, w12, r1, _, index_arr arrI8 (by decide) (by decide), _, ?_, _, index_arr arrI8 (by decide) (by decide), _, ?_, w13, s1, w14, t1, ?_⟩
    · rw [add_none]; exact h12.at.load (i := 6) sc_int rfl
    · rw [add_none]; exact h12.at.load (i := 7) sc_int rfl
    refine Share.cut (fun z w17 => Mod No w14 w17 ∧ z = [.bool (!decide (xs.getD 1 0 = 0 ∧ (xs.drop 32).all (· == 0) = true ∧ nOk (readN xs) = true))]) ⟨_, index_slice elemN_bytes (by omega) (by omega), _, l1 M14, ?_⟩ ?_
    · rw [bneI]
      refine cond_of (fun h1 => ⟨Mod.refl _ _, ?_⟩) (fun h1 => ⟨_, _, _, slice_l elemN_bytes (by omega) (by omega), ?_⟩)
      · have h1 := of_decide_eq_true h1
        rw [decide_eq_false fun e => h1 (by rw [← ex1, e.1]; rfl)]; rfl
      have h1 : xs.getD 1 0 = 0 := by
        have h1 := Classical.not_not.1 (of_decide_eq_false h1)
        rw [ex1]; exact UInt8.toNat_inj.1 (by show _ = 0; omega)
      have e32 : (xs.drop 32).take 32 = xs.drop 32 := List.take_of_length_le (by simp; omega)
      refine nZero_c (xs := (xs.drop 32).take 32) (by simp; omega) ((hr1.nos M14).cut (by omega) (by omega)) (by omega) ⟨_, rfl, ?_⟩
      rw [e32]
      refine cond_of (fun h2 => ⟨Mod.refl _ _, ?_⟩) (fun h2 => ⟨_, t2.at.all agg_ino rfl, inoRight_c (readN_wf xs) fun w16 m16 => ⟨_, rfl, m16, ?_⟩⟩)
      · rw [Bool.not_eq_true'] at h2
        rw [decide_eq_false fun e => by rw [e.2.1] at h2; cases h2]; rfl
      · rw [Bool.not_eq_false'] at h2
        cases hn : nOk (readN xs) with
        | true => rw [decide_eq_true (show _ ∧ _ ∧ _ from ⟨h1, h2, rfl⟩)]
        | false => rw [decide_eq_false fun e => by cases e.2.2]
    rintro z w17 ⟨m17, rfl⟩
    refine ⟨_, rfl, cond_of (fun h => ⟨_, build_ino0, ?_⟩) (fun h => ⟨_, (t2.keep m17 id).at.all agg_ino rfl, ?_⟩)⟩
    · rw [Bool.not_eq_true'] at h
      have h := of_decide_eq_false h
      exact fin w17 nZ 8 (M14.no m17) (by unfold inoG; rw [if_neg (by omega), if_neg h])
    · rw [Bool.not_eq_false'] at h
      have h := of_decide_eq_true h
      exact fin w17 (readN xs) 0 (M14.no m17) (by unfold inoG; rw [if_neg (by omega), if_pos h])
  have md : Mod No w1 (Go.Den.drew w1) := (Mod.refl No w1).drew
  obtain ⟨w2, e1, e2, e3, e4⟩ := new_u (P := Tryz.prog) (w := Go.Den.drew w1) (T := 218) zero_ino
  have m2 : Mod No w1 w2 := md.no e3
  have t2 := tail w2 _ m2 (Nat.le_refl _) e2
  have bN := build_ino4 (IntKind.i64.wrap (xs[0].toNat : Int)) (IntKind.i64.wrap (leN ((xs.drop 2).take 2) : Int)) (IntKind.i64.wrap (leN ((xs.drop 4).take 4) : Int)) (IntKind.i64.wrap (leN ((xs.drop 8).take 8) : Int))
  rw [eN] at bN
  have g2 : ∀ {w' : World} {Q : Value → World → Prop}, Mod No w1 w' → Q (.int .u64 (leN ((xs.drop 2).take 2) : Int)) w' → Cal Tryz.prog F_num_Get #[.slice (cutA (some ⟨bb, oo, none⟩) c (2 : Int).toNat 1) ((4 : Int).toNat - (2 : Int).toNat) (c - (2 : Int).toNat)] w' Q := fun m hq => getP (i := 2) (m := 2) hl2 hc (hr1.nos m) (by omega) (by omega) rfl hq
  have g4 : ∀ {w' : World} {Q : Value → World → Prop}, Mod No w1 w' → Q (.int .u64 (leN ((xs.drop 4).take 4) : Int)) w' → Cal Tryz.prog F_num_Get #[.slice (cutA (some ⟨bb, oo, none⟩) c (4 : Int).toNat 1) ((8 : Int).toNat - (4 : Int).toNat) (c - (4 : Int).toNat)] w' Q := fun m hq => getP (i := 4) (m := 4) hl2 hc (hr1.nos m) (by omega) (by omega) rfl hq
  have g8 : ∀ {w' : World} {Q : Value → World → Prop}, Mod No w1 w' → Q (.int .u64 (leN ((xs.drop 8).take 8) : Int)) w' → Cal Tryz.prog F_num_Get #[.slice (cutA (some ⟨bb, oo, none⟩) c (8 : Int).toNat 1) ((16 : Int).toNat - (8 : Int).toNat) (c - (8 : Int).toNat)] w' Q := fun m hq => getP (i := 8) (m := 8) hl2 hc (hr1.nos m) (by omega) (by omega) rfl hq
  refine ⟨_, index_slice elemN_bytes (by omega) (by omega), _, l0 md, _, _, _, slice_lh elemN_bytes (by omega) (by omega) (by omega), _, _, _, slice_lh elemN_bytes (by omega) (by omega) (by omega), _, _, _, slice_lh elemN_bytes (by omega) (by omega) (by omega), ?_⟩
  exact ⟨g2 md ⟨_, rfl, l0 md, g4 md ⟨_, rfl, l0 md, g8 md ⟨_, rfl, l0 md, _, bN, _, w2, e1, l0 m2, t2⟩, _, w2, e1, l0 m2, g8 m2 ⟨_, rfl, l0 m2, _, bN, t2⟩⟩, _, w2, e1, l0 m2, g4 m2 ⟨_, rfl, l0 m2, g8 m2 ⟨_, rfl, l0 m2, _, bN, t2⟩⟩⟩, _, w2, e1, l0 m2, g2 m2 ⟨_, rfl, l0 m2, g4 m2 ⟨_, rfl, l0 m2, g8 m2 ⟨_, rfl, l0 m2, _, bN, t2⟩⟩⟩⟩
end
end Go.Proofs.YtelhlihjihklbaaGreat
end
section
open Go Go.Den
namespace Go.Den
abbrev Ent:=Int×Value×Nat
def toE (e:Ent):MapEntry:=⟨.int .i64 e.1,e.2.1,e.2.2⟩
def kv (e:Ent):Int×Value:=(e.1,e.2.1)
def findE (k:Int):List Ent->Nat->Option (Nat×Value)
 | [],_=>none
 | e::r,i=>if e.1=k then some (i,e.2.1) else findE k r (i+1)
def putE (k:Int) (v:Value) (b:Nat):List Ent->List Ent
 | []=>[(k,v,b)]
 | e::r=>if e.1=k then (k,v,e.2.2)::r else e::putE k v b r
def lookupL:List (Int×Value)->Int->Option Value
 | [],_=>none
 | p::r,k=>if p.1=k then some p.2 else lookupL r k
def putL (k:Int) (v:Value):List (Int×Value)->List (Int×Value)
 | []=>[(k,v)]
 | p::r=>if p.1=k then (k,v)::r else p::putL k v r
theorem findE_look (k:Int):∀ (Es:List Ent) (i:Nat),(findE k Es i).map (·.2)=lookupL (Es.map kv) k
 | [],_=>rfl
 | e::r,i=>by
  simp only [findE,List.map_cons,lookupL,kv]
  by_cases h:e.1=k
  ·rw [if_pos h,if_pos h]; rfl
  ·rw [if_neg h,if_neg h]; exact findE_look k r (i+1)
theorem putE_kv (k:Int) (v:Value) (b:Nat):∀ Es:List Ent,(putE k v b Es).map kv=putL k v (Es.map kv)
 | []=>rfl
 | e::r=>by
  simp only [putE,List.map_cons,putL,kv]
  by_cases h:e.1=k
  ·rw [if_pos h,if_pos h]; rfl
  ·rw [if_neg h,if_neg h,List.map_cons,putE_kv k v b r]; rfl
theorem findNow_E (q:IntKind) (k:Int):∀ (Es:List Ent) (i:Nat),Instr.findNow (.int q) (.int .i64 k) (Es.map toE) i=some (findE k Es i)
 | [],_=>rfl
 | e::r,i=>by
  simp only [List.map_cons,Instr.findNow,toE,Instr.sameNow,findE,if_true]
  by_cases h:e.1=k
  ·have:(k==e.1)=true:=by simp [h]
   rw [if_pos h,this]
  ·have:(k==e.1)=false:=by simp; exact fun e=>h e.symm
   rw [if_neg h,this]
   exact findNow_E q k r (i+1)
theorem findE_modify (k:Int) (v:Value) (b:Nat):∀ (Es:List Ent) (i j:Nat) (u:Value),findE k Es i=some (j,u)->i<=j/\(Es.map toE).modify (j-i) (fun e=>{ e with key:=.int .i64 k,val:=v })=(putE k v b Es).map toE/\((Es.map toE)[j-i]?.map (·.key))=some (.int .i64 k)
 | [],i,j,u,h=>by cases h
 | e::r,i,j,u,h=>by
  simp only [findE] at h
  by_cases he:e.1=k
  ·rw [if_pos he] at h
   have h:=Option.some.inj h
   simp only [Prod.mk.injEq] at h
   obtain ⟨rfl,_⟩:=h
   refine ⟨Nat.le_refl _,?_,?_⟩
   ·simp only [putE,if_pos he,List.map_cons,Nat.sub_self,List.modify_zero_cons,toE]
   ·simp [toE,he]
  ·rw [if_neg he] at h
   obtain ⟨h1,h2,h3⟩:=findE_modify k v b r (i+1) j u h
   refine ⟨by omega,?_,?_⟩
   ·rw [show j-i=(j-(i+1))+1 by omega]
    simp only [putE,if_neg he,List.map_cons,List.modify_succ_cons,h2]
   ·rw [show j-i=(j-(i+1))+1 by omega]
    simpa using h3
theorem findE_none (k:Int) (v:Value) (b:Nat):∀ (Es:List Ent) (i:Nat),findE k Es i=none->putE k v b Es=Es++[(k,v,b)]/\∀ e∈Es,e.1≠k
 | [],_,_=>⟨rfl,by simp⟩
 | e::r,i,h=>by
  simp only [findE] at h
  by_cases he:e.1=k
  ·rw [if_pos he] at h; cases h
  ·rw [if_neg he] at h
   obtain ⟨h1,h2⟩:=findE_none k v b r (i+1) h
   refine ⟨by simp only [putE,if_neg he,h1,List.cons_append],fun x hx=>?_⟩
   rcases List.mem_cons.1 hx with rfl | hx
   ·exact he
   ·exact h2 x hx
theorem putE_born (k:Int) (v:Value) (b:Nat):∀ (Es:List Ent) (i:Nat),findE k Es i≠none->(putE k v b Es).map (·.2.2)=Es.map (·.2.2)/\(putE k v b Es).map (·.1)=Es.map (·.1)
 | [],_,h=>absurd rfl h
 | e::r,i,h=>by
  simp only [findE] at h
  by_cases he:e.1=k
  ·simp [putE,he]
  ·rw [if_neg he] at h
   obtain ⟨h1,h2⟩:=putE_born k v b r (i+1) h
   simp [putE,he,h1,h2]
def MapAt (w:World) (m:Nat) (L:List (Int×Value)):Prop :=
 ∃ (Es:List Ent) (clock:Nat),w.heap[m]?=some (.map (Es.map toE).toArray clock)/\Es.map kv=L/\(Es.map (·.1)).Nodup/\(∀ e∈Es,e.2.2<clock)/\(Es.map (·.2.2)).Nodup
section
variable {P:Program} {w:World}
theorem MapAt.lt {m:Nat} {L:List (Int×Value)} (h:MapAt w m L):m<w.heap.size:=by obtain ⟨_,_,h,_⟩:=h; exact lt_of_heap h
theorem MapAt.keep {m:Nat} {L:List (Int×Value)} {S:Nat->Prop} {w':World} (h:MapAt w m L) (hm:Mod S w w') (hs:¬ S m):MapAt w' m L:=by
 obtain ⟨Es,c,h1,h2⟩:=h; exact ⟨Es,c,hm.keep h1 hs,h2⟩
theorem MapAt.nodup {m:Nat} {L:List (Int×Value)} (h:MapAt w m L):(L.map (·.1)).Nodup:=by
 obtain ⟨Es,c,_,rfl,h,_⟩:=h
 rw [List.map_map]; exact h
theorem MapAt.ne_cells {m b o:Nat} {L:List (Int×Value)} {cs:List Value} (h:MapAt w m L) (k:At w b o cs):b≠m:=by
 rintro rfl
 obtain ⟨Es,c,h,_⟩:=h
 obtain ⟨l,t,fz,k,_⟩:=k
 rw [h] at k; cases k
def mapZ (P:Program) (T:TypeId):Option Value :=
 match P.underlying T with
 | some (.map k e)=>match P.underlying k with
  | some (.int .i64)=>match P.info? e with | some i=>i.zero | none=>none
  | _=>none
 | _=>none
theorem mapZ_is {T:TypeId} {z:Value} (h:mapZ P T=some z):∃ k e i,P.underlying T=some (.map k e)/\P.underlying k=some (.int .i64)/\P.info? e=some i/\i.zero=some z:=by
 unfold mapZ at h
 split at h
 ·rename_i k e h1
  split at h
  ·rename_i h2
   split at h
   ·rename_i i h3; exact ⟨k,e,i,h1,h2,h3,h⟩
   ·cases h
  ·cases h
 ·cases h
theorem run_checkKey {k:TypeId} {empty:Bool} {n:Int} (hk:P.underlying k=some (.int .i64)):(Instr.checkKey empty 10000 k (.int .i64 n)).run P w=.ok () w:=by
 rw [show (10000:Nat)=9999+1 from rfl,Instr.checkKey]
 simp [run_und hk]
theorem run_findKey {k:TypeId} {n:Int} {Es:List Ent} (hk:P.underlying k=some (.int .i64)):(Instr.findKey k (.int .i64 n) (Es.map toE)).run P w=.ok (findE n Es 0) w:=by
 simp [Instr.findKey,run_und hk,findNow_E]
theorem run_getMap {m:Nat} {es:Array MapEntry} {c:Nat} (h:w.heap[m]?=some (.map es c)):(getObj m).run P w=.ok (.map es c) w:=by
 simp [getObj,Sem.run,h]
theorem lookup_run {T:TypeId} {z:Value} {m:Nat} {L:List (Int×Value)} {k:Int} (hT:mapZ P T=some z) (h:MapAt w m L) :
  (Instr.lookup T (.map (some m)) (.int .i64 k) false).run P w=.ok ((lookupL L k).getD z) w:=by
 obtain ⟨kt,e,i,h1,h2,h3,h4⟩:=mapZ_is hT
 obtain ⟨Es,c,g1,rfl,_⟩:=h
 have hl:=findE_look k Es 0
 have hzero:(zeroValue e).run P w=.ok z w:=by simp [zeroValue,typeInfo,h3,h4]
 simp only [Instr.lookup,Sem.run_bind,run_und h1,Result.andThen_ok,run_getMap g1,Sem.run_pure,run_checkKey h2,run_findKey h2]
 cases hf:findE k Es 0 with
 | none =>
  rw [hf] at hl
  simp only [Option.map_none] at hl
  simp [<- hl,hzero]
 | some r =>
  rw [hf] at hl
  simp only [Option.map_some] at hl
  simp [<- hl]
theorem run_setMap {m:Nat} {es:Array MapEntry} {c:Nat} {o':Obj} (h:w.heap[m]?=some (.map es c)):(setObj m o').run P w=.ok () (put w m o'):=by
 have hlt:=lt_of_heap h
 simp only [setObj,Sem.run]
 rw [h]; rfl
theorem update_run {T:TypeId} {z:Value} {m:Nat} {L:List (Int×Value)} {k:Int} {v:Value} (hT:mapZ P T=some z) (h:MapAt w m L) :
  ∃ w',(Instr.mapUpdate T (.map (some m)) (.int .i64 k) v).run P w=.ok () w'/\MapAt w' m (putL k v L)/\Mod (fun x=>x=m) w w'/\w'.heap.size=w.heap.size:=by
 obtain ⟨kt,e,i,h1,h2,h3,h4⟩:=mapZ_is hT
 obtain ⟨Es,c,g1,rfl,g3,g4,g5⟩:=h
 have hm:∀ o,Mod (fun x=>x=m) w (put w m o):=fun o=>(Mod.refl (fun x=>x=m) w).put (.inr rfl) _
 cases hf:findE k Es 0 with
 | none =>
  obtain ⟨e1,e2⟩:=findE_none k v c Es 0 hf
  refine ⟨put w m (.map ((putE k v c Es).map toE).toArray (c+1)),?_,⟨putE k v c Es,c+1,heap_put_same (lt_of_heap g1),putE_kv k v c Es,?_,?_,?_⟩,hm _,by simp⟩
  ·simp only [Instr.mapUpdate,Sem.run_bind,run_und h1,Result.andThen_ok,run_getMap g1,run_checkKey h2,run_findKey h2,hf]
   rw [run_setMap g1,e1]
   simp [toE]
  ·rw [e1,List.map_append]
   refine List.nodup_append.2 ⟨g3,by simp,?_⟩
   intro a ha b hb
   simp at hb; subst hb
   obtain ⟨x,hx,rfl⟩:=List.mem_map.1 ha
   exact e2 x hx
  ·intro x hx
   rw [e1] at hx
   rcases List.mem_append.1 hx with hx | hx
   ·have:=g4 x hx; omega
   ·simp at hx; subst hx; simp
  ·rw [e1,List.map_append]
   refine List.nodup_append.2 ⟨g5,by simp,?_⟩
   intro a ha b hb
   simp at hb; subst hb
   obtain ⟨x,hx,rfl⟩:=List.mem_map.1 ha
   have:=g4 x hx; omega
 | some r =>
  obtain ⟨j,u⟩:=r
  obtain ⟨_,e1,e2⟩:=findE_modify k v c Es 0 j u hf
  rw [Nat.sub_zero] at e1 e2
  obtain ⟨b1,b2⟩:=putE_born k v c Es 0 (by rw [hf]; simp)
  refine ⟨put w m (.map ((putE k v c Es).map toE).toArray c),?_,⟨putE k v c Es,c,heap_put_same (lt_of_heap g1),putE_kv k v c Es,by rw [b2]; exact g3,?_,by rw [b1]; exact g5⟩,hm _,by simp⟩
  ·have hkey:(((Es.map toE).toArray[j]?).map (·.key)).getD (.int .i64 k)=.int .i64 k:=by
    rw [List.getElem?_toArray,e2]; rfl
   have hstay:(Instr.keyThatStays (.int .i64 k) (.int .i64 k)).run P w=.ok (.int .i64 k) w:=by
    have:Instr.sameBits 10000 (.int .i64 k) (.int .i64 k)=true:=by simp [Instr.sameBits]
    simp [Instr.keyThatStays,this]
   simp only [Instr.mapUpdate,Sem.run_bind,run_und h1,Result.andThen_ok,run_getMap g1,run_checkKey h2,run_findKey h2,hf,hkey,hstay]
   rw [run_setMap g1,<- e1]
   simp
  ·intro x hx
   have hx':x.2.2∈Es.map (·.2.2):=by rw [<- b1]; exact List.mem_map.2 ⟨x,hx,rfl⟩
   obtain ⟨y,hy,hye⟩:=List.mem_map.1 hx'
   rw [<- hye]; exact g4 y hy
theorem clear_run {T ty:TypeId} {z:Value} {m:Nat} {L:List (Int×Value)} (hT:mapZ P T=some z) (h:MapAt w m L) :
  ∃ w',(Builtin.clear_ #[T] ty #[.map (some m)]).run P w=.ok (.tuple #[]) w'/\MapAt w' m []/\Mod (fun x=>x=m) w w'/\w'.heap.size=w.heap.size:=by
 obtain ⟨kt,e,i,h1,h2,h3,h4⟩:=mapZ_is hT
 obtain ⟨Es,c,g1,rfl,g3,g4,g5⟩:=h
 refine ⟨put w m (.map #[] c),?_,⟨[],c,heap_put_same (lt_of_heap g1),rfl,by simp,by simp,by simp⟩,(Mod.refl (fun x=>x=m) w).put (.inr rfl) _,by simp⟩
 simp [Builtin.clear_,run_und h1,run_getMap g1,run_setMap g1]
theorem makeMap_run {T:TypeId}:(Instr.makeMap T none).run P w=.ok (.map (some w.heap.size)) (w.alloc (.map #[] 0)):=rfl
theorem MapAt.new:MapAt (w.alloc (.map #[] 0)) w.heap.size []:=⟨[],0,heap_new w _,rfl,by simp,by simp,by simp⟩
end
end Go.Den
end
section
open Go Go.Den Go.Proofs
namespace Go.Proofs.YtelhlihjihklbaaGreat
def sorted (zs:List Int):List Int:=zs.mergeSort fun x y=>decide (x<=y)
theorem Sort_c {base l c:Nat} {a:Option Addr} {zs:List Int} {w:World} {K:Value->World->Prop} (h:Ow Tryz.prog w base 80 1 a l c (iL zs))
  (hk:∀ w',Ow Tryz.prog w' base 80 1 a l c (iL (sorted zs))->Mod (fun x=>base<=x) w w'->K (.tuple #[]) w') (hl62:zs.length<4611686018427387904) :
  Cal Tryz.prog F_slices_Sort_int #[.slice a l c] w K:=by
 refine ⟨⟨_,Tryz.func242,by kernel_rfl,by kernel_rfl⟩,?_⟩
 have hlen:zs.length=l:=by have:=h.len; simpa using this
 obtain ⟨e,he,h1,h2⟩:=h
 rcases h2 with ⟨hv,hz⟩ | ⟨g,cap,cur,hv,hb,hg,hle,hm,hsz,ht⟩
 ·subst hz
  simp at hv
  obtain ⟨rfl,rfl⟩:=hv
  have hzs:zs=[]:=List.eq_nil_of_length_eq_zero hlen
  subst hzs
  refine (Tryz.slices_Sort_int_none none 0 w).mono fun e' w' he'=>?_
  obtain ⟨rfl,rfl⟩:=he'
  exact hk w' ⟨e,he,by simp [sorted,iL],.inl ⟨rfl,rfl⟩⟩ (Mod.refl _ _)
 ·simp at hv
  obtain ⟨rfl,rfl⟩:=hv
  subst hlen
  have hmap:iL zs=zs.map (Value.int .i64):=rfl
  rw [Nat.mul_one,hmap] at ht
  have hH:=holds_of_blockI hg ht
  refine (Tryz.slices_Sort_int g 0 c zs w hH (lt_of_heap hg) hl62).mono fun e' w' he'=>?_
  obtain ⟨rfl,n,os,rfl⟩:=he'
  refine hk _ ⟨e,he,?_⟩ ((Mod.grown (grownBy_sortedI _)).mono fun x _ e=>by cases e; exact hb)
  exact ownsRow_sortedI (ts:=sorted zs) (by simp [sorted]) hb hg hle hm hsz
end Go.Proofs.YtelhlihjihklbaaGreat
end
section
open Go Go.Den Go.Proofs
namespace Go.Den
abbrev Bk:=List UInt8
structure St where
 vs:List (List Bk)
 left:Int
structure WF (D:St):Prop where
 ver:∀ v∈D.vs,v≠[]/\∀ x∈v,x.length=256
 lo:1<=D.vs.length
 hi:D.vs.length<=4096
 l0:-1<=D.left
 l1:D.left<=9223372036854775807
def hd (v:List Bk):Bk:=v.headD []
def lastV (v:List Bk):Bk:=v.getLastD []
theorem flat_len:∀ (xs:List Bk),(∀ x∈xs,x.length=256)->xs.flatten.length=xs.length*256
 | [],_=>rfl
 | x::r,h=>by
  rw [List.flatten_cons,List.length_append,h x (by simp),flat_len r (fun y hy=>h y (by simp [hy])),List.length_cons]; omega
theorem flat_get:∀ (xs:List Bk),(∀ x∈xs,x.length=256)->∀ (i:Nat) (x:Bk),xs[i]?=some x->(xs.flatten.drop (i*256)).take 256=x
 | [],_,i,x,h=>by simp at h
 | y::r,hx,i,x,h=>by
  have hy:=hx y (by simp)
  cases i with
  | zero =>
   simp at h; subst h
   rw [Nat.zero_mul,List.drop_zero,List.flatten_cons,List.take_append_of_le_length (by omega),List.take_of_length_le (by omega)]
  | succ i =>
   have h':r[i]?=some x:=by simpa using h
   rw [List.flatten_cons,List.drop_append,List.drop_eq_nil_of_le (by omega),List.nil_append,show (i+1)*256-y.length=i*256 by omega]
   exact flat_get r (fun z hz=>hx z (by simp [hz])) i x h'
theorem flat_set:∀ (xs:List Bk),(∀ x∈xs,x.length=256)->∀ (i:Nat) (y:Bk),i<xs.length->y.length=256->xs.flatten.take (i*256)++y++xs.flatten.drop (i*256+256)=(xs.set i y).flatten
 | [],_,i,y,h,_=>by simp at h
 | x::r,hx,i,y,h,hy=>by
  have hxl:=hx x (by simp)
  cases i with
  | zero =>
   simp only [List.set_cons_zero,List.flatten_cons,Nat.zero_mul,List.take_zero,List.nil_append,Nat.zero_add]
   rw [List.drop_append,List.drop_eq_nil_of_le (by omega),List.nil_append,hxl]; simp
  | succ i =>
   have ih:=flat_set r (fun z hz=>hx z (by simp [hz])) i y (by simpa using h) hy
   simp only [List.set_cons_succ,List.flatten_cons]
   rw [<- ih,List.take_append,List.take_of_length_le (by omega),List.drop_append,List.drop_eq_nil_of_le (by omega),hxl]
   rw [show (i+1)*256-256=i*256 by omega,show (i+1)*256+256-256=i*256+256 by omega]
   simp
def OpenIn (w:World) (R:Nat->Prop) (b sb:Nat) (L:List (Int×Value)) (i:Nat) (v:List Bk):Prop :=
 (v.tail=[]/\lookupL L i=none)\/(v.tail≠[]/\∃ vb c,lookupL L i=some (.slice (some ⟨vb,0,none⟩) v.tail.length c)/\v.tail.length<=c/\At w vb 0 (u8L v.tail.flatten)/\R vb/\vb≠b/\vb≠sb)
structure DiskIn (w:World) (R:Nat->Prop) (b sb mb sc:Nat) (L:List (Int×Value)) (D:St):Prop where
 cell:AtU w b 0 [.slice (some ⟨sb,0,none⟩) D.vs.length sc,.map (some mb),.int .i64 D.left]
 cap:D.vs.length<=sc
 safe:AtU w sb 0 (u8L (D.vs.map hd).flatten)
 map:MapAt w mb L
 rb:R b
 rs:R sb
 rm:R mb
 ne:b≠sb
 opn:∀ i v,D.vs[i]?=some v->OpenIn w R b sb L i v
 keys:∀ p∈L,∃ i:Nat,p.1=i/\i<D.vs.length
 wf:WF D
 lt:∀ x,R x->x<w.heap.size
section
variable {w:World} {R:Nat->Prop} {b sb mb sc:Nat} {L:List (Int×Value)} {D:St}
theorem OpenIn.keep {S:Nat->Prop} {w':World} {i:Nat} {v:List Bk} (h:OpenIn w R b sb L i v) (m:Mod S w w') (hs:∀ x,R x->S x->x=b\/x=sb):OpenIn w' R b sb L i v:=by
 rcases h with h | ⟨h1,vb,c,h2,h3,h4,h5,h6,h7⟩
 ·exact .inl h
 ·exact .inr ⟨h1,vb,c,h2,h3,h4.keep m (fun e=>by rcases hs vb h5 e with e | e; exact h6 e; exact h7 e),h5,h6,h7⟩
theorem DiskIn.keep {S:Nat->Prop} {w':World} (h:DiskIn w R b sb mb sc L D) (m:Mod S w w') (hs:∀ x,R x->¬ S x):DiskIn w' R b sb mb sc L D where
 cell:=h.cell.keep m (hs _ h.rb)
 cap:=h.cap
 safe:=h.safe.keep m (hs _ h.rs)
 map:=h.map.keep m (hs _ h.rm)
 rb:=h.rb
 rs:=h.rs
 rm:=h.rm
 ne:=h.ne
 opn:=fun i v hv=>(h.opn i v hv).keep m fun x hx e=>absurd e (hs x hx)
 keys:=h.keys
 wf:=h.wf
 lt:=fun x hx=>Nat.lt_of_lt_of_le (h.lt x hx) m.size
theorem DiskIn.nos {w':World} (h:DiskIn w R b sb mb sc L D) (m:Mod No w w'):DiskIn w' R b sb mb sc L D:=h.keep m fun _ _=>id
theorem DiskIn.drew (h:DiskIn w R b sb mb sc L D):DiskIn (drew w) R b sb mb sc L D:=h.nos (Mod.refl No w).drew
theorem DiskIn.nbm (h:DiskIn w R b sb mb sc L D):b≠mb:=h.map.ne_cells h.cell.at
theorem DiskIn.nsm (h:DiskIn w R b sb mb sc L D):sb≠mb:=h.map.ne_cells h.safe.at
theorem WF.hd {D:St} (h:WF D):∀ x∈D.vs.map hd,x.length=256:=by
 intro x hx
 obtain ⟨v,hv,rfl⟩:=List.mem_map.1 hx
 obtain ⟨h1,h2⟩:=h.ver v hv
 cases v with
 | nil=>exact absurd rfl h1
 | cons a r=>exact h2 a (by simp)
theorem WF.tl {D:St} (h:WF D) {i:Nat} {v:List Bk} (hv:D.vs[i]?=some v):∀ x∈v.tail,x.length=256:=fun x hx=>(h.ver v (List.mem_of_getElem? hv)).2 x (List.mem_of_mem_tail hx)
theorem WF.lastLen {D:St} (h:WF D) {i:Nat} {v:List Bk} (hv:D.vs[i]?=some v):(lastV v).length=256:=by
 obtain ⟨h1,h2⟩:=h.ver v (List.mem_of_getElem? hv)
 refine h2 _ ?_
 unfold lastV
 rw [List.getLastD_eq_getLast?,List.getLast?_eq_some_getLast h1]
 exact List.getLast_mem h1
theorem last_tail {v:List Bk} (h:v.tail≠[]):v.tail[v.tail.length-1]?=some (lastV v):=by
 cases v with
 | nil=>exact absurd rfl h
 | cons a r =>
  simp only [List.tail_cons] at h |-
  rw [<- List.getLast?_eq_getElem?]
  unfold lastV
  rw [List.getLastD_eq_getLast?,List.getLast?_cons]
  cases r with
  | nil=>exact absurd rfl h
  | cons b r=>simp [List.getLast?_cons]
theorem last_one {v:List Bk} (h:v.tail=[]):lastV v=hd v:=by
 cases v with
 | nil=>rfl
 | cons a r=>simp only [List.tail_cons] at h; subst h; rfl
end
end Go.Den
namespace Go.Proofs.YtelhlihjihklbaaGreat
section
variable {w:World} {R:Nat->Prop} {b sb mb sc:Nat} {L:List (Int×Value)} {D:St} {K:Value->World->Prop}
theorem mapDisk:mapZ Tryz.prog 207=some (.slice none 0 0):=by kernel_rfl
theorem look_none {w:World} {m:Nat} {L:List (Int×Value)} {k:Int} (h:MapAt w m L) (hl:lookupL L k=none):Ru (Instr.lookup 207 (.map (some m)) (.int .i64 k) false) w (.slice none 0 0) w:=by
 have:=lookup_run (P:=Tryz.prog) mapDisk h (k:=k)
 rwa [hl] at this
theorem look_some {w:World} {m:Nat} {L:List (Int×Value)} {k:Int} {v:Value} (h:MapAt w m L) (hl:lookupL L k=some v):Ru (Instr.lookup 207 (.map (some m)) (.int .i64 k) false) w v w:=by
 have:=lookup_run (P:=Tryz.prog) mapDisk h (k:=k)
 rwa [hl] at this
theorem elemZ_blocks:elemZ Tryz.prog 206 256 (.int .u8 0) 256:=by unfold elemZ; kernel_rfl
theorem alloc_block (w:World):(Instr.alloc 278 true (.tuple #[])).run Tryz.prog w=.ok (.pointer (some ⟨w.heap.size,0,none⟩)) (w.alloc (.cells ⟨u8L (List.replicate 256 0)⟩ 278)):=by kernel_rfl
theorem agg_block:aggN Tryz.prog 278=some 256:=by kernel_rfl
theorem slice_block (q:Addr):Al (Instr.sliceAt 278 (.pointer (some q)) none none none) (.slice (some q) 256 256):=fun _=>by kernel_rfl
theorem _root_.Go.Den.DiskIn.ld (h:DiskIn w R b sb mb sc L D):Ru (Instr.loadAt 3 (.pointer (some (Addr.add ⟨b,0,none⟩ 2)))) w (.int .i64 D.left) w:=by
 rw [add_none]; exact h.cell.at.load (by kernel_rfl) rfl
theorem _root_.Go.Den.DiskIn.lm (h:DiskIn w R b sb mb sc L D):Ru (Instr.loadAt 207 (.pointer (some (Addr.add ⟨b,0,none⟩ 1)))) w (.map (some mb)) w:=by
 rw [add_none]; exact h.cell.at.load (by kernel_rfl) rfl
theorem _root_.Go.Den.DiskIn.ls (h:DiskIn w R b sb mb sc L D):Ru (Instr.loadAt 206 (.pointer (some (Addr.add ⟨b,0,none⟩ 0)))) w (.slice (some ⟨sb,0,none⟩) D.vs.length sc) w:=by
 rw [add_none]; exact h.cell.at.load (by kernel_rfl) rfl
def errOf (D:St) (n:Int):Int:=if n<0\/D.vs.length<=n then 3 else 0
theorem may_c (h:DiskIn w R b sb mb sc L D) {n:Int} (hk:K (.int .i64 (errOf D n)) w):Cal Tryz.prog F_disk_Disk_may #[.pointer (some ⟨b,0,none⟩),.int .i64 n] w K:=by
 apply C_disk_Disk_may
 unfold D_disk_Disk_may
 refine ff rfl (Share.cut (fun x w'=>x=[.bool (decide (n<0\/D.vs.length<=n))]/\w'=w) (cond_of (fun hb=>?_) (fun hb=>?_)) ?_)
 ·have:=of_decide_eq_true hb
  exact ⟨by simp [this],rfl⟩
 ·have:=of_decide_eq_false hb
  exact ⟨_,rfl,_,_,_,h.ls,by simp [this],rfl⟩
 ·rintro x w' ⟨rfl,rfl⟩
  refine ⟨_,rfl,cond_of (fun hb=>?_) (fun hb=>?_)⟩
  ·have:=of_decide_eq_true hb
   rw [errOf,if_pos this] at hk; exact hk
  ·have:=of_decide_eq_false hb
   rw [errOf,if_neg this] at hk; exact hk
theorem goes_c (h : DiskIn w R b sb mb sc L D) (h0 : D.left = 0 → K (.bool false) w)
    (h1 : D.left ≠ 0 → ∀ w', DiskIn w' R b sb mb sc L { D with left := if -1 > D.left - 1 then -1 else D.left - 1 } → Mod (fun x => x = b) w w' → K (.bool true) w') : Cal Tryz.prog F_disk_Disk_goes #[.pointer (some ⟨b, 0, none⟩)] w K := by
  apply C_disk_Disk_goes
  unfold D_disk_Disk_goes
  refine ⟨_, rfl, _, h.ld, cond_of (fun hb => ?_) (fun hb => ?_)⟩
  · exact h0 (by simpa using hb)
  have hne : D.left ≠ 0 := by simpa using hb
  have hl0 := h.wf.l0
  have hl1 := h.wf.l1
  obtain ⟨w', s1, s2, s3, s4⟩ := h.cell.store (P := Tryz.prog) (T := 3) (i := 2) (v := .int .i64 (if -1 > D.left - 1 then -1 else D.left - 1)) (by kernel_rfl) (by simp) rfl
  refine ⟨_, rfl, _, h.ld, _, rfl, w', ?_, ?_⟩
  · rw [wrap64 (x := D.left - 1) (by omega) (by omega), add_none]; exact s1
  refine h1 hne w' ?_ s3
  exact { cell := by simpa using s2, cap := h.cap, safe := h.safe.keep s3 h.ne.symm, map := h.map.keep s3 h.nbm.symm, rb := h.rb, rs := h.rs, rm := h.rm, ne := h.ne,
          opn := fun i v hv => (h.opn i v hv).keep s3 fun x _ e => .inl e, keys := h.keys,
          wf := { ver := h.wf.ver, lo := h.wf.lo, hi := h.wf.hi, l0 := by show -1 ≤ ite _ _ _; split <;> omega, l1 := by show ite _ _ _ ≤ _; split <;> omega },
          lt := fun x hx => Nat.lt_of_lt_of_le (h.lt x hx) s3.size }
theorem idx_block {a:Addr} {n c:Nat} {i:Nat} (hi:i<n) (w:World):(Instr.indexAt 206 (.slice (some a) n c) (.int .i64 i)).run Tryz.prog w=.ok (.pointer (some (a.add (i*256)))) w:=by
 have:=index_slice (P:=Tryz.prog) (T:=206) (k:=256) (a:=a) (n:=n) (c:=c) (kk:=.i64) (i:=i) (by kernel_rfl) (by omega) (by omega) w
 rwa [Int.toNat_natCast] at this
theorem load_block {b:Nat} {xs:List Bk} (h:At w b 0 (u8L xs.flatten)) (hx:∀ x∈xs,x.length=256) {i:Nat} {x:Bk} (hi:xs[i]?=some x):Ru (Instr.loadAt 278 (.pointer (some (Addr.add ⟨b,0,none⟩ (i*256))))) w (.agg ⟨u8L x⟩) w:=by
 have hlt:i<xs.length:=(List.getElem?_eq_some_iff.1 hi).1
 have hl:=flat_len xs hx
 have:=h.loadAgg (P:=Tryz.prog) (i:=i*256) agg_block (by rw [length_u8L,hl]; (have:(i+1)*256<=xs.length*256:=Nat.mul_le_mul_right _ hlt); omega)
 rw [add_none]
 rw [u8L_sub,flat_get xs hx i x hi] at this
 exact this
theorem last_c (h:DiskIn w R b sb mb sc L D) {i:Nat} {v:List Bk} (hv:D.vs[i]?=some v) (hlen:v.length<=1000000) (hk:∀ w',Mod No w w'->K (.agg ⟨u8L (lastV v)⟩) w'):Cal Tryz.prog F_disk_Disk_last #[.pointer (some ⟨b,0,none⟩),.int .i64 i] w K:=by
 apply C_disk_Disk_last
 unfold D_disk_Disk_last
 refine ⟨_,_,alloc_block w,_,rfl,some mb,?_⟩
 have m1:Mod No w (w.alloc (.cells ⟨u8L (List.replicate 256 0)⟩ 278)):=(Mod.refl No w).alloc _
 have h':=h.nos m1
 refine ⟨h'.lm,?_⟩
 have hll:=h.wf.lastLen hv
 have fin:K (.agg ⟨u8L (lastV v)⟩) (w.alloc (.cells ⟨u8L (lastV v)⟩ 278)):=hk _ ((Mod.refl No w).alloc _)
 have st:∃ w2,RuU (Instr.storeAt 278 (.pointer (some ⟨w.heap.size,0,none⟩)) (.agg ⟨u8L (lastV v)⟩)) (w.alloc (.cells ⟨u8L (List.replicate 256 0)⟩ 278)) w2 /\
   ∃ g:Array Value,Ru (Instr.loadAt 278 (.pointer (some ⟨w.heap.size,0,none⟩))) w2 (.agg g) w2/\K (.agg g) w2 :=
  ⟨_,store_new agg_block (by rw [length_u8L,List.length_replicate]) (by simp [hll]) (one_u8L _),_,load_new agg_block (by simp [hll]),fin⟩
 rcases h'.opn i v hv with ⟨ht,hl⟩ | ⟨ht,vb,c,hl,hc,hat,_⟩
 ·refine ⟨_,_,_,look_none h'.map hl,ff (by simp) ⟨_,rfl,_,_,_,h'.ls,_,fun _=>idx_block (List.getElem?_eq_some_iff.1 hv).1 _,⟨u8L (lastV v)⟩,?_,st⟩⟩
  rw [last_one ht]
  exact load_block h'.safe.at h.wf.hd (by rw [List.getElem?_map,hv]; rfl)
 ·refine ⟨_,_,_,look_some h'.map hl,?_⟩
  have hpos:0<v.tail.length:=List.length_pos_iff.2 ht
  have htl:v.tail.length<=v.length:=by simp
  refine tt (decide_eq_true (by omega)) ?_
  rw [wrap64 (x:=(v.tail.length:Int)-1) (by omega) (by omega),show (v.tail.length:Int)-1=((v.tail.length-1:Nat):Int) by omega]
  refine ⟨_,fun _=>idx_block (by omega) _,_,load_block hat (h.wf.tl hv) (last_tail ht),st⟩
end
end Go.Proofs.YtelhlihjihklbaaGreat
end
section
open Go Go.Den
namespace Go.Den
section
variable {P:Program} {w:World}
theorem next_run {r mb since c0:Nat} {ty:TypeId} {seen:Array Nat} {es:Array MapEntry} {clock:Nat} (hr:w.heap[r]?=some (.mapIter (some mb) since seen c0)) (hb:w.heap[mb]?=some (.map es clock))
  (hold:∀ x∈es.toList,x.born<since) (hsc:since<=c0) :
  ((leftOf es seen).size=0/\(Instr.next (.pointer (some ⟨r,0,none⟩)) false ty).run P w=.ok (.tuple #[.bool false]) w) \/
  ∃ e∈(leftOf es seen).toList,∃ w',(Instr.next (.pointer (some ⟨r,0,none⟩)) false ty).run P w=.ok (.tuple #[.bool true,e.key,e.val]) w'/\w'.heap[r]?=some (.mapIter (some mb) since (seen.push e.born) clock) /\
   Mod (fun x=>x=r) w w'/\w'.heap.size=w.heap.size:=by
 simp only [Instr.next,getObj,Sem.run_bind,Sem.run,hr,hb,Result.andThen,next_test_false seen es since c0 hold hsc,Bool.false_eq_true,if_false]
 unfold leftOf
 have hmem:∀ x∈(Array.filter (fun e=>!seen.contains e.born) es).toList,x.born<since:=fun x hx=>hold x (by simp at hx |-; exact hx.1)
 generalize Array.filter (fun e=>!seen.contains e.born) es=L at hmem |-
 have e1:L.filter (fun x=>decide (x.born<since))=L:=Array.filter_eq_self.2 (fun x hx=>by simpa using hmem x (by simpa using hx))
 have e2:L.filter (fun x=>decide (x.born >= since))=#[]:=by
  rw [Array.filter_eq_empty_iff]
  intro x hx
  have:=hmem x (by simpa using hx)
  simp
  omega
 simp only [e1,e2,Array.append_empty]
 by_cases h0:L.size=0
 ·left
  have:L=#[]:=Array.eq_empty_of_size_eq_zero h0
  subst this
  refine ⟨rfl,?_⟩
  simp [choose,Sem.run,Question.forced]
 ·right
  have hne:L.isEmpty=false:=by simp [Array.isEmpty,h0]
  simp only [hne,Bool.false_eq_true,if_false,Array.empty_append,Array.size_map]
  have hch:∃ (j:Nat) (w1:World),j<L.size/\w1.heap=w.heap/\Mod (fun x=>x=r) w w1/\(choose (Question.mapNext L.size)).run P w=.ok j w1:=by
   by_cases hf:L.size<=1
   ·exact ⟨0,w,by omega,rfl,Mod.refl _ _,by simp [choose,Sem.run,Question.forced,hf]⟩
   ·exact ⟨_,drew w,Nat.mod_lt _ (by omega),rfl,(Mod.refl _ _).drew,by
     simp only [choose,Sem.run,Question.forced,decide_eq_true_eq,hf,if_false,Question.cut]
     rfl⟩
  obtain ⟨j,w1,hj,hh,hm,hrun⟩:=hch
  have hr1:w1.heap[r]?=some (.mapIter (some mb) since seen c0):=by rw [hh]; exact hr
  refine ⟨L[j],by simp,put w1 r (.mapIter (some mb) since (seen.push L[j].born) clock),?_,heap_put_same (lt_of_heap hr1),?_,by simp [hh]⟩
  ·simp only [hrun,Array.getElem?_map,Array.getElem?_eq_getElem hj,Option.map_some,Sem.run_bind,setObj,Sem.run,hr1,Result.andThen]
   rfl
  ·exact hm.trans ((Mod.refl (fun x=>x=r) w1).put (.inr rfl) _) fun _ _ h=>h
theorem entry_run {r mb since:Nat} {seen:Array Nat} {es:Array MapEntry} {clock:Nat} {e:MapEntry} (hr:w.heap[r]?=some (.mapIter (some mb) since (seen.push e.born) clock)) (hb:w.heap[mb]?=some (.map es clock))
  (he:e∈es.toList) (hn:(es.toList.map (·.born)).Nodup):(Instr.entry (.pointer (some ⟨r,0,none⟩))).run P w=.ok (.tuple #[e.key,e.val]) w:=by
 have hf:es.find? (·.born==e.born)=some e:=by rw [<- Array.find?_toList]; exact find_born e es.toList hn he
 simp only [Instr.entry,getObj,Sem.run_bind,Sem.run,hr,hb,Result.andThen,Array.back?_push,bne_self_eq_false,Bool.false_eq_true,if_false,hf]
 rfl
theorem range_run {T k e:TypeId} {mb:Nat} {es:Array MapEntry} {clock:Nat} (ht:P.underlying T=some (.map k e)) (hb:w.heap[mb]?=some (.map es clock)) :
  (Instr.range T (.map (some mb))).run P w=.ok (.pointer (some ⟨w.heap.size,0,none⟩)) (w.alloc (.mapIter (some mb) clock #[] clock)):=run_range_map w T k e mb es clock ht hb
theorem iterSeen_of {r:Nat} {a:Option Nat} {b c:Nat} {s:Array Nat} (h:w.heap[r]?=some (.mapIter a b s c)):w.iterSeen r=s:=by
 unfold World.iterSeen; rw [h]
structure Ranged (w:World) (r mb:Nat) (Es:List Ent) (clock:Nat) (vis:List Ent):Prop where
 map:w.heap[mb]?=some (.map (Es.map toE).toArray clock)
 iter:w.heap[r]?=some (.mapIter (some mb) clock (vis.map (·.2.2)).toArray clock)
 sub:∀ e∈vis,e∈Es
 nodup:(vis.map (·.2.2)).Nodup
 born:∀ e∈Es,e.2.2<clock
 all:(Es.map (·.2.2)).Nodup
def togo (mb r:Nat) (w:World):Nat:=match w.heap[mb]? with | some (.map es _)=>(leftOf es (w.iterSeen r)).size | _=>0
theorem Ranged.keep {S:Nat->Prop} {r mb clock:Nat} {Es vis:List Ent} {w':World} (h:Ranged w r mb Es clock vis) (m:Mod S w w') (h1:¬ S r) (h2:¬ S mb):Ranged w' r mb Es clock vis :=
 ⟨m.keep h.map h2,m.keep h.iter h1,h.sub,h.nodup,h.born,h.all⟩
theorem Ranged.togo {r mb clock:Nat} {Es vis:List Ent} (h:Ranged w r mb Es clock vis):togo mb r w=(leftOf (Es.map toE).toArray (vis.map (·.2.2)).toArray).size:=by
 unfold Go.Den.togo; rw [h.map,iterSeen_of h.iter]
theorem nodup_of_map {α β:Type} {f:α->β}:∀ {l:List α},(l.map f).Nodup->l.Nodup
 | [],_=>List.nodup_nil
 | x::r,h=>by
  rw [List.map_cons,List.nodup_cons] at h
  exact List.nodup_cons.2 ⟨fun hx=>h.1 (List.mem_map.2 ⟨x,hx,rfl⟩),nodup_of_map h.2⟩
theorem born_eq {Es:List Ent} (hn:(Es.map (·.2.2)).Nodup):∀ {x e:Ent},x∈Es->e∈Es->x.2.2=e.2.2->x=e:=by
 induction Es with
 | nil=>intro x e hx; cases hx
 | cons y r ih =>
  rw [List.map_cons,List.nodup_cons] at hn
  intro x e hx he h
  rcases List.mem_cons.1 hx with rfl | hx
  ·rcases List.mem_cons.1 he with rfl | he
   ·rfl
   ·exact absurd (List.mem_map.2 ⟨e,he,h.symm⟩) hn.1
  ·rcases List.mem_cons.1 he with he | he
   ·exact absurd (List.mem_map.2 ⟨x,hx,by rw [h,he]⟩) hn.1
   ·exact ih hn.2 hx he h
theorem Ranged.next {r mb clock:Nat} {ty:TypeId} {Es vis:List Ent} (h:Ranged w r mb Es clock vis) :
  (vis.Perm Es/\(Instr.next (.pointer (some ⟨r,0,none⟩)) false ty).run P w=.ok (.tuple #[.bool false]) w) \/
  ∃ e∈Es,∃ w',(Instr.next (.pointer (some ⟨r,0,none⟩)) false ty).run P w=.ok (.tuple #[.bool true,.int .i64 e.1,e.2.1]) w'/\(Instr.entry (.pointer (some ⟨r,0,none⟩))).run P w'=.ok (.tuple #[.int .i64 e.1,e.2.1]) w' /\
   Ranged w' r mb Es clock (vis++[e])/\e ∉ vis/\Mod (fun x=>x=r) w w'/\Go.Den.togo mb r w'<Go.Den.togo mb r w:=by
 have hborn:∀ x∈((Es.map toE).toArray).toList,x.born<clock:=by
  intro x hx
  simp only [List.mem_map] at hx
  obtain ⟨e,he,rfl⟩:=hx
  exact h.born e he
 have hnd:(((Es.map toE).toArray).toList.map (·.born)).Nodup:=by
  have:=h.all
  rw [List.map_map]; exact this
 rcases next_run (P:=P) (ty:=ty) h.iter h.map hborn (Nat.le_refl _) with ⟨h0,hrun⟩ | ⟨e,he,w',hrun,hit,hm,hsz⟩
 ·refine .inl ⟨?_,hrun⟩
  refine (List.perm_ext_iff_of_nodup (nodup_of_map h.nodup) (nodup_of_map h.all)).2 fun a=>⟨h.sub a,fun ha=>?_⟩
  have:=all_seen _ _ h0 (toE a) (by simp only [List.mem_map]; exact ⟨a,ha,rfl⟩)
  have hb:a.2.2∈vis.map (·.2.2):=by simpa [toE] using this
  obtain ⟨v,hv,hve⟩:=List.mem_map.1 hb
  rw [<- born_eq h.all (h.sub v hv) ha hve]; exact hv
 ·right
  obtain ⟨hin,hns⟩:=mem_left he
  simp only [List.mem_map] at hin
  obtain ⟨x,hx,rfl⟩:=hin
  have hnx:x.2.2 ∉ vis.map (·.2.2):=by
   intro hc
   have:(vis.map (·.2.2)).toArray.contains (toE x).born=true:=by simpa [toE] using hc
   rw [this] at hns; cases hns
  have hne:mb≠r:=by
   rintro rfl
   have h1:=h.map; rw [h.iter] at h1; cases h1
  have hmap':=hm.keep h.map hne
  have hR:Ranged w' r mb Es clock (vis++[x]):=by
   refine ⟨hmap',?_,?_,?_,h.born,h.all⟩
   ·rw [hit]; simp [toE]
   ·intro e he
    rcases List.mem_append.1 he with he | he
    ·exact h.sub e he
    ·simp at he; subst he; exact hx
   ·rw [List.map_append]
    refine List.nodup_append.2 ⟨h.nodup,by simp,?_⟩
    intro a ha b hb
    simp at hb; subst hb
    exact fun e=>hnx (e ▸ ha)
  refine ⟨x,hx,w',hrun,?_,hR,fun hc=>hnx (List.mem_map.2 ⟨x,hc,rfl⟩),hm,?_⟩
  ·exact entry_run (e:=toE x) hit hmap' (by simp only [List.mem_map]; exact ⟨x,hx,rfl⟩) hnd
  ·rw [hR.togo,h.togo]
   have:=left_shrinks _ _ _ he
   simpa [toE] using this
end
end Go.Den
end
section
open Go Go.Den Go.Proofs
namespace Go.Den
theorem look_mem:∀ {L:List (Int×Value)} {k:Int} {v:Value},lookupL L k=some v->(k,v)∈L
 | p::r,k,v,h=>by
  simp only [lookupL] at h
  by_cases hp:p.1=k
  ·rw [if_pos hp] at h
   have:=Option.some.inj h
   subst hp; subst this; simp
  ·rw [if_neg hp] at h
   exact List.mem_cons_of_mem _ (look_mem h)
theorem look_notin:∀ {L:List (Int×Value)} {k:Int},lookupL L k=none->∀ p∈L,p.1≠k
 | p::r,k,h,q,hq=>by
  simp only [lookupL] at h
  by_cases hp:p.1=k
  ·rw [if_pos hp] at h; cases h
  ·rw [if_neg hp] at h
   rcases List.mem_cons.1 hq with rfl | hq
   ·exact hp
   ·exact look_notin h q hq
def isOpen (D:St) (i:Nat):Bool:=!((D.vs[i]?.getD []).tail.isEmpty)
def openN (D:St):List Nat:=(List.range D.vs.length).filter (isOpen D)
def openS (D:St):List Int:=(openN D).map fun i:Nat=>(i:Int)
theorem openS_sorted (D:St):List.Pairwise (fun a b:Int=>a<=b) (openS D):=by
 unfold openS
 rw [List.pairwise_map]
 refine List.Pairwise.imp ?_ ((List.pairwise_lt_range (n:=D.vs.length)).filter (isOpen D))
 intro a b h; omega
theorem openS_nodup (D:St):(openS D).Nodup:=by
 unfold openS
 rw [List.Nodup,List.pairwise_map]
 refine List.Pairwise.imp ?_ ((List.pairwise_lt_range (n:=D.vs.length)).filter (isOpen D))
 intro a b h; omega
theorem keys_open {w:World} {R:Nat->Prop} {b sb mb sc:Nat} {L:List (Int×Value)} {D:St} (h:DiskIn w R b sb mb sc L D) (k:Int):k∈L.map (·.1)↔k∈openS D:=by
 constructor
 ·intro hk
  obtain ⟨p,hp,rfl⟩:=List.mem_map.1 hk
  obtain ⟨i,hi,hlt⟩:=h.keys p hp
  have hv:D.vs[i]?=some (D.vs[i]):=by simp [hlt]
  rcases h.opn i _ hv with ⟨_,hl⟩ | ⟨ht,_⟩
  ·exact absurd hi (look_notin hl p hp)
  ·unfold openS openN
   refine List.mem_map.2 ⟨i,List.mem_filter.2 ⟨List.mem_range.2 hlt,?_⟩,hi.symm⟩
   unfold isOpen; rw [hv]
   simpa [List.isEmpty_iff] using ht
 ·intro hk
  unfold openS openN at hk
  obtain ⟨i,hi,rfl⟩:=List.mem_map.1 hk
  obtain ⟨hr,ho⟩:=List.mem_filter.1 hi
  have hlt:=List.mem_range.1 hr
  have hv:D.vs[i]?=some (D.vs[i]):=by simp [hlt]
  unfold isOpen at ho; rw [hv] at ho
  rcases h.opn i _ hv with ⟨ht,_⟩ | ⟨_,vb,c,hl,_⟩
  ·simp [ht] at ho
  ·exact List.mem_map.2 ⟨_,look_mem hl,rfl⟩
end Go.Den
namespace Go.Proofs.YtelhlihjihklbaaGreat
section
variable {w:World} {R:Nat->Prop} {b sb mb sc:Nat} {L:List (Int×Value)} {D:St} {K:Value->World->Prop}
theorem sorted_open {zs:List Int} (hn:zs.Nodup) (hm:∀ k,k∈zs↔k∈openS D):sorted zs=openS D:=by
 have hp:zs.Perm (openS D):=(List.perm_ext_iff_of_nodup hn (openS_nodup D)).2 hm
 refine List.Perm.eq_of_pairwise (le:=fun a b:Int=>a<=b) (fun a b _ _ h1 h2=>by omega) ?_ (openS_sorted D) ((List.mergeSort_perm _ _).trans hp)
 have:=List.pairwise_mergeSort (le:=fun x y:Int=>decide (x<=y)) (fun a b c h1 h2=>by simp only [decide_eq_true_eq] at *; omega) (fun a b=>by simp only [Bool.or_eq_true,decide_eq_true_eq]; omega) zs
 refine List.Pairwise.imp ?_ this
 intro a b h; exact of_decide_eq_true h
theorem Open_c (h:DiskIn w R b sb mb sc L D) (hk:∀ w' a l c,Mod No w w'->Ow Tryz.prog w' w.heap.size 80 1 a l c (iL (openS D))->K (.slice a l c) w'):Cal Tryz.prog F_disk_Disk_Open #[.pointer (some ⟨b,0,none⟩)] w K:=by
 apply C_disk_Disk_Open
 unfold D_disk_Disk_Open
 obtain ⟨Es,clock,g1,g2,g3,g4,g5⟩:=h.map
 have hu:Tryz.prog.underlying 207=some (.map 3 206):=by kernel_rfl
 refine ff rfl ⟨_,rfl,some mb,h.lm,_,_,range_run hu g1,?_⟩
 have m1:Mod No w (w.alloc (.mapIter (some mb) clock #[] clock)):=(Mod.refl No w).alloc _
 have hmb:=lt_of_heap g1
 have hlenE:Es.length<=4096:=by
  have hsub:(L.map (·.1)).length<=(openS D).length:=List.Nodup.length_le_of_subset h.map.nodup fun k hk=>(keys_open h k).1 hk
  have h1:(openS D).length<=D.vs.length:=by
   unfold openS openN; rw [List.length_map]
   exact Nat.le_trans (List.length_filter_le _ _) (by simp)
  have:=h.wf.hi
  rw [<- g2] at hsub; simp at hsub; omega
 refine ⟨fun x w2=>∃ vis a l c,x=[.slice a l c]/\Ow Tryz.prog w2 (w.heap.size+1) 80 1 a l c (iL (vis.map (·.1)))/\Ranged w2 w.heap.size mb Es clock vis/\Mod No w w2/\w.heap.size+1<=w2.heap.size,
  fun _ w2=>togo mb w.heap.size w2,⟨[],none,0,0,rfl,Ow.nil elemZ_ints,⟨m1.keep g1 id,heap_new w _,by simp,by simp,g4,g5⟩,m1,by simp⟩,?_⟩
 rintro x w2 ⟨vis,a,l,c,rfl,how,hR,hm,hsz⟩
 have hvl:vis.length<=Es.length:=by
  have:=List.Nodup.length_le_of_subset (nodup_of_map hR.nodup) (fun e he=>hR.sub e he); exact this
 have hl:l=vis.length:=by have:=how.len; simpa using this.symm
 rcases hR.next (P:=Tryz.prog) (ty:=0) with ⟨hp,hrun⟩ | ⟨e,he,w3,hrun,hent,hR3,hnin,hm3,hlt⟩
 ·refine ⟨_,_,hrun,false,fun _=>rfl,ff rfl ⟨_,_,_,rfl,Sort_c how (fun w4 o4 m4=>⟨rfl,?_⟩) (by rw [List.length_map]; omega)⟩⟩
  have hs:sorted (vis.map (·.1))=openS D:=by
   refine sorted_open ?_ fun k=>?_
   ·exact (hp.map (·.1)).nodup_iff.2 g3
   ·rw [(hp.map (·.1)).mem_iff,<- keys_open h k,<- g2,List.map_map]; rfl
  rw [hs] at o4
  exact hk w4 a l c (hm.up m4 (by omega)) (o4.mono (by omega))
 ·refine ⟨_,w3,hrun,true,fun _=>rfl,tt rfl ⟨_,hent,_,fun _=>rfl,_,_,_,rfl,_,_,_,_,builtI _ _,?_⟩⟩
  have how3:=how.keep hm3 (fun q hq e=>by have:=(how.base hq).1; omega)
  obtain ⟨a4,c4,w4,h4,o4,m4⟩:=how3.snoc (ty:=80) (t:=3) (ys:=[.int .i64 e.1]) elemZ_ints (by omega) rfl (by simp; rfl) (by omega) (by omega) (by have:=hm3.size; omega)
  have hmb':mb<w.heap.size+1:=by omega
  have hR4:=hR3.keep m4 (by omega) (by omega)
  refine ⟨_,_,_,w4,h4,⟨vis++[e],a4,_,c4,rfl,?_,hR4,(hm.trans hm3 fun x hx e=>by omega).trans m4 fun x hx e=>by omega,by have:=hm3.size; have:=m4.size; omega⟩,?_⟩
  ·rw [List.map_append]; simpa [iL,I] using o4
  ·have e1:togo mb w.heap.size w4=togo mb w.heap.size w3:=by rw [hR4.togo,hR3.togo]
   show togo mb w.heap.size w4<togo mb w.heap.size w2
   rw [e1]; exact hlt
def verOf (D:St) (n:Int):List Bk:=if n<0 then [] else D.vs[n.toNat]?.getD []
def Fresh (w0 w:World) (a:Option Addr) (xs:List UInt8):Prop:=(a=none/\xs=[])\/∃ q,a=some ⟨q,0,none⟩/\w0.heap.size<=q/\AtU w q 0 (u8L xs)
theorem Fresh.row {w0 w:World} {a:Option Addr} {xs:List UInt8} (h:Fresh w0 w a xs):Row w a (u8L xs):=by
 rcases h with ⟨_,rfl⟩ | ⟨q,rfl,_,h⟩
 ·exact .inl rfl
 ·exact .inr ⟨q,0,rfl,h.at⟩
theorem Fresh.nos {w0 w w':World} {a:Option Addr} {xs:List UInt8} (h:Fresh w0 w a xs) (m:Mod No w w'):Fresh w0 w' a xs:=by
 rcases h with h | ⟨q,rfl,hq,h⟩
 ·exact .inl h
 ·exact .inr ⟨q,rfl,hq,h.keep m id⟩
theorem err_cases (n:Int):(errOf D n=3/\(n<0\/D.vs.length<=n))\/(errOf D n=0/\∃ i v,n=(i:Nat)/\D.vs[i]?=some v/\verOf D n=v):=by
 unfold errOf verOf
 by_cases h:n<0\/D.vs.length<=n
 ·rw [if_pos h]; exact .inl ⟨rfl,h⟩
 ·rw [if_neg h,if_neg (by omega)]
  refine .inr ⟨rfl,n.toNat,D.vs[n.toNat]'(by omega),by omega,by simp,?_⟩
  have:n.toNat<D.vs.length:=by omega
  simp [this]
def rdB (D:St) (n:Int):List UInt8:=if errOf D n=0 then lastV (verOf D n) else []
def Small (D:St):Prop:=∀ v∈D.vs,v.length<=1000000
theorem Read_c (h:DiskIn w R b sb mb sc L D) (hs:Small D) {n:Int} (hk:∀ w' a c,Mod No w w'->Fresh w w' a (rdB D n)->K (.tuple #[.slice a (rdB D n).length c,.int .i64 (errOf D n)]) w'):Cal Tryz.prog F_disk_Disk_Read #[.pointer (some ⟨b,0,none⟩),.int .i64 n] w K:=by
 apply C_disk_Disk_Read
 unfold D_disk_Disk_Read
 refine may_c h ⟨_,rfl,?_⟩
 rcases err_cases (D:=D) n with ⟨he,_⟩ | ⟨he,i,v,rfl,hv,hver⟩
 ·have hb:rdB D n=[]:=by unfold rdB; rw [if_neg (by omega)]
  refine tt (by rw [he]; rfl) ?_
  have:=hk w none 0 (Mod.refl _ _) (.inl ⟨rfl,hb⟩)
  rw [hb] at this; exact this
 ·have hb:rdB D i=lastV v:=by unfold rdB; rw [if_pos he,hver]
  have hll:=h.wf.lastLen hv
  refine ff (by rw [he]; rfl) (last_c h hv (hs v (List.mem_of_getElem? hv)) fun w2 m2=>⟨_,rfl,_,_,alloc_block w2,_,store_new agg_block (by rw [length_u8L,List.length_replicate]) (by simp [hll]) (one_u8L _),_,_,_,slice_block _,?_⟩)
  have:=hk (w2.alloc (.cells ⟨u8L (lastV v)⟩ 278)) (some ⟨w2.heap.size,0,none⟩) 256 (m2.alloc _) (.inr ⟨w2.heap.size,rfl,m2.size,by rw [hb]; exact AtU.new⟩)
  rw [hb,hll,he] at this; exact this
theorem Len_c (h:DiskIn w R b sb mb sc L D) (hk:K (.int .i64 D.vs.length) w):Cal Tryz.prog F_disk_Disk_Len #[.pointer (some ⟨b,0,none⟩)] w K:=by
 apply C_disk_Disk_Len
 unfold D_disk_Disk_Len
 exact ff rfl ⟨_,rfl,_,_,_,h.ls,hk⟩
theorem verOf_none {n:Int} (h:n<0\/D.vs.length<=n):verOf D n=[]:=by
 unfold verOf
 split
 ·rfl
 ·rw [List.getElem?_eq_none (by omega)]; rfl
end
end Go.Proofs.YtelhlihjihklbaaGreat
end
section
open Go Go.Den Go.Proofs
namespace Go.Den
section
variable {P:Program} {w:World}
theorem slice_3 {T:TypeId} {k n c:Nat} {a:Option Addr} (hT:elemN P T=some k) (h2:n<=c) (w:World) :
  (Instr.sliceAt T (.slice a n c) none (some (.int .i64 n)) (some (.int .i64 n))).run P w=.ok (.slice (cutA a n 0 k) n n) w:=by
 obtain ⟨e,inf,he,hi,hk⟩:=elem_is hT
 have hb1:=fun code=>bound_ok (P:=P) (kk:=.i64) (i:=n) (y:=c) (code:=code) (by omega) (by omega) w
 have hb2:=fun code=>bound_ok (P:=P) (kk:=.i64) (i:=n) (y:=n) (code:=code) (by omega) (by omega) w
 simp only [Instr.sliceAt,Sem.run_bind,run_und he,Result.andThen_ok,Instr.slice,Instr.sliceBounds,Sem.run_pure,if_true,hb1,hb2,Int.toNat_natCast,run_sizeOf hi,hk]
 unfold cutA
 split <;> rfl
theorem look_put:∀ (L:List (Int×Value)) (k:Int) (v:Value) (k':Int),lookupL (putL k v L) k'=if k=k' then some v else lookupL L k'
 | [],k,v,k'=>by simp [putL,lookupL]
 | p::r,k,v,k'=>by
  simp only [putL]
  by_cases hp:p.1=k
  ·rw [if_pos hp]
   simp only [lookupL]
   by_cases hk:k=k'
   ·rw [if_pos hk,if_pos hk]
   ·rw [if_neg hk,if_neg hk,if_neg (by omega)]
  ·rw [if_neg hp]
   simp only [lookupL]
   by_cases hp':p.1=k'
   ·rw [if_pos hp',if_neg (by omega),if_pos hp']
   ·rw [if_neg hp',if_neg hp',look_put r k v k']
theorem put_keys {L:List (Int×Value)} {k:Int} {v:Value}:∀ p∈putL k v L,p.1=k\/p∈L:=by
 induction L with
 | nil=>intro p hp; simp [putL] at hp; exact .inl (by rw [hp])
 | cons q r ih =>
  intro p hp
  simp only [putL] at hp
  by_cases hq:q.1=k
  ·rw [if_pos hq] at hp
   rcases List.mem_cons.1 hp with rfl | hp
   ·exact .inl rfl
   ·exact .inr (List.mem_cons_of_mem _ hp)
  ·rw [if_neg hq] at hp
   rcases List.mem_cons.1 hp with rfl | hp
   ·exact .inr (by simp)
   ·rcases ih p hp with h | h
    ·exact .inl h
    ·exact .inr (List.mem_cons_of_mem _ h)
end
def zeroB:Bk:=List.replicate 256 0
def newSt (n:Nat):St:=⟨List.replicate n [zeroB],-1⟩
theorem WF.new {n:Nat} (h0:1<=n) (h1:n<=4096):WF (newSt n) where
 ver:=by
  intro v hv
  have:=List.eq_of_mem_replicate hv
  subst this
  exact ⟨by simp,by intro x hx; simp at hx; subst hx; exact List.length_replicate⟩
 lo:=by simp [newSt]; exact h0
 hi:=by simp [newSt]; exact h1
 l0:=by simp [newSt]
 l1:=by simp [newSt]
theorem flat_rep:∀ n:Nat,(List.replicate n zeroB).flatten=List.replicate (n*256) 0
 | 0=>by simp
 | n+1=>by
  rw [List.replicate_succ,List.flatten_cons,flat_rep n,zeroB,List.replicate_append_replicate]
  congr 1; omega
def Gro (R:Nat->Prop) (w w':World):Nat->Prop:=fun x=>R x\/(w.heap.size<=x/\x<w'.heap.size)
def dec (l:Int):Int:=if -1 > l-1 then -1 else l-1
end Go.Den
namespace Go.Proofs.YtelhlihjihklbaaGreat
section
variable {w:World} {R:Nat->Prop} {b sb mb sc:Nat} {L:List (Int×Value)} {D:St} {K:Value->World->Prop}
theorem build_disk (w:World) (a:Option Addr) (l c:Nat) (m:Option Nat):(Instr.build 209 #[(0,.slice a l c),(1,.map m),(2,.int .i64 (-1))]).run Tryz.prog w=.ok (.agg ⟨[.slice a l c,.map m,.int .i64 (-1)]⟩) w:=by kernel_rfl
theorem New_c {n : Int} (h0 : -9223372036854775808 ≤ n) (h1 : n ≤ 9223372036854775807) (hbad : n < 1 ∨ 4096 < n → K (.tuple #[.pointer none, .int .i64 1]) w)
    (hok : ∀ k : Nat, n = k → 1 ≤ k → k ≤ 4096 → ∀ w' b sb mb, Mod No w w' → DiskIn w' (fun x => w.heap.size ≤ x ∧ x < w'.heap.size) b sb mb k [] (newSt k) → K (.tuple #[.pointer (some ⟨b, 0, none⟩), .int .i64 0]) w') :
    Cal Tryz.prog F_disk_New #[.int .i64 n] w K := by
  apply C_disk_New
  unfold D_disk_New
  refine Share.or ⟨_, rfl, cond_of (fun hb => ?_) (fun hb => ?_)⟩
  · exact hbad (by simpa using hb)
  have hn : ¬ (n < 1 ∨ 4096 < n) := by simpa using hb
  obtain ⟨k, rfl⟩ := Int.eq_ofNat_of_zero_le (show 0 ≤ n by omega)
  obtain ⟨w1, hm1, hat1, hmod1, hsz1⟩ := makeSlice_run (P := Tryz.prog) (w := w) (n := k) elemZ_blocks (by omega) (by omega) (by omega)
  refine ⟨_, _, _, w1, hm1, _, _, makeMap_run, _, fun w => build_disk w _ _ _ _, _, _, box_run, ?_⟩
  have m2 : Mod No w1 (w1.alloc (.map #[] 0)) := (Mod.refl No w1).alloc _
  have m3 : Mod No (w1.alloc (.map #[] 0)) ((w1.alloc (.map #[] 0)).alloc (.cells ⟨[.slice (some ⟨w.heap.size, 0, none⟩) k k, .map (some w1.heap.size), .int .i64 (-1)]⟩ 209)) := (Mod.refl No _).alloc _
  have hz : List.replicate (k * 256) (Value.int .u8 0) = u8L ((newSt k).vs.map hd).flatten := by
    have : (newSt k).vs.map hd = List.replicate k zeroB := by simp [newSt, hd]
    rw [this, flat_rep]; simp [u8L, u8]
  rw [hz] at hat1
  refine hok k rfl (by omega) (by omega) _ _ w.heap.size w1.heap.size ((hmod1.no m2).no m3) ?_
  have hs2 : (w1.alloc (.map #[] 0)).heap.size = w.heap.size + 2 := by simp [hsz1]
  have hs3 : ((w1.alloc (.map #[] 0)).alloc (.cells (Value.agg ⟨[.slice (some ⟨w.heap.size, 0, none⟩) k k, .map (some w1.heap.size), .int .i64 (-1)]⟩).cells 209)).heap.size = w.heap.size + 3 := by simp [hsz1]
  exact { cell := by
            have : (newSt k).vs.length = k := by simp [newSt]
            rw [this]; exact AtU.new
          cap := by simp [newSt]
          safe := (hat1.keep m2 id).keep m3 id
          map := MapAt.new.keep m3 id
          rb := by rw [hs3]; omega
          rs := by rw [hs3]; omega
          rm := by rw [hs3]; omega
          ne := by omega
          opn := fun i v hv => .inl ⟨by
            have := List.eq_of_mem_replicate (List.mem_of_getElem? hv)
            subst this; rfl, rfl⟩
          keys := by simp
          wf := WF.new (by omega) (by omega)
          lt := fun x hx => hx.2 }
def fillB (xs:List UInt8):Bk:=(List.range 256).map fun i=>xs.getD (i % xs.length) 0
@[simp] theorem length_fillB (xs:List UInt8):(fillB xs).length=256:=by simp [fillB]
end
end Go.Proofs.YtelhlihjihklbaaGreat
end
section
open Go Go.Den Go.Proofs
namespace Go.Den
section
variable {P:Program} {w:World}
theorem At.pre {g:Nat} {e:TypeId} {fz:Nat×Nat} {arr:Array Value} {cs rest:List Value} (h:w.heap[g]?=some (.cells arr e fz)) (ha:arr.toList=cs++rest):At w g 0 cs :=
 ⟨arr.toList,e,fz,h,by rw [ha]; simp,by rw [ha]; simp⟩
theorem size_drew_alloc (o:Obj):w.heap.size<(w.drew.alloc o).heap.size:=by
 show w.heap.size<(w.heap.push o).size
 simp
theorem append_full {T ty:TypeId} {k bytes l q:Nat} {z:Value} {a:Option Addr} {xs ys:List Value} (hT:elemZ P T k z bytes) (hk:0<k) (hx:xs.length=l*k)
  (hr:(l=0/\a=none)\/(0<l/\∃ b,a=some ⟨b,0,none⟩/\At w b 0 xs)) (hy:ys.length=k) (hyr:At w q 0 ys) (h63:(l+1)*bytes<=140737488355328) (hb:0<bytes) :
  ∃ c' w',(Builtin.append_ #[T,T] ty #[.slice a l l,.slice (some ⟨q,0,none⟩) 1 1]).run P w=.ok (.slice (some ⟨w.heap.size,0,none⟩) (l+1) c') w'/\l+1<=c'/\At w' w.heap.size 0 (xs++ys)/\Mod No w w'/\w.heap.size<w'.heap.size:=by
 obtain ⟨e,i,zv,he,hi,hsz,hz,hzc,hby⟩:=hT.is
 have hnews:∀ j v,ys[j]?=some v->w.cell? (Addr.add ⟨q,0,none⟩ j)=some v:=fun j v hj=>hyr.cell hj
 have hle:l+1<=(l+1)*bytes:=Nat.le_mul_of_pos_right _ hb
 have hm:∀ o:Obj,Mod No w (w.drew.alloc o):=fun o=>((Mod.refl No w).drew (b:=w)).alloc o
 rcases hr with ⟨rfl,rfl⟩ | ⟨hl,b,rfl,hat⟩
 ·have hx0:xs=[]:=List.eq_nil_of_length_eq_zero (by omega)
  subst hx0
  refine ⟨_,_,run_append_nil w T ty e i zv he hi hz ⟨q,0,none⟩ 1 1 ys (by rw [hsz]; omega) hnews (by omega) (by omega) (by rw [hby]; omega),?_,?_,hm _,size_drew_alloc _⟩
  ·exact grownCap_ge w 1 0 e
  ·exact At.pre (heap_new w.drew _) (by rw [Array.toList_append]; rfl)
 ·have holds:∀ j v,xs[j]?=some v->w.cell? (Addr.add ⟨b,0,none⟩ j)=some v:=fun j v hj=>hat.cell hj
  refine ⟨_,_,run_append_grow w T ty e i zv he hi hz ⟨b,0,none⟩ l l xs (by rw [hsz]; exact hx) holds ⟨q,0,none⟩ 1 1 ys (by rw [hsz]; omega) hnews (by omega) (by omega) (growslice_fits (by omega) (by rw [hby]; exact h63)),?_,?_,hm _,size_drew_alloc _⟩
  ·exact grownCap_ge w (l+1) l e
  ·exact At.pre (heap_new w.drew _) (by rw [Array.toList_append,Array.toList_append])
end
def Wr (b sb mb:Nat):Nat->Prop:=fun x=>x=b\/x=sb\/x=mb
theorem DiskIn.wr {w:World} {R:Nat->Prop} {b sb mb sc:Nat} {L:List (Int×Value)} {D:St} (h:DiskIn w R b sb mb sc L D) {x:Nat} (hx:Wr b sb mb x):R x:=by
 rcases hx with rfl | rfl | rfl
 ·exact h.rb
 ·exact h.rs
 ·exact h.rm
theorem DiskIn.gro {w':World} {R:Nat->Prop} {b sb mb sc:Nat} {L:List (Int×Value)} {D:St} (w0:World) (h:DiskIn w' R b sb mb sc L D):DiskIn w' (Gro R w0 w') b sb mb sc L D where
 cell:=h.cell
 cap:=h.cap
 safe:=h.safe
 map:=h.map
 rb:=.inl h.rb
 rs:=.inl h.rs
 rm:=.inl h.rm
 ne:=h.ne
 opn:=fun i v hv=>by
  rcases h.opn i v hv with h | ⟨h1,vb,c,h2,h3,h4,h5,h6⟩
  ·exact .inl h
  ·exact .inr ⟨h1,vb,c,h2,h3,h4,.inl h5,h6⟩
 keys:=h.keys
 wf:=h.wf
 lt:=fun x hx=>by
  rcases hx with hx | hx
  ·exact h.lt x hx
  ·exact hx.2
end Go.Den
namespace Go.Proofs.YtelhlihjihklbaaGreat
section
variable {w:World} {R:Nat->Prop} {b sb mb sc:Nat} {L:List (Int×Value)} {D:St} {K:Value->World->Prop}
def wrE (D:St) (n:Int) (ys:List UInt8):Int:=if errOf D n≠0 then errOf D n else if ys.length≠256 then 4 else 0
def wrSt (D:St) (n:Int) (ys:List UInt8):St:=if wrE D n ys≠0\/D.left=0 then D else ⟨D.vs.set n.toNat (verOf D n++[ys]),dec D.left⟩
theorem arrayAt_block (a:Option Addr) (c:Nat):Al (Instr.arrayAt 278 (.slice a 256 c)) (.pointer a):=fun _=>by kernel_rfl
theorem built_block {ys:List UInt8} (hy:ys.length=256) (w:World):(Instr.buildSlice 206 1 #[(0,.agg ⟨u8L ys⟩)]).run Tryz.prog w=.ok (.slice (some ⟨w.heap.size,0,none⟩) 1 1) (w.alloc (.cells ⟨u8L ys⟩ 278)):=by
 obtain ⟨e,i,zv,he,hi,hsz,hz,hzc,hby⟩:=elemZ_blocks.is
 have hee:e=278:=by
  have:Tryz.prog.underlying 206=some (.slice 278):=by kernel_rfl
  rw [this] at he; simpa using he.symm
 subst hee
 have hf:=Go.Great.fill_whole (s:=256) (by omega) [Value.agg ⟨u8L ys⟩] ((Array.range (1*i.size)).map (zv.cells[· % zv.cells.size]!)) (by simp [Value.cells,hy]) (by simp [hsz])
 have:=run_buildSlice w 206 278 1 #[(0,.agg ⟨u8L ys⟩)] ⟨u8L ys⟩ i zv he hi hz (by rw [hsz]; decide) (by rw [hsz]; decide) (by rw [hsz] at hf |-; simpa [Value.cells] using hf)
 exact this
theorem tail_set {v:List Bk} (hv:v≠[]) (y:Bk):(v++[y]).tail=v.tail++[y]/\hd (v++[y])=hd v:=by
 cases v with
 | nil=>exact absurd rfl hv
 | cons a r=>exact ⟨rfl,rfl⟩
set_option maxRecDepth 100000 in
theorem Write_p (h : DiskIn w R b sb mb sc L D) (hs : ∀ v ∈ D.vs, v.length ≤ 999999) {n : Int} {a : Option Addr} {l c : Nat} {ys : List UInt8} (hl : ys.length = l) (hr : Row w a (u8L ys)) (hdis : ∀ q, a = some q → ¬ R q.block)
    (hk : ∀ w' L', Mod (Wr b sb mb) w w' → DiskIn w' (Gro R w w') b sb mb sc L' (wrSt D n ys) → K (.int .i64 (wrE D n ys)) w') : Cal Tryz.prog F_disk_Disk_Write #[.pointer (some ⟨b, 0, none⟩), .int .i64 n, .slice a l c] w K := by
  apply C_disk_Disk_Write
  unfold D_disk_Disk_Write
  refine may_c h ⟨_, rfl, ?_⟩
  rcases err_cases (D := D) n with ⟨he, ho⟩ | ⟨he, i, v, rfl, hv, hver⟩
  · have hw : wrE D n ys = 3 := by unfold wrE; rw [he, if_pos (by omega)]
    have hS : wrSt D n ys = D := by unfold wrSt; rw [if_pos (.inl (by omega))]
    refine tt (by rw [he]; rfl) ?_
    have := hk w L (Mod.refl _ _) (by rw [hS]; exact h.gro w)
    rw [hw] at this; rw [he]; exact this
  refine ff (by rw [he]; rfl) (cond_of (fun hb => ?_) (fun hb => ?_))
  · have hne : ys.length ≠ 256 := by simp at hb; omega
    have hw : wrE D i ys = 4 := by unfold wrE; rw [he, if_neg (by omega), if_pos hne]
    have hS : wrSt D i ys = D := by unfold wrSt; rw [if_pos (.inl (by omega))]
    have := hk w L (Mod.refl _ _) (by rw [hS]; exact h.gro w)
    rw [hw] at this; exact this
  have hl2 : l = 256 := by simp at hb; omega
  subst hl2
  have hw : wrE D i ys = 0 := by unfold wrE; rw [he, if_neg (by omega), if_neg (by omega)]
  rw [hw] at hk
  have hvlen := hs v (List.mem_of_getElem? hv)
  have hvne := (h.wf.ver v (List.mem_of_getElem? hv)).1
  have hilt : i < D.vs.length := (List.getElem?_eq_some_iff.1 hv).1
  have htl : v.tail.length ≤ v.length := by simp
  -- what stands in the map
  have hopen : ∃ a0 l0 c0, Ru (Instr.lookup 207 (.map (some mb)) (.int .i64 i) false) w (.slice a0 l0 c0) w ∧ l0 = v.tail.length ∧ l0 ≤ c0 ∧ ((l0 = 0 ∧ a0 = none) ∨ (0 < l0 ∧ ∃ vb, a0 = some ⟨vb, 0, none⟩ ∧ At w vb 0 (u8L v.tail.flatten) ∧ vb ≠ b)) := by
    rcases h.opn i v hv with ⟨ht, hl⟩ | ⟨ht, vb, c, hl, hc, hat, _, hvb, _⟩
    · exact ⟨none, 0, 0, look_none h.map hl, by rw [ht]; rfl, Nat.le_refl _, .inl ⟨rfl, rfl⟩⟩
    · exact ⟨_, _, c, look_some h.map hl, rfl, hc, .inr ⟨List.length_pos_iff.2 ht, vb, rfl, hat, hvb⟩⟩
  obtain ⟨a0, l0, c0, hlook, hl0, hc0, hrow0⟩ := hopen
  refine ⟨_, rfl, some mb, h.lm, a0, l0, c0, hlook, ?_⟩
  refine goes_c h (fun hz => ⟨_, rfl, Share.dup (ff rfl ?_)⟩) fun hnz w2 h2 m2 => ⟨_, rfl, Share.dup (tt rfl ?_)⟩
  · have hS : wrSt D i ys = D := by unfold wrSt; rw [if_pos (.inr hz)]
    exact hk w L (Mod.refl _ _) (by rw [hS]; exact h.gro w)
  have hS : wrSt D i ys = ⟨D.vs.set i (v ++ [ys]), dec D.left⟩ := by unfold wrSt; rw [if_neg (by omega), hver]; rfl
  rw [hS] at hk
  have h2d := h2.drew
  have hrne : ¬ u8L ys = [] := fun e => by have := congrArg List.length e; simp [hl] at this
  obtain ⟨b2, o2, rfl, hat2⟩ := hr.resolve_left hrne
  have hb2 : b2 ≠ b := fun e => hdis _ rfl (by rw [e]; exact h.rb)
  have hat2' : At (Go.Den.drew w2) b2 o2 (u8L ys) := (hat2.keep m2 hb2).drew
  have hload : Ru (Instr.loadAt 278 (.pointer (some ⟨b2, o2, none⟩))) (Go.Den.drew w2) (.agg ⟨u8L ys⟩) (Go.Den.drew w2) := by
    have := hat2'.loadAgg (P := Tryz.prog) (i := 0) agg_block (by simp; omega)
    have e : (u8L ys).take 256 = u8L ys := List.take_of_length_le (by simp; omega)
    simpa [e] using this
  have m3 : Mod No (Go.Den.drew w2) ((Go.Den.drew w2).alloc (.cells ⟨u8L ys⟩ 278)) := (Mod.refl No _).alloc _
  refine ⟨_, rfl, some mb, h2d.lm, _, _, _, slice_3 (k := 256) (by kernel_rfl) hc0, ⟨b2, o2, none⟩, arrayAt_block _ _, ⟨u8L ys⟩, hload, _, _, _, _, built_block hl _, (h2d.nos m3).lm, ?_⟩
  have hq : AtU ((Go.Den.drew w2).alloc (.cells ⟨u8L ys⟩ 278)) (Go.Den.drew w2).heap.size 0 (u8L ys) := AtU.new
  have hsz3 : w2.heap.size < ((Go.Den.drew w2).alloc (.cells ⟨u8L ys⟩ 278)).heap.size := by simp
  have h3 := h2d.nos m3
  have hqs : (Go.Den.drew w2).heap.size = w2.heap.size := rfl
  generalize (Go.Den.drew w2).alloc (.cells ⟨u8L ys⟩ 278) = w3 at *
  have htfl := flat_len v.tail (h.wf.tl hv)
  obtain ⟨c4, w4, happ, hc4, hat4, m4, hsz4⟩ := append_full (P := Tryz.prog) (w := w3) (T := 206) (ty := 206) (l := l0) (a := cutA a0 l0 0 256) (xs := u8L v.tail.flatten) (ys := u8L ys) (q := (Go.Den.drew w2).heap.size) elemZ_blocks (by omega) (by simp [htfl, hl0])
    (by
      rcases hrow0 with ⟨h1, h2⟩ | ⟨h1, vb, h2, h3, h4⟩
      · refine .inl ⟨h1, ?_⟩
        rw [h2]; unfold cutA; split <;> rfl
      · refine .inr ⟨h1, vb, ?_, ((h3.keep m2 h4).drew).keep m3 id⟩
        rw [h2]; unfold cutA; split
        · rfl
        · simp [add_none]) (by simp [hl]) hq.at (by omega) (by omega)
  refine ⟨_, _, _, w4, happ, (h3.nos m4).lm, ?_⟩
  have h4 := h3.nos m4
  obtain ⟨w5, hupd, hmap5, m5, hsz5⟩ := update_run (P := Tryz.prog) (k := (i : Int)) (v := .slice (some ⟨w3.heap.size, 0, none⟩) (l0 + 1) c4) mapDisk h4.map
  refine ⟨w5, hupd, ?_⟩
  have hb3 := h3.lt b h3.rb
  have hs3 := h3.lt sb h3.rs
  have hm3 := h3.lt mb h3.rm
  have M4 : Mod (fun x => x = b) w w4 := ((m2.drew).no m3).no m4
  have M5 : Mod (Wr b sb mb) w w5 := (M4.mono fun x _ e => .inl e).trans m5 fun x _ e => .inr (.inr e)
  have hws := M4.size
  have hw23 := m2.size
  obtain ⟨tl1, tl2⟩ := tail_set hvne ys
  refine hk w5 (putL (i : Int) (.slice (some ⟨w3.heap.size, 0, none⟩) (l0 + 1) c4) L) M5 ?_
  have hset : (D.vs.set i (v ++ [ys])).map hd = D.vs.map hd := by
    rw [List.map_set, tl2]
    apply List.ext_getElem?
    intro j
    by_cases hj : i = j
    · subst hj; rw [List.getElem?_set_self (by simpa using hilt), List.getElem?_map, hv]; rfl
    · rw [List.getElem?_set_ne hj]
  exact { cell := by
            have := h4.cell.keep m5 h4.nbm
            simpa [dec] using this
          cap := by simpa using h.cap
          safe := by
            rw [hset]; exact h4.safe.keep m5 h4.nsm
          map := hmap5
          rb := .inl h.rb
          rs := .inl h.rs
          rm := .inl h.rm
          ne := h.ne
          opn := fun j v' hv' => by
            by_cases hj : i = j
            · subst hj
              have : v' = v ++ [ys] := by
                rw [List.getElem?_set_self hilt] at hv'; exact (Option.some.inj hv').symm
              subst this
              refine .inr ⟨by rw [tl1]; simp, w3.heap.size, c4, ?_, ?_, ?_, .inr ⟨by omega, by omega⟩, by omega, by omega⟩
              · rw [look_put, if_pos rfl, tl1, List.length_append, ← hl0]; rfl
              · rw [tl1, List.length_append, ← hl0]; exact hc4
              · rw [tl1, List.flatten_append, u8L_append]
                have e : [ys].flatten = ys := by simp
                rw [e]
                exact hat4.keep m5 (by omega)
            · rw [List.getElem?_set_ne hj] at hv'
              rcases h4.opn j v' hv' with ⟨t1, t2⟩ | ⟨t1, vb, c', t2, t3, t4, t5, t6, t7⟩
              · exact .inl ⟨t1, by rw [look_put, if_neg (by omega)]; exact t2⟩
              · refine .inr ⟨t1, vb, c', by rw [look_put, if_neg (by omega)]; exact t2, t3, t4.keep m5 ?_, .inl t5, t6, t7⟩
                exact h4.map.ne_cells t4
          keys := fun p hp => by
            rcases put_keys p hp with e | hp
            · exact ⟨i, e, by simpa using hilt⟩
            · obtain ⟨j, e, hj⟩ := h.keys p hp
              exact ⟨j, e, by simpa using hj⟩
          wf := { ver := fun x hx => by
                    rcases List.mem_or_eq_of_mem_set hx with hx | rfl
                    · exact h.wf.ver x hx
                    · refine ⟨by simp, fun y hy => ?_⟩
                      rcases List.mem_append.1 hy with hy | hy
                      · exact (h.wf.ver v (List.mem_of_getElem? hv)).2 y hy
                      · simp at hy; subst hy; omega
                  lo := by simpa using h.wf.lo
                  hi := by simpa using h.wf.hi
                  l0 := h2.wf.l0
                  l1 := h2.wf.l1 }
          lt := fun x hx => by
            rcases hx with hx | hx
            · have := h.lt x hx; have := M5.size; omega
            · exact hx.2 }
theorem Write_c (h:DiskIn w R b sb mb sc L D) (hs:∀ v∈D.vs,v.length<=999999) {n:Int} {a:Option Addr} {l c:Nat} {ys:List UInt8} (hl:ys.length=l) (hr:Row w a (u8L ys)) (hdis:∀ q,a=some q->¬ R q.block)
  (hk:∀ w' L',Mod R w w'->DiskIn w' (Gro R w w') b sb mb sc L' (wrSt D n ys)->K (.int .i64 (wrE D n ys)) w'):Cal Tryz.prog F_disk_Disk_Write #[.pointer (some ⟨b,0,none⟩),.int .i64 n,.slice a l c] w K :=
 Write_p h hs hl hr hdis fun w' L' m hd=>hk w' L' (m.mono fun _ _ e=>h.wr e) hd
end
end Go.Proofs.YtelhlihjihklbaaGreat
end
section
open Go Go.Den Go.Proofs
namespace Go.Den
def upd (D:St) (ks:List Nat) (f:Nat->List Bk->Bk):St:=⟨D.vs.mapIdx fun i v=>if i∈ks then f i v::v.tail else v,D.left⟩
def clr (D:St):St:=⟨D.vs.map fun v=>[hd v],D.left⟩
def put1 (D:St) (f:Nat->List Bk->Bk):St:=⟨D.vs.mapIdx fun i v=>[f i v],D.left⟩
theorem upd_get {D:St} {ks:List Nat} {f:Nat->List Bk->Bk} {i:Nat} {v:List Bk} (hv:D.vs[i]?=some v):(upd D ks f).vs[i]?=some (if i∈ks then f i v::v.tail else v):=by
 simp [upd,List.getElem?_mapIdx,hv]
theorem upd_step {D:St} {ks:List Nat} {f:Nat->List Bk->Bk} {i:Nat} {v:List Bk} (hv:D.vs[i]?=some v):(upd D ks f).vs.set i (f i v::v.tail)=(upd D (ks++[i]) f).vs:=by
 apply List.ext_getElem?
 intro j
 by_cases hj:i=j
 ·subst hj
  have hlt:i<(upd D ks f).vs.length:=by simp [upd]; exact (List.getElem?_eq_some_iff.1 hv).1
  rw [List.getElem?_set_self hlt,upd_get hv,if_pos (by simp)]
 ·rw [List.getElem?_set_ne hj]
  cases hw:D.vs[j]? with
  | none=>simp [upd,List.getElem?_mapIdx,hw]
  | some u =>
   rw [upd_get hw,upd_get hw]
   have:(j∈ks++[i])↔j∈ks:=by simp; intro e; exact absurd e.symm hj
   simp only [this]
theorem clr_upd {D:St} {f:Nat->List Bk->Bk} (hf:∀ i v,D.vs[i]?=some v->v.tail=[]->f i v=hd v):clr (upd D (openN D) f)=put1 D f:=by
 unfold clr put1
 congr 1
 apply List.ext_getElem?
 intro j
 cases hw:D.vs[j]? with
 | none=>simp [upd,List.getElem?_mapIdx,hw]
 | some u =>
  rw [List.getElem?_map,upd_get hw,List.getElem?_mapIdx,hw]
  by_cases hj:j∈openN D
  ·rw [if_pos hj]; rfl
  ·rw [if_neg hj]
   have ht:u.tail=[]:=by
    unfold openN at hj
    rw [List.mem_filter] at hj
    have hlt:=(List.getElem?_eq_some_iff.1 hw).1
    simp only [List.mem_range,hlt,true_and,isOpen,hw,Option.getD_some] at hj
    simpa [List.isEmpty_iff] using hj
   simp [hf j u hw ht]
theorem upd_nil (D:St) (f:Nat->List Bk->Bk):upd D [] f=D:=by
 have:(D.vs.mapIdx fun i v=>if i∈([]:List Nat) then f i v::v.tail else v)=D.vs:=by
  apply List.ext_getElem?
  intro i
  rw [List.getElem?_mapIdx]
  cases D.vs[i]? <;> simp
 unfold upd; rw [this]
theorem put1_const (D:St) (g:List Bk->Bk):put1 D (fun _ v=>g v)=⟨D.vs.map fun v=>[g v],D.left⟩:=by
 unfold put1; congr 1
 apply List.ext_getElem?
 intro i
 rw [List.getElem?_mapIdx,List.getElem?_map]
theorem openN_lt {D:St} {i:Nat} (h:i∈openN D):∃ v,D.vs[i]?=some v/\v.tail≠[]:=by
 unfold openN at h
 obtain ⟨h1,h2⟩:=List.mem_filter.1 h
 have hlt:=List.mem_range.1 h1
 refine ⟨D.vs[i],by simp [hlt],?_⟩
 unfold isOpen at h2
 simp [hlt,List.isEmpty_iff] at h2
 exact fun e=>h2 e
theorem openN_nodup (D:St):(openN D).Nodup:=List.Pairwise.imp (fun h=>by omega) ((List.pairwise_lt_range (n:=D.vs.length)).filter (isOpen D))
theorem not_taken {ks:List Nat} (hn:ks.Nodup) {j i:Nat} (hj:ks[j]?=some i):i ∉ ks.take j:=by
 intro hc
 obtain ⟨hlt,hi⟩:=List.getElem?_eq_some_iff.1 hj
 obtain ⟨m,hm,he⟩:=List.getElem_of_mem hc
 have hml:m<j:=by simp at hm; omega
 rw [List.getElem_take] at he
 have:=(List.pairwise_iff_getElem.1 hn) m j (by omega) hlt hml
 exact this (by rw [he,hi])
end Go.Den
namespace Go.Proofs.YtelhlihjihklbaaGreat
section
variable {w:World} {R:Nat->Prop} {b sb mb sc:Nat} {L:List (Int×Value)} {D:St} {K:Value->World->Prop}
theorem DiskIn_upd (h : DiskIn w R b sb mb sc L D) {i : Nat} {v : List Bk} {x : Bk} {w' : World} (hv : D.vs[i]? = some v) (hx : x.length = 256) (s2 : AtU w' sb 0 (splice (u8L (D.vs.map hd).flatten) (i * 256) (u8L x))) (s3 : Mod (fun x => x = sb) w w') :
    DiskIn w' R b sb mb sc L ⟨D.vs.set i (x :: v.tail), D.left⟩ := by
  have hlt := (List.getElem?_eq_some_iff.1 hv).1
  have hvne := h.wf.ver v (List.mem_of_getElem? hv)
  exact { cell := by
            have := h.cell.keep s3 h.ne
            simpa using this
          cap := by simpa using h.cap
          safe := by
            rw [splice_u8L, hx, flat_set (D.vs.map hd) h.wf.hd i x (by simpa using hlt) hx] at s2
            rw [List.map_set]; exact s2
          map := h.map.keep s3 h.nsm.symm
          rb := h.rb
          rs := h.rs
          rm := h.rm
          ne := h.ne
          opn := fun j v' hv' => by
            by_cases hj : i = j
            · subst hj
              have e : v' = x :: v.tail := by
                rw [List.getElem?_set_self hlt] at hv'; exact (Option.some.inj hv').symm
              subst e
              have := (h.opn i v hv).keep s3 fun y _ e => .inr e
              exact this
            · rw [List.getElem?_set_ne hj] at hv'
              exact (h.opn j v' hv').keep s3 fun y _ e => .inr e
          keys := fun p hp => by
            obtain ⟨j, e, hj⟩ := h.keys p hp
            exact ⟨j, e, by simpa using hj⟩
          wf := { ver := fun y hy => by
                    rcases List.mem_or_eq_of_mem_set hy with hy | rfl
                    · exact h.wf.ver y hy
                    · refine ⟨by simp, fun z hz => ?_⟩
                      rcases List.mem_cons.1 hz with rfl | hz
                      · exact hx
                      · exact hvne.2 z (List.mem_of_mem_tail hz)
                  lo := by simpa using h.wf.lo
                  hi := by simpa using h.wf.hi
                  l0 := h.wf.l0
                  l1 := h.wf.l1 }
          lt := fun y hy => Nat.lt_of_lt_of_le (h.lt y hy) s3.size }
theorem DiskIn_store (h:DiskIn w R b sb mb sc L D) {i:Nat} {v:List Bk} {x:Bk} (hv:D.vs[i]?=some v) (hx:x.length=256) :
  ∃ w',RuU (Instr.storeAt 278 (.pointer (some (Addr.add ⟨sb,0,none⟩ (i*256)))) (.agg ⟨u8L x⟩)) w w'/\DiskIn w' R b sb mb sc L ⟨D.vs.set i (x::v.tail),D.left⟩/\Mod (fun x=>x=sb) w w':=by
 have hlt:=(List.getElem?_eq_some_iff.1 hv).1
 have hfl:=flat_len (D.vs.map hd) h.wf.hd
 have hfl':(D.vs.map hd).flatten.length=D.vs.length*256:=by rw [hfl,List.length_map]
 have hle:(i+1)*256<=D.vs.length*256:=Nat.mul_le_mul_right _ hlt
 obtain ⟨w',s1,s2,s3,s4⟩:=h.safe.storeAgg (P:=Tryz.prog) (T:=278) (i:=i*256) (n:=256) (vs:=u8L x) agg_block (by simp [hx]) (by rw [length_u8L,hfl']; omega) (one_u8L x)
 exact ⟨w',by rw [add_none]; exact s1,DiskIn_upd h hv hx s2 s3,s3⟩
theorem DiskIn_clear (h : DiskIn w R b sb mb sc L D) {ty : TypeId} : ∃ w', Ru (Builtin.clear_ #[207] ty #[.map (some mb)]) w (.tuple #[]) w' ∧ DiskIn w' R b sb mb sc [] (clr D) ∧ Mod (fun x => x = mb) w w' := by
  obtain ⟨w', s1, s2, s3, s4⟩ := clear_run (P := Tryz.prog) (ty := ty) mapDisk h.map
  refine ⟨w', s1, ?_, s3⟩
  have hh : (clr D).vs.map hd = D.vs.map hd := by
    unfold clr; rw [List.map_map]; rfl
  exact { cell := by
            have := h.cell.keep s3 h.nbm
            simpa [clr] using this
          cap := by simpa [clr] using h.cap
          safe := by rw [hh]; exact h.safe.keep s3 h.nsm
          map := s2
          rb := h.rb
          rs := h.rs
          rm := h.rm
          ne := h.ne
          opn := fun j v' hv' => by
            refine .inl ⟨?_, rfl⟩
            simp [clr] at hv'
            obtain ⟨u, _, rfl⟩ := hv'
            rfl
          keys := by simp
          wf := { ver := fun y hy => by
                    simp [clr] at hy
                    obtain ⟨u, hu, rfl⟩ := hy
                    refine ⟨by simp, fun z hz => ?_⟩
                    simp at hz; subst hz
                    exact h.wf.hd _ (List.mem_map.2 ⟨u, hu, rfl⟩)
                  lo := by simpa [clr] using h.wf.lo
                  hi := by simpa [clr] using h.wf.hi
                  l0 := h.wf.l0
                  l1 := h.wf.l1 }
          lt := fun y hy => Nat.lt_of_lt_of_le (h.lt y hy) s3.size }
theorem openS_get {D:St} {j:Nat} (hj:j<(openN D).length):(iL (openS D))[j]?=some (.int .i64 ((openN D)[j]:Nat)):=by
 simp [iL,openS,hj,I]
theorem openN_len {D:St}:(openN D).length<=D.vs.length:=by
 unfold openN; exact Nat.le_trans (List.length_filter_le _ _) (by simp)
def flSt (D:St):St:=if D.left=0 then D else ⟨D.vs.map fun v=>[lastV v],dec D.left⟩
theorem take_snoc {ks:List Nat} {j:Nat} (hj:j<ks.length):ks.take (j+1)=ks.take j++[ks[j]]:=List.take_succ_eq_append_getElem hj
theorem Flush_c (h:DiskIn w R b sb mb sc L D) (hs:Small D) (hk:∀ w' L',Mod R w w'->DiskIn w' R b sb mb sc L' (flSt D)->K (.int .i64 0) w'):Cal Tryz.prog F_disk_Disk_Flush #[.pointer (some ⟨b,0,none⟩)] w K:=by
 apply C_disk_Disk_Flush
 unfold D_disk_Disk_Flush
 refine ff rfl (goes_c h (fun hz=>⟨_,rfl,tt rfl ?_⟩) fun hnz w2 h2 m2=>⟨_,rfl,ff rfl ?_⟩)
 ·have e:flSt D=D:=by unfold flSt; rw [if_pos hz]
  exact hk w L (Mod.refl _ _) (by rw [e]; exact h)
 have eF:flSt D=⟨D.vs.map fun v=>[lastV v],dec D.left⟩:=by unfold flSt; rw [if_neg hnz]
 rw [eF] at hk
 have M2:Mod R w w2:=m2.mono fun x _ e=>by subst e; exact h.rb
 have hs2:Small ⟨D.vs,dec D.left⟩:=hs
 have h2':DiskIn w2 R b sb mb sc L ⟨D.vs,dec D.left⟩:=h2
 clear h2
 generalize hD2:(⟨D.vs,dec D.left⟩:St)=D2 at *
 refine Open_c h2' fun w3 a l c m3 o3=>⟨_,_,_,rfl,?_⟩
 have h3:=h2'.nos m3
 have hl:(openN D2).length=l:=by have:=o3.len; simpa [openS] using this
 have hlb:=openN_len (D:=D2)
 have hhi:=h2'.wf.hi
 refine ⟨fun x w4=>∃ j:Nat,j<=l/\x=[.int .i64 j]/\DiskIn w4 R b sb mb sc L (upd D2 ((openN D2).take j) fun _ v=>lastV v)/\Ow Tryz.prog w4 w2.heap.size 80 1 a l c (iL (openS D2))/\Mod R w2 w4,fun x _=>(l-nI x 0).toNat,
  ⟨0,by omega,rfl,by rw [List.take_zero,upd_nil]; exact h3,o3,m3.mono fun _ _ h=>h.elim⟩,?_⟩
 rintro x w4 ⟨j,hj,rfl,h4,o4,M4⟩
 refine ⟨_,rfl,cond_of (fun hb=>?_) (fun hb=>?_)⟩
 ·have hj:j<l:=by have:=of_decide_eq_true hb; omega
  obtain ⟨g,rfl,hg,hrow⟩:=o4.sm (by omega)
  have hjo:j<(openN D2).length:=by omega
  have hget:(openN D2)[j]?=some (openN D2)[j]:=by simp [hjo]
  obtain ⟨v,hv,hvt⟩:=openN_lt (List.getElem_mem hjo)
  have hnt:=not_taken (openN_nodup D2) hget
  have hv4:(upd D2 ((openN D2).take j) fun _ v=>lastV v).vs[(openN D2)[j]]?=some v:=by rw [upd_get hv,if_neg hnt]
  refine ⟨_,index_slice (k:=1) (by kernel_rfl) (by omega) (by omega),?_⟩
  rw [add_none,Int.toNat_natCast,Nat.mul_one]
  refine ⟨_,hrow.at.load (by kernel_rfl) (openS_get hjo),_,rfl,_,_,_,h4.drew.ls,?_⟩
  refine last_c h4.drew hv4 (hs2 v (List.mem_of_getElem? hv)) fun w5 m5=>⟨_,rfl,(h4.drew.nos m5).ls,?_⟩
  have h5:=h4.drew.nos m5
  obtain ⟨w6,s1,s2,s3⟩:=DiskIn_store h5 hv4 (h2'.wf.lastLen hv)
  have hlt:(openN D2)[j]<(upd D2 ((openN D2).take j) fun _ v=>lastV v).vs.length:=(List.getElem?_eq_some_iff.1 hv4).1
  refine ⟨_,fun _=>idx_block hlt _,w6,s1,?_⟩
  rw [wrap64 (x:=(j:Int)+1) (by omega) (by omega)]
  have M45:Mod No w4 w5:=((Mod.refl No w4).drew).no m5
  refine ⟨⟨j+1,by omega,rfl,?_,(o4.nos M45).keep s3 fun q hq e=>?_,(M4.no M45).trans s3 fun x _ e=>by subst e; exact h.rs⟩,by simp [nI,nth]; omega⟩
  ·rw [take_snoc hjo]
   have:=upd_step (ks:=(openN D2).take j) (f:=fun _ v=>lastV v) hv
   rw [this] at s2
   exact s2
  ·have:=(o4.base hq).1
   have:=h2'.lt sb h2'.rs
   omega
 ·have hjl:j=l:=by have:=of_decide_eq_false hb; omega
  subst hjl
  have e1:(openN D2).take j=openN D2:=List.take_of_length_le (by omega)
  rw [e1] at h4
  obtain ⟨w6,s1,s2,s3⟩:=DiskIn_clear h4 (ty:=0)
  refine ⟨_,rfl,some mb,h4.lm,w6,s1,?_⟩
  refine hk w6 [] ((M2.trans M4 fun _ _ h=>h).trans s3 fun x _ e=>by subst e; exact h.rm) ?_
  rw [clr_upd (fun i v _ ht=>last_one ht)] at s2
  rw [put1_const,<- hD2] at s2
  exact s2
end
end Go.Proofs.YtelhlihjihklbaaGreat
end
section
open Go Go.Den Go.Proofs
namespace Go.Proofs.YtelhlihjihklbaaGreat
section
variable {w:World} {R:Nat->Prop} {b sb mb sc:Nat} {L:List (Int×Value)} {D:St} {K:Value->World->Prop}
def kOf (pick:List Int) (j m:Nat):Int:=if j<pick.length then (if (m:Int)<(if 0 > pick.getD j 0 then 0 else pick.getD j 0) then (m:Int) else (if 0 > pick.getD j 0 then 0 else pick.getD j 0)) else 0
def pickV (D:St) (pick:List Int) (i:Nat) (v:List Bk):Bk:=v.getD (kOf pick ((openN D).idxOf i) v.tail.length).toNat []
end
end Go.Proofs.YtelhlihjihklbaaGreat
end
section
open Go Go.Den Go.Proofs
namespace Go.Proofs.YtelhlihjihklbaaGreat
section
variable {w0 w:World} {N b:Nat} {D:St} {K:Value->World->Prop}
def D1:St:=wrSt (newSt 3) 1 (fillB [65])
def D2:St:=flSt D1
theorem sm (D:St) (h:(D.vs.all fun v=>decide (v.length<=999999))=true):∀ v∈D.vs,v.length<=999999:=by
 intro v hv
 have:=List.all_eq_true.1 h v hv
 exact of_decide_eq_true this
end
end Go.Proofs.YtelhlihjihklbaaGreat
end
section
open Go Go.Den Go.Proofs
namespace Go.Den
theorem map_inj {α β:Type} {f:α->β}:∀ {l:List α},(l.map f).Nodup->∀ {x e:α},x∈l->e∈l->f x=f e->x=e
 | [],_,x,e,hx,_,_=>by cases hx
 | y::r,hn,x,e,hx,he,h=>by
  rw [List.map_cons,List.nodup_cons] at hn
  rcases List.mem_cons.1 hx with hx | hx
  ·rcases List.mem_cons.1 he with he | he
   ·rw [hx,he]
   ·exact absurd (List.mem_map.2 ⟨e,he,by rw [<- h,hx]⟩) hn.1
  ·rcases List.mem_cons.1 he with he | he
   ·exact absurd (List.mem_map.2 ⟨x,hx,by rw [h,he]⟩) hn.1
   ·exact map_inj hn.2 hx he h
end Go.Den
namespace Go.Proofs.YtelhlihjihklbaaGreat
section
variable {D:St}
def Bnd (D:St) (m:Nat):Prop:=∀ v∈D.vs,v.length<=m
theorem Bnd.mono {m m':Nat} (h:Bnd D m) (hm:m<=m'):Bnd D m':=fun v hv=>Nat.le_trans (h v hv) hm
theorem Bnd_wr {m:Nat} (h:Bnd D m) (n:Int) (ys:List UInt8):Bnd (wrSt D n ys) (m+1):=by
 unfold wrSt
 split
 ·exact h.mono (by omega)
 ·intro v hv
  rcases List.mem_or_eq_of_mem_set hv with hv | rfl
  ·have:=h v hv; omega
  ·have:(verOf D n).length<=m:=by
    rcases err_cases (D:=D) n with ⟨_,ho⟩ | ⟨_,i,u,rfl,hu,hver⟩
    ·rw [verOf_none ho]; simp
    ·rw [hver]; exact h u (List.mem_of_getElem? hu)
   simp; omega
end
end Go.Proofs.YtelhlihjihklbaaGreat
end
section
open Go Go.Den
namespace Go.Den
def delL (k:Int) (L:List (Int×Value)):List (Int×Value):=L.filter fun p=>!decide (p.1=k)
theorem findE_erase (k:Int):∀ (Es:List Ent) (i j:Nat) (u:Value),(Es.map (·.1)).Nodup->findE k Es i=some (j,u)->i<=j/\j-i<Es.length/\Es.eraseIdx (j-i)=Es.filter fun e=>!decide (e.1=k)
 | [],_,_,_,_,h=>by cases h
 | e::r,i,j,u,hn,h=>by
  rw [List.map_cons,List.nodup_cons] at hn
  simp only [findE] at h
  by_cases he:e.1=k
  ·rw [if_pos he] at h
   have h:=Option.some.inj h
   simp only [Prod.mk.injEq] at h
   obtain ⟨rfl,_⟩:=h
   refine ⟨Nat.le_refl _,by simp,?_⟩
   rw [Nat.sub_self,List.eraseIdx_cons_zero,List.filter_cons_of_neg (by simp [he])]
   refine (List.filter_eq_self.2 fun x hx=>?_).symm
   have:x.1≠k:=fun e'=>hn.1 (List.mem_map.2 ⟨x,hx,by rw [e',he]⟩)
   simp [this]
  ·rw [if_neg he] at h
   obtain ⟨h1,h2,h3⟩:=findE_erase k r (i+1) j u hn.2 h
   refine ⟨by omega,by simp; omega,?_⟩
   rw [show j-i=(j-(i+1))+1 by omega,List.eraseIdx_cons_succ,h3,List.filter_cons_of_pos (by simp [he])]
theorem findE_all (k:Int):∀ (Es:List Ent) (i:Nat),findE k Es i=none->(Es.filter fun e=>!decide (e.1=k))=Es
 | [],_,_=>rfl
 | e::r,i,h=>by
  simp only [findE] at h
  by_cases he:e.1=k
  ·rw [if_pos he] at h; cases h
  ·rw [if_neg he] at h
   rw [List.filter_cons_of_pos (by simp [he]),findE_all k r (i+1) h]
theorem erase_map {α β:Type} (f:α->β):∀ (l:List α) (j:Nat),(l.map f).eraseIdx j=(l.eraseIdx j).map f
 | [],_=>rfl
 | x::r,0=>rfl
 | x::r,j+1=>by simp [erase_map f r j]
theorem look_del (L:List (Int×Value)) (k k':Int):lookupL (delL k L) k'=if k'=k then none else lookupL L k':=by
 induction L with
 | nil=>simp [delL,lookupL]
 | cons p r ih =>
  unfold delL at ih |-
  by_cases hp:p.1=k
  ·rw [List.filter_cons_of_neg (by simp [hp]),ih]
   by_cases hk:k'=k
   ·rw [if_pos hk,if_pos hk]
   ·rw [if_neg hk,if_neg hk]; simp only [lookupL]; rw [if_neg (by omega)]
  ·rw [List.filter_cons_of_pos (by simp [hp])]
   simp only [lookupL]
   by_cases hk:p.1=k'
   ·rw [if_pos hk,if_pos hk,if_neg (by omega)]
   ·rw [if_neg hk,if_neg hk,ih]
theorem del_mem {L:List (Int×Value)} {k:Int} {p:Int×Value}:p∈delL k L↔p∈L/\p.1≠k:=by
 unfold delL; rw [List.mem_filter]; simp
section
variable {P:Program} {w:World}
theorem look2_run {T:TypeId} {z:Value} {m:Nat} {L:List (Int×Value)} {k:Int} (hT:mapZ P T=some z) (h:MapAt w m L) :
  (Instr.lookup T (.map (some m)) (.int .i64 k) true).run P w=.ok (.tuple #[(lookupL L k).getD z,.bool (lookupL L k).isSome]) w:=by
 obtain ⟨kt,e,i,h1,h2,h3,h4⟩:=mapZ_is hT
 obtain ⟨Es,c,g1,rfl,_⟩:=h
 have hl:=findE_look k Es 0
 have hzero:(zeroValue e).run P w=.ok z w:=by simp [zeroValue,typeInfo,h3,h4]
 simp only [Instr.lookup,Sem.run_bind,run_und h1,Result.andThen_ok,run_getMap g1,Sem.run_pure,run_checkKey h2,run_findKey h2]
 cases hf:findE k Es 0 with
 | none =>
  rw [hf] at hl
  simp only [Option.map_none] at hl
  simp [<- hl,hzero]
 | some r =>
  rw [hf] at hl
  simp only [Option.map_some] at hl
  simp [<- hl]
theorem delete_run {T T2 ty:TypeId} {z:Value} {m:Nat} {L:List (Int×Value)} {k:Int} (hT:mapZ P T=some z) (h:MapAt w m L) :
  ∃ w',(Builtin.delete_ #[T,T2] ty #[.map (some m),.int .i64 k]).run P w=.ok (.tuple #[]) w'/\MapAt w' m (delL k L)/\Mod (fun x=>x=m) w w'/\w'.heap.size=w.heap.size:=by
 obtain ⟨kt,e,i,h1,h2,h3,h4⟩:=mapZ_is hT
 obtain ⟨Es,c,g1,rfl,g3,g4,g5⟩:=h
 have hund:(underlying T).run P w=.ok (.map kt e) w:=run_und h1 w
 have hmod:∀ o,Mod (fun x=>x=m) w (put w m o):=fun o=>(Mod.refl (fun x=>x=m) w).put (.inr rfl) _
 have hkv:(Es.filter fun e=>!decide (e.1=k)).map kv=delL k (Es.map kv):=by
  unfold delL; rw [List.filter_map]; rfl
 have hsub:(Es.filter fun e=>!decide (e.1=k)).Sublist Es:=List.filter_sublist
 cases hf:findE k Es 0 with
 | none =>
  have hall:=findE_all k Es 0 hf
  refine ⟨put w m (.map (Es.map toE).toArray c),?_,⟨Es,c,heap_put_same (lt_of_heap g1),by rw [<- hkv,hall],g3,g4,g5⟩,hmod _,by simp⟩
  simp [Builtin.delete_,hund,run_getMap g1,run_checkKey h2,run_findKey h2,hf,run_setMap g1]
 | some r =>
  obtain ⟨j,u⟩:=r
  obtain ⟨_,e2,e3⟩:=findE_erase k Es 0 j u g3 hf
  rw [Nat.sub_zero] at e2 e3
  refine ⟨put w m (.map ((Es.eraseIdx j).map toE).toArray c),?_,⟨Es.eraseIdx j,c,heap_put_same (lt_of_heap g1),by rw [e3,hkv],?_,?_,?_⟩,hmod _,by simp⟩
  ·simp [Builtin.delete_,hund,run_getMap g1,run_checkKey h2,run_findKey h2,hf,run_setMap g1,erase_map]
  ·rw [e3]; exact (hsub.map _).nodup g3
  ·rw [e3]; exact fun x hx=>g4 x (hsub.subset hx)
  ·rw [e3]; exact (hsub.map _).nodup g5
end
end Go.Den
end
section
open Go Go.Den Go.Proofs
namespace Go.Proofs.YtelhlihjihklbaaGreat
structure Bf where
 b:Nat
 data:Bk
 pins:Nat
deriving DecidableEq
structure Ca where
 D:St
 most:Nat
 l:List Bf
def nums (l:List Bf):List Int:=l.map fun x=>(x.b:Int)
def atD (D:St) (b:Nat):Bk:=lastV (verOf D b)
def clean (D:St) (x:Bf):Bool:=decide (x.data=atD D x.b)
def others (l:List Bf) (b:Nat):List Bf:=l.filter fun x=>!decide (x.b=b)
def findB (l:List Bf) (b:Nat):Option Bf:=l.find? fun x=>decide (x.b=b)
def idleB (D:St) (x:Bf):Bool:=decide (x.pins=0)&&clean D x
def roomC (C:Ca):Option Ca:=if C.l.length<C.most then some C else (C.l.find? (idleB C.D)).map fun x=>{ C with l:=others C.l x.b }
def askC (C:Ca) (b:Nat):Option Ca :=
 match findB C.l b with
 | some x=>some { C with l:=others C.l b++[x] }
 | none=>(roomC C).map fun C'=>{ C' with l:=C'.l++[⟨b,atD C.D b,0⟩] }
structure WFC (C:Ca):Prop where
 small:Small C.D
 most0:1<=C.most
 most1:C.most<=4096
 len:C.l.length<=C.most
 nodup:(C.l.map (·.b)).Nodup
 lt:∀ x∈C.l,x.b<C.D.vs.length
 data:∀ x∈C.l,x.data.length=256
 pins:∀ x∈C.l,x.pins<=1000000
theorem findB_some {l:List Bf} {b:Nat} {x:Bf} (h:findB l b=some x):x∈l/\x.b=b:=by
 unfold findB at h
 exact ⟨List.mem_of_find?_eq_some h,by simpa using List.find?_some h⟩
theorem findB_none {l:List Bf} {b:Nat} (h:findB l b=none):∀ x∈l,x.b≠b:=by
 unfold findB at h
 intro x hx
 have:=List.find?_eq_none.1 h x hx
 simpa using this
theorem findB_mem {l:List Bf} (hn:(l.map (·.b)).Nodup) {x:Bf} (hx:x∈l):findB l x.b=some x:=by
 cases h:findB l x.b with
 | none=>exact absurd rfl (findB_none h x hx)
 | some y =>
  obtain ⟨hy,e⟩:=findB_some h
  rw [map_inj hn hy hx e]
theorem mem_others {l:List Bf} {b:Nat} {x:Bf}:x∈others l b↔x∈l/\x.b≠b:=by
 unfold others; rw [List.mem_filter]; simp
theorem nums_others (l:List Bf) (b:Nat):nums (others l b)=(nums l).filter fun k=>!decide (k=(b:Int)):=by
 unfold nums others
 rw [List.filter_map]
 congr 1
 apply List.filter_congr
 intro x _
 simp only [Function.comp]
 congr 2
 rw [eq_iff_iff]; omega
theorem others_nodup {l:List Bf} (hn:(l.map (·.b)).Nodup) (b:Nat):((others l b).map (·.b)).Nodup:=(List.filter_sublist.map _).nodup hn
theorem others_len (l:List Bf) (b:Nat):(others l b).length<=l.length:=List.length_filter_le _ _
theorem others_lt {l:List Bf} {x:Bf} (hx:x∈l):(others l x.b).length<l.length:=by
 unfold others
 rw [List.length_filter_lt_length_iff_exists]
 exact ⟨x,hx,by simp⟩
theorem snoc_nodup {l:List Bf} (hn:(l.map (·.b)).Nodup) {x:Bf} (hx:∀ y∈l,y.b≠x.b):((l++[x]).map (·.b)).Nodup:=by
 rw [List.map_append]
 refine List.nodup_append.2 ⟨hn,by simp,?_⟩
 intro a ha b hb
 simp at hb; subst hb
 obtain ⟨y,hy,rfl⟩:=List.mem_map.1 ha
 exact hx y hy
theorem WFC.move {C:Ca} (h:WFC C) {x:Bf} (hx:x∈C.l):WFC { C with l:=others C.l x.b++[x] } where
 small:=h.small
 most0:=h.most0
 most1:=h.most1
 len:=by have:=others_lt hx; have:=h.len; simp; omega
 nodup:=snoc_nodup (others_nodup h.nodup _) fun y hy=>(mem_others.1 hy).2
 lt:=fun y hy=>by
  rcases List.mem_append.1 hy with hy | hy
  ·exact h.lt y (mem_others.1 hy).1
  ·simp at hy; subst hy; exact h.lt _ hx
 data:=fun y hy=>by
  rcases List.mem_append.1 hy with hy | hy
  ·exact h.data y (mem_others.1 hy).1
  ·simp at hy; subst hy; exact h.data _ hx
 pins:=fun y hy=>by
  rcases List.mem_append.1 hy with hy | hy
  ·exact h.pins y (mem_others.1 hy).1
  ·simp at hy; subst hy; exact h.pins _ hx
theorem WFC.out {C:Ca} (h:WFC C) (b:Nat):WFC { C with l:=others C.l b } where
 small:=h.small
 most0:=h.most0
 most1:=h.most1
 len:=Nat.le_trans (others_len _ _) h.len
 nodup:=others_nodup h.nodup _
 lt:=fun y hy=>h.lt y (mem_others.1 hy).1
 data:=fun y hy=>h.data y (mem_others.1 hy).1
 pins:=fun y hy=>h.pins y (mem_others.1 hy).1
theorem WFC.add {C:Ca} (h:WFC C) {x:Bf} (hr:C.l.length<C.most) (hx:∀ y∈C.l,y.b≠x.b) (h1:x.b<C.D.vs.length) (h2:x.data.length=256) (h3:x.pins<=1000000):WFC { C with l:=C.l++[x] } where
 small:=h.small
 most0:=h.most0
 most1:=h.most1
 len:=by simp; omega
 nodup:=snoc_nodup h.nodup hx
 lt:=fun y hy=>by
  rcases List.mem_append.1 hy with hy | hy
  ·exact h.lt y hy
  ·simp at hy; subst hy; exact h1
 data:=fun y hy=>by
  rcases List.mem_append.1 hy with hy | hy
  ·exact h.data y hy
  ·simp at hy; subst hy; exact h2
 pins:=fun y hy=>by
  rcases List.mem_append.1 hy with hy | hy
  ·exact h.pins y hy
  ·simp at hy; subst hy; exact h3
def turn (l:List Bf) (y:Bf):List Bf:=l.map fun x=>if x.b=y.b then y else x
theorem turn_b (l:List Bf) (y:Bf):(turn l y).map (·.b)=l.map (·.b):=by
 unfold turn
 rw [List.map_map]
 apply List.map_congr_left
 intro x _
 simp only [Function.comp]
 split
 ·rename_i h; exact h.symm
 ·rfl
theorem turn_nums (l:List Bf) (y:Bf):nums (turn l y)=nums l:=by
 have:=turn_b l y
 unfold nums
 have e:∀ l:List Bf,(l.map fun x=>(x.b:Int))=(l.map (·.b)).map fun n:Nat=>(n:Int):=fun l=>by rw [List.map_map]; rfl
 rw [e,e,this]
theorem mem_turn {l:List Bf} {y z:Bf} (h:z∈turn l y):z=y\/(z∈l/\z.b≠y.b):=by
 unfold turn at h
 obtain ⟨x,hx,e⟩:=List.mem_map.1 h
 split at e
 ·exact .inl e.symm
 ·rename_i hne; subst e; exact .inr ⟨hx,hne⟩
theorem WFC.turn {C:Ca} (h:WFC C) {y:Bf} (h1:y.b<C.D.vs.length) (h2:y.data.length=256) (h3:y.pins<=1000000):WFC { C with l:=turn C.l y } where
 small:=h.small
 most0:=h.most0
 most1:=h.most1
 len:=by have:=h.len; simpa [Go.Proofs.YtelhlihjihklbaaGreat.turn] using this
 nodup:=by rw [turn_b]; exact h.nodup
 lt:=fun z hz=>by
  rcases mem_turn hz with rfl | ⟨hz,_⟩
  ·exact h1
  ·exact h.lt z hz
 data:=fun z hz=>by
  rcases mem_turn hz with rfl | ⟨hz,_⟩
  ·exact h2
  ·exact h.data z hz
 pins:=fun z hz=>by
  rcases mem_turn hz with rfl | ⟨hz,_⟩
  ·exact h3
  ·exact h.pins z hz
end Go.Proofs.YtelhlihjihklbaaGreat
end
section
open Go Go.Den Go.Proofs
namespace Go.Proofs.YtelhlihjihklbaaGreat
structure CIn (w0:World) (R:Nat->Prop) (rl:Nat->Nat) (w:World) (c d m sb mb sc lc:Nat) (la:Option Addr) (L mp:List (Int×Value)) (C:Ca):Prop where
 disk:DiskIn w (fun x=>rl x=4) d sb mb sc L C.D
 cell:AtU w c 0 [.pointer (some ⟨d,0,none⟩),.int .i64 C.most,.map (some m),.slice la C.l.length lc]
 map:MapAt w m mp
 row:Ow Tryz.prog w w0.heap.size 80 1 la C.l.length lc (iL (nums C.l))
 rc:rl c=1
 rm:rl m=2
 rrow:∀ q,la=some q->rl q.block=3
 bufs:∀ x∈C.l,∃ q g cc,lookupL mp x.b=some (.pointer (some ⟨q,0,none⟩))/\rl q=6+x.b/\rl g=5/\AtU w q 0 [.slice (some ⟨g,0,none⟩) 256 cc,.int .i64 x.pins]/\At w g 0 (u8L x.data)
 keys:∀ p∈mp,∃ x∈C.l,p.1=(x.b:Int)
 wf:WFC C
 reg:∀ x,rl x≠0->R x
 lo:∀ x,R x->w0.heap.size<=x/\x<w.heap.size
 mod:Mod No w0 w
section
variable {w0 w w':World} {R:Nat->Prop} {rl:Nat->Nat} {c d m sb mb sc lc:Nat} {la:Option Addr} {L mp:List (Int×Value)} {C:Ca}
theorem CIn.nos (h:CIn w0 R rl w c d m sb mb sc lc la L mp C) (k:Mod No w w'):CIn w0 R rl w' c d m sb mb sc lc la L mp C where
 disk:=h.disk.nos k
 cell:=h.cell.keep k id
 map:=h.map.keep k id
 row:=h.row.nos k
 rc:=h.rc
 rm:=h.rm
 rrow:=h.rrow
 bufs:=fun x hx=>by
  obtain ⟨q,g,cc,h1,h2,h3,h4,h6⟩:=h.bufs x hx
  exact ⟨q,g,cc,h1,h2,h3,h4.keep k id,h6.keep k id⟩
 keys:=h.keys
 wf:=h.wf
 reg:=h.reg
 lo:=fun x hx=>by have:=h.lo x hx; have:=k.size; omega
 mod:=h.mod.no k
theorem CIn.drew (h:CIn w0 R rl w c d m sb mb sc lc la L mp C):CIn w0 R rl (Go.Den.drew w) c d m sb mb sc lc la L mp C:=h.nos (Mod.refl No w).drew
theorem CIn.widen {R':Nat->Prop} (h:CIn w0 R rl w c d m sb mb sc lc la L mp C) (h1:∀ x,R x->R' x) (h2:∀ x,R' x->w0.heap.size<=x/\x<w.heap.size):CIn w0 R' rl w c d m sb mb sc lc la L mp C :=
 { h with reg:=fun x hx=>h1 x (h.reg x hx),lo:=h2 }
def ro (rl:Nat->Nat) (a r:Nat):Nat->Nat:=fun z=>if z=a then r else rl z
theorem ro_same (rl:Nat->Nat) (a r:Nat):ro rl a r a=r:=by unfold ro; rw [if_pos rfl]
theorem ro_ne (rl:Nat->Nat) {a r x:Nat} (h:x≠a):ro rl a r x=rl x:=by unfold ro; rw [if_neg h]
structure Ext (w w':World) (rl rl':Nat->Nat):Prop where
 old:∀ x,rl x≠0->rl' x=rl x
 new:∀ x,rl x=0->rl' x≠0->w.heap.size<=x/\x<w'.heap.size
 dsk:∀ x,rl' x=4->rl x=4
theorem Ext.refl (w w':World) (rl:Nat->Nat):Ext w w' rl rl:=⟨fun _ _=>rfl,fun _ h k=>absurd h k,fun _ h=>h⟩
theorem Ext.ro {rl':Nat->Nat} (h:Ext w w' rl rl') {a r:Nat} (ha:rl' a=r\/(w.heap.size<=a/\a<w'.heap.size/\rl' a=0)) (h4:r≠4) (h0:r≠0):Ext w w' rl (ro rl' a r) where
 old:=fun x hx=>by
  by_cases e:x=a
  ·subst e
   rw [ro_same]
   have:=h.old x hx
   rcases ha with ha | ⟨_,_,ha⟩
   ·rw [<- this,ha]
   ·omega
  ·rw [ro_ne _ e]; exact h.old x hx
 new:=fun x hx hn=>by
  by_cases e:x=a
  ·subst e
   rcases ha with ha | ⟨h1,h2,_⟩
   ·exact h.new x hx (by omega)
   ·exact ⟨h1,h2⟩
  ·rw [ro_ne _ e] at hn; exact h.new x hx hn
 dsk:=fun x hx=>by
  by_cases e:x=a
  ·subst e; rw [ro_same] at hx; exact absurd hx h4
  ·rw [ro_ne _ e] at hx; exact h.dsk x hx
theorem CIn.step {S:Nat->Prop} {rl':Nat->Nat} {lc':Nat} {la':Option Addr} {mp':List (Int×Value)} {l':List Bf} (h:CIn w0 R rl w c d m sb mb sc lc la L mp C) (k:Mod S w w') (hx:Ext w w' rl rl')
  (hS:∀ x,x<w.heap.size->S x->rl x≠0/\rl x≠4/\rl x≠5)
  (hcell:AtU w' c 0 [.pointer (some ⟨d,0,none⟩),.int .i64 C.most,.map (some m),.slice la' l'.length lc']) (hmap:MapAt w' m mp')
  (hrow:Ow Tryz.prog w' w0.heap.size 80 1 la' l'.length lc' (iL (nums l'))) (hla:∀ q,la'=some q->rl' q.block=3)
  (hl:∀ x∈l',(x∈C.l/\lookupL mp' x.b=lookupL mp x.b/\∀ q,S q->rl q≠6+x.b) \/
   ∃ q g cc,lookupL mp' x.b=some (.pointer (some ⟨q,0,none⟩))/\rl' q=6+x.b/\rl' g=5/\AtU w' q 0 [.slice (some ⟨g,0,none⟩) 256 cc,.int .i64 x.pins]/\At w' g 0 (u8L x.data))
  (hk:∀ p∈mp',∃ x∈l',p.1=(x.b:Int)) (hwf:WFC { C with l:=l' }) :
  CIn w0 (Gro R w w') rl' w' c d m sb mb sc lc' la' L mp' { C with l:=l' } where
 disk:=by
  have h4:=h.disk.keep k fun x hx e=>by
   have:=hS x (h.disk.lt x hx) e
   omega
  have e:(fun x=>rl' x=4)=fun x=>rl x=4:=by
   funext x
   exact propext ⟨hx.dsk x,fun e=>by rw [hx.old x (by omega)]; exact e⟩
  rw [e]; exact h4
 cell:=hcell
 map:=hmap
 row:=hrow
 rc:=by rw [hx.old c (by rw [h.rc]; omega)]; exact h.rc
 rm:=by rw [hx.old m (by rw [h.rm]; omega)]; exact h.rm
 rrow:=hla
 bufs:=fun x hx'=>by
  rcases hl x hx' with ⟨hx1,hx2,hx3⟩ | hn
  ·obtain ⟨q,g,cc,h1,h2,h3,h4,h6⟩:=h.bufs x hx1
   refine ⟨q,g,cc,hx2.trans h1,?_,?_,h4.keep k fun e=>hx3 q e h2,h6.keep k fun e=>?_⟩
   ·rw [hx.old q (by omega)]; exact h2
   ·rw [hx.old g (by omega)]; exact h3
   ·exact (hS g h6.lt e).2.2 h3
  ·exact hn
 keys:=hk
 wf:=hwf
 reg:=fun x hn=>by
  by_cases e:rl x=0
  ·exact .inr (hx.new x e hn)
  ·exact .inl (h.reg x e)
 lo:=fun x hx=>by
  have:=k.size
  have:=h.mod.size
  rcases hx with hx | hx
  ·have:=h.lo x hx; omega
  ·omega
 mod:=h.mod.trans k fun x hx e=>by
  have:=h.mod.size
  have:=hS x (by omega) e
  have:=h.lo x (h.reg x (by omega))
  omega
end
end Go.Proofs.YtelhlihjihklbaaGreat
end
