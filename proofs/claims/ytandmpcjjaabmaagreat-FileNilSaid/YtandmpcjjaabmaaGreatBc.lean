/- Parts of the proof, in order: what the statement leans on. -/
import Derived.Test.YtandmpcjjaabmaaGreatBb
section
open Go Go.Den Go.Proofs
namespace Go.Den
def I (n:Int):Value:=.int .i64 n
def iL (ns:List Int):List Value:=ns.map I
@[simp] theorem length_iL (ns:List Int):(iL ns).length=ns.length:=by simp [iL]
theorem iL_get {ns:List Int} {i:Nat} (hi:i<ns.length):(iL ns)[i]?=some (.int .i64 ns[i]):=by simp [iL,hi,I]
theorem one_u8L (xs:List UInt8):∀ v∈u8L xs,v.oneCell'=true:=by
 intro v hv; simp [u8L] at hv; obtain ⟨x,_,rfl⟩:=hv; rfl
theorem one_iL (xs:List Int):∀ v∈iL xs,v.oneCell'=true:=by
 intro v hv; simp [iL] at hv; obtain ⟨x,_,rfl⟩:=hv; rfl
theorem u8L_sub (xs:List UInt8) (i m:Nat):((u8L xs).drop i).take m=u8L ((xs.drop i).take m):=by simp [u8L,List.map_drop,List.map_take]
theorem Row.sub {w:World} {a:Option Addr} {c i m:Nat} {xs:List UInt8} (h:Row w a (u8L xs)) (him:i+m<=xs.length) (hc:xs.length<=c) (hm:0<m):Row w (cutA a c i 1) (u8L ((xs.drop i).take m)):=by
 rcases h with h | ⟨b,o,rfl,hat⟩
 ·have:=congrArg List.length h; simp at this; rw [this] at him; simp at him; omega
 ·refine .inr ⟨b,o+i,?_,?_⟩
  ·unfold cutA; rw [if_neg (by omega)]; simp [add_none]
  ·rw [<- u8L_sub]; exact hat.sub (by simpa using him)
theorem splice_u8L (xs ys:List UInt8) (i:Nat):splice (u8L xs) i (u8L ys)=u8L (xs.take i++ys++xs.drop (i+ys.length)):=by
 simp [splice,u8L,List.map_take,List.map_drop]
end Go.Den
namespace Go.Proofs.YtandmpcjjaabmaaGreat
theorem elemZ_ints:elemZ Tryz.prog 64 1 (.int .i64 0) 8:=by unfold elemZ; kernel_rfl
theorem elemZ_bytes:elemZ Tryz.prog 55 1 (.int .u8 0) 1:=by unfold elemZ; kernel_rfl
end Go.Proofs.YtandmpcjjaabmaaGreat
end
section
open Go Go.Den
namespace Go.Den
section
variable {P:Program} {w:World}
theorem Mod.grown {b:World} {row:Option Nat} (h:w.grownBy b row):Mod (fun x=>row=some x) w b :=
 ⟨h.tape,h.os,h.output,h.size,fun k hk hn=>h.block k hk (fun e=>hn e.symm)⟩
def Ow (P:Program) (w:World) (base:Nat) (T:TypeId) (k:Nat) (a:Option Addr) (l c:Nat) (xs:List Value):Prop :=
 ∃ e,P.underlying T=some (.slice e)/\w.ownsRow base e k (.slice a l c) l xs
theorem Ow.len {base k l c:Nat} {T:TypeId} {a:Option Addr} {xs:List Value} (h:Ow P w base T k a l c xs):xs.length=l*k:=by obtain ⟨e,_,h⟩:=h; exact h.1
theorem Ow.nil {base k bytes:Nat} {T:TypeId} {z:Value} (hT:elemZ P T k z bytes):Ow P w base T k none 0 0 []:=by
 obtain ⟨e,i,zv,he,_⟩:=hT.is
 exact ⟨e,he,World.ownsRow_nil w base e k⟩
theorem Ow.base {base k l c:Nat} {T:TypeId} {a:Option Addr} {xs:List Value} (h:Ow P w base T k a l c xs) {q:Addr} (hq:a=some q):base<=q.block/\q.block<w.heap.size:=by
 obtain ⟨e,_,h⟩:=h
 exact h.lt q.block (by rw [hq]; rfl)
theorem Ow.zero {base k l c:Nat} {T:TypeId} {xs:List Value} (h:Ow P w base T k none l c xs):l=0/\c=0:=by
 obtain ⟨e,_,h⟩:=h
 rcases h.2 with ⟨h1,h2⟩ | ⟨g,cap,cur,h1,_⟩
 ·simp at h1; exact ⟨h2,h1.2⟩
 ·simp at h1
theorem Ow.cap {base k l c:Nat} {T:TypeId} {a:Option Addr} {xs:List Value} (h:Ow P w base T k a l c xs):l<=c/\c<=maxLen:=by
 obtain ⟨e,_,h⟩:=h
 rcases h.2 with ⟨h1,h2⟩ | ⟨g,cap,cur,h1,_,_,h3,h4,_⟩
 ·simp at h1; omega
 ·simp at h1; obtain ⟨_,rfl⟩:=h1; exact ⟨h3,h4⟩
theorem Ow.keep {base k l c:Nat} {T:TypeId} {a:Option Addr} {xs:List Value} {S:Nat->Prop} {w':World} (h:Ow P w base T k a l c xs) (m:Mod S w w') (hs:∀ q,a=some q->¬ S q.block):Ow P w' base T k a l c xs:=by
 obtain ⟨e,he,h1,h2⟩:=h
 refine ⟨e,he,h1,?_⟩
 rcases h2 with hn | ⟨g,cap,cur,hv,hb,hg,rest⟩
 ·exact .inl hn
 ·refine .inr ⟨g,cap,cur,hv,hb,?_,rest⟩
  simp at hv
  exact m.keep hg (hs _ hv.1)
theorem Ow.mono {base base' k l c:Nat} {T:TypeId} {a:Option Addr} {xs:List Value} (h:Ow P w base T k a l c xs) (hb:base'<=base):Ow P w base' T k a l c xs:=by
 obtain ⟨e,he,h1,h2⟩:=h
 refine ⟨e,he,h1,?_⟩
 rcases h2 with hn | ⟨g,cap,cur,hv,hb',rest⟩
 ·exact .inl hn
 ·exact .inr ⟨g,cap,cur,hv,by omega,rest⟩
theorem Ow.rowU {base k l c:Nat} {T:TypeId} {a:Option Addr} {xs:List Value} (h:Ow P w base T k a l c xs):RowU w a xs:=by
 obtain ⟨e,he,h1,h2⟩:=h
 rcases h2 with ⟨hn,hz⟩ | ⟨g,cap,cur,hv,hb,hg,hle,_,hsz,ht⟩
 ·left; exact List.eq_nil_of_length_eq_zero (by rw [h1,hz]; omega)
 ·right
  simp at hv
  have hm:l*k<=cap*k:=Nat.mul_le_mul_right _ hle
  refine ⟨g,0,hv.1,cur.toList,e,(0,0),hg,?_,?_,fun j _ _=>by simp⟩
  ·rw [h1]; simp [hsz]; exact hm
  ·rw [h1]; simpa using ht
theorem RowU.row {a:Option Addr} {xs:List Value} (h:RowU w a xs):Row w a xs:=by
 rcases h with h | ⟨b,o,e,h⟩
 ·exact .inl h
 ·exact .inr ⟨b,o,e,h.at⟩
theorem Row.keep {a:Option Addr} {xs:List Value} {S:Nat->Prop} {w':World} (h:Row w a xs) (m:Mod S w w') (hs:∀ q,a=some q->¬ S q.block):Row w' a xs:=by
 rcases h with h | ⟨b,o,e,h⟩
 ·exact .inl h
 ·exact .inr ⟨b,o,e,h.keep m (hs _ e)⟩
theorem Row.nos {a:Option Addr} {xs:List Value} {w':World} (h:Row w a xs) (m:Mod No w w'):Row w' a xs:=h.keep m fun _ _=>id
theorem Ow.nos {base k l c:Nat} {T:TypeId} {a:Option Addr} {xs:List Value} {w':World} (h:Ow P w base T k a l c xs) (m:Mod No w w'):Ow P w' base T k a l c xs:=h.keep m fun _ _=>id
theorem At.cell {b o j:Nat} {xs:List Value} {v:Value} (h:At w b o xs) (hj:xs[j]?=some v):w.cell? (Addr.add ⟨b,o,none⟩ j)=some v:=by
 obtain ⟨l,t,fz,h1,h2,h3⟩:=h
 have hjn:j<xs.length:=(List.getElem?_eq_some_iff.1 hj).1
 rw [add_none,cell_of h1,take_drop_get h3 j hjn,<- hj]; simp [hjn]
theorem Ow.append {base k bytes l c m c2:Nat} {T ty:TypeId} {z:Value} {a a2:Option Addr} {xs ys:List Value} (hT:elemZ P T k z bytes) (hk:0<k) (h:Ow P w base T k a l c xs)
  (hr:Row w a2 ys) (hl:ys.length=m*k) (h0:a2=none->m=0/\c2=0) (h1:∀ v∈ys,v.oneCell'=true) (h63:(l+m)*bytes<=140737488355328) (hb:0<bytes) (hbase:base<=w.heap.size) :
  ∃ a' c' w',(Builtin.append_ #[T,T] ty #[.slice a l c,.slice a2 m c2]).run P w=.ok (.slice a' (l+m) c') w'/\Ow P w' base T k a' (l+m) c' (xs++ys)/\Mod (fun x=>base<=x) w w':=by
 obtain ⟨e,i,zv,he,hi,hsz,hz,hzc,hby⟩:=hT.is
 obtain ⟨e',he',how⟩:=h
 have:e'=e:=by rw [he] at he'; simpa using he'.symm
 subst this
 have h63':l+m<=maxLen:=by
  have:l+m<=(l+m)*bytes:=Nat.le_mul_of_pos_right _ hb
  simp [maxLen]; omega
 cases a2 with
 | none =>
  obtain ⟨rfl,rfl⟩:=h0 rfl
  have hy:ys=[]:=List.eq_nil_of_length_eq_zero (by omega)
  subst hy
  refine ⟨a,c,w,?_,⟨e',he,by simpa using how⟩,Mod.refl _ _⟩
  exact run_append_owned_none w base T ty e' i k he hi _ l xs how
 | some ad =>
  have hcell:∀ j u,ys[j]?=some u->w.cell? (ad.add j)=some u:=by
   intro j u hj
   rcases hr with hr | ⟨b,o,e,hat⟩
   ·subst hr; simp at hj
   ·simp at e; subst e; exact hat.cell hj
  obtain ⟨v',w',hrun,how',hgr,_⟩:=run_append_own w base T ty e' i zv k bytes he hi hz hsz hby (by rw [hzc]; simp) hk (.slice a l c) l xs how ad m c2 ys hl hcell h1 h63' h63 hbase
  have hv:∃ a' c',v'=.slice a' (l+m) c':=by
   rcases how'.2 with ⟨hn,hz⟩ | ⟨g,cap,cur,hv,_⟩
   ·exact ⟨none,0,by rw [hn,hz]⟩
   ·exact ⟨_,cap,hv⟩
  obtain ⟨a',c',rfl⟩:=hv
  refine ⟨a',c',w',hrun,⟨e',he,how'⟩,(Mod.grown hgr).mono fun x hx e=>?_⟩
  exact (how.lt x e).1
theorem Ow.append' {base k bytes l c m c2:Nat} {T ty:TypeId} {z:Value} {a a2:Option Addr} {xs ys:List Value} (hT:elemZ P T k z bytes) (hk:0<k) (h:Ow P w base T k a l c xs)
  (hr:Row w a2 ys) (hl:ys.length=m*k) (h0:a2≠none) (h1:∀ v∈ys,v.oneCell'=true) (h63:(l+m)*bytes<=140737488355328) (hb:0<bytes) (hbase:base<=w.heap.size) :
  ∃ a' c' w',(Builtin.append_ #[T,T] ty #[.slice a l c,.slice a2 m c2]).run P w=.ok (.slice a' (l+m) c') w'/\Ow P w' base T k a' (l+m) c' (xs++ys)/\Mod (fun x=>∃ q,a=some q/\x=q.block) w w':=by
 obtain ⟨e,i,zv,he,hi,hsz,hz,hzc,hby⟩:=hT.is
 obtain ⟨e',he',how⟩:=h
 have:e'=e:=by rw [he] at he'; simpa using he'.symm
 subst this
 have h63':l+m<=maxLen:=by
  have:l+m<=(l+m)*bytes:=Nat.le_mul_of_pos_right _ hb
  simp [maxLen]; omega
 cases a2 with
 | none=>exact absurd rfl h0
 | some ad =>
  have hcell:∀ j u,ys[j]?=some u->w.cell? (ad.add j)=some u:=by
   intro j u hj
   rcases hr with hr | ⟨b,o,e,hat⟩
   ·subst hr; simp at hj
   ·simp at e; subst e; exact hat.cell hj
  obtain ⟨v',w',hrun,how',hgr,_⟩:=run_append_own w base T ty e' i zv k bytes he hi hz hsz hby (by rw [hzc]; simp) hk (.slice a l c) l xs how ad m c2 ys hl hcell h1 h63' h63 hbase
  have hv:∃ a' c',v'=.slice a' (l+m) c':=by
   rcases how'.2 with ⟨hn,hz⟩ | ⟨g,cap,cur,hv,_⟩
   ·exact ⟨none,0,by rw [hn,hz]⟩
   ·exact ⟨_,cap,hv⟩
  obtain ⟨a',c',rfl⟩:=hv
  refine ⟨a',c',w',hrun,⟨e',he,how'⟩,(Mod.grown hgr).mono fun x hx e=>?_⟩
  cases a with
  | none=>cases e
  | some q=>exact ⟨q,rfl,by simpa [Value.ownBlock] using e.symm⟩
theorem foldl_push:∀ (xs:List UInt8) (r:List UInt8),(xs.map fun x=>(x.toNat:Int)).foldl (fun r n=>r.push (UInt8.ofNat n.toNat)) (⟨r.toArray⟩:ByteArray)=⟨(r++xs).toArray⟩
 | [],r=>by simp
 | x::xs,r=>by
  have:=foldl_push xs (r++[x])
  simp only [List.map_cons,List.foldl_cons]
  have e:ByteArray.push (⟨r.toArray⟩:ByteArray) (UInt8.ofNat ((x.toNat:Int)).toNat)=⟨(r++[x]).toArray⟩:=by
   simp [ByteArray.push]
  rw [e,this]; simp
def bytesT (P:Program) (S T:TypeId):Bool :=
 match P.underlying S with
 | some (.slice e)=>match P.underlying e with
  | some (.int .u8)=>match P.underlying T with | some .string=>true | _=>false
  | _=>false
 | _=>false
theorem str_run {S T:TypeId} {a:Option Addr} {l c:Nat} {xs:List UInt8} (hT:bytesT P S T=true) (hr:Row w a (u8L xs)) (hl:xs.length=l):(convert S T (.slice a l c)).run P w=.ok (.string ⟨xs.toArray⟩) w:=by
 have hT':∃ e,P.underlying S=some (.slice e)/\P.underlying e=some (.int .u8)/\P.underlying T=some .string:=by
  unfold bytesT at hT
  split at hT
  ·rename_i e he
   split at hT
   ·rename_i h1
    split at hT
    ·rename_i h2; exact ⟨e,he,h1,h2⟩
    ·cases hT
   ·cases hT
  ·cases hT
 obtain ⟨e,h1,h2,h3⟩:=hT'
 rw [run_convert_bytes_string w S T e a l c h1 h2 h3]
 have hmap:u8L xs=(xs.map fun x=>(x.toNat:Int)).map (Value.int .u8):=by simp [u8L,u8]
 cases a with
 | none =>
  rcases hr with hr | ⟨b,o,e,_⟩
  ·have:xs=[]:=by simpa [u8L] using hr
   subst this; rfl
  ·cases e
 | some ad =>
  have hload:(loadCells ad l).run P w=.ok ((xs.map fun x=>(x.toNat:Int)).map (Value.int .u8)).toArray w:=by
   rcases hr with hr | ⟨b,o,e,hat⟩
   ·have:xs=[]:=by simpa [u8L] using hr
    subst this; subst hl; rfl
   ·simp at e; subst e
    have:=hat.cells (P:=P) (n:=l) (by simp; omega)
    rw [this,<- hmap]
    congr 1
    have:(u8L xs).take l=u8L xs:=List.take_of_length_le (by simp; omega)
    rw [this]
  rw [run_bytesToString w ad l c _ hload]
  have:=foldl_push xs []
  simp only [List.nil_append] at this
  rw [<- this]; rfl
end
end Go.Den
end
section
open Go Go.Den Go.Proofs
namespace Go.Den
def nI (x:List Value) (i:Nat):Int:=match nth x i with | .int _ n=>n | _=>0
section
variable {P:Program} {w:World}
theorem Ow.sm {base k l c:Nat} {T:TypeId} {a:Option Addr} {xs:List Value} (h:Ow P w base T k a l c xs) (hl:0<l):∃ g,a=some ⟨g,0,none⟩/\base<=g/\AtU w g 0 xs:=by
 obtain ⟨e,he,h1,h2⟩:=h
 rcases h2 with ⟨hn,hz⟩ | ⟨g,cap,cur,hv,hb,hg,hle,_,hsz,ht⟩
 ·omega
 ·simp at hv
  have hm:l*k<=cap*k:=Nat.mul_le_mul_right _ hle
  refine ⟨g,hv.1,hb,cur.toList,e,(0,0),hg,?_,?_,fun j _ _=>by simp⟩
  ·rw [h1]; simp [hsz]; exact hm
  ·rw [h1]; simpa using ht
theorem Ow.snoc {base k bytes l c:Nat} {T ty:TypeId} {t:TypeId} {z:Value} {a:Option Addr} {xs ys:List Value} (hT:elemZ P T k z bytes) (hk:0<k) (h:Ow P w base T k a l c xs)
  (hl:ys.length=k) (h1:∀ v∈ys,v.oneCell'=true) (h63:(l+1)*bytes<=140737488355328) (hb:0<bytes) (hbase:base<=w.heap.size) :
  ∃ a' c' w',(Builtin.append_ #[T,T] ty #[.slice a l c,.slice (some ⟨w.heap.size,0,none⟩) 1 1]).run P (w.alloc (.cells ⟨ys⟩ t))=.ok (.slice a' (l+1) c') w'/\Ow P w' base T k a' (l+1) c' (xs++ys)/\Mod (fun x=>base<=x) w w':=by
 have hm:Mod No w (w.alloc (.cells ⟨ys⟩ t)):=(Mod.refl No w).alloc _
 obtain ⟨a',c',w',h2,h3,h4⟩:=(h.nos hm).append (ty:=ty) hT hk (a2:=some ⟨w.heap.size,0,none⟩) (m:=1) (c2:=1) (ys:=ys) (.inr ⟨_,_,rfl,AtU.new.at⟩) (by omega) (fun e=>by cases e) h1 h63 hb (Nat.le_trans hbase hm.size)
 exact ⟨a',c',w',h2,h3,(hm.mono fun _ _ h=>h.elim).trans h4 fun _ _ h=>h⟩
theorem Mod.up {base:Nat} {a b c:World} (h:Mod No a b) (m:Mod (fun x=>base<=x) b c) (hb:a.heap.size<=base):Mod No a c:=h.trans m fun x hx e=>by omega
theorem u8L_append (xs ys:List UInt8):u8L (xs++ys)=u8L xs++u8L ys:=by simp [u8L]
end
end Go.Den
namespace Go.Proofs.YtandmpcjjaabmaaGreat
theorem builtI (w:World) (v:Int):(Instr.buildSlice 64 1 #[(0,.int .i64 v)]).run Tryz.prog w=.ok (.slice (some ⟨w.heap.size,0,none⟩) 1 1) (w.alloc (.cells ⟨[.int .i64 v]⟩ 3)):=by kernel_rfl
def a5:List UInt8:=[165,165,165,165,165,165,165,165]
end Go.Proofs.YtandmpcjjaabmaaGreat
end
section
namespace Go.Den
def sStep (s:Nat):Nat:=(s / 2) ^^^ (if s % 2=1 then 3988292384 else 0)
def sSteps:Nat->Nat->Nat
 | 0,s=>s
 | n+1,s=>sSteps n (sStep s)
def sByte (s:Nat) (c:UInt8):Nat:=sSteps 8 (s ^^^ c.toNat)
def crcAcc (xs:List UInt8) (s:Nat):Nat:=xs.foldl sByte s
def crc (xs:List UInt8):Nat:=crcAcc xs 4294967295 ^^^ 4294967295
theorem sSteps_snoc:∀ (n s:Nat),sSteps (n+1) s=sStep (sSteps n s)
 | 0,_=>rfl
 | n+1,s=>by rw [sSteps,sSteps_snoc n]; rfl
theorem sSteps_add:∀ (m n s:Nat),sSteps (m+n) s=sSteps n (sSteps m s)
 | 0,n,s=>by rw [Nat.zero_add]; rfl
 | m+1,n,s=>by rw [show m+1+n=(m+n)+1 by omega,sSteps,sSteps_add m n]; rfl
theorem xor_div2 (a b:Nat):(a ^^^ b) / 2=a / 2 ^^^ b / 2:=by
 have:=Nat.shiftRight_xor_distrib (a:=a) (b:=b) (i:=1)
 simpa [Nat.shiftRight_succ] using this
theorem xor_mod2 (a b:Nat):(a ^^^ b) % 2=1↔¬ (a % 2=1↔b % 2=1):=by
 rw [Nat.xor_mod_two_eq_one]
theorem sStep_xor (a b:Nat):sStep (a ^^^ b)=sStep a ^^^ sStep b:=by
 unfold sStep
 rw [xor_div2]
 have h:=xor_mod2 a b
 by_cases ha:a % 2=1
 ·by_cases hb:b % 2=1
  ·rw [if_neg (by rw [h]; simp [ha,hb]),if_pos ha,if_pos hb,Nat.xor_zero]
   rw [Nat.xor_assoc,<- Nat.xor_assoc 3988292384,Nat.xor_comm 3988292384,Nat.xor_assoc,Nat.xor_self,Nat.xor_zero]
  ·rw [if_pos (by rw [h]; simp [ha,hb]),if_pos ha,if_neg hb,Nat.xor_zero,Nat.xor_assoc,Nat.xor_assoc,Nat.xor_comm 3988292384]
 ·by_cases hb:b % 2=1
  ·rw [if_pos (by rw [h]; simp [ha,hb]),if_neg ha,if_pos hb,Nat.xor_zero,Nat.xor_assoc]
  ·rw [if_neg (by rw [h]; simp [ha,hb]),if_neg ha,if_neg hb,Nat.xor_zero,Nat.xor_zero,Nat.xor_zero]
theorem sSteps_xor:∀ (n a b:Nat),sSteps n (a ^^^ b)=sSteps n a ^^^ sSteps n b
 | 0,_,_=>rfl
 | n+1,a,b=>by rw [sSteps,sSteps,sSteps,sStep_xor,sSteps_xor n]
theorem sStep_even (m:Nat):sStep (2*m)=m:=by
 unfold sStep
 rw [if_neg (by omega),Nat.xor_zero]; omega
theorem sSteps_even:∀ (n m:Nat),sSteps n (2 ^ n*m)=m
 | 0,m=>by simp [sSteps]
 | n+1,m=>by rw [sSteps,Nat.pow_succ,Nat.mul_comm (2 ^ n) 2,Nat.mul_assoc,sStep_even,sSteps_even n m]
theorem split16 (s:Nat):16*(s / 16) ^^^ (s % 16)=s:=by
 apply Nat.eq_of_testBit_eq
 intro i
 rw [Nat.testBit_xor]
 have e:s=2 ^ 4*(s / 16)+s % 16:=by omega
 have hlt:s % 16<2 ^ 4:=by omega
 by_cases hi:i<4
 ·have h1:(16*(s / 16)).testBit i=false:=by
   rw [show 16*(s / 16)=2 ^ 4*(s / 16) by omega,Nat.testBit_two_pow_mul]; simp; omega
  rw [h1,Bool.false_xor,show s % 16=s % 2 ^ 4 by rfl,Nat.testBit_mod_two_pow]; simp [hi]
 ·have h2:(s % 16).testBit i=false:=Nat.testBit_lt_two_pow (Nat.lt_of_lt_of_le hlt (Nat.pow_le_pow_right (by omega) (by omega)))
  rw [h2,Bool.xor_false,show 16*(s / 16)=2 ^ 4*(s / 16) by omega,Nat.testBit_two_pow_mul]
  rw [show s / 16=s / 2 ^ 4 by rfl,Nat.testBit_div_two_pow,show i-4+4=i by omega,decide_eq_true (show i >= 4 by omega),Bool.true_and]
theorem half_step (s:Nat):s / 16 ^^^ sSteps 4 (s % 16)=sSteps 4 s:=by
 have h:=sSteps_xor 4 (16*(s / 16)) (s % 16)
 rw [split16] at h
 rw [h,show 16*(s / 16)=2 ^ 4*(s / 16) by omega,sSteps_even]
theorem sStep_lt {s:Nat} (h:s<4294967296):sStep s<4294967296:=by
 unfold sStep
 refine Nat.xor_lt_two_pow (n:=32) (by omega) ?_
 split <;> omega
theorem sSteps_lt:∀ {n s:Nat},s<4294967296->sSteps n s<4294967296
 | 0,_,h=>h
 | n+1,s,h=>by rw [sSteps]; exact sSteps_lt (sStep_lt h)
theorem sByte_lt {s:Nat} {c:UInt8} (h:s<4294967296):sByte s c<4294967296:=sSteps_lt (Nat.xor_lt_two_pow (n:=32) (by omega) (by have:=c.toNat_lt; omega))
theorem crcAcc_lt:∀ {xs:List UInt8} {s:Nat},s<4294967296->crcAcc xs s<4294967296
 | [],_,h=>h
 | c::r,s,h=>by unfold crcAcc; rw [List.foldl_cons]; exact crcAcc_lt (xs:=r) (sByte_lt h)
theorem crc_lt (xs:List UInt8):crc xs<4294967296:=Nat.xor_lt_two_pow (n:=32) (crcAcc_lt (by omega)) (by omega)
theorem crcAcc_snoc (xs:List UInt8) (c:UInt8) (s:Nat):crcAcc (xs++[c]) s=sByte (crcAcc xs s) c:=by
 unfold crcAcc; rw [List.foldl_append]; rfl
theorem crcAcc_take {xs:List UInt8} {i:Nat} (h:i<xs.length) (s:Nat):crcAcc (xs.take (i+1)) s=sByte (crcAcc (xs.take i) s) xs[i]:=by
 rw [List.take_succ_eq_append_getElem h,crcAcc_snoc]
theorem sByte_half (s:Nat) (c:UInt8):sByte s c=(let a:=s ^^^ c.toNat; let b:=a / 16 ^^^ sSteps 4 (a % 16); b / 16 ^^^ sSteps 4 (b % 16)):=by
 show _=_
 simp only [half_step]
 exact sSteps_add 4 4 _
end Go.Den
end
section
open Go Go.Den Go.Proofs
namespace Go.Proofs.YtandmpcjjaabmaaGreat
theorem xor_nat32 {a b:Nat} (ha:a<4294967296) (hb:b<4294967296):bvXor 32 (a:Int) (b:Int)=((a ^^^ b:Nat):Int):=by
 show (((_:BitVec 32).toNat:Nat):Int)=_
 rw [BitVec.ofInt_natCast,BitVec.ofInt_natCast,BitVec.toNat_xor,BitVec.toNat_ofNat,BitVec.toNat_ofNat,Nat.mod_eq_of_lt ha,Nat.mod_eq_of_lt hb]
theorem and_nat32 {a b:Nat} (ha:a<4294967296) (hb:b<4294967296):bvAnd 32 (a:Int) (b:Int)=((a &&& b:Nat):Int):=by
 show (((_:BitVec 32).toNat:Nat):Int)=_
 rw [BitVec.ofInt_natCast,BitVec.ofInt_natCast,BitVec.toNat_and,BitVec.toNat_ofNat,BitVec.toNat_ofNat,Nat.mod_eq_of_lt ha,Nat.mod_eq_of_lt hb]
theorem wrapU32 {x:Int} (h0:0<=x) (h1:x<=4294967295):IntKind.u32.wrap x=x:=by
 simp only [IntKind.wrap,IntKind.bits,IntKind.signed] at *; simp at *; omega
theorem wxor {a b:Nat} (ha:a<4294967296) (hb:b<4294967296):IntKind.u32.wrap (bvXor 32 (a:Int) (b:Int))=((a ^^^ b:Nat):Int):=by
 have h:=Nat.xor_lt_two_pow (n:=32) ha hb
 rw [xor_nat32 ha hb,wrapU32 (by omega) (by omega)]
theorem low1 (a:Nat):a &&& 1=a % 2:=Nat.and_one_is_mod a
theorem low4 (a:Nat):a &&& 15=a % 16:=Nat.and_two_pow_sub_one_eq_mod a 4
theorem wand1 {a:Nat} (ha:a<4294967296):IntKind.u32.wrap (bvAnd 32 (a:Int) 1)=((a % 2:Nat):Int):=by
 have:=and_nat32 (b:=1) ha (by omega)
 rw [low1] at this
 rw [show ((1:Nat):Int)=1 from rfl] at this
 rw [this,wrapU32 (by omega) (by omega)]
theorem wand4 {a:Nat} (ha:a<4294967296):IntKind.u32.wrap (bvAnd 32 (a:Int) 15)=((a % 16:Nat):Int):=by
 have:=and_nat32 (b:=15) ha (by omega)
 rw [low4] at this
 rw [show ((15:Nat):Int)=15 from rfl] at this
 rw [this,wrapU32 (by omega) (by omega)]
theorem fdivN (a:Nat) (k:Nat):Int.fdiv (a:Int) (k:Int)=((a / k:Nat):Int):=by
 rw [Int.fdiv_eq_ediv_of_nonneg _ (by omega)]; exact (Int.natCast_ediv _ _).symm
theorem fdiv2N (a:Nat):Int.fdiv (a:Int) 2=((a / 2:Nat):Int):=fdivN a 2
theorem fdiv16N (a:Nat):Int.fdiv (a:Int) 16=((a / 16:Nat):Int):=fdivN a 16
def halfC (i:Nat):List Value:=(List.range 16).map fun k=>.int .u32 (if k<i then (sSteps 4 k:Int) else 0)
theorem halfC_len (i:Nat):(halfC i).length=16:=by simp [halfC]
theorem halfC_get {i k:Nat} (hk:k<i) (h16:k<16):(halfC i)[k]?=some (.int .u32 (sSteps 4 k:Int)):=by
 simp [halfC,h16,hk]
theorem halfC_set {i:Nat} (hi:i<16):(halfC i).set i (.int .u32 (sSteps 4 i:Int))=halfC (i+1):=by
 apply List.ext_getElem?
 intro k
 by_cases hk:i=k
 ·subst hk
  rw [List.getElem?_set_self (by rw [halfC_len]; exact hi),halfC_get (by omega) hi]
 ·rw [List.getElem?_set_ne hk]
  unfold halfC
  by_cases h16:k<16
  ·simp only [List.getElem?_map,List.getElem?_range h16,Option.map_some]
   congr 3
   exact propext ⟨fun _=>by omega,fun _=>by omega⟩
  ·rw [List.getElem?_eq_none (by simp; omega),List.getElem?_eq_none (by simp; omega)]
theorem row_at {w:World} {a:Option Addr} {xs:List UInt8} (hr:Row w a (u8L xs)) {i:Nat} (hi:i<xs.length):∃ b o,a=some ⟨b,o,none⟩/\At w b o (u8L xs) :=
 hr.resolve_left (by intro e; have:=congrArg List.length e; simp at this; rw [this] at hi; simp at hi)
section
variable {w:World} {K:Value->World->Prop}
theorem nSum_c {a:Option Addr} {l c:Nat} {xs:List UInt8} (hl:xs.length=l) (hr:Row w a (u8L xs)) (h63:l<=9223372036854775807)
  (hk:∀ w',Mod No w w'->K (.int .u32 (crc xs:Int)) w'):Cal Tryz.prog F_num_Sum #[.slice a l c] w K:=by
 apply C_num_Sum
 unfold D_num_Sum
 obtain ⟨w1,n1,n2,n3,n4⟩:=new_u (P:=Tryz.prog) (w:=w) (T:=296) (cs:=halfC 0) (by kernel_rfl)
 have hA:arrN Tryz.prog 296=some (16,1):=by kernel_rfl
 have hS:scal Tryz.prog 231=true:=by kernel_rfl
 refine ⟨_,w1,n1,?_⟩
 refine ⟨fun x w2=>∃ (i:Nat) (y z:Value),i<=16/\x=[y,.int .i64 i,z]/\AtU w2 w.heap.size 0 (halfC i)/\Mod No w w2,fun x _=>(16-nI x 1).toNat,⟨0,_,_,by omega,rfl,n2,n3⟩,?_⟩
 rintro x w2 ⟨i,y,z,hi,rfl,hat,hm⟩
 refine ⟨_,rfl,cond_of (fun hb=>?_) (fun hb=>?_)⟩
 ·have hb:=of_decide_eq_true hb
  have hi16:i<16:=by omega
  rw [wrapU32 (x:=(i:Int)) (by omega) (by omega)]
  refine ⟨fun x w3=>∃ j:Nat,j<=4/\x=[.int .u32 (sSteps j i:Int),.int .i64 j]/\w3=w2,fun x _=>(4-nI x 1).toNat,⟨0,by omega,rfl,rfl⟩,?_⟩
  rintro x w3 ⟨j,hj,rfl,rfl⟩
  refine ⟨_,rfl,cond_of (fun hb=>?_) (fun hb=>?_)⟩
  ·have hb:=of_decide_eq_true hb
   have hs:sSteps j i<4294967296:=sSteps_lt (by omega)
   refine ⟨_,rfl,?_⟩
   have e:IntKind.u32.wrap (bvXor 32 (Int.fdiv (sSteps j i:Int) 2) (IntKind.u32.wrap (3988292384*(IntKind.u32.wrap (bvAnd 32 (sSteps j i:Int) 1)))))=(sSteps (j+1) i:Int):=by
    rw [wand1 hs,fdiv2N,sSteps_snoc]
    unfold sStep
    by_cases h2:sSteps j i % 2=1
    ·rw [h2,if_pos rfl]
     exact wxor (b:=3988292384) (by omega) (by omega)
    ·rw [show sSteps j i % 2=0 by omega,if_neg (by omega)]
     exact wxor (b:=0) (by omega) (by omega)
   rw [e,wrap64 (x:=(j:Int)+1) (by omega) (by omega)]
   exact ⟨⟨j+1,by omega,by simp,rfl⟩,by simp [nI,nth]; omega⟩
  ·have hb:=of_decide_eq_false hb
   have hj4:j=4:=by omega
   subst hj4
   refine ⟨_,rfl,_,index_arr hA (by omega) (by omega),?_⟩
   rw [add_none,show (i:Int).toNat*1=i by omega]
   obtain ⟨w4,p1,p2,p3,p4⟩:=hat.store (P:=Tryz.prog) (T:=231) (i:=i) (v:=.int .u32 (sSteps 4 i:Int)) hS (by rw [halfC_len]; exact hi16) rfl
   refine ⟨w4,p1,?_⟩
   rw [halfC_set hi16] at p2
   rw [wrap64 (x:=(i:Int)+1) (by omega) (by omega)]
   exact ⟨⟨i+1,.int .u32 (sSteps 4 i:Int),.int .i64 ((4:Nat):Int),by omega,by simp,p2,hm.own p3 (Nat.le_refl _)⟩,by simp [nI,nth]; omega⟩
 ·have hb:=of_decide_eq_false hb
  have hi16:i=16:=by omega
  subst hi16
  have hr2:=hr.nos hm
  refine ⟨fun x w3=>∃ j:Nat,j<=l/\x=[.int .u32 (crcAcc (xs.take j) 4294967295:Int),.int .i64 j]/\w3=w2,fun x _=>(l-nI x 1).toNat,⟨0,by omega,rfl,rfl⟩,?_⟩
  rintro x w3 ⟨j,hj,rfl,rfl⟩
  refine ⟨_,rfl,cond_of (fun hb=>?_) (fun hb=>?_)⟩
  ·have hb:=of_decide_eq_true hb
   have hjl:j<xs.length:=by omega
   obtain ⟨b,o,rfl,hx⟩:=row_at hr2 hjl
   have hs:crcAcc (xs.take j) 4294967295<4294967296:=crcAcc_lt (by omega)
   have hc:=xs[j].toNat_lt
   refine ⟨_,index_slice (k:=1) (by kernel_rfl) (by omega) (by omega),(xs[j].toNat:Int),?_,_,rfl,?_⟩
   ·rw [add_none,show (j:Int).toNat*1=j by omega]; exact hx.load (by kernel_rfl) (u8L_get hjl)
   have key:=crcAcc_take hjl 4294967295
   rw [sByte_half] at key
   generalize crcAcc (xs.take j) 4294967295=s at hs key |-
   rw [wrapU32 (x:=(xs[j].toNat:Int)) (by omega) (by omega),wxor hs (by omega)]
   have ha:s ^^^ xs[j].toNat<4294967296:=Nat.xor_lt_two_pow (n:=32) hs (by omega)
   generalize s ^^^ xs[j].toNat=A at ha key |-
   rw [wand4 ha,fdiv16N]
   refine ⟨_,index_arr hA (by omega) (by omega),(sSteps 4 (A % 16):Int),?_,?_⟩
   ·rw [add_none,show ((A % 16:Nat):Int).toNat*1=A % 16 by omega]; exact hat.at.load (b:=w.heap.size) (o:=0) hS (halfC_get (by omega) (by omega))
   have hs4:sSteps 4 (A % 16)<4294967296:=sSteps_lt (by omega)
   rw [wxor (by omega) hs4]
   have hB:A / 16 ^^^ sSteps 4 (A % 16)<4294967296:=Nat.xor_lt_two_pow (n:=32) (by omega) hs4
   simp only at key
   generalize A / 16 ^^^ sSteps 4 (A % 16)=B at hB key |-
   rw [wand4 hB,fdiv16N]
   refine ⟨_,index_arr hA (by omega) (by omega),(sSteps 4 (B % 16):Int),?_,?_⟩
   ·rw [add_none,show ((B % 16:Nat):Int).toNat*1=B % 16 by omega]; exact hat.at.load (b:=w.heap.size) (o:=0) hS (halfC_get (by omega) (by omega))
   rw [wxor (by omega) (sSteps_lt (by omega)),wrap64 (x:=(j:Int)+1) (by omega) (by omega)]
   exact ⟨⟨j+1,by omega,by rw [key]; simp,rfl⟩,by simp [nI,nth]; omega⟩
  ·have hb:=of_decide_eq_false hb
   have hjl:j=l:=by omega
   subst hjl
   have hs:crcAcc xs 4294967295<4294967296:=crcAcc_lt (by omega)
   have e:IntKind.u32.wrap (bvXor 32 4294967295 (crcAcc xs 4294967295:Int))=(crc xs:Int):=by
    rw [show (4294967295:Int)=((4294967295:Nat):Int) from rfl,wxor (by omega) hs,Nat.xor_comm]; rfl
   refine ⟨_,rfl,(crc xs:Int),fun w=>?_,hk _ hm⟩
   rw [List.take_of_length_le (by omega),<- e]
   simp only [Op.unary,Op.intBits]
   rfl
theorem nZero_c {a:Option Addr} {l c:Nat} {xs:List UInt8} (hl:xs.length=l) (hr:Row w a (u8L xs)) (h63:l<=9223372036854775807)
  (hk:K (.bool (xs.all (·==0))) w):Cal Tryz.prog F_num_Zero #[.slice a l c] w K:=by
 apply C_num_Zero
 unfold D_num_Zero
 refine ⟨fun x w2=>∃ (j n:Nat),j<=l/\n<256/\(n=0↔(xs.take j).all (·==0)=true)/\x=[.int .u8 (n:Int),.int .i64 j]/\w2=w,fun x _=>(l-nI x 1).toNat,⟨0,0,by omega,by omega,by simp,rfl,rfl⟩,?_⟩
 rintro x w2 ⟨j,n,hj,hn,hz,rfl,rfl⟩
 refine ⟨_,rfl,cond_of (fun hb=>?_) (fun hb=>?_)⟩
 ·have hb:=of_decide_eq_true hb
  have hjl:j<xs.length:=by omega
  obtain ⟨b,o,rfl,hx⟩:=row_at hr hjl
  have hc:=xs[j].toNat_lt
  refine ⟨_,index_slice (k:=1) (by kernel_rfl) (by omega) (by omega),(xs[j].toNat:Int),?_,_,rfl,?_⟩
  ·rw [add_none,show (j:Int).toNat*1=j by omega]; exact hx.load (by kernel_rfl) (u8L_get hjl)
  have hor:n ||| xs[j].toNat<256:=Nat.or_lt_two_pow (n:=8) hn (by omega)
  have e:IntKind.u8.wrap (bvOr 8 (n:Int) (xs[j].toNat:Int))=((n ||| xs[j].toNat:Nat):Int):=by
   have:bvOr 8 (n:Int) (xs[j].toNat:Int)=((n ||| xs[j].toNat:Nat):Int):=by
    show (((_:BitVec 8).toNat:Nat):Int)=_
    rw [BitVec.ofInt_natCast,BitVec.ofInt_natCast,BitVec.toNat_or,BitVec.toNat_ofNat,BitVec.toNat_ofNat,Nat.mod_eq_of_lt hn,Nat.mod_eq_of_lt hc]
   rw [this,wrapU8]; omega
  rw [e,wrap64 (x:=(j:Int)+1) (by omega) (by omega)]
  refine ⟨⟨j+1,n ||| xs[j].toNat,by omega,hor,?_,by simp,rfl⟩,by simp [nI,nth]; omega⟩
  rw [List.take_succ_eq_append_getElem hjl,List.all_append,Bool.and_eq_true,<- hz,Nat.or_eq_zero_iff]
  simp [<- UInt8.toNat_inj]
 ·have hb:=of_decide_eq_false hb
  have hjl:j=l:=by omega
  subst hjl
  refine ⟨_,rfl,?_⟩
  rw [List.take_of_length_le (by omega)] at hz
  have e:((n:Int)==0)=xs.all (·==0):=by
   rw [Bool.eq_iff_iff,beq_iff_eq,<- hz]; omega
  rw [e]; exact hk
end
end Go.Proofs.YtandmpcjjaabmaaGreat
end
section
open Go Go.Den Go.Proofs
namespace Go.Den
def bitB (xs:List UInt8) (i:Nat):Bool:=(xs.getD (i / 8) 0).toNat.testBit (i % 8)
def cntB (xs:List UInt8):Nat->Nat
 | 0=>0
 | j+1=>cntB xs j+(if bitB xs j=true then 1 else 0)
theorem bitB_end {xs:List UInt8} {i:Nat} (h:8*xs.length<=i):bitB xs i=false:=by
 unfold bitB
 rw [List.getD_eq_getElem?_getD,List.getElem?_eq_none (by omega)]
 show (0:UInt8).toNat.testBit _=false
 exact Nat.zero_testBit _
theorem cntB_le (xs:List UInt8):∀ m,cntB xs m<=m
 | 0=>Nat.le_refl _
 | j+1=>by have:=cntB_le xs j; unfold cntB; split <;> omega
theorem cntB_mono (xs:List UInt8) (m:Nat):∀ k,cntB xs m<=cntB xs (m+k)
 | 0=>Nat.le_refl _
 | k+1=>by have:=cntB_mono xs m k; exact Nat.le_trans this (Nat.le_add_right _ _)
theorem cntB_eq_iff {xs:List UInt8} {m:Nat}:∀ {k:Nat},cntB xs m=cntB xs (m+k)↔∀ i,m<=i->i<m+k->bitB xs i=false
 | 0=>by simp; omega
 | k+1=>by
  have h:=cntB_mono xs m k
  rw [<- Nat.add_assoc,show cntB xs (m+k+1)=cntB xs (m+k)+(if bitB xs (m+k)=true then 1 else 0) from rfl]
  constructor
  ·intro e i h1 h2
   cases hb:bitB xs (m+k) with
   | true=>rw [hb,if_pos rfl] at e; omega
   | false =>
    rw [hb,if_neg (by simp)] at e
    by_cases hi:i=m+k
    ·rw [hi]; exact hb
    ·exact (cntB_eq_iff.1 e) i h1 (by omega)
  ·intro e
   rw [e (m+k) (by omega) (by omega),if_neg (by simp)]
   exact cntB_eq_iff.2 fun i h1 h2=>e i h1 (by omega)
theorem cntB_end {xs:List UInt8} {m:Nat} (h:8*xs.length<=m):cntB xs (8*xs.length)=cntB xs m:=by
 have:=(cntB_eq_iff (xs:=xs) (m:=8*xs.length) (k:=m-8*xs.length)).2 fun i h1 _=>bitB_end h1
 rwa [show 8*xs.length+(m-8*xs.length)=m by omega] at this
theorem cntB_min {xs:List UInt8} {n:Int}:cntB xs (min (max n 0) (8*xs.length)).toNat=cntB xs n.toNat:=by
 by_cases h:n.toNat<=8*xs.length
 ·congr 1; omega
 ·rw [<- cntB_end (m:=n.toNat) (by omega)]; congr 1; omega
end Go.Den
namespace Go.Proofs.YtandmpcjjaabmaaGreat
theorem shl8 {T:TypeId} {o1 o2:Operand} {k:IntKind} {a b:Int} (hb:0<=b):Al (eqS .shl T o1 o2 (.int .u8 a) (.int k b)) (.int .u8 (IntKind.u8.wrap (a*2 ^ (min b.toNat 8)))):=fun w=>by
 rw [eqS_run (fun w=>guard_int _ _ _ _ _ _ _ _ w)]
 have:¬ b<0:=by omega
 simp [binOp,Op.shift,this,IntKind.bits]
theorem and_nat8 {a b:Nat} (ha:a<256) (hb:b<256):IntKind.u8.wrap (bvAnd 8 (a:Int) (b:Int))=((a &&& b:Nat):Int):=by
 have:bvAnd 8 (a:Int) (b:Int)=((a &&& b:Nat):Int):=by
  show (((_:BitVec 8).toNat:Nat):Int)=_
  rw [BitVec.ofInt_natCast,BitVec.ofInt_natCast,BitVec.toNat_and,BitVec.toNat_ofNat,BitVec.toNat_ofNat,Nat.mod_eq_of_lt ha,Nat.mod_eq_of_lt hb]
 have hlt:a &&& b<256:=Nat.and_lt_two_pow (n:=8) a hb
 rw [this,wrapU8]; omega
theorem or_nat8 {a b:Nat} (ha:a<256) (hb:b<256):IntKind.u8.wrap (bvOr 8 (a:Int) (b:Int))=((a ||| b:Nat):Int):=by
 have:bvOr 8 (a:Int) (b:Int)=((a ||| b:Nat):Int):=by
  show (((_:BitVec 8).toNat:Nat):Int)=_
  rw [BitVec.ofInt_natCast,BitVec.ofInt_natCast,BitVec.toNat_or,BitVec.toNat_ofNat,BitVec.toNat_ofNat,Nat.mod_eq_of_lt ha,Nat.mod_eq_of_lt hb]
 have hlt:a ||| b<256:=Nat.or_lt_two_pow (n:=8) ha hb
 rw [this,wrapU8]; omega
theorem pow8 {k:Nat} (h:k<8):(2:Nat) ^ k<256:=by
 have:(2:Nat) ^ k<=2 ^ 7:=Nat.pow_le_pow_right (by omega) (by omega)
 omega
theorem one_shl {k:Nat} (h:k<8):IntKind.u8.wrap (1*2 ^ (min (k:Int).toNat 8))=((2 ^ k:Nat):Int):=by
 have hp:=pow8 h
 have hk:min (k:Int).toNat 8=k:=by omega
 rw [hk,Int.one_mul,wrapU8]
 have e:((2:Int) ^ k)=((2 ^ k:Nat):Int):=by push_cast; rfl
 rw [e]
 generalize (2:Nat) ^ k=p at hp
 omega
theorem bit_and {c:UInt8} {k:Nat} (h:k<8):((IntKind.u8.wrap (bvAnd 8 (c.toNat:Int) ((2 ^ k:Nat):Int))) != 0)=c.toNat.testBit k:=by
 rw [and_nat8 c.toNat_lt (pow8 h),bneI]
 have key:c.toNat &&& 2 ^ k=0↔c.toNat.testBit k=false:=by
  constructor
  ·intro e
   have:=congrArg (·.testBit k) e
   simpa [Nat.testBit_and,Nat.testBit_two_pow] using this
  ·intro e
   apply Nat.eq_of_testBit_eq
   intro i
   rw [Nat.testBit_and,Nat.testBit_two_pow,Nat.zero_testBit]
   by_cases hi:k=i
   ·subst hi; rw [e]; rfl
   ·rw [decide_eq_false hi,Bool.and_false]
 cases hb:c.toNat.testBit k with
 | true =>
  refine decide_eq_true fun e=>?_
  have:=key.1 (by omega)
  rw [hb] at this; cases this
 | false =>
  refine decide_eq_false fun e=>e ?_
  rw [key.2 hb]; rfl
section
variable {w:World} {K:Value->World->Prop}
theorem bitGet_c {a:Option Addr} {l c i:Nat} {xs:List UInt8} (hl:xs.length=l) (hr:Row w a (u8L xs)) (h63:l<=1048576) (hi:i<=9223372036854775807) (hk:∀ w',Mod No w w'->K (.bool (bitB xs i)) w'):Cal Tryz.prog F_bits_Get #[.slice a l c,.int .i64 i] w K:=by
 apply C_bits_Get
 unfold D_bits_Get
 refine Share.dup ?_
 apply C_bits_there
 unfold D_bits_there
 refine Share.dup (tt (decide_eq_true (by omega)) ⟨_,rfl,_,rfl,?_⟩)
 rw [wrap64 (x:=8*(l:Int)) (by omega) (by omega)]
 refine cond_of (fun h=>?_) (fun h=>⟨_,rfl,?_⟩)
 ·have h:=of_decide_eq_true h
  have hil:i / 8<xs.length:=by omega
  rw [Int.tdiv_eq_ediv_of_nonneg (by omega),Int.tmod_eq_emod_of_nonneg (by omega),wrap64 (x:=(i:Int) / 8) (by omega) (by omega),show (i:Int) / 8=((i / 8:Nat):Int) by omega,show (i:Int) % 8=((i % 8:Nat):Int) by omega]
  obtain ⟨b,o,rfl,hx⟩:=row_at hr hil
  refine ⟨_,index_slice (k:=1) (by kernel_rfl) (by omega) (by omega),(xs[i / 8].toNat:Int),?_,_,shl8 (by omega),?_⟩
  ·rw [add_none,show ((i / 8:Nat):Int).toNat*1=i / 8 by omega]; exact hx.drew.load (by kernel_rfl) (u8L_get hil)
  rw [one_shl (Nat.mod_lt _ (by omega)),bit_and (Nat.mod_lt _ (by omega))]
  have e:xs[i / 8].toNat.testBit (i % 8)=bitB xs i:=by unfold bitB; rw [List.getD_eq_getElem?_getD,List.getElem?_eq_getElem hil]; rfl
  rw [e]
  exact ⟨_,rfl,hk _ (Mod.refl _ _).drew⟩
 ·have h:=of_decide_eq_false h
  rw [<- bitB_end (xs:=xs) (i:=i) (by omega)]
  exact hk _ (Mod.refl _ _).drew
theorem bitCount_c {a:Option Addr} {l c:Nat} {n:Int} {xs:List UInt8} (hl:xs.length=l) (hr:Row w a (u8L xs)) (h63:l<=1048576) (hk:∀ w',Mod No w w'->K (.int .i64 (cntB xs n.toNat)) w'):Cal Tryz.prog F_bits_Count #[.slice a l c,.int .i64 n] w K:=by
 apply C_bits_Count
 unfold D_bits_Count
 apply C_bits_most
 unfold D_bits_most
 refine ⟨_,rfl,?_⟩
 rw [wrap64 (x:=8*(l:Int)) (by omega) (by omega)]
 have em:(if 8*(l:Int)<(if 0 > n then 0 else n) then 8*(l:Int) else (if 0 > n then 0 else n))=min (max n 0) (8*xs.length):=by
  rw [hl]; split <;> split <;> omega
 rw [em,<- cntB_min] at *
 obtain ⟨m,hm⟩:∃ m:Nat,min (max n 0) (8*(xs.length:Int))=m:=⟨(min (max n 0) (8*(xs.length:Int))).toNat,by omega⟩
 rw [hm] at hk |-
 rw [show (m:Int).toNat=m by omega] at hk
 have hml:m<=8*l:=by omega
 refine ⟨fun x w2=>∃ j:Nat,j<=m/\x=[.int .i64 (cntB xs j:Int),.int .i64 j]/\Mod No w w2,fun x _=>(m-nI x 1).toNat,⟨0,by omega,rfl,Mod.refl _ _⟩,?_⟩
 rintro x w2 ⟨j,hj,rfl,hm2⟩
 refine ⟨_,rfl,cond_of (fun h=>?_) (fun h=>⟨_,rfl,?_⟩)⟩
 ·have h:=of_decide_eq_true h
  have hcl:=cntB_le xs j
  refine bitGet_c (xs:=xs) hl (hr.nos hm2) h63 (by omega) fun w3 m3=>⟨_,rfl,Share.cut (fun z w4=>w4=w3/\z=[.int .i64 (cntB xs (j+1):Int)]) (cond_of (fun h2=>⟨_,rfl,rfl,?_⟩) (fun h2=>⟨rfl,?_⟩)) ?_⟩
  ·rw [wrap64 (by omega) (by omega),show cntB xs (j+1)=cntB xs j+(if bitB xs j=true then 1 else 0) from rfl,if_pos h2]; simp
  ·rw [show cntB xs (j+1)=cntB xs j+(if bitB xs j=true then 1 else 0) from rfl,if_neg (by rw [h2]; simp)]; rfl
  ·rintro z w4 ⟨rfl,rfl⟩
   rw [wrap64 (x:=(j:Int)+1) (by omega) (by omega)]
   exact ⟨⟨j+1,by omega,by simp [nth],hm2.no m3⟩,by simp [nI,nth]; omega⟩
 ·have h:=of_decide_eq_false h
  have hjm:j=m:=by omega
  subst hjm
  exact hk _ hm2
end
end Go.Proofs.YtandmpcjjaabmaaGreat
end
section
open Go Go.Den
namespace Go.Den
section
variable {P:Program} {w:World}
def codeF (P : Program) : List Field → Nat → Option (List Nat)
  | [], _ => some []
  | f :: r, i => if f.offset = i ∧ (f.name == "_") = false then
      match P.underlying f.type, codeF P r (i + 1) with
      | some (.int .i64), some cs => some (0 :: cs)
      | some .string, some cs => some (1 :: cs)
      | some .bool, some cs => some (2 :: cs)
      | _, _ => none
    else none
def mixT (P:Program) (T:TypeId):Option (List Nat):=if P.stoodInHeld T=false/\P.eqGuardType P.depth T=false then (match P.underlying T with | some (.struct fs)=>codeF P fs.toList 0 | _=>none) else none
def conf:List Nat->List Value->Prop
 | [],[]=>True
 | 0::cs,.int .i64 _::vs=>conf cs vs
 | 1::cs,.string _::vs=>conf cs vs
 | 2::cs,.bool _::vs=>conf cs vs
 | _,_=>False
theorem run_part1 {T:TypeId} {d:TypeDesc} (h:P.underlying T=some d) (h1:∀ fs,d≠.struct fs) (h2:∀ n e,d≠.array n e) {cs:Array Value} {o:Nat} {v:Value} (hv:cs[o]?=some v):(part T cs o).run P w=.ok v w:=by
 have hu:(underlying T).run P w=.ok d w:=run_und h w
 cases d <;> first | exact absurd rfl (h1 _) | exact absurd rfl (h2 _ _) | simp [part,isAgg,hu,hv]
theorem eqFields_mix {d : Nat} : ∀ (fs : List Field) (i : Nat) (cs : List Nat) (px py xs ys : List Value), codeF P fs i = some cs → conf cs xs → conf cs ys → px.length = i → py.length = i → ∀ w : World,
    ∃ b, (b = true ↔ xs = ys) ∧ (Op.eqFields (d + 1) ⟨px ++ xs⟩ ⟨py ++ ys⟩ fs).run P w = .ok b w
  | [], i, cs, px, py, xs, ys, h, hx, hy, _, _, w => by
    cases h
    cases xs with
    | cons a r => exact hx.elim
    | nil => cases ys with
      | cons a r => exact hy.elim
      | nil => exact ⟨true, by simp, by simp [Op.eqFields]⟩
  | f :: r, i, cs, px, py, xs, ys, h, hx, hy, hpx, hpy, w => by
    unfold codeF at h
    split at h
    · rename_i hf
      obtain ⟨ho, hn⟩ := hf
      have hn : f.name ≠ "_" := by simpa using hn
      have step : ∀ (x y : Value) (xs ys : List Value) (cs' : List Nat) (b0 : Bool) (dd : TypeDesc), P.underlying f.type = some dd → (∀ fs, dd ≠ .struct fs) → (∀ n e, dd ≠ .array n e) → codeF P r (i + 1) = some cs' → conf cs' xs → conf cs' ys →
          (b0 = true ↔ x = y) → (Op.equalIn (d + 1) f.type x y).run P w = .ok b0 w → ∃ b, (b = true ↔ x :: xs = y :: ys) ∧ (Op.eqFields (d + 1) ⟨px ++ x :: xs⟩ ⟨py ++ y :: ys⟩ (f :: r)).run P w = .ok b w := by
        intro x y xs ys cs' b0 dd hu n1 n2 hcs hxs hys hb0 heq
        have e1 : (part f.type ⟨px ++ x :: xs⟩ f.offset).run P w = .ok x w := run_part1 hu n1 n2 (by rw [ho, ← hpx]; simp)
        have e2 : (part f.type ⟨py ++ y :: ys⟩ f.offset).run P w = .ok y w := run_part1 hu n1 n2 (by rw [ho, ← hpy]; simp)
        obtain ⟨b, h1, h2⟩ := eqFields_mix (d := d) r (i + 1) cs' (px ++ [x]) (py ++ [y]) xs ys hcs hxs hys (by simp [hpx]) (by simp [hpy]) w
        simp only [List.append_assoc, List.singleton_append] at h2
        simp only [Op.eqFields, if_pos hn, Sem.run_bind, e1, Result.andThen_ok, e2, heq]
        cases b0 with
        | true =>
          refine ⟨b, ?_, by simpa using h2⟩
          have := hb0.1 rfl
          rw [h1, this]; simp
        | false =>
          refine ⟨false, ?_, by simp⟩
          constructor
          · intro e; cases e
          · intro e
            have := hb0.2 (List.cons.inj e).1
            cases this
      split at h
      · rename_i cs' hu hcs
        cases h
        cases xs with
        | nil => exact hx.elim
        | cons x xs => cases ys with
          | nil => exact hy.elim
          | cons y ys =>
            cases x <;> first | exact hx.elim | skip
            cases y <;> first | exact hy.elim | skip
            rename_i k1 a k2 b
            cases k1 <;> first | exact hx.elim | skip
            cases k2 <;> first | exact hy.elim | skip
            exact step _ _ _ _ cs' (a == b) _ hu (by simp) (by simp) hcs hx hy (by simp) (run_equalIn_int w d f.type .i64 .i64 a b hu)
      · rename_i cs' hu hcs
        cases h
        cases xs with
        | nil => exact hx.elim
        | cons x xs => cases ys with
          | nil => exact hy.elim
          | cons y ys =>
            cases x <;> first | exact hx.elim | skip
            cases y <;> first | exact hy.elim | skip
            rename_i a b
            refine step _ _ _ _ cs' (a.toList == b.toList) _ hu (by simp) (by simp) hcs hx hy ?_ (run_equalIn_string w d f.type a b hu)
            rw [beq_iff_eq, ByteArray.toList_eq, ByteArray.toList_eq]
            constructor
            · intro e
              obtain ⟨⟨a⟩⟩ := a
              obtain ⟨⟨b⟩⟩ := b
              have : a = b := e
              rw [this]
            · intro e; cases e; rfl
      · rename_i cs' hu hcs
        cases h
        cases xs with
        | nil => exact hx.elim
        | cons x xs => cases ys with
          | nil => exact hy.elim
          | cons y ys =>
            cases x <;> first | exact hx.elim | skip
            cases y <;> first | exact hy.elim | skip
            rename_i a b
            exact step _ _ _ _ cs' (a == b) _ hu (by simp) (by simp) hcs hx hy (by simp) (run_equalIn_bool w d f.type a b hu)
      · cases h
    · cases h
theorem eq_mix {T:TypeId} {cs:List Nat} (h:mixT P T=some cs) {o1 o2:Operand} {xs ys:List Value} (hx:conf cs xs) (hy:conf cs ys) (w:World) :
  ∃ b,(b=true↔xs=ys)/\(eqS .eql T o1 o2 (.agg ⟨xs⟩) (.agg ⟨ys⟩)).run P w=.ok (.bool b) w/\(eqS .neq T o1 o2 (.agg ⟨xs⟩) (.agg ⟨ys⟩)).run P w=.ok (.bool (!b)) w:=by
 unfold mixT at h
 split at h
 ·rename_i hg
  obtain ⟨h2,h3⟩:=hg
  split at h
  ·rename_i fs hu
   have hf:P.fieldsOf T=fs:=by unfold Program.fieldsOf; rw [hu]
   obtain ⟨b,hb,hr⟩:=eqFields_mix (d:=9998) fs.toList 0 cs [] [] xs ys h hx hy rfl rfl w
   have key:(Op.equalIn 10000 T (.agg ⟨xs⟩) (.agg ⟨ys⟩)).run P w=.ok b w:=by
    rw [run_equalIn_struct w 9999 T _ _ (by rw [hf]; exact hu) h2,hf]
    exact hr
   refine ⟨b,hb,?_,?_⟩
   ·rw [eqS_run (fun w=>run_eqGuard_agg w _ T _ _ _ _ h3),run_eql_struct,key]; rfl
   ·rw [eqS_run (fun w=>run_eqGuard_agg w _ T _ _ _ _ h3),run_neq_struct,key]; rfl
  ·cases h
 ·cases h
end
end Go.Den
end
section
open Go Go.Den Go.Proofs
namespace Go.Den
structure Gm where
 gr:Int
 no:Int
 gs:Int
deriving DecidableEq
def gZ:Gm:=⟨0,0,0⟩
def gV (g:Gm):List Value:=[.int .i64 g.gr,.int .i64 g.no,.int .i64 g.gs]
def gOk (g:Gm):Bool:=decide (16<=g.gr/\g.gr<=128/\1<=g.gs/\g.gs<=16/\4<=g.no/\g.no<=64/\g.no % 4=0/\4<=g.gr-1-g.no / 4/\2+g.gs*g.gr<=4096)
def gWhole (g:Gm):Gm:=if gOk g=true then g else gZ
def gSize (g:Gm):Int:=if gOk g=true then 2+g.gs*g.gr else 0
def gSlots (g:Gm):Int:=if gOk g=true then g.gs*g.no else 0
def gTabs (g:Gm):Int:=if gOk g=true then g.no / 4 else 0
theorem gOk_iff {g:Gm}:gOk g=true↔(16<=g.gr/\g.gr<=128/\1<=g.gs/\g.gs<=16/\4<=g.no/\g.no<=64/\g.no % 4=0/\4<=g.gr-1-g.no / 4/\2+g.gs*g.gr<=4096):=by unfold gOk; exact decide_eq_true_iff
theorem prodB {a b m n:Int} (h1:0<=a) (h2:a<=m) (h3:0<=b) (h4:b<=n):0<=a*b/\a*b<=m*n:=⟨Int.mul_nonneg h1 h3,Int.mul_le_mul h2 h4 h3 (by omega)⟩
theorem gSize_b {g:Gm}:0<=gSize g/\gSize g<=4096:=by
 unfold gSize
 split
 ·rename_i h
  have h:=gOk_iff.1 h
  have:=prodB (a:=g.gs) (b:=g.gr) (m:=16) (n:=128) (by omega) (by omega) (by omega) (by omega)
  omega
 ·omega
theorem gSlots_b {g:Gm}:0<=gSlots g/\gSlots g<=1024:=by
 unfold gSlots
 split
 ·rename_i h
  have h:=gOk_iff.1 h
  have:=prodB (a:=g.gs) (b:=g.no) (m:=16) (n:=64) (by omega) (by omega) (by omega) (by omega)
  omega
 ·omega
theorem one_gV (g:Gm):∀ v∈gV g,v.oneCell'=true:=by
 intro v hv
 simp only [gV,List.mem_cons,List.not_mem_nil,or_false] at hv
 rcases hv with rfl | rfl | rfl <;> rfl
end Go.Den
namespace Go.Proofs.YtandmpcjjaabmaaGreat
theorem agg_geo:aggN Tryz.prog 39=some 3:=by kernel_rfl
theorem sc_int:scal Tryz.prog 3=true:=by kernel_rfl
theorem sc_i64:scal Tryz.prog 2=true:=by kernel_rfl
theorem zero_geo:zeroC Tryz.prog 39=some (gV gZ):=by kernel_rfl
theorem build_geo:Al (Instr.build 39 #[]) (.agg ⟨gV gZ⟩):=fun w=>by kernel_rfl
theorem mix_geo:mixT Tryz.prog 39=some [0,0,0]:=by kernel_rfl
section
variable {w:World} {K:Value->World->Prop}
theorem gwithin_c {n lo hi:Int} (hk:K (.bool (decide (lo<=n/\n<=hi))) w):Cal Tryz.prog F_geo_within #[.int .i64 n,.int .i64 lo,.int .i64 hi] w K:=by
 apply C_geo_within
 unfold D_geo_within
 refine Share.dup (cond_of (fun h=>?_) (fun h=>?_))
 ·have h:=of_decide_eq_true h
  refine ⟨_,rfl,?_⟩
  have e:decide (n<=hi)=decide (lo<=n/\n<=hi):=decide_eq_decide.2 ⟨fun x=>⟨h,x⟩,fun x=>x.2⟩
  rw [e]; exact hk
 ·have h:=of_decide_eq_false h
  refine ⟨_,rfl,?_⟩
  have e:false=decide (lo<=n/\n<=hi):=(decide_eq_false fun x=>h x.1).symm
  rw [e]; exact hk
theorem geq (g h:Gm) {o1 o2:Operand}:∃ b,(b=true↔g=h)/\Al (eqS .eql 39 o1 o2 (.agg ⟨gV g⟩) (.agg ⟨gV h⟩)) (.bool b):=by
 refine ⟨decide (g=h),decide_eq_true_iff,fun w=>?_⟩
 obtain ⟨b,hb,h1,_⟩:=eq_mix mix_geo (xs:=gV g) (ys:=gV h) (o1:=o1) (o2:=o2) (by simp [conf,gV]) (by simp [conf,gV]) w
 rw [h1]
 have:b=decide (g=h):=by
  rw [Bool.eq_iff_iff,hb,decide_eq_true_iff]
  cases g; cases h; simp [gV]
 rw [this]
theorem whole_c {g:Gm} (hk:∀ w',Mod No w w'->K (.agg ⟨gV (gWhole g)⟩) w'):Cal Tryz.prog F_geo_whole #[.agg ⟨gV g⟩] w K:=by
 apply C_geo_whole
 unfold D_geo_whole
 obtain ⟨w1,a1,a2,a3,a4⟩:=box_u (P:=Tryz.prog) (w:=w) (T:=39) (cs:=gV g)
 obtain ⟨w2,b1,b2,b3,b4⟩:=new_u (P:=Tryz.prog) (w:=w1) (T:=39) zero_geo
 refine ⟨_,w1,a1,_,w2,b1,?_⟩
 have hat:=a2.at.keep b3 id
 have m2:=a3.no b3
 have l0:Ru (Instr.loadAt 3 (.pointer (some (Addr.add ⟨w.heap.size,0,none⟩ 0)))) w2 (.int .i64 g.gr) w2:=hat.fld sc_int rfl
 have l1:Ru (Instr.loadAt 3 (.pointer (some (Addr.add ⟨w.heap.size,0,none⟩ 1)))) w2 (.int .i64 g.no) w2:=hat.fld sc_int rfl
 have l2:Ru (Instr.loadAt 3 (.pointer (some (Addr.add ⟨w.heap.size,0,none⟩ 2)))) w2 (.int .i64 g.gs) w2:=hat.fld sc_int rfl
 have hend:∀ (h:Gm),h=gWhole g->∃ w6:World,RuU (Instr.storeAt 39 (.pointer (some ⟨w1.heap.size,0,none⟩)) (.agg ⟨gV h⟩)) w2 w6/\∃ gR2:Array Value,Ru (Instr.loadAt 39 (.pointer (some ⟨w1.heap.size,0,none⟩))) w6 (.agg gR2) w6/\K (.agg gR2) w6:=fun h e=>by
  obtain ⟨w6,c1,c2,c3,c4⟩:=b2.put (T:=39) (vs:=gV h) agg_geo rfl rfl (one_gV h)
  refine ⟨w6,c1,_,c2.at.all agg_geo rfl,?_⟩
  subst e
  exact hk _ (m2.own c3 (by omega))
 have hno:gOk g≠true->gZ=gWhole g:=fun h=>by unfold gWhole; rw [if_neg h]
 refine Share.cut (fun z w5=>w5=w2/\z=[.bool (!(decide (16<=g.gr/\g.gr<=128)&&decide (1<=g.gs/\g.gs<=16)))]) ⟨_,l0,gwithin_c ⟨_,rfl,cond_of (fun h=>⟨rfl,?_⟩) (fun h=>⟨_,l2,gwithin_c ⟨_,rfl,rfl,?_⟩⟩)⟩⟩ ?_
 ·rw [Bool.not_eq_true'] at h; rw [h]; rfl
 ·rw [Bool.not_eq_false'] at h; rw [h]; rfl
 rintro z w5 ⟨rfl,rfl⟩
 refine ⟨_,rfl,cond_of (fun h=>⟨_,build_geo,?_⟩) (fun h=>?_)⟩
 ·refine hend gZ (hno fun e=>?_)
  have e:=gOk_iff.1 e
  simp only [Bool.not_eq_true',Bool.and_eq_false_iff,decide_eq_false_iff_not] at h
  omega
 simp only [Bool.not_eq_false',Bool.and_eq_true,decide_eq_true_eq] at h
 refine Share.cut (fun z w8=>w8=w5/\z=[.bool (!(decide (4<=g.no/\g.no<=64)&&decide (g.no % 4=0)))]) ⟨_,l1,gwithin_c ⟨_,rfl,cond_of (fun h=>⟨rfl,?_⟩) (fun h2=>⟨_,l1,rfl,?_⟩)⟩⟩ ?_
 ·rw [Bool.not_eq_true'] at h; rw [h]; rfl
 ·rw [Bool.not_eq_false'] at h2
  have h3:=of_decide_eq_true h2
  rw [h2,Bool.true_and,Int.tmod_eq_emod_of_nonneg (by omega)]
  rw [bneI,decide_not]
 rintro z w8 ⟨rfl,rfl⟩
 refine ⟨_,rfl,cond_of (fun h2=>⟨_,build_geo,?_⟩) (fun h2=>?_)⟩
 ·refine hend gZ (hno fun e=>?_)
  have e:=gOk_iff.1 e
  simp only [Bool.not_eq_true',Bool.and_eq_false_iff,decide_eq_false_iff_not] at h2
  omega
 simp only [Bool.not_eq_false',Bool.and_eq_true,decide_eq_true_eq] at h2
 have hp:=prodB (a:=g.gs) (b:=g.gr) (m:=16) (n:=128) (by omega) (by omega) (by omega) (by omega)
 refine Share.cut (fun z w10=>w10=w8/\z=[.bool (!(decide (4<=g.gr-1-g.no / 4)&&decide (2+g.gs*g.gr<=4096)))]) ⟨_,l0,_,l1,?_⟩ ?_
 ·rw [Int.tdiv_eq_ediv_of_nonneg (by omega),wrap64 (x:=g.gr-1) (by omega) (by omega),wrap64 (x:=g.no / 4) (by omega) (by omega),wrap64 (x:=g.gr-1-g.no / 4) (by omega) (by omega)]
  refine cond_of (fun h3=>⟨rfl,?_⟩) (fun h3=>⟨_,l2,_,l0,rfl,?_⟩)
  ·have h3:=of_decide_eq_true h3
   rw [decide_eq_false (show ¬ (4<=g.gr-1-g.no / 4) by omega)]; rfl
  ·have h3:=of_decide_eq_false h3
   rw [decide_eq_true (show 4<=g.gr-1-g.no / 4 by omega),Bool.true_and,wrap64 (x:=g.gs*g.gr) (by omega) (by omega),wrap64 (by omega) (by omega),<- decide_not]
   have e:decide (2+g.gs*g.gr > 4096)=decide (¬ (2+g.gs*g.gr<=4096)):=by
    by_cases h:2+g.gs*g.gr<=4096
    ·rw [decide_eq_false (show ¬ (2+g.gs*g.gr > 4096) by omega),decide_eq_false (show ¬ ¬ (2+g.gs*g.gr<=4096) from fun k=>k h)]
    ·rw [decide_eq_true (show 2+g.gs*g.gr > 4096 by omega),decide_eq_true h]
   rw [e]
 rintro z w10 ⟨rfl,rfl⟩
 refine ⟨_,rfl,cond_of (fun h3=>⟨_,build_geo,?_⟩) (fun h3=>⟨_,hat.all agg_geo rfl,?_⟩)⟩
 ·refine hend gZ (hno fun e=>?_)
  have e:=gOk_iff.1 e
  simp only [Bool.not_eq_true',Bool.and_eq_false_iff,decide_eq_false_iff_not] at h3
  omega
 ·simp only [Bool.not_eq_false',Bool.and_eq_true,decide_eq_true_eq] at h3
  refine hend g ?_
  unfold gWhole
  rw [if_pos (gOk_iff.2 (by omega))]
theorem gOk_whole (g:Gm):(decide (gWhole g=g)&&decide ((gWhole g).gs > 0))=gOk g:=by
 unfold gWhole
 cases h:gOk g with
 | true=>have:=gOk_iff.1 h; rw [if_pos rfl]; simp; omega
 | false=>rw [if_neg (by simp)]; simp [gZ]
theorem geoRight_c {g:Gm} (hk:∀ w',Mod No w w'->K (.bool (gOk g)) w'):Cal Tryz.prog F_geo_Right #[.agg ⟨gV g⟩] w K:=by
 apply C_geo_Right
 unfold D_geo_Right
 obtain ⟨w1,a1,a2,a3,a4⟩:=box_u (P:=Tryz.prog) (w:=w) (T:=39) (cs:=gV g)
 refine ⟨_,w1,a1,_,a2.at.all agg_geo rfl,whole_c fun w2 m2=>⟨_,rfl,?_⟩⟩
 obtain ⟨w3,b1,b2,b3,b4⟩:=new_u (P:=Tryz.prog) (w:=w2) (T:=39) zero_geo
 obtain ⟨w4,c1,c2,c3,c4⟩:=b2.put (T:=39) (vs:=gV (gWhole g)) agg_geo rfl rfl (one_gV _)
 have m13:=m2.no b3
 have m4:=m13.own c3 m2.size
 have hq:=a2.at.keep m4 id
 obtain ⟨b,hb,he⟩:=geq (gWhole g) g (o1:=.tmp 6) (o2:=.tmp 7)
 have hb':b=decide (gWhole g=g):=by rw [Bool.eq_iff_iff,hb,decide_eq_true_iff]
 refine ⟨_,w3,b1,w4,c1,Share.dup ⟨_,c2.at.all agg_geo rfl,_,hq.all agg_geo rfl,b,he,cond_of (fun h=>⟨_,c2.at.fld sc_int rfl,_,rfl,?_⟩) (fun h=>⟨_,rfl,?_⟩)⟩⟩
 ·have:=gOk_whole g
  rw [<- hb',h,Bool.true_and] at this
  rw [this]; exact hk _ (a3.no m4)
 ·have:=gOk_whole g
  rw [<- hb',h,Bool.false_and] at this
  rw [this]; exact hk _ (a3.no m4)
theorem geoSize_c {g:Gm} (hk:∀ w',Mod No w w'->K (.int .i64 (gSize g)) w'):Cal Tryz.prog F_geo_Size #[.agg ⟨gV g⟩] w K:=by
 apply C_geo_Size
 unfold D_geo_Size
 obtain ⟨w1,a1,a2,a3,a4⟩:=box_u (P:=Tryz.prog) (w:=w) (T:=39) (cs:=gV g)
 refine ⟨_,w1,a1,_,a2.at.all agg_geo rfl,geoRight_c fun w2 m2=>⟨_,rfl,cond_of (fun h=>?_) (fun h=>?_)⟩⟩
 ·have e:gSize g=0:=by unfold gSize; rw [if_neg (by simpa using h)]
  rw [<- e]; exact hk _ (a3.no m2)
 ·have h:gOk g=true:=by simpa using h
  have hg:=gOk_iff.1 h
  have hq:=a2.at.keep m2 id
  refine ⟨_,hq.fld sc_int rfl,_,hq.fld sc_int rfl,?_⟩
  have hp:=prodB (a:=g.gs) (b:=g.gr) (m:=16) (n:=128) (by omega) (by omega) (by omega) (by omega)
  have e:gSize g=2+g.gs*g.gr:=by unfold gSize; rw [if_pos h]
  rw [wrap64 (x:=g.gs*g.gr) (by omega) (by omega),wrap64 (by omega) (by omega),<- e]; exact hk _ (a3.no m2)
theorem geoSlots_c {g:Gm} (hk:∀ w',Mod No w w'->K (.int .i64 (gSlots g)) w'):Cal Tryz.prog F_geo_Slots #[.agg ⟨gV g⟩] w K:=by
 apply C_geo_Slots
 unfold D_geo_Slots
 obtain ⟨w1,a1,a2,a3,a4⟩:=box_u (P:=Tryz.prog) (w:=w) (T:=39) (cs:=gV g)
 refine ⟨_,w1,a1,_,a2.at.all agg_geo rfl,whole_c fun w2 m2=>⟨_,rfl,?_⟩⟩
 obtain ⟨w3,b1,b2,b3,b4⟩:=new_u (P:=Tryz.prog) (w:=w2) (T:=39) zero_geo
 obtain ⟨w4,c1,c2,c3,c4⟩:=b2.put (T:=39) (vs:=gV (gWhole g)) agg_geo rfl rfl (one_gV _)
 have m4:=(m2.no b3).own c3 m2.size
 refine ⟨_,w3,b1,w4,c1,_,c2.at.fld sc_int rfl,_,c2.at.fld sc_int rfl,?_⟩
 have e:(gWhole g).gs*(gWhole g).no=gSlots g:=by
  unfold gWhole gSlots
  split <;> simp [gZ]
 have hb:=gSlots_b (g:=g)
 rw [e,wrap64 (by omega) (by omega)]; exact hk _ (a3.no m4)
theorem geoTabs_c {g:Gm} (hk:∀ w',Mod No w w'->K (.int .i64 (gTabs g)) w'):Cal Tryz.prog F_geo_Tables #[.agg ⟨gV g⟩] w K:=by
 apply C_geo_Tables
 unfold D_geo_Tables
 obtain ⟨w1,a1,a2,a3,a4⟩:=box_u (P:=Tryz.prog) (w:=w) (T:=39) (cs:=gV g)
 obtain ⟨w2,b1,b2,b3,b4⟩:=new_u (P:=Tryz.prog) (w:=w1) (T:=39) zero_geo
 obtain ⟨w3,c1,c2,c3,c4⟩:=b2.put (T:=39) (vs:=gV gZ) agg_geo rfl rfl (one_gV _)
 have m3:Mod No w1 (Go.Den.drew w3):=(b3.own c3 (Nat.le_refl _)).drew
 have hq:=a2.at.keep m3 id
 refine ⟨_,w1,a1,_,build_geo,_,w2,b1,w3,c1,_,hq.all agg_geo rfl,_,c2.at.drew.all agg_geo rfl,whole_c fun w4 m4=>⟨_,rfl,(c2.at.drew.keep m4 id).all agg_geo rfl,?_⟩⟩
 obtain ⟨b,hb,he⟩:=geq (gWhole g) gZ (o1:=.tmp 6) (o2:=.tmp 7)
 have hz:b=!gOk g:=by
  rw [Bool.eq_iff_iff,hb]
  unfold gWhole
  cases h:gOk g with
  | true =>
   have:=gOk_iff.1 h
   rw [if_pos rfl]
   constructor
   ·intro e; rw [e] at this; simp [gZ] at this
   ·intro e; cases e
  | false=>rw [if_neg (by simp)]; simp
 have M:=a3.no (m3.no m4)
 refine ⟨b,he,cond_of (fun h=>?_) (fun h=>⟨_,(hq.keep m4 id).fld sc_int rfl,?_⟩)⟩
 ·have e:gTabs g=0:=by unfold gTabs; rw [if_neg (by rw [hz] at h; simpa using h)]
  rw [<- e]; exact hk _ M
 ·have h:gOk g=true:=by rw [hz] at h; simpa using h
  have hg:=gOk_iff.1 h
  have e:gTabs g=g.no / 4:=by unfold gTabs; rw [if_pos h]
  rw [Int.tdiv_eq_ediv_of_nonneg (by omega),wrap64 (by omega) (by omega),<- e]; exact hk _ M
end
end Go.Proofs.YtandmpcjjaabmaaGreat
end
section
open Go Go.Den Go.Proofs
namespace Go.Den
def gHead (g:Gm) (k:Int):Int×Int:=if gOk g=true then (if 0<=k/\k<g.gs then (2+k*g.gr,0) else (0,3)) else (0,1)
def gPlace (g:Gm) (s:Int):Int×Int×Int:=if gOk g=true then (if 0<=s/\s<gSlots g then (2+s / g.no*g.gr+1+s % g.no / 4,s % g.no % 4,0) else (0,0,3)) else (0,0,1)
theorem slot_in {g:Gm} (h:gOk g=true) {s:Int} (h0:0<=s) (h1:s<gSlots g):0<=s / g.no/\s / g.no<g.gs/\0<=s % g.no/\s % g.no<g.no:=by
 have hg:=gOk_iff.1 h
 unfold gSlots at h1
 rw [if_pos h] at h1
 exact ⟨Int.ediv_nonneg h0 (by omega),Int.ediv_lt_of_lt_mul (by omega) h1,Int.emod_nonneg _ (by omega),Int.emod_lt_of_pos _ (by omega)⟩
theorem gPlace_b {g:Gm} {s b p:Int} (h:gPlace g s=(b,p,0)):gOk g=true/\0<=s/\s<gSlots g/\2<=b/\b<gSize g/\0<=p/\p<4:=by
 unfold gPlace at h
 by_cases hg:gOk g=true
 ·rw [if_pos hg] at h
  by_cases hs:0<=s/\s<gSlots g
  ·rw [if_pos hs] at h
   have hi:=slot_in hg hs.1 hs.2
   have hq:=gOk_iff.1 hg
   have e1:b=2+s / g.no*g.gr+1+s % g.no / 4:=(congrArg (·.1) h).symm
   have e2:p=s % g.no % 4:=(congrArg (·.2.1) h).symm
   have hp:=prodB (a:=s / g.no) (b:=g.gr) (m:=g.gs-1) (n:=g.gr) (by omega) (by omega) (by omega) (by omega)
   have hm:(g.gs-1)*g.gr=g.gs*g.gr-g.gr:=by rw [Int.sub_mul,Int.one_mul]
   refine ⟨hg,hs.1,hs.2,by omega,?_,by omega,by omega⟩
   unfold gSize
   rw [if_pos hg,e1]; omega
  ·rw [if_neg hs] at h; have:=congrArg (·.2.2) h; simp at this
 ·rw [if_neg hg] at h; have:=congrArg (·.2.2) h; simp at this
end Go.Den
namespace Go.Proofs.YtandmpcjjaabmaaGreat
theorem remR {T:TypeId} {o1 o2:Operand} {a b:Int} (h0:0<=a) (h1:0<b) (_h2:a<=9223372036854775807):Al (eqS .rem T o1 o2 (.int .i64 a) (.int .i64 b)) (.int .i64 (a % b)):=fun w=>by
 have:b≠0:=by omega
 rw [eqS_run (fun w=>guard_int _ _ _ _ _ _ _ _ w)]
 simp [binOp,Op.intDiv,this,Int.tmod_eq_emod_of_nonneg h0]
theorem quoR {T:TypeId} {o1 o2:Operand} {a b:Int} (h0:0<=a) (h1:0<b) (h2:a<=9223372036854775807):Al (eqS .quo T o1 o2 (.int .i64 a) (.int .i64 b)) (.int .i64 (a / b)):=fun w=>by
 have:b≠0:=by omega
 have e:a / b<=a:=Int.ediv_le_self b h0
 have e0:=Int.ediv_nonneg h0 (Int.le_of_lt h1)
 have ew:IntKind.i64.wrap (a / b)=a / b:=wrap64 (by omega) (by omega)
 rw [eqS_run (fun w=>guard_int _ _ _ _ _ _ _ _ w)]
 simp [binOp,Op.intDiv,this,Int.tdiv_eq_ediv_of_nonneg h0,ew]
section
variable {w:World} {K:Value->World->Prop}
theorem geoHead_c {g:Gm} {k:Int} (hk:∀ w',Mod No w w'->K (.tuple #[.int .i64 (gHead g k).1,.int .i64 (gHead g k).2]) w'):Cal Tryz.prog F_geo_Head #[.agg ⟨gV g⟩,.int .i64 k] w K:=by
 apply C_geo_Head
 unfold D_geo_Head
 obtain ⟨w1,a1,a2,a3,a4⟩:=box_u (P:=Tryz.prog) (w:=w) (T:=39) (cs:=gV g)
 refine ⟨_,w1,a1,_,a2.at.all agg_geo rfl,geoRight_c fun w2 m2=>⟨_,rfl,cond_of (fun h=>?_) (fun h=>?_)⟩⟩
 ·have e:gHead g k=(0,1):=by unfold gHead; rw [if_neg (by simpa using h)]
  rw [e] at hk; exact hk _ (a3.no m2)
 have h:gOk g=true:=by simpa using h
 have hg:=gOk_iff.1 h
 have hq:=a2.at.keep m2 id
 refine Share.cut (fun z w3=>w3=w2/\z=[.bool (!decide (0<=k/\k<g.gs))]) (cond_of (fun h2=>⟨rfl,?_⟩) (fun h2=>⟨_,hq.fld sc_int rfl,rfl,?_⟩)) ?_
 ·have h2:=of_decide_eq_true h2
  rw [decide_eq_false (by omega)]; rfl
 ·have h2:=of_decide_eq_false h2
  rw [<- decide_not]
  have e:decide (k >= g.gs)=decide (¬ (0<=k/\k<g.gs)):=decide_eq_decide.2 ⟨fun _=>by omega,fun _=>by omega⟩
  rw [e]
 rintro z w3 ⟨rfl,rfl⟩
 refine ⟨_,rfl,cond_of (fun h2=>?_) (fun h2=>⟨_,hq.fld sc_int rfl,?_⟩)⟩
 ·have e:gHead g k=(0,3):=by unfold gHead; rw [if_pos h,if_neg (of_decide_eq_false (by simpa only [Bool.not_eq_true'] using h2))]
  rw [e] at hk; exact hk _ (a3.no m2)
 ·have h2:0<=k/\k<g.gs:=by simpa using h2
  have e:gHead g k=(2+k*g.gr,0):=by unfold gHead; rw [if_pos h,if_pos h2]
  rw [e] at hk
  have hp:=prodB (a:=k) (b:=g.gr) (m:=16) (n:=128) (by omega) (by omega) (by omega) (by omega)
  rw [wrap64 (x:=k*g.gr) (by omega) (by omega),wrap64 (by omega) (by omega)]
  exact hk _ (a3.no m2)
theorem geoPlace_c {g:Gm} {s:Int} (h63:s<=9223372036854775807) (hk:∀ w',Mod No w w'->K (.tuple #[.int .i64 (gPlace g s).1,.int .i64 (gPlace g s).2.1,.int .i64 (gPlace g s).2.2]) w'):Cal Tryz.prog F_geo_Place #[.agg ⟨gV g⟩,.int .i64 s] w K:=by
 apply C_geo_Place
 unfold D_geo_Place
 obtain ⟨w1,a1,a2,a3,a4⟩:=box_u (P:=Tryz.prog) (w:=w) (T:=39) (cs:=gV g)
 refine ⟨_,w1,a1,_,a2.at.all agg_geo rfl,geoRight_c fun w2 m2=>⟨_,rfl,cond_of (fun h=>?_) (fun h=>?_)⟩⟩
 ·have e:gPlace g s=(0,0,1):=by unfold gPlace; rw [if_neg (by simpa using h)]
  rw [e] at hk; exact hk _ (a3.no m2)
 have h:gOk g=true:=by simpa using h
 have hg:=gOk_iff.1 h
 have hq:=a2.at.keep m2 id
 refine Share.cut (fun z w3=>Mod No w2 w3/\z=[.bool (!decide (0<=s/\s<gSlots g))]) (cond_of (fun h2=>⟨Mod.refl _ _,?_⟩) (fun h2=>⟨_,hq.all agg_geo rfl,geoSlots_c fun w3 m3=>⟨_,rfl,m3,?_⟩⟩)) ?_
 ·have h2:=of_decide_eq_true h2
  rw [decide_eq_false (by omega)]; rfl
 ·have h2:=of_decide_eq_false h2
  rw [<- decide_not]
  have e:decide (s >= gSlots g)=decide (¬ (0<=s/\s<gSlots g)):=decide_eq_decide.2 ⟨fun _=>by omega,fun _=>by omega⟩
  rw [e]
 rintro z w3 ⟨m3,rfl⟩
 have hq3:=hq.keep m3 id
 refine ⟨_,rfl,cond_of (fun h2=>?_) (fun h2=>?_)⟩
 ·have e:gPlace g s=(0,0,3):=by unfold gPlace; rw [if_pos h,if_neg (of_decide_eq_false (by simpa only [Bool.not_eq_true'] using h2))]
  rw [e] at hk; exact hk _ (a3.no (m2.no m3))
 ·have h2:0<=s/\s<gSlots g:=by simpa using h2
  have hi:=slot_in h h2.1 h2.2
  refine ⟨_,hq3.fld sc_int rfl,_,remR h2.1 (by omega) h63,_,hq3.drew.all agg_geo rfl,_,hq3.drew.fld sc_int rfl,_,quoR h2.1 (by omega) h63,geoHead_c fun w5 m5=>⟨_,_,rfl,?_⟩⟩
  have e1:gHead g (s / g.no)=(2+s / g.no*g.gr,0):=by unfold gHead; rw [if_pos h,if_pos ⟨hi.1,hi.2.1⟩]
  have e:gPlace g s=(2+s / g.no*g.gr+1+s % g.no / 4,s % g.no % 4,0):=by unfold gPlace; rw [if_pos h,if_pos h2]
  rw [e] at hk
  have hp:=prodB (a:=s / g.no) (b:=g.gr) (m:=16) (n:=128) (by omega) (by omega) (by omega) (by omega)
  rw [e1,Int.tdiv_eq_ediv_of_nonneg (by omega),Int.tmod_eq_emod_of_nonneg (by omega),wrap64 (x:=2+s / g.no*g.gr+1) (by omega) (by omega),wrap64 (x:=s % g.no / 4) (by omega) (by omega),wrap64 (by omega) (by omega)]
  exact hk _ (a3.no (m2.no (m3.drew.no m5)))
-- the document's
theorem rgRight_c {g:Gm} (hk:∀ w',Mod No w w'->K (.bool (gOk g)) w'):Cal Tryz.prog F_leveeref03_Right #[.agg ⟨gV g⟩] w K:=by
 apply C_leveeref03_Right
 unfold D_leveeref03_Right
 obtain ⟨w1,a1,a2,a3,a4⟩:=box_u (P:=Tryz.prog) (w:=w) (T:=39) (cs:=gV g)
 have l0:Ru (Instr.loadAt 3 (.pointer (some (Addr.add ⟨w.heap.size,0,none⟩ 0)))) w1 (.int .i64 g.gr) w1:=a2.at.fld sc_int rfl
 have l1:Ru (Instr.loadAt 3 (.pointer (some (Addr.add ⟨w.heap.size,0,none⟩ 1)))) w1 (.int .i64 g.no) w1:=a2.at.fld sc_int rfl
 have l2:Ru (Instr.loadAt 3 (.pointer (some (Addr.add ⟨w.heap.size,0,none⟩ 2)))) w1 (.int .i64 g.gs) w1:=a2.at.fld sc_int rfl
 have dc:∀ {p q:Prop} [Decidable p] [Decidable q],(p↔q)->[Value.bool (decide p)]=[.bool (decide q)]:=fun h=>by rw [decide_eq_decide.2 h]
 have dt:∀ {q:Prop} [Decidable q],q->[Value.bool true]=[.bool (decide q)]:=fun h=>by rw [decide_eq_true h]
 refine ⟨_,w1,a1,Share.cut (fun z w2=>w2=w1/\z=[.bool (decide (¬ (16<=g.gr/\g.gr<=128/\4<=g.no/\g.no<=64/\g.no % 4=0/\1<=g.gs/\g.gs<=16)))])
  ⟨_,l0,cond_of (fun h=>⟨rfl,dt (by have:=of_decide_eq_true h; omega)⟩) fun h=>⟨_,l0,cond_of (fun h=>⟨rfl,dt (by have:=of_decide_eq_true h; omega)⟩) fun h'=>⟨_,l1,cond_of (fun h=>⟨rfl,dt (by have:=of_decide_eq_true h; omega)⟩) fun h2=>⟨_,l1,
   cond_of (fun h=>⟨rfl,dt (by have:=of_decide_eq_true h; omega)⟩) fun h3=>⟨_,l1,cond_of (fun h=>⟨rfl,dt ?_⟩) fun h4=>⟨_,l2,cond_of (fun h=>⟨rfl,dt (by have:=of_decide_eq_true h; omega)⟩) fun h5=>⟨_,l2,rfl,dc ?_⟩⟩⟩⟩⟩⟩⟩ ?_⟩
 ·have h2:=of_decide_eq_false h2
  rw [bneI,Int.tmod_eq_emod_of_nonneg (by omega)] at h
  have h:=of_decide_eq_true h
  omega
 ·have h:=of_decide_eq_false h
  have h':=of_decide_eq_false h'
  have h2:=of_decide_eq_false h2
  have h3:=of_decide_eq_false h3
  have h5:=of_decide_eq_false h5
  rw [bneI,Int.tmod_eq_emod_of_nonneg (by omega)] at h4
  have h4:=of_decide_eq_false h4
  omega
 rintro z w2 ⟨rfl,rfl⟩
 refine ⟨_,rfl,cond_of (fun h=>?_) (fun h=>?_)⟩
 ·have h:=of_decide_eq_true h
  have e:gOk g=false:=by rw [Bool.eq_false_iff]; exact fun e=>h (by have:=gOk_iff.1 e; omega)
  rw [<- e]; exact hk _ a3
 have h:16<=g.gr/\g.gr<=128/\4<=g.no/\g.no<=64/\g.no % 4=0/\1<=g.gs/\g.gs<=16:=by simpa using h
 have hp:=prodB (a:=g.gs) (b:=g.gr) (m:=16) (n:=128) (by omega) (by omega) (by omega) (by omega)
 have hend:∀ (b:Bool),(b=true↔4<=g.gr-1-g.no / 4/\2+g.gs*g.gr<=4096)->K (.bool b) w2:=fun b hb=>by
  have e:b=gOk g:=by rw [Bool.eq_iff_iff,hb,gOk_iff]; omega
  rw [e]; exact hk _ a3
 refine Share.dup ⟨_,l0,_,l1,?_⟩
 rw [Int.tdiv_eq_ediv_of_nonneg (by omega),wrap64 (x:=g.gr-1) (by omega) (by omega),wrap64 (x:=g.no / 4) (by omega) (by omega),wrap64 (x:=g.gr-1-g.no / 4) (by omega) (by omega)]
 refine cond_of (fun h3=>⟨_,l2,_,l0,?_⟩) (fun h3=>⟨_,rfl,hend _ ?_⟩)
 ·have h3:=of_decide_eq_true h3
  rw [wrap64 (x:=g.gs*g.gr) (by omega) (by omega),wrap64 (by omega) (by omega)]
  exact ⟨_,rfl,hend _ (by rw [decide_eq_true_iff]; omega)⟩
 ·have h3:=of_decide_eq_false h3
  constructor
  ·intro e; cases e
  ·intro e; omega
theorem rgSize_c {g:Gm} (hk:∀ w',Mod No w w'->K (.int .i64 (gSize g)) w'):Cal Tryz.prog F_leveeref03_Size #[.agg ⟨gV g⟩] w K:=by
 apply C_leveeref03_Size
 unfold D_leveeref03_Size
 obtain ⟨w1,a1,a2,a3,a4⟩:=box_u (P:=Tryz.prog) (w:=w) (T:=39) (cs:=gV g)
 refine ⟨_,w1,a1,_,a2.at.all agg_geo rfl,rgRight_c fun w2 m2=>⟨_,rfl,cond_of (fun h=>?_) (fun h=>?_)⟩⟩
 ·have e:gSize g=0:=by unfold gSize; rw [if_neg (by simpa using h)]
  rw [<- e]; exact hk _ (a3.no m2)
 ·have h:gOk g=true:=by simpa using h
  have hg:=gOk_iff.1 h
  have hq:=a2.at.keep m2 id
  refine ⟨_,hq.fld sc_int rfl,_,hq.fld sc_int rfl,?_⟩
  have hp:=prodB (a:=g.gs) (b:=g.gr) (m:=16) (n:=128) (by omega) (by omega) (by omega) (by omega)
  have e:gSize g=2+g.gs*g.gr:=by unfold gSize; rw [if_pos h]
  rw [wrap64 (x:=g.gs*g.gr) (by omega) (by omega),wrap64 (by omega) (by omega),<- e]; exact hk _ (a3.no m2)
end
end Go.Proofs.YtandmpcjjaabmaaGreat
end
section
open Go Go.Den Go.Proofs
namespace Go.Proofs.YtandmpcjjaabmaaGreat
def near (n lo hi:Int):Int:=if hi<(if lo > n then lo else n) then hi else (if lo > n then lo else n)
theorem within64_c {n lo hi:Int} {w:World} {K:Value->World->Prop} (h:K (.int .i64 (near n lo hi)) w):Cal Tryz.prog F_ptr_within_int64 #[.int .i64 n,.int .i64 lo,.int .i64 hi] w K:=by
 apply C_ptr_within_int64; exact h
theorem near_id {n lo hi:Int} (h:lo<=hi):near n lo hi=n↔lo<=n/\n<=hi:=by unfold near; split <;> split <;> omega
end Go.Proofs.YtandmpcjjaabmaaGreat
end
section
open Go Go.Den Go.Proofs
namespace Go.Proofs.YtandmpcjjaabmaaGreat
def bad (off n:Int):Bool:=decide (n<1) || decide (off<0) || decide (off > 1066496) || decide (n > 1066496-off)
def spanS (off n:Int):Int×Int:=if bad off n=true then (0,-1) else (off / 256,(off+n-1) / 256)
theorem Span_c {off n:Int} {w:World} {K:Value->World->Prop} (h:K (.tuple #[.int .i64 (spanS off n).1,.int .i64 (spanS off n).2]) w):Cal Tryz.prog F_ptr_Span #[.int .i64 off,.int .i64 n] w K:=by
 apply C_ptr_Span
 unfold D_ptr_Span
 refine Share.cut (fun xs w'=>xs=[.bool (bad off n)]/\w'=w) (cond_of (fun hb=>?_) (fun hb=>?_)) ?_
 ·have h1:n<1:=by simpa using hb
  exact ⟨by simp [bad,h1],rfl⟩
 ·have h1:¬ n<1:=by simpa using hb
  refine within64_c ⟨_,rfl,cond_of (fun hb=>?_) (fun hb=>?_)⟩
  ·have hne:¬ (0<=off/\off<=1066496):=fun hc=>by
    rw [(near_id (by omega)).2 hc] at hb; simp at hb
   refine ⟨?_,rfl⟩
   have:bad off n=true:=by unfold bad; simp; omega
   rw [this]
  ·have hin:0<=off/\off<=1066496:=(near_id (by omega)).1 (by simpa using hb:off=near off 0 1066496).symm
   refine ⟨?_,rfl⟩
   rw [wrap64 (x:=1066496-off) (by omega) (by omega)]
   have:bad off n=decide (n > 1066496-off):=by
    have e1:decide (n<1)=false:=by simpa using h1
    have e2:decide (off<0)=false:=by simp; omega
    have e3:decide (off > 1066496)=false:=by simp; omega
    unfold bad; rw [e1,e2,e3]; rfl
   rw [this]
 ·rintro xs w1 ⟨rfl,rfl⟩
  refine ⟨_,rfl,cond_of (fun hb=>?_) (fun hb=>?_)⟩
  ·have:=h; rw [spanS,if_pos hb] at this; exact this
  ·have hc:¬ (n<1\/off<0\/off > 1066496\/n > 1066496-off):=by unfold bad at hb; simp at hb; omega
   rw [wrap64 (x:=n-1) (by omega) (by omega),wrap64 (x:=off+(n-1)) (by omega) (by omega),Int.tdiv_eq_ediv_of_nonneg (by omega),Int.tdiv_eq_ediv_of_nonneg (by omega),wrap64 (by omega) (by omega),wrap64 (by omega) (by omega)]
   have:=h
   rw [spanS,if_neg (by simp [hb])] at this
   rw [show off+(n-1)=off+n-1 by omega]; exact this
theorem spanS_in (off n:Int):(spanS off n=(0,-1))\/(0<=(spanS off n).1/\(spanS off n).1<=(spanS off n).2/\(spanS off n).2<=4166):=by
 unfold spanS
 split
 ·exact .inl rfl
 ·rename_i hb
  have hc:¬ (n<1\/off<0\/off > 1066496\/n > 1066496-off):=by unfold bad at hb; simp at hb; omega
  right; simp only; omega
def needS (off n:Int):Int:=if (spanS off n).2<(spanS off n).1 then 0 else (spanS off n).2-(spanS off n).1+1+((spanS off n).2-(spanS off n).1+1) / 64+3
theorem Need_c {off n:Int} {w:World} {K:Value->World->Prop} (h:K (.int .i64 (needS off n)) w):Cal Tryz.prog F_ptr_Need #[.int .i64 off,.int .i64 n] w K:=by
 apply C_ptr_Need
 unfold D_ptr_Need
 refine Span_c ⟨_,_,rfl,cond_of (fun hb=>?_) (fun hb=>?_)⟩
 ·have hb:=of_decide_eq_true hb
  rw [needS,if_pos hb] at h; exact h
 ·have hb:=of_decide_eq_false hb
  rw [needS,if_neg hb] at h
  have hin:=(spanS_in off n).resolve_left (fun e=>by rw [e] at hb; exact hb (by decide))
  generalize spanS off n=s at *
  rw [wrap64 (x:=s.2-s.1) (by omega) (by omega),wrap64 (x:=s.2-s.1+1) (by omega) (by omega),Int.tdiv_eq_ediv_of_nonneg (by omega),wrap64 (x:=(s.2-s.1+1) / 64) (by omega) (by omega),
   wrap64 (x:=s.2-s.1+1+(s.2-s.1+1) / 64) (by omega) (by omega),wrap64 (by omega) (by omega)]
  exact h
end Go.Proofs.YtandmpcjjaabmaaGreat
end
section
open Go Go.Den Go.Proofs
namespace Go.Den
theorem Row.cut {w:World} {a:Option Addr} {c i m:Nat} {xs:List UInt8} (h:Row w a (u8L xs)) (him:i+m<=xs.length) (hc:xs.length<=c):Row w (cutA a c i 1) (u8L ((xs.drop i).take m)):=by
 by_cases hm:m=0
 ·left; subst hm; simp [u8L]
 ·exact h.sub him hc (by omega)
end Go.Den
namespace Go.Proofs.YtandmpcjjaabmaaGreat
theorem leN_toLe:∀ k n,n<256 ^ k->leN (toLe k n)=n
 | 0,n,h=>by simp at h; simp [toLe,leN,h]
 | k+1,n,h=>by
  simp only [toLe,leN]
  rw [leN_toLe k (n / 256) (by rw [Nat.pow_succ] at h; omega)]
  have:(UInt8.ofNat (n % 256)).toNat=n % 256:=by rw [UInt8.toNat_ofNat']; omega
  rw [this]; omega
end Go.Proofs.YtandmpcjjaabmaaGreat
end
section
open Go Go.Den Go.Proofs
namespace Go.Proofs.YtandmpcjjaabmaaGreat
theorem toLe_leN:∀ (xs:List UInt8) {k:Nat},xs.length=k->toLe k (leN xs)=xs
 | [],0,_=>rfl
 | c::r,k+1,h=>by
  have hc:=c.toNat_lt
  have e:leN (c::r)=c.toNat+256*leN r:=rfl
  rw [toLe,e,show (c.toNat+256*leN r) % 256=c.toNat by omega,show (c.toNat+256*leN r) / 256=leN r by omega,toLe_leN r (by simpa using h),UInt8.ofNat_toNat]
structure Sp where
 gen:Int
 geo:Gm
deriving DecidableEq
def sZ:Sp:=⟨0,gZ⟩
def sV (s:Sp):List Value:=.int .i64 s.gen::gV s.geo
def sOk (s:Sp):Bool:=decide (1<=s.gen/\s.gen<=4611686018427387904)&&gOk s.geo
theorem sOk_iff {s:Sp}:sOk s=true↔(1<=s.gen/\s.gen<=4611686018427387904)/\gOk s.geo=true:=by
 unfold sOk; rw [Bool.and_eq_true,decide_eq_true_iff]
def sMark:List UInt8:=[76,86,69,69]
def sFront (s:Sp):List UInt8:=sMark++toLe 8 s.gen.toNat++toLe 2 s.geo.gr.toNat++toLe 2 s.geo.no.toNat++toLe 2 s.geo.gs.toNat
def sHead (s:Sp):List UInt8:=sFront s++List.replicate 234 0
def supB (s:Sp):List UInt8:=sHead s++toLe 4 (crc (sHead s))
theorem sFront_len (s:Sp):(sFront s).length=18:=by simp [sFront,sMark]
theorem sHead_len (s:Sp):(sHead s).length=252:=by rw [sHead,List.length_append,sFront_len,List.length_replicate]
theorem supB_len (s:Sp):(supB s).length=256:=by simp [supB,sHead_len]
def readS (xs:List UInt8):Sp:=⟨IntKind.i64.wrap (leN ((xs.drop 4).take 8)),⟨leN ((xs.drop 12).take 2),leN ((xs.drop 14).take 2),leN ((xs.drop 16).take 2)⟩⟩
def supG (xs:List UInt8):Sp×Int :=
 if xs.length≠256 then (sZ,4) else if xs.take 4≠sMark then (sZ,8) else if leN (xs.drop 252)≠crc (xs.take 252) then (sZ,7)
 else if sOk (readS xs)=false then (sZ,1) else if ((xs.drop 18).take 234).all (·==0)=false then (sZ,8) else (readS xs,0)
theorem supG_ok {xs:List UInt8} (h:(supG xs).2=0):sOk (supG xs).1=true/\(supG xs).1=readS xs:=by
 unfold supG at h |-
 split at h
 ·cases h
 split at h
 ·cases h
 split at h
 ·cases h
 split at h
 ·cases h
 split at h
 ·cases h
 rename_i h1 h2 h3 h4 h5
 rw [if_neg h1,if_neg h2,if_neg h3,if_neg h4,if_neg h5]
 exact ⟨by simpa using h4,rfl⟩
theorem gen_wrap {n:Nat} (h1:n<18446744073709551616) (h0:1<=IntKind.i64.wrap (n:Int)):IntKind.i64.wrap (n:Int)=n:=by
 by_cases h:n<=9223372036854775807
 ·exact wrap64 (by omega) (by omega)
 ·exfalso
  simp only [IntKind.wrap,IntKind.bits,IntKind.signed] at h0
  simp at h0
  omega
theorem leN_sub {xs:List UInt8} {i m:Nat} (h:i+m<=xs.length):leN ((xs.drop i).take m)<256 ^ m:=by
 have:=leN_lt ((xs.drop i).take m)
 rwa [List.length_take_of_le (by simp; omega)] at this
theorem toLe_sub {xs:List UInt8} {i m:Nat} (h:i+m<=xs.length):toLe m (leN ((xs.drop i).take m))=(xs.drop i).take m:=toLe_leN _ (by simp; omega)
theorem front_of {xs:List UInt8} (hl:xs.length=256) (h1:xs.take 4=sMark) (hs:sOk (readS xs)=true):sFront (readS xs)=xs.take 18:=by
 have hg:=(sOk_iff.1 hs).1.1
 have hw:=gen_wrap (n:=leN ((xs.drop 4).take 8)) (by have:=leN_sub (xs:=xs) (i:=4) (m:=8) (by omega); omega) hg
 unfold sFront
 rw [<- h1]
 have e1:(readS xs).gen.toNat=leN ((xs.drop 4).take 8):=by
  show (IntKind.i64.wrap _).toNat=_
  rw [hw]; omega
 rw [e1]
 show _++_++toLe 2 (leN ((xs.drop 12).take 2))++toLe 2 (leN ((xs.drop 14).take 2))++toLe 2 (leN ((xs.drop 16).take 2))=_
 rw [toLe_sub (by omega),toLe_sub (by omega),toLe_sub (by omega),toLe_sub (by omega)]
 rw [show xs.take 18=xs.take (4+(8+(2+(2+2)))) from rfl,List.take_add,List.take_add,List.take_add,List.take_add]
 simp only [List.drop_drop,List.append_assoc]
theorem sup_back {xs:List UInt8} (hl:xs.length=256) (h1:xs.take 4=sMark) (h2:leN (xs.drop 252)=crc (xs.take 252)) (hs:sOk (readS xs)=true) :
  supB (readS xs)=xs↔((xs.drop 18).take 234).all (·==0)=true:=by
 have hf:=front_of hl h1 hs
 have e252:xs.take 252=xs.take 18++(xs.drop 18).take 234:=by rw [show xs.take 252=xs.take (18+234) from rfl,List.take_add]
 constructor
 ·intro e
  have:(xs.drop 18).take 234=List.replicate 234 0:=by
   rw [<- e]
   unfold supB sHead
   rw [List.append_assoc,List.drop_append,List.drop_eq_nil_of_le (Nat.le_of_eq (sFront_len _)),sFront_len,Nat.sub_self,List.drop_zero,List.nil_append,List.take_append_of_le_length (Nat.le_of_eq List.length_replicate.symm),List.take_of_length_le (Nat.le_of_eq List.length_replicate)]
  rw [this]; exact List.all_eq_true.2 fun b hb=>by rw [(List.mem_replicate.1 hb).2]; rfl
 ·intro hz
  have hz:(xs.drop 18).take 234=List.replicate 234 0:=by
   apply List.eq_replicate_iff.2
   refine ⟨by simp; omega,fun b hb=>?_⟩
   have:=List.all_eq_true.1 hz b hb
   simpa using this
  have hh:sHead (readS xs)=xs.take 252:=by unfold sHead; rw [hf,e252,hz]
  unfold supB
  rw [hh,<- h2,toLe_leN _ (by simp; omega),List.take_append_drop]
def supPick (i:Int) (xs:List UInt8) (n:Int) (best:Sp):Sp :=
 if (supG xs).2=0/\(supG xs).1.gen % 2=i/\gSize (supG xs).1.geo<=n/\(supG xs).1.gen > best.gen then (supG xs).1 else best
def supBest (xs ys:List UInt8) (n:Int):Sp:=supPick 1 ys n (supPick 0 xs n sZ)
def supChoose (xs ys:List UInt8) (n:Int):Sp×Int×Int:=if supBest xs ys n=sZ then (sZ,0,10) else (supBest xs ys n,(supBest xs ys n).gen % 2,0)
theorem zs {pre ys:List UInt8} {n i:Nat} (hi:pre.length=i) (_hn:ys.length<=n):splice (u8L (pre++List.replicate n 0)) i (u8L ys)=u8L ((pre++ys)++List.replicate (n-ys.length) 0):=by
 subst hi
 rw [splice_u8L]
 congr 1
 rw [List.take_left' rfl,List.drop_append,List.drop_eq_nil_of_le (by omega),List.nil_append,show pre.length+ys.length-pre.length=ys.length by omega,List.drop_replicate]
theorem one_sV (s:Sp):∀ v∈sV s,v.oneCell'=true:=by
 intro v hv
 simp only [sV,gV,List.mem_cons,List.not_mem_nil,or_false] at hv
 rcases hv with rfl | rfl | rfl | rfl <;> rfl
theorem copy_str {w:World} {T S ty:TypeId} {b o i n c:Nat} {cs:List Value} {xs:List UInt8} (hT:elemN Tryz.prog T=some 1) (hd:AtU w b o cs) (hin:i+n<=cs.length) (hn:xs.length<=n) :
  ∃ w',(Builtin.copy_ #[T,S] ty #[.slice (some ⟨b,o+i,none⟩) n c,.string ⟨xs.toArray⟩]).run Tryz.prog w=.ok (.int .i64 (xs.length:Nat)) w' /\
   AtU w' b o (splice cs i (u8L xs))/\Mod (fun x=>x=b) w w'/\w'.heap.size=w.heap.size:=by
 obtain ⟨e,inf,he,hi,hk⟩:=elem_is hT
 obtain ⟨w',h1,h2,h3,h4⟩:=hd.stores (P:=Tryz.prog) (i:=i) (vs:=u8L xs) (by simp; omega) (one_u8L xs)
 refine ⟨w',?_,h2,h3,h4⟩
 have hm:Nat.min (ByteArray.size ⟨xs.toArray⟩) n=xs.length:=by
  have:(ByteArray.size ⟨xs.toArray⟩)=xs.length:=by simp [ByteArray.size]
  rw [this]; exact Nat.min_eq_left hn
 have hc:(Builtin.firstCells 1 xs.length (.string ⟨xs.toArray⟩)).run Tryz.prog w=.ok ⟨u8L xs⟩ w:=by
  have e:((ByteArray.extract ⟨xs.toArray⟩ 0 xs.length).data.map fun b:UInt8=>(Value.int .u8 b.toNat))=⟨u8L xs⟩:=by
   rw [ByteArray.extract_mk]
   simp [u8L,u8]
  simp only [Builtin.firstCells,Sem.run_pure,e]
 simp [Builtin.copy_,run_und he,Builtin.lenOf,sizeOf,typeInfo,hi,hk,hm,hc,h1,goInt]
end Go.Proofs.YtandmpcjjaabmaaGreat
end
section
open Go Go.Den Go.Proofs
namespace Go.Den
theorem getD_lt {xs:List UInt8} {k:Nat}:(xs.getD k 0).toNat<256:=(xs.getD k 0).toNat_lt
def setB (xs:List UInt8) (i:Nat):List UInt8:=xs.set (i / 8) (UInt8.ofNat ((xs.getD (i / 8) 0).toNat ||| 2 ^ (i % 8)))
theorem setB_len (xs:List UInt8) (i:Nat):(setB xs i).length=xs.length:=by simp [setB]
theorem p8 {k:Nat}:(2:Nat) ^ (k % 8)<256:=by
 have:(2:Nat) ^ (k % 8)<=2 ^ 7:=Nat.pow_le_pow_right (by omega) (by omega)
 omega
theorem setB_byte (xs:List UInt8) (i:Nat):(UInt8.ofNat ((xs.getD (i / 8) 0).toNat ||| 2 ^ (i % 8))).toNat=(xs.getD (i / 8) 0).toNat ||| 2 ^ (i % 8):=by
 have:=Nat.or_lt_two_pow (n:=8) (getD_lt (xs:=xs) (k:=i / 8)) (p8 (k:=i))
 rw [UInt8.toNat_ofNat']; omega
theorem bitB_setB {xs:List UInt8} {i j:Nat} (hi:i<8*xs.length):bitB (setB xs i) j=(bitB xs j || decide (i=j)):=by
 unfold bitB setB
 by_cases hj:i / 8=j / 8
 ·rw [<- hj,List.getD_eq_getElem?_getD,List.getElem?_set_self (by omega)]
  show (UInt8.ofNat _).toNat.testBit _=_
  rw [setB_byte,Nat.testBit_or,Nat.testBit_two_pow]
  congr 1
  exact decide_eq_decide.2 ⟨fun h=>by omega,fun h=>by rw [h]⟩
 ·rw [List.getD_eq_getElem?_getD,List.getElem?_set_ne hj,<- List.getD_eq_getElem?_getD,decide_eq_false (fun h=>hj (by rw [h])),Bool.or_false]
theorem bitB_zero {k j:Nat}:bitB (List.replicate k 0) j=false:=by
 unfold bitB
 have:(List.replicate k (0:UInt8)).getD (j / 8) 0=0:=by
  rw [List.getD_eq_getElem?_getD,List.getElem?_replicate]; split <;> rfl
 rw [this]; exact Nat.zero_testBit _
def baseB:Nat->List UInt8
 | 0=>List.replicate 16 0
 | j+1=>setB (baseB j) j
theorem baseB_len:∀ m,(baseB m).length=16
 | 0=>by simp [baseB]
 | j+1=>by rw [baseB,setB_len,baseB_len j]
theorem bitB_base:∀ {m:Nat},m<=128->∀ j,bitB (baseB m) j=decide (j<m)
 | 0,_,j=>by rw [baseB,bitB_zero]; simp
 | m+1,h,j=>by
  rw [baseB,bitB_setB (by rw [baseB_len]; omega),bitB_base (by omega) j,Bool.eq_iff_iff]
  simp; omega
def baseS (no:Int):List UInt8:=if no=0 then 3::List.replicate 7 0 else List.replicate 8 0
theorem baseS_len (no:Int):(baseS no).length=8:=by unfold baseS; split <;> simp
theorem bitB_baseS (no:Int) (j:Nat):bitB (baseS no) j=(decide (no=0)&&decide (j<2)):=by
 unfold baseS
 by_cases h:no=0
 ·rw [if_pos h,decide_eq_true h,Bool.true_and]
  have e:(3::List.replicate 7 (0:UInt8))=setB (setB (List.replicate 8 0) 0) 1:=by decide
  rw [e,bitB_setB (by rw [setB_len]; simp),bitB_setB (by simp),bitB_zero,Bool.eq_iff_iff]
  simp; omega
 ·rw [if_neg h,decide_eq_false h,bitB_zero]; rfl
structure Hd where
 no:Int
 bs:List UInt8
 ss:List UInt8
deriving DecidableEq
def hZ:Hd:=⟨0,List.replicate 16 0,List.replicate 8 0⟩
def hWf (h:Hd):Prop:=h.bs.length=16/\h.ss.length=8
def hV (h:Hd):List Value:=.int .i64 h.no::(u8L h.bs++u8L h.ss)
theorem hV_len {h:Hd} (w:hWf h):(hV h).length=25:=by
 obtain ⟨h1,h2⟩:=w
 simp [hV,h1,h2]
def hBase (g:Gm) (no:Int):Hd:=⟨no,baseB (1+(gTabs g).toNat),baseS no⟩
theorem hBase_wf (g:Gm) (no:Int):hWf (hBase g no):=⟨baseB_len _,baseS_len _⟩
def hOk (g:Gm) (h:Hd):Bool:=gOk g&&decide (0<=h.no/\h.no<g.gs) &&
 ((List.range 128).all fun i=>(!decide ((i:Int)<1+g.no / 4) || bitB h.bs i)&&(!decide (g.gr<=(i:Int)) || !bitB h.bs i)) &&
 ((List.range 64).all fun i=>(!decide (g.no<=(i:Int)) || !bitB h.ss i)&&(!decide (h.no=0/\i<2) || bitB h.ss i))
theorem hOk_iff {g:Gm} {h:Hd}:hOk g h=true↔gOk g=true/\(0<=h.no/\h.no<g.gs)/\(∀ i:Nat,i<128->((i:Int)<1+g.no / 4->bitB h.bs i=true)/\(g.gr<=(i:Int)->bitB h.bs i=false)) /\
  (∀ i:Nat,i<64->(g.no<=(i:Int)->bitB h.ss i=false)/\(h.no=0->i<2->bitB h.ss i=true)):=by
 unfold hOk
 simp only [Bool.and_eq_true,List.all_eq_true,List.mem_range,Bool.or_eq_true,Bool.not_eq_true',decide_eq_true_eq,decide_eq_false_iff_not,and_assoc]
 refine and_congr_right fun _=>and_congr_right fun _=>and_congr_right fun _=>and_congr ?_ ?_
 ·refine forall_congr' fun i=>forall_congr' fun _=>and_congr ?_ ?_
  ·by_cases h1:(i:Int)<1+g.no / 4 <;> simp [h1]
  ·by_cases h1:g.gr<=(i:Int) <;> simp [h1]
 ·refine forall_congr' fun i=>forall_congr' fun _=>and_congr ?_ ?_
  ·by_cases h1:g.no<=(i:Int) <;> simp [h1]
  ·by_cases h1:h.no=0 <;> by_cases h2:i<2 <;> simp [h1,h2]
def orB (xs ys:List UInt8):List UInt8:=xs.zipWith (fun a b=>UInt8.ofNat (a.toNat ||| b.toNat)) ys
theorem or_byte (a b:UInt8):(UInt8.ofNat (a.toNat ||| b.toNat)).toNat=a.toNat ||| b.toNat:=by
 have:=Nat.or_lt_two_pow (n:=8) a.toNat_lt b.toNat_lt
 rw [UInt8.toNat_ofNat']; omega
theorem orB_iff:∀ {xs ys:List UInt8},xs.length=ys.length->(orB xs ys=xs↔∀ i,i<8*xs.length->bitB ys i=true->bitB xs i=true)
 | [],[],_=>by simp [orB]
 | a::xs,b::ys,h=>by
  have ih:=orB_iff (xs:=xs) (ys:=ys) (by simpa using h)
  have e:orB (a::xs) (b::ys)=UInt8.ofNat (a.toNat ||| b.toNat)::orB xs ys:=rfl
  rw [e,List.cons.injEq,ih]
  have hb:∀ (c:UInt8) (zs:List UInt8) (i:Nat),bitB (c::zs) i=if i<8 then c.toNat.testBit i else bitB zs (i-8):=fun c zs i=>by
   unfold bitB
   by_cases hi:i<8
   ·rw [if_pos hi,show i / 8=0 by omega,show i % 8=i by omega]; rfl
   ·rw [if_neg hi,show i / 8=(i-8) / 8+1 by omega,show i % 8=(i-8) % 8 by omega]; rfl
  constructor
  ·rintro ⟨h1,h2⟩ i hi
   rw [hb,hb]
   by_cases h8:i<8
   ·rw [if_pos h8,if_pos h8]
    intro ht
    rw [<- h1,or_byte,Nat.testBit_or,ht,Bool.or_true]
   ·rw [if_neg h8,if_neg h8]
    simp at hi
    exact h2 (i-8) (by omega)
  ·intro hh
   constructor
   ·apply UInt8.toNat_inj.1
    rw [or_byte]
    apply Nat.eq_of_testBit_eq
    intro i
    rw [Nat.testBit_or]
    by_cases h8:i<8
    ·have:=hh i (by simp; omega)
     rw [hb,hb,if_pos h8,if_pos h8] at this
     cases ht:b.toNat.testBit i with
     | true=>rw [this ht]; rfl
     | false=>simp
    ·have:b.toNat.testBit i=false:=Nat.testBit_lt_two_pow (Nat.lt_of_lt_of_le b.toNat_lt (Nat.pow_le_pow_right (n:=2) (by omega) (by omega:8<=i)))
     rw [this,Bool.or_false]
   ·intro i hi
    have:=hh (i+8) (by simp; omega)
    rw [hb,hb,if_neg (by omega),if_neg (by omega),Nat.add_sub_cancel] at this
    exact this
 | [],_::_,h=>by cases h
 | _::_,[],h=>by cases h
theorem hOk_prog {g:Gm} {h:Hd} (hw:hWf h) (hg:gOk g=true) (hn:0<=h.no/\h.no<g.gs) :
  ((orB h.bs (hBase g h.no).bs=h.bs/\orB h.ss (hBase g h.no).ss=h.ss)/\cntB h.bs g.gr.toNat=cntB h.bs 128/\cntB h.ss g.no.toNat=cntB h.ss 64)↔hOk g h=true:=by
 have hq:=gOk_iff.1 hg
 rw [orB_iff (by rw [hw.1]; exact (baseB_len _).symm),orB_iff (by rw [hw.2]; exact (baseS_len _).symm),hw.1,hw.2,hOk_iff]
 have c1:=cntB_eq_iff (xs:=h.bs) (m:=g.gr.toNat) (k:=128-g.gr.toNat)
 have c2:=cntB_eq_iff (xs:=h.ss) (m:=g.no.toNat) (k:=64-g.no.toNat)
 rw [show g.gr.toNat+(128-g.gr.toNat)=128 by omega] at c1
 rw [show g.no.toNat+(64-g.no.toNat)=64 by omega] at c2
 rw [c1,c2]
 have e1:∀ i,bitB (hBase g h.no).bs i=decide (i<1+(gTabs g).toNat):=fun i=>bitB_base (by unfold gTabs; rw [if_pos hg]; omega) i
 have e2:∀ i,bitB (hBase g h.no).ss i=(decide (h.no=0)&&decide (i<2)):=bitB_baseS _
 have et:gTabs g=g.no / 4:=by unfold gTabs; rw [if_pos hg]
 constructor
 ·rintro ⟨⟨h1,h2⟩,h3,h4⟩
  refine ⟨hg,hn,fun i hi=>⟨fun ht=>h1 i (by omega) (by rw [e1,et]; exact decide_eq_true (by omega)),fun ht=>h3 i (by omega) hi⟩,fun i hi=>⟨fun ht=>h4 i (by omega) hi,fun hz h2'=>h2 i (by omega) (by rw [e2,decide_eq_true hz,decide_eq_true h2']; rfl)⟩⟩
 ·rintro ⟨_,_,h1,h2⟩
  refine ⟨⟨fun i hi hb=>(h1 i (by omega)).1 ?_,fun i hi hb=>?_⟩,fun i h3 h4=>(h1 i h4).2 (by omega),fun i h3 h4=>(h2 i h4).1 (by omega)⟩
  ·rw [e1,et] at hb
   have:=of_decide_eq_true hb
   omega
  ·rw [e2,Bool.and_eq_true,decide_eq_true_eq,decide_eq_true_eq] at hb
   exact (h2 i (by omega)).2 hb.1 hb.2
end Go.Den
end
section
open Go Go.Den
namespace Go.Den
inductive Kc where
 | i (k:IntKind)
 | s
 | b
deriving DecidableEq
def okc:Kc->Value->Prop
 | .i k,.int k' _=>k'=k
 | .s,.string _=>True
 | .b,.bool _=>True
 | _,_=>False
def confK (ks:List Kc) (xs:List Value):Prop:=ks.length=xs.length/\∀ (j:Nat) k v,ks[j]?=some k->xs[j]?=some v->okc k v
theorem confK.left {ks js:List Kc} {xs:List Value} (h:confK (ks++js) xs):confK ks (xs.take ks.length):=by
 obtain ⟨h1,h2⟩:=h
 rw [List.length_append] at h1
 refine ⟨by rw [List.length_take]; omega,fun j k v hk hv=>?_⟩
 have hj:=(List.getElem?_eq_some_iff.1 hk).1
 rw [List.getElem?_take,if_pos hj] at hv
 exact h2 j k v (by rw [List.getElem?_append_left hj]; exact hk) hv
theorem confK.right {ks js:List Kc} {xs:List Value} (h:confK (ks++js) xs):confK js (xs.drop ks.length):=by
 obtain ⟨h1,h2⟩:=h
 rw [List.length_append] at h1
 refine ⟨by rw [List.length_drop]; omega,fun j k v hk hv=>?_⟩
 rw [List.getElem?_drop] at hv
 exact h2 (ks.length+j) k v (by rw [List.getElem?_append_right (by omega)]; simpa using hk) hv
section
variable {P:Program}
def eqF (f : TypeId → Option (List Kc)) : List Field → Nat → Option (List Kc)
  | [], _ => some []
  | g :: r, o => if g.offset = o ∧ (g.name == "_") = false then (match f g.type with
      | some ks => (match eqF f r (o + ks.length) with | some js => some (ks ++ js) | none => none)
      | none => none) else none
def eqT (P:Program):Nat->TypeId->Option (List Kc)
 | 0,_=>none
 | d+1,t=>match P.underlying t with
  | some .bool=>some [.b]
  | some (.int k)=>some [.i k]
  | some .string=>some [.s]
  | some (.array n e)=>(match eqT P d e with
   | some ks=>if aggN P t=some (n*ks.length)/\(P.info? e).isSome=true/\P.cellsOf e=ks.length then some (List.replicate n ks).flatten else none
   | none=>none)
  | some (.struct fs)=>(match eqF (eqT P d) fs.toList 0 with
   | some ks=>if aggN P t=some ks.length/\P.stoodInHeld t=false then some ks else none
   | none=>none)
  | _=>none
def mkV (P:Program) (T:TypeId) (xs:List Value):Value:=if (aggN P T).isSome=true then .agg ⟨xs⟩ else xs.headD undef
theorem part_wide {w:World} {T n:Nat} (h:aggN P T=some n) {cs:List Value} {o:Nat}:(part T ⟨cs⟩ o).run P w=.ok (.agg ⟨(cs.drop o).take n⟩) w:=by
 obtain ⟨h1,i,hi,hin⟩:=agg_is h
 have e:(⟨cs⟩:Array Value).extract o (o+n)=⟨(cs.drop o).take n⟩:=by
  rw [List.extract_toArray,List.extract_eq_take_drop]
  simp
 simp [part,h1,sizeOf,typeInfo,hi,hin,e]
theorem aggN_none {T:TypeId} {d:TypeDesc} (h:P.underlying T=some d) (h1:∀ fs,d≠.struct fs) (h2:∀ n e,d≠.array n e):aggN P T=none:=by
 unfold aggN; rw [h]
 cases d <;> first | exact absurd rfl (h1 _) | exact absurd rfl (h2 _ _) | rfl
theorem eqT_part {w:World} {m:Nat} {t:TypeId} {ks:List Kc} (h:eqT P m t=some ks) {xs:List Value} {o:Nat} (hc:confK ks ((xs.drop o).take ks.length)):(part t ⟨xs⟩ o).run P w=.ok (mkV P t ((xs.drop o).take ks.length)) w:=by
 cases m with
 | zero=>cases h
 | succ m =>
  unfold eqT at h
  have one:∀ (dd:TypeDesc) (k:Kc),P.underlying t=some dd->(∀ fs,dd≠.struct fs)->(∀ n e,dd≠.array n e)->ks=[k]->(part t ⟨xs⟩ o).run P w=.ok (mkV P t ((xs.drop o).take ks.length)) w:=fun dd k hu n1 n2 e=>by
   subst e
   have ho:o<xs.length:=by have h1:1=((xs.drop o).take 1).length:=hc.1; rw [List.length_take,List.length_drop] at h1; omega
   have hv:xs[o]?=some xs[o]:=List.getElem?_eq_getElem ho
   generalize xs[o]=v at hv
   have e1:(xs.drop o).take [k].length=[v]:=by
    have:(xs.drop o).take 1=[v]:=by
     rw [List.take_one]; simp [List.head?_drop,hv]
    exact this
   rw [run_part1 hu n1 n2 (by simpa using hv),e1]
   unfold mkV
   rw [aggN_none hu n1 n2]; rfl
  split at h
  ·rename_i hu; exact one _ _ hu (by simp) (by simp) (Option.some.inj h).symm
  ·rename_i hu; exact one _ _ hu (by simp) (by simp) (Option.some.inj h).symm
  ·rename_i hu; exact one _ _ hu (by simp) (by simp) (Option.some.inj h).symm
  ·rename_i n e hu
   split at h
   ·rename_i js hj
    split at h
    ·rename_i hh
     have e:(List.replicate n js).flatten.length=n*js.length:=by simp
     have h:=Option.some.inj h
     subst h
     rw [part_wide hh.1,e]
     unfold mkV; rw [hh.1]; rfl
    ·cases h
   ·cases h
  ·rename_i fs hu
   split at h
   ·rename_i js hj
    split at h
    ·rename_i hh
     have h:=Option.some.inj h
     subst h
     rw [part_wide hh.1]
     unfold mkV; rw [hh.1]; rfl
    ·cases h
   ·cases h
  ·cases h
theorem cat_iff {n:Nat} {a b:List Value}:(a.take n=b.take n/\a.drop n=b.drop n)↔a=b :=
 ⟨fun h=>by rw [<- List.take_append_drop n a,<- List.take_append_drop n b,h.1,h.2],fun h=>by rw [h]; exact ⟨rfl,rfl⟩⟩
def EqK (P:Program) (dd:Nat) (t:TypeId) (ks:List Kc):Prop:=∀ (w:World) (xs ys:List Value),confK ks xs->confK ks ys->∃ r,(Op.equalIn dd t (mkV P t xs) (mkV P t ys)).run P w=.ok r w/\(r=true↔xs=ys)
theorem eqFields_at {m dd : Nat} (ih : ∀ t ks, eqT P m t = some ks → EqK P dd t ks) (w : World) : ∀ (fs : List Field) (o : Nat) (ks : List Kc) (xs ys : List Value), eqF (eqT P m) fs o = some ks → confK ks (xs.drop o) → confK ks (ys.drop o) →
    ∃ r, (Op.eqFields dd ⟨xs⟩ ⟨ys⟩ fs).run P w = .ok r w ∧ (r = true ↔ xs.drop o = ys.drop o)
  | [], o, ks, xs, ys, h, hx, hy => by
    have h := Option.some.inj h
    subst h
    have e1 : xs.drop o = [] := List.eq_nil_of_length_eq_zero hx.1.symm
    have e2 : ys.drop o = [] := List.eq_nil_of_length_eq_zero hy.1.symm
    exact ⟨true, by simp [Op.eqFields], by rw [e1, e2]; simp⟩
  | f :: r, o, ks, xs, ys, h, hx, hy => by
    unfold eqF at h
    split at h
    · rename_i hf
      obtain ⟨ho, hn⟩ := hf
      have hn : f.name ≠ "_" := by simpa using hn
      split at h
      · rename_i k1 hk1
        split at h
        · rename_i k2 hk2
          have h := Option.some.inj h
          subst h
          have p1 := eqT_part (w := w) hk1 (xs := xs) (o := o) hx.left
          have p2 := eqT_part (w := w) hk1 (xs := ys) (o := o) hy.left
          obtain ⟨b, hb, hbi⟩ := ih _ _ hk1 w _ _ hx.left hy.left
          obtain ⟨b2, hb2, hbi2⟩ := eqFields_at ih w r (o + k1.length) k2 xs ys hk2 (by rw [← List.drop_drop]; exact hx.right) (by rw [← List.drop_drop]; exact hy.right)
          rw [← List.drop_drop, ← List.drop_drop] at hbi2
          have key := cat_iff (n := k1.length) (a := xs.drop o) (b := ys.drop o)
          rw [← ho] at p1 p2 hb
          simp only [Op.eqFields, if_pos hn, Sem.run_bind, p1, p2, Result.andThen_ok, hb]
          cases b with
          | true => exact ⟨b2, by simpa using hb2, by rw [hbi2, ← key]; simp [hbi.1 rfl]⟩
          | false =>
            refine ⟨false, by simp, ?_⟩
            constructor
            · intro e; cases e
            · intro e
              have := hbi.2 (key.2 e).1
              cases this
        · cases h
      · cases h
    · cases h
theorem eqItems_at {m dd:Nat} {e:TypeId} {ks:List Kc} (hk:eqT P m e=some ks) (ih:EqK P dd e ks) (w:World):∀ (n i:Nat) (xs ys:List Value),confK (List.replicate n ks).flatten (xs.drop (i*ks.length))->confK (List.replicate n ks).flatten (ys.drop (i*ks.length)) ->
  ∃ r,(Op.eqItems dd e ks.length ⟨xs⟩ ⟨ys⟩ (List.range' i n)).run P w=.ok r w/\(r=true↔xs.drop (i*ks.length)=ys.drop (i*ks.length))
 | 0,i,xs,ys,hx,hy=>by
  have e1:xs.drop (i*ks.length)=[]:=List.eq_nil_of_length_eq_zero hx.1.symm
  have e2:ys.drop (i*ks.length)=[]:=List.eq_nil_of_length_eq_zero hy.1.symm
  exact ⟨true,by simp [Op.eqItems],by rw [e1,e2]; simp⟩
 | n+1,i,xs,ys,hx,hy=>by
  rw [List.replicate_succ,List.flatten_cons] at hx hy
  have p1:=eqT_part (w:=w) hk (xs:=xs) (o:=i*ks.length) hx.left
  have p2:=eqT_part (w:=w) hk (xs:=ys) (o:=i*ks.length) hy.left
  obtain ⟨b,hb,hbi⟩:=ih w _ _ hx.left hy.left
  have e1:∀ zs:List Value,(zs.drop (i*ks.length)).drop ks.length=zs.drop ((i+1)*ks.length):=fun zs=>by rw [List.drop_drop,Nat.add_mul,Nat.one_mul]
  obtain ⟨b2,hb2,hbi2⟩:=eqItems_at hk ih w n (i+1) xs ys (by rw [<- e1]; exact hx.right) (by rw [<- e1]; exact hy.right)
  rw [<- e1,<- e1] at hbi2
  have key:=cat_iff (n:=ks.length) (a:=xs.drop (i*ks.length)) (b:=ys.drop (i*ks.length))
  simp only [List.range'_succ,Op.eqItems,Sem.run_bind,p1,p2,Result.andThen_ok,hb]
  cases b with
  | true=>exact ⟨b2,by simpa using hb2,by rw [hbi2,<- key]; simp [hbi.1 rfl]⟩
  | false =>
   refine ⟨false,by simp,?_⟩
   constructor
   ·intro e; cases e
   ·intro e
    have:=hbi.2 (key.2 e).1
    cases this
theorem eq_at:∀ (m:Nat) (t:TypeId) (ks:List Kc),eqT P m t=some ks->∀ d,EqK P (d+m) t ks
 | 0,_,_,h,_=>by cases h
 | m+1,t,ks,h,d=>by
  intro w xs ys hx hy
  have h0:=h
  unfold eqT at h
  have one:∀ (dd:TypeDesc) (k:Kc),P.underlying t=some dd->(∀ fs,dd≠.struct fs)->(∀ n e,dd≠.array n e)->ks=[k]->(∀ u v,okc k u->okc k v->∃ r,(Op.equalIn (d+m+1) t u v).run P w=.ok r w/\(r=true↔u=v))->∃ r,(Op.equalIn (d+(m+1)) t (mkV P t xs) (mkV P t ys)).run P w=.ok r w/\(r=true↔xs=ys):=fun dd k hu n1 n2 e hk=>by
   subst e
   match xs,ys,hx,hy with
   | [u],[v],hx,hy =>
    have eu:∀ u,mkV P t [u]=u:=fun u=>by unfold mkV; rw [aggN_none hu n1 n2]; rfl
    rw [eu,eu]
    obtain ⟨r,h1,h2⟩:=hk u v (hx.2 0 k u rfl rfl) (hy.2 0 k v rfl rfl)
    exact ⟨r,h1,by rw [h2]; simp⟩
   | [],_,hx,_=>cases hx.1
   | _::_::_,_,hx,_=>have:=hx.1; simp at this
   | [_],[],_,hy=>cases hy.1
   | [_],_::_::_,_,hy=>have:=hy.1; simp at this
  split at h
  ·rename_i hu
   refine one _ _ hu (by simp) (by simp) (Option.some.inj h).symm fun u v hu' hv'=>?_
   cases u <;> first | exact hu'.elim | skip
   cases v <;> first | exact hv'.elim | skip
   exact ⟨_,run_equalIn_bool w (d+m) t _ _ hu,by simp⟩
  ·rename_i k hu
   refine one _ _ hu (by simp) (by simp) (Option.some.inj h).symm fun u v hu' hv'=>?_
   cases u <;> first | exact hu'.elim | skip
   cases v <;> first | exact hv'.elim | skip
   have e1:_=k:=hu'
   have e2:_=k:=hv'
   subst e1
   subst e2
   exact ⟨_,run_equalIn_int w (d+m) t _ _ _ _ hu,by simp⟩
  ·rename_i hu
   refine one _ _ hu (by simp) (by simp) (Option.some.inj h).symm fun u v hu' hv'=>?_
   cases u <;> first | exact hu'.elim | skip
   cases v <;> first | exact hv'.elim | skip
   refine ⟨_,run_equalIn_string w (d+m) t _ _ hu,?_⟩
   rw [beq_iff_eq]
   exact ⟨fun e=>by rw [ByteArray.toList_eq,ByteArray.toList_eq] at e; exact congrArg Value.string (ByteArray.ext (Array.toList_inj.1 e)),fun e=>by rw [Value.string.inj e]⟩
  ·rename_i n e hu
   split at h
   ·rename_i js hj
    split at h
    ·rename_i hh
     have h:=Option.some.inj h
     subst h
     have ew:∀ zs,mkV P t zs=.agg ⟨zs⟩:=fun zs=>by unfold mkV; rw [hh.1]; rfl
     obtain ⟨i,hi⟩:=Option.isSome_iff_exists.1 hh.2.1
     rw [ew,ew,show d+(m+1)=(d+m)+1 from rfl,run_equalIn_array w (d+m) ⟨xs⟩ ⟨ys⟩ hu hi,hh.2.2,List.range_eq_range']
     have:=eqItems_at hj (eq_at m e js hj d) w n 0 xs ys (by simpa using hx) (by simpa using hy)
     simpa using this
    ·cases h
   ·cases h
  ·rename_i fs hu
   split at h
   ·rename_i js hj
    split at h
    ·rename_i hh
     have h:=Option.some.inj h
     subst h
     have ew:∀ zs,mkV P t zs=.agg ⟨zs⟩:=fun zs=>by unfold mkV; rw [hh.1]; rfl
     have hf:P.fieldsOf t=fs:=by unfold Program.fieldsOf; rw [hu]
     rw [ew,ew,show d+(m+1)=(d+m)+1 from rfl,run_equalIn_struct w (d+m) t ⟨xs⟩ ⟨ys⟩ (by rw [hf]; exact hu) hh.2,hf]
     have:=eqFields_at (fun t ks hk=>eq_at m t ks hk d) w fs.toList 0 js xs ys hj (by simpa using hx) (by simpa using hy)
     simpa using this
    ·cases h
   ·cases h
  ·cases h
theorem eq_deep {T:TypeId} {ks:List Kc} {n:Nat} (h:eqT P 6 T=some ks) (hg:P.eqGuardType P.depth T=false) (hn:aggN P T=some n) {o1 o2:Operand} {xs ys:List Value} (hx:confK ks xs) (hy:confK ks ys) (w:World) :
  ∃ b,(b=true↔xs=ys)/\(eqS .eql T o1 o2 (.agg ⟨xs⟩) (.agg ⟨ys⟩)).run P w=.ok (.bool b) w/\(eqS .neq T o1 o2 (.agg ⟨xs⟩) (.agg ⟨ys⟩)).run P w=.ok (.bool (!b)) w:=by
 obtain ⟨b,h1,h2⟩:=eq_at 6 T ks h 9994 w xs ys hx hy
 have ew:∀ zs,mkV P T zs=.agg ⟨zs⟩:=fun zs=>by unfold mkV; rw [hn]; rfl
 rw [ew,ew] at h1
 refine ⟨b,h2,?_,?_⟩
 ·rw [eqS_run (fun w=>run_eqGuard_agg w _ T _ _ _ _ hg),run_eql_struct,h1]; rfl
 ·rw [eqS_run (fun w=>run_eqGuard_agg w _ T _ _ _ _ hg),run_neq_struct,h1]; rfl
end
end Go.Den
end
section
open Go Go.Den Go.Proofs
namespace Go.Den
section
variable {P:Program} {w:World}
theorem At.elt {T:TypeId} {b j i:Nat} {cs:List Value} {v:Value} (h:At w b 0 cs) (hT:scal P T=true) (hv:cs[j+i]?=some v):(Instr.loadAt T (.pointer (some (Addr.add (Addr.add ⟨b,0,none⟩ j) ((i:Int).toNat*1))))).run P w=.ok v w:=by
 rw [show (i:Int).toNat*1=i by omega]; exact h.fld2 hT hv
theorem AtU.putE {T:TypeId} {b j i:Nat} {cs:List Value} {v:Value} (h:AtU w b 0 cs) (hT:scal P T=true) (hj:j+i<cs.length) (hv:v.oneCell'=true) :
  ∃ w',(Instr.storeAt T (.pointer (some (Addr.add (Addr.add ⟨b,0,none⟩ j) ((i:Int).toNat*1)))) v).run P w=.ok () w'/\AtU w' b 0 (cs.set (j+i) v)/\Mod (fun x=>x=b) w w'/\w'.heap.size=w.heap.size:=by
 rw [show (i:Int).toNat*1=i by omega,add_none,add_none,Nat.add_assoc]; exact h.store hT hj hv
end
theorem hV_b {h:Hd} {i:Nat} (hi:i<h.bs.length):(hV h)[1+i]?=some (.int .u8 (h.bs[i].toNat:Int)):=by
 unfold hV
 rw [Nat.add_comm,List.getElem?_cons_succ,List.getElem?_append_left (by simpa using hi)]
 exact u8L_get hi
theorem hV_s {h:Hd} {i:Nat} (hb:h.bs.length=16) (hi:i<h.ss.length):(hV h)[17+i]?=some (.int .u8 (h.ss[i].toNat:Int)):=by
 unfold hV
 rw [show 17+i=(16+i)+1 by omega,List.getElem?_cons_succ,List.getElem?_append_right (by simp [hb]),length_u8L,hb,show 16+i-16=i by omega]
 exact u8L_get hi
theorem u8L_set (xs:List UInt8) (i n:Nat) (hn:n<256):(u8L xs).set i (.int .u8 (n:Int))=u8L (xs.set i (UInt8.ofNat n)):=by
 unfold u8L
 rw [List.map_set]
 congr 1
 have:(UInt8.ofNat n).toNat=n:=by rw [UInt8.toNat_ofNat']; omega
 simp [u8,this]
theorem hV_setb {h:Hd} {i n:Nat} (hi:i<h.bs.length) (hn:n<256):(hV h).set (1+i) (.int .u8 (n:Int))=hV ⟨h.no,h.bs.set i (UInt8.ofNat n),h.ss⟩:=by
 unfold hV
 rw [Nat.add_comm,List.set_cons_succ,List.set_append_left _ _ (by simpa using hi),u8L_set _ _ _ hn]
theorem hV_sets {h:Hd} {i n:Nat} (hb:h.bs.length=16) (hn:n<256):(hV h).set (17+i) (.int .u8 (n:Int))=hV ⟨h.no,h.bs,h.ss.set i (UInt8.ofNat n)⟩:=by
 unfold hV
 rw [show 17+i=(16+i)+1 by omega,List.set_cons_succ,List.set_append_right _ _ (by simp [hb]),length_u8L,hb,show 16+i-16=i by omega,u8L_set _ _ _ hn]
theorem one_hV (h:Hd):∀ v∈hV h,v.oneCell'=true:=by
 intro v hv
 unfold hV at hv
 rcases List.mem_cons.1 hv with rfl | hv
 ·rfl
 ·rcases List.mem_append.1 hv with hv | hv
  ·exact one_u8L _ v hv
  ·exact one_u8L _ v hv
end Go.Den
namespace Go.Proofs.YtandmpcjjaabmaaGreat
theorem agg_head:aggN Tryz.prog 171=some 25:=by kernel_rfl
theorem zero_head:zeroC Tryz.prog 171=some (hV hZ):=by kernel_rfl
theorem build_head0:Al (Instr.build 171 #[]) (.agg ⟨hV hZ⟩):=fun w=>by kernel_rfl
theorem build_head (n:Int):Al (Instr.build 171 #[(0,.int .i64 n)]) (.agg ⟨hV ⟨n,List.replicate 16 0,List.replicate 8 0⟩⟩):=fun w=>by kernel_rfl
theorem arr16:arrN Tryz.prog 168=some (16,1):=by kernel_rfl
theorem arr8:arrN Tryz.prog 169=some (8,1):=by kernel_rfl
theorem agg16:aggN Tryz.prog 168=some 16:=by kernel_rfl
theorem agg8:aggN Tryz.prog 169=some 8:=by kernel_rfl
theorem sc_u8:scal Tryz.prog 5=true:=by kernel_rfl
theorem hZ_wf:hWf hZ:=⟨rfl,rfl⟩
section
variable {w:World} {K:Value->World->Prop}
theorem base_c {g:Gm} {no:Int} (hk:∀ w',Mod No w w'->K (.agg ⟨hV (hBase g no)⟩) w'):Cal Tryz.prog F_group_base #[.agg ⟨gV g⟩,.int .i64 no] w K:=by
 apply C_group_base
 unfold D_group_base
 obtain ⟨w1,a1,a2,a3,a4⟩:=box_u (P:=Tryz.prog) (w:=w) (T:=39) (cs:=gV g)
 obtain ⟨w2,b1,b2,b3,b4⟩:=new_u (P:=Tryz.prog) (w:=w1) (T:=171) zero_head
 obtain ⟨w3,c1,c2,c3,c4⟩:=new_u (P:=Tryz.prog) (w:=w2) (T:=171) zero_head
 obtain ⟨w4,d1,d2,d3,d4⟩:=c2.put (T:=171) (vs:=hV ⟨no,List.replicate 16 0,List.replicate 8 0⟩) agg_head (hV_len hZ_wf) (hV_len ⟨rfl,rfl⟩) (one_hV _)
 have m24:Mod No w2 w4:=c3.own d3 (Nat.le_refl _)
 refine ⟨_,w1,a1,_,w2,b1,_,build_head no,_,w3,c1,w4,d1,_,(a2.at.keep (b3.no m24) id).all agg_geo rfl,geoTabs_c fun w5 m5=>⟨_,rfl,?_⟩⟩
 have m25:Mod No w2 w5:=m24.no m5
 have ht:0<=gTabs g/\gTabs g<=16:=by
  unfold gTabs
  split
  ·rename_i h; have:=gOk_iff.1 h; omega
  ·omega
 rw [wrap64 (x:=1+gTabs g) (by omega) (by omega)]
 refine ⟨fun x w6=>∃ i:Nat,i<=1+(gTabs g).toNat/\x=[.int .i64 i]/\AtU w6 w2.heap.size 0 (hV ⟨no,baseB i,List.replicate 8 0⟩)/\Mod No w2 w6,fun x _=>(1+(gTabs g).toNat-nI x 0).toNat,⟨0,by omega,rfl,d2.keep m5 id,m25⟩,?_⟩
 rintro x w6 ⟨i,hi,rfl,hat,m6⟩
 refine ⟨_,rfl,cond_of (fun h=>?_) (fun h=>?_)⟩
 ·have h:=of_decide_eq_true h
  have hbl:(baseB i).length=16:=baseB_len i
  have hi8:i / 8<(baseB i).length:=by omega
  rw [Int.tdiv_eq_ediv_of_nonneg (by omega),Int.tmod_eq_emod_of_nonneg (by omega),wrap64 (x:=(i:Int) / 8) (by omega) (by omega),show (i:Int) / 8=((i / 8:Nat):Int) by omega,show (i:Int) % 8=((i % 8:Nat):Int) by omega]
  refine ⟨_,index_arr arr16 (by omega) (by omega),((baseB i)[i / 8].toNat:Int),hat.at.drew.elt (j:=1) sc_u8 (hV_b hi8),_,shl8 (by omega),_,index_arr arr16 (by omega) (by omega),?_⟩
  rw [one_shl (Nat.mod_lt _ (by omega)),or_nat8 ((baseB i)[i / 8].toNat_lt) (pow8 (Nat.mod_lt _ (by omega)))]
  have hlt:=Nat.or_lt_two_pow (n:=8) ((baseB i)[i / 8].toNat_lt) (pow8 (k:=i % 8) (Nat.mod_lt _ (by omega)))
  obtain ⟨w7,p1,p2,p3,p4⟩:=hat.drew.putE (P:=Tryz.prog) (T:=5) (j:=1) (i:=i / 8) (v:=.int .u8 (((baseB i)[i / 8].toNat ||| 2 ^ (i % 8):Nat):Int)) sc_u8 (by rw [hV_len ⟨hbl,rfl⟩]; omega) rfl
  refine ⟨w7,p1,?_⟩
  rw [hV_setb hi8 hlt] at p2
  have e:(baseB i).set (i / 8) (UInt8.ofNat ((baseB i)[i / 8].toNat ||| 2 ^ (i % 8)))=baseB (i+1):=by
   rw [baseB,setB,List.getD_eq_getElem?_getD,List.getElem?_eq_getElem hi8]; rfl
  rw [e] at p2
  rw [wrap64 (x:=(i:Int)+1) (by omega) (by omega)]
  exact ⟨⟨i+1,by omega,by simp,p2,m6.drew.own p3 (Nat.le_refl _)⟩,by simp [nI,nth]; omega⟩
 ·have h:=of_decide_eq_false h
  have hi2:i=1+(gTabs g).toNat:=by omega
  subst hi2
  refine Share.cut (fun z w9=>AtU w9 w2.heap.size 0 (hV (hBase g no))/\Mod No w2 w9) ?_ ?_
  ·rw [beqI]
   refine cond_of (fun h0=>?_) (fun h0=>⟨?_,m6⟩)
   ·have h0:=of_decide_eq_true h0
    obtain ⟨w8,p1,p2,p3,p4⟩:=hat.putE (P:=Tryz.prog) (T:=5) (j:=17) (i:=0) (v:=.int .u8 ((3:Nat):Int)) sc_u8 (by rw [hV_len ⟨baseB_len _,rfl⟩]; omega) rfl
    refine ⟨_,index_arr arr8 (by omega) (by omega),w8,p1,?_,m6.own p3 (Nat.le_refl _)⟩
    rw [hV_sets (baseB_len _) (by omega)] at p2
    have e:hBase g no=⟨no,baseB (1+(gTabs g).toNat),(List.replicate 8 (0:UInt8)).set 0 (UInt8.ofNat 3)⟩:=by
     unfold hBase baseS
     rw [if_pos h0]; rfl
    rw [e]; exact p2
   ·have h0:=of_decide_eq_false h0
    have e:hBase g no=⟨no,baseB (1+(gTabs g).toNat),List.replicate 8 0⟩:=by
     unfold hBase baseS
     rw [if_neg h0]
    rw [e]; exact hat
  ·rintro z w9 ⟨h9,m9⟩
   have q4:=b2.keep m9 id
   obtain ⟨w10,e1,e2,e3,e4⟩:=q4.put (T:=171) (vs:=hV (hBase g no)) agg_head (hV_len hZ_wf) (hV_len (hBase_wf g no)) (one_hV _)
   refine ⟨_,h9.at.all agg_head (hV_len (hBase_wf g no)),w10,e1,_,e2.at.all agg_head (hV_len (hBase_wf g no)),hk w10 (a3.no ((b3.no m9).own e3 (Nat.le_refl _)))⟩
def hFresh (g:Gm) (no:Int):Hd×Int:=if gOk g=true/\0<=no/\no<g.gs then (hBase g no,0) else (hZ,1)
theorem hFresh_wf (g:Gm) (no:Int):hWf (hFresh g no).1:=by unfold hFresh; split; exact hBase_wf g no; exact hZ_wf
theorem gHead_err (g:Gm) (k:Int):(gHead g k).2=0↔gOk g=true/\0<=k/\k<g.gs:=by
 unfold gHead
 by_cases h:gOk g=true
 ·rw [if_pos h]
  by_cases h2:0<=k/\k<g.gs
  ·rw [if_pos h2]; exact ⟨fun _=>⟨h,h2⟩,fun _=>rfl⟩
  ·rw [if_neg h2]; exact ⟨fun e=>(by cases e),fun e=>absurd e.2 h2⟩
 ·rw [if_neg h]; exact ⟨fun e=>(by cases e),fun e=>absurd e.1 h⟩
theorem fresh_c {g:Gm} {no:Int} (hk:∀ w',Mod No w w'->K (.tuple #[.agg ⟨hV (hFresh g no).1⟩,.int .i64 (hFresh g no).2]) w'):Cal Tryz.prog F_group_Fresh #[.agg ⟨gV g⟩,.int .i64 no] w K:=by
 apply C_group_Fresh
 unfold D_group_Fresh
 obtain ⟨w1,a1,a2,a3,a4⟩:=box_u (P:=Tryz.prog) (w:=w) (T:=39) (cs:=gV g)
 obtain ⟨w2,b1,b2,b3,b4⟩:=new_u (P:=Tryz.prog) (w:=w1) (T:=171) zero_head
 have fin:∀ (w':World) (h:Hd) (e:Int),Mod No w2 w'->(h,e)=hFresh g no->∃ w3:World,RuU (Instr.storeAt 171 (.pointer (some ⟨w1.heap.size,0,none⟩)) (.agg ⟨hV h⟩)) w' w3/\∃ gR2:Array Value,Ru (Instr.loadAt 171 (.pointer (some ⟨w1.heap.size,0,none⟩))) w3 (.agg gR2) w3/\K (.tuple #[.agg gR2,.int .i64 e]) w3:=fun w' h e m he=>by
  have hw:hWf h:=by have:=hFresh_wf g no; rw [<- he] at this; exact this
  obtain ⟨w3,c1,c2,c3,c4⟩:=(b2.keep m id).put (T:=171) (vs:=hV h) agg_head (hV_len hZ_wf) (hV_len hw) (one_hV _)
  refine ⟨w3,c1,_,c2.at.all agg_head (hV_len hw),?_⟩
  have:=hk w3 ((a3.no (b3.no m)).own c3 a3.size)
  rw [<- he] at this
  exact this
 have hq:=a2.at.keep b3 id
 refine ⟨_,w1,a1,_,w2,b1,_,hq.all agg_geo rfl,geoHead_c fun w3 m3=>⟨_,_,rfl,?_⟩⟩
 rw [bneI]
 refine cond_of (fun h=>⟨_,build_head0,?_⟩) (fun h=>⟨_,(hq.keep m3 id).all agg_geo rfl,base_c fun w5 m5=>⟨_,rfl,?_⟩⟩)
 ·have h:=of_decide_eq_true h
  exact fin w3 hZ 1 m3 (by unfold hFresh; rw [if_neg fun e=>h ((gHead_err g no).2 e)])
 ·have h:=of_decide_eq_false h
  exact fin w5 _ 0 (m3.no m5) (by unfold hFresh; rw [if_pos ((gHead_err g no).1 (by omega))])
end
end Go.Proofs.YtandmpcjjaabmaaGreat
end
section
open Go Go.Den Go.Proofs
namespace Go.Den
theorem u8L_eqv:∀ {x y:List UInt8},u8L x=u8L y->x=y
 | [],[],_=>rfl
 | [],_::_,h=>by cases h
 | _::_,[],h=>by cases h
 | a::x,b::y,h=>by
  have h1:u8 a::u8L x=u8 b::u8L y:=h
  obtain ⟨h2,h3⟩:=List.cons.inj h1
  have h4:(a.toNat:Int)=b.toNat:=by simpa [u8] using h2
  rw [u8L_eqv h3,UInt8.toNat_inj.1 (by omega:a.toNat=b.toNat)]
theorem index_val {P:Program} {T e n:Nat} {d:TypeDesc} {k:IntKind} {cs:List Value} {i:Nat} {v:Value} (hT:P.underlying T=some (.array n e)) (hs:arrN P T=some (n,1)) (he:P.underlying e=some d) (h1:∀ fs,d≠.struct fs) (h2:∀ n e,d≠.array n e) (hi:i<n) (hv:cs[i]?=some v) (w:World) :
  (Instr.index T (.agg ⟨cs⟩) (.int k i)).run P w=.ok v w:=by
 obtain ⟨e',inf,he',hinf,hk⟩:=arr_is hs
 have:e'=e:=by rw [hT] at he'; simpa using he'.symm
 subst this
 have hp:(part e' ⟨cs⟩ i).run P w=.ok v w:=run_part1 he h1 h2 (by simpa using hv)
 simp only [Instr.index,asIntOf,Sem.run_bind,Sem.run_pure,Result.andThen_ok,run_und hT]
 rw [if_pos ⟨by omega,by omega⟩]
 simp only [Sem.run_bind,run_sizeOf hinf,Result.andThen_ok,hk]
 rw [show (i:Int).toNat*1=i by omega]
 exact hp
theorem orB_len (xs ys:List UInt8) (h:xs.length=ys.length):(orB xs ys).length=xs.length:=by simp [orB,h]
def orTo (xs ys:List UInt8) (i:Nat):List UInt8:=(orB xs ys).take i++List.replicate (xs.length-i) 0
theorem orTo_len {xs ys:List UInt8} {i:Nat} (h:xs.length=ys.length) (hi:i<=xs.length):(orTo xs ys i).length=xs.length:=by
 unfold orTo; rw [List.length_append,List.length_take,orB_len _ _ h,List.length_replicate]; omega
theorem orTo_set {xs ys:List UInt8} {i:Nat} (h:xs.length=ys.length) (hi:i<xs.length):(orTo xs ys i).set i (UInt8.ofNat (xs[i].toNat ||| (ys[i]'(by omega)).toNat))=orTo xs ys (i+1):=by
 unfold orTo
 have hl:=orB_len xs ys h
 have e:(orB xs ys)[i]'(by omega)=UInt8.ofNat (xs[i].toNat ||| (ys[i]'(by omega)).toNat):=by simp [orB]
 rw [List.set_append_right _ _ (by rw [List.length_take]; omega),List.length_take,hl,Nat.min_eq_left (by omega),Nat.sub_self,show xs.length-i=(xs.length-(i+1))+1 by omega,List.replicate_succ,List.set_cons_zero,
  List.take_succ_eq_append_getElem (by omega),e,List.append_assoc]; rfl
theorem orTo_all {xs ys:List UInt8} (h:xs.length=ys.length):orTo xs ys xs.length=orB xs ys:=by
 unfold orTo; rw [List.take_of_length_le (by rw [orB_len _ _ h]; omega),Nat.sub_self]; simp
def hFree (g:Gm) (h:Hd):Int×Int:=if hOk g h=true then (g.gr-cntB h.bs g.gr.toNat,g.no-cntB h.ss g.no.toNat) else (0,0)
end Go.Den
namespace Go.Proofs.YtandmpcjjaabmaaGreat
theorem beq16 (xs ys:List UInt8) (hx:xs.length=16) (hy:ys.length=16) {o1 o2:Operand}:Al (eqS .eql 168 o1 o2 (.agg ⟨u8L xs⟩) (.agg ⟨u8L ys⟩)) (.bool (decide (xs=ys))):=fun w=>by
 have hc:∀ xs:List UInt8,xs.length=16->confK (List.replicate 16 (.i .u8)) (u8L xs):=fun xs hx=>⟨by simp [hx],fun j k v hk hv=>by
  have e1:k=.i .u8:=by
   rw [List.getElem?_replicate] at hk
   split at hk
   ·exact (Option.some.inj hk).symm
   ·cases hk
  subst e1
  unfold u8L at hv
  rw [List.getElem?_map] at hv
  cases hx2:xs[j]? with
  | none=>rw [hx2] at hv; cases hv
  | some c=>rw [hx2] at hv; cases hv; rfl⟩
 obtain ⟨b,hb,h1,_⟩:=eq_deep (P:=Tryz.prog) (T:=168) (ks:=List.replicate 16 (.i .u8)) (by kernel_rfl) (by kernel_rfl) agg16 (o1:=o1) (o2:=o2) (hc xs hx) (hc ys hy) w
 rw [h1]
 have:b=decide (xs=ys):=by
  rw [Bool.eq_iff_iff,hb,decide_eq_true_iff]
  exact ⟨fun e=>u8L_eqv e,fun e=>by rw [e]⟩
 rw [this]
theorem beq8 (xs ys:List UInt8) (hx:xs.length=8) (hy:ys.length=8) {o1 o2:Operand}:Al (eqS .eql 169 o1 o2 (.agg ⟨u8L xs⟩) (.agg ⟨u8L ys⟩)) (.bool (decide (xs=ys))):=fun w=>by
 have hc:∀ xs:List UInt8,xs.length=8->confK (List.replicate 8 (.i .u8)) (u8L xs):=fun xs hx=>⟨by simp [hx],fun j k v hk hv=>by
  have e1:k=.i .u8:=by
   rw [List.getElem?_replicate] at hk
   split at hk
   ·exact (Option.some.inj hk).symm
   ·cases hk
  subst e1
  unfold u8L at hv
  rw [List.getElem?_map] at hv
  cases hx2:xs[j]? with
  | none=>rw [hx2] at hv; cases hv
  | some c=>rw [hx2] at hv; cases hv; rfl⟩
 obtain ⟨b,hb,h1,_⟩:=eq_deep (P:=Tryz.prog) (T:=169) (ks:=List.replicate 8 (.i .u8)) (by kernel_rfl) (by kernel_rfl) agg8 (o1:=o1) (o2:=o2) (hc xs hx) (hc ys hy) w
 rw [h1]
 have:b=decide (xs=ys):=by
  rw [Bool.eq_iff_iff,hb,decide_eq_true_iff]
  exact ⟨fun e=>u8L_eqv e,fun e=>by rw [e]⟩
 rw [this]
theorem ix16 {xs:List UInt8} {i:Nat} (hx:xs.length=16) (hi:i<xs.length):Al (Instr.index 168 (.agg ⟨u8L xs⟩) (.int .i64 i)) (.int .u8 (xs[i].toNat:Int)):=index_val Tryz.underlying168 arr16 Tryz.underlying5 (by simp) (by simp) (by omega) (u8L_get hi)
theorem ix8 {xs:List UInt8} {i:Nat} (hx:xs.length=8) (hi:i<xs.length):Al (Instr.index 169 (.agg ⟨u8L xs⟩) (.int .i64 i)) (.int .u8 (xs[i].toNat:Int)):=index_val Tryz.underlying169 arr8 Tryz.underlying5 (by simp) (by simp) (by omega) (u8L_get hi)
section
variable {w:World} {K:Value->World->Prop}
theorem At.bs {b:Nat} {h:Hd} (hw:hWf h) (hat:At w b 0 (hV h)):At w b 1 (u8L h.bs):=by
 have:=hat.sub (i:=1) (m:=16) (by rw [hV_len hw]; omega)
 have e:((hV h).drop 1).take 16=u8L h.bs:=by
  unfold hV
  rw [List.drop_succ_cons,List.drop_zero,List.take_append_of_le_length (by rw [length_u8L,hw.1]; omega),List.take_of_length_le (by rw [length_u8L,hw.1]; omega)]
 rw [e] at this
 exact this
theorem At.ss {b:Nat} {h:Hd} (hw:hWf h) (hat:At w b 0 (hV h)):At w b 17 (u8L h.ss):=by
 have:=hat.sub (i:=17) (m:=8) (by rw [hV_len hw]; omega)
 have e:((hV h).drop 17).take 8=u8L h.ss:=by
  unfold hV
  rw [show 17=16+1 from rfl,List.drop_succ_cons,List.drop_append,List.drop_eq_nil_of_le (by rw [length_u8L,hw.1]; omega),List.nil_append,length_u8L,hw.1,Nat.sub_self,List.drop_zero,List.take_of_length_le (by rw [length_u8L,hw.2]; omega)]
 rw [e] at this
 exact this
theorem hRight_c {g:Gm} {h:Hd} (hw:hWf h) (hk:∀ w',Mod No w w'->K (.bool (hOk g h)) w'):Cal Tryz.prog F_group_Right #[.agg ⟨gV g⟩,.agg ⟨hV h⟩] w K:=by
 apply C_group_Right
 unfold D_group_Right
 obtain ⟨w1,a1,a2,a3,a4⟩:=box_u (P:=Tryz.prog) (w:=w) (T:=39) (cs:=gV g)
 obtain ⟨w2,b1,b2,b3,b4⟩:=box_u (P:=Tryz.prog) (w:=w1) (T:=171) (cs:=hV h)
 have m2:=a3.no b3
 refine ⟨_,w1,a1,_,w2,b1,_,(a2.at.keep b3 id).all agg_geo rfl,_,b2.at.fld sc_int rfl,fresh_c fun w3 m3=>⟨_,_,rfl,?_⟩⟩
 obtain ⟨w4,c1,c2,c3,c4⟩:=new_u (P:=Tryz.prog) (w:=w3) (T:=171) zero_head
 obtain ⟨w5,d1,d2,d3,d4⟩:=c2.put (T:=171) (vs:=hV (hFresh g h.no).1) agg_head (hV_len hZ_wf) (hV_len (hFresh_wf _ _)) (one_hV _)
 have m5:Mod No w2 w5:=m3.no (c3.own d3 (Nat.le_refl _))
 refine ⟨_,w4,c1,w5,d1,?_⟩
 rw [bneI]
 refine cond_of (fun hh=>?_) (fun hh=>?_)
 ·have hh:=of_decide_eq_true hh
  have e:hOk g h=false:=by
   cases ho:hOk g h with
   | false=>rfl
   | true =>
    obtain ⟨h1,h2,_⟩:=hOk_iff.1 ho
    exact absurd (by unfold hFresh; rw [if_pos ⟨h1,h2⟩]) hh
  rw [<- e]; exact hk _ (m2.no m5)
 have hh:=of_decide_eq_false hh
 have hg:gOk g=true/\0<=h.no/\h.no<g.gs:=by
  by_cases hc:gOk g=true/\0<=h.no/\h.no<g.gs
  ·exact hc
  ·exfalso; apply hh; unfold hFresh; rw [if_neg hc]; decide
 have ef:(hFresh g h.no).1=hBase g h.no:=by unfold hFresh; rw [if_pos hg]
 rw [ef] at d2
 have q2:=(a2.keep b3 id).keep m5 id
 have q3:=b2.keep m5 id
 obtain ⟨w6,e1,e2,e3,e4⟩:=new_u (P:=Tryz.prog) (w:=w5) (T:=171) zero_head
 obtain ⟨w7,f1,f2,f3,f4⟩:=e2.put (T:=171) (vs:=hV ⟨h.no,List.replicate 16 0,List.replicate 8 0⟩) agg_head (hV_len hZ_wf) (hV_len ⟨rfl,rfl⟩) (one_hV _)
 have m7:Mod No w5 w7:=e3.own f3 (Nat.le_refl _)
 have q3':=q3.keep m7 id
 have hb16:((hV h).drop 1).take 16=u8L h.bs:=by
  unfold hV
  rw [List.drop_succ_cons,List.drop_zero,List.take_append_of_le_length (by rw [length_u8L,hw.1]; omega),List.take_of_length_le (by rw [length_u8L,hw.1]; omega)]
 have hs8:((hV h).drop 17).take 8=u8L h.ss:=by
  unfold hV
  rw [show 17=16+1 from rfl,List.drop_succ_cons,List.drop_append,List.drop_eq_nil_of_le (by rw [length_u8L,hw.1]; omega),List.nil_append,length_u8L,hw.1,Nat.sub_self,List.drop_zero,List.take_of_length_le (by rw [length_u8L,hw.2]; omega)]
 refine ⟨_,q3.at.fld sc_int rfl,_,build_head _,_,w6,e1,w7,f1,_,q3'.at.fldA agg16 (by rw [hV_len hw]; omega) hb16,?_⟩
 have lb:h.bs.length=(hBase g h.no).bs.length:=by rw [hw.1]; exact (baseB_len _).symm
 have ls:h.ss.length=(hBase g h.no).ss.length:=by rw [hw.2]; exact (baseS_len _).symm
 have hw1:=hw.1
 have hw2:=hw.2
 have wf1:∀ i,i<=16->hWf ⟨h.no,orTo h.bs (hBase g h.no).bs i,List.replicate 8 0⟩:=fun i hi=>⟨by rw [orTo_len lb (by omega)]; exact hw.1,rfl⟩
 refine ⟨fun x w8=>∃ i:Nat,i<=16/\x=[.int .i64 i]/\AtU w8 w5.heap.size 0 (hV ⟨h.no,orTo h.bs (hBase g h.no).bs i,List.replicate 8 0⟩)/\Mod No w5 w8,fun x _=>(16-nI x 0).toNat,⟨0,by omega,rfl,?_,m7⟩,?_⟩
 ·have:orTo h.bs (hBase g h.no).bs 0=List.replicate 16 0:=by unfold orTo; rw [List.take_zero,List.nil_append,Nat.sub_zero,hw.1]
  rw [this]; exact f2
 rintro x w8 ⟨i,hi,rfl,hat,m8⟩
 refine ⟨_,rfl,cond_of (fun hl=>?_) (fun hl=>?_)⟩
 ·have hl:=of_decide_eq_true hl
  have hi1:i<h.bs.length:=by omega
  have hi2:i<(hBase g h.no).bs.length:=by omega
  have hx:=(d2.keep m8 id)
  obtain ⟨w9,p1,p2,p3,p4⟩:=hat.putE (P:=Tryz.prog) (T:=5) (j:=1) (i:=i) (v:=.int .u8 ((h.bs[i].toNat ||| (hBase g h.no).bs[i].toNat:Nat):Int)) sc_u8 (by rw [hV_len (wf1 i hi)]; omega) rfl
  refine ⟨_,ix16 hw.1 hi1,_,index_arr arr16 (by omega) (by omega),((hBase g h.no).bs[i].toNat:Int),hx.at.elt (j:=1) sc_u8 (hV_b hi2),_,index_arr arr16 (by omega) (by omega),w9,?_,?_⟩
  ·rw [or_nat8 (h.bs[i].toNat_lt) ((hBase g h.no).bs[i].toNat_lt)]; exact p1
  ·rw [hV_setb (by rw [orTo_len lb (by omega)]; exact hi1) (Nat.or_lt_two_pow (n:=8) (h.bs[i].toNat_lt) ((hBase g h.no).bs[i].toNat_lt)),orTo_set lb hi1] at p2
   rw [wrap64 (x:=(i:Int)+1) (by omega) (by omega)]
   exact ⟨⟨i+1,by omega,by simp,p2,m8.own p3 (Nat.le_refl _)⟩,by simp [nI,nth]; omega⟩
 have hl:=of_decide_eq_false hl
 have hi16:i=16:=by omega
 subst hi16
 have eb:orTo h.bs (hBase g h.no).bs 16=orB h.bs (hBase g h.no).bs:=by rw [<- hw.1]; exact orTo_all lb
 rw [eb] at hat
 have wf2:∀ i,i<=8->hWf ⟨h.no,orB h.bs (hBase g h.no).bs,orTo h.ss (hBase g h.no).ss i⟩:=fun i hi=>⟨by rw [orB_len _ _ lb]; exact hw.1,by rw [orTo_len ls (by omega)]; exact hw.2⟩
 refine ⟨_,(q3.keep m8 id).at.fldA agg8 (by rw [hV_len hw]; omega) hs8,?_⟩
 refine ⟨fun x w10=>∃ i:Nat,i<=8/\x=[.int .i64 i]/\AtU w10 w5.heap.size 0 (hV ⟨h.no,orB h.bs (hBase g h.no).bs,orTo h.ss (hBase g h.no).ss i⟩)/\Mod No w5 w10,fun x _=>(8-nI x 0).toNat,⟨0,by omega,rfl,?_,m8⟩,?_⟩
 ·have:orTo h.ss (hBase g h.no).ss 0=List.replicate 8 0:=by unfold orTo; rw [List.take_zero,List.nil_append,Nat.sub_zero,hw.2]
  rw [this]; exact hat
 rintro x w10 ⟨i,hi,rfl,hat,m10⟩
 refine ⟨_,rfl,cond_of (fun hl=>?_) (fun hl=>?_)⟩
 ·have hl:=of_decide_eq_true hl
  have hi1:i<h.ss.length:=by omega
  have hi2:i<(hBase g h.no).ss.length:=by omega
  have hx:=(d2.keep m10 id)
  obtain ⟨w9,p1,p2,p3,p4⟩:=hat.putE (P:=Tryz.prog) (T:=5) (j:=17) (i:=i) (v:=.int .u8 ((h.ss[i].toNat ||| (hBase g h.no).ss[i].toNat:Nat):Int)) sc_u8 (by rw [hV_len (wf2 i hi)]; omega) rfl
  refine ⟨_,ix8 hw.2 hi1,_,index_arr arr8 (by omega) (by omega),((hBase g h.no).ss[i].toNat:Int),hx.at.elt (j:=17) sc_u8 (hV_s (baseB_len _) hi2),_,index_arr arr8 (by omega) (by omega),w9,?_,?_⟩
  ·rw [or_nat8 (h.ss[i].toNat_lt) ((hBase g h.no).ss[i].toNat_lt)]; exact p1
  ·rw [hV_sets (wf2 i hi).1 (Nat.or_lt_two_pow (n:=8) (h.ss[i].toNat_lt) ((hBase g h.no).ss[i].toNat_lt)),orTo_set ls hi1] at p2
   rw [wrap64 (x:=(i:Int)+1) (by omega) (by omega)]
   exact ⟨⟨i+1,by omega,by simp,p2,m10.own p3 (Nat.le_refl _)⟩,by simp [nI,nth]; omega⟩
 have hl:=of_decide_eq_false hl
 have hi8:i=8:=by omega
 subst hi8
 have es:orTo h.ss (hBase g h.no).ss 8=orB h.ss (hBase g h.no).ss:=by rw [<- hw.2]; exact orTo_all ls
 rw [es] at hat
 have wf3:hWf ⟨h.no,orB h.bs (hBase g h.no).bs,orB h.ss (hBase g h.no).ss⟩:=⟨by rw [orB_len _ _ lb]; exact hw.1,by rw [orB_len _ _ ls]; exact hw.2⟩
 have r2:=q2.keep m10 id
 have r3:=q3.keep m10 id
 have rowb:∀ w',Mod No w10 w'->Row w' (some ⟨w1.heap.size,1,none⟩) (u8L h.bs):=fun w' m=>.inr ⟨_,_,rfl,At.bs hw (r3.at.keep m id)⟩
 have rows:∀ w',Mod No w10 w'->Row w' (some ⟨w1.heap.size,17,none⟩) (u8L h.ss):=fun w' m=>.inr ⟨_,_,rfl,At.ss hw (r3.at.keep m id)⟩
 have ad1:Addr.add ⟨w1.heap.size,0,none⟩ 1=⟨w1.heap.size,1,none⟩:=by rw [add_none]
 have ad17:Addr.add ⟨w1.heap.size,0,none⟩ 17=⟨w1.heap.size,17,none⟩:=by rw [add_none]
 have md:Mod No w10 (Go.Den.drew w10):=(Mod.refl No w10).drew
 refine Share.cut (fun z w16=>Mod No w10 w16/\z=[.bool (decide (cntB h.bs g.gr.toNat=cntB h.bs 128/\cntB h.ss g.no.toNat=cntB h.ss 64))]) ?_ ?_
 ·rw [ad1,ad17]
  refine ⟨_,_,_,sliceA_all arr16,_,r2.at.drew.fld sc_int rfl,_,_,_,sliceA_all arr16,?_⟩
  refine bitCount_c (xs:=h.bs) hw.1 (rowb _ md) (by omega) fun w12 m12=>⟨_,rfl,?_⟩
  have M12:=md.no m12
  refine bitCount_c (xs:=h.bs) (n:=128) hw.1 (rowb _ M12) (by omega) fun w13 m13=>⟨_,rfl,?_⟩
  have M13:=M12.no m13
  rw [show Int.toNat 128=128 from rfl,beqI]
  refine cond_of (fun hc=>⟨_,_,_,sliceA_all arr8,_,(r2.keep M13 id).at.fld sc_int rfl,_,_,_,sliceA_all arr8,?_⟩) (fun hc=>⟨M13,?_⟩)
  ·have hc:=of_decide_eq_true hc
   refine bitCount_c (xs:=h.ss) hw.2 (rows _ M13) (by omega) fun w14 m14=>⟨_,rfl,?_⟩
   refine bitCount_c (xs:=h.ss) (n:=64) hw.2 (rows _ (M13.no m14)) (by omega) fun w15 m15=>⟨_,rfl,M13.no (m14.no m15),?_⟩
   rw [show Int.toNat 64=64 from rfl,beqI]
   have hc':cntB h.bs g.gr.toNat=cntB h.bs 128:=by omega
   by_cases hE:cntB h.ss g.no.toNat=cntB h.ss 64
   ·rw [decide_eq_true (show ((cntB h.ss g.no.toNat:Nat):Int)=((cntB h.ss 64:Nat):Int) by rw [hE]),decide_eq_true (show _/\_ from ⟨hc',hE⟩)]
   ·rw [decide_eq_false (show ¬ ((cntB h.ss g.no.toNat:Nat):Int)=((cntB h.ss 64:Nat):Int) by omega),decide_eq_false fun e=>hE e.2]
  ·have hc:=of_decide_eq_false hc
   rw [decide_eq_false fun e=>hc (by have:=e.1; omega)]
 rintro z w16 ⟨m16,rfl⟩
 have s2:=r3.keep m16 id
 have s7:=hat.keep m16 id
 have hb16':((hV ⟨h.no,orB h.bs (hBase g h.no).bs,orB h.ss (hBase g h.no).ss⟩).drop 1).take 16=u8L (orB h.bs (hBase g h.no).bs):=by
  unfold hV
  rw [List.drop_succ_cons,List.drop_zero,List.take_append_of_le_length (by rw [length_u8L]; exact Nat.le_of_eq wf3.1.symm),List.take_of_length_le (by rw [length_u8L]; exact Nat.le_of_eq wf3.1)]
 have hs8':((hV ⟨h.no,orB h.bs (hBase g h.no).bs,orB h.ss (hBase g h.no).ss⟩).drop 17).take 8=u8L (orB h.ss (hBase g h.no).ss):=by
  unfold hV
  rw [show 17=16+1 from rfl,List.drop_succ_cons,List.drop_append,List.drop_eq_nil_of_le (by rw [length_u8L]; exact Nat.le_of_eq wf3.1),List.nil_append,length_u8L,wf3.1,Nat.sub_self,List.drop_zero,List.take_of_length_le (by rw [length_u8L]; exact Nat.le_of_eq wf3.2)]
 have M:=(m2.no m5).no (m10.no m16)
 have fin:∀ b:Bool,(b=true↔(orB h.bs (hBase g h.no).bs=h.bs/\orB h.ss (hBase g h.no).ss=h.ss)/\cntB h.bs g.gr.toNat=cntB h.bs 128/\cntB h.ss g.no.toNat=cntB h.ss 64)->K (.bool b) w16:=fun b hb=>by
  have e:b=hOk g h:=by rw [Bool.eq_iff_iff,hb]; exact hOk_prog hw hg.1 hg.2
  rw [e]; exact hk _ M
 refine Share.dup ⟨_,s7.at.fldA agg16 (by rw [hV_len wf3]; omega) hb16',_,s2.at.fldA agg16 (by rw [hV_len hw]; omega) hb16,_,beq16 _ _ wf3.1 hw.1,cond_of (fun h1=>⟨_,s7.at.fldA agg8 (by rw [hV_len wf3]; omega) hs8',_,s2.at.fldA agg8 (by rw [hV_len hw]; omega) hs8,_,beq8 _ _ wf3.2 hw.2,cond_of (fun h2=>⟨_,rfl,_,rfl,fin _ ?_⟩) (fun h2=>⟨_,rfl,fin _ ?_⟩)⟩) (fun h1=>⟨_,rfl,fin _ ?_⟩)⟩
 ·have h1:=of_decide_eq_true h1
  have h2:=of_decide_eq_true h2
  rw [decide_eq_true_iff]
  exact ⟨fun e=>⟨⟨h1,h2⟩,e⟩,fun e=>e.2⟩
 ·have h2:=of_decide_eq_false h2
  exact ⟨fun e=>(by cases e),fun e=>absurd e.1.2 h2⟩
 ·have h1:=of_decide_eq_false h1
  exact ⟨fun e=>(by cases e),fun e=>absurd e.1.1 h1⟩
end
end Go.Proofs.YtandmpcjjaabmaaGreat
end
section
open Go Go.Den Go.Proofs
namespace Go.Proofs.YtandmpcjjaabmaaGreat
theorem agg_sup:aggN Tryz.prog 158=some 4:=by kernel_rfl
theorem zero_sup:zeroC Tryz.prog 158=some (sV sZ):=by kernel_rfl
theorem build_sup0:Al (Instr.build 158 #[]) (.agg ⟨sV sZ⟩):=fun w=>by kernel_rfl
theorem build_sup (n:Int) (g:Gm):Al (Instr.build 158 #[(0,.int .i64 n),(1,.agg ⟨gV g⟩)]) (.agg ⟨sV ⟨n,g⟩⟩):=fun w=>by kernel_rfl
theorem build_geo3 (a b c:Int):Al (Instr.build 39 #[(0,.int .i64 a),(1,.int .i64 b),(2,.int .i64 c)]) (.agg ⟨gV ⟨a,b,c⟩⟩):=fun w=>by kernel_rfl
theorem mix_sup:bytesT Tryz.prog 55 9=true:=by kernel_rfl
section
variable {w:World} {K:Value->World->Prop}
theorem supRight_c {s:Sp} (hk:∀ w',Mod No w w'->K (.bool (sOk s)) w'):Cal Tryz.prog F_super_Super_right #[.agg ⟨sV s⟩] w K:=by
 apply C_super_Super_right
 unfold D_super_Super_right
 obtain ⟨w1,a1,a2,a3,a4⟩:=box_u (P:=Tryz.prog) (w:=w) (T:=158) (cs:=sV s)
 have l0:Ru (Instr.loadAt 2 (.pointer (some (Addr.add ⟨w.heap.size,0,none⟩ 0)))) w1 (.int .i64 s.gen) w1:=a2.at.fld sc_i64 rfl
 have no:¬ (1<=s.gen/\s.gen<=4611686018427387904)->false=sOk s:=fun h=>by unfold sOk; rw [decide_eq_false h]; rfl
 refine ⟨_,w1,a1,Share.dup ⟨_,l0,cond_of (fun h=>⟨_,l0,cond_of (fun h2=>⟨_,a2.at.fldA (n:=3) (vs:=gV s.geo) agg_geo (by simp [sV,gV]) rfl,geoRight_c fun w2 m2=>⟨_,rfl,_,rfl,?_⟩⟩) (fun h2=>⟨_,rfl,?_⟩)⟩) (fun h=>⟨_,rfl,?_⟩)⟩⟩
 ·have h:=of_decide_eq_true h
  have h2:=of_decide_eq_true h2
  have e:gOk s.geo=sOk s:=by unfold sOk; rw [decide_eq_true ⟨h,h2⟩]; rfl
  rw [e]; exact hk _ (a3.no m2)
 ·rw [no fun e=>of_decide_eq_false h2 e.2]; exact hk _ a3
 ·rw [no fun e=>of_decide_eq_false h e.1]; exact hk _ a3
theorem supPlace_c {s:Sp} (h0:0<=s.gen) (hk:∀ w',Mod No w w'->K (.int .i64 (s.gen % 2)) w'):Cal Tryz.prog F_super_Super_place #[.agg ⟨sV s⟩] w K:=by
 apply C_super_Super_place
 unfold D_super_Super_place
 obtain ⟨w1,a1,a2,a3,a4⟩:=box_u (P:=Tryz.prog) (w:=w) (T:=158) (cs:=sV s)
 refine ⟨_,w1,a1,_,a2.at.fld sc_i64 rfl,?_⟩
 rw [Int.tmod_eq_emod_of_nonneg h0]; exact hk _ a3
theorem putz {b n i m l c:Nat} {pre:List UInt8} {v:Int} {K:Value->World->Prop} (hat:AtU w b 0 (u8L (pre++List.replicate n 0))) (hi:pre.length=i) (hm:m<=n) (hl:l=m) (hv0:0<=v) (hv:v<=18446744073709551615) (h63:m<=9223372036854775807)
  (hk:∀ w',Mod (fun x=>x=b) w w'->w'.heap.size=w.heap.size->AtU w' b 0 (u8L ((pre++toLe m v.toNat)++List.replicate (n-m) 0))->K (.tuple #[]) w') :
  Cal Tryz.prog F_num_Put #[.slice (some ⟨b,0+i*1,none⟩) l c,.int .u64 (IntKind.u64.wrap v)] w K:=by
 obtain ⟨k,rfl⟩:∃ k:Nat,v=k:=⟨v.toNat,by omega⟩
 subst hl
 rw [wrapU64 hv0 hv,Nat.mul_one]
 refine Put_c hat (by simp; omega) h63 fun w' h1 h2 h3=>hk w' h1 h3 ?_
 have:=zs (pre:=pre) (ys:=toLe l k) (n:=n) hi (by simp; omega)
 rw [length_toLe] at this
 rw [this] at h2
 exact h2
theorem supPut_c {s:Sp} (h1:sOk s=false->∀ w',Mod No w w'->K (.tuple #[.slice none 0 0,.int .i64 1]) w')
  (h2:sOk s=true->∀ w' q,Mod No w w'->w.heap.size<=q->AtU w' q 0 (u8L (supB s))->K (.tuple #[.slice (some ⟨q,0,none⟩) 256 256,.int .i64 0]) w'):Cal Tryz.prog F_super_Put #[.agg ⟨sV s⟩] w K:=by
 apply C_super_Put
 unfold D_super_Put
 obtain ⟨w1,a1,a2,a3,a4⟩:=box_u (P:=Tryz.prog) (w:=w) (T:=158) (cs:=sV s)
 refine ⟨_,w1,a1,_,a2.at.all agg_sup rfl,supRight_c fun w2 m2=>⟨_,rfl,cond_of (fun h=>h1 (by simpa using h) _ (a3.no m2)) (fun h=>?_)⟩⟩
 have hs:sOk s=true:=by simpa using h
 obtain ⟨⟨hg1,hg2⟩,hgeo⟩:=sOk_iff.1 hs
 have hg:=gOk_iff.1 hgeo
 have hA:arrN Tryz.prog 223=some (256,1):=by kernel_rfl
 obtain ⟨w3,b1,b2,b3,b4⟩:=new_u (P:=Tryz.prog) (w:=w2) (T:=223) (cs:=u8L ([]++List.replicate 256 0)) (by kernel_rfl)
 obtain ⟨w4,c1,c2,c3,c4⟩:=copy_str (T:=55) (S:=9) (ty:=3) (i:=0) (n:=256) (c:=256) (xs:=sMark) (by kernel_rfl) b2 (by rw [length_u8L,List.length_append,List.length_replicate]; exact Nat.le_refl _) (by simp [sMark])
 rw [zs (pre:=[]) (i:=0) rfl (by simp [sMark])] at c2
 refine ⟨_,w3,b1,_,_,_,sliceA_all hA,_,w4,c1,?_⟩
 have hq0:=(a2.at.keep (m2.no b3) id)
 have ne:¬ (w.heap.size=w2.heap.size):=by have:=m2.size; omega
 have q4:=hq0.keep c3 (fun e=>ne e)
 have M4:Mod No w2 w4:=b3.own c3 (Nat.le_refl _)
 refine ⟨_,_,_,sliceA_lh hA (by omega) (by omega) (by omega) (by omega),_,q4.drew.fld sc_i64 rfl,?_⟩
 refine putz (m:=8) c2.drew rfl (by simp [sMark]) rfl (by omega) (by omega) (by omega) fun w5 m5 z5 d5=>⟨rfl,?_⟩
 have q5:=q4.drew.keep m5 (fun e=>ne e)
 have M5:=M4.drew.own m5 (Nat.le_refl _)
 refine ⟨_,_,_,sliceA_lh hA (by omega) (by omega) (by omega) (by omega),_,q5.drew.fld2 sc_int rfl,?_⟩
 refine putz (m:=2) d5.drew (by simp [sMark]) (by simp [sMark]) rfl (by omega) (by omega) (by omega) fun w6 m6 z6 d6=>⟨rfl,?_⟩
 have q6:=q5.drew.keep m6 (fun e=>ne e)
 have M6:=M5.drew.own m6 (Nat.le_refl _)
 refine ⟨_,_,_,sliceA_lh hA (by omega) (by omega) (by omega) (by omega),_,q6.drew.fld2 sc_int rfl,?_⟩
 refine putz (m:=2) d6.drew (by simp [sMark]) (by simp [sMark]) rfl (by omega) (by omega) (by omega) fun w7 m7 z7 d7=>⟨rfl,?_⟩
 have q7:=q6.drew.keep m7 (fun e=>ne e)
 have M7:=M6.drew.own m7 (Nat.le_refl _)
 refine ⟨_,_,_,sliceA_lh hA (by omega) (by omega) (by omega) (by omega),_,q7.drew.fld2 sc_int rfl,?_⟩
 refine putz (m:=2) d7.drew (by simp [sMark]) (by simp [sMark]) rfl (by omega) (by omega) (by omega) fun w8 m8 z8 d8=>⟨rfl,?_⟩
 have M8:=M7.drew.own m8 (Nat.le_refl _)
 have e8:(sMark++toLe 8 s.gen.toNat++toLe 2 s.geo.gr.toNat++toLe 2 s.geo.no.toNat++toLe 2 s.geo.gs.toNat)++List.replicate (256-sMark.length-8-2-2-2) 0=sHead s++List.replicate 4 (0:UInt8):=by
  unfold sHead sFront
  rw [List.append_assoc _ (List.replicate 234 0),List.replicate_append_replicate]; rfl
 have d8':AtU w8 w2.heap.size 0 (u8L (sHead s++List.replicate 4 0)):=by rw [<- e8]; exact d8
 refine ⟨_,_,_,sliceA_l hA (by omega) (by omega),_,_,_,sliceA_h hA (by omega) (by omega),?_⟩
 have hrow:Row (Go.Den.drew w8) (some ⟨w2.heap.size,0,none⟩) (u8L (sHead s)):=.inr ⟨_,_,rfl,by
  have:=d8'.at.drew.sub (i:=0) (m:=252) (by rw [length_u8L,List.length_append,sHead_len]; simp)
  rw [List.drop_zero,u8L_append,List.take_append_of_le_length (Nat.le_of_eq ((length_u8L _).trans (sHead_len s)).symm),List.take_of_length_le (Nat.le_of_eq ((length_u8L _).trans (sHead_len s)))] at this
  exact this⟩
 refine nSum_c (xs:=sHead s) (sHead_len s) hrow (by omega) fun w9 m9=>⟨_,rfl,?_⟩
 have hc:=crc_lt (sHead s)
 refine putz (m:=4) (d8'.drew.keep m9 id) (sHead_len s) (by omega) rfl (by omega) (by omega) (by omega) fun w10 m10 z10 d10=>⟨rfl,_,_,_,sliceA_all hA,?_⟩
 have M10:=(M8.drew.no m9).own m10 (Nat.le_refl _)
 refine h2 hs _ _ (a3.no (m2.no M10)) (Nat.le_trans (by omega) m2.size) ?_
 have e:supB s=sHead s++toLe 4 ((crc (sHead s):Nat):Int).toNat++List.replicate (4-4) 0:=by simp [supB]
 rw [e]; exact d10
end
end Go.Proofs.YtandmpcjjaabmaaGreat
end
section
open Go Go.Den Go.Proofs
namespace Go.Proofs.YtandmpcjjaabmaaGreat
theorem sMark_sB:(⟨#[76,86,69,69]⟩:ByteArray)=⟨sMark.toArray⟩:=rfl
theorem beq_toList (x y:List UInt8):(ByteArray.toList ⟨x.toArray⟩==ByteArray.toList ⟨y.toArray⟩)=decide (x=y):=by
 rw [ByteArray.toList_mk,ByteArray.toList_mk,Bool.eq_iff_iff,beq_iff_eq,decide_eq_true_iff]
theorem elemN_bytes:elemN Tryz.prog 55=some 1:=by kernel_rfl
theorem sc_bytes:scal Tryz.prog 55=true:=by kernel_rfl
section
variable {w:World} {K:Value->World->Prop}
theorem short_c {a:Option Addr} {l c q:Nat} {xs:List UInt8} {at':Nat} {v:Value} (hl:xs.length=l) (hc:l<=c) (hr:Row w a (u8L xs)) (hb:AtU w q 0 [.slice a l c]) (hi:at'+2<=l) (h63:l<=1048576)
  (hv:v=.func (.func F_super_Get_1) #[] #[.pointer (some ⟨q,0,none⟩)]) (hk:K (.int .i64 (leN ((xs.drop at').take 2):Int)) w):Dyn Tryz.prog v #[.int .i64 at'] w K:=by
 refine ⟨_,_,_,hv,?_⟩
 show Cal Tryz.prog F_super_Get_1 #[.int .i64 at',.pointer (some ⟨q,0,none⟩)] w K
 apply C_super_Get_1
 unfold D_super_Get_1
 rw [wrap64 (x:=(at':Int)+2) (by omega) (by omega)]
 refine ⟨_,_,_,hb.at.one sc_bytes,_,_,_,slice_lh elemN_bytes (by omega) (by omega) (by omega),?_⟩
 have e1:(at':Int).toNat=at':=by omega
 have e2:((at':Int)+2).toNat-at'=2:=by omega
 rw [e1,e2]
 have hn:leN ((xs.drop at').take 2)<256 ^ 2:=leN_sub (by omega)
 refine Get_c (xs:=(xs.drop at').take 2) (by simp; omega) (hr.cut (by omega) (by omega)) (by omega) ⟨_,rfl,?_⟩
 rw [List.take_of_length_le (by simp; omega),wrap64 (by omega) (by omega)]
 exact hk
theorem supGet_c {a:Option Addr} {l c:Nat} {xs:List UInt8} (hl:xs.length=l) (hc:l<=c) (hr:Row w a (u8L xs)) (h63:l<=1048576)
  (hk:∀ w',Mod No w w'->K (.tuple #[.agg ⟨sV (supG xs).1⟩,.int .i64 (supG xs).2]) w'):Cal Tryz.prog F_super_Get #[.slice a l c] w K:=by
 apply C_super_Get
 unfold D_super_Get
 obtain ⟨w1,a1,a2,a3,a4⟩:=box_v (P:=Tryz.prog) (w:=w) (T:=55) (v:=.slice a l c) rfl
 obtain ⟨w2,b1,b2,b3,b4⟩:=new_u (P:=Tryz.prog) (w:=w1) (T:=158) zero_sup
 have m2:=a3.no b3
 have q2:=a2.keep b3 id
 have fin:∀ (w':World) (s:Sp) (e:Int),Mod No w2 w'->(s,e)=supG xs->∃ w3:World,RuU (Instr.storeAt 158 (.pointer (some ⟨w1.heap.size,0,none⟩)) (.agg ⟨sV s⟩)) w' w3/\∃ gR2:Array Value,Ru (Instr.loadAt 158 (.pointer (some ⟨w1.heap.size,0,none⟩))) w3 (.agg gR2) w3/\K (.tuple #[.agg gR2,.int .i64 e]) w3:=fun w' s e m he=>by
  obtain ⟨w3,c1,c2,c3,c4⟩:=(b2.keep m id).put (T:=158) (vs:=sV s) agg_sup rfl rfl (one_sV s)
  refine ⟨w3,c1,_,c2.at.all agg_sup rfl,?_⟩
  have:=hk w3 ((m2.no m).own c3 a3.size)
  rw [<- he] at this
  exact this
 refine ⟨_,w1,a1,_,w2,b1,_,_,_,q2.at.one sc_bytes,cond_of (fun h=>⟨_,build_sup0,?_⟩) (fun h=>?_)⟩
 ·rw [bneI] at h
  have h:=of_decide_eq_true h
  exact fin w2 sZ 4 (Mod.refl _ _) (by unfold supG; rw [if_pos (by omega)])
 rw [bneI] at h
 have hl2:xs.length=256:=by have:=of_decide_eq_false h; omega
 have hl':l=256:=by omega
 subst hl'
 have hr2:=hr.nos m2
 refine ⟨_,_,_,q2.at.one sc_bytes,_,_,_,slice_h elemN_bytes (by omega) (by omega),_,str_run (xs:=(xs.drop 0).take 4) mix_sup (hr2.cut (by omega) (by omega)) (by simp; omega),?_⟩
 rw [List.drop_zero,sMark_sB,beq_toList]
 refine cond_of (fun h=>⟨_,build_sup0,?_⟩) (fun h=>?_)
 ·have h:xs.take 4≠sMark:=by simpa using h
  exact fin w2 sZ 8 (Mod.refl _ _) (by unfold supG; rw [if_neg (by omega),if_pos h])
 have h4:xs.take 4=sMark:=by simpa using h
 refine ⟨_,_,_,q2.drew.at.one sc_bytes,_,_,_,slice_l elemN_bytes (by omega) (by omega),_,_,_,q2.drew.at.one sc_bytes,_,_,_,slice_h elemN_bytes (by omega) (by omega),?_⟩
 have hs4:leN ((xs.drop 252).take 4)<256 ^ 4:=leN_sub (by omega)
 have e252:(xs.drop 252).take 4=xs.drop 252:=List.take_of_length_le (by simp; omega)
 have hr2d:Row (Go.Den.drew w2) a (u8L xs):=hr.nos m2.drew
 refine Get_c (xs:=(xs.drop 252).take 4) (by simp; omega) (hr2d.cut (by omega) (by omega)) (by omega) ⟨_,rfl,q2.drew.at.one sc_bytes,?_⟩
 refine nSum_c (xs:=(xs.drop 0).take 252) (by simp; omega) (hr2d.cut (by omega) (by omega)) (by omega) fun w6 m6=>⟨_,rfl,?_⟩
 have m6':Mod No w2 w6:=(Mod.refl No w2).drew.no m6
 have q6:=q2.keep m6' id
 have hc0:=crc_lt ((xs.drop 0).take 252)
 rw [wrapU64 (by omega) (by omega),List.take_of_length_le (i:=8) (by simp; omega),e252,List.drop_zero,bneI]
 rw [List.drop_zero] at hc0
 rw [e252] at hs4
 refine cond_of (fun h=>⟨_,build_sup0,?_⟩) (fun h=>?_)
 ·have h:=of_decide_eq_true h
  exact fin w6 sZ 7 m6' (by unfold supG; rw [if_neg (by omega),if_neg (by simpa using h4),if_pos (by omega)])
 have hsum:leN (xs.drop 252)=crc (xs.take 252):=by have:=of_decide_eq_false h; omega
 have hr6:=hr2.nos m6'
 refine ⟨_,_,_,q6.at.one sc_bytes,_,_,_,slice_lh elemN_bytes (by omega) (by omega) (by omega),?_⟩
 refine Get_c (xs:=(xs.drop 4).take 8) (by simp; omega) (hr6.cut (by omega) (by omega)) (by omega) ⟨_,rfl,?_⟩
 rw [List.take_of_length_le (i:=8) (by simp; omega)]
 refine short_c (at':=12) (xs:=xs) (by omega) hc hr6 q6 (by omega) (by omega) rfl ⟨_,rfl,?_⟩
 refine short_c (at':=14) (xs:=xs) (by omega) hc hr6 q6 (by omega) (by omega) rfl ⟨_,rfl,?_⟩
 refine short_c (at':=16) (xs:=xs) (by omega) hc hr6 q6 (by omega) (by omega) rfl ⟨_,rfl,?_⟩
 refine ⟨_,build_geo3 _ _ _,_,build_sup _ _,?_⟩
 obtain ⟨w12,d1,d2,d3,d4⟩:=new_u (P:=Tryz.prog) (w:=w6) (T:=158) zero_sup
 obtain ⟨w13,e1,e2,e3,e4⟩:=d2.put (T:=158) (vs:=sV (readS xs)) agg_sup rfl rfl (one_sV _)
 have m13:Mod No w6 w13:=d3.own e3 (Nat.le_refl _)
 refine ⟨_,w12,d1,w13,e1,_,e2.at.all agg_sup rfl,supRight_c fun w14 m14=>⟨_,rfl,cond_of (fun h=>⟨_,build_sup0,?_⟩) (fun h=>?_)⟩⟩
 ·exact fin w14 sZ 1 (m6'.no (m13.no m14)) (by unfold supG; rw [if_neg (by omega),if_neg (by simpa using h4),if_neg (by omega),if_pos (by simpa using h)])
 have hok:sOk (readS xs)=true:=by simpa using h
 have m14':Mod No w2 w14:=m6'.no (m13.no m14)
 refine ⟨_,_,_,(q2.keep m14' id).at.one sc_bytes,_,_,_,slice_lh elemN_bytes (by omega) (by omega) (by omega),?_⟩
 refine nZero_c (xs:=(xs.drop 18).take 234) (by simp; omega) ((hr2.nos m14').cut (by omega) (by omega)) (by omega) ⟨_,rfl,cond_of (fun h=>⟨_,build_sup0,?_⟩) (fun h=>⟨_,(e2.keep m14 id).at.all agg_sup rfl,?_⟩)⟩
 ·exact fin w14 sZ 8 m14' (by unfold supG; rw [if_neg (by omega),if_neg (by simpa using h4),if_neg (by omega),if_neg (by rw [hok]; simp),if_pos (by simpa using h)])
 ·exact fin w14 (readS xs) 0 m14' (by unfold supG; rw [if_neg (by omega),if_neg (by simpa using h4),if_neg (by omega),if_neg (by rw [hok]; simp),if_neg (by simpa using h)])
theorem build_two (a a':Option Addr) (l c l' c':Nat):Al (Instr.build 240 #[(0,.slice a l c),(1,.slice a' l' c')]) (.agg ⟨[.slice a l c,.slice a' l' c']⟩):=fun w=>by kernel_rfl
theorem two_0 (a a':Option Addr) (l c l' c':Nat):Al (Instr.index 240 (.agg ⟨[.slice a l c,.slice a' l' c']⟩) (.int .i64 0)) (.slice a l c):=fun w=>by kernel_rfl
theorem two_1 (a a':Option Addr) (l c l' c':Nat):Al (Instr.index 240 (.agg ⟨[.slice a l c,.slice a' l' c']⟩) (.int .i64 1)) (.slice a' l' c'):=fun w=>by kernel_rfl
theorem seq (s t:Sp) {o1 o2:Operand}:∃ b,(b=true↔s=t)/\Al (eqS .eql 158 o1 o2 (.agg ⟨sV s⟩) (.agg ⟨sV t⟩)) (.bool b):=by
 refine ⟨decide (s=t),decide_eq_true_iff,fun w=>?_⟩
 have hc:∀ s:Sp,confK [.i .i64,.i .i64,.i .i64,.i .i64] (sV s):=fun s=>⟨rfl,fun j k v hk hv=>by
  match j with
  | 0=>cases hk; cases hv; rfl
  | 1=>cases hk; cases hv; rfl
  | 2=>cases hk; cases hv; rfl
  | 3=>cases hk; cases hv; rfl
  | j+4=>cases hk⟩
 obtain ⟨b,hb,h1,_⟩:=eq_deep (P:=Tryz.prog) (T:=158) (by kernel_rfl) (by kernel_rfl) agg_sup (o1:=o1) (o2:=o2) (hc s) (hc t) w
 rw [h1]
 have:b=decide (s=t):=by
  rw [Bool.eq_iff_iff,hb,decide_eq_true_iff]
  obtain ⟨g,a,b,c⟩:=s
  obtain ⟨g',a',b',c'⟩:=t
  simp [sV,gV]
 rw [this]
theorem pick_gen {i n:Int} {xs:List UInt8} {b:Sp} (hb:0<=b.gen):0<=(supPick i xs n b).gen:=by
 unfold supPick
 split
 ·rename_i h; omega
 ·exact hb
def bestTo (xs ys:List UInt8) (n:Int):Nat->Sp
 | 0=>sZ
 | 1=>supPick 0 xs n sZ
 | _=>supBest xs ys n
theorem supChoose_c {a1 a2:Option Addr} {l1 l2 c1 c2:Nat} {xs ys:List UInt8} {n:Int} (hl1:xs.length=l1) (hc1:l1<=c1) (hr1:Row w a1 (u8L xs)) (h631:l1<=1048576) (hl2:ys.length=l2) (hc2:l2<=c2) (hr2:Row w a2 (u8L ys)) (h632:l2<=1048576)
  (hk:∀ w',Mod No w w'->K (.tuple #[.agg ⟨sV (supChoose xs ys n).1⟩,.int .i64 (supChoose xs ys n).2.1,.int .i64 (supChoose xs ys n).2.2]) w'):Cal Tryz.prog F_super_Choose #[.slice a1 l1 c1,.slice a2 l2 c2,.int .i64 n] w K:=by
 apply C_super_Choose
 unfold D_super_Choose
 obtain ⟨w1,x1,x2,x3,x4⟩:=new_u (P:=Tryz.prog) (w:=w) (T:=158) zero_sup
 obtain ⟨w2,y1,y2,y3,y4⟩:=new_u (P:=Tryz.prog) (w:=w1) (T:=158) zero_sup
 obtain ⟨w3,z1,z2,z3,z4⟩:=y2.put (T:=158) (vs:=sV sZ) agg_sup rfl rfl (one_sV _)
 have m3:Mod No w1 w3:=y3.own z3 (Nat.le_refl _)
 have m03:Mod No w w3:=x3.no m3
 have ne:w.heap.size<w1.heap.size:=by omega
 refine ⟨_,w1,x1,_,build_sup0,_,w2,y1,w3,z1,_,build_two _ _ _ _ _ _,?_⟩
 have round:∀ (i:Nat) (a:Option Addr) (l c:Nat) (xs:List UInt8) (b:Sp) (w4:World) (R:List Value->World->Prop),i<2->xs.length=l->l<=c->Row w a (u8L xs)->l<=1048576->0<=b.gen->AtU w4 w1.heap.size 0 (sV b)->Mod No w1 w4 ->
   (∀ w' y,AtU w' w1.heap.size 0 (sV (supPick i xs n b))->Mod No w1 w'->R [.int .i64 ((i+1:Nat):Int),y] w')->Cal Tryz.prog F_super_Get #[.slice a l c] w4 fun r25 w5=>∃ g25a:Array Value,∃ n25b:Int,r25=.tuple #[.agg g25a,.int .i64 n25b]/\∃ q12:Addr,∃ w6:World,Ru (Instr.alloc 158 true (.tuple #[])) w5 (.pointer (some q12)) w6/\∃ w7:World,RuU (Instr.storeAt 158 (.pointer (some q12)) (.agg g25a)) w6 w7/\Share (fun k_2=>(bif n25b==0 then ∃ g31:Array Value,Ru (Instr.loadAt 158 (.pointer (some q12))) w7 (.agg g31) w7/\Cal Tryz.prog F_super_Super_place #[.agg g31] w7 fun r32 w8=>∃ n32:Int,r32=.int .i64 n32/\(bif n32==(i:Int) then ∃ g38:Array Value,Ru (Instr.loadAt 39 (.pointer (some (Addr.add q12 1)))) w8 (.agg g38) w8/\Cal Tryz.prog F_geo_Size #[.agg g38] w8 fun r39 w9=>∃ n39:Int,r39=.int .i64 n39/\(bif decide (n39<=n) then ∃ n45:Int,Ru (Instr.loadAt 2 (.pointer (some (Addr.add q12 0)))) w9 (.int .i64 n45) w9/\∃ n47:Int,Ru (Instr.loadAt 2 (.pointer (some (Addr.add ⟨w1.heap.size,0,none⟩ 0)))) w9 (.int .i64 n47) w9/\k_2 [.bool (decide (n45 > n47))] w9 else k_2 [.bool false] w9) else k_2 [.bool false] w8) else k_2 [.bool false] w7)) fun x_2 w10 =>
     ∃ b49:Bool,nth x_2 0=.bool b49/\Share (fun k_3=>(bif b49 then
      ∃ g50:Array Value,Ru (Instr.loadAt 158 (.pointer (some q12))) w10 (.agg g50) w10/\∃ w11:World,RuU (Instr.storeAt 158 (.pointer (some ⟨w1.heap.size,0,none⟩)) (.agg g50)) w10 w11/\k_3 [] w11
      else k_3 [] w10)) fun x_3 w12=>R [.int .i64 (IntKind.i64.wrap ((i:Int)+1)),.bool b49] w12:=by
  intro i a l c xs b w4 R hi hl hc hr h63 hb hat m4 hend
  refine supGet_c (xs:=xs) hl hc (hr.nos (x3.no m4)) h63 fun w5 m5=>⟨_,_,rfl,?_⟩
  obtain ⟨w6,d1,d2,d3,d4⟩:=new_u (P:=Tryz.prog) (w:=w5) (T:=158) zero_sup
  obtain ⟨w7,e1,e2,e3,e4⟩:=d2.put (T:=158) (vs:=sV (supG xs).1) agg_sup rfl rfl (one_sV _)
  have m7:Mod No w5 w7:=d3.own e3 (Nat.le_refl _)
  have m47:Mod No w4 w7:=m5.no m7
  have hb7:=hat.keep m47 id
  refine ⟨_,w6,d1,w7,e1,Share.cut (fun z w10=>Mod No w7 w10/\z=[.bool (decide ((supG xs).2=0/\(supG xs).1.gen % 2=(i:Int)/\gSize (supG xs).1.geo<=n/\(supG xs).1.gen > b.gen))]) ?_ ?_⟩
  ·have no:∀ {p:Prop} [Decidable p],¬ p->[Value.bool false]=[.bool (decide p)]:=fun h=>by rw [decide_eq_false h]
   rw [beqI]
   refine cond_of (fun h=>⟨_,e2.at.all agg_sup rfl,?_⟩) (fun h=>⟨Mod.refl _ _,no fun e=>of_decide_eq_false h e.1⟩)
   have h:=of_decide_eq_true h
   have hok:=(supG_ok h).1
   have hg:=(sOk_iff.1 hok).1.1
   refine supPlace_c (by omega) fun w8 m8=>⟨_,rfl,?_⟩
   have q8:=e2.keep m8 id
   rw [beqI]
   refine cond_of (fun h2=>⟨_,q8.at.fldA (n:=3) (vs:=gV (supG xs).1.geo) agg_geo (by simp [sV,gV]) rfl,geoSize_c fun w9 m9=>⟨_,rfl,?_⟩⟩) (fun h2=>⟨m8,no fun e=>of_decide_eq_false h2 e.2.1⟩)
   have h2:=of_decide_eq_true h2
   have m79:=m8.no m9
   refine cond_of (fun h3=>⟨_,(q8.keep m9 id).at.fld sc_i64 rfl,_,(hb7.keep m79 id).at.fld sc_i64 rfl,m79,?_⟩) (fun h3=>⟨m79,no fun e=>of_decide_eq_false h3 e.2.2.1⟩)
   have h3:=of_decide_eq_true h3
   by_cases h4:(supG xs).1.gen > b.gen
   ·rw [decide_eq_true h4,decide_eq_true (show _/\_/\_/\_ from ⟨h,h2,h3,h4⟩)]
   ·rw [decide_eq_false h4]; exact no fun e=>h4 e.2.2.2
  rintro z w10 ⟨m10,rfl⟩
  have M10:Mod No w1 w10:=m4.no (m47.no m10)
  rw [wrap64 (x:=(i:Int)+1) (by omega) (by omega)]
  refine ⟨_,rfl,Share.dup (cond_of (fun h=>⟨_,(e2.keep m10 id).at.all agg_sup rfl,?_⟩) (fun h=>?_))⟩
  ·have h:=of_decide_eq_true h
   obtain ⟨w11,f1,f2,f3,f4⟩:=((hb7.keep m10 id)).put (T:=158) (vs:=sV (supG xs).1) agg_sup rfl rfl (one_sV _)
   have e:supPick i xs n b=(supG xs).1:=by unfold supPick; rw [if_pos h]
   refine ⟨w11,f1,?_⟩
   have:=hend w11 (.bool true) (by rw [e]; exact f2) (M10.own f3 (Nat.le_refl _))
   rwa [decide_eq_true h]
  ·have h:=of_decide_eq_false h
   have e:supPick i xs n b=b:=by unfold supPick; rw [if_neg h]
   have:=hend w10 (.bool false) (by rw [e]; exact hb7.keep m10 id) M10
   rwa [decide_eq_false h]
 obtain ⟨I,hI⟩:∃ I:List Value->World->Prop,I=fun x w4=>∃ (i:Nat) (y:Value),i<=2/\x=[.int .i64 i,y]/\AtU w4 w1.heap.size 0 (sV (bestTo xs ys n i))/\Mod No w1 w4:=⟨_,rfl⟩
 refine ⟨I,fun x _=>(2-nI x 0).toNat,by rw [hI]; exact ⟨0,_,by omega,rfl,z2,m3⟩,?_⟩
 intro x w4 hx
 have hx':=hx
 rw [hI] at hx'
 obtain ⟨i,y,hi,rfl,hat,m4⟩:=hx'
 refine ⟨_,rfl,cond_of (fun h=>?_) (fun h=>?_)⟩
 ·have h:=of_decide_eq_true h
  rcases (by omega:i=0\/i=1) with rfl | rfl
  ·refine ⟨_,_,_,two_0 _ _ _ _ _ _,round 0 a1 l1 c1 xs sZ w4 (fun x' w'=>I x' w'/\(2-nI x' 0).toNat<(2-nI [.int .i64 ((0:Nat):Int),y] 0).toNat) (by omega) hl1 hc1 hr1 h631 (by decide) hat m4 fun w' y f1 f2=>⟨?_,by simp [nI,nth]⟩⟩
   rw [hI]; exact ⟨1,y,by omega,rfl,f1,f2⟩
  ·refine ⟨_,_,_,two_1 _ _ _ _ _ _,round 1 a2 l2 c2 ys (supPick 0 xs n sZ) w4 (fun x' w'=>I x' w'/\(2-nI x' 0).toNat<(2-nI [.int .i64 ((1:Nat):Int),y] 0).toNat) (by omega) hl2 hc2 hr2 h632 (pick_gen (by decide)) hat m4 fun w' y f1 f2=>⟨?_,by simp [nI,nth]⟩⟩
   rw [hI]; exact ⟨2,y,by omega,rfl,f1,f2⟩
 ·have h:=of_decide_eq_false h
  have hi2:i=2:=by omega
  subst hi2
  have hat:AtU w4 w1.heap.size 0 (sV (supBest xs ys n)):=hat
  obtain ⟨w13,d1,d2,d3,d4⟩:=new_u (P:=Tryz.prog) (w:=w4) (T:=158) zero_sup
  obtain ⟨w14,e1,e2,e3,e4⟩:=d2.put (T:=158) (vs:=sV sZ) agg_sup rfl rfl (one_sV _)
  have m14:Mod No w4 w14:=d3.own e3 (Nat.le_refl _)
  have M14:Mod No w1 w14:=m4.no m14
  have q9:=hat.keep m14 id
  have q6:=x2.keep M14 id
  obtain ⟨b,hb,he⟩:=seq (supBest xs ys n) sZ (o1:=.tmp 53) (o2:=.tmp 54)
  refine ⟨_,build_sup0,_,w13,d1,w14,e1,_,q9.at.all agg_sup rfl,_,e2.at.all agg_sup rfl,b,he,cond_of (fun h=>⟨_,q9.at.all agg_sup rfl,?_⟩) (fun h=>⟨_,q9.drew.at.all agg_sup rfl,_,q9.drew.at.all agg_sup rfl,?_⟩)⟩
  ·have hz:=hb.1 h
   obtain ⟨w15,f1,f2,f3,f4⟩:=q6.put (T:=158) (vs:=sV (supBest xs ys n)) agg_sup rfl rfl (one_sV _)
   refine ⟨w15,f1,_,f2.at.all agg_sup rfl,?_⟩
   have hr:=hk w15 ((x3.no M14).own f3 (Nat.le_refl _))
   unfold supChoose at hr
   rw [if_pos hz] at hr
   rw [hz]; exact hr
  ·have hz:supBest xs ys n≠sZ:=fun e=>by rw [hb.2 e] at h; cases h
   refine supPlace_c (pick_gen (pick_gen (by decide))) fun w16 m16=>⟨_,rfl,(q9.drew.keep m16 id).at.all agg_sup rfl,?_⟩
   have m16':Mod No w14 w16:=(Mod.refl No w14).drew.no m16
   obtain ⟨w17,f1,f2,f3,f4⟩:=(q6.keep m16' id).put (T:=158) (vs:=sV (supBest xs ys n)) agg_sup rfl rfl (one_sV _)
   refine ⟨w17,f1,_,f2.at.all agg_sup rfl,?_⟩
   have hr:=hk w17 ((x3.no (M14.no m16')).own f3 (Nat.le_refl _))
   unfold supChoose at hr
   rw [if_neg hz] at hr
   exact hr
end
end Go.Proofs.YtandmpcjjaabmaaGreat
end
section
open Go Go.Den Go.Proofs
namespace Go.Den
section
variable {P:Program} {w:World}
theorem Ow.set {base l c g i:Nat} {T T':TypeId} {ys:List Value} {v:Value} (h:Ow P w base T 1 (some ⟨g,0,none⟩) l c ys) (hT:scal P T'=true) (hi:i<l) (hv:v.oneCell'=true) :
  ∃ w',(Instr.storeAt T' (.pointer (some ⟨g,i,none⟩)) v).run P w=.ok () w'/\Ow P w' base T 1 (some ⟨g,0,none⟩) l c (ys.set i v)/\Mod (fun x=>x=g) w w':=by
 have hlen:=h.len
 obtain ⟨e,he,h1,h2⟩:=h
 rcases h2 with ⟨hn,_⟩ | ⟨g',cap,cur,hw,hb,hg,hle,hm,hsz,ht⟩
 ·cases hn
 ·simp at hw
  obtain ⟨rfl,rfl⟩:=hw
  have hcur:w.heap[g]?=some (.cells ⟨cur.toList⟩ e (0,0)):=hg
  have hci:i<cur.toList.length:=by simp [hsz]; omega
  refine ⟨_,store_cell hT hcur hci (by simp) hv,⟨e,he,by simpa using h1,.inr ⟨g,c,⟨cur.toList.set i v⟩,rfl,hb,heap_put_same (lt_of_heap hg),hle,hm,by simp [hsz],?_⟩⟩,(Mod.refl (fun x=>x=g) w).put (.inr rfl) _⟩
  show (cur.toList.set i v).take (l*1)=ys.set i v
  rw [List.take_set,ht]
theorem Ow.shrink {base l c i:Nat} {T:TypeId} {a:Option Addr} {ys:List Value} (h:Ow P w base T 1 a l c ys) (hi:i<=l) (ha:a≠none):Ow P w base T 1 a i c (ys.take i):=by
 have hlen:=h.len
 obtain ⟨e,he,h1,h2⟩:=h
 rcases h2 with ⟨hn,_⟩ | ⟨g',cap,cur,hw,hb,hg,hle,hm,hsz,ht⟩
 ·simp at hn; exact absurd hn.1 ha
 ·simp at hw
  obtain ⟨rfl,rfl⟩:=hw
  refine ⟨e,he,by simp; omega,.inr ⟨g',c,cur,rfl,hb,hg,by omega,hm,hsz,?_⟩⟩
  rw [<- ht,List.take_take,Nat.min_eq_left (by omega)]; simp
theorem Ow.clear {base bytes l c g i:Nat} {T ty:TypeId} {z:Value} {ys:List Value} (hT:elemZ P T 1 z bytes) (h:Ow P w base T 1 (some ⟨g,0,none⟩) l c ys) (hi:i<=l) (hz:z.oneCell'=true) :
  ∃ w' zs,(Builtin.clear_ #[T] ty #[.slice (cutA (some ⟨g,0,none⟩) c i 1) (l-i) (c-i)]).run P w=.ok (.tuple #[]) w'/\Ow P w' base T 1 (some ⟨g,0,none⟩) l c (ys.take i++zs)/\Mod (fun x=>x=g) w w':=by
 have hlen:=h.len
 have hcap:=h.cap
 obtain ⟨e0,inf,zv,he0,hinf,hsz0,hz0,hzc,hby⟩:=hT.is
 by_cases h0:l-i=0
 ·refine ⟨w,[],?_,?_,Mod.refl _ _⟩
  ·rw [h0]
   unfold cutA
   split <;> simp [Builtin.clear_,run_und he0]
  ·have:ys.take i=ys:=List.take_of_length_le (by omega)
   rw [this,List.append_nil]; exact h
 ·obtain ⟨e,he,h1,h2⟩:=h
  have hee:e=e0:=by rw [he0] at he; simpa using he.symm
  subst hee
  rcases h2 with ⟨hn,_⟩ | ⟨g',cap,cur,hw,hb,hg,hle,hm,hsz,ht⟩
  ·cases hn
  ·simp at hw
   obtain ⟨rfl,rfl⟩:=hw
   have hcur:w.heap[g]?=some (.cells ⟨cur.toList⟩ e (0,0)):=hg
   have hcut:cutA (some ⟨g,0,none⟩) c i 1=some ⟨g,i,none⟩:=by
    unfold cutA; rw [if_neg (by omega)]; simp [add_none]
   have hzl:(Builtin.zeroCells zv.cells (l-i)).toList.length=l-i:=by
    rw [Array.length_toList,size_zeroCells,hzc]; simp
   have hzone:∀ v∈(Builtin.zeroCells zv.cells (l-i)).toList,v.oneCell'=true:=by
    intro v hv
    have:v=z:=by
     unfold Builtin.zeroCells at hv
     rw [hzc] at hv
     simp at hv
     obtain ⟨_,_,rfl⟩:=hv
     rw [Nat.mod_one]; rfl
    rw [this]; exact hz
   have hs:=store_cells (P:=P) (Builtin.zeroCells zv.cells (l-i)).toList (o:=i) (i:=0) hcur (by rw [hzl]; simp [hsz]; omega) (fun j _ _=>by simp) hzone
   refine ⟨_,(Builtin.zeroCells zv.cells (l-i)).toList,?_,⟨e,he,by simp [hzl]; omega,.inr ⟨g,c,⟨splice cur.toList i (Builtin.zeroCells zv.cells (l-i)).toList⟩,rfl,hb,heap_put_same (lt_of_heap hg),hle,hm,?_,?_⟩⟩,(Mod.refl (fun x=>x=g) w).put (.inr rfl) _⟩
   ·rw [hcut]
    obtain ⟨k,hk⟩:∃ k,l-i=k+1:=⟨l-i-1,by omega⟩
    rw [hk] at hs |-
    have hund:(underlying T).run P w=.ok (.slice e) w:=run_und he w
    simp [Builtin.clear_,hund,zeroValue,typeInfo,hinf,hz0,hs]
   ·show (splice cur.toList i _).length=c*1
    rw [length_splice (by rw [hzl]; simp [hsz]; omega)]; simp [hsz]
   ·show (splice cur.toList i _).take (l*1)=_
    unfold splice
    rw [Nat.mul_one] at ht |-
    have e1:ys.take i=cur.toList.take i:=by rw [<- ht,List.take_take,Nat.min_eq_left hi]
    have hl2:(cur.toList.take i++(Builtin.zeroCells zv.cells (l-i)).toList).length=l:=by rw [List.length_append,hzl]; simp [hsz]; omega
    rw [e1,List.take_append_of_le_length (by omega),List.take_of_length_le (by omega)]
end
end Go.Den
end
section
open Go Go.Den Go.Proofs
namespace Go.Den
def idxF {α:Type} (p:α->Bool):List α->Nat->Int
 | [],_=>-1
 | x::r,i=>if p x=true then i else idxF p r (i+1)
theorem idxF_cases {α:Type} (p:α->Bool):∀ (xs:List α) (i:Nat),(idxF p xs i=-1/\∀ x∈xs,p x=false)\/∃ j x,idxF p xs i=((i+j:Nat):Int)/\xs[j]?=some x/\p x=true/\∀ y∈xs.take j,p y=false
 | [],_=>.inl ⟨rfl,by simp⟩
 | x::r,i=>by
  simp only [idxF]
  by_cases hp:p x=true
  ·rw [if_pos hp]
   exact .inr ⟨0,x,by simp,rfl,hp,by simp⟩
  ·rw [if_neg hp]
   have hp:p x=false:=by simpa using hp
   rcases idxF_cases p r (i+1) with ⟨h1,h2⟩ | ⟨j,y,h1,h2,h3,h4⟩
   ·refine .inl ⟨h1,fun y hy=>?_⟩
    rcases List.mem_cons.1 hy with rfl | hy
    ·exact hp
    ·exact h2 y hy
   ·refine .inr ⟨j+1,y,by rw [h1]; congr 1; omega,by simpa using h2,h3,fun z hz=>?_⟩
    rw [List.take_succ_cons] at hz
    rcases List.mem_cons.1 hz with rfl | hz
    ·exact hp
    ·exact h4 z hz
theorem drop_get {α:Type} {xs:List α} {i:Nat} (hi:i<xs.length):xs.drop i=xs[i]::xs.drop (i+1):=List.drop_eq_getElem_cons hi
theorem row_some {w:World} {a:Option Addr} {xs:List Int} {i:Nat} (h:Row w a (iL xs)) (hi:i<xs.length):∃ b o,a=some ⟨b,o,none⟩/\At w b o (iL xs):=by
 refine h.resolve_left fun e=>?_
 have:=congrArg List.length e
 simp at this; rw [this] at hi; simp at hi
end Go.Den
namespace Go.Proofs.YtandmpcjjaabmaaGreat
def Tells (v:Value) (w0:World) (S:Nat->Prop) (p:Int->Bool) (xs:List Int):Prop :=
 ∀ w',Mod S w0 w'->∀ x∈xs,∀ K:Value->World->Prop,(∀ w'',Mod No w' w''->K (.bool (p x)) w'')->Dyn Tryz.prog v #[.int .i64 x] w' K
section
variable {w:World} {K:Value->World->Prop}
theorem IndexFunc_c {a:Option Addr} {l c:Nat} {xs:List Int} {v:Value} {p:Int->Bool} {S:Nat->Prop} (hl:xs.length=l) (h63:l<=9223372036854775806) (hr:Row w a (iL xs)) (ht:Tells v w S p xs)
  (hk:∀ w',Mod No w w'->K (.int .i64 (idxF p xs 0)) w'):Cal Tryz.prog F_slices_IndexFunc_int #[.slice a l c,v] w K:=by
 apply C_slices_IndexFunc_int
 unfold D_slices_IndexFunc_int
 refine ⟨fun x w1=>∃ i:Nat,i<=l/\x=[.int .i64 i]/\Mod No w w1/\idxF p xs 0=idxF p (xs.drop i) i,fun x _=>(l-nI x 0).toNat,⟨0,by omega,rfl,Mod.refl _ _,rfl⟩,?_⟩
 rintro x w1 ⟨i,hi,rfl,hm,hidx⟩
 refine ⟨_,rfl,cond_of (fun hb=>?_) (fun hb=>?_)⟩
 ·have hi:i<l:=by have:=of_decide_eq_true hb; omega
  have hix:i<xs.length:=by omega
  obtain ⟨b,o,rfl,hat⟩:=row_some hr hix
  refine ⟨_,index_slice (k:=1) (by kernel_rfl) (by omega) (by omega),?_⟩
  rw [add_none,show (i:Int).toNat*1=i by omega]
  refine ⟨_,(hat.keep hm id).load (by kernel_rfl) (iL_get hix),ht w1 (hm.mono fun _ _ h=>h.elim) _ (List.getElem_mem hix) _ fun w2 m2=>⟨_,rfl,cond_of (fun hp=>?_) (fun hp=>?_)⟩⟩
  ·have e:idxF p xs 0=i:=by rw [hidx,drop_get hix]; simp only [idxF]; rw [if_pos hp]
   rw [<- e]; exact hk w2 (hm.no m2)
  ·rw [wrap64 (x:=(i:Int)+1) (by omega) (by omega)]
   refine ⟨⟨i+1,by omega,rfl,hm.no m2,?_⟩,by simp [nI,nth]; omega⟩
   rw [hidx,drop_get hix]; simp only [idxF]; rw [if_neg (by rw [hp]; simp)]
 ·have hil:i=l:=by have:=of_decide_eq_false hb; omega
  have e:idxF p xs 0=-1:=by rw [hidx,List.drop_eq_nil_of_le (by omega)]; rfl
  rw [<- e]; exact hk w1 hm
def Of (a:Option Addr):Nat->Prop:=fun x=>∃ q,a=some q/\x=q.block
theorem keep_step {α:Type} {p:α->Bool} {xs ys:List α} {i j:Nat} (h1:ys.take i=(xs.take j).filter fun x=>!p x) (h2:ys.drop j=xs.drop j) (h3:ys.length=xs.length) (hij:i<j) (hj:j<xs.length) (hp:p xs[j]=false) :
  (ys.set i xs[j]).take (i+1)=(xs.take (j+1)).filter (fun x=>!p x)/\(ys.set i xs[j]).drop (j+1)=xs.drop (j+1):=by
 constructor
 ·rw [List.take_succ_eq_append_getElem (by simp; omega),List.take_set_of_le (by omega),h1,List.take_succ_eq_append_getElem hj,List.filter_append]
  simp [hp]
 ·rw [List.drop_set_of_lt (by omega),<- List.drop_drop,h2,List.drop_drop]
theorem DeleteFunc_c {base:Nat} {a:Option Addr} {l c:Nat} {xs:List Int} {v:Value} {p:Int->Bool} (h:Ow Tryz.prog w base 64 1 a l c (iL xs)) (h63:l<=1000000000) (ht:Tells v w (Of a) p xs)
  (hk:∀ w' l',Ow Tryz.prog w' base 64 1 a l' c (iL (xs.filter fun x=>!p x))->l'=(xs.filter fun x=>!p x).length->Mod (Of a) w w'->K (.slice a l' c) w'):Cal Tryz.prog F_slices_DeleteFunc_int #[.slice a l c,v] w K:=by
 have hlen:xs.length=l:=by have:=h.len; simpa using this
 apply C_slices_DeleteFunc_int
 unfold D_slices_DeleteFunc_int
 refine IndexFunc_c hlen (by omega) h.rowU.row ht fun w1 m1=>⟨_,rfl,?_⟩
 rcases idxF_cases p xs 0 with ⟨e,hno⟩ | ⟨i0,x0,e,hx0,hp0,hbef⟩
 ·rw [e]
  refine tt rfl ?_
  have hf:xs.filter (fun x=>!p x)=xs:=List.filter_eq_self.2 fun x hx=>by simp [hno x hx]
  exact hk w1 l (by rw [hf]; exact h.nos m1) (by rw [hf]; exact hlen.symm) (m1.mono fun _ _ h=>h.elim)
 rw [e,Nat.zero_add]
 obtain ⟨hi0,hx0'⟩:=List.getElem?_eq_some_iff.1 hx0
 have hla:0<l:=by omega
 obtain ⟨g,rfl,hg,_⟩:=h.sm hla
 have hcap:=h.cap
 refine ff (by simp <;> omega) ⟨fun x w2=>∃ (i j:Nat) (ys:List Int),x=[.int .i64 i,.int .i64 j]/\i<j/\j<=l/\Ow Tryz.prog w2 base 64 1 (some ⟨g,0,none⟩) l c (iL ys)/\ys.take i=((xs.take j).filter fun x=>!p x)/\ys.drop j=xs.drop j/\Mod (Of (some ⟨g,0,none⟩)) w w2,
  fun x _=>(l-nI x 1).toNat,⟨i0,i0+1,xs,?_,by omega,by omega,h.nos m1,?_,rfl,m1.mono fun _ _ h=>h.elim⟩,?_⟩
 ·rw [wrap64 (x:=(i0:Int)+1) (by omega) (by omega)]; rfl
 ·rw [List.take_succ_eq_append_getElem hi0,List.filter_append,hx0']
  have e1:(xs.take i0).filter (fun x=>!p x)=xs.take i0:=List.filter_eq_self.2 fun x hx=>by simp [hbef x hx]
  rw [e1]; simp [hp0]
 rintro x w2 ⟨i,j,ys,rfl,hij,hjl,o2,h1,h2,M2⟩
 have hyl:ys.length=l:=by have:=o2.len; simpa using this
 refine ⟨_,rfl,cond_of (fun hb=>?_) (fun hb=>?_)⟩
 ·have hj:j<l:=by have:=of_decide_eq_true hb; omega
  have hjx:j<xs.length:=by omega
  have hjy:j<ys.length:=by omega
  have hyx:ys[j]=xs[j]:=by
   have e1:=(drop_get hjy).symm.trans (h2.trans (drop_get hjx))
   exact (List.cons.inj e1).1
  obtain ⟨b2,o,e2,hat⟩:=row_some o2.rowU.row hjy
  simp at e2
  obtain ⟨rfl,rfl⟩:=e2
  refine ⟨_,index_slice (k:=1) (by kernel_rfl) (by omega) (by omega),?_⟩
  rw [add_none,show (j:Int).toNat*1=j by omega]
  refine ⟨_,hat.load (by kernel_rfl) (iL_get hjy),ht w2 M2 _ (by rw [hyx]; exact List.getElem_mem hjx) _ fun w3 m3=>⟨_,rfl,?_⟩⟩
  rw [hyx]
  refine Share.cut (fun z w4=>∃ (i':Nat) (ys':List Int),z=[.int .i64 i']/\i'<j+1/\Ow Tryz.prog w4 base 64 1 (some ⟨g,0,none⟩) l c (iL ys')/\ys'.take i'=((xs.take (j+1)).filter fun x=>!p x)/\ys'.drop (j+1)=xs.drop (j+1)/\Mod (Of (some ⟨g,0,none⟩)) w w4)
   (cond_of (fun hp=>?_) (fun hp=>?_)) ?_
  ·have hp:p xs[j]=false:=by simpa using hp
   refine ⟨_,rfl,_,index_slice (k:=1) (by kernel_rfl) (by omega) (by omega),?_⟩
   rw [add_none,show 0+(i:Int).toNat*1=i by omega]
   obtain ⟨w4,s1,s2,s3⟩:=(o2.nos m3).set (T':=3) (i:=i) (v:=.int .i64 xs[j]) (by kernel_rfl) (by omega) rfl
   refine ⟨w4,s1,?_⟩
   obtain ⟨k1,k2⟩:=keep_step h1 h2 (by omega) hij hjx hp
   rw [wrap64 (x:=(i:Int)+1) (by omega) (by omega)]
   refine ⟨i+1,ys.set i xs[j],rfl,by omega,?_,k1,k2,(M2.no m3).trans s3 fun x _ e=>⟨_,rfl,e⟩⟩
   have e3:(iL ys).set i (.int .i64 xs[j])=iL (ys.set i xs[j]):=by simp [iL,List.map_set,I]
   rw [e3] at s2; exact s2
  ·have hp:p xs[j]=true:=by simpa using hp
   refine ⟨i,ys,rfl,by omega,o2.nos m3,?_,?_,M2.no m3⟩
   ·rw [h1,List.take_succ_eq_append_getElem hjx,List.filter_append]; simp [hp]
   ·rw [<- List.drop_drop,h2,List.drop_drop]
  ·rintro z w4 ⟨i',ys',rfl,hij',o4,k1,k2,M4⟩
   rw [wrap64 (x:=(j:Int)+1) (by omega) (by omega)]
   exact ⟨⟨i',j+1,ys',rfl,hij',by omega,o4,k1,k2,M4⟩,by simp [nI,nth]; omega⟩
 ·have hjl:j=l:=by have:=of_decide_eq_false hb; omega
  subst hjl
  refine ⟨_,rfl,_,_,_,slice_l (k:=1) (by kernel_rfl) (by omega) (by omega),?_⟩
  rw [Int.toNat_natCast]
  obtain ⟨w3,zs,s1,s2,s3⟩:=o2.clear (ty:=0) elemZ_ints (i:=i) (by omega) rfl
  refine ⟨w3,s1,_,_,_,slice_h (k:=1) (by kernel_rfl) (by omega) (by omega),?_⟩
  have hcut:cutA (some ⟨g,0,none⟩) c 0 1=some ⟨g,0,none⟩:=by
   unfold cutA; rw [if_neg (by omega)]; simp [add_none]
  rw [hcut,Int.toNat_natCast]
  have hxall:xs.take j=xs:=List.take_of_length_le (by omega)
  rw [hxall] at h1
  have hsh:=s2.shrink (i:=i) (by omega) (by simp)
  have e5:((iL ys).take i++zs).take i=iL (xs.filter fun x=>!p x):=by
   rw [<- h1]
   have:((iL ys).take i).length=i:=by simp; omega
   rw [List.take_append_of_le_length (by omega),List.take_of_length_le (by omega)]
   simp [iL,List.map_take]
  rw [e5] at hsh
  refine hk w3 i hsh ?_ (M2.trans s3 fun x _ e=>⟨_,rfl,e⟩)
  rw [<- h1]; simp; omega
end
end Go.Proofs.YtandmpcjjaabmaaGreat
end
section
open Go Go.Den Go.Proofs
namespace Go.Proofs.YtandmpcjjaabmaaGreat
section
variable {w:World} {K:Value->World->Prop}
theorem nil_bytes:Al (eqS .eql 55 (.tmp 3) (.const (.slice none 0 0)) (.slice none 0 0) (.slice none 0 0)) (.bool true):=fun _=>by kernel_rfl
theorem some_bytes (a:Addr) (l c:Nat):Al (eqS .eql 55 (.tmp 3) (.const (.slice none 0 0)) (.slice (some a) l c) (.slice none 0 0)) (.bool false):=fun _=>by kernel_rfl
theorem builtB0 (w:World):(Instr.buildSlice 55 0 #[]).run Tryz.prog w=.ok (.slice (some ⟨w.heap.size,0,none⟩) 0 0) (w.alloc (.cells #[] 5)):=by kernel_rfl
theorem own_empty {T e:TypeId} {k:Nat} (hu:Tryz.prog.underlying T=some (.slice e)):Ow Tryz.prog (w.alloc (.cells #[] e)) w.heap.size T k (some ⟨w.heap.size,0,none⟩) 0 0 [] :=
 ⟨_,hu,by simp,.inr ⟨w.heap.size,0,#[],rfl,Nat.le_refl _,heap_new w _,Nat.le_refl _,Nat.zero_le _,by simp,by simp⟩⟩
theorem CloneB_c {a:Option Addr} {l c:Nat} {xs:List UInt8} (hr:Row w a (u8L xs)) (hl:xs.length=l) (h0:a=none->l=0/\c=0) (h63:l<=1000000000)
  (hk:∀ w' a' c',Ow Tryz.prog w' w.heap.size 55 1 a' l c' (u8L xs)->Mod No w w'->K (.slice a' l c') w'):Cal Tryz.prog F_slices_Clone_byte #[.slice a l c] w K:=by
 apply C_slices_Clone_byte
 unfold D_slices_Clone_byte
 cases a with
 | none =>
  obtain ⟨rfl,rfl⟩:=h0 rfl
  have hx:xs=[]:=List.eq_nil_of_length_eq_zero hl
  subst hx
  exact ⟨_,nil_bytes,tt rfl (hk w none 0 (Ow.nil elemZ_bytes) (Mod.refl _ _))⟩
 | some q =>
  refine ⟨_,some_bytes _ _ _,ff rfl ⟨_,_,_,_,builtB0 w,?_⟩⟩
  have m1:Mod No w (w.alloc (.cells #[] 5)):=(Mod.refl No w).alloc _
  have hu:Tryz.prog.underlying 55=some (.slice 5):=by kernel_rfl
  obtain ⟨a',c',w2,h2,o2,m2⟩:=(own_empty (w:=w) (k:=1) hu).append (ty:=55) elemZ_bytes (by omega) (a2:=some q) (m:=l) (c2:=c) (ys:=u8L xs) (hr.nos m1) (by simp [hl]) (fun e=>by cases e) (one_u8L xs) (by omega) (by omega) (by simp)
  rw [Nat.zero_add,List.nil_append] at *
  exact ⟨_,_,_,w2,h2,hk w2 a' c' o2 (m1.up m2 (Nat.le_refl _))⟩
theorem Index_c {a:Option Addr} {l c:Nat} {xs:List Int} {n:Int} (hl:xs.length=l) (h63:l<=9223372036854775806) (hr:Row w a (iL xs))
  (hk:K (.int .i64 (idxF (fun x=>n==x) xs 0)) w):Cal Tryz.prog F_slices_Index_int #[.slice a l c,.int .i64 n] w K:=by
 apply C_slices_Index_int
 unfold D_slices_Index_int
 refine ⟨fun x w1=>w1=w/\∃ i:Nat,i<=l/\x=[.int .i64 i]/\idxF (fun x=>n==x) xs 0=idxF (fun x=>n==x) (xs.drop i) i,fun x _=>(l-nI x 0).toNat,⟨rfl,0,by omega,rfl,rfl⟩,?_⟩
 rintro x w1 ⟨rfl,i,hi,rfl,hidx⟩
 refine ⟨_,rfl,cond_of (fun hb=>?_) (fun hb=>?_)⟩
 ·have hi:i<l:=by have:=of_decide_eq_true hb; omega
  have hix:i<xs.length:=by omega
  obtain ⟨b,o,rfl,hat⟩:=row_some hr hix
  refine ⟨_,index_slice (k:=1) (by kernel_rfl) (by omega) (by omega),?_⟩
  rw [add_none,show (i:Int).toNat*1=i by omega]
  refine ⟨_,hat.load (by kernel_rfl) (iL_get hix),cond_of (fun hp=>?_) (fun hp=>?_)⟩
  ·have e:idxF (fun x=>n==x) xs 0=i:=by rw [hidx,drop_get hix]; simp only [idxF]; rw [if_pos hp]
   rw [<- e]; exact hk
  ·rw [wrap64 (x:=(i:Int)+1) (by omega) (by omega)]
   refine ⟨⟨rfl,i+1,by omega,rfl,?_⟩,by simp [nI,nth]; omega⟩
   rw [hidx,drop_get hix]; simp only [idxF]; rw [if_neg (by rw [hp]; simp)]
 ·have hil:i=l:=by have:=of_decide_eq_false hb; omega
  have e:idxF (fun x=>n==x) xs 0=-1:=by rw [hidx,List.drop_eq_nil_of_le (by omega)]; rfl
  rw [<- e]; exact hk
theorem Contains_c {a:Option Addr} {l c:Nat} {xs:List Int} {n:Int} (hl:xs.length=l) (h63:l<=9223372036854775806) (hr:Row w a (iL xs))
  (hk:K (.bool (decide (n∈xs))) w):Cal Tryz.prog F_slices_Contains_int #[.slice a l c,.int .i64 n] w K:=by
 apply C_slices_Contains_int
 unfold D_slices_Contains_int
 refine Index_c hl h63 hr ⟨_,rfl,?_⟩
 have e:decide (idxF (fun x=>n==x) xs 0 >= 0)=decide (n∈xs):=by
  rcases idxF_cases (fun x=>n==x) xs 0 with ⟨h1,h2⟩ | ⟨j,x,h1,h2,h3,_⟩
  ·have:n ∉ xs:=fun h=>by have:=h2 n h; simp at this
   simp [h1,this]
  ·have:n=x:=by simpa using h3
   subst this
   have hm:=List.mem_of_getElem? h2
   simp [h1,hm]
 rw [e]; exact hk
theorem Diff_c {a0 a1:Option Addr} {l c0 c1:Nat} {xs ys:List UInt8} (hx:xs.length=l) (hy:ys.length=l) (h63:l<=1000000000) (h0:Row w a0 (u8L xs)) (h1:Row w a1 (u8L ys))
  (hk:∀ w' (f la:Int),Mod No w w'->(0<=f↔xs≠ys)->K (.tuple #[.int .i64 f,.int .i64 la]) w'):Cal Tryz.prog F_num_Diff #[.slice a0 l c0,.slice a1 l c1] w K:=by
 apply C_num_Diff
 unfold D_num_Diff
 refine ⟨fun x w1=>∃ (i:Nat) (f la:Int) (y:Value),i<=l/\x=[.int .i64 f,.int .i64 la,.int .i64 i,y]/\Mod No w w1/\(0<=f↔xs.take i≠ys.take i),fun x _=>(l-nI x 2).toNat,⟨0,-1,-1,_,by omega,rfl,Mod.refl _ _,by simp⟩,?_⟩
 rintro x w1 ⟨i,f,la,y,hi,rfl,hm,hf⟩
 have hself:(if (l:Int) > (l:Int) then (l:Int) else (l:Int))=l:=by simp
 have hself2:(if (l:Int)<(l:Int) then (l:Int) else (l:Int))=l:=by simp
 refine ⟨_,rfl,cond_of (fun hb=>?_) (fun hb=>?_)⟩
 ·rw [hself] at hb
  have hi:i<l:=by have:=of_decide_eq_true hb; omega
  have hix:i<xs.length:=by omega
  have hiy:i<ys.length:=by omega
  obtain ⟨b0,o0,rfl,hat0⟩:=h0.resolve_left (by intro e; have:=congrArg List.length e; simp at this; rw [this] at hix; simp at hix)
  obtain ⟨b1,o1,rfl,hat1⟩:=h1.resolve_left (by intro e; have:=congrArg List.length e; simp at this; rw [this] at hiy; simp at hiy)
  have hm':Mod No w (drew w1):=hm.drew
  have tk:(xs.take (i+1)≠ys.take (i+1))↔(xs.take i≠ys.take i\/xs[i]≠ys[i]):=by
   rw [List.take_succ_eq_append_getElem hix,List.take_succ_eq_append_getElem hiy]
   constructor
   ·intro h
    by_cases e:xs.take i=ys.take i
    ·right; intro e2; exact h (by rw [e,e2])
    ·exact .inl e
   ·intro h e
    have:=List.append_inj e (by simp; omega)
    simp at this
    rcases h with h | h
    ·exact h this.1
    ·exact h this.2
  refine Share.cut (fun z w3=>∃ (f' la':Int) (y':Value),z=[.int .i64 f',.int .i64 la',y']/\Mod No w w3/\(0<=f'↔xs.take (i+1)≠ys.take (i+1))) ?_ ?_
  ·refine Share.cut (fun z w3=>z=[.bool (decide (xs[i]=ys[i]))]/\w3=drew w1) (tt (by rw [hself2]; exact decide_eq_true (by omega)) ?_) ?_
   ·refine ⟨_,index_slice (k:=1) (by kernel_rfl) (by omega) (by omega),?_⟩
    rw [add_none,show (i:Int).toNat*1=i by omega]
    refine ⟨_,(hat0.keep hm' id).load (by kernel_rfl) (u8L_get hix),_,index_slice (k:=1) (by kernel_rfl) (by omega) (by omega),?_⟩
    rw [add_none,show (i:Int).toNat*1=i by omega]
    refine ⟨_,(hat1.keep hm' id).load (by kernel_rfl) (u8L_get hiy),?_,rfl⟩
    congr 2
    rw [Bool.eq_iff_iff]
    simp only [beq_iff_eq,decide_eq_true_eq]
    constructor
    ·intro e; exact UInt8.toNat_inj.1 (by omega)
    ·intro e; rw [e]
   rintro z w3 ⟨rfl,rfl⟩
   refine ⟨_,rfl,cond_of (fun hb=>?_) (fun hb=>?_)⟩
   ·have he:xs[i]=ys[i]:=of_decide_eq_true hb
    refine ⟨f,la,_,rfl,hm',?_⟩
    rw [hf,tk]
    exact ⟨fun h=>.inl h,fun h=>h.resolve_right fun h=>h he⟩
   ·have he:xs[i]≠ys[i]:=of_decide_eq_false hb
    refine ⟨_,rfl,Share.cut (fun z w4=>∃ f':Int,z=[.int .i64 f']/\0<=f'/\w4=drew w1) (cond_of (fun hb=>⟨_,rfl,by omega,rfl⟩) (fun hb=>⟨_,rfl,by have:=of_decide_eq_false hb; omega,rfl⟩)) ?_⟩
    rintro z w4 ⟨f',rfl,hf',rfl⟩
    refine ⟨f',_,_,rfl,hm',?_⟩
    rw [tk]
    exact ⟨fun _=>.inr he,fun _=>hf'⟩
  ·rintro z w3 ⟨f',la',y',rfl,hm3,hf3⟩
   rw [wrap64 (x:=(i:Int)+1) (by omega) (by omega)]
   exact ⟨⟨i+1,f',la',y',by omega,rfl,hm3,hf3⟩,by simp [nI,nth]; omega⟩
 ·rw [hself] at hb
  have hil:i=l:=by have:=of_decide_eq_false hb; omega
  subst hil
  refine ⟨_,rfl,_,rfl,hk w1 f la hm ?_⟩
  rw [hf,List.take_of_length_le (by omega),List.take_of_length_le (by omega)]
end
end Go.Proofs.YtandmpcjjaabmaaGreat
end
section
open Go Go.Den Go.Proofs
namespace Go.Den
theorem cut_some {b o c l k:Nat} (h:l≠c):cutA (some ⟨b,o,none⟩) c l k=some ⟨b,o+l*k,none⟩:=by
 unfold cutA
 rw [if_neg (fun e=>h e.symm)]
 simp [add_none]
end Go.Den
namespace Go.Proofs.YtandmpcjjaabmaaGreat
def gMark:List UInt8:=[76,71,82,80]
def gFront (g:Gm) (h:Hd):List UInt8:=gMark++toLe 2 h.no.toNat++toLe 2 (hFree g h).1.toNat++toLe 2 (hFree g h).2.toNat
def grpB (g:Gm) (h:Hd):List UInt8:=gFront g h++List.replicate 6 0++h.bs++h.ss++List.replicate 216 0
theorem gFront_len (g:Gm) (h:Hd):(gFront g h).length=10:=by simp [gFront,gMark]
theorem grpB_len {g:Gm} {h:Hd} (hw:hWf h):(grpB g h).length=256:=by
 unfold grpB
 rw [List.length_append,List.length_append,List.length_append,List.length_append,gFront_len,hw.1,hw.2,List.length_replicate,List.length_replicate]
theorem hFree_b {g:Gm} {h:Hd}:0<=(hFree g h).1/\(hFree g h).1<=128/\0<=(hFree g h).2/\(hFree g h).2<=64:=by
 unfold hFree
 split
 ·rename_i ho
  have hq:=gOk_iff.1 (hOk_iff.1 ho).1
  have h1:=cntB_le h.bs g.gr.toNat
  have h2:=cntB_le h.ss g.no.toNat
  exact ⟨by omega,by omega,by omega,by omega⟩
 ·exact ⟨by decide,by decide,by decide,by decide⟩
section
variable {w:World} {K:Value->World->Prop}
theorem hFree_c {g:Gm} {h:Hd} (hw:hWf h) (hk:∀ w',Mod No w w'->K (.tuple #[.int .i64 (hFree g h).1,.int .i64 (hFree g h).2]) w'):Cal Tryz.prog F_group_Free #[.agg ⟨gV g⟩,.agg ⟨hV h⟩] w K:=by
 apply C_group_Free
 unfold D_group_Free
 obtain ⟨w1,a1,a2,a3,a4⟩:=box_u (P:=Tryz.prog) (w:=w) (T:=39) (cs:=gV g)
 obtain ⟨w2,b1,b2,b3,b4⟩:=box_u (P:=Tryz.prog) (w:=w1) (T:=171) (cs:=hV h)
 have m2:=a3.no b3
 refine ⟨_,w1,a1,_,w2,b1,_,(a2.at.keep b3 id).all agg_geo rfl,_,b2.at.all agg_head (hV_len hw),hRight_c hw fun w3 m3=>⟨_,rfl,cond_of (fun ho=>?_) (fun ho=>?_)⟩⟩
 ·have e:hFree g h=(0,0):=by unfold hFree; rw [if_neg (by simpa using ho)]
  rw [e] at hk; exact hk _ (m2.no m3)
 have ho:hOk g h=true:=by simpa using ho
 have hq:=gOk_iff.1 (hOk_iff.1 ho).1
 have q2:=(a2.keep b3 id).keep m3 id
 have q3:=b2.keep m3 id
 have h1:=cntB_le h.bs g.gr.toNat
 have h2:=cntB_le h.ss g.no.toNat
 have md:Mod No w3 (Go.Den.drew w3):=(Mod.refl No w3).drew
 have ad1:Addr.add ⟨w1.heap.size,0,none⟩ 1=⟨w1.heap.size,1,none⟩:=by rw [add_none]
 have ad17:Addr.add ⟨w1.heap.size,0,none⟩ 17=⟨w1.heap.size,17,none⟩:=by rw [add_none]
 rw [ad1,ad17]
 refine ⟨_,q2.at.drew.fld sc_int rfl,_,_,_,sliceA_all arr16,_,q2.at.drew.fld sc_int rfl,_,q2.at.drew.fld sc_int rfl,_,_,_,sliceA_all arr8,_,q2.at.drew.fld sc_int rfl,?_⟩
 refine bitCount_c (xs:=h.bs) hw.1 (.inr ⟨_,_,rfl,At.bs hw q3.at.drew⟩) (by omega) fun w4 m4=>⟨_,rfl,?_⟩
 have M4:=md.no m4
 have r2:=q2.keep M4 id
 refine ⟨r2.at.fld sc_int rfl,r2.at.fld sc_int rfl,r2.at.fld sc_int rfl,?_⟩
 refine bitCount_c (xs:=h.ss) hw.2 (.inr ⟨_,_,rfl,At.ss hw (q3.keep M4 id).at⟩) (by omega) fun w5 m5=>⟨_,rfl,?_⟩
 have M5:=M4.no m5
 have s2:=q2.keep M5 id
 refine ⟨s2.at.fld sc_int rfl,s2.at.fld sc_int rfl,?_⟩
 have e:hFree g h=(g.gr-cntB h.bs g.gr.toNat,g.no-cntB h.ss g.no.toNat):=by unfold hFree; rw [if_pos ho]
 rw [e] at hk
 rw [wrap64 (by omega) (by omega),wrap64 (by omega) (by omega)]
 exact hk _ (m2.no (m3.no M5))
theorem build_three (a b c:Int):Al (Instr.build 295 #[(0,.int .i64 a),(1,.int .i64 b),(2,.int .i64 c)]) (.agg ⟨[.int .i64 a,.int .i64 b,.int .i64 c]⟩):=fun w=>by kernel_rfl
theorem arr3:arrN Tryz.prog 295=some (3,1):=by kernel_rfl
def gPre (g:Gm) (h:Hd):Nat->List UInt8
 | 0=>gMark
 | 1=>gMark++toLe 2 h.no.toNat
 | 2=>gMark++toLe 2 h.no.toNat++toLe 2 (hFree g h).1.toNat
 | _=>gFront g h
theorem gPre_len (g:Gm) (h:Hd) {i:Nat} (hi:i<=3):(gPre g h i).length=4+2*i:=by
 match i,hi with
 | 0,_=>rfl
 | 1,_=>simp [gPre,gMark]
 | 2,_=>simp [gPre,gMark]
 | 3,_=>exact gFront_len g h
set_option maxRecDepth 4000 in
theorem hPut_c {g:Gm} {h:Hd} (hw:hWf h) (h1:hOk g h=false->∀ w',Mod No w w'->K (.tuple #[.slice none 0 0,.int .i64 1]) w')
  (h2:hOk g h=true->∀ w' q,Mod No w w'->w.heap.size<=q->AtU w' q 0 (u8L (grpB g h))->K (.tuple #[.slice (some ⟨q,0,none⟩) 256 256,.int .i64 0]) w'):Cal Tryz.prog F_group_Put #[.agg ⟨gV g⟩,.agg ⟨hV h⟩] w K:=by
 apply C_group_Put
 unfold D_group_Put
 obtain ⟨w1,a1,a2,a3,a4⟩:=box_u (P:=Tryz.prog) (w:=w) (T:=39) (cs:=gV g)
 obtain ⟨w2,b1,b2,b3,b4⟩:=box_u (P:=Tryz.prog) (w:=w1) (T:=171) (cs:=hV h)
 have m2:=a3.no b3
 refine ⟨_,w1,a1,_,w2,b1,_,(a2.at.keep b3 id).all agg_geo rfl,_,b2.at.all agg_head (hV_len hw),hRight_c hw fun w3 m3=>⟨_,rfl,cond_of (fun ho=>h1 (by simpa using ho) _ (m2.no m3)) (fun ho=>?_)⟩⟩
 have ho:hOk g h=true:=by simpa using ho
 have hno:=(hOk_iff.1 ho).2.1
 have hq:=gOk_iff.1 (hOk_iff.1 ho).1
 have hf:=hFree_b (g:=g) (h:=h)
 obtain ⟨w4,c1,c2,c3,c4⟩:=makeSlice_run (P:=Tryz.prog) (w:=w3) (n:=256) elemZ_bytes (by omega) (by omega) (by omega)
 have c2':AtU w4 w3.heap.size 0 (u8L ([]++List.replicate 256 0)):=by
  have e:List.replicate (256*1) (Value.int .u8 0)=u8L ([]++List.replicate 256 0):=by
   rw [List.nil_append,u8L,List.map_replicate]; rfl
  rw [<- e]; exact c2
 obtain ⟨w5,d1,d2,d3,d4⟩:=copy_str (T:=55) (S:=9) (ty:=3) (i:=0) (n:=256) (c:=256) (xs:=gMark) (by kernel_rfl) c2' (by rw [length_u8L,List.length_append,List.length_replicate]; exact Nat.le_refl _) (by simp [gMark])
 rw [zs (pre:=[]) (i:=0) rfl (by simp [gMark])] at d2
 have m5:Mod No w3 w5:=c3.own d3 (Nat.le_refl _)
 have q2:=((a2.keep b3 id).keep m3 id).keep m5 id
 have q3:=(b2.keep m3 id).keep m5 id
 refine ⟨_,_,_,w4,c1,_,w5,d1,_,q2.at.all agg_geo rfl,_,q3.at.all agg_head (hV_len hw),hFree_c hw fun w6 m6=>⟨_,_,rfl,?_⟩⟩
 have m36:Mod No w3 w6:=m5.no m6
 refine ⟨_,(q3.keep m6 id).at.fld sc_int rfl,_,build_three _ _ _,?_⟩
 refine ⟨fun x w7=>∃ i:Nat,i<=3/\x=[.int .i64 i]/\AtU w7 w3.heap.size 0 (u8L (gPre g h i++List.replicate (252-2*i) 0))/\Mod No w3 w7,fun x _=>(3-nI x 0).toNat,⟨0,by omega,rfl,d2.keep m6 id,m36⟩,?_⟩
 rintro x w7 ⟨i,hi,rfl,hat,m7⟩
 refine ⟨_,rfl,cond_of (fun hl=>?_) (fun hl=>?_)⟩
 ·have hl:=of_decide_eq_true hl
  have hi3:i<3:=by omega
  have hlen:=gPre_len g h hi
  have step:∀ v:Int,0<=v->v<=4096->([Value.int .i64 h.no,.int .i64 (hFree g h).1,.int .i64 (hFree g h).2]:List Value)[i]?=some (.int .i64 v)->gPre g h (i+1)=gPre g h i++toLe 2 v.toNat ->
    ∃ n32:Int,Al (Instr.index 295 (.agg ⟨[.int .i64 h.no,.int .i64 (hFree g h).1,.int .i64 (hFree g h).2]⟩) (.int .i64 i)) (.int .i64 n32)/\∃ (a41:Option Addr) (l41 c41:Nat),Al (Instr.sliceAt 55 (.slice (some ⟨w3.heap.size,0,none⟩) 256 256) (some (.int .i64 (IntKind.i64.wrap (4+(IntKind.i64.wrap ((i:Int)*2)))))) (some (.int .i64 (IntKind.i64.wrap (4+(IntKind.i64.wrap ((IntKind.i64.wrap ((i:Int)+1))*2)))))) none) (.slice a41 l41 c41)/\Cal Tryz.prog F_num_Put #[.slice a41 l41 c41,.int .u64 (IntKind.u64.wrap n32)] w7 fun r44 w8=>r44=.tuple #[] /\
     ((∃ i':Nat,i'<=3/\[Value.int .i64 (IntKind.i64.wrap ((i:Int)+1))]=[.int .i64 i']/\AtU w8 w3.heap.size 0 (u8L (gPre g h i'++List.replicate (252-2*i') 0))/\Mod No w3 w8)/\(3-nI [Value.int .i64 (IntKind.i64.wrap ((i:Int)+1))] 0).toNat<(3-nI [Value.int .i64 i] 0).toNat):=by
   intro v hv0 hv hg hp
   have e1:IntKind.i64.wrap (4+(IntKind.i64.wrap ((i:Int)*2)))=((4+2*i:Nat):Int):=by rw [wrap64 (x:=(i:Int)*2) (by omega) (by omega),wrap64 (by omega) (by omega)]; omega
   have e2:IntKind.i64.wrap (4+(IntKind.i64.wrap ((IntKind.i64.wrap ((i:Int)+1))*2)))=((6+2*i:Nat):Int):=by rw [wrap64 (x:=(i:Int)+1) (by omega) (by omega),wrap64 (x:=((i:Int)+1)*2) (by omega) (by omega),wrap64 (by omega) (by omega)]; omega
   rw [e1,e2]
   refine ⟨v,index_val Tryz.underlying295 arr3 Tryz.underlying3 (by simp) (by simp) hi3 hg,_,_,_,slice_lh elemN_bytes (by omega) (by omega) (by omega),?_⟩
   rw [show ((4+2*i:Nat):Int).toNat=4+2*i by omega,cut_some (by omega),show ((6+2*i:Nat):Int).toNat-(4+2*i)=2 by omega]
   refine putz (m:=2) hat hlen (by omega) rfl hv0 (by omega) (by omega) fun w8 m8 z8 d8=>⟨rfl,?_⟩
   rw [wrap64 (x:=(i:Int)+1) (by omega) (by omega)]
   rw [<- hp,show 252-2*i-2=252-2*(i+1) by omega] at d8
   exact ⟨⟨i+1,by omega,by simp,d8,m7.own m8 (Nat.le_refl _)⟩,by simp [nI,nth]; omega⟩
  match i,hi3 with
  | 0,_=>exact step h.no hno.1 (by omega) rfl rfl
  | 1,_=>exact step (hFree g h).1 (by omega) (by omega) rfl rfl
  | 2,_=>exact step (hFree g h).2 (by omega) (by omega) rfl rfl
 have hl:=of_decide_eq_false hl
 have hi3:i=3:=by omega
 subst hi3
 have hat:AtU w7 w3.heap.size 0 (u8L (gFront g h++List.replicate 246 0)):=hat
 have e6:gFront g h++List.replicate 246 (0:UInt8)=(gFront g h++List.replicate 6 0)++List.replicate 240 0:=by
  rw [List.append_assoc,List.replicate_append_replicate]
 rw [e6] at hat
 have m37:Mod No w3 w7:=m7
 have q3':=(b2.keep m3 id).keep m37 id
 have ad1:Addr.add ⟨w1.heap.size,0,none⟩ 1=⟨w1.heap.size,1,none⟩:=by rw [add_none]
 have ad17:Addr.add ⟨w1.heap.size,0,none⟩ 17=⟨w1.heap.size,17,none⟩:=by rw [add_none]
 rw [ad1,ad17]
 have hne:w1.heap.size≠w3.heap.size:=by have:=m3.size; omega
 obtain ⟨w9,p1,p2,p3,p4⟩:=copy_in (P:=Tryz.prog) (T:=55) (T2:=55) (ty:=3) (i:=16) (n:=240) (c:=240) (n2:=16) (c2:=16) (a2:=some ⟨w1.heap.size,1,none⟩) (src:=u8L h.bs) elemN_bytes hat.drew
  (by rw [length_u8L,List.length_append,List.length_append,gFront_len,List.length_replicate,List.length_replicate]; omega) (.inr ⟨_,_,rfl,At.bs hw q3'.at.drew⟩) (by simp [hw.1]) (one_u8L _)
 rw [show Nat.min 16 240*1=16 by decide,List.take_of_length_le (by rw [length_u8L,hw.1]; omega),zs (i:=16) (by rw [List.length_append,gFront_len,List.length_replicate]) (by rw [hw.1]; omega),hw.1] at p2
 have M9:Mod No w3 w9:=m37.drew.own p3 (Nat.le_refl _)
 have q9:=q3'.drew.keep p3 (fun e=>hne e)
 obtain ⟨w10,r1,r2,r3,r4⟩:=copy_in (P:=Tryz.prog) (T:=55) (T2:=55) (ty:=3) (i:=32) (n:=224) (c:=224) (n2:=8) (c2:=8) (a2:=some ⟨w1.heap.size,17,none⟩) (src:=u8L h.ss) elemN_bytes p2.drew
  (by rw [length_u8L,List.length_append,List.length_append,List.length_append,gFront_len,hw.1,List.length_replicate,List.length_replicate]; omega) (.inr ⟨_,_,rfl,At.ss hw q9.at.drew⟩) (by simp [hw.2]) (one_u8L _)
 rw [show Nat.min 8 224*1=8 by decide,List.take_of_length_le (by rw [length_u8L,hw.2]; omega),zs (i:=32) (by rw [List.length_append,List.length_append,gFront_len,hw.1,List.length_replicate]) (by rw [hw.2]; omega),hw.2] at r2
 have M10:Mod No w3 w10:=M9.drew.own r3 (Nat.le_refl _)
 refine ⟨_,_,_,slice_l elemN_bytes (by omega) (by omega),_,_,_,sliceA_all arr16,?_⟩
 rw [show (16:Int).toNat=16 from rfl,cut_some (by omega)]
 refine ⟨_,w9,p1,_,_,_,slice_l elemN_bytes (by omega) (by omega),_,_,_,sliceA_all arr8,?_⟩
 rw [show (32:Int).toNat=32 from rfl,cut_some (by omega)]
 exact ⟨_,w10,r1,h2 ho w10 _ (m2.no (m3.no M10)) (Nat.le_trans m2.size m3.size) r2⟩
end
end Go.Proofs.YtandmpcjjaabmaaGreat
end
section
open Go Go.Den Go.Proofs
namespace Go.Proofs.YtandmpcjjaabmaaGreat
def readH (xs:List UInt8):Hd:=⟨leN ((xs.drop 4).take 2),(xs.drop 16).take 16,(xs.drop 32).take 8⟩
theorem readH_wf {xs:List UInt8} (h:xs.length=256):hWf (readH xs):=⟨by simp [readH,h],by simp [readH,h]⟩
def hGet (g:Gm) (xs:List UInt8):Hd×Int:=if gOk g=false then (hZ,1) else if xs.length≠256 then (hZ,4) else if hOk g (readH xs)=true/\grpB g (readH xs)=xs then (readH xs,0) else (hZ,8)
theorem hGet_wf (g:Gm) (xs:List UInt8):hWf (hGet g xs).1:=by
 unfold hGet
 split
 ·exact hZ_wf
 split
 ·exact hZ_wf
 split
 ·rename_i h _; exact readH_wf (by omega)
 ·exact hZ_wf
section
variable {w:World} {K:Value->World->Prop}
theorem u8L_take (xs:List UInt8) (n:Nat):u8L (xs.take n)=(u8L xs).take n:=by simp [u8L,List.map_take]
theorem DiffN_c {a0:Option Addr} {l c0:Nat} (h63:l<=1000000000) (hk:∀ w' (f la:Int),Mod No w w'->K (.tuple #[.int .i64 f,.int .i64 la]) w'):Cal Tryz.prog F_num_Diff #[.slice a0 l c0,.slice none 0 0] w K:=by
 apply C_num_Diff
 unfold D_num_Diff
 have e1:(if (l:Int) > ((0:Nat):Int) then (l:Int) else ((0:Nat):Int))=l:=by split <;> omega
 have e2:(if (l:Int)<((0:Nat):Int) then (l:Int) else ((0:Nat):Int))=0:=by split <;> omega
 refine ⟨fun x w1=>∃ (i:Nat) (f la:Int) (y:Value),i<=l/\x=[.int .i64 f,.int .i64 la,.int .i64 i,y]/\Mod No w w1,fun x _=>(l-nI x 2).toNat,⟨0,-1,-1,_,by omega,rfl,Mod.refl _ _⟩,?_⟩
 rintro x w1 ⟨i,f,la,y,hi,rfl,hm⟩
 refine ⟨_,rfl,cond_of (fun hb=>?_) (fun hb=>?_)⟩
 ·have hb:=of_decide_eq_true hb
  have hi:i<l:=by split at hb <;> omega
  have hm':Mod No w (Go.Den.drew w1):=hm.drew
  refine Share.cut (fun z w3=>∃ (f' la':Int) (y':Value),z=[.int .i64 f',.int .i64 la',y']/\w3=Go.Den.drew w1) ?_ ?_
  ·refine Share.cut (fun z w3=>z=[.bool false]/\w3=Go.Den.drew w1) (ff (decide_eq_false (by split <;> omega)) ⟨rfl,rfl⟩) ?_
   rintro z w3 ⟨rfl,rfl⟩
   refine ⟨_,rfl,ff rfl ⟨_,rfl,Share.cut (fun z w3=>(∃ f':Int,z=[.int .i64 f'])/\w3=Go.Den.drew w1) (cond_of (fun _=>⟨⟨_,rfl⟩,rfl⟩) (fun _=>⟨⟨_,rfl⟩,rfl⟩)) ?_⟩⟩
   rintro z w3 ⟨⟨f',rfl⟩,rfl⟩
   exact ⟨_,_,_,rfl,rfl⟩
  ·rintro z w3 ⟨f',la',y',rfl,rfl⟩
   rw [wrap64 (x:=(i:Int)+1) (by omega) (by omega)]
   exact ⟨⟨i+1,f',la',y',by omega,by simp [nth],hm'⟩,by simp [nI,nth]; omega⟩
 ·exact ⟨_,rfl,_,rfl,hk _ _ _ hm⟩
theorem splice_b {h:Hd} {ys:List UInt8} (hw:hWf h) (hy:ys.length=16):splice (hV h) 1 (u8L ys)=hV ⟨h.no,ys,h.ss⟩:=by
 unfold splice hV
 rw [List.take_succ_cons,List.take_zero,length_u8L,hy,show 1+16=16+1 from rfl,List.drop_succ_cons,List.drop_append,List.drop_eq_nil_of_le (by rw [length_u8L,hw.1]; omega),length_u8L,hw.1,Nat.sub_self,List.drop_zero]
 rfl
theorem splice_s {h:Hd} {ys:List UInt8} (hw:hWf h) (hy:ys.length=8):splice (hV h) 17 (u8L ys)=hV ⟨h.no,h.bs,ys⟩:=by
 unfold splice hV
 rw [show 17=16+1 from rfl,List.take_succ_cons,length_u8L,hy,show 16+1+8=24+1 from rfl,List.drop_succ_cons,List.drop_eq_nil_of_le (by rw [List.length_append,length_u8L,length_u8L,hw.1,hw.2]; omega),List.take_append_of_le_length (by rw [length_u8L,hw.1]; omega),List.take_of_length_le (by rw [length_u8L,hw.1]; omega),List.append_nil]
 rfl
set_option maxRecDepth 4000 in
theorem headGet_c {g:Gm} {a:Option Addr} {l c:Nat} {xs:List UInt8} (hl:xs.length=l) (hc:l<=c) (hr:Row w a (u8L xs)) (h63:l<=1048576)
  (hk:∀ w',Mod No w w'->K (.tuple #[.agg ⟨hV (hGet g xs).1⟩,.int .i64 (hGet g xs).2]) w'):Cal Tryz.prog F_group_Get #[.agg ⟨gV g⟩,.slice a l c] w K:=by
 apply C_group_Get
 unfold D_group_Get
 obtain ⟨w1,a1,a2,a3,a4⟩:=box_u (P:=Tryz.prog) (w:=w) (T:=39) (cs:=gV g)
 obtain ⟨w2,b1,b2,b3,b4⟩:=new_u (P:=Tryz.prog) (w:=w1) (T:=171) zero_head
 have m2:=a3.no b3
 have q2:=a2.keep b3 id
 have fin:∀ (w':World) (h:Hd) (e:Int),Mod No w2 w'->(h,e)=hGet g xs->∃ w3:World,RuU (Instr.storeAt 171 (.pointer (some ⟨w1.heap.size,0,none⟩)) (.agg ⟨hV h⟩)) w' w3/\∃ gR2:Array Value,Ru (Instr.loadAt 171 (.pointer (some ⟨w1.heap.size,0,none⟩))) w3 (.agg gR2) w3/\K (.tuple #[.agg gR2,.int .i64 e]) w3:=fun w' h e m he=>by
  have hw:hWf h:=by have:=hGet_wf g xs; rw [<- he] at this; exact this
  obtain ⟨w3,c1,c2,c3,c4⟩:=(b2.keep m id).put (T:=171) (vs:=hV h) agg_head (hV_len hZ_wf) (hV_len hw) (one_hV _)
  refine ⟨w3,c1,_,c2.at.all agg_head (hV_len hw),?_⟩
  have:=hk w3 ((m2.no m).own c3 a3.size)
  rw [<- he] at this
  exact this
 refine ⟨_,w1,a1,_,w2,b1,_,q2.at.all agg_geo rfl,geoRight_c fun w3 m3=>⟨_,rfl,cond_of (fun h=>⟨_,build_head0,?_⟩) (fun h=>?_)⟩⟩
 ·exact fin w3 hZ 1 m3 (by unfold hGet; rw [if_pos (by simpa using h)])
 have hg:gOk g=true:=by simpa using h
 rw [bneI]
 refine cond_of (fun h=>⟨_,build_head0,?_⟩) (fun h=>?_)
 ·have h:=of_decide_eq_true h
  exact fin w3 hZ 4 m3 (by unfold hGet; rw [if_neg (by rw [hg]; simp),if_pos (by omega)])
 have hl2:xs.length=256:=by have:=of_decide_eq_false h; omega
 have hl':l=256:=by omega
 subst hl'
 have hr3:=(hr.nos m2).nos m3
 have n4:leN ((xs.drop 4).take 2)<256 ^ 2:=leN_sub (by omega)
 refine ⟨_,_,_,slice_lh elemN_bytes (by omega) (by omega) (by omega),?_⟩
 refine Get_c (xs:=(xs.drop 4).take 2) (by simp; omega) (hr3.cut (by omega) (by omega)) (by omega) ⟨_,rfl,?_⟩
 rw [List.take_of_length_le (i:=8) (by simp; omega),wrap64 (x:=(leN ((xs.drop 4).take 2):Int)) (by omega) (by omega)]
 obtain ⟨w7,c1,c2,c3,c4⟩:=new_u (P:=Tryz.prog) (w:=w3) (T:=171) zero_head
 obtain ⟨w8,d1,d2,d3,d4⟩:=c2.put (T:=171) (vs:=hV ⟨leN ((xs.drop 4).take 2),List.replicate 16 0,List.replicate 8 0⟩) agg_head (hV_len hZ_wf) (hV_len ⟨rfl,rfl⟩) (one_hV _)
 have m8:Mod No w3 w8:=c3.own d3 (Nat.le_refl _)
 have ad1:Addr.add ⟨w3.heap.size,0,none⟩ 1=⟨w3.heap.size,1,none⟩:=by rw [add_none]
 have ad17:Addr.add ⟨w3.heap.size,0,none⟩ 17=⟨w3.heap.size,17,none⟩:=by rw [add_none]
 have hr8:Row (Go.Den.drew w8) a (u8L xs):=hr3.nos m8.drew
 have l16:((xs.drop 16).take 240).length=240:=by simp; omega
 have l32:((xs.drop 32).take 224).length=224:=by simp; omega
 obtain ⟨w9,p1,p2,p3,p4⟩:=copy_in (P:=Tryz.prog) (T:=55) (T2:=55) (ty:=3) (i:=1) (n:=16) (c:=16) (n2:=240) (c2:=c-16) (a2:=cutA a c 16 1) (src:=u8L ((xs.drop 16).take 240)) elemN_bytes d2.drew
  (by rw [hV_len ⟨rfl,rfl⟩]; omega) (hr8.cut (by omega) (by omega)) (by rw [length_u8L,l16]) (one_u8L _)
 have t16:(u8L ((xs.drop 16).take 240)).take (Nat.min 240 16*1)=u8L ((xs.drop 16).take 16):=by
  rw [show Nat.min 240 16*1=16 by decide,<- u8L_take,List.take_take]; rfl
 rw [t16,splice_b ⟨rfl,rfl⟩ (by simp; omega)] at p2
 have M9:Mod No w3 w9:=m8.drew.own p3 (Nat.le_refl _)
 have hr9:Row (Go.Den.drew w9) a (u8L xs):=hr3.nos M9.drew
 obtain ⟨w10,r1,r2,r3,r4⟩:=copy_in (P:=Tryz.prog) (T:=55) (T2:=55) (ty:=3) (i:=17) (n:=8) (c:=8) (n2:=224) (c2:=c-32) (a2:=cutA a c 32 1) (src:=u8L ((xs.drop 32).take 224)) elemN_bytes p2.drew
  (by rw [hV_len ⟨by simp; omega,rfl⟩]; omega) (hr9.cut (by omega) (by omega)) (by rw [length_u8L,l32]) (one_u8L _)
 have t32:(u8L ((xs.drop 32).take 224)).take (Nat.min 224 8*1)=u8L ((xs.drop 32).take 8):=by
  rw [show Nat.min 224 8*1=8 by decide,<- u8L_take,List.take_take]; rfl
 rw [t32,splice_s ⟨by simp; omega,rfl⟩ (by simp; omega)] at r2
 have r2:AtU w10 w3.heap.size 0 (hV (readH xs)):=r2
 have hwf:=readH_wf hl2
 have M10:Mod No w3 w10:=M9.drew.own r3 (Nat.le_refl _)
 have m210:=m3.no M10
 refine ⟨_,build_head _,_,w7,c1,w8,d1,?_⟩
 rw [ad1,ad17]
 refine ⟨_,_,_,sliceA_all arr16,_,_,_,slice_l elemN_bytes (by omega) (by omega),_,w9,p1,_,_,_,sliceA_all arr8,_,_,_,slice_l elemN_bytes (by omega) (by omega),_,w10,r1,_,(q2.keep m210 id).at.all agg_geo rfl,_,r2.at.all agg_head (hV_len hwf),?_⟩
 have last:∀ (w13:World) (b:Bool),Mod No w10 w13->(b=false↔hOk g (readH xs)=true/\grpB g (readH xs)=xs)->∃ b53:Bool,nth [.bool b] 0=.bool b53/\(bif b53 then
   ∃ g54:Array Value,Al (Instr.build 171 #[]) (.agg g54)/\∃ w14:World,RuU (Instr.storeAt 171 (.pointer (some ⟨w1.heap.size,0,none⟩)) (.agg g54)) w13 w14/\∃ gR4_3:Array Value,Ru (Instr.loadAt 171 (.pointer (some ⟨w1.heap.size,0,none⟩))) w14 (.agg gR4_3) w14/\K (.tuple #[.agg gR4_3,.int .i64 8]) w14
   else
   ∃ g55:Array Value,Ru (Instr.loadAt 171 (.pointer (some ⟨w3.heap.size,0,none⟩))) w13 (.agg g55) w13/\∃ w15:World,RuU (Instr.storeAt 171 (.pointer (some ⟨w1.heap.size,0,none⟩)) (.agg g55)) w13 w15/\∃ gR4_4:Array Value,Ru (Instr.loadAt 171 (.pointer (some ⟨w1.heap.size,0,none⟩))) w15 (.agg gR4_4) w15/\K (.tuple #[.agg gR4_4,.int .i64 0]) w15):=by
  intro w13 b m13 hb
  refine ⟨_,rfl,cond_of (fun h=>⟨_,build_head0,?_⟩) (fun h=>⟨_,(r2.keep m13 id).at.all agg_head (hV_len hwf),?_⟩)⟩
  ·exact fin w13 hZ 8 (m210.no m13) (by unfold hGet; rw [if_neg (by rw [hg]; simp),if_neg (by omega),if_neg fun e=>by rw [hb.2 e] at h; cases h])
  ·exact fin w13 (readH xs) 0 (m210.no m13) (by unfold hGet; rw [if_neg (by rw [hg]; simp),if_neg (by omega),if_pos (hb.1 h)])
 refine hPut_c hwf (fun ho w11 m11=>⟨_,_,_,_,rfl,DiffN_c (by omega) fun w12 f la m12=>⟨_,_,rfl,Share.dup (tt rfl ?_)⟩⟩) (fun ho w11 q m11 hqn hat=>⟨_,_,_,_,rfl,Diff_c (xs:=xs) (ys:=grpB g (readH xs)) hl2 (grpB_len hwf) (by omega) ((hr3.nos M10).nos m11) (.inr ⟨_,_,rfl,hat.at⟩) fun w12 f la m12 hf=>⟨_,_,rfl,Share.dup (ff rfl ?_)⟩⟩)
 ·refine last w12 true (m11.no m12) ⟨fun e=>(by cases e),fun e=>?_⟩
  rw [ho] at e; cases e.1
 ·refine last w12 _ (m11.no m12) ?_
  rw [decide_eq_false_iff_not]
  constructor
  ·intro h0
   refine ⟨ho,?_⟩
   exact Classical.not_not.1 fun hn=>h0 (hf.2 fun e=>hn e.symm)
  ·intro h0 h1
   exact hf.1 h1 h0.2.symm
end
end Go.Proofs.YtandmpcjjaabmaaGreat
end
section
open Go Go.Den Go.Proofs
namespace Go.Den
section
variable {P:Program} {w:World}
def elemG (P:Program) (T:TypeId) (k bytes:Nat):Prop:=∃ e i zv,P.underlying T=some (.slice e)/\P.info? e=some i/\i.size=k/\i.zero=some zv/\zv.cells.size=k/\i.bytes=bytes
def elemGb (P:Program) (T:TypeId):Option (Nat×Nat×Nat) :=
 match P.underlying T with
 | some (.slice e)=>match P.info? e with
  | some i=>match i.zero with
   | some z=>some (i.size,z.cells.size,i.bytes)
   | none=>none
  | none=>none
 | _=>none
theorem elemG_of {T:TypeId} {k bytes:Nat} (h:elemGb P T=some (k,k,bytes)):elemG P T k bytes:=by
 unfold elemGb at h
 split at h
 ·rename_i e he
  split at h
  ·rename_i i hi
   split at h
   ·rename_i zv hz
    have h:=Option.some.inj h
    simp only [Prod.mk.injEq] at h
    exact ⟨e,i,zv,he,hi,h.1,hz,h.2.1,h.2.2⟩
   ·cases h
  ·cases h
 ·cases h
theorem Ow.nilG {base k bytes:Nat} {T:TypeId} (hT:elemG P T k bytes):Ow P w base T k none 0 0 []:=by
 obtain ⟨e,i,zv,he,_⟩:=hT
 exact ⟨e,he,World.ownsRow_nil w base e k⟩
theorem Ow.appG {base k bytes l c m c2:Nat} {T ty:TypeId} {a:Option Addr} {ad:Addr} {xs ys:List Value} (hT:elemG P T k bytes) (hk:0<k) (h:Ow P w base T k a l c xs)
  (hr:Row w (some ad) ys) (hl:ys.length=m*k) (hm:0<m) (h1:∀ v∈ys,v.oneCell'=true) (h63:(l+m)*bytes<=140737488355328) (hb:0<bytes) (hbase:base<=w.heap.size) :
  ∃ q c' w',(Builtin.append_ #[T,T] ty #[.slice a l c,.slice (some ad) m c2]).run P w=.ok (.slice (some q) (l+m) c') w'/\Ow P w' base T k (some q) (l+m) c' (xs++ys)/\Mod (fun x=>∃ q,a=some q/\x=q.block) w w' /\
   ((∃ q',a=some q'/\q.block=q'.block)\/w.heap.size<=q.block):=by
 obtain ⟨e,i,zv,he,hi,hsz,hz,hzc,hby⟩:=hT
 obtain ⟨e',he',how⟩:=h
 have:e'=e:=by rw [he] at he'; simpa using he'.symm
 subst this
 have hlm:l+m<=(l+m)*bytes:=Nat.le_mul_of_pos_right _ hb
 have hmb:m*bytes<=(l+m)*bytes:=Nat.mul_le_mul_right _ (by omega)
 have hcell:∀ j u,ys[j]?=some u->w.cell? (ad.add j)=some u:=by
  intro j u hj
  rcases hr with hr | ⟨b,o,e,hat⟩
  ·subst hr; simp at hj
  ·simp at e; subst e; exact hat.cell hj
 obtain ⟨v',w',hrun,how',hgr,_⟩:=run_append_own w base T ty e' i zv k bytes he hi hz hsz hby hzc hk (.slice a l c) l xs how ad m c2 ys hl hcell h1 (by simp [maxLen]; omega) h63 hbase
 have hmod:Mod (fun x=>∃ q,a=some q/\x=q.block) w w':=(Mod.grown hgr).mono fun x hx e=>by
  cases a with
  | none=>cases e
  | some q=>exact ⟨q,rfl,by simpa [Value.ownBlock] using e.symm⟩
 rcases how.2 with ⟨hv,hx⟩ | ⟨g,cap,cur,hv,hbg,hg,hnc,hcm,hcs,htake⟩
 ·simp at hv
  obtain ⟨rfl,rfl,rfl⟩:=hv
  have hr2:=run_append_nil (P:=P) w T ty e' i zv he hi hz ad m c2 ys (by rw [hsz]; exact hl) hcell hm (by omega) (by rw [hby]; omega)
  have hrun':=hrun
  rw [hr2] at hrun'
  simp only [Result.ok.injEq] at hrun'
  obtain ⟨rfl,_⟩:=hrun'
  rw [Nat.zero_add] at how' |-
  exact ⟨_,_,w',hrun,⟨e',he,how'⟩,hmod,.inr (Nat.le_refl _)⟩
 ·simp at hv
  obtain ⟨rfl,rfl⟩:=hv
  by_cases hroom:l+m<=c
  ·have hr2:=run_append_room (P:=P) w T ty e' i he hi g l c cur hg ad m c2 ys (by rw [hsz]; exact hl) hcell h1 hroom (by rw [hsz,hl,hcs,<- Nat.add_mul]; exact Nat.mul_le_mul_right _ hroom)
   have hrun':=hrun
   rw [hr2] at hrun'
   simp only [Result.ok.injEq] at hrun'
   obtain ⟨rfl,_⟩:=hrun'
   exact ⟨_,_,w',hrun,⟨e',he,how'⟩,hmod,.inl ⟨_,rfl,rfl⟩⟩
  ·have holds:∀ j u,xs[j]?=some u->w.cell? ((⟨g,0,none⟩:Addr).add j)=some u:=how.cells (g:=g) rfl
   have hr2:=run_append_grow (P:=P) w T ty e' i zv he hi hz ⟨g,0,none⟩ l c xs (by rw [hsz]; exact how.1) holds ad m c2 ys (by rw [hsz]; exact hl) hcell (by omega) (by omega) (growslice_fits (by omega) (by rw [hby]; exact h63))
   have hrun':=hrun
   rw [hr2] at hrun'
   simp only [Result.ok.injEq] at hrun'
   obtain ⟨rfl,_⟩:=hrun'
   exact ⟨_,_,w',hrun,⟨e',he,how'⟩,hmod,.inr (Nat.le_refl _)⟩
theorem Ow.setK {base k l c g i:Nat} {T T':TypeId} {ys:List Value} {v:Value} (h:Ow P w base T k (some ⟨g,0,none⟩) l c ys) (hT:scal P T'=true) (hi:i<l*k) (hv:v.oneCell'=true) :
  ∃ w',(Instr.storeAt T' (.pointer (some ⟨g,i,none⟩)) v).run P w=.ok () w'/\Ow P w' base T k (some ⟨g,0,none⟩) l c (ys.set i v)/\Mod (fun x=>x=g) w w':=by
 have hlen:=h.len
 obtain ⟨e,he,h1,h2⟩:=h
 rcases h2 with ⟨hn,_⟩ | ⟨g',cap,cur,hw,hb,hg,hle,hm,hsz,ht⟩
 ·cases hn
 ·simp at hw
  obtain ⟨rfl,rfl⟩:=hw
  have hcur:w.heap[g]?=some (.cells ⟨cur.toList⟩ e (0,0)):=hg
  have hmul:l*k<=c*k:=Nat.mul_le_mul_right _ hle
  have hci:i<cur.toList.length:=by simp [hsz]; omega
  refine ⟨_,store_cell hT hcur hci (by simp) hv,⟨e,he,by simpa using h1,.inr ⟨g,c,⟨cur.toList.set i v⟩,rfl,hb,heap_put_same (lt_of_heap hg),hle,hm,by simp [hsz],?_⟩⟩,(Mod.refl (fun x=>x=g) w).put (.inr rfl) _⟩
  show (cur.toList.set i v).take (l*k)=ys.set i v
  rw [List.take_set,ht]
end
end Go.Den
end
section
open Go Go.Den Go.Proofs
namespace Go.Den
def clrB (xs:List UInt8) (i:Nat):List UInt8:=xs.set (i / 8) (UInt8.ofNat ((xs.getD (i / 8) 0).toNat &&& (255-2 ^ (i % 8))))
theorem clrB_len (xs:List UInt8) (i:Nat):(clrB xs i).length=xs.length:=by simp [clrB]
theorem clrB_byte (xs:List UInt8) (i:Nat):(UInt8.ofNat ((xs.getD (i / 8) 0).toNat &&& (255-2 ^ (i % 8)))).toNat=(xs.getD (i / 8) 0).toNat &&& (255-2 ^ (i % 8)):=by
 have h:=getD_lt (xs:=xs) (k:=i / 8)
 have:(xs.getD (i / 8) 0).toNat &&& (255-2 ^ (i % 8))<=(xs.getD (i / 8) 0).toNat:=Nat.and_le_left
 rw [UInt8.toNat_ofNat']; omega
theorem bitB_clrB {xs:List UInt8} {i j:Nat} (hi:i<8*xs.length):bitB (clrB xs i) j=(bitB xs j&&!decide (i=j)):=by
 unfold bitB clrB
 by_cases hj:i / 8=j / 8
 ·rw [<- hj,List.getD_eq_getElem?_getD,List.getElem?_set_self (by omega)]
  show (UInt8.ofNat _).toNat.testBit _=_
  rw [clrB_byte,Nat.testBit_and]
  congr 1
  have hp:=p8 (k:=i)
  have e:255-2 ^ (i % 8)=2 ^ 8-(2 ^ (i % 8)+1):=by omega
  rw [e,Nat.testBit_two_pow_sub_succ (by omega),Nat.testBit_two_pow]
  have h8:j % 8<8:=by omega
  rw [decide_eq_true h8,Bool.true_and]
  congr 1
  exact decide_eq_decide.2 ⟨fun h=>by omega,fun h=>by rw [h]⟩
 ·rw [List.getD_eq_getElem?_getD,List.getElem?_set_ne hj,<- List.getD_eq_getElem?_getD,decide_eq_false (fun h=>hj (by rw [h]))]
  simp
def putB (xs:List UInt8) (i:Nat) (on:Bool):List UInt8:=if on=true then setB (clrB xs i) i else clrB xs i
theorem putB_len (xs:List UInt8) (i:Nat) (on:Bool):(putB xs i on).length=xs.length:=by
 unfold putB; split <;> simp [setB_len,clrB_len]
theorem bitB_putB {xs:List UInt8} {i j:Nat} {on:Bool} (hi:i<8*xs.length):bitB (putB xs i on) j=if i=j then on else bitB xs j:=by
 unfold putB
 cases on
 ·rw [if_neg (by simp),bitB_clrB hi]
  by_cases h:i=j
  ·rw [if_pos h,decide_eq_true h]; simp
  ·rw [if_neg h,decide_eq_false h]; simp
 ·rw [if_pos rfl,bitB_setB (by rw [clrB_len]; exact hi),bitB_clrB hi]
  by_cases h:i=j
  ·rw [if_pos h,decide_eq_true h]; simp
  ·rw [if_neg h,decide_eq_false h]; simp
def clearB (xs:List UInt8) (i:Nat):Bool:=!bitB xs i
def fromB (n f:Int):Int:=if f<0\/n<f then 0 else f
def upB (xs:List UInt8) (n:Int):Nat:=(min (max n 0) (8*xs.length)).toNat
def firstB (xs:List UInt8) (n f:Int):Int :=
 match (List.range (upB xs n)).find? (fun i=>clearB xs i&&decide (fromB n f<=i)) with
 | some i=>i
 | none=>match (List.range (upB xs n)).find? (clearB xs) with
  | some i=>i
  | none=>-1
theorem find_range_succ (p:Nat->Bool) (n:Nat):(List.range (n+1)).find? p=match (List.range n).find? p with | some i=>some i | none=>if p n=true then some n else none:=by
 rw [List.range_succ,List.find?_append]
 cases h:(List.range n).find? p with
 | some i=>rfl
 | none=>simp only [Option.none_or,List.find?_cons,List.find?_nil]; cases p n <;> rfl
theorem find_range_mono {p : Nat → Bool} {m n i : Nat} (h : (List.range m).find? p = some i) (hm : m ≤ n) : (List.range n).find? p = some i := by
  induction n with
  | zero => have : m = 0 := by omega
            subst this; exact h
  | succ n ih =>
    by_cases e : m = n + 1
    · rw [← e]; exact h
    · rw [find_range_succ, ih (by omega)]
theorem find_range_some {p:Nat->Bool} {n i:Nat} (h:(List.range n).find? p=some i):p i=true/\i<n :=
 ⟨List.find?_some h,List.mem_range.1 (List.mem_of_find?_eq_some h)⟩
theorem firstB_some {xs:List UInt8} {n f:Int} (h:0<=firstB xs n f):∃ i:Nat,firstB xs n f=i/\bitB xs i=false/\(i:Int)<n/\i<8*xs.length:=by
 unfold firstB at h |-
 have up:∀ i,i<upB xs n->(i:Int)<n/\i<8*xs.length:=fun i hi=>by unfold upB at hi; omega
 split at h
 ·rename_i i hi
  obtain ⟨h1,h2⟩:=find_range_some hi
  refine ⟨i,rfl,?_,up i h2⟩
  simp only [clearB,Bool.and_eq_true,Bool.not_eq_true'] at h1
  exact h1.1
 ·rename_i h0
  rw [h0] at *
  split at h
  ·rename_i i hi
   obtain ⟨h1,h2⟩:=find_range_some hi
   refine ⟨i,rfl,?_,up i h2⟩
   simpa [clearB] using h1
  ·omega
end Go.Den
end
section
open Go Go.Den Go.Proofs
namespace Go.Den
end Go.Den
namespace Go.Proofs.YtandmpcjjaabmaaGreat
section
variable {w:World} {K:Value->World->Prop}
theorem make_z {n:Nat} (hn:n<=4096):∃ w',(Instr.makeSlice 55 (.int .i64 n) (.int .i64 n)).run Tryz.prog w=.ok (.slice (some ⟨w.heap.size,0,none⟩) n n) w'/\AtU w' w.heap.size 0 (u8L (List.replicate n 0))/\Mod No w w'/\w'.heap.size=w.heap.size+1:=by
 obtain ⟨w4,c1,c2,c3,c4⟩:=makeSlice_run (P:=Tryz.prog) (w:=w) (n:=n) elemZ_bytes (by omega) (by omega) (by omega)
 refine ⟨w4,c1,?_,c3,c4⟩
 have e:List.replicate (n*1) (Value.int .u8 0)=u8L (List.replicate n 0):=by
  rw [u8L,List.map_replicate,Nat.mul_one]; rfl
 rw [<- e]; exact c2
end
end Go.Proofs.YtandmpcjjaabmaaGreat
end
section
open Go Go.Den Go.Proofs
namespace Go.Den
structure Nd where
 kind:Int
 links:Int
 size:Int
 id:Int
 p:List Int
deriving DecidableEq
theorem iL_inj:∀ {x y:List Int},iL x=iL y->x=y
 | [],[],_=>rfl
 | [],_::_,h=>by cases h
 | _::_,[],h=>by cases h
 | a::x,b::y,h=>by
  have h1:(Value.int .i64 a)::iL x=(Value.int .i64 b)::iL y:=h
  obtain ⟨h2,h3⟩:=List.cons.inj h1
  have h4:a=b:=by simpa using h2
  rw [iL_inj h3,h4]
def ndL (i:Nd):List Int:=i.kind::i.links::i.size::i.id::i.p
def nV (i:Nd):List Value:=iL (ndL i)
def nWf (i:Nd):Prop:=i.p.length=8
def nZ:Nd:=⟨0,0,0,0,[0,0,0,0,0,0,0,0]⟩
theorem nZ_wf:nWf nZ:=rfl
theorem nV_len {i:Nd} (h:nWf i):(nV i).length=12:=by unfold nV; rw [length_iL]; simp [ndL]; exact h
theorem one_nV (i:Nd):∀ v∈nV i,v.oneCell'=true:=one_iL _
def nSized (i:Nd):Bool:=decide (0<=i.links/\i.links<=1000/\0<=i.size/\i.size<=1066496/\1<=i.id/\i.id<=4611686018427387904)
def nIn (n:Int):Bool:=decide (0<=n/\n<4096)
def nOk (i:Nd):Bool:=i.p.all nIn&&(if i.kind=0 then decide (i=nZ) else if i.kind=2 then decide (i.size % 256=0)&&nSized i else if i.kind=1 then nSized i else if i.kind=3 then nSized i&&decide (1<=i.size/\i.size<=255) else false)
end Go.Den
namespace Go.Proofs.YtandmpcjjaabmaaGreat
theorem agg_ino:aggN Tryz.prog 51=some 12:=by kernel_rfl
theorem zero_ino:zeroC Tryz.prog 51=some (nV nZ):=by kernel_rfl
theorem build_ino0:Al (Instr.build 51 #[]) (.agg ⟨nV nZ⟩):=fun w=>by kernel_rfl
theorem arrI8:arrN Tryz.prog 249=some (8,1):=by kernel_rfl
theorem arrI6:arrN Tryz.prog 49=some (6,1):=by kernel_rfl
theorem aggI8:aggN Tryz.prog 249=some 8:=by kernel_rfl
theorem zeroI8:zeroC Tryz.prog 249=some (iL [0,0,0,0,0,0,0,0]):=by kernel_rfl
theorem elemN_ints:elemN Tryz.prog 64=some 1:=by kernel_rfl
theorem ieq (s t:Nd) (hs:nWf s) (ht:nWf t) {o1 o2:Operand}:Al (eqS .eql 51 o1 o2 (.agg ⟨nV s⟩) (.agg ⟨nV t⟩)) (.bool (decide (s=t))):=fun w=>by
 have hc:∀ s:Nd,nWf s->confK (List.replicate 12 (.i .i64)) (nV s):=fun s hs=>⟨by rw [nV_len hs]; rfl,fun j k v hk hv=>by
  have e1:k=.i .i64:=by
   rw [List.getElem?_replicate] at hk
   split at hk
   ·exact (Option.some.inj hk).symm
   ·cases hk
  subst e1
  unfold nV iL at hv
  rw [List.getElem?_map] at hv
  cases hx2:(ndL s)[j]? with
  | none=>rw [hx2] at hv; cases hv
  | some c=>rw [hx2] at hv; cases hv; rfl⟩
 obtain ⟨b,hb,h1,_⟩:=eq_deep (P:=Tryz.prog) (T:=51) (ks:=List.replicate 12 (.i .i64)) (by kernel_rfl) (by kernel_rfl) agg_ino (o1:=o1) (o2:=o2) (hc s hs) (hc t ht) w
 rw [h1]
 have:b=decide (s=t):=by
  rw [Bool.eq_iff_iff,hb,decide_eq_true_iff]
  constructor
  ·intro e
   have e2:=iL_inj e
   obtain ⟨a,b,c,d,p⟩:=s
   obtain ⟨a',b',c',d',p'⟩:=t
   simpa [ndL] using e2
  ·intro e; rw [e]
 rw [this]
section
variable {w:World} {K:Value->World->Prop}
theorem sized_c {i:Nd} (_hw:nWf i) (hk:∀ w',Mod No w w'->K (.bool (nSized i)) w'):Cal Tryz.prog F_inode_sized #[.agg ⟨nV i⟩] w K:=by
 apply C_inode_sized
 unfold D_inode_sized
 obtain ⟨w1,a1,a2,a3,a4⟩:=box_u (P:=Tryz.prog) (w:=w) (T:=51) (cs:=nV i)
 have l1:Ru (Instr.loadAt 3 (.pointer (some (Addr.add ⟨w.heap.size,0,none⟩ 1)))) w1 (.int .i64 i.links) w1:=a2.at.fld sc_int rfl
 have l2:Ru (Instr.loadAt 2 (.pointer (some (Addr.add ⟨w.heap.size,0,none⟩ 2)))) w1 (.int .i64 i.size) w1:=a2.at.fld sc_i64 rfl
 have l3:Ru (Instr.loadAt 2 (.pointer (some (Addr.add ⟨w.heap.size,0,none⟩ 3)))) w1 (.int .i64 i.id) w1:=a2.at.fld sc_i64 rfl
 have no:∀ {p:Prop},(¬ (0<=i.links/\i.links<=1000/\0<=i.size/\i.size<=1066496/\1<=i.id/\i.id<=4611686018427387904))->∃ b2:Bool,nth [.bool false] 0=.bool b2/\K (.bool b2) w1:=fun h=>⟨_,rfl,by
  have e:false=nSized i:=by unfold nSized; rw [decide_eq_false h]
  rw [e]; exact hk _ a3⟩
 refine ⟨_,w1,a1,Share.dup ⟨_,l1,cond_of (fun h1=>⟨_,l1,cond_of (fun h2=>⟨_,l2,cond_of (fun h3=>⟨_,l2,cond_of (fun h4=>⟨_,l3,cond_of (fun h5=>⟨_,l3,_,rfl,?_⟩) (fun h5=>no (p:=True) fun e=>of_decide_eq_false h5 (by omega))⟩) (fun h4=>no (p:=True) fun e=>of_decide_eq_false h4 (by omega))⟩) (fun h3=>no (p:=True) fun e=>of_decide_eq_false h3 (by omega))⟩) (fun h2=>no (p:=True) fun e=>of_decide_eq_false h2 (by omega))⟩) (fun h1=>no (p:=True) fun e=>of_decide_eq_false h1 (by omega))⟩⟩
 have h1:=of_decide_eq_true h1
 have h2:=of_decide_eq_true h2
 have h3:=of_decide_eq_true h3
 have h4:=of_decide_eq_true h4
 have h5:=of_decide_eq_true h5
 have e:decide (i.id<=4611686018427387904)=nSized i:=by
  unfold nSized
  by_cases h6:i.id<=4611686018427387904
  ·rw [decide_eq_true h6,decide_eq_true (show _/\_/\_/\_/\_/\_ from ⟨h1,h2,h3,h4,h5,h6⟩)]
  ·rw [decide_eq_false h6,decide_eq_false fun e=>h6 e.2.2.2.2.2]
 rw [e]; exact hk _ a3
theorem allP_c {i:Nd} (hw:nWf i) (hk:∀ w',Mod No w w'->K (.agg ⟨iL i.p⟩) w'):Cal Tryz.prog F_inode_all #[.agg ⟨nV i⟩] w K:=by
 apply C_inode_all
 unfold D_inode_all
 obtain ⟨w1,a1,a2,a3,a4⟩:=box_u (P:=Tryz.prog) (w:=w) (T:=51) (cs:=nV i)
 obtain ⟨w2,b1,b2,b3,b4⟩:=new_u (P:=Tryz.prog) (w:=w1) (T:=249) zeroI8
 obtain ⟨w3,c1,c2,c3,c4⟩:=new_u (P:=Tryz.prog) (w:=w2) (T:=249) zeroI8
 have m3:=a3.no (b3.no c3)
 have q1:=(a2.keep b3 id).keep c3 id
 obtain ⟨k,l,s,d,p⟩:=i
 have hw:p.length=8:=hw
 match p,hw with
 | [p0,p1,p2,p3,p4,p5,p6,p7],_ =>
 have ad4:Addr.add ⟨w.heap.size,0,none⟩ 4=⟨w.heap.size,4,none⟩:=by rw [add_none]
 have hsub:At w3 w.heap.size 4 (iL [p0,p1,p2,p3,p4,p5]):=by
  have:=q1.at.sub (i:=4) (m:=6) (show 4+6<=12 by decide)
  exact this
 obtain ⟨w4,d1,d2,d3,d4⟩:=copy_in (P:=Tryz.prog) (T:=64) (T2:=64) (ty:=3) (i:=0) (n:=8) (c:=8) (n2:=6) (c2:=6) (a2:=some ⟨w.heap.size,4,none⟩) (src:=iL [p0,p1,p2,p3,p4,p5]) elemN_ints c2.drew (by rw [length_iL]; decide) (.inr ⟨_,_,rfl,hsub.drew⟩) (by rw [length_iL]; rfl) (one_iL _)
 have d2:AtU w4 w2.heap.size 0 (iL [p0,p1,p2,p3,p4,p5,0,0]):=d2
 have q4:=q1.drew.keep d3 (fun e=>by have:=a3.size; omega)
 obtain ⟨w5,e1,e2,e3,e4⟩:=d2.store (P:=Tryz.prog) (T:=3) (i:=6) (v:=.int .i64 p6) sc_int (show 6<8 by decide) rfl
 obtain ⟨w6,f1,f2,f3,f4⟩:=e2.store (P:=Tryz.prog) (T:=3) (i:=7) (v:=.int .i64 p7) sc_int (show 7<8 by decide) rfl
 have f2:AtU w6 w2.heap.size 0 (iL [p0,p1,p2,p3,p4,p5,p6,p7]):=f2
 have M6:Mod No w2 w6:=((c3.drew.own d3 (Nat.le_refl _)).own e3 (Nat.le_refl _)).own f3 (Nat.le_refl _)
 have q2:=b2.keep M6 id
 obtain ⟨w7,g1,g2,g3,g4⟩:=q2.put (T:=249) (vs:=iL [p0,p1,p2,p3,p4,p5,p6,p7]) aggI8 (by rw [length_iL]; rfl) (by rw [length_iL]; rfl) (one_iL _)
 refine ⟨_,w1,a1,_,w2,b1,_,w3,c1,_,_,_,sliceA_all arrI8,?_⟩
 rw [ad4]
 refine ⟨_,_,_,sliceA_all arrI6,_,w4,d1,_,q4.at.fld (j:=10) sc_int rfl,_,q4.at.fld (j:=11) sc_int rfl,_,index_arr arrI8 (by decide) (by decide),w5,?_,_,index_arr arrI8 (by decide) (by decide),w6,?_,_,f2.at.all aggI8 (by rw [length_iL]; rfl),w7,g1,_,g2.at.all aggI8 (by rw [length_iL]; rfl),?_⟩
 ·rw [add_none]; exact e1
 ·rw [add_none]; exact f1
 ·exact hk w7 (a3.no ((b3.no M6).own g3 (Nat.le_refl _)))
theorem inoRight_c {i:Nd} (hw:nWf i) (hk:∀ w',Mod No w w'->K (.bool (nOk i)) w'):Cal Tryz.prog F_inode_Right #[.agg ⟨nV i⟩] w K:=by
 apply C_inode_Right
 unfold D_inode_Right
 obtain ⟨w1,a1,a2,a3,a4⟩:=box_u (P:=Tryz.prog) (w:=w) (T:=51) (cs:=nV i)
 refine ⟨_,w1,a1,_,a2.at.all agg_ino (nV_len hw),allP_c hw fun w2 m2=>⟨_,rfl,?_⟩⟩
 have M2:=a3.no m2
 have q2:=a2.keep m2 id
 have hw8:i.p.length=8:=hw
 refine ⟨fun x w3=>∃ (j:Nat) (y z:Value),j<=8/\x=[y,.int .i64 j,z]/\(i.p.take j).all nIn=true/\w3=w2,fun x _=>(8-nI x 1).toNat,⟨0,_,_,by omega,rfl,by simp,rfl⟩,?_⟩
 rintro x w3 ⟨j,y,z,hj,rfl,hall,rfl⟩
 refine ⟨_,rfl,cond_of (fun hl=>?_) (fun hl=>?_)⟩
 ·have hl:=of_decide_eq_true hl
  have hjp:j<i.p.length:=by omega
  refine ⟨i.p[j],index_val Tryz.underlying249 arrI8 Tryz.underlying3 (by simp) (by simp) (by omega) (iL_get hjp),Share.cut (fun z w4=>w4=w3/\z=[.bool (!nIn i.p[j])]) (cond_of (fun h=>⟨rfl,?_⟩) (fun h=>⟨rfl,?_⟩)) ?_⟩
  ·have h:=of_decide_eq_true h
   unfold nIn; rw [decide_eq_false (by omega)]; rfl
  ·have h:=of_decide_eq_false h
   have e:decide (i.p[j] >= 4096)=!nIn i.p[j]:=by
    unfold nIn
    by_cases h2:i.p[j] >= 4096
    ·rw [decide_eq_true h2,decide_eq_false (show ¬ (0<=i.p[j]/\i.p[j]<4096) by omega)]; rfl
    ·rw [decide_eq_false h2,decide_eq_true (show 0<=i.p[j]/\i.p[j]<4096 by omega)]; rfl
   rw [e]
  rintro z w4 ⟨rfl,rfl⟩
  refine ⟨_,rfl,cond_of (fun h=>?_) (fun h=>?_)⟩
  ·rw [Bool.not_eq_true'] at h
   have e:nOk i=false:=by
    unfold nOk
    have:i.p.all nIn=false:=List.all_eq_false.2 ⟨i.p[j],List.getElem_mem hjp,by rw [h]; simp⟩
    rw [this]; rfl
   rw [<- e]; exact hk _ M2
  ·rw [Bool.not_eq_false'] at h
   rw [wrap64 (x:=(j:Int)+1) (by omega) (by omega)]
   exact ⟨⟨j+1,_,_,by omega,by simp [nth]; exact ⟨rfl,rfl⟩,by rw [List.take_succ_eq_append_getElem hjp,List.all_append,hall]; simp [h],rfl⟩,by simp [nI,nth]; omega⟩
 have hl:=of_decide_eq_false hl
 have hj8:j=8:=by omega
 subst hj8
 rw [List.take_of_length_le (by omega)] at hall
 have lk:Ru (Instr.loadAt 3 (.pointer (some (Addr.add ⟨w.heap.size,0,none⟩ 0)))) w3 (.int .i64 i.kind) w3:=q2.at.fld sc_int rfl
 have ls:∀ {w':World},Mod No w3 w'->Ru (Instr.loadAt 2 (.pointer (some (Addr.add ⟨w.heap.size,0,none⟩ 2)))) w' (.int .i64 i.size) w':=fun m=>(q2.keep m id).at.fld sc_i64 rfl
 have ek:nOk i=(if i.kind=0 then decide (i=nZ) else if i.kind=2 then decide (i.size % 256=0)&&nSized i else if i.kind=1 then nSized i else if i.kind=3 then nSized i&&decide (1<=i.size/\i.size<=255) else false):=by unfold nOk; rw [hall,Bool.true_and]
 rw [ek] at hk
 refine ⟨_,lk,Share.cut (fun _ w11=>w11=w3/\i.kind≠0/\i.kind≠2/\i.kind≠1/\i.kind≠3) (Share.cut (fun _ w9=>w9=w3/\((i.kind=2/\i.size % 256=0)\/i.kind=1)) ?_ ?_) ?_⟩
 ·rw [beqI,beqI,beqI,beqI]
  refine cond_of (fun h=>?_) (fun h=>cond_of (fun h2=>⟨_,ls (Mod.refl _ _),?_⟩) (fun h2=>cond_of (fun h3=>⟨rfl,.inr (of_decide_eq_true h3)⟩) (fun h3=>cond_of (fun h4=>?_) (fun h4=>⟨rfl,of_decide_eq_false h,of_decide_eq_false h2,of_decide_eq_false h3,of_decide_eq_false h4⟩))))
  ·have h:=of_decide_eq_true h
   obtain ⟨w5,b1,b2,b3,b4⟩:=new_u (P:=Tryz.prog) (w:=w3) (T:=51) zero_ino
   obtain ⟨w6,c1,c2,c3,c4⟩:=b2.put (T:=51) (vs:=nV nZ) agg_ino rfl rfl (one_nV _)
   have m6:Mod No w3 w6:=b3.own c3 (Nat.le_refl _)
   refine ⟨_,build_ino0,_,w5,b1,w6,c1,_,(q2.keep m6 id).at.all agg_ino (nV_len hw),_,c2.at.all agg_ino rfl,_,ieq i nZ hw nZ_wf,?_⟩
   rw [if_pos h] at hk
   exact hk w6 (M2.no m6)
  ·have h:=of_decide_eq_false h
   have h2:=of_decide_eq_true h2
   rw [bneI]
   have hm:Int.tmod i.size 256=0↔i.size % 256=0:=by
    rw [<- Int.dvd_iff_tmod_eq_zero,Int.dvd_iff_emod_eq_zero]
   refine cond_of (fun h3=>?_) (fun h3=>⟨rfl,.inl ⟨h2,hm.1 (Classical.not_not.1 (of_decide_eq_false h3))⟩⟩)
   have h3:=of_decide_eq_true h3
   rw [if_neg h,if_pos h2,decide_eq_false fun e=>h3 (hm.2 e),Bool.false_and] at hk
   exact hk _ M2
  ·have h:=of_decide_eq_false h
   have h2:=of_decide_eq_false h2
   have h3:=of_decide_eq_false h3
   have h4:=of_decide_eq_true h4
   rw [if_neg h,if_neg h2,if_neg h3,if_pos h4] at hk
   refine Share.cut (fun z w8=>Mod No w3 w8/\z=[.bool (nSized i&&decide (1<=i.size/\i.size<=255))]) ⟨_,q2.at.all agg_ino (nV_len hw),sized_c hw fun w7 m7=>⟨_,rfl,cond_of (fun h5=>⟨_,ls m7,cond_of (fun h6=>⟨_,ls m7,m7,?_⟩) (fun h6=>⟨m7,?_⟩)⟩) (fun h5=>⟨m7,?_⟩)⟩⟩ ?_
   ·have h6:=of_decide_eq_true h6
    rw [h5,Bool.true_and]
    by_cases h7:i.size<=255
    ·rw [decide_eq_true h7,decide_eq_true (show _/\_ from ⟨h6,h7⟩)]
    ·rw [decide_eq_false h7,decide_eq_false fun e=>h7 e.2]
   ·have h6:=of_decide_eq_false h6
    rw [decide_eq_false (show ¬ (1<=i.size/\i.size<=255) from fun e=>h6 e.1),Bool.and_false]
   ·rw [h5]; rfl
   ·rintro z w8 ⟨m8,rfl⟩
    exact ⟨_,rfl,hk _ (M2.no m8)⟩
 ·rintro z w9 ⟨rfl,hc⟩
  refine ⟨_,q2.at.all agg_ino (nV_len hw),sized_c hw fun w10 m10=>⟨_,rfl,?_⟩⟩
  rcases hc with ⟨h2,h3⟩ | h1
  ·rw [if_neg (by omega),if_pos h2,decide_eq_true h3,Bool.true_and] at hk
   exact hk _ (M2.no m10)
  ·rw [if_neg (by omega),if_neg (by omega),if_pos h1] at hk
   exact hk _ (M2.no m10)
 ·rintro z w11 ⟨rfl,h1,h2,h3,h4⟩
  rw [if_neg h1,if_neg h2,if_neg h3,if_neg h4] at hk
  exact hk _ M2
end
end Go.Proofs.YtandmpcjjaabmaaGreat
end
section
open Go Go.Den Go.Proofs
namespace Go.Den
theorem nOk_b {i:Nd} (h:nOk i=true):0<=i.kind/\i.kind<=3/\0<=i.links/\i.links<=1000/\0<=i.size/\i.size<=1066496/\0<=i.id/\i.id<=4611686018427387904/\∀ n∈i.p,0<=n/\n<4096:=by
 unfold nOk at h
 rw [Bool.and_eq_true] at h
 obtain ⟨h1,h2⟩:=h
 have hp:∀ n∈i.p,0<=n/\n<4096:=fun n hn=>of_decide_eq_true (List.all_eq_true.1 h1 n hn)
 have hs:nSized i=true->0<=i.links/\i.links<=1000/\0<=i.size/\i.size<=1066496/\1<=i.id/\i.id<=4611686018427387904:=fun h=>of_decide_eq_true h
 split at h2
 ·have e:=of_decide_eq_true h2
  subst e
  exact ⟨by decide,by decide,by decide,by decide,by decide,by decide,by decide,by decide,hp⟩
 split at h2
 ·rw [Bool.and_eq_true] at h2
  have:=hs h2.2
  exact ⟨by omega,by omega,by omega,by omega,by omega,by omega,by omega,by omega,hp⟩
 split at h2
 ·have:=hs h2
  exact ⟨by omega,by omega,by omega,by omega,by omega,by omega,by omega,by omega,hp⟩
 split at h2
 ·rw [Bool.and_eq_true] at h2
  have:=hs h2.1
  exact ⟨by omega,by omega,by omega,by omega,by omega,by omega,by omega,by omega,hp⟩
 ·cases h2
end Go.Den
namespace Go.Proofs.YtandmpcjjaabmaaGreat
def iFront (i:Nd):List UInt8:=[UInt8.ofNat i.kind.toNat,0]++toLe 2 i.links.toNat++toLe 4 i.size.toNat++toLe 8 i.id.toNat
def iNames (p:List Int):List UInt8:=p.flatMap fun n=>toLe 2 n.toNat
def inoB (i:Nd):List UInt8:=iFront i++iNames i.p++List.replicate 32 0
theorem iFront_len (i:Nd):(iFront i).length=16:=by simp [iFront]
theorem iNames_len:∀ p:List Int,(iNames p).length=2*p.length
 | []=>rfl
 | a::r=>by
  have e:iNames (a::r)=toLe 2 a.toNat++iNames r:=rfl
  rw [e,List.length_append,length_toLe,iNames_len r,List.length_cons]; omega
theorem inoB_len {i:Nd} (hw:nWf i):(inoB i).length=64:=by
 have hw:i.p.length=8:=hw
 unfold inoB
 rw [List.length_append,List.length_append,iFront_len,iNames_len,hw,List.length_replicate]
theorem iNames_snoc {p:List Int} {j:Nat} (hj:j<p.length):iNames (p.take (j+1))=iNames (p.take j)++toLe 2 p[j].toNat:=by
 unfold iNames
 rw [List.take_succ_eq_append_getElem hj,List.flatMap_append]; simp
section
variable {w:World} {K:Value->World->Prop}
set_option maxRecDepth 4000 in
theorem inoPut_c {i:Nd} (hw:nWf i) (h1:nOk i=false->∀ w',Mod No w w'->K (.tuple #[.slice none 0 0,.int .i64 1]) w')
  (h2:nOk i=true->∀ w' q,Mod No w w'->w.heap.size<=q->AtU w' q 0 (u8L (inoB i))->K (.tuple #[.slice (some ⟨q,0,none⟩) 64 64,.int .i64 0]) w'):Cal Tryz.prog F_inode_Put #[.agg ⟨nV i⟩] w K:=by
 apply C_inode_Put
 unfold D_inode_Put
 obtain ⟨w1,a1,a2,a3,a4⟩:=box_u (P:=Tryz.prog) (w:=w) (T:=51) (cs:=nV i)
 refine ⟨_,w1,a1,_,a2.at.all agg_ino (nV_len hw),inoRight_c hw fun w2 m2=>⟨_,rfl,cond_of (fun h=>h1 (by simpa using h) _ (a3.no m2)) (fun h=>?_)⟩⟩
 have ho:nOk i=true:=by simpa using h
 have hb:=nOk_b ho
 have hw8:i.p.length=8:=hw
 obtain ⟨w3,c1,c2,c3,c4⟩:=make_z (w:=w2) (n:=64) (by omega)
 have hne:¬ (w.heap.size=w2.heap.size):=by have:=m2.size; omega
 have q3:=(a2.keep m2 id).keep c3 id
 obtain ⟨w4,d1,d2,d3,d4⟩:=c2.store (P:=Tryz.prog) (T:=5) (i:=0) (v:=.int .u8 ((i.kind.toNat:Nat):Int)) sc_u8 (by rw [length_u8L,List.length_replicate]; omega) rfl
 have ek:IntKind.u8.wrap i.kind=((i.kind.toNat:Nat):Int):=by rw [wrapU8]; omega
 rw [u8L_set _ _ _ (by omega)] at d2
 have d2:AtU w4 w2.heap.size 0 (u8L ([UInt8.ofNat i.kind.toNat,0]++List.replicate 62 0)):=d2
 have M4:Mod No w2 w4:=c3.own d3 (Nat.le_refl _)
 have q4:=q3.keep d3 (fun e=>hne e)
 refine ⟨_,_,_,w3,c1,_,q3.at.fld sc_int rfl,_,index_slice elemN_bytes (by omega) (by omega),w4,?_,?_⟩
 ·rw [add_none,ek]; exact d1
 refine ⟨_,_,_,slice_lh elemN_bytes (by omega) (by omega) (by omega),_,q4.at.drew.fld sc_int rfl,?_⟩
 rw [show (2:Int).toNat=2 from rfl,cut_some (by omega)]
 refine putz (m:=2) d2.drew rfl (by omega) rfl (by omega) (by omega) (by omega) fun w5 m5 z5 d5=>⟨rfl,?_⟩
 have q5:=q4.drew.keep m5 (fun e=>hne e)
 have M5:=M4.drew.own m5 (Nat.le_refl _)
 refine ⟨_,_,_,slice_lh elemN_bytes (by omega) (by omega) (by omega),_,q5.at.drew.fld sc_i64 rfl,?_⟩
 rw [show (4:Int).toNat=4 from rfl,cut_some (by omega)]
 refine putz (m:=4) d5.drew (by simp) (by omega) rfl (by omega) (by omega) (by omega) fun w6 m6 z6 d6=>⟨rfl,?_⟩
 have q6:=q5.drew.keep m6 (fun e=>hne e)
 have M6:=M5.drew.own m6 (Nat.le_refl _)
 refine ⟨_,_,_,slice_lh elemN_bytes (by omega) (by omega) (by omega),_,q6.at.drew.fld sc_i64 rfl,?_⟩
 rw [show (8:Int).toNat=8 from rfl,cut_some (by omega)]
 refine putz (m:=8) d6.drew (by simp) (by omega) rfl (by omega) (by omega) (by omega) fun w7 m7 z7 d7=>⟨rfl,?_⟩
 have q7:=q6.drew.keep m7 (fun e=>hne e)
 have M7:=M6.drew.own m7 (Nat.le_refl _)
 refine ⟨_,q7.at.all agg_ino (nV_len hw),allP_c hw fun w8 m8=>⟨_,rfl,?_⟩⟩
 have M8:=M7.no m8
 have d8:AtU w8 w2.heap.size 0 (u8L ((iFront i++iNames (i.p.take 0))++List.replicate 48 0)):=by
  rw [List.take_zero,show iNames []=[] from rfl,List.append_nil]; exact d7.keep m8 id
 refine ⟨fun x w9=>∃ j:Nat,j<=8/\x=[.int .i64 j]/\AtU w9 w2.heap.size 0 (u8L ((iFront i++iNames (i.p.take j))++List.replicate (48-2*j) 0))/\Mod No w2 w9,fun x _=>(8-nI x 0).toNat,⟨0,by omega,rfl,d8,M8⟩,?_⟩
 rintro x w9 ⟨j,hj,rfl,hat,m9⟩
 refine ⟨_,rfl,cond_of (fun hl=>?_) (fun hl=>?_)⟩
 ·have hl:=of_decide_eq_true hl
  have hjp:j<i.p.length:=by omega
  have hv:=hb.2.2.2.2.2.2.2.2 _ (List.getElem_mem hjp)
  have e1:IntKind.i64.wrap (16+(IntKind.i64.wrap ((j:Int)*2)))=((16+2*j:Nat):Int):=by rw [wrap64 (x:=(j:Int)*2) (by omega) (by omega),wrap64 (by omega) (by omega)]; omega
  have e2:IntKind.i64.wrap (16+(IntKind.i64.wrap ((IntKind.i64.wrap ((j:Int)+1))*2)))=((18+2*j:Nat):Int):=by rw [wrap64 (x:=(j:Int)+1) (by omega) (by omega),wrap64 (x:=((j:Int)+1)*2) (by omega) (by omega),wrap64 (by omega) (by omega)]; omega
  rw [e1,e2]
  refine ⟨i.p[j],index_val Tryz.underlying249 arrI8 Tryz.underlying3 (by simp) (by simp) (by omega) (iL_get hjp),_,_,_,slice_lh elemN_bytes (by omega) (by omega) (by omega),?_⟩
  rw [show ((16+2*j:Nat):Int).toNat=16+2*j by omega,cut_some (by omega),show ((18+2*j:Nat):Int).toNat-(16+2*j)=2 by omega]
  refine putz (m:=2) hat (by rw [List.length_append,iFront_len,iNames_len,List.length_take]; omega) (by omega) rfl hv.1 (by omega) (by omega) fun w10 m10 z10 d10=>⟨rfl,?_⟩
  rw [wrap64 (x:=(j:Int)+1) (by omega) (by omega)]
  rw [List.append_assoc (iFront i),<- iNames_snoc hjp,show 48-2*j-2=48-2*(j+1) by omega] at d10
  exact ⟨⟨j+1,by omega,by simp,d10,m9.own m10 (Nat.le_refl _)⟩,by simp [nI,nth]; omega⟩
 ·have hl:=of_decide_eq_false hl
  have hj8:j=8:=by omega
  subst hj8
  rw [List.take_of_length_le (by omega)] at hat
  exact h2 ho w9 _ (a3.no (m2.no m9)) (Nat.le_trans (by omega) m2.size) hat
end
end Go.Proofs.YtandmpcjjaabmaaGreat
end
section
open Go Go.Den Go.Proofs
namespace Go.Proofs.YtandmpcjjaabmaaGreat
def nmAt (xs:List UInt8) (k:Nat):Int:=leN ((xs.drop (16+2*k)).take 2)
def nmTo (xs:List UInt8) (j:Nat):List Int:=(List.range 8).map fun k=>if k<j then nmAt xs k else 0
def readN (xs:List UInt8):Nd:=⟨(xs.getD 0 0).toNat,leN ((xs.drop 2).take 2),leN ((xs.drop 4).take 4),IntKind.i64.wrap (leN ((xs.drop 8).take 8)),nmTo xs 8⟩
def readN4 (xs:List UInt8):Nd:={ readN xs with p:=[0,0,0,0,0,0,0,0] }
theorem readN_wf (xs:List UInt8):nWf (readN xs):=rfl
def inoG (xs:List UInt8):Nd×Int:=if xs.length≠64 then (nZ,4) else if xs.getD 1 0=0/\(xs.drop 32).all (·==0)=true/\nOk (readN xs)=true then (readN xs,0) else (nZ,8)
theorem inoG_wf (xs:List UInt8):nWf (inoG xs).1:=by
 unfold inoG
 split
 ·rfl
 split <;> rfl
theorem nmTo_len (xs:List UInt8) (j:Nat):(nmTo xs j).length=8:=rfl
theorem nmTo_set {xs:List UInt8} {j:Nat} (hj:j<8):(iL (nmTo xs j)).set j (.int .i64 (nmAt xs j))=iL (nmTo xs (j+1)):=by
 match j,hj with
 | 0,_=>rfl
 | 1,_=>rfl
 | 2,_=>rfl
 | 3,_=>rfl
 | 4,_=>rfl
 | 5,_=>rfl
 | 6,_=>rfl
 | 7,_=>rfl
theorem build_ino4 (a b c d:Int):Al (Instr.build 51 #[(0,.int .i64 a),(1,.int .i64 b),(2,.int .i64 c),(3,.int .i64 d)]) (.agg ⟨nV ⟨a,b,c,d,[0,0,0,0,0,0,0,0]⟩⟩):=fun w=>by kernel_rfl
section
variable {w:World} {K:Value->World->Prop}
theorem getP {a:Option Addr} {l c i m m' c':Nat} {xs:List UInt8} {Q:Value->World->Prop} (hl:xs.length=l) (hc:l<=c) (hr:Row w a (u8L xs)) (hi:i+m<=l) (hm:m<=8) (hm':m'=m) (hk:Q (.int .u64 (leN ((xs.drop i).take m):Int)) w):Cal Tryz.prog F_num_Get #[.slice (cutA a c i 1) m' c'] w Q:=by
 subst hm'
 refine Get_c (xs:=(xs.drop i).take m') (by simp; omega) (hr.cut (by omega) (by omega)) (by omega) ?_
 rw [List.take_of_length_le (i:=8) (by simp; omega)]
 exact hk
set_option maxRecDepth 8000 in
theorem inoGet_c {a : Option Addr} {l c : Nat} {xs : List UInt8} (hl : xs.length = l) (hc : l ≤ c) (hr : Row w a (u8L xs)) (h63 : l ≤ 1048576)
    (hk : ∀ w', Mod No w w' → K (.tuple #[.agg ⟨nV (inoG xs).1⟩, .int .i64 (inoG xs).2]) w') : Cal Tryz.prog F_inode_Get #[.slice a l c] w K := by
  apply C_inode_Get
  unfold D_inode_Get
  obtain ⟨w1, b1, b2, b3, b4⟩ := new_u (P := Tryz.prog) (w := w) (T := 51) zero_ino
  have fin : ∀ (w' : World) (i : Nd) (e : Int), Mod No w1 w' → (i, e) = inoG xs → ∃ w3 : World, RuU (Instr.storeAt 51 (.pointer (some ⟨w.heap.size, 0, none⟩)) (.agg ⟨nV i⟩)) w' w3 ∧ ∃ gR2 : Array Value, Ru (Instr.loadAt 51 (.pointer (some ⟨w.heap.size, 0, none⟩))) w3 (.agg gR2) w3 ∧ K (.tuple #[.agg gR2, .int .i64 e]) w3 := fun w' i e m he => by
    have hw : nWf i := by have := inoG_wf xs; rw [← he] at this; exact this
    obtain ⟨w3, c1, c2, c3, c4⟩ := (b2.keep m id).put (T := 51) (vs := nV i) agg_ino rfl (nV_len hw) (one_nV _)
    refine ⟨w3, c1, _, c2.at.all agg_ino (nV_len hw), ?_⟩
    have := hk w3 ((b3.no m).own c3 (Nat.le_refl _))
    rw [← he] at this
    exact this
  refine ⟨_, w1, b1, ?_⟩
  rw [bneI]
  refine cond_of (fun h => ⟨_, build_ino0, ?_⟩) (fun h => ?_)
  · have h := of_decide_eq_true h
    exact fin w1 nZ 4 (Mod.refl _ _) (by unfold inoG; rw [if_pos (by omega)])
  have hl2 : xs.length = 64 := by have := of_decide_eq_false h; omega
  have hl' : l = 64 := by omega
  subst hl'
  have hr1 := hr.nos b3
  have h00 : 0 < xs.length := by omega
  obtain ⟨bb, oo, rfl, _⟩ := row_at hr h00
  have at0 : ∀ {w' : World}, Mod No w1 w' → At w' bb oo (u8L xs) := fun m => by
    obtain ⟨b', o', e, h⟩ := row_at (hr1.nos m) h00
    cases e; exact h
  have ex0 : (xs.getD 0 0) = xs[0] := by rw [List.getD_eq_getElem?_getD, List.getElem?_eq_getElem h00]; rfl
  have ex1 : (xs.getD 1 0) = xs[1]'(by omega) := by rw [List.getD_eq_getElem?_getD, List.getElem?_eq_getElem (by omega : 1 < xs.length)]; rfl
  have l0 : ∀ {w' : World}, Mod No w1 w' → Ru (Instr.loadAt 5 (.pointer (some (Addr.add ⟨bb, oo, none⟩ ((0 : Int).toNat * 1))))) w' (.int .u8 (xs[0].toNat : Int)) w' := fun m => by
    rw [add_none]; exact (at0 m).load (i := 0) sc_u8 (u8L_get h00)
  have l1 : ∀ {w' : World}, Mod No w1 w' → Ru (Instr.loadAt 5 (.pointer (some (Addr.add ⟨bb, oo, none⟩ ((1 : Int).toNat * 1))))) w' (.int .u8 ((xs[1]'(by omega)).toNat : Int)) w' := fun m => by
    rw [add_none]; exact (at0 m).load (i := 1) sc_u8 (u8L_get (by omega))
  have n2 : leN ((xs.drop 2).take 2) < 256 ^ 2 := leN_sub (by omega)
  have n4 : leN ((xs.drop 4).take 4) < 256 ^ 4 := leN_sub (by omega)
  have hx0 := xs[0].toNat_lt
  have eN : (⟨IntKind.i64.wrap (xs[0].toNat : Int), IntKind.i64.wrap (leN ((xs.drop 2).take 2) : Int), IntKind.i64.wrap (leN ((xs.drop 4).take 4) : Int), IntKind.i64.wrap (leN ((xs.drop 8).take 8) : Int), [0, 0, 0, 0, 0, 0, 0, 0]⟩ : Nd) = readN4 xs := by
    unfold readN4 readN
    rw [wrap64 (x := (xs[0].toNat : Int)) (by omega) (by omega), wrap64 (x := (leN ((xs.drop 2).take 2) : Int)) (by omega) (by omega), wrap64 (x := (leN ((xs.drop 4).take 4) : Int)) (by omega) (by omega), ex0]
  have tail : ∀ (w5 : World) (q : Nat), Mod No w1 w5 → w1.heap.size ≤ q → AtU w5 q 0 (nV nZ) →
      ∃ w7 : World, RuU (Instr.storeAt 51 (.pointer (some ⟨q, 0, none⟩)) (.agg ⟨nV (readN4 xs)⟩)) w5 w7 ∧ ∃ q5 : Addr, ∃ w8 : World, Ru (Instr.alloc 249 true (.tuple #[])) w7 (.pointer (some q5)) w8 ∧ LoopC (fun k x w9 =>
       ∃ n28 : Int, nth x 0 = .int .i64 n28 ∧ (bif decide (n28 < 8) then
       ∃ (a40 : Option Addr) (l40 c40 : Nat), Al (Instr.sliceAt 55 (.slice (some ⟨bb, oo, none⟩) 64 c) (some (.int .i64 (IntKind.i64.wrap (16 + (IntKind.i64.wrap (n28 * 2)))))) (some (.int .i64 (IntKind.i64.wrap (16 + (IntKind.i64.wrap ((IntKind.i64.wrap (n28 + 1)) * 2)))))) none) (.slice a40 l40 c40) ∧ Cal Tryz.prog F_num_Get #[.slice a40 l40 c40] w9 fun r41 w10 => ∃ n41 : Int, r41 = .int .u64 n41 ∧ ∃ q43 : Addr, Al (Instr.indexAt 249 (.pointer (some q5)) (.int .i64 n28)) (.pointer (some q43)) ∧ ∃ w11 : World, RuU (Instr.storeAt 3 (.pointer (some q43)) (.int .i64 (IntKind.i64.wrap n41))) w10 w11 ∧ k [.int .i64 (IntKind.i64.wrap (n28 + 1))] w11
       else
       ∃ (a46 : Option Addr) (l46 c46 : Nat), Al (Instr.sliceAt 49 (.pointer (some (Addr.add ⟨q, 0, none⟩ 4))) none none none) (.slice a46 l46 c46) ∧ ∃ (a47 : Option Addr) (l47 c47 : Nat), Al (Instr.sliceAt 249 (.pointer (some q5)) none none none) (.slice a47 l47 c47) ∧ ∃ n48 : Int, ∃ w12 : World, Ru (Builtin.copy_ #[64, 64] 3 #[.slice a46 l46 c46, .slice a47 l47 c47]) (drew w9) (.int .i64 n48) w12 ∧ ∃ q49 : Addr, Al (Instr.indexAt 249 (.pointer (some q5)) (.int .i64 6)) (.pointer (some q49)) ∧ ∃ n50 : Int, Ru (Instr.loadAt 3 (.pointer (some q49))) w12 (.int .i64 n50) w12 ∧ ∃ q51 : Addr, Al (Instr.indexAt 249 (.pointer (some q5)) (.int .i64 7)) (.pointer (some q51)) ∧ ∃ n52 : Int, Ru (Instr.loadAt 3 (.pointer (some q51))) w12 (.int .i64 n52) w12 ∧ ∃ w13 : World, RuU (Instr.storeAt 3 (.pointer (some (Addr.add ⟨q, 0, none⟩ 10))) (.int .i64 n50)) w12 w13 ∧ ∃ w14 : World, RuU (Instr.storeAt 3 (.pointer (some (Addr.add ⟨q, 0, none⟩ 11))) (.int .i64 n52)) w13 w14 ∧ Share (fun k_2 => ∃ q56 : Addr, Al (Instr.indexAt 55 (.slice (some ⟨bb, oo, none⟩) 64 c) (.int .i64 1)) (.pointer (some q56)) ∧ ∃ n57 : Int, Ru (Instr.loadAt 5 (.pointer (some q56))) w14 (.int .u8 n57) w14 ∧ (bif n57 != 0 then k_2 [.bool true] w14 else ∃ (a61 : Option Addr) (l61 c61 : Nat), Al (Instr.sliceAt 55 (.slice (some ⟨bb, oo, none⟩) 64 c) (some (.int .i64 32)) none none) (.slice a61 l61 c61) ∧ Cal Tryz.prog F_num_Zero #[.slice a61 l61 c61] w14 fun r62 w15 => ∃ b62 : Bool, r62 = .bool b62 ∧ (bif !b62 then k_2 [.bool true] w15 else ∃ g66 : Array Value, Ru (Instr.loadAt 51 (.pointer (some ⟨q, 0, none⟩))) w15 (.agg g66) w15 ∧ Cal Tryz.prog F_inode_Right #[.agg g66] w15 fun r67 w16 => ∃ b67 : Bool, r67 = .bool b67 ∧ k_2 [.bool (!b67)] w16))) fun x_2 w17 =>
       ∃ b69 : Bool, nth x_2 0 = .bool b69 ∧ (bif b69 then
       ∃ g70 : Array Value, Al (Instr.build 51 #[]) (.agg g70) ∧ ∃ w18 : World, RuU (Instr.storeAt 51 (.pointer (some ⟨w.heap.size, 0, none⟩)) (.agg g70)) w17 w18 ∧ ∃ gR2_2 : Array Value, Ru (Instr.loadAt 51 (.pointer (some ⟨w.heap.size, 0, none⟩))) w18 (.agg gR2_2) w18 ∧ K (.tuple #[.agg gR2_2, .int .i64 8]) w18
       else
       ∃ g71 : Array Value, Ru (Instr.loadAt 51 (.pointer (some ⟨q, 0, none⟩))) w17 (.agg g71) w17 ∧ ∃ w19 : World, RuU (Instr.storeAt 51 (.pointer (some ⟨w.heap.size, 0, none⟩)) (.agg g71)) w17 w19 ∧ ∃ gR2_3 : Array Value, Ru (Instr.loadAt 51 (.pointer (some ⟨w.heap.size, 0, none⟩))) w19 (.agg gR2_3) w19 ∧ K (.tuple #[.agg gR2_3, .int .i64 0]) w19))) [.int .i64 0] w8 := by
    intro w5 q m5 hq hat
    obtain ⟨w7, c1, c2, c3, c4⟩ := hat.put (T := 51) (vs := nV (readN4 xs)) agg_ino rfl rfl (one_nV _)
    have m7 : Mod No w1 w7 := m5.own c3 hq
    obtain ⟨w8, d1, d2, d3, d4⟩ := new_u (P := Tryz.prog) (w := w7) (T := 249) zeroI8
    have hqn : ¬ (q = w7.heap.size) := by have := c2.lt; omega
    refine ⟨w7, c1, _, w8, d1, ?_⟩
    refine ⟨fun x w9 => ∃ j : Nat, j ≤ 8 ∧ x = [.int .i64 j] ∧ AtU w9 w7.heap.size 0 (iL (nmTo xs j)) ∧ Mod No w7 w9, fun x _ => (8 - nI x 0).toNat, ⟨0, by omega, rfl, d2, d3⟩, ?_⟩
    rintro x w9 ⟨j, hj, rfl, ha, m9⟩
    refine ⟨_, rfl, cond_of (fun hl => ?_) (fun hl => ?_)⟩
    · have hl := of_decide_eq_true hl
      have e1 : IntKind.i64.wrap (16 + (IntKind.i64.wrap ((j : Int) * 2))) = ((16 + 2 * j : Nat) : Int) := by rw [wrap64 (x := (j : Int) * 2) (by omega) (by omega), wrap64 (by omega) (by omega)]; omega
      have e2 : IntKind.i64.wrap (16 + (IntKind.i64.wrap ((IntKind.i64.wrap ((j : Int) + 1)) * 2))) = ((18 + 2 * j : Nat) : Int) := by rw [wrap64 (x := (j : Int) + 1) (by omega) (by omega), wrap64 (x := ((j : Int) + 1) * 2) (by omega) (by omega), wrap64 (by omega) (by omega)]; omega
      rw [e1, e2]
      have nj : leN ((xs.drop (16 + 2 * j)).take 2) < 256 ^ 2 := leN_sub (by omega)
      refine ⟨_, _, _, slice_lh elemN_bytes (by omega) (by omega) (by omega), ?_⟩
      rw [show ((16 + 2 * j : Nat) : Int).toNat = 16 + 2 * j by omega]
      refine getP (i := 16 + 2 * j) (m := 2) hl2 hc (hr1.nos (m7.no m9)) (by omega) (by omega) (by omega) ⟨_, rfl, _, index_arr arrI8 (by omega) (by omega), ?_⟩
      rw [wrap64 (x := (leN ((xs.drop (16 + 2 * j)).take 2) : Int)) (by omega) (by omega), add_none, show (j : Int).toNat * 1 = j by omega]
      obtain ⟨w11, p1, p2, p3, p4⟩ := ha.store (P := Tryz.prog) (T := 3) (i := j) (v := .int .i64 (nmAt xs j)) sc_int (by rw [length_iL, nmTo_len]; omega) rfl
      rw [nmTo_set (by omega)] at p2
      rw [wrap64 (x := (j : Int) + 1) (by omega) (by omega)]
      exact ⟨w11, p1, ⟨j + 1, by omega, by simp, p2, m9.own p3 (Nat.le_refl _)⟩, by simp [nI, nth]; omega⟩
    have hl := of_decide_eq_false hl
    have hj8 : j = 8 := by omega
    subst hj8
    have ad4 : Addr.add ⟨q, 0, none⟩ 4 = ⟨q, 4, none⟩ := by rw [add_none]
    have c9 := c2.keep m9 id
    have e8 : iL (nmTo xs 8) = [.int .i64 (nmAt xs 0), .int .i64 (nmAt xs 1), .int .i64 (nmAt xs 2), .int .i64 (nmAt xs 3), .int .i64 (nmAt xs 4), .int .i64 (nmAt xs 5), .int .i64 (nmAt xs 6), .int .i64 (nmAt xs 7)] := rfl
    obtain ⟨w12, r1, r2, r3, r4⟩ := copy_in (P := Tryz.prog) (T := 64) (T2 := 64) (ty := 3) (i := 4) (n := 6) (c := 6) (n2 := 8) (c2 := 8) (a2 := some ⟨w7.heap.size, 0, none⟩) (src := iL (nmTo xs 8)) elemN_ints c9.drew (show 4 + 6 * 1 ≤ 12 by decide) (.inr ⟨_, _, rfl, ha.at.drew⟩) rfl (one_iL _)
    have r2 : AtU w12 q 0 (nV { readN xs with p := [nmAt xs 0, nmAt xs 1, nmAt xs 2, nmAt xs 3, nmAt xs 4, nmAt xs 5, 0, 0] }) := r2
    have h12 := ha.drew.keep r3 (fun e => hqn e.symm)
    obtain ⟨w13, s1, s2, s3, s4⟩ := r2.putF (P := Tryz.prog) (T := 3) (j := 10) (v := .int .i64 (nmAt xs 6)) sc_int (show 10 < 12 by decide) rfl
    obtain ⟨w14, t1, t2, t3, t4⟩ := s2.putF (P := Tryz.prog) (T := 3) (j := 11) (v := .int .i64 (nmAt xs 7)) sc_int (show 11 < 12 by decide) rfl
    have t2 : AtU w14 q 0 (nV (readN xs)) := t2
    have M14 : Mod No w1 w14 := (((m7.no m9).drew.own r3 hq).own s3 hq).own t3 hq
    rw [ad4]
    refine ⟨_, _, _, sliceA_all arrI6, _, _, _, sliceA_all arrI8, _, w12, r1, _, index_arr arrI8 (by decide) (by decide), _, ?_, _, index_arr arrI8 (by decide) (by decide), _, ?_, w13, s1, w14, t1, ?_⟩
    · rw [add_none]; exact h12.at.load (i := 6) sc_int rfl
    · rw [add_none]; exact h12.at.load (i := 7) sc_int rfl
    refine Share.cut (fun z w17 => Mod No w14 w17 ∧ z = [.bool (!decide (xs.getD 1 0 = 0 ∧ (xs.drop 32).all (· == 0) = true ∧ nOk (readN xs) = true))]) ⟨_, index_slice elemN_bytes (by omega) (by omega), _, l1 M14, ?_⟩ ?_
    · rw [bneI]
      refine cond_of (fun h1 => ⟨Mod.refl _ _, ?_⟩) (fun h1 => ⟨_, _, _, slice_l elemN_bytes (by omega) (by omega), ?_⟩)
      · have h1 := of_decide_eq_true h1
        rw [decide_eq_false fun e => h1 (by rw [← ex1, e.1]; rfl)]; rfl
      have h1 : xs.getD 1 0 = 0 := by
        have h1 := Classical.not_not.1 (of_decide_eq_false h1)
        rw [ex1]; exact UInt8.toNat_inj.1 (by show _ = 0; omega)
      have e32 : (xs.drop 32).take 32 = xs.drop 32 := List.take_of_length_le (by simp; omega)
      refine nZero_c (xs := (xs.drop 32).take 32) (by simp; omega) ((hr1.nos M14).cut (by omega) (by omega)) (by omega) ⟨_, rfl, ?_⟩
      rw [e32]
      refine cond_of (fun h2 => ⟨Mod.refl _ _, ?_⟩) (fun h2 => ⟨_, t2.at.all agg_ino rfl, inoRight_c (readN_wf xs) fun w16 m16 => ⟨_, rfl, m16, ?_⟩⟩)
      · rw [Bool.not_eq_true'] at h2
        rw [decide_eq_false fun e => by rw [e.2.1] at h2; cases h2]; rfl
      · rw [Bool.not_eq_false'] at h2
        cases hn : nOk (readN xs) with
        | true => rw [decide_eq_true (show _ ∧ _ ∧ _ from ⟨h1, h2, rfl⟩)]
        | false => rw [decide_eq_false fun e => by cases e.2.2]
    rintro z w17 ⟨m17, rfl⟩
    refine ⟨_, rfl, cond_of (fun h => ⟨_, build_ino0, ?_⟩) (fun h => ⟨_, (t2.keep m17 id).at.all agg_ino rfl, ?_⟩)⟩
    · rw [Bool.not_eq_true'] at h
      have h := of_decide_eq_false h
      exact fin w17 nZ 8 (M14.no m17) (by unfold inoG; rw [if_neg (by omega), if_neg h])
    · rw [Bool.not_eq_false'] at h
      have h := of_decide_eq_true h
      exact fin w17 (readN xs) 0 (M14.no m17) (by unfold inoG; rw [if_neg (by omega), if_pos h])
  have md : Mod No w1 (Go.Den.drew w1) := (Mod.refl No w1).drew
  obtain ⟨w2, e1, e2, e3, e4⟩ := new_u (P := Tryz.prog) (w := Go.Den.drew w1) (T := 51) zero_ino
  have m2 : Mod No w1 w2 := md.no e3
  have t2 := tail w2 _ m2 (Nat.le_refl _) e2
  have bN := build_ino4 (IntKind.i64.wrap (xs[0].toNat : Int)) (IntKind.i64.wrap (leN ((xs.drop 2).take 2) : Int)) (IntKind.i64.wrap (leN ((xs.drop 4).take 4) : Int)) (IntKind.i64.wrap (leN ((xs.drop 8).take 8) : Int))
  rw [eN] at bN
  have g2 : ∀ {w' : World} {Q : Value → World → Prop}, Mod No w1 w' → Q (.int .u64 (leN ((xs.drop 2).take 2) : Int)) w' → Cal Tryz.prog F_num_Get #[.slice (cutA (some ⟨bb, oo, none⟩) c (2 : Int).toNat 1) ((4 : Int).toNat - (2 : Int).toNat) (c - (2 : Int).toNat)] w' Q := fun m hq => getP (i := 2) (m := 2) hl2 hc (hr1.nos m) (by omega) (by omega) rfl hq
  have g4 : ∀ {w' : World} {Q : Value → World → Prop}, Mod No w1 w' → Q (.int .u64 (leN ((xs.drop 4).take 4) : Int)) w' → Cal Tryz.prog F_num_Get #[.slice (cutA (some ⟨bb, oo, none⟩) c (4 : Int).toNat 1) ((8 : Int).toNat - (4 : Int).toNat) (c - (4 : Int).toNat)] w' Q := fun m hq => getP (i := 4) (m := 4) hl2 hc (hr1.nos m) (by omega) (by omega) rfl hq
  have g8 : ∀ {w' : World} {Q : Value → World → Prop}, Mod No w1 w' → Q (.int .u64 (leN ((xs.drop 8).take 8) : Int)) w' → Cal Tryz.prog F_num_Get #[.slice (cutA (some ⟨bb, oo, none⟩) c (8 : Int).toNat 1) ((16 : Int).toNat - (8 : Int).toNat) (c - (8 : Int).toNat)] w' Q := fun m hq => getP (i := 8) (m := 8) hl2 hc (hr1.nos m) (by omega) (by omega) rfl hq
  refine ⟨_, index_slice elemN_bytes (by omega) (by omega), _, l0 md, _, _, _, slice_lh elemN_bytes (by omega) (by omega) (by omega), _, _, _, slice_lh elemN_bytes (by omega) (by omega) (by omega), _, _, _, slice_lh elemN_bytes (by omega) (by omega) (by omega), ?_⟩
  exact ⟨g2 md ⟨_, rfl, l0 md, g4 md ⟨_, rfl, l0 md, g8 md ⟨_, rfl, l0 md, _, bN, _, w2, e1, l0 m2, t2⟩, _, w2, e1, l0 m2, g8 m2 ⟨_, rfl, l0 m2, _, bN, t2⟩⟩, _, w2, e1, l0 m2, g4 m2 ⟨_, rfl, l0 m2, g8 m2 ⟨_, rfl, l0 m2, _, bN, t2⟩⟩⟩, _, w2, e1, l0 m2, g2 m2 ⟨_, rfl, l0 m2, g4 m2 ⟨_, rfl, l0 m2, g8 m2 ⟨_, rfl, l0 m2, _, bN, t2⟩⟩⟩⟩
end
end Go.Proofs.YtandmpcjjaabmaaGreat
end
section
open Go Go.Den
namespace Go.Den
abbrev Ent:=Int×Value×Nat
def toE (e:Ent):MapEntry:=⟨.int .i64 e.1,e.2.1,e.2.2⟩
def kv (e:Ent):Int×Value:=(e.1,e.2.1)
def findE (k:Int):List Ent->Nat->Option (Nat×Value)
 | [],_=>none
 | e::r,i=>if e.1=k then some (i,e.2.1) else findE k r (i+1)
def putE (k:Int) (v:Value) (b:Nat):List Ent->List Ent
 | []=>[(k,v,b)]
 | e::r=>if e.1=k then (k,v,e.2.2)::r else e::putE k v b r
def lookupL:List (Int×Value)->Int->Option Value
 | [],_=>none
 | p::r,k=>if p.1=k then some p.2 else lookupL r k
def putL (k:Int) (v:Value):List (Int×Value)->List (Int×Value)
 | []=>[(k,v)]
 | p::r=>if p.1=k then (k,v)::r else p::putL k v r
theorem findE_look (k:Int):∀ (Es:List Ent) (i:Nat),(findE k Es i).map (·.2)=lookupL (Es.map kv) k
 | [],_=>rfl
 | e::r,i=>by
  simp only [findE,List.map_cons,lookupL,kv]
  by_cases h:e.1=k
  ·rw [if_pos h,if_pos h]; rfl
  ·rw [if_neg h,if_neg h]; exact findE_look k r (i+1)
theorem putE_kv (k:Int) (v:Value) (b:Nat):∀ Es:List Ent,(putE k v b Es).map kv=putL k v (Es.map kv)
 | []=>rfl
 | e::r=>by
  simp only [putE,List.map_cons,putL,kv]
  by_cases h:e.1=k
  ·rw [if_pos h,if_pos h]; rfl
  ·rw [if_neg h,if_neg h,List.map_cons,putE_kv k v b r]; rfl
theorem findNow_E (q:IntKind) (k:Int):∀ (Es:List Ent) (i:Nat),Instr.findNow (.int q) (.int .i64 k) (Es.map toE) i=some (findE k Es i)
 | [],_=>rfl
 | e::r,i=>by
  simp only [List.map_cons,Instr.findNow,toE,Instr.sameNow,findE,if_true]
  by_cases h:e.1=k
  ·have:(k==e.1)=true:=by simp [h]
   rw [if_pos h,this]
  ·have:(k==e.1)=false:=by simp; exact fun e=>h e.symm
   rw [if_neg h,this]
   exact findNow_E q k r (i+1)
theorem findE_modify (k:Int) (v:Value) (b:Nat):∀ (Es:List Ent) (i j:Nat) (u:Value),findE k Es i=some (j,u)->i<=j/\(Es.map toE).modify (j-i) (fun e=>{ e with key:=.int .i64 k,val:=v })=(putE k v b Es).map toE/\((Es.map toE)[j-i]?.map (·.key))=some (.int .i64 k)
 | [],i,j,u,h=>by cases h
 | e::r,i,j,u,h=>by
  simp only [findE] at h
  by_cases he:e.1=k
  ·rw [if_pos he] at h
   have h:=Option.some.inj h
   simp only [Prod.mk.injEq] at h
   obtain ⟨rfl,_⟩:=h
   refine ⟨Nat.le_refl _,?_,?_⟩
   ·simp only [putE,if_pos he,List.map_cons,Nat.sub_self,List.modify_zero_cons,toE]
   ·simp [toE,he]
  ·rw [if_neg he] at h
   obtain ⟨h1,h2,h3⟩:=findE_modify k v b r (i+1) j u h
   refine ⟨by omega,?_,?_⟩
   ·rw [show j-i=(j-(i+1))+1 by omega]
    simp only [putE,if_neg he,List.map_cons,List.modify_succ_cons,h2]
   ·rw [show j-i=(j-(i+1))+1 by omega]
    simpa using h3
theorem findE_none (k:Int) (v:Value) (b:Nat):∀ (Es:List Ent) (i:Nat),findE k Es i=none->putE k v b Es=Es++[(k,v,b)]/\∀ e∈Es,e.1≠k
 | [],_,_=>⟨rfl,by simp⟩
 | e::r,i,h=>by
  simp only [findE] at h
  by_cases he:e.1=k
  ·rw [if_pos he] at h; cases h
  ·rw [if_neg he] at h
   obtain ⟨h1,h2⟩:=findE_none k v b r (i+1) h
   refine ⟨by simp only [putE,if_neg he,h1,List.cons_append],fun x hx=>?_⟩
   rcases List.mem_cons.1 hx with rfl | hx
   ·exact he
   ·exact h2 x hx
theorem putE_born (k:Int) (v:Value) (b:Nat):∀ (Es:List Ent) (i:Nat),findE k Es i≠none->(putE k v b Es).map (·.2.2)=Es.map (·.2.2)/\(putE k v b Es).map (·.1)=Es.map (·.1)
 | [],_,h=>absurd rfl h
 | e::r,i,h=>by
  simp only [findE] at h
  by_cases he:e.1=k
  ·simp [putE,he]
  ·rw [if_neg he] at h
   obtain ⟨h1,h2⟩:=putE_born k v b r (i+1) h
   simp [putE,he,h1,h2]
def MapAt (w:World) (m:Nat) (L:List (Int×Value)):Prop :=
 ∃ (Es:List Ent) (clock:Nat),w.heap[m]?=some (.map (Es.map toE).toArray clock)/\Es.map kv=L/\(Es.map (·.1)).Nodup/\(∀ e∈Es,e.2.2<clock)/\(Es.map (·.2.2)).Nodup
section
variable {P:Program} {w:World}
theorem MapAt.lt {m:Nat} {L:List (Int×Value)} (h:MapAt w m L):m<w.heap.size:=by obtain ⟨_,_,h,_⟩:=h; exact lt_of_heap h
theorem MapAt.keep {m:Nat} {L:List (Int×Value)} {S:Nat->Prop} {w':World} (h:MapAt w m L) (hm:Mod S w w') (hs:¬ S m):MapAt w' m L:=by
 obtain ⟨Es,c,h1,h2⟩:=h; exact ⟨Es,c,hm.keep h1 hs,h2⟩
theorem MapAt.nodup {m:Nat} {L:List (Int×Value)} (h:MapAt w m L):(L.map (·.1)).Nodup:=by
 obtain ⟨Es,c,_,rfl,h,_⟩:=h
 rw [List.map_map]; exact h
theorem MapAt.ne_cells {m b o:Nat} {L:List (Int×Value)} {cs:List Value} (h:MapAt w m L) (k:At w b o cs):b≠m:=by
 rintro rfl
 obtain ⟨Es,c,h,_⟩:=h
 obtain ⟨l,t,fz,k,_⟩:=k
 rw [h] at k; cases k
def mapZ (P:Program) (T:TypeId):Option Value :=
 match P.underlying T with
 | some (.map k e)=>match P.underlying k with
  | some (.int .i64)=>match P.info? e with | some i=>i.zero | none=>none
  | _=>none
 | _=>none
theorem mapZ_is {T:TypeId} {z:Value} (h:mapZ P T=some z):∃ k e i,P.underlying T=some (.map k e)/\P.underlying k=some (.int .i64)/\P.info? e=some i/\i.zero=some z:=by
 unfold mapZ at h
 split at h
 ·rename_i k e h1
  split at h
  ·rename_i h2
   split at h
   ·rename_i i h3; exact ⟨k,e,i,h1,h2,h3,h⟩
   ·cases h
  ·cases h
 ·cases h
theorem run_checkKey {k:TypeId} {empty:Bool} {n:Int} (hk:P.underlying k=some (.int .i64)):(Instr.checkKey empty 10000 k (.int .i64 n)).run P w=.ok () w:=by
 rw [show (10000:Nat)=9999+1 from rfl,Instr.checkKey]
 simp [run_und hk]
theorem run_findKey {k:TypeId} {n:Int} {Es:List Ent} (hk:P.underlying k=some (.int .i64)):(Instr.findKey k (.int .i64 n) (Es.map toE)).run P w=.ok (findE n Es 0) w:=by
 simp [Instr.findKey,run_und hk,findNow_E]
theorem run_getMap {m:Nat} {es:Array MapEntry} {c:Nat} (h:w.heap[m]?=some (.map es c)):(getObj m).run P w=.ok (.map es c) w:=by
 simp [getObj,Sem.run,h]
theorem lookup_run {T:TypeId} {z:Value} {m:Nat} {L:List (Int×Value)} {k:Int} (hT:mapZ P T=some z) (h:MapAt w m L) :
  (Instr.lookup T (.map (some m)) (.int .i64 k) false).run P w=.ok ((lookupL L k).getD z) w:=by
 obtain ⟨kt,e,i,h1,h2,h3,h4⟩:=mapZ_is hT
 obtain ⟨Es,c,g1,rfl,_⟩:=h
 have hl:=findE_look k Es 0
 have hzero:(zeroValue e).run P w=.ok z w:=by simp [zeroValue,typeInfo,h3,h4]
 simp only [Instr.lookup,Sem.run_bind,run_und h1,Result.andThen_ok,run_getMap g1,Sem.run_pure,run_checkKey h2,run_findKey h2]
 cases hf:findE k Es 0 with
 | none =>
  rw [hf] at hl
  simp only [Option.map_none] at hl
  simp [<- hl,hzero]
 | some r =>
  rw [hf] at hl
  simp only [Option.map_some] at hl
  simp [<- hl]
theorem run_setMap {m:Nat} {es:Array MapEntry} {c:Nat} {o':Obj} (h:w.heap[m]?=some (.map es c)):(setObj m o').run P w=.ok () (put w m o'):=by
 have hlt:=lt_of_heap h
 simp only [setObj,Sem.run]
 rw [h]; rfl
theorem update_run {T:TypeId} {z:Value} {m:Nat} {L:List (Int×Value)} {k:Int} {v:Value} (hT:mapZ P T=some z) (h:MapAt w m L) :
  ∃ w',(Instr.mapUpdate T (.map (some m)) (.int .i64 k) v).run P w=.ok () w'/\MapAt w' m (putL k v L)/\Mod (fun x=>x=m) w w'/\w'.heap.size=w.heap.size:=by
 obtain ⟨kt,e,i,h1,h2,h3,h4⟩:=mapZ_is hT
 obtain ⟨Es,c,g1,rfl,g3,g4,g5⟩:=h
 have hm:∀ o,Mod (fun x=>x=m) w (put w m o):=fun o=>(Mod.refl (fun x=>x=m) w).put (.inr rfl) _
 cases hf:findE k Es 0 with
 | none =>
  obtain ⟨e1,e2⟩:=findE_none k v c Es 0 hf
  refine ⟨put w m (.map ((putE k v c Es).map toE).toArray (c+1)),?_,⟨putE k v c Es,c+1,heap_put_same (lt_of_heap g1),putE_kv k v c Es,?_,?_,?_⟩,hm _,by simp⟩
  ·simp only [Instr.mapUpdate,Sem.run_bind,run_und h1,Result.andThen_ok,run_getMap g1,run_checkKey h2,run_findKey h2,hf]
   rw [run_setMap g1,e1]
   simp [toE]
  ·rw [e1,List.map_append]
   refine List.nodup_append.2 ⟨g3,by simp,?_⟩
   intro a ha b hb
   simp at hb; subst hb
   obtain ⟨x,hx,rfl⟩:=List.mem_map.1 ha
   exact e2 x hx
  ·intro x hx
   rw [e1] at hx
   rcases List.mem_append.1 hx with hx | hx
   ·have:=g4 x hx; omega
   ·simp at hx; subst hx; simp
  ·rw [e1,List.map_append]
   refine List.nodup_append.2 ⟨g5,by simp,?_⟩
   intro a ha b hb
   simp at hb; subst hb
   obtain ⟨x,hx,rfl⟩:=List.mem_map.1 ha
   have:=g4 x hx; omega
 | some r =>
  obtain ⟨j,u⟩:=r
  obtain ⟨_,e1,e2⟩:=findE_modify k v c Es 0 j u hf
  rw [Nat.sub_zero] at e1 e2
  obtain ⟨b1,b2⟩:=putE_born k v c Es 0 (by rw [hf]; simp)
  refine ⟨put w m (.map ((putE k v c Es).map toE).toArray c),?_,⟨putE k v c Es,c,heap_put_same (lt_of_heap g1),putE_kv k v c Es,by rw [b2]; exact g3,?_,by rw [b1]; exact g5⟩,hm _,by simp⟩
  ·have hkey:(((Es.map toE).toArray[j]?).map (·.key)).getD (.int .i64 k)=.int .i64 k:=by
    rw [List.getElem?_toArray,e2]; rfl
   have hstay:(Instr.keyThatStays (.int .i64 k) (.int .i64 k)).run P w=.ok (.int .i64 k) w:=by
    have:Instr.sameBits 10000 (.int .i64 k) (.int .i64 k)=true:=by simp [Instr.sameBits]
    simp [Instr.keyThatStays,this]
   simp only [Instr.mapUpdate,Sem.run_bind,run_und h1,Result.andThen_ok,run_getMap g1,run_checkKey h2,run_findKey h2,hf,hkey,hstay]
   rw [run_setMap g1,<- e1]
   simp
  ·intro x hx
   have hx':x.2.2∈Es.map (·.2.2):=by rw [<- b1]; exact List.mem_map.2 ⟨x,hx,rfl⟩
   obtain ⟨y,hy,hye⟩:=List.mem_map.1 hx'
   rw [<- hye]; exact g4 y hy
theorem clear_run {T ty:TypeId} {z:Value} {m:Nat} {L:List (Int×Value)} (hT:mapZ P T=some z) (h:MapAt w m L) :
  ∃ w',(Builtin.clear_ #[T] ty #[.map (some m)]).run P w=.ok (.tuple #[]) w'/\MapAt w' m []/\Mod (fun x=>x=m) w w'/\w'.heap.size=w.heap.size:=by
 obtain ⟨kt,e,i,h1,h2,h3,h4⟩:=mapZ_is hT
 obtain ⟨Es,c,g1,rfl,g3,g4,g5⟩:=h
 refine ⟨put w m (.map #[] c),?_,⟨[],c,heap_put_same (lt_of_heap g1),rfl,by simp,by simp,by simp⟩,(Mod.refl (fun x=>x=m) w).put (.inr rfl) _,by simp⟩
 simp [Builtin.clear_,run_und h1,run_getMap g1,run_setMap g1]
theorem makeMap_run {T:TypeId}:(Instr.makeMap T none).run P w=.ok (.map (some w.heap.size)) (w.alloc (.map #[] 0)):=rfl
theorem MapAt.new:MapAt (w.alloc (.map #[] 0)) w.heap.size []:=⟨[],0,heap_new w _,rfl,by simp,by simp,by simp⟩
end
end Go.Den
end
section
open Go Go.Den Go.Proofs
namespace Go.Proofs.YtandmpcjjaabmaaGreat
def sorted (zs:List Int):List Int:=zs.mergeSort fun x y=>decide (x<=y)
theorem Sort_c {base l c:Nat} {a:Option Addr} {zs:List Int} {w:World} {K:Value->World->Prop} (h:Ow Tryz.prog w base 64 1 a l c (iL zs))
  (hk:∀ w',Ow Tryz.prog w' base 64 1 a l c (iL (sorted zs))->Mod (fun x=>base<=x) w w'->K (.tuple #[]) w') (hl62:zs.length<4611686018427387904) :
  Cal Tryz.prog F_slices_Sort_int #[.slice a l c] w K:=by
 refine ⟨⟨_,Tryz.func68,by kernel_rfl,by kernel_rfl⟩,?_⟩
 have hlen:zs.length=l:=by have:=h.len; simpa using this
 obtain ⟨e,he,h1,h2⟩:=h
 rcases h2 with ⟨hv,hz⟩ | ⟨g,cap,cur,hv,hb,hg,hle,hm,hsz,ht⟩
 ·subst hz
  simp at hv
  obtain ⟨rfl,rfl⟩:=hv
  have hzs:zs=[]:=List.eq_nil_of_length_eq_zero hlen
  subst hzs
  refine (Tryz.slices_Sort_int_none none 0 w).mono fun e' w' he'=>?_
  obtain ⟨rfl,rfl⟩:=he'
  exact hk w' ⟨e,he,by simp [sorted,iL],.inl ⟨rfl,rfl⟩⟩ (Mod.refl _ _)
 ·simp at hv
  obtain ⟨rfl,rfl⟩:=hv
  subst hlen
  have hmap:iL zs=zs.map (Value.int .i64):=rfl
  rw [Nat.mul_one,hmap] at ht
  have hH:=holds_of_blockI hg ht
  refine (Tryz.slices_Sort_int g 0 c zs w hH (lt_of_heap hg) hl62).mono fun e' w' he'=>?_
  obtain ⟨rfl,n,os,rfl⟩:=he'
  refine hk _ ⟨e,he,?_⟩ ((Mod.grown (grownBy_sortedI _)).mono fun x _ e=>by cases e; exact hb)
  exact ownsRow_sortedI (ts:=sorted zs) (by simp [sorted]) hb hg hle hm hsz
end Go.Proofs.YtandmpcjjaabmaaGreat
end
