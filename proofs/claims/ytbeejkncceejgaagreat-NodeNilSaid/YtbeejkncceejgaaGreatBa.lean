/- Parts of the proof, in order: what the statement leans on. -/
import Derived.Test.YtbeejkncceejgaaGreatRows
import Derived.Test.YtbeejkncceejgaaGreatProg
import Derived.Below
import Derived.KernelRfl
import Derived.Laws.Sem
import Derived.Laws.World
import Derived.Orders
import Derived.OrdersIn
import Derived.ControlIn
import Derived.TacticsIn
import Derived.RangeFuncSeq
import Derived.RangeFuncRecord
import Derived.RangeFuncCalls
import Derived.RangeFuncLeaves
import Derived.Scope
import Derived.Laws.MakeOwn
import Derived.Laws.AppendOwn
import Derived.Laws.OwnMore
import Derived.Laws.BytesString
import Derived.Laws.Strings
import Derived.Laws.Concat
import Derived.Laws.StructEq
import Derived.Laws.Strings2
import Derived.ChangeKeysEq
import Derived.Laws.IdiomRangeMap
import Derived.Test.YtbeejkncceejgaaGreatShelf
import Derived.Sort.OwnSortedInts
import Derived.Great.BuildSlice
import Derived.Lib.SlBytesConst
import Derived.Lib.SplitLaws
import Derived.Laws.RangeString
import Derived.Laws.Slices
import Derived.Laws.DeepStrings4
import Derived.ProofKit
import Derived.Carry
import Derived.OpenShut
import Derived.JoinedCond
import Derived.Deep.Matrix
import Derived.Lib.SmallJoins
import Derived.Deep.Slices
import Derived.Lib.SlicesCompact
namespace Go
abbrev Lc:=@of_decide_eq_false
abbrev Ld:=@of_decide_eq_true
abbrev Le:=@Nat.le_refl
abbrev Lf:=@List.take_of_length_le
abbrev Lh:=@decide_eq_false
abbrev Li:=@decide_eq_true
abbrev Lj:=@List.length_append
abbrev Lk:=@Option.some.inj
abbrev Ln:=@List.mem_append
abbrev Lp:=@List.getD_eq_getElem?_getD
abbrev Lq:=@List.getElem?_eq_some_iff
abbrev Lr:=@Bool.and_eq_true
abbrev Ls:=@List.drop_eq_nil_of_le
abbrev Lt:=@Array.getD_eq_getD_getElem?
abbrev Lu:=@List.take_append_of_le_length
abbrev Lv:=@List.mem_cons
abbrev Lw:=@List.length_replicate
abbrev Lx:=@List.take_succ_eq_append_getElem
abbrev Ly:=@List.nil_append
abbrev Lz:=@Int.toNat_natCast
abbrev L2:=@List.mem_map
abbrev RV:=@decide_eq_true_eq
abbrev XM:=@List.getElem?_eq_getElem
abbrev RH:=@Bool.eq_iff_iff
abbrev cF:=@Int.tdiv_eq_ediv_of_nonneg
abbrev iA:=@List.eq_nil_of_length_eq_zero
abbrev XN:=@List.mem_of_getElem?
abbrev VU:=@Classical.not_not
abbrev VV:=@List.append_assoc
abbrev UB:=@List.drop_append
abbrev Tb:=@List.drop_drop
abbrev QK:=@Nat.le_trans
abbrev dG:=@Int.eq_ofNat_of_zero_le
abbrev pJ:=@Int.tmod_eq_emod_of_nonneg
abbrev Tc:=@Nat.zero_add
abbrev VW:=@List.drop_zero
abbrev dH:=@List.mem_cons_of_mem
abbrev cG:=@Bool.false_eq_true
abbrev cH:=@decide_eq_true_iff
abbrev iD:=@BitVec.ofInt_natCast
abbrev W9:=@List.mem_range
abbrev wS:=@Array.getElem?_setIfInBounds_ne
abbrev cI:=@List.all_eq_true
abbrev iE:=@BitVec.toNat_ofNat
abbrev iF:=@List.mem_cons_self
abbrev pP:=@Nat.mul_le_mul_right
abbrev QJ:=@congrArg
abbrev dF:=@List.mem_filter
abbrev hY:=@Nat.mod_eq_of_lt
abbrev lC:=@Bool.not_eq_true'
abbrev Zr:=@List.map_cons
abbrev pF:=@Nat.lt_of_lt_of_le
abbrev iB:=@List.append_nil
abbrev wC:=@List.take_append_drop
abbrev pZ:=@List.drop_succ_cons
abbrev wO:=@List.getElem?_set_self
abbrev qA:=@List.mem_singleton
abbrev iC:=@Int.mul_nonneg
abbrev pH:=@List.length_cons
abbrev pK:=@List.length_take
abbrev qB:=@List.flatten_cons
abbrev qC:=@List.getElem?_map
abbrev Lq1:=@decide_eq_false_iff_not
abbrev Lr1:=@List.getElem?_append_right
abbrev wR:=@List.getElem?_set_ne
abbrev pM:=@List.map_append
abbrev pN:=@List.nodup_cons
abbrev dI:=@Nat.sub_self
abbrev qF:=@decide_eq_decide
abbrev lE:=@Bool.true_and
abbrev Wp:=@if_false
abbrev Lz1:=@Int.add_mul_emod_self_right
abbrev pX:=@List.take_zero
abbrev wN:=@Int.emod_eq_of_lt
abbrev Lc2:=@List.getElem?_append_left
abbrev Ld2:=@Bool.and_eq_false_iff
abbrev Le2:=@List.set_append_right
abbrev Lf2:=@Bool.not_eq_false'
abbrev pG:=@Nat.le_of_eq
abbrev Lh2:=@Nat.le_mul_of_pos_right
abbrev Li2:=@Nat.or_lt_two_pow
abbrev wP:=@Bool.or_eq_true
abbrev Lk2:=@List.set_eq_take_append_cons_drop
abbrev wD:=@Bool.false_or
abbrev Lm2:=@List.getElem_mem
abbrev Ln2:=@List.getElem?_eq_none
abbrev Lo2:=@Option.isSome_none
abbrev Lp2:=@UInt8.toNat_ofNat'
abbrev Lq2:=@List.mem_of_find?_eq_some
abbrev qD:=@Int.le_refl
abbrev qE:=@Nat.zero_le
abbrev Lt2:=@Bool.or_eq_false_iff
abbrev Lu2:=@List.getElem?_mapIdx
abbrev Lv2:=@List.mem_append_left
abbrev Lw2:=@Nat.min_eq_left
abbrev Lx2:=@Nat.pow_le_pow_right
abbrev pO:=@beq_iff_eq
abbrev Lz2:=@Option.some.injEq
abbrev wM:=@Nat.add_assoc
abbrev Lb3:=@Nat.testBit_two_pow
abbrev Lc3:=@Nat.xor_lt_two_pow
abbrev Ld3:=@List.length_filter_le
abbrev Le3:=@Array.getElem?_eq_some_iff
abbrev Lf3:=@List.ext_getElem?
abbrev Lg3:=@List.nodup_append
abbrev Lh3:=@Classical.byContradiction
abbrev Li3:=@List.drop_eq_getElem_cons
abbrev Lj3:=@List.any_eq_true
abbrev Lk3:=@List.filter_cons
abbrev Ll3:=@Nat.xor_zero
abbrev Lm3:=@List.filter_eq_self
abbrev Ln3:=@List.map_congr_left
abbrev Lo3:=@List.getElem?_replicate
abbrev lD:=@if_true
abbrev Lq3:=@List.filter_append
abbrev wQ:=@Nat.mod_lt
abbrev Ls3:=@Nat.testBit_and
abbrev Lt3:=@Option.map_some
abbrev Lu3:=@UInt8.toNat_inj
abbrev wT:=@cond_false
abbrev wE:=@cond_true
abbrev Lx3:=@List.pairwise_lt_range
abbrev Ly3:=@List.foldl_append
abbrev Lz3:=@List.mem_append_right
abbrev La4:=@List.take_take
abbrev Lb4:=@Nat.pow_succ
abbrev Lc4:=@Nat.testBit_or
abbrev pE:=@Ne.symm
abbrev Le4:=@Bool.and_eq_true_iff
abbrev Lf4:=@List.length_drop
abbrev Lg4:=@Nat.eq_of_testBit_eq
abbrev Lh4:=@List.map_take
abbrev Li4:=@Nat.xor_assoc
abbrev Lj4:=@Nat.add_mul
abbrev Lk4:=@Nat.mul_one
abbrev Ll4:=@Array.toList_append
abbrev Lm4:=@List.getElem?_drop
abbrev Ln4:=@List.getElem?_take
abbrev Lo4:=@List.map_map
abbrev Lp4:=@List.map_set
abbrev Lq4:=@List.Pairwise.imp
abbrev Lr4:=@List.any_eq_false
abbrev Ls4:=@Bool.or_false
abbrev Lt4:=@List.take_add
abbrev Lu4:=@Prod.mk.injEq
abbrev Lv4:=@List.cons_append
abbrev Lw4:=@List.take_append
abbrev Lx4:=@List.take_length
abbrev Ly4:=@Int.emod_nonneg
abbrev Lz4:=@List.find?_some
abbrev La5:=@List.length_map
abbrev Lb5:=@Nat.add_zero
abbrev Lc5:=@Nat.mul_comm
abbrev Ld5:=@and_congr_right
abbrev Le5:=@Bool.false_and
abbrev Lf5:=@List.nodup_nil
abbrev Lg5:=@Int.one_mul
abbrev Lh5:=@and_congr
abbrev Li5:=@List.cons.inj
abbrev Lj5:=@Nat.lt_irrefl
abbrev Lk5:=@forall_congr'
abbrev Ll5:=@decide_not
abbrev Lm5:=@Int.mul_comm
abbrev Ln5:=@Nat.lt_trans
abbrev Lo5:=@Nat.sub_zero
abbrev Lp5:=@Nat.zero_mul
end Go
open Go Go.Proofs in
noncomputable abbrev Go.Yt:Program := Tryz.prog
namespace Go
abbrev Yn(n:Int):Value := .int .i64 n
abbrev Yo(q:Nat):Value := .pointer (some ⟨q,0,none⟩)
abbrev Yw(n:Int):Int := IntKind.i64.wrap n
end Go
open Go.Proofs Go.Proofs.YtbeejkncceejgaaGreat
section
namespace Go.Den
open Go
inductive En where
 | lit (v:Value)
 | opq (v:Value)
 | dead
def vl:En->Value | .lit v=>v | .opq v=>v | .dead=>undef
abbrev B5:=Nat->En
def st(e:B5)(d:Nat)(v:Value):B5:=fun t=>bif Nat.beq t d then .lit v else e t
def Nz(e:B5)(d:Option Nat)(v:Value):B5:=match d with | some d=>st e d v | none=>e
def cK(t:Nat):List Nat->Bool
 | []=>false
 | d::r=>bif Nat.beq t d then true else cK t r
def A2:List Value->Nat->Value
 | [],_=>undef
 | v::_,0=>v
 | _::r,n+1=>A2 r n
def V4(t:Nat):List Nat->Nat
 | []=>0
 | d::r=>bif Nat.beq t d then 0 else V4 t r+1
def aR(ds outs:List Nat)(x:List Value)(e:B5):B5:=fun t=>bif cK t outs then .opq (A2 x (V4 t outs))else bif cK t ds then .dead else e t
def vals(outs:List Nat)(e:B5):List Value:=outs.map fun t=>vl (e t)
def ev(e:B5):Operand->Value
 | .tmp t=>vl (e t)
 | .const v=>v
 | .global g=>.pointer (some ⟨g,0,none⟩)
 | .func f=>.func (.func f) #[] #[]
structure An where
 S:List Nat
 ty:List (Nat×Nat)
 raw:List Nat
def Aa8(t:Nat):List (Nat×Nat)->Option Nat
 | []=>none
 | (d,y)::r=>bif Nat.beq t d then some y else Aa8 t r
def Fv(A:An)(ds:List Nat):List Nat:=A.S.filter fun t=>cK t ds
inductive Kd where
 | int (k:IntKind) | bool | str | ptr | slc | map | agg | any | addr
def kdD:TypeDesc->Kd
 | .int k=>.int k | .bool=>.bool | .string=>.str | .pointer _=>.ptr | .slice _=>.slc | .map _ _=>.map | .struct _=>.agg | .array _ _=>.agg | _=>.any
def kd(P:Program)(t:TypeId):Kd:=match P.underlying t with | some d=>kdD d | none=>.any
def Ex:Kd->(Value->Prop)->Prop
 | .int k,K=>∃ n:Int,K (.int k n)
 | .bool,K=>∃ b:Bool,K (.bool b)
 | .str,K=>∃ s:ByteArray,K (.string s)
 | .ptr,K=>∃ a:Option Addr,K (.pointer a)
 | .slc,K=>∃(a:Option Addr)(l c:Nat),K (.slice a l c)
 | .map,K=>∃ r:Option Nat,K (.map r)
 | .agg,K=>∃ c:Array Value,K (.agg c)
 | .any,K=>∃ v:Value,K v
 | .addr,K=>∃ a:Addr,K (.pointer (some a))
def ExL:List Kd->(List Value->Prop)->Prop
 | [],K=>K []
 | k::ks,K=>Ex k fun v=>ExL ks fun vs=>K (v::vs)
def pW(P:Program)(t:TypeId)(K:Value->Prop):Prop :=
 match P.underlying t with
 | some (.tuple ts)=>ExL (ts.toList.map (kd P)) fun vs=>K (.tuple ⟨vs⟩)
 | some d=>Ex (kdD d) K
 | none=>Ex .any K
def exY(P:Program)(y:Nat)(K:Value->Prop):Prop:=bif Nat.beq y 1000000 then Ex .addr K else pW P y K
def lB(P:Program)(o:Oper)(K:Value->Prop):Prop :=
 match o.op with
 | .alloc _ | .box _ _ | .indexAddr _ _ _ | .fieldAddr _ _ _ | .sliceToArrayPointer _ _ | .range _ _=>Ex .addr K
 | .next _ _ | .entry _=>Ex .any K
 | _=>pW P o.type K
inductive Cl where
 | val (v:Value)
 | nn (x:Value)
 | pick (c a b:Value)
 | pv (s:Sem Value)
 | rd (s:Sem Value)
 | wr (s:Sem Value)
 | wru (s:Sem Unit)
 | call (f:FuncId) (args:Array Value)
 | dyn (f:Value) (args:Array Value)
 | no
def Ys{α β:Type}(f:α->β)(a:Array α):Array β:=⟨a.toList.map f⟩
def mapO{α β:Type}(f:α->β):Option α->Option β | some a=>some (f a) | none=>none
def Xt(c:Bool)(a b:Value):Value :=
 match a,b with
 | .bool x,.bool y=>.bool (bif c then x else y)
 | a,b=>bif c then a else b
def G9(op:BinOp)(t:TypeId)(x y:Operand)(a b:Value):Sem Value:=do eqGuard op t x y a b;binOp op t a b
def rG(P:Program)(op:BinOp)(t:TypeId)(x y:Operand)(a b:Value):Cl :=
 match a,b with
 | .int k m,.int k' n =>
  match op with
  | .shl=>match y with
   | .const _=>bif decide (n<0)then .no else .val (.int k (k.wrap (m*2 ^ (min n.toNat k.bits))))
   | _=>.pv (G9 op t x y a b)
  | .shr=>match y with
   | .const _=>bif decide (n<0)then .no else .val (.int k (m.fdiv (2 ^ (min n.toNat k.bits))))
   | _=>.pv (G9 op t x y a b)
  | _ =>
   if k=k' then
    match op with
    | .add=>.val (.int k (k.wrap (m+n)))
    | .sub=>.val (.int k (k.wrap (m-n)))
    | .mul=>.val (.int k (k.wrap (m*n)))
    | .quo=>match y with
     | .const _=>bif decide (n=0)then .no else .val (.int k (k.wrap (m.tdiv n)))
     | _=>.pv (G9 op t x y a b)
    | .rem=>match y with
     | .const _=>bif decide (n=0)then .no else .val (.int k (m.tmod n))
     | _=>.pv (G9 op t x y a b)
    | .and=>.val (.int k (k.wrap (BitVec.ofInt k.bits m &&& BitVec.ofInt k.bits n).toNat))
    | .or=>.val (.int k (k.wrap (BitVec.ofInt k.bits m ||| BitVec.ofInt k.bits n).toNat))
    | .xor=>.val (.int k (k.wrap (BitVec.ofInt k.bits m ^^^ BitVec.ofInt k.bits n).toNat))
    | .andNot=>.val (.int k (k.wrap (BitVec.ofInt k.bits m &&& ~~~(BitVec.ofInt k.bits n)).toNat))
    | .eql=>.val (.bool (m==n))
    | .neq=>.val (.bool (m != n))
    | .lss=>.val (.bool (decide (m<n)))
    | .leq=>.val (.bool (decide (m<=n)))
    | .gtr=>.val (.bool (decide (m > n)))
    | .geq=>.val (.bool (decide (m >= n)))
    | _=>.no
   else .no
 | .bool p,.bool q =>
  match P.underlying t with
  | some .bool=>match op with
   | .eql=>.val (.bool (p==q))
   | .neq=>.val (.bool (!(p==q)))
   | _=>.no
  | _=>.no
 | .string s,.string u =>
  match op with
  | .eql=>.val (.bool (s.toList==u.toList))
  | .neq=>.val (.bool (!(s.toList==u.toList)))
  | _=>.pv (G9 op t x y a b)
 | .pointer p,.pointer q =>
  match P.underlying t with
  | some (.pointer _)=>match y,op with
   | .const (.pointer none),.eql=>.val (.bool p.isNone)
   | .const (.pointer none),.neq=>.val (.bool (!p.isNone))
   | _,_=>.rd (G9 op t x y (.pointer p) (.pointer q))
  | _=>.no
 | a,b=>.pv (G9 op t x y a b)
def clB(P:Program)(b:Builtin)(argTypes:Array TypeId)(type:TypeId)(args:Array Value):Cl :=
 match b with
 | .len=>match argTypes.toList,args.toList with
  | t::_,[.slice _ n _]=>match P.underlying t with
   | some (.slice _)=>.val (.int .i64 n)
   | _=>.no
  | t::_,[.string s]=>match P.underlying t with
   | some .string=>.val (.int .i64 s.size)
   | _=>.no
  | _,_=>.rd (Builtin.len_ argTypes type args)
 | .cap=>match argTypes.toList,args.toList with
  | t::_,[.slice _ _ n]=>match P.underlying t with
   | some (.slice _)=>.val (.int .i64 n)
   | _=>.no
  | _,_=>.no
 | .max=>match args.toList with
  | [.int k x,.int _ y]=>.val (.int k (if y > x then y else x))
  | _=>.no
 | .min=>match args.toList with
  | [.int k x,.int _ y]=>.val (.int k (if y<x then y else x))
  | _=>.no
 | .append=>.wr (Builtin.append_ argTypes type args)
 | .copy=>.wr (Builtin.copy_ argTypes type args)
 | .clear=>.wr (Builtin.clear_ argTypes type args)
 | .delete=>.wr (Builtin.delete_ argTypes type args)
 | _=>.no
def UP(P:Program)(s:TypeId)(f:Nat):Option Nat :=
 match P.underlying s with
 | some (.struct fs)=>match fs.toList[f]? with
  | some f=>match P.info? f.type with
   | some i=>bif Nat.beq i.size 0 then none else some f.offset
   | none=>none
  | none=>none
 | _=>none
def vE(P:Program)(t:TypeId):Bool:=match P.underlying t with | some .string=>true | _=>false
def uV(P:Program)(t:TypeId):Bool:=match P.underlying t with | some (.slice _)=>true | _=>false
def Aa6(A:An):Operand->Bool | .tmp t=>cK t A.raw | _=>false
def cl(P:Program)(A:An)(ρ:Operand->Value)(o:Oper):Cl :=
 match o.op with
 | .move x | .assign x=>.val (ρ x)
 | .pick c a b=>.pick (ρ c) (ρ a) (ρ b)
 | .alloc t=>.wr (Instr.alloc t true (.tuple #[]))
 | .box t x=>.wr (Instr.box t (ρ x))
 | .build t ps=>.pv (Instr.build t (Ys (fun p=>(p.1,ρ p.2)) ps))
 | .buildSlice t n ps=>.wr (Instr.buildSlice t n (Ys (fun p=>(p.1,ρ p.2)) ps))
 | .load t a=>.rd (Instr.loadAt t (ρ a))
 | .store t a x=>.wru (Instr.storeAt t (ρ a) (ρ x))
 | .nilCheck x=>.nn (ρ x)
 | .binOp op t x y _=>rG P op t x y (ρ x) (ρ y)
 | .unOp op _ x=>match op,ρ x with
  | .not,.bool b=>.val (.bool (!b))
  | .neg,.int k n=>.val (.int k (k.wrap (0-n)))
  | _,_=>.pv (Op.unary op (ρ x))
 | .convert s d x=>match ρ x with
  | .int _ n=>match P.underlying d with
   | some (.int k)=>match P.underlying s with
    | some _=>.val (.int k (k.wrap n))
    | none=>.no
   | _=>.pv (convert s d (ρ x))
  | .string _=>bif vE P d then .pv (convert s d (ρ x))else .wr (convert s d (ρ x))
  | _=>bif uV P d then .wr (convert s d (ρ x))else .rd (convert s d (ρ x))
 | .sliceToArrayPointer t x=>.pv (Instr.arrayAt t (ρ x))
 | .makeInterface t x=>.pv (Instr.makeInterface t (ρ x))
 | .makeFunc fn a b=>.val (.func fn (Ys ρ a) (Ys ρ b))
 | .makeMap t r=>.wr (Instr.makeMap t (mapO ρ r))
 | .makeSlice t l c=>.wr (Instr.makeSlice t (ρ l) (ρ c))
 | .slice t x l h m=>.pv (Instr.sliceAt t (ρ x) (mapO ρ l) (mapO ρ h) (mapO ρ m))
 | .fieldAddr s x f=>match ρ x,UP P s f with
  | .pointer (some a),some off=>.val (.pointer (some (a.add off)))
  | v,_=>.rd (Instr.fieldAt s v f)
 | .field t x f=>.pv (Instr.field t (ρ x) f)
 | .indexAddr t x i=>.pv (Instr.indexAt t (ρ x) (ρ i))
 | .index t x i=>.pv (Instr.index t (ρ x) (ρ i))
 | .lookup t x i b=>.rd (Instr.lookup t (ρ x) (ρ i) b)
 | .mapUpdate t m k v=>.wru (Instr.mapUpdate t (ρ m) (ρ k) (ρ v))
 | .insert t m k v=>.wru (Instr.mapUpdate t (ρ m) (ρ k) (ρ v))
 | .mapEntry t m k=>.wr (Instr.mapEntry t (ρ m) (ρ k))
 | .entryStore t m s v=>.wru (Instr.entryStore t (ρ m) (ρ s) (ρ v))
 | .range t x=>.wr (Instr.range t (ρ x))
 | .next it b=>.wr (Instr.next (ρ it) b o.type)
 | .entry it=>.rd (Instr.entry (ρ it))
 | .extract t i=>bif Aa6 A t then .pv (Instr.extract (ρ t) i)else match ρ t with
  | .tuple vs=>match vs.toList[i]? with
   | some v=>.val v
   | none=>.no
  | _=>.no
 | .call c=>match c.callee with
  | .value (.func f)=>.call f (Ys ρ c.args)
  | .value g=>.dyn (ρ g) (Ys ρ c.args)
  | .builtin b=>clB P b c.argTypes o.type (Ys ρ c.args)
  | .invoke _ _=>.no
 | _=>.no
def isW(P:Program)(o:Oper):Bool :=
 match o.op with
 | .alloc _ | .box .. | .buildSlice .. | .store .. | .makeMap .. | .makeSlice .. | .mapUpdate .. | .insert .. | .mapEntry .. | .entryStore .. | .range .. | .next ..=>true
 | .convert s d _=>vE P s || uV P d
 | .call c=>match c.callee with
  | .builtin .len | .builtin .cap | .builtin .max | .builtin .min=>false
  | _=>true
 | _=>false
def zR(K:Value->World->Prop):Ending->World->Prop:=fun e w=>match e with | .returned v=>K v w | _=>False
def wK (P : Program) (f : FuncId) : Prop := ∃ fn, P.funcs[f]? = some fn ∧ fn.body.isSome = true ∧ (fn.name == "runtime.NumGoroutine") = false
def A7(P:Program)(f:FuncId)(args:Array Value)(w:World)(K:Value->World->Prop):Prop:=wK P f/\Calls P f args w (zR K)
def Yld(P:Program)(l:Nat)(args:Array Value)(w:World)(K:Value->World->Prop):Prop:=YieldAt Fence.wide 0 P l args w (zR K)
def AgY(P:Program)(t:Fn)(first args cap:Array Value)(w:World)(K:Value->World->Prop):Prop :=
 match t with
 | .func f=>A7 P f (first++args++cap) w K
 | .yield l=>first=#[]/\cap=#[]/\Yld P l args w K
 | _=>False
def TH(P:Program)(v:Value)(args:Array Value)(w:World)(K:Value->World->Prop):Prop :=
 ∃ f first cap,v=.func f first cap/\AgY P f first args cap w K
def Fw(r:Option Nat):Fence:={ Fence.wide with round:=r }
def As(P:Program)(t:TypeId)(v:Value)(K:Value->Prop):Prop:=pW P t fun u=>v=u/\K u
def WJ(P:Program)(A:An)(o:Oper)(e:B5)(w:World)(K:Value->World->Prop):Prop :=
 match cl P A (ev e) o with
 | .val v=>K v w
 | .nn x=>∃ a,x=.pointer (some a)/\K (.pointer (some a)) w
 | .pick c a b=>match c with | .bool d=>K (Xt d a b) w | _=>False
 | .pv s=>lB P o fun v=>(∀ w',s.run P w'=.ok v w')/\K v w
 | .rd s=>lB P o fun v=>s.run P w=.ok v w/\K v w
 | .wr s=>lB P o fun v=>∃ w',s.run P w=.ok v w'/\K v w'
 | .wru s=>∃ w',s.run P w=.ok () w'/\K undef w'
 | .call f args=>A7 P f args w fun v w'=>As P o.type v fun v=>K v w'
 | .dyn f args=>TH P f args w fun v w'=>As P o.type v fun v=>K v w'
 | .no=>False
def tm:Operand->List Nat | .tmp t=>[t] | _=>[]
def tmO:Option Operand->List Nat | some x=>tm x | none=>[]
def tmL(l:List Operand):List Nat:=l.flatMap tm
def RB:Op->List Nat
 | .move x | .assign x | .box _ x | .load _ x | .nilCheck x | .unOp _ _ x | .convert _ _ x | .sliceToArrayPointer _ x | .makeInterface _ x | .fieldAddr _ x _ | .field _ x _
 | .range _ x | .next x _ | .entry x | .extract x _=>tm x
 | .pick c a b=>tm c++tm a++tm b
 | .build _ ps | .buildSlice _ _ ps=>tmL (ps.toList.map fun p=>p.2)
 | .store _ a v | .binOp _ _ a v _ | .makeSlice _ a v | .indexAddr _ a v | .index _ a v | .lookup _ a v _ | .mapEntry _ a v=>tm a++tm v
 | .makeFunc _ a b=>tmL a.toList++tmL b.toList
 | .makeMap _ r=>tmO r
 | .slice _ x l h m=>tm x++tmO l++tmO h++tmO m
 | .mapUpdate _ m k v | .entryStore _ m k v | .insert _ m k v=>tm m++tm k++tm v
 | .call c=>(match c.callee with | .value f=>tm f | _=>[])++tmL c.args.toList
 | _=>[]
def Hh(P:Program)(A:An):List Nat->B5->(B5->Prop)->Prop
 | [],e,K=>K e
 | t::r,e,K=>match e t with
  | .lit _=>Hh P A r e K
  | .opq v=>match Aa8 t A.ty with
   | some y=>exY P y fun u=>v=u/\Hh P A r (st e t u) K
   | none=>Hh P A r (st e t v) K
  | .dead=>False
def isG(ops:List Oper)(j:Nat):Bool:=ops.any fun o=>match o.guard with | some (k,_)=>Nat.beq k j | none=>false
def sF(g:Bool)(v:Value)(K:Value->Prop):Prop :=
 bif g then(match v with | .bool b=>bif b then K (.bool true)else K (.bool false) | _=>False)else K v
def ZO(ops:List Oper)(j:Nat):Option Nat:=match ops[j]? with | some o=>o.dst | none=>none
def dL(ops:List Oper)(e:B5)(o:Oper):Option Bool :=
 match o.guard with
 | none=>some true
 | some (j,want)=>match ZO ops j with
  | some d=>match e d with
   | .lit (.bool b)=>some (b==want)
   | .lit (.tuple _)=>some false
   | _=>none
  | none=>none
def gd(b:Option Bool)(x y:Prop):Prop:=match b with | some true=>x | some false=>y | none=>False
def oI(P:Program)(A:An)(ops:List Oper):List Oper->Nat->(B5->World->Prop)->B5->World->Prop
 | [],_,K,e,w=>K e w
 | o::r,i,K,e,w =>
  gd (dL ops e o) (Hh P A (RB o.op) e fun e=>WJ P A o e w fun v w'=>sF (isG ops i) v fun v=>oI P A ops r (i+1) K (Nz e o.dst v) w')
   (oI P A ops r (i+1) K (Nz e o.dst undef) w)
def Sv(l:List Nat):Nat:=l.foldl (fun m i=>Nat.lor m (2 ^ i)) 0
def Cm(ops:List Oper):List Nat :=
 ops.foldl (fun acc o=>acc++[o.after.toList.foldl (fun m e=>bif Region.binds .any e then Nat.lor m (Nat.lor (2 ^ e.on) (acc.getD e.on 0))else m) 0]) []
def PN(P:Program)(ops:List Oper)(r:Nat):Bool:=match ops[r]? with | some o=>!isW P o | none=>false
def O5(dm:List Nat)(todo:List Nat)(r:Nat):Bool:=Nat.beq (Nat.land (dm.getD r 0) (Sv todo)) 0
abbrev XO:=List (Nat×(World->Prop))
def obl(P:Program)(A:An)(i:Nat)(o:Oper)(e:B5)(v:Value):XO :=
 match cl P A (ev e) o with
 | .rd s=>[(i,fun w'=>s.run P w'=.ok v w')]
 | _=>[]
def Rm(dm:List Nat)(i:Nat)(w:World):XO->Prop->Prop
 | [],K=>K
 | (r,p)::l,K=>bif Nat.testBit (dm.getD i 0) r then Rm dm i w l K else p w/\Rm dm i w l K
def AcD:List Prop->Prop
 | []=>True
 | [p]=>p
 | p::q::l=>p/\AcD (q::l)
def xS(P:Program)(A:An)(o:Oper)(e:B5)(w:World)(K:Value->Prop):Prop :=
 match cl P A (ev e) o with
 | .val v=>K v
 | .nn x=>∃ a,x=.pointer (some a)/\K (.pointer (some a))
 | .pick c a b=>match c with | .bool d=>K (Xt d a b) | _=>False
 | .pv s=>lB P o fun v=>(∀ w',s.run P w'=.ok v w')/\K v
 | .rd s=>lB P o fun v=>s.run P w=.ok v w/\K v
 | _=>False
def zD(P:Program)(A:An)(ops:List Oper):List Nat->(B5->XO->Prop)->B5->XO->World->Prop
 | [],K,e,obs,_=>K e obs
 | i::r,K,e,obs,w=>match ops[i]? with
  | none=>False
  | some o =>
   gd (dL ops e o) (Hh P A (RB o.op) e fun e=>xS P A o e w fun v=>sF (isG ops i) v fun v'=>zD P A ops r K (Nz e o.dst v') (obs++obl P A i o e v) w)
    (zD P A ops r K (Nz e o.dst undef) obs w)
def Vh(P:Program)(ops:List Oper)(dm:List Nat)(todo:List Nat):List Nat :=
 (List.range ops.length).filter fun r=>PN P ops r&&O5 dm todo r
def CS(todo:List Nat)(i:Nat):List Nat:=todo.filter fun j=>!Nat.beq j i
def OT(P:Program)(ops:List Oper)(dm:List Nat)(todo:List Nat)(i:Nat):List Nat :=
 (List.range ops.length).filter fun r=>PN P ops r&&!O5 dm todo r&&O5 dm (CS todo i) r
def drD(P:Program)(A:An)(ops:List Oper)(dm:List Nat):Nat->List Nat->(B5->World->Prop)->B5->XO->World->Prop
 | 0,_,K,e,_,w=>K e w
 | n+1,todo,K,e,obs,w =>
  AcD ((todo.filter (O5 dm todo)).map fun i=>match ops[i]? with
   | none=>False
   | some o =>
    gd (dL ops e o)
     (Hh P A (RB o.op) e fun e=>WJ P A o e w fun v w'=>sF (isG ops i) v fun v' =>
      Rm dm i w' obs (zD P A ops (OT P ops dm todo i) (fun e'' obs''=>drD P A ops dm n (CS todo i) K e'' obs'' w') (Nz e o.dst v') obs w'))
     (zD P A ops (OT P ops dm todo i) (fun e'' obs''=>drD P A ops dm n (CS todo i) K e'' obs'' w) (Nz e o.dst undef) obs w))
def Af(w:World):World:={ w with drawn:=w.drawn+1 }
def oY(P:Program)(ops:List Oper):List Nat:=(List.range ops.length).filter fun r=>!PN P ops r
def iT(P:Program)(A:An)(ops:List Oper)(K:B5->World->Prop)(e:B5)(w:World):Prop :=
 zD P A ops (Vh P ops (Cm ops) (oY P ops)) (fun e' obs=>drD P A ops (Cm ops) (oY P ops).length (oY P ops) K e' obs w) e [] w
def Ad(B:(List Value->World->Prop)->Prop)(C:List Value->World->Prop):Prop:=∃ J:List Value->World->Prop,(∀ x w,J x w->C x w)/\B J
def AS(B:(List Value->World->Prop)->List Value->World->Prop)(x:List Value)(w:World):Prop :=
 ∃(I:List Value->World->Prop)(μ:List Value->World->Nat),I x w/\∀ x w,I x w->B (fun x' w'=>I x' w'/\μ x' w'<μ x w) x w
def JH:List Oper->List Nat
 | []=>[]
 | o::r=>match o.dst with | some d=>d::JH r | none=>JH r
def BC:Code->List Nat
 | .region _ ops _=>JH ops.toList
 | .seq a b=>BC a++BC b
 | .cond _ a b=>BC a++BC b
 | .block _ c=>BC c
 | .loop c=>BC c
 | .scope c=>BC c
 | _=>[]
def OR(id:Nat):Code->Nat
 | .exit i=>bif Nat.beq i id then 1 else 0
 | .seq a b=>OR id a+OR id b
 | .cond _ a b=>OR id a+OR id b
 | .block _ c=>OR id c
 | .loop c=>OR id c
 | .scope c=>OR id c
 | _=>0
def ES:Code->Bool
 | .skip | .region .. | .label _=>true
 | .seq a b=>ES a&&ES b
 | .cond _ a b=>ES a || ES b
 | .block id c=>ES c || !Nat.beq (OR id c) 0
 | .scope c=>ES c
 | _=>false
def jH(ops:List Oper):Bool:=ops.any fun o=>o.guard.isSome
def zP(P:Program)(A:An)(ops:List Oper)(draw:Bool)(K:B5->World->Prop)(e:B5)(w:World):Prop :=
 bif draw then iT P A ops K e (Af w)else oI P A ops ops 0 K e w
def Zv(outs:List Nat)(e:B5):Bool:=outs.all fun t=>match e t with | .dead=>false | _=>true
def Vl(A:An)(ds:List Nat)(k:List Value->World->Prop)(e:B5)(w:World):Prop :=
 bif Zv (Fv A ds) e then k (vals (Fv A ds) e) w else False
def YI(A:An)(ds:List Nat)(e:B5)(B:(B5->World->Prop)->Prop)(K:B5->World->Prop):Prop :=
 Ad (fun k=>B (Vl A ds k)) (fun x w=>K (aR ds (Fv A ds) x e) w)
def Sh(P:Program)(A:An):Code->(B5->World->Prop)->(Nat->B5->World->Prop)->(B5->World->Prop)->B5->World->Prop
 | .skip,K,_,_,e,w=>K e w
 | .label _,K,_,_,e,w=>K e w
 | .region _ ops draw,K,_,_,e,w =>
  bif jH ops.toList then YI A (JH ops.toList) e (fun k=>zP P A ops.toList draw k e w) K else zP P A ops.toList draw K e w
 | .seq a b,K,X,R,e,w=>Sh P A a (fun e w=>Sh P A b K X R e w) X R e w
 | .cond c a b,K,X,R,e,w=>Hh P A (tm c) e fun e=>match ev e c with
  | .bool t =>
   bif ES a&&ES b then
    YI A (BC a++BC b) e (fun k=>bif t then Sh P A a k X R e w else Sh P A b k X R e w) K
   else bif t then Sh P A a K X R e w else Sh P A b K X R e w
  | _=>False
 | .block id c,K,X,R,e,w =>
  bif Nat.ble 2 ((bif ES c then 1 else 0)+OR id c)then
   YI A (BC c) e (fun k=>Sh P A c k (fun i e w=>bif Nat.beq i id then k e w else X i e w) R e w) K
  else Sh P A c K (fun i e w=>bif Nat.beq i id then K e w else X i e w) R e w
 | .loop c,_,X,R,e,w =>
  Vl A (BC c) (AS (fun k x w=>Sh P A c (Vl A (BC c) k) X R (aR (BC c) (Fv A (BC c)) x e) w)) e w
 | .scope c,K,X,R,e,w=>Sh P A c K X R e w
 | .exit i,_,X,_,e,w=>X i e w
 | .ret,_,_,R,e,w=>R e w
 | _,_,_,_,_,_=>False
def Y9(P:Program)(A:An)(w:World):List ResultVar->B5->(List Value->Prop)->Prop
 | [],_,K=>K []
 | .tmp t::r,e,K=>Hh P A [t] e fun e=>Y9 P A w r e fun vs=>K (vl (e t)::vs)
 | .cell a t::r,e,K=>Hh P A [a] e fun e=>pW P t fun v=>(Instr.loadAt t (vl (e a))).run P w=.ok v w/\Y9 P A w r e fun vs=>K (v::vs)
def Vx:List Value->Value
 | [v]=>v
 | vs=>.tuple ⟨vs⟩
def xB(args:List Value):B5:=fun t=>match args[t]? with | some v=>.lit v | none=>.lit undef
def AcG(P:Program)(A:An)(fn:Func)(args:List Value)(w:World)(K:Value->World->Prop):Prop :=
 match fn.body with
 | some c =>
  let R:B5->World->Prop:=fun e w=>Y9 P A w fn.results.toList e fun vs=>K (Vx vs) w
  Sh P A c R (fun _ _ _=>False) R (xB args) w
 | none=>False
open Go
theorem yS{α β:Type}(f:α->β)(a:Array α):Ys f a=a.map f:=by
 cases a;simp[Ys]
theorem yT{α β:Type}(f:α->β)(a:Option α):mapO f a=a.map f:=by cases a<;>rfl
def Cl.Ok(P:Program)(o:Oper)(ρ:Operand->Value):Cl->Prop
 | .val v=>∀ w,(execOp ρ o).run P w=.ok (.value v) w
 | .nn x=>∀ a,x=.pointer (some a)->∀ w,(execOp ρ o).run P w=.ok (.value (.pointer (some a))) w
 | .pick c a b=>∀ d,c=.bool d->∀ w,(execOp ρ o).run P w=.ok (.value (Xt d a b)) w
 | .pv s | .rd s | .wr s=>∀ w,(execOp ρ o).run P w=(s.run P w).andThen fun v w'=>.ok (.value v) w'
 | .wru s=>∀ w,(execOp ρ o).run P w=(s.run P w).andThen fun _ w'=>.ok .skip w'
 | .call f args=>wK P f->∀ w,(execOp ρ o).run P w=.ok (.enter f args) w
 | .dyn x args=>(∀ f first cap,x=.func (.func f) first cap->wK P f->∀ w,(execOp ρ o).run P w=.ok (.enter f (first++args++cap)) w) /\
   ∀ l,x=.func (.yield l) #[] #[]->∀ w,(execOp ρ o).run P w=(Instr.yield l args).run P w
 | .no=>True
theorem uC(d:Bool)(a b:Value):Xt d a b=if d=true then a else b:=by
 unfold Xt;split
 ·cases d<;>rfl
 ·cases d<;>rfl
theorem AJ{P:Program}{t:TypeId}{d:TypeDesc}(h:P.underlying t=some d)(w:World):(underlying t).run P w=.ok d w:=by
 simp[underlying,h]
def OkS(P:Program)(s:Sem Value):Cl->Prop
 | .val v=>∀ w,s.run P w=.ok v w
 | .pv s' | .rd s' | .wr s'=>∀ w,s.run P w=s'.run P w
 | .no=>True
 | _=>False
theorem Cl.ok_of_s{P:Program}{o:Oper}{ρ:Operand->Value}{s:Sem Value}{c:Cl}(h:OkS P s c)
  (he:execOp ρ o=(s >>= fun v=>pure (.value v))):c.Ok P o ρ:=by
 cases c<;>simp only[OkS]at h<;>simp only[Cl.Ok]
 case val v=>intro w;rw[he];simp[h w]
 case pv s'=>intro w;rw[he];simp[h w]
 case rd s'=>intro w;rw[he];simp[h w]
 case wr s'=>intro w;rw[he];simp[h w]
theorem ER{P:Program}{op:BinOp}{t:TypeId}{x y:Operand}{a b:Value}(hg:∀ w,(eqGuard op t x y a b).run P w=.ok () w)(w:World) :
  (G9 op t x y a b).run P w=(binOp op t a b).run P w:=by
 simp[G9,hg w]
theorem KD{P:Program}(op:BinOp)(t:TypeId)(x y:Operand)(k k':IntKind)(m n:Int)(w:World) :
  (eqGuard op t x y (.int k m) (.int k' n)).run P w=.ok () w:=by
 simp only[eqGuard];cases op<;>simp
theorem fD{P:Program}(op:BinOp)(t:TypeId)(x y:Operand)(m n:Bool)(w:World) :
  (eqGuard op t x y (.bool m) (.bool n)).run P w=.ok () w:=by
 simp only[eqGuard];cases op<;>simp
theorem mX{P:Program}(op:BinOp)(t:TypeId)(x y:Operand)(m n:ByteArray)(w:World) :
  (eqGuard op t x y (.string m) (.string n)).run P w=.ok () w:=by
 simp only[eqGuard];cases op<;>simp
theorem mV{P:Program}(op:BinOp)(t:TypeId)(x y:Operand)(m n:Option Addr)(w:World) :
  (eqGuard op t x y (.pointer m) (.pointer n)).run P w=.ok () w:=by
 simp only[eqGuard];cases op<;>simp
theorem Nu{P:Program}{t:TypeId}(h:P.underlying t=some .bool)(p q:Bool)(w:World) :
  (Op.equal t (.bool p) (.bool q)).run P w=.ok (p==q) w:=by
 have key:∀ d,(Op.equalIn (d+1) t (.bool p) (.bool q)).run P w=.ok (p==q) w:=fun d=>by
  simp only[Op.equalIn,Sem.run_bind,AJ h,Result.andThen_ok,Sem.run_pure]
 exact key 9999
theorem OW{P:Program}{t:TypeId}{e:TypeId}(h:P.underlying t=some (.pointer e))(p:Option Addr)(w:World) :
  (Op.equal t (.pointer p) (.pointer none)).run P w=.ok p.isNone w:=by
 have key:∀ d,(Op.equalIn (d+1) t (.pointer p) (.pointer none)).run P w=.ok p.isNone w:=fun d=>by
  cases p<;>simp[Op.equalIn,Sem.run_bind,AJ h,Result.andThen_ok,Sem.run_pure]
 exact key 9999
theorem rH{P : Program}{op : BinOp}{t : TypeId}{x y : Operand}{a b : Value}(hc : ∀ c, y = .const c → b = c) :
    OkS P (G9 op t x y a b) (rG P op t x y a b) := by
  unfold rG;split
  · rename_i k m k' n
    have hg := fun w => ER (P := P) (op := op) (t := t) (fun w => KD op t x y k k' m n w) w;split
    · split
      · cases h : decide (n < 0)
        · simp only[wT, OkS];intro w;rw[hg];have : ¬ n < 0 := by simpa using h
          simp[binOp, Op.shift, this]
        · trivial
      · intro w;rfl
    · split
      · cases h : decide (n < 0)
        · simp only[wT, OkS];intro w;rw[hg];have : ¬ n < 0 := by simpa using h
          simp[binOp, Op.shift, this]
        · trivial
      · intro w;rfl
    · rename_i h1 h2
      split
      · rename_i hk
        subst hk;split
        all_goals first
          | (intro w;rw[hg];simp[binOp, Op.intArith, Op.intBits, Op.intCmp];done)
          | (split
             · first
               | (cases h : decide (n = 0)
                  · simp only[wT, OkS];intro w;rw[hg];have : ¬ n = 0 := by simpa using h
                    simp[binOp, Op.intDiv, this]
                  · trivial)
             · intro w;rfl)
          | trivial
      · trivial
  · rename_i p q
    have hg := fun w => ER (P := P) (op := op) (t := t) (fun w => fD op t x y p q w) w;split
    · rename_i hu
      split
      · intro w;rw[hg];simp only[binOp, Sem.run_bind, Nu hu, Result.andThen_ok, Sem.run_pure]
      · intro w;rw[hg];simp only[binOp, Sem.run_bind, Nu hu, Result.andThen_ok, Sem.run_pure]
      · trivial
    · trivial
  · rename_i p q
    have hg := fun w => ER (P := P) (op := op) (t := t) (fun w => mX op t x y p q w) w;split
    · intro w;rw[hg];simp[binOp, Op.stringOp]
    · intro w;rw[hg];simp[binOp, Op.stringOp]
    · intro w;rfl
  · rename_i p q
    have hg := fun w => ER (P := P) (op := op) (t := t) (fun w => mV op t x y p q w) w;split
    · rename_i e hu
      split
      · have := hc _ rfl
        cases this;intro w;rw[hg];simp only[binOp, Sem.run_bind, OW hu, Result.andThen_ok, Sem.run_pure]
      · have := hc _ rfl
        cases this;intro w;rw[hg];simp only[binOp, Sem.run_bind, OW hu, Result.andThen_ok, Sem.run_pure]
      · intro w;rfl
    · trivial
  · intro w;rfl
open Go
theorem LK{P : Program}{f : FuncId}(h : wK P f)(args : Array Value)(w : World) : (callFunc f args).run P w = .ok (.enter f args) w := by
  obtain⟨fn, hf, hb, hn⟩ := h;have hb' : fn.body ≠ none := by intro e;simp[e]at hb
  have hn' : ¬ fn.name = "runtime.NumGoroutine" := by simpa using hn
  simp[callFunc, hf, hn', hb']
theorem ZS{P:Program}{s:TypeId}{f off:Nat}(h:UP P s f=some off)(a:Addr)(w:World) :
  (Instr.fieldAt s (.pointer (some a)) f).run P w=.ok (.pointer (some (a.add off))) w:=by
 unfold UP at h
 split at h
 ·rename_i fs hu
  split at h
  ·rename_i fd hfd
   split at h
   ·rename_i i hi;cases hz:Nat.beq i.size 0 with
    | true=>simp[hz]at h
    | false =>
     have hz':i.size≠0:=by intro e;simp[e]at hz
     simp only[hz,wT,Lz2]at h;have hfd':fs[f]?=some fd:=by simpa using hfd
     simp[Instr.fieldAt,AJ hu,hfd',Instr.sureAddr,fieldPlace,sizeOf,typeInfo,hi,hz',h]
   ·simp at h
  ·simp at h
 ·simp at h
theorem ZH{P:Program}{s d:TypeId}{k k':IntKind}{sd:TypeDesc}(hd:P.underlying d=some (.int k))(hs:P.underlying s=some sd)(n:Int)(w:World) :
  (convert s d (.int k' n)).run P w=.ok (.int k (k.wrap n)) w:=by
 simp only[convert,Sem.run_bind,AJ hd,AJ hs,Result.andThen_ok];simp[Conv.intToInt]
theorem bJ{P:Program}{o:Oper}{ρ:Operand->Value}{b:Builtin}{c:Call}(ho:o.op=.call c)(hb:c.callee=.builtin b)(w:World) :
  ∃ cs,(execOp ρ o).run P w=(builtin b c.argTypes o.type cs (c.args.map ρ)).run P w:=by
 simp only[execOp,ho,resolve,hb,Sem.run_bind,Sem.run_pure,Result.andThen_ok,invoke];exact⟨_,rfl⟩
theorem AcC{P:Program}{o:Oper}{ρ:Operand->Value}{b:Builtin}{c:Call}(ho:o.op=.call c)(hb:c.callee=.builtin b) :
  (clB P b c.argTypes o.type (c.args.map ρ)).Ok P o ρ:=by
 have he:∀ w,∃ cs,(execOp ρ o).run P w=(builtin b c.argTypes o.type cs (c.args.map ρ)).run P w:=fun w=>bJ ho hb w;generalize hA:c.args.map ρ=A at *;have hl:A=A.toList.toArray:=by simp
 have ht:c.argTypes=c.argTypes.toList.toArray:=by simp
 generalize c.argTypes=T at *;unfold clB;split
 ·-- len
  split
  ·rename_i t _ x n y hT heq;rw[heq]at hl;rw[hT]at ht;split
   ·rename_i e hu;intro w;obtain⟨cs,h⟩:=he w;rw[h];simp[builtin,Builtin.len_,hl,ht,AJ hu,goInt]
   ·trivial
  ·rename_i t _ s hT heq;rw[heq]at hl;rw[hT]at ht;split
   ·rename_i hu;intro w;obtain⟨cs,h⟩:=he w;rw[h];simp[builtin,Builtin.len_,hl,ht,AJ hu,goInt]
   ·trivial
  ·intro w;obtain⟨cs,h⟩:=he w;rw[h];simp[builtin]
 ·split
  ·rename_i t _ x n y hT heq;rw[heq]at hl;rw[hT]at ht;split
   ·rename_i e hu;intro w;obtain⟨cs,h⟩:=he w;rw[h];simp[builtin,Builtin.cap_,hl,ht,AJ hu,goInt]
   ·trivial
  ·trivial
 ·split
  ·rename_i k x k' y heq;rw[heq]at hl;intro w;obtain⟨cs,h⟩:=he w;rw[h];simp[builtin,Builtin.max_,hl,Builtin.max2]
  ·trivial
 ·split
  ·rename_i k x k' y heq;rw[heq]at hl;intro w;obtain⟨cs,h⟩:=he w;rw[h];simp[builtin,Builtin.min_,hl,Builtin.min2]
  ·trivial
 ·intro w;obtain⟨cs,h⟩:=he w;rw[h];simp[builtin]
 ·intro w;obtain⟨cs,h⟩:=he w;rw[h];simp[builtin]
 ·intro w;obtain⟨cs,h⟩:=he w;rw[h];simp[builtin]
 ·intro w;obtain⟨cs,h⟩:=he w;rw[h];simp[builtin]
 ·trivial
theorem AaY{P:Program}{A:An}{o:Oper}{e:B5}:(cl P A (ev e) o).Ok P o (ev e):=by
 have hconst:∀ c,ev e (.const c)=c:=fun _=>rfl;have hfun:∀ f,ev e (.func f)=.func (.func f) #[] #[]:=fun _=>rfl;generalize ev e=ρ at *;generalize ho:o.op=op;unfold cl;rw[ho];cases op<;>simp only[yS,yT]
 case move x=>intro w;simp[execOp,ho]
 case assign x=>intro w;simp[execOp,ho]
 case pick c a b=>intro d hd w;simp[execOp,ho,hd,asBool,uC]
 case alloc t=>intro w;simp[execOp,ho]
 case box t x=>intro w;simp[execOp,ho]
 case build t ps=>intro w;simp[execOp,ho]
 case buildSlice t n ps=>intro w;simp[execOp,ho]
 case insert t m k v=>intro w;simp[execOp,ho]
 case load t a=>intro w;simp[execOp,ho]
 case store t a x=>intro w;simp[execOp,ho]
 case ready=>trivial
 case waits=>trivial
 case nilCheck x=>intro a ha w;simp[execOp,ho,ha]
 case binOp op t x y yt =>
  refine Cl.ok_of_s (rH (x:=x) (y:=y) (fun c hc=>by subst hc;exact hconst _)) ?_;simp[execOp,ho,G9]
 case unOp op t x =>
  split
  ·rename_i b hx;intro w;simp[execOp,ho,hx,Op.unary]
  ·rename_i k n hx;intro w;simp[execOp,ho,hx,Op.unary,Op.intArith]
  ·intro w;simp[execOp,ho]
 case convert s d x =>
  split
  ·rename_i k n hx;split
   ·rename_i k' hd;split
    ·rename_i sd hs;intro w;simp[execOp,ho,hx,ZH hd hs]
    ·trivial
   ·intro w;simp[execOp,ho,hx]
  ·rename_i s hx;cases vE P d<;>(intro w;simp[execOp,ho,hx])
  ·cases uV P d<;>(intro w;simp[execOp,ho])
 case sliceToArrayPointer t x=>intro w;simp[execOp,ho]
 case makeInterface t x=>intro w;simp[execOp,ho]
 case makeFunc fn a b=>intro w;simp[execOp,ho,Instr.makeFunc]
 case makeMap t r=>intro w;simp[execOp,ho]
 case makeChan=>trivial
 case makeSlice t l c=>intro w;simp[execOp,ho]
 case slice t x l h m=>intro w;simp[execOp,ho]
 case fieldAddr s x f =>
  split
  ·rename_i a off hx hf;intro w;simp[execOp,ho,hx,ZS hf]
  ·intro w;simp[execOp,ho]
 case field t x f=>intro w;simp[execOp,ho]
 case indexAddr t x i=>intro w;simp[execOp,ho]
 case index t x i=>intro w;simp[execOp,ho]
 case lookup t x i b=>intro w;simp[execOp,ho]
 case mapUpdate t m k v=>intro w;simp[execOp,ho]
 case mapEntry t m k=>intro w;simp[execOp,ho]
 case entryStore t m s v=>intro w;simp[execOp,ho]
 case range t x=>intro w;simp[execOp,ho]
 case next it b=>intro w;simp[execOp,ho]
 case entry it=>intro w;simp[execOp,ho]
 case typeAssert=>trivial
 case extract t i =>
  cases Aa6 A t
  ·simp only[wT];split
   ·rename_i vs ht;split
    ·rename_i v hv;intro w;have:vs[i]?=some v:=by simpa using hv
     simp[execOp,ho,ht,Instr.extract,this]
    ·trivial
   ·trivial
  ·intro w;simp[execOp,ho]
 case call c =>
  split
  ·rename_i f hc;intro hg w;simp[execOp,ho,resolve,hc,hfun,Deferred.ofValue,invoke,LK hg]
  ·rename_i g hng hc;refine⟨?_,?_⟩
   ·intro f first cap hv hg w;simp[execOp,ho,resolve,hc,hv,Deferred.ofValue,invoke,LK hg]
   ·intro l hv w;simp[execOp,ho,resolve,hc,hv,Deferred.ofValue,invoke]
  ·rename_i b hc;exact AcC ho hc
  ·trivial
 case go=>trivial
 case defer=>trivial
 case panic=>trivial
 case send=>trivial
 case recv=>trivial
 case select=>trivial
open Go
theorem Ex.elim{k:Kd}{K:Value->Prop}(h:Ex k K):∃ v,K v:=by
 cases k<;>simp only[Ex]at h
 case slc=>obtain⟨a,l,c,h⟩:=h;exact⟨_,h⟩
 all_goals (obtain⟨a,h⟩:=h;exact⟨_,h⟩)
theorem ExL.elim:∀{ks:List Kd}{K:List Value->Prop},ExL ks K->∃ v,K v
 | [],_,h=>⟨_,h⟩
 | k::ks,K,h=>by
  obtain⟨v,h⟩:=Ex.elim h;obtain⟨vs,h⟩:=ExL.elim h;exact⟨_,h⟩
theorem pW.elim{P:Program}{t:TypeId}{K:Value->Prop}(h:pW P t K):∃ v,K v:=by
 unfold pW at h
 split at h
 ·obtain⟨vs,h⟩:=ExL.elim h;exact⟨_,h⟩
 ·exact Ex.elim h
 ·exact Ex.elim h
theorem exY.elim{P:Program}{t:TypeId}{K:Value->Prop}(h:exY P t K):∃ v,K v:=by
 unfold exY at h;cases hb:Nat.beq t 1000000<;>rw[hb]at h
 ·exact pW.elim h
 ·exact Ex.elim (k:=.addr) h
theorem lB.elim{P:Program}{o:Oper}{K:Value->Prop}(h:lB P o K):∃ v,K v:=by
 unfold lB at h
 split at h<;>first | exact Ex.elim h | exact pW.elim h
theorem As.elim{P:Program}{t:TypeId}{v:Value}{K:Value->Prop}(h:As P t v K):K v:=by
 obtain⟨u,rfl,h⟩:=pW.elim h;exact h
def En.live:En->Bool | .dead=>false | _=>true
def Ki(D:List Deferred)(e:B5)(a:Act):Prop:=a.defers=D/\∀ t,(e t).live=true->a.tmps.getD t undef=vl (e t)
theorem AD{a b:Nat}(h:Nat.beq a b=true):a=b:=Nat.eq_of_beq_eq_true h
theorem Ez{a b:Nat}(h:Nat.beq a b=false):a≠b:=Nat.ne_of_beq_eq_false h
theorem Z2(a:Nat):Nat.beq a a=true:=by simp
theorem Dj{D:List Deferred}{P:Program}{A:An}{a:Act}:∀{ts:List Nat}{e:B5}{K:B5->Prop},Ki D e a->Hh P A ts e K ->
  ∃ e',Ki D e' a/\(∀ t,(e' t).live=(e t).live)/\(∀ t,(e t).live=true->vl (e' t)=vl (e t))/\(∀ t∈ts,(e' t).live=true)/\K e'
 | [],e,K,hA,h=>⟨e,hA,fun _=>rfl,fun _ _=>rfl,fun _ h=>by simp at h,h⟩
 | t::r,e,K,hA,h=>by
  unfold Hh at h
  split at h
  ·rename_i v hv;obtain⟨e',h1,h2,h3,h4,h5⟩:=Dj hA h;refine⟨e',h1,h2,h3,?_,h5⟩;intro u hu;rcases Lv.1 hu with rfl | hu
   ·rw[h2,hv];rfl
   ·exact h4 u hu
  ·rename_i v hv;have step:∀ u,v=u->Hh P A r (st e t u) K->∃ e',Ki D e' a/\(∀ t,(e' t).live=(e t).live)/\(∀ t,(e t).live=true->vl (e' t)=vl (e t))/\(∀ s∈t::r,(e' s).live=true)/\K e':=by
    intro u hu hf;have hst:∀ s,(st e t u s).live=(e s).live/\((e s).live=true->vl (st e t u s)=vl (e s)):=by
     intro s;unfold st;cases hb:Nat.beq s t
     ·exact⟨rfl,fun _=>rfl⟩
     ·have:=AD hb;subst this
      simp only[wE,hv,hu];exact⟨rfl,fun _=>rfl⟩
    have hA':Ki D (st e t u) a:=⟨hA.1,fun s hs=>by rw[(hst s).2 ((hst s).1 ▸ hs)];exact hA.2 s ((hst s).1 ▸ hs)⟩;obtain⟨e',h1,h2,h3,h4,h5⟩:=Dj hA' hf;refine⟨e',h1,fun s=>(h2 s).trans (hst s).1,fun s hs=>(h3 s ((hst s).1.trans hs)).trans ((hst s).2 hs),?_,h5⟩;intro s hs;rcases Lv.1 hs with rfl | hs
    ·rw[h2,(hst s).1,hv];rfl
    ·exact h4 s hs
   split at h
   ·obtain⟨u,hu,h⟩:=exY.elim h;exact step u hu h
   ·exact step v rfl h
  ·exact h.elim
theorem Ki.put{D:List Deferred}{e:B5}{a:Act}{d:Option Nat}{v:Value}(h:Ki D e a)(hd:∀ x,d=some x->x<a.tmps.size):Ki D (Nz e d v) (a.put d v):=by
 cases d with
 | none=>exact h
 | some d =>
  have hd:=hd d rfl;refine⟨h.1,fun t ht=>?_⟩;simp only[Nz,st,Act.put]at *;cases hb:Nat.beq t d
  ·have hne:=Ez hb;rw[hb]at ht;simp only[wT]at ht |-;rw[<- h.2 t ht];simp only[Lt];rw[wS (fun e=>hne e.symm)]
  ·have:=AD hb;subst this
   simp only[wE,vl];simp[Lt,hd]
theorem Ns(a:Act)(d:Option Nat)(v:Value):(a.put d v).tmps.size=a.tmps.size:=by
 cases d<;>simp[Act.put]
theorem Yc{D:List Deferred}{e:B5}{a:Act}(h:Ki D e a){x:Operand}(hx:∀ t,x=.tmp t->(e t).live=true):a.eval x=ev e x:=by
 cases x with
 | tmp t=>exact h.2 t (hx t rfl)
 | _=>rfl
theorem HB{t:Nat}{x:Operand}:t∈tm x↔.tmp t=x:=by
 cases x<;>simp[tm]
theorem jS{t:Nat}{x:Option Operand}:t∈tmO x↔some (.tmp t)=x:=by
 cases x with
 | none=>simp[tmO]
 | some x=>simp[tmO,HB]
theorem jR{t:Nat}{l:List Operand}:t∈tmL l↔.tmp t∈l:=by
 simp[tmL,HB]
def gI:Op->Bool
 | .makeChan .. | .typeAssert .. | .go _ | .defer _ | .panic _ | .send .. | .recv .. | .select .. | .ready _ | .waits _=>false
 | .call c=>(match c.callee with | .invoke ..=>false | _=>true)
 | _=>true
theorem rI{P:Program}{A:An}{ρ:Operand->Value}{o:Oper}(h:gI o.op=false):cl P A ρ o=.no:=by
 unfold gI at h;unfold cl
 split at h<;>simp_all
 split at h<;>simp_all
theorem Xm{op:Op}{t:Nat}(hs:gI op=true)(h:Operand.tmp t∈op.operands.toList):t∈RB op:=by
 cases op<;>simp only[Op.operands]at h<;>simp only[RB]<;>try (simp only[Ln,HB,jS,jR];clear hs;simp at h;simp[h];done)
 case pick=>simp only[Ln,HB];simpa [or_assoc] using h
 case alloc=>simp at h
 case slice t x l hh m=>cases l<;>cases hh<;>cases m<;>simp_all [jS,HB]
 case mapUpdate=>simpa [HB,or_assoc] using h
 case insert=>simpa [HB,or_assoc] using h
 case entryStore=>simpa [HB,or_assoc] using h
 case call c =>
  simp only[Call.operands]at h;simp only[Ln,jR];cases hc:c.callee with
  | value f=>simp[hc]at h;simp[HB,h]
  | builtin b=>simp[hc]at h;simp[h]
  | invoke r m=>simp[gI,hc]at hs
 all_goals (simp[gI]at hs)
open Go
variable{P:Program}{A:An}
theorem rT{D:List Deferred}{o:Oper}{e:B5}{a:Act}(hA:Ki D e a)(hs:gI o.op=true)(hl:∀ t∈RB o.op,(e t).live=true):execOp a.eval o=execOp (ev e) o:=by
 refine execOp_congr o ?_ fun x hx=>Yc hA fun t ht=>hl t (Xm hs (ht ▸ by simpa using hx));intro cs b hc;simp[hc,gI]at hs
theorem Si{o:Oper}{e:B5}{w:World}{K:Value->World->Prop}(h:WJ P A o e w K):gI o.op=true:=by
 cases hh:gI o.op
 ·unfold WJ at h;rw[rI hh]at h;exact h.elim
 ·rfl
theorem oH{r:Option Nat}{ρ:Operand->Value}{o:Oper}(h:gI o.op=true):o.semAt r ρ=execOp ρ o :=
 Oper.semAt_eq r ρ o fun c hc=>by rw[hc]at h;cases h
theorem Yd{ρ:Operand->Value}{o:Oper}{v:Value}{w w':World}(h:(execOp ρ o).run P w=.ok (.value v) w'):∀ c,o.op≠.defer c:=fun c hc=>by
 simp only[execOp,hc,Sem.run_bind]at h;cases hr:(resolve ρ c o.type).run P w with
 | ok d w2=>rw[hr]at h;simp at h
 | halt x w2=>rw[hr]at h;simp at h
theorem PF{r:Option Nat}{n:Nat}{f:FuncId}{args:Array Value}{w:World}{R:Ending->World->Prop}(h:Calls P f args w R):CallsIn (Fw r) n P f args w R:=callsIn_wide.2 h
theorem fU{r:Option Nat}{n m l:Nat}{f:FuncId}{tmps:Array Value}{a b:Code}{w:World}{R:Ending->World->Prop}(h:RoundIn Fence.wide m P l f tmps a b w R):RoundIn (Fw r) n P l f tmps a b w R :=
 ⟨trivial,fun c cs _=>h.2 c cs (room_wide _)⟩
theorem QY{r:Option Nat}{n:Nat}:(Fw r).depth.isSome=true->1<=n:=fun h=>by cases h
theorem Tg{r:Option Nat}{n:Nat}{o:Oper}{e:B5}{a:Act}{w:World}{K:Value->World->Prop}{next:Act->World->Prop}{Q:Exit->Act->World->Prop}
  (h:WJ P A o e w K) (he:execOp a.eval o=execOp (ev e) o) (hk:∀ v w',K v w'->next (a.put o.dst v) w'):o.wpIn (Fw r) n P a w next Q:=by
 have hc:=AaY (P:=P) (A:=A) (o:=o) (e:=e);have hsup:=Si h;unfold Oper.wpIn;refine⟨fun _ _=>trivial,?_⟩;rw[oH hsup,he];unfold WJ at h;cases hcl:cl P A (ev e) o<;>rw[hcl]at h hc<;>simp only[Cl.Ok]at hc<;>simp only at h
 case val v=>rw[hc w];exact hk _ _ h
 case nn x=>obtain⟨q,ha,h⟩:=h;rw[hc q ha w];exact hk _ _ h
 case pick c p q =>
  split at h
  ·rename_i d;rw[hc d rfl w];exact hk _ _ h
  ·exact h.elim
 case pv s=>obtain⟨v,hv,h⟩:=lB.elim h;rw[hc w,hv w];exact hk _ _ h
 case rd s=>obtain⟨v,hv,h⟩:=lB.elim h;rw[hc w,hv];exact hk _ _ h
 case wr s=>obtain⟨v,w',hv,h⟩:=lB.elim h;rw[hc w,hv];exact hk _ _ h
 case wru s=>obtain⟨w',hv,h⟩:=h;rw[hc w,hv];exact hk _ _ h
 case call f args =>
  obtain⟨hg,h⟩:=h;rw[hc hg w];refine⟨QY,PF (Calls.mono h fun e' w' hr=>?_)⟩;cases e' with
  | returned v=>exact hk _ _ (As.elim hr)
  | panicked c=>exact hr.elim
  | outgrown=>exact hr.elim
 case dyn x args =>
  obtain⟨f,first,cap,hx,h⟩:=h;cases f with
  | func f =>
   obtain⟨hg,h⟩:=h;rw[hc.1 f first cap hx hg w];refine⟨QY,PF (Calls.mono h fun e' w' hr=>?_)⟩;cases e' with
   | returned v=>exact hk _ _ (As.elim hr)
   | panicked c=>exact hr.elim
   | outgrown=>exact hr.elim
  | yield l =>
   obtain⟨rfl,rfl,fn,tmps,assign,body,hy,hr⟩:=h;rw[hc.2 l hx w,hy];refine⟨QY,(fU hr).mono fun e' w' hr=>?_⟩;cases e' with
   | returned v=>exact hk _ _ (As.elim hr)
   | panicked c=>exact hr.elim
   | outgrown=>exact hr.elim
  | _=>exact h.elim
theorem Sn{g:Bool}{v:Value}{K:Value->Prop}(h:sF g v K):K v:=by
 unfold sF at h;cases g
 ·exact h
 ·simp only[wE]at h
  split at h
  ·rename_i b;cases b
   ·exact h
   ·exact h
  ·exact h.elim
theorem ZP(ops:Array Oper)(j:Nat):ZO ops.toList j=(ops[j]?).bind (·.dst):=by
 unfold ZO;have:ops.toList[j]?=ops[j]?:=by simp
 rw[this];cases ops[j]?<;>rfl
theorem UC{D:List Deferred}{ops:Array Oper}{e:B5}{a:Act}{o:Oper}{b:Bool}(hA:Ki D e a)(h:dL ops.toList e o=some b):Region.wanted o (yielded ops a.tmps)=b:=by
 unfold dL at h;unfold Region.wanted;cases hg:o.guard with
 | none=>simp only[hg]at h |-;exact Lk h
 | some g =>
  obtain⟨j,want⟩:=g;simp only[hg,ZP]at h |-;unfold yielded;cases hd:(ops[j]?).bind (·.dst)with
  | none=>simp[hd]at h
  | some d =>
   simp only[hd]at h;cases he:e d with
   | opq v=>simp[he]at h
   | dead=>simp[he]at h
   | lit v =>
    have hv:=hA.2 d (by rw[he];rfl);simp only[he,vl]at hv h;simp only[Option.bind_some];cases v<;>simp only at h
    case bool c =>
     have:a.tmps[d]?=some (.bool c):=by
      cases hx:a.tmps[d]? with
      | none=>simp[Lt,hx,undef]at hv
      | some y=>simp[Lt,hx]at hv;rw[hv]
     rw[this];rw[<- Lk h];cases c<;>cases want<;>rfl
    case tuple vs =>
     rw[<- Lk h];cases hx:a.tmps[d]? with
     | none=>rfl
     | some y =>
      simp[Lt,hx]at hv;rw[hv];rfl
    all_goals (simp at h)
theorem Yj{b:Option Bool}{x y:Prop}(h:gd b x y):(b=some true/\x)\/(b=some false/\y):=by
 unfold gd at h
 split at h
 ·exact .inl ⟨rfl,h⟩
 ·exact .inr ⟨rfl,h⟩
 ·exact h.elim
def Fr(ds:List Nat)(a a':Act):Prop:=a'.tmps.size=a.tmps.size/\∀ t,cK t ds=false->a'.tmps.getD t undef=a.tmps.getD t undef
theorem Fr.refl(ds:List Nat)(a:Act):Fr ds a a:=⟨rfl,fun _ _=>rfl⟩
theorem Fr.trans{ds:List Nat}{a b c:Act}(h:Fr ds a b)(h':Fr ds b c):Fr ds a c:=⟨h'.1.trans h.1,fun t ht=>(h'.2 t ht).trans (h.2 t ht)⟩
theorem JJ{t:Nat}{ds:List Nat}:cK t ds=true↔t∈ds:=by
 induction ds with
 | nil=>simp[cK]
 | cons d r ih =>
  unfold cK;cases hb:Nat.beq t d
  ·have:=Ez hb;simp[ih,this]
  ·have:=AD hb;simp[this]
theorem Fr.put{ds:List Nat}{a:Act}{d:Option Nat}(h:∀ x,d=some x->x∈ds)(v:Value):Fr ds a (a.put d v):=by
 refine⟨Ns a d v,fun t ht=>?_⟩;cases d with
 | none=>rfl
 | some d =>
  have hne:d≠t:=by
   intro e;subst e;rw[JJ.2 (h d rfl)]at ht;exact Bool.noConfusion ht
  simp only[Act.put,Lt];rw[wS hne]
theorem Fr.mono{ds ds':List Nat}{a b:Act}(h:Fr ds a b)(hs:∀ t,t∈ds->t∈ds'):Fr ds' a b :=
 ⟨h.1,fun t ht=>h.2 t (by
  cases hh:cK t ds
  ·rfl
  ·rw[JJ.2 (hs t (JJ.1 hh))]at ht;exact ht)⟩
theorem Xl{ops:List Oper}{o:Oper}{d:Nat}(ho:o∈ops)(hd:o.dst=some d):d∈JH ops:=by
 induction ops with
 | nil=>simp at ho
 | cons p r ih =>
  unfold JH;rcases Lv.1 ho with rfl | ho
  ·rw[hd];exact iF
  ·have:=ih ho
   split
   ·exact dH _ this
   ·exact this
theorem PY{D:List Deferred}{ro:Option Nat}{nn:Nat}{ops:Array Oper}{Q:Exit->Act->World->Prop}{K:B5->World->Prop}{n:Nat}{a0:Act}(hn:∀ o∈ops.toList,∀ d,o.dst=some d->d<n)
  (hq:∀ e a w,Ki D e a->Fr (JH ops.toList) a0 a->K e w->Q .normal a w) :
  ∀(r:List Oper)(i:Nat)(e:B5)(a:Act)(w:World),ops.toList.drop i=r->Ki D e a->a.tmps.size=n->Fr (JH ops.toList) a0 a ->
   oI P A ops.toList r i K e w->wpOpsIn (Fw ro) nn P ops Q (List.range' i r.length) a w
 | [],i,e,a,w,_,hA,_,hF,h=>hq e a w hA hF h
 | o::r,i,e,a,w,hr,hA,hsz,hF,h=>by
  have hi:ops.toList[i]?=some o:=by
   have:=QJ (fun l=>l[0]?) hr
   simpa using this
  have hmem:o∈ops.toList:=XN hi;have hi':ops[i]?=some o:=by simpa using hi
  have hr':ops.toList.drop (i+1)=r:=by
   have:=QJ List.tail hr
   simpa using this
  have hdst:∀ x,o.dst=some x->x<a.tmps.size:=fun x hx=>hsz ▸ hn o hmem x hx;have hmd:∀ x,o.dst=some x->x∈JH ops.toList:=fun x hx=>Xl hmem hx;simp only[pH,List.range'_succ,wpOpsIn,hi'];unfold oI at h;rcases Yj h with ⟨hg,h⟩ | ⟨hg,h⟩
  ·rw[UC hA hg];simp only[lD];obtain⟨e',hA',_,_,hl,h⟩:=Dj hA h;refine Tg h (rT hA' (Si h) hl) fun v w' hv=>?_;have hv:=Sn hv;exact PY hn hq r (i+1) _ _ w' hr' (hA'.put hdst) ((Ns _ _ _).trans hsz) (hF.trans (Fr.put hmd v)) hv
  ·rw[UC hA hg];simp only[cG,Wp];refine⟨fun _ _=>trivial,?_⟩;exact PY hn hq r (i+1) _ _ w hr' (hA.put hdst) ((Ns _ _ _).trans hsz) (hF.trans (Fr.put hmd _)) h
open Go
def SD:List Oper->Nat->Nat->Option Nat
 | [],_,_=>none
 | o::r,i,t=>match o.dst with
  | some d=>bif Nat.beq t d then some i else SD r (i+1) t
  | none=>SD r (i+1) t
def lk(ops:List Oper)(o:Oper):List Nat :=
 RB o.op++(match o.guard with | some (j,_)=>(match ZO ops j with | some d=>[d] | none=>[]) | none=>[])
def orE(dm:List Nat):List Edge->Nat
 | []=>0
 | e::r=>bif Region.binds .any e then Nat.lor (Nat.lor (2 ^ e.on) (dm.getD e.on 0)) (orE dm r)else orE dm r
def zF(ops:List Oper)(dm:List Nat)(i:Nat)(o:Oper):Bool :=
 (match o.dst with | some d=>(match SD ops 0 d with | some j=>Nat.beq j i | none=>false) | none=>true) &&
 ((lk ops o).all fun t=>match SD ops 0 t with
  | some j=>Nat.testBit (dm.getD i 0) j || Nat.testBit (dm.getD j 0) i
  | none=>true) &&
 Nat.blt (dm.getD i 0) (2 ^ i) &&
 ((List.range i).all fun j=>!Nat.testBit (dm.getD i 0) j || Nat.beq (Nat.land (dm.getD j 0) (dm.getD i 0)) (dm.getD j 0)) &&
 (o.after.toList.all fun e=>!Region.binds .any e || Nat.blt e.on i) &&
 Nat.beq (dm.getD i 0) (orE dm o.after.toList)
def jY(ops:List Oper)(dm:List Nat):List Oper->Nat->Bool
 | [],_=>true
 | o::r,i=>zF ops dm i o&&jY ops dm r (i+1)
def fJ(ops:List Oper):Bool:=jY ops (Cm ops) ops 0
structure Wo(ops:List Oper)(dm:List Nat):Prop where
 g1:∀ i o,ops[i]?=some o->∀ d,o.dst=some d->SD ops 0 d=some i
 g2:∀ i o,ops[i]?=some o->∀ t∈lk ops o,∀ j,SD ops 0 t=some j->Nat.testBit (dm.getD i 0) j=true\/Nat.testBit (dm.getD j 0) i=true
 g3:∀ i o,ops[i]?=some o->∀ j,Nat.testBit (dm.getD i 0) j=true->j<i/\∀ k,Nat.testBit (dm.getD j 0) k=true->Nat.testBit (dm.getD i 0) k=true
 g4:∀ i o,ops[i]?=some o->∀ e∈o.after,Region.binds .any e=true->e.on<i
 g5:∀ i o,ops[i]?=some o->∀ j,Nat.testBit (dm.getD i 0) j=true->∃ e∈o.after,Region.binds .any e=true/\(j=e.on\/Nat.testBit (dm.getD e.on 0) j=true)
theorem Ob{ops:List Oper}:∀{i t j:Nat},SD ops i t=some j->∃ o,ops[j-i]?=some o/\o.dst=some t/\i<=j:=by
 induction ops with
 | nil=>intro i t j h;simp[SD]at h
 | cons o r ih =>
  intro i t j h;unfold SD at h;have rest:SD r (i+1) t=some j->∃ p,(o::r)[j-i]?=some p/\p.dst=some t/\i<=j:=by
   intro h;obtain⟨p,h1,h2,h3⟩:=ih h;refine⟨p,?_,h2,by omega⟩;have:j-i=(j-(i+1))+1:=by omega
   rw[this];simpa using h1
  split at h
  ·rename_i d hd;cases hb:Nat.beq t d
   ·rw[hb]at h;exact rest h
   ·rw[hb]at h
    have:=AD hb;subst this
    simp only[wE,Lz2]at h;subst h;exact⟨o,by simp,hd,Le _⟩
  ·exact rest h
theorem NA{dm:List Nat}{j:Nat}:∀{es:List Edge},Nat.testBit (orE dm es) j=true->∃ e∈es,Region.binds .any e=true/\(j=e.on\/Nat.testBit (dm.getD e.on 0) j=true)
 | [],h=>by simp[orE]at h
 | e::r,h=>by
  unfold orE at h;cases hb:Region.binds .any e
  ·rw[hb]at h;obtain⟨e',h1,h2⟩:=NA h;exact⟨e',dH _ h1,h2⟩
  ·rw[hb]at h;have h:Nat.testBit ((2 ^ e.on ||| dm.getD e.on 0) ||| orE dm r) j=true:=h;rw[Lc4,Lc4,Lb3]at h;simp only[wP,RV]at h;rcases h with (h | h) | h
   ·exact⟨e,iF,hb,.inl h.symm⟩
   ·exact⟨e,iF,hb,.inr h⟩
   ·obtain⟨e',h1,h2⟩:=NA h;exact⟨e',dH _ h1,h2⟩
theorem Xq{ops:List Oper}{dm:List Nat}:∀{r:List Oper}{i:Nat},jY ops dm r i=true->∀ k o,r[k]?=some o->zF ops dm (i+k) o=true
 | [],_,_,_,_,h=>by simp at h
 | p::r,i,h,k,o,hk=>by
  unfold jY at h;simp only[Lr]at h;cases k with
  | zero=>simp at hk;subst hk;exact h.1
  | succ k =>
   have:=Xq h.2 k o (by simpa using hk)
   rwa [show i+(k+1)=i+1+k by omega]
theorem yH{ops:List Oper}(h:fJ ops=true):Wo ops (Cm ops):=by
 have key:∀ i o,ops[i]?=some o->zF ops (Cm ops) i o=true:=fun i o hi=>by
  have:=Xq h i o hi
  rwa [Tc]at this
 generalize Cm ops=dm at *;have sp:∀ i o,ops[i]?=some o->_:=fun i o hi=>by
  have:=key i o hi
  unfold zF at this;simp only[Lr]at this;exact this
 constructor
 ·intro i o hi d hd;have h1:=(sp i o hi).1.1.1.1.1;rw[hd]at h1;simp only at h1
  split at h1
  ·rename_i j hj
   have:=AD h1;subst this
   exact hj
  ·exact Bool.noConfusion h1
 ·intro i o hi t ht j hj;have h1:=(sp i o hi).1.1.1.1.2
  have:=cI.1 h1 t ht
  rw[hj]at this;simpa using this
 ·intro i o hi j hj;have h1:=(sp i o hi).1.1.1.2;have h2:=(sp i o hi).1.1.2;have hlt:dm.getD i 0<2 ^ i:=by rw[Nat.blt_eq]at h1;exact h1
  have hji:j<i:=by
   rcases Nat.lt_or_ge j i with h|h
   ·exact h
   ·rw[Nat.testBit_lt_two_pow (pF hlt (Lx2 (by omega) h))]at hj;exact Bool.noConfusion hj
  refine⟨hji,fun k hk=>?_⟩
  have:=cI.1 h2 j (W9.2 hji)
  rw[hj]at this;simp only[Bool.not_true,wD]at this;have this:=AD this;have e:Nat.testBit (dm.getD j 0 &&& dm.getD i 0) k=Nat.testBit (dm.getD j 0) k:=QJ (fun x=>Nat.testBit x k) this;rw[Ls3,hk]at e;simpa using e
 ·intro i o hi e he hb;have h1:=(sp i o hi).1.2
  have:=cI.1 h1 e (by simpa using he)
  rw[hb]at this;simp only[Bool.not_true,wD]at this;rw[Nat.blt_eq]at this;exact this
 ·intro i o hi j hj;have h1:=AD (sp i o hi).2;rw[h1]at hj;obtain⟨e,he,h⟩:=NA hj;exact⟨e,by simpa using he,h⟩
open Go
section
variable{P:Program}{A:An}{ops:Array Oper}{dm:List Nat}
def NQ(dm:List Nat)(i:Nat):Nat->Bool:=fun j=>Nat.testBit (dm.getD i 0) j
def H5(ops:Array Oper)(a0:Act)(S:Nat->Bool)(vals:Nat->Value)(t:Nat):Value :=
 match SD ops.toList 0 t with
 | some j=>if S j=true then vals j else a0.tmps.getD t undef
 | none=>a0.tmps.getD t undef
def Ag3(P:Program)(ops:Array Oper)(dm:List Nat)(a0:Act)(vals:Nat->Value)(obs:XO)(i:Nat):Prop :=
 ∃ o,ops[i]?=some o/\∀ a':Act,(∀ t∈lk ops.toList o,a'.tmps.getD t undef=H5 ops a0 (NQ dm i) vals t)->a'.defers=a0.defers ->
  (Region.wanted o (yielded ops a'.tmps)=true/\∀ w',(∀ q∈obs,q.1=i->q.2 w')->(execOp a'.eval o).run P w'=.ok (.value (vals i)) w') \/
  (Region.wanted o (yielded ops a'.tmps)=false/\vals i=undef)
structure PI(P:Program)(ops:Array Oper)(dm:List Nat)(a0:Act)(pr L:Nat->Bool)(vals:Nat->Value)(e:B5)(obs:XO)(w:World):Prop where
 env:∀ t,(e t).live=true->vl (e t)=H5 ops a0 pr vals t
 sub:∀ i,L i=true->pr i=true
 pend:∀ i,pr i=true->L i=false->Ag3 P ops dm a0 vals obs i
 now:∀ q∈obs,pr q.1=true/\(L q.1=false->q.2 w)
 clo:∀ i j,pr i=true->NQ dm i j=true->pr j=true
def AbZ(ops:Array Oper)(a0:Act)(L:Nat->Bool)(vals:Nat->Value)(a:Act):Prop :=
 a.defers=a0.defers/\a.tmps.size=a0.tmps.size/\∀ t,a.tmps.getD t undef=H5 ops a0 L vals t
theorem NP{a0:Act}{S:Nat->Bool}{v v':Nat->Value}{t:Nat}(h:∀ j,S j=true->v j=v' j):H5 ops a0 S v t=H5 ops a0 S v' t:=by
 unfold H5;split
 ·split
  ·rename_i j _ hj;exact h j hj
  ·rfl
 ·rfl
theorem ZL{a0:Act}{S S':Nat->Bool}{v:Nat->Value}{t:Nat}(h:∀ j,SD ops.toList 0 t=some j->S j=S' j):H5 ops a0 S v t=H5 ops a0 S' v t:=by
 unfold H5;split
 ·rename_i j hj;rw[h j hj]
 ·rfl
theorem PP(hg:Wo ops.toList dm){i:Nat}{o:Oper}(hi:ops.toList[i]?=some o){S:Nat->Bool}(hin:∀ j,NQ dm i j=true->S j=true)
  (hout:∀ j,NQ dm j i=true->S j=false) {a0:Act} {v:Nat->Value} {t:Nat} (ht:t∈lk ops.toList o):H5 ops a0 S v t=H5 ops a0 (NQ dm i) v t:=by
 refine ZL fun j hj=>?_;rcases hg.g2 i o hi t ht j hj with h | h
 ·have h:NQ dm i j=true:=h;rw[hin j h,h]
 ·have h:NQ dm j i=true:=h;rw[hout j h];cases hb:NQ dm i j
  ·rfl
  ·obtain⟨p,hp,_,_⟩:=Ob hj;have hp:ops.toList[j]?=some p:=by simpa using hp
   have h1:=(hg.g3 i o hi j hb).1;have h2:=(hg.g3 j p hp i h).1;omega
theorem TQ{a0:Act}(hg:Wo ops.toList dm){S:Nat->Bool}{v:Nat->Value}{i:Nat}{o:Oper}(hi:ops.toList[i]?=some o)(hS:S i=false)(u:Value)(t:Nat) :
  H5 ops a0 (fun j=>S j || Nat.beq j i) (fun j=>if j=i then u else v j) t=if o.dst=some t then u else H5 ops a0 S v t:=by
 unfold H5;split
 ·rename_i j hj;obtain⟨p,hp,hd,_⟩:=Ob hj;have hp:ops.toList[j]?=some p:=by simpa using hp
  by_cases hji:j=i
  ·subst hji;rw[hi]at hp;cases hp;simp[hd]
  ·have hnb:Nat.beq j i=false:=by
    cases hb:Nat.beq j i
    ·rfl
    ·exact absurd (AD hb) hji
   have hne:o.dst≠some t:=by
    intro hd'
    have:=hg.g1 i o hi t hd'
    rw[hj]at this;exact hji (Lk this)
   simp[hnb,hji,hne]
 ·rename_i hj;have hne:o.dst≠some t:=by
   intro hd'
   have:=hg.g1 i o hi t hd'
   rw[hj]at this;cases this
  simp[hne]
theorem aD(a:Act)(d:Option Nat)(u:Value)(hd:∀ x,d=some x->x<a.tmps.size)(t:Nat):(a.put d u).tmps.getD t undef=if d=some t then u else a.tmps.getD t undef:=by
 cases d with
 | none=>simp[Act.put]
 | some d =>
  have:=hd d rfl
  by_cases h:d=t
  ·subst h;simp[Act.put,Lt,this]
  ·simp only[Act.put,Lt,Lz2,h,Wp];rw[wS h]
theorem kU{e:B5}{d:Option Nat}{u:Value}{t:Nat}(h:(Nz e d u t).live=true):vl (Nz e d u t)=if d=some t then u else vl (e t):=by
 cases d with
 | none=>simp[Nz]
 | some d =>
  simp only[Nz,st]at *;cases hb:Nat.beq t d
  ·have:=Ez hb
   have:¬ (some d=some t):=fun e=>this (Lk e).symm;rw[if_neg this];rfl
  ·have:=AD hb;subst this
   simp[vl]
theorem Xh{e:B5}{d:Option Nat}{u:Value}{t:Nat}(h:(Nz e d u t).live=true)(hd:d≠some t):(e t).live=true:=by
 cases d with
 | none=>exact h
 | some d =>
  simp only[Nz,st]at h;cases hb:Nat.beq t d
  ·rwa [hb]at h
  ·exact absurd (QJ some (AD hb).symm) hd
end
open Go
section
variable{P:Program}{A:An}{ops:Array Oper}{dm:List Nat}
theorem xT{i:Nat}{o:Oper}{e:B5}{w:World}{K:Value->Prop}(h:xS P A o e w K) :
  gI o.op=true/\∃ v,K v/\(∀ w',(∀ q∈obl P A i o e v,q.2 w')->(execOp (ev e) o).run P w'=.ok (.value v) w')/\(∀ q∈obl P A i o e v,q.1=i/\q.2 w):=by
 have hc:=AaY (P:=P) (A:=A) (o:=o) (e:=e);have hs:gI o.op=true:=by
  cases hh:gI o.op
  ·unfold xS at h;rw[rI hh]at h;exact h.elim
  ·rfl
 refine⟨hs,?_⟩;unfold xS at h;unfold obl;cases hcl:cl P A (ev e) o<;>rw[hcl]at h hc<;>simp only[Cl.Ok]at hc<;>simp only at h
 case val v=>exact⟨v,h,fun w' _=>hc w',by simp⟩
 case nn x=>obtain⟨a,ha,h⟩:=h;exact⟨_,h,fun w' _=>hc a ha w',by simp⟩
 case pick c a b =>
  split at h
  ·rename_i d;exact⟨_,h,fun w' _=>hc d rfl w',by simp⟩
  ·exact h.elim
 case pv s =>
  obtain⟨v,hv,h⟩:=lB.elim h;exact⟨v,h,fun w' _=>by rw[hc,hv];rfl,by simp⟩
 case rd s =>
  obtain⟨v,hv,h⟩:=lB.elim h;refine⟨v,h,fun w' hq=>?_,by simpa using hv⟩;have:s.run P w'=.ok v w':=by simpa using hq
  rw[hc,this];rfl
theorem Ih{o:Oper}{e:B5}{a:Act}(h:∀ t∈lk ops.toList o,(e t).live=true->a.tmps.getD t undef=vl (e t)) :
  (∀ b,dL ops.toList e o=some b->Region.wanted o (yielded ops a.tmps)=b) /\
  (gI o.op=true->(∀ t∈RB o.op,(e t).live=true)->execOp a.eval o=execOp (ev e) o):=by
 refine⟨fun b hb=>?_,fun hs hl=>?_⟩
 ·unfold dL at hb;unfold Region.wanted;cases hg:o.guard with
  | none=>simp only[hg]at hb |-;exact Lk hb
  | some g =>
   obtain⟨j,want⟩:=g;simp only[hg]at hb |-;cases hdt:ZO ops.toList j with
   | none=>simp[hdt]at hb
   | some d =>
    have hdt':=hdt;rw[ZP]at hdt';simp only[hdt]at hb;unfold yielded;rw[hdt'];cases he:e d with
    | opq v=>simp[he]at hb
    | dead=>simp[he]at hb
    | lit v =>
     have hv:=h d (by unfold lk;simp[hg,hdt]) (by rw[he];rfl);simp only[he,vl]at hv hb;simp only[Option.bind_some];cases v<;>simp only at hb
     case bool c =>
      have:a.tmps[d]?=some (.bool c):=by
       cases hx:a.tmps[d]? with
       | none=>simp[Lt,hx,undef]at hv
       | some y=>simp[Lt,hx]at hv;rw[hv]
      rw[this,<- Lk hb];cases c<;>cases want<;>rfl
     case tuple vs =>
      rw[<- Lk hb];cases hx:a.tmps[d]? with
      | none=>rfl
      | some y =>
       simp[Lt,hx]at hv;rw[hv];rfl
     all_goals (simp at hb)
 ·refine execOp_congr o ?_ fun x hx=>?_
  ·intro cs b hc;simp[hc,gI]at hs
  ·cases x with
   | tmp t =>
    have ht:t∈RB o.op:=Xm hs (by simpa using hx);exact h t (by unfold lk;exact Lv2 _ ht) (hl t ht)
   | _=>rfl
theorem PI.forced{a0:Act}{pr L:Nat->Bool}{vals:Nat->Value}{e e':B5}{obs:XO}{w:World}(h:PI P ops dm a0 pr L vals e obs w)
  (h2:∀ t,(e' t).live=(e t).live) (h3:∀ t,(e t).live=true->vl (e' t)=vl (e t)):PI P ops dm a0 pr L vals e' obs w :=
 { h with env:=fun t ht=>by rw[h2]at ht;rw[h3 t ht];exact h.env t ht }
theorem UZ:∀{ts:List Nat}{e:B5}{K:B5->Prop},Hh P A ts e K ->
  ∃ e',(∀ t,(e' t).live=(e t).live)/\(∀ t,(e t).live=true->vl (e' t)=vl (e t))/\(∀ t∈ts,(e' t).live=true)/\K e':=by
 intro ts e K h
 -- an act that agrees: Vx with a slot for each that is spoken of
 induction ts generalizing e with
 | nil=>exact⟨e,fun _=>rfl,fun _ _=>rfl,fun _ h=>by simp at h,h⟩
 | cons t r ih =>
  unfold Hh at h
  split at h
  ·rename_i v hv;obtain⟨e',h2,h3,h4,h5⟩:=ih h;refine⟨e',h2,h3,fun u hu=>?_,h5⟩;rcases Lv.1 hu with rfl | hu
   ·rw[h2,hv];rfl
   ·exact h4 u hu
  ·rename_i v hv;have step:∀ u,v=u->Hh P A r (st e t u) K->∃ e',(∀ t,(e' t).live=(e t).live)/\(∀ t,(e t).live=true->vl (e' t)=vl (e t))/\(∀ s∈t::r,(e' s).live=true)/\K e':=by
    intro u hu hf;have hst:∀ s,(st e t u s).live=(e s).live/\((e s).live=true->vl (st e t u s)=vl (e s)):=by
     intro s;unfold st;cases hb:Nat.beq s t
     ·exact⟨rfl,fun _=>rfl⟩
     ·have:=AD hb;subst this
      simp only[wE,hv,hu];exact⟨rfl,fun _=>rfl⟩
    obtain⟨e',h2,h3,h4,h5⟩:=ih hf;refine⟨e',fun s=>(h2 s).trans (hst s).1,fun s hs=>(h3 s ((hst s).1.trans hs)).trans ((hst s).2 hs),fun s hs=>?_,h5⟩;rcases Lv.1 hs with rfl|hs
    ·rw[h2,(hst s).1,hv];rfl
    ·exact h4 s hs
   split at h
   ·obtain⟨u,hu,h⟩:=exY.elim h;exact step u hu h
   ·exact step v rfl h
  ·exact h.elim
theorem PI.add{a0:Act}(hg:Wo ops.toList dm){pr L:Nat->Bool}{vals:Nat->Value}{e:B5}{obs obs':XO}{w:World}(h:PI P ops dm a0 pr L vals e obs w)
  {i:Nat} {o:Oper} (hi:ops.toList[i]?=some o) (hpr:pr i=false) (hdeps:∀ j,NQ dm i j=true->pr j=true) (u:Value)
  (hobs:∀ q∈obs',q.1=i/\(q.2 w))
  (hp:∀ a':Act,a'.defers=a0.defers->(∀ t∈lk ops.toList o,(e t).live=true->a'.tmps.getD t undef=vl (e t)) ->
   (Region.wanted o (yielded ops a'.tmps)=true/\∀ w',(∀ q∈obs',q.2 w')->(execOp a'.eval o).run P w'=.ok (.value u) w')\/(Region.wanted o (yielded ops a'.tmps)=false/\u=undef)) :
  PI P ops dm a0 (fun j=>pr j || Nat.beq j i) L (fun j=>if j=i then u else vals j) (Nz e o.dst u) (obs++obs') w:=by
 have hLi:L i=false:=by
  cases hb:L i
  ·rfl
  ·rw[h.sub i hb]at hpr;exact Bool.noConfusion hpr
 have hnoti:∀ j,pr j=true->NQ dm j i=true->False:=fun j hj hd=>by rw[h.clo j i hj hd]at hpr;exact Bool.noConfusion hpr
 constructor
 ·intro t ht;rw[kU ht,TQ hg hi hpr u t];split
  ·rfl
  ·rename_i hne;exact h.env t (Xh ht hne)
 ·intro j hj;simp[h.sub j hj]
 ·intro j hj hL;cases hpj:pr j
  ·rw[hpj,wD]at hj
   have:=AD hj;subst this
   refine⟨o,by simpa using hi,fun a' hl hd=>?_⟩;have hvals:∀ t∈lk ops.toList o,(e t).live=true->a'.tmps.getD t undef=vl (e t):=by
    intro t ht hlive;rw[hl t ht,h.env t hlive]
    rw[PP hg hi (S:=pr) hdeps (fun k hk=>by
     cases hb:pr k
     ·rfl
     ·exact(hnoti k hb hk).elim) ht]
    refine NP fun k hk=>?_;have:k≠j:=fun e=>by subst e;rw[hdeps k hk]at hpr;exact Bool.noConfusion hpr
    simp[this]
   rcases hp a' hd hvals with ⟨h1,h2⟩|⟨h1,h2⟩
   ·refine .inl ⟨h1,fun w' hq=>?_⟩;simp only[lD];exact h2 w' fun q hq'=>hq q (Lz3 _ hq') (hobs q hq').1
   ·exact .inr ⟨h1,by simpa using h2⟩
  ·obtain⟨p,hp1,hp2⟩:=h.pend j hpj hL;have hji:j≠i:=fun e=>by subst e;rw[hpj]at hpr;exact Bool.noConfusion hpr
   refine⟨p,hp1,fun a' hl hd=>?_⟩
   have:=hp2 a' (fun t ht=>by
    rw[hl t ht];refine NP fun k hk=>?_;have:k≠i:=fun e=>by subst e;exact hnoti j hpj hk
    simp[this]) hd
   simp only[hji,Wp];rcases this with ⟨h1,h2⟩ | h2
   ·exact .inl ⟨h1,fun w' hq=>h2 w' fun q hq' hqj=>hq q (Lv2 _ hq') hqj⟩
   ·exact .inr h2
 ·intro q hq;rcases Ln.1 hq with hq | hq
  ·have:=h.now q hq
   exact⟨by simp[this.1],this.2⟩
  ·have:=hobs q hq
   exact⟨by simp[this.1],fun _=>this.2⟩
 ·intro j k hj hk;cases hpj:pr j
  ·rw[hpj,wD]at hj
   have:=AD hj;subst this
   simp[hdeps k hk]
  ·simp[h.clo j k hpj hk]
theorem Y1(hg:Wo ops.toList dm){a0:Act}{K:B5->XO->Prop}{w:World}{L:Nat->Bool}:∀(rs:List Nat){pr:Nat->Bool}{vals:Nat->Value}{e:B5}{obs:XO},
  PI P ops dm a0 pr L vals e obs w->(∀ i∈rs,pr i=false)->(∀ l1 i l2,rs=l1++i::l2->(i ∉ l1)/\∀ j,NQ dm i j=true->pr j=true\/j∈l1) ->
  zD P A ops.toList rs K e obs w->∃ vals' e' obs',PI P ops dm a0 (fun j=>pr j || rs.contains j) L vals' e' obs' w/\(∀ j,pr j=true->vals' j=vals j)/\K e' obs'
 | [],pr,vals,e,obs,h,_,_,hk=>⟨vals,e,obs,by simpa using h,fun _ _=>rfl,hk⟩
 | i::r,pr,vals,e,obs,h,hnew,hord,hk=>by
  unfold zD at hk;have hpr:=hnew i iF;have hdeps:∀ j,NQ dm i j=true->pr j=true:=fun j hj=>by
   rcases(hord [] i r rfl).2 j hj with h|h
   ·exact h
   ·simp at h
  split at hk
  ·exact hk.elim
  ·rename_i o hi;have finish:∀(u:Value)(e1:B5)(obs':XO),PI P ops dm a0 (fun j=>pr j || Nat.beq j i) L (fun j=>if j=i then u else vals j) e1 (obs++obs') w ->
     zD P A ops.toList r K e1 (obs++obs') w->∃ vals' e' obs',PI P ops dm a0 (fun j=>pr j || (i::r).contains j) L vals' e' obs' w/\(∀ j,pr j=true->vals' j=vals j)/\K e' obs':=by
    intro u e1 obs' hPI hn;have hr:∀ j∈r,j≠i:=fun j hj e=>by
     subst e;obtain⟨l1,l2,rfl⟩:=List.append_of_mem hj;exact(hord (j::l1) j l2 rfl).1 iF
    obtain⟨vals',e',obs'',h1,h2,h3⟩:=Y1 hg r hPI (fun j hj=>by
      have:Nat.beq j i=false:=by
       cases hb:Nat.beq j i
       ·rfl
       ·exact absurd (AD hb) (hr j hj)
      simp[hnew j (dH _ hj),this]) (fun l1 j l2 he=>by
      have:=hord (i::l1) j l2 (by rw[he];rfl)
      refine⟨fun hm=>this.1 (dH _ hm),fun k hk=>?_⟩;rcases this.2 k hk with h | h
      ·left;simp[h]
      ·rcases Lv.1 h with rfl|h
       ·left;simp
       ·exact .inr h) hn
    refine⟨vals',e',obs'',?_,fun j hj=>?_,h3⟩
    ·have:(fun j=>(pr j || Nat.beq j i) || r.contains j)=fun j=>pr j || (i::r).contains j:=by
      funext j;have hb:Nat.beq j i=(j==i):=by rw[RH,Nat.beq_eq];simp
      rw[Bool.or_assoc,List.contains_cons,hb]
     rwa [this]at h1
    ·rw[h2 j (by simp[hj])];have:j≠i:=fun e=>by subst e;rw[hj]at hpr;exact Bool.noConfusion hpr
     simp[this]
   rcases Yj hk with ⟨hga,hk⟩|⟨hga,hk⟩
   ·obtain⟨e1,h2,h3,h4,hk⟩:=UZ hk;obtain⟨hs,v,hk,hrun,hob⟩:=xT (i:=i) hk;have hk:=Sn hk;have hPI:=h.forced h2 h3;refine finish v _ _ (hPI.add hg hi hpr hdeps v (fun q hq=>hob q hq) fun a' _ hl=>.inl ⟨?_,fun w' hq=>?_⟩) hk
    ·have hl0:∀ t∈lk ops.toList o,(e t).live=true->a'.tmps.getD t undef=vl (e t):=fun t ht hlive=>by
      rw[hl t ht (by rw[h2];exact hlive),h3 t hlive]
     exact(Ih hl0).1 _ hga
    ·rw[(Ih hl).2 hs h4];exact hrun w' hq
   ·refine finish undef _ [] ?_ (by simpa using hk);exact h.add hg hi hpr hdeps undef (by simp) fun a' _ hl=>.inr ⟨(Ih hl).1 _ hga,rfl⟩
end
open Go
section
variable{P:Program}{A:An}{ops:Array Oper}{dm:List Nat}
theorem OY{k:Nat}:∀(l:List Nat)(m:Nat),Nat.testBit (l.foldl (fun m i=>Nat.lor m (2 ^ i)) m) k=(Nat.testBit m k || l.contains k)
 | [],m=>by simp
 | i::l,m=>by
  rw[List.foldl_cons,OY l];have:Nat.testBit (Nat.lor m (2 ^ i)) k=(Nat.testBit m k || decide (i=k)):=by
   show Nat.testBit (m ||| 2 ^ i) k=_;rw[Lc4,Lb3]
  rw[this,List.contains_cons,Bool.or_assoc]
  congr 2
  rw[RH,RV,pO];exact⟨Eq.symm,Eq.symm⟩
theorem RC(l:List Nat)(k:Nat):Nat.testBit (Sv l) k=l.contains k:=by
 unfold Sv;rw[OY];simp
theorem Gg{todo:List Nat}{r:Nat}:O5 dm todo r=true↔∀ k∈todo,NQ dm r k=false:=by
 unfold O5;constructor
 ·intro h k hk;have h:=AD h;have e:Nat.testBit (dm.getD r 0 &&& Sv todo) k=Nat.testBit 0 k:=QJ (fun x=>Nat.testBit x k) h;rw[Ls3,RC]at e;have:todo.contains k=true:=by simpa using hk
  rw[this]at e;simpa [NQ] using e
 ·intro h;have:Nat.land (dm.getD r 0) (Sv todo)=0:=by
   show dm.getD r 0 &&& Sv todo=0;apply Lg4;intro k;rw[Ls3,RC];cases hb:todo.contains k
   ·simp
   ·have hk:k∈todo:=by simpa using hb
    have:=h k hk
    unfold NQ at this;rw[this];simp
  rw[this];rfl
theorem WH:∀{l:List Prop},AcD l->∀ p∈l,p
 | [],_,p,hp=>by simp at hp
 | [q],h,p,hp=>by rcases Lv.1 hp with rfl | hp;exact h;simp at hp
 | q::r::l,h,p,hp=>by
  obtain⟨h1,h2⟩:=h;rcases Lv.1 hp with rfl|hp
  ·exact h1
  ·exact WH h2 p hp
theorem LB{i:Nat}{w:World}{K:Prop}:∀{obs:XO},Rm dm i w obs K->(∀ q∈obs,NQ dm i q.1=false->q.2 w)/\K
 | [],h=>⟨fun _ hq=>by simp at hq,h⟩
 | (r,p)::l,h=>by
  unfold Rm at h;cases hb:Nat.testBit (dm.getD i 0) r
  ·rw[hb]at h;obtain⟨h1,h2⟩:=h;obtain⟨h3,h4⟩:=LB h2;refine⟨fun q hq hd=>?_,h4⟩;rcases Lv.1 hq with rfl | hq
   ·exact h1
   ·exact h3 q hq hd
  ·rw[hb]at h;obtain⟨h3,h4⟩:=LB h;refine⟨fun q hq hd=>?_,h4⟩;rcases Lv.1 hq with rfl | hq
   ·unfold NQ at hd;simp only at hd;rw[hb]at hd;exact Bool.noConfusion hd
   ·exact h3 q hq hd
def cL(P:Program)(ops:Array Oper)(dm:List Nat)(todo:List Nat)(j:Nat):Bool :=
 decide (j<ops.size)&&(if PN P ops.toList j=true then O5 dm todo j else !todo.contains j)
theorem PI.list{a0:Act}{pr L:Nat->Bool}{vals:Nat->Value}{e:B5}{obs:XO}{w:World}(h:PI P ops dm a0 pr L vals e obs w){i:Nat}(hi:pr i=true) :
  PI P ops dm a0 pr (fun j=>L j || Nat.beq j i) vals e obs w:=by
 constructor
 ·exact h.env
 ·intro j hj;cases hb:L j
  ·rw[hb,wD]at hj;rw[AD hj];exact hi
  ·exact h.sub j hb
 ·intro j hj hL;simp only[Lt2]at hL;exact h.pend j hj hL.1
 ·intro q hq;refine⟨(h.now q hq).1,fun hL=>?_⟩;simp only[Lt2]at hL;exact(h.now q hq).2 hL.1
 ·exact h.clo
theorem PI.wrote{a0:Act}(hg:Wo ops.toList dm){pr L:Nat->Bool}{vals:Nat->Value}{e:B5}{obs:XO}{w w':World}(h:PI P ops dm a0 pr L vals e obs w)
  {i:Nat} {o:Oper} (hi:ops.toList[i]?=some o) (hpr:pr i=false) (hdL:∀ j,NQ dm i j=true->L j=true) (u:Value)
  (hob:∀ q∈obs,NQ dm i q.1=false->L q.1=false->q.2 w') :
  PI P ops dm a0 (fun j=>pr j || Nat.beq j i) (fun j=>L j || Nat.beq j i) (fun j=>if j=i then u else vals j) (Nz e o.dst u) obs w':=by
 have hnoti:∀ j,pr j=true->NQ dm j i=true->False:=fun j hj hd=>by rw[h.clo j i hj hd]at hpr;exact Bool.noConfusion hpr
 constructor
 ·intro t ht;rw[kU ht,TQ hg hi hpr u t];split
  ·rfl
  ·rename_i hne;exact h.env t (Xh ht hne)
 ·intro j hj;simp only[wP]at hj |-;exact hj.imp (h.sub j) id
 ·intro j hj hL;simp only[Lt2]at hL;have hpj:pr j=true:=by
   rw[hL.2,Ls4]at hj;exact hj
  obtain⟨p,hp1,hp2⟩:=h.pend j hpj hL.1;have hji:j≠i:=fun e=>by subst e;rw[hpj]at hpr;exact Bool.noConfusion hpr
  refine⟨p,hp1,fun a' hl hd=>?_⟩
  have:=hp2 a' (fun t ht=>by
   rw[hl t ht];refine NP fun k hk=>?_;have:k≠i:=fun e=>by subst e;exact hnoti j hpj hk
   simp[this]) hd
  simp only[hji,Wp];exact this
 ·intro q hq;refine⟨by simp[(h.now q hq).1],fun hL=>?_⟩;simp only[Lt2]at hL;refine hob q hq ?_ hL.1;cases hb:NQ dm i q.1
  ·rfl
  ·rw[hdL _ hb]at hL;exact Bool.noConfusion hL.1
 ·intro j k hj hk;simp only[wP]at hj |-;rcases hj with hj | hj
  ·exact .inl (h.clo j k hj hk)
  ·rw[AD hj]at hk;exact .inl (h.sub k (hdL k hk))
theorem Tr{p:Nat->Bool}{n i:Nat}{l1 l2:List Nat}(h:(List.range n).filter p=l1++i::l2):i ∉ l1/\i<n/\p i=true/\∀ j,j<i->p j=true->j∈l1:=by
 have hs:List.Pairwise (·<·) ((List.range n).filter p):=List.Pairwise.filter _ Lx3;have hi:i∈(List.range n).filter p:=by rw[h];simp
 rw[h]at hs;rw[List.pairwise_append]at hs;obtain⟨_,h2,h3⟩:=hs;rw[List.pairwise_cons]at h2;have him:=dF.1 hi;refine⟨fun hm=>Lj5 _ (h3 i hm i iF),W9.1 him.1,him.2,fun j hj hp=>?_⟩;have hjm:j∈(List.range n).filter p:=dF.2 ⟨W9.2 (Ln5 hj (W9.1 him.1)),hp⟩;rw[h]at hjm;rcases Ln.1 hjm with hm | hm
 ·exact hm
 ·rcases Lv.1 hm with rfl|hm
  ·exact absurd hj (Lj5 _)
  ·exact absurd (h2.1 j hm) (Nat.lt_asymm hj)
theorem JL{todo:List Nat}{i j:Nat}:j∈CS todo i↔j∈todo/\j≠i:=by
 unfold CS;rw[dF];refine Lh5 Iff.rfl ?_;cases hb:Nat.beq j i
 ·simp[Ez hb]
 ·simp[AD hb]
theorem Vm{todo:List Nat}{i:Nat}(hn:todo.Nodup)(hi:i∈todo):todo.length=(CS todo i).length+1:=by
 induction todo with
 | nil=>simp at hi
 | cons k r ih =>
  rw[pN]at hn;unfold CS;by_cases hk:k=i
  ·subst hk;have:(r.filter fun j=>!Nat.beq j k)=r:=Lm3.2 fun j hj=>by
    have hne:j≠k:=fun e=>hn.1 (e ▸ hj);cases hb:Nat.beq j k
    ·rfl
    ·exact absurd (AD hb) hne
   have hkk:(!Nat.beq k k)=false:=by rw[Z2];rfl
   rw[Lk3,hkk,this];simp
  ·have hir:i∈r:=(Lv.1 hi).resolve_left fun e=>hk e.symm;have hkk:(!Nat.beq k i)=true:=by
    cases hb:Nat.beq k i
    ·rfl
    ·exact absurd (AD hb) hk
   have:=ih hn.2 hir
   unfold CS at this;rw[Lk3,hkk];simp only[lD,pH];omega
end
open Go
section
variable{P:Program}{A:An}{ops:Array Oper}{dm:List Nat}{Q:Exit->Act->World->Prop}{K:B5->World->Prop}{a0:Act}
def AI(listed:Array Bool)(j:Nat):Bool:=listed.getD j false
def left(ops:Array Oper)(listed:Array Bool):Nat:=((List.range ops.size).filter fun i=>!AI listed i).length
theorem Hk{listed:Array Bool}{i:Nat}(hi:i<listed.size)(j:Nat):AI (listed.setIfInBounds i true) j=(AI listed j || Nat.beq j i):=by
 unfold AI;by_cases h:i=j
 ·subst h;simp[Lt,hi]
 ·have hb:Nat.beq j i=false:=by
   cases hb:Nat.beq j i
   ·rfl
   ·exact absurd (AD hb).symm h
  rw[hb,Ls4];simp only[Lt];rw[wS h]
theorem Me{p:Nat->Bool}{i:Nat}:∀(l:List Nat),l.Nodup->i∈l->p i=true->(l.filter fun j=>p j&&!Nat.beq j i).length+1=(l.filter p).length
 | [],_,h,_=>by simp at h
 | k::r,hn,hi,hp=>by
  rw[pN]at hn;by_cases hk:k=i
  ·subst hk;have e:(r.filter fun j=>p j&&!Nat.beq j k)=r.filter p:=List.filter_congr fun j hj=>by
    have hne:j≠k:=fun e=>hn.1 (e ▸ hj);cases hb:Nat.beq j k
    ·simp
    ·exact absurd (AD hb) hne
   have h1:(p k&&!Nat.beq k k)=false:=by rw[Z2];simp
   rw[Lk3,Lk3,h1,hp,e];simp
  ·have hir:i∈r:=(Lv.1 hi).resolve_left fun e=>hk e.symm;have hb:Nat.beq k i=false:=by
    cases hb:Nat.beq k i
    ·rfl
    ·exact absurd (AD hb) hk
   have ih:=Me r hn.2 hir hp;rw[Lk3,Lk3,hb];cases hpk:p k
   ·simpa using ih
   ·simp only[Bool.not_false,Bool.and_true,lD,pH];omega
theorem tF{listed:Array Bool}{i:Nat}(hi:i<listed.size)(hio:i<ops.size)(hL:AI listed i=false):left ops (listed.setIfInBounds i true)+1=left ops listed:=by
 unfold left;have:(fun j=>!AI (listed.setIfInBounds i true) j)=fun j=>(!AI listed j)&&!Nat.beq j i:=by
  funext j;rw[Hk hi];simp
 rw[this];exact Me _ List.nodup_range (W9.2 hio) (by simp[hL])
theorem dN(hg:Wo ops.toList dm){listed:Array Bool}(hsz:listed.size=ops.size)(h:Region.ready .any ops listed=[]):∀ i,i<ops.size->AI listed i=true:=by
 intro i
 induction i using Nat.strongRecOn with
 | _ i ih =>
  intro hi;cases hb:AI listed i
  ·exfalso
   have:i∈Region.ready .any ops listed:=mem_ready.2 ⟨by
    unfold AI at hb;simp only[Lt]at hb |-;have:i<listed.size:=hsz ▸ hi
    simp[this]at hb |-;exact hb,ops[i],by simp[hi],fun e he hbd=>ih e.on (hg.g4 i ops[i] (by simp[hi]) e he hbd) (Ln5 (hg.g4 i ops[i] (by simp[hi]) e he hbd) hi)⟩
   rw[h]at this;simp at this
  ·rfl
structure DI(P:Program)(A:An)(ops:Array Oper)(dm:List Nat)(a0:Act)(K:B5->World->Prop)(listed:Array Bool)(todo:List Nat)(vals:Nat->Value)(e:B5)(obs:XO)(a:Act)(w:World):Prop where
 size:listed.size=ops.size
 todoIs:∀ i,i∈todo↔(i<ops.size/\PN P ops.toList i=false/\AI listed i=false)
 nodup:todo.Nodup
 clo:∀ i j,AI listed i=true->NQ dm i j=true->AI listed j=true
 pi:PI P ops dm a0 (cL P ops dm todo) (AI listed) vals e obs w
 stands:AbZ ops a0 (AI listed) vals a
 rest:drD P A ops.toList dm todo.length todo K e obs w
theorem DI.ends(hg:Wo ops.toList dm)(hq:∀ e a w,Ki a0.defers e a->Fr (JH ops.toList) a0 a->K e w->Q .normal a w){listed:Array Bool}{todo:List Nat}{vals:Nat->Value}{e:B5}{obs:XO}{a:Act}{w:World}
  (h:DI P A ops dm a0 K listed todo vals e obs a w) (hr:Region.ready .any ops listed=[]):Q .normal a w:=by
 have hall:=dN hg h.size hr;have ht:todo=[]:=by
  cases todo with
  | nil=>rfl
  | cons i r =>
   have:=(h.todoIs i).1 iF
   rw[hall i this.1]at this;exact Bool.noConfusion this.2.2
 subst ht;have hlt:∀ t j,SD ops.toList 0 t=some j->j<ops.size:=fun t j hj=>by
  obtain⟨o,ho,_⟩:=Ob hj
  have:=(Lq.1 ho).1
  simpa using this
 refine hq e a w ⟨h.stands.1,fun t ht=>?_⟩ ⟨h.stands.2.1,fun t ht=>?_⟩ h.rest
 ·rw[h.stands.2.2 t,h.pi.env t ht];refine ZL fun j hj=>?_;rw[hall j (hlt t j hj),h.pi.sub j (hall j (hlt t j hj))]
 ·rw[h.stands.2.2 t];unfold H5;split
  ·rename_i j hj;obtain⟨o,ho,hd,_⟩:=Ob hj;rw[JJ.2 (Xl (XN ho) hd)]at ht;exact Bool.noConfusion ht
  ·rfl
theorem DI.round{ro:Option Nat}{nn:Nat}(hg:Wo ops.toList dm){n:Nat}(hn:∀ o∈ops.toList,∀ d,o.dst=some d->d<n)(ha0:a0.tmps.size=n){listed:Array Bool}{todo:List Nat}{vals:Nat->Value}{e:B5}{obs:XO}{a:Act}{w:World}
  (h:DI P A ops dm a0 K listed todo vals e obs a w) {i:Nat} (hir:i∈Region.ready .any ops listed) {next:Act->World->Prop}
  (hnext:∀ todo' vals' e' obs' a' w',DI P A ops dm a0 K (listed.setIfInBounds i true) todo' vals' e' obs' a' w'->next a' w'):wpOpIn (Fw ro) nn P ops Q i next a w:=by
 obtain⟨hil,o,hi,hrdy⟩:=mem_ready.1 hir;have hio:i<ops.size:=(Le3.1 hi).1;have hils:i<listed.size:=h.size ▸ hio;have hil:AI listed i=false:=by
  unfold AI;simp only[Lt]at hil |-;simp[hils]at hil |-;exact hil
 have hi':ops.toList[i]?=some o:=by simpa using hi
 have hmem:o∈ops.toList:=XN hi';have hdL:∀ j,NQ dm i j=true->AI listed j=true:=fun j hj=>by
  obtain⟨ed,he,hb,h5⟩:=hg.g5 i o hi' j hj;have h6:AI listed ed.on=true:=hrdy ed he hb;rcases h5 with rfl|h5
  ·exact h6
  ·exact h.clo _ _ h6 h5
 have hnL:∀ j,NQ dm j i=true->AI listed j=false:=fun j hj=>by
  cases hb:AI listed j
  ·rfl
  ·rw[h.clo j i hb hj]at hil;exact Bool.noConfusion hil
 have hfree:O5 dm todo i=true:=Gg.2 fun k hk=>by
  cases hb:NQ dm i k
  ·rfl
  ·have:=((h.todoIs k).1 hk).2.2
   rw[hdL k hb]at this;exact Bool.noConfusion this
 have hdst:∀ x,o.dst=some x->x<a.tmps.size:=fun x hx=>by rw[h.stands.2.1,ha0];exact hn o hmem x hx
 have hlook:∀ t∈lk ops.toList o,a.tmps.getD t undef=H5 ops a0 (NQ dm i) vals t:=fun t ht=>by
  rw[h.stands.2.2 t];exact PP hg hi' hdL hnL ht
 have hclo':∀ k j,AI (listed.setIfInBounds i true) k=true->NQ dm k j=true->AI (listed.setIfInBounds i true) j=true:=fun k j hk hj=>by
  rw[Hk hils]at hk |-;simp only[wP]at hk |-;rcases hk with hk | hk
  ·exact .inl (h.clo k j hk hj)
  ·rw[AD hk]at hj;exact .inl (hdL j hj)
 have hLfun:AI (listed.setIfInBounds i true)=fun j=>AI listed j || Nat.beq j i:=funext fun j=>Hk hils j;cases hid:PN P ops.toList i with
 | true =>
  have hpr:cL P ops dm todo i=true:=by unfold cL;simp[hio,hid,hfree]
  obtain⟨o',ho',hp⟩:=h.pi.pend i hpr hil;rw[hi]at ho';cases ho';have go:next (a.put o.dst (vals i)) w:=by
   refine hnext todo vals e obs _ w ⟨by simp[h.size],fun j=>?_,h.nodup,hclo',?_,?_,h.rest⟩
   ·rw[h.todoIs j,Hk hils];refine Lh5 Iff.rfl ⟨fun⟨h1,h2⟩=>⟨h1,?_⟩,fun⟨h1,h2⟩=>⟨h1,(Lt2.1 h2).1⟩⟩;rw[h2,wD];cases hb:Nat.beq j i
    ·rfl
    ·rw[AD hb,hid]at h1;exact Bool.noConfusion h1
   ·rw[hLfun];exact h.pi.list hpr
   ·refine⟨?_,(Ns _ _ _).trans h.stands.2.1,fun t=>?_⟩
    ·cases o.dst<;>exact h.stands.1
    ·rw[aD a o.dst (vals i) hdst t,hLfun];have e1:(fun j=>if j=i then vals i else vals j)=vals:=by
      funext j;split
      ·rename_i e;rw[e]
      ·rfl
     have:=TQ (a0:=a0) hg hi' (S:=AI listed) (v:=vals) hil (vals i) t
     rw[e1]at this;rw[this,h.stands.2.2 t]
  unfold wpOpIn;rw[hi];simp only;rcases hp a hlook h.stands.1 with ⟨hw,hrun⟩ | ⟨hw,hu⟩
  ·rw[hw];simp only[lD];have hrun:=hrun w fun q hq hqi=>(h.pi.now q hq).2 (by rw[hqi];exact hil);unfold Oper.wpIn;refine⟨fun _ _=>trivial,?_⟩;rw[Oper.semAt_eq _ _ _ (Yd hrun),hrun];exact go
  ·rw[hw];simp only[cG,Wp];refine⟨fun _ _=>trivial,?_⟩;rw[<- hu];exact go
 | false =>
  have hit:i∈todo:=(h.todoIs i).2 ⟨hio,hid,hil⟩;have hpr:cL P ops dm todo i=false:=by unfold cL;simp[hid,hit]
  have hlookE:∀ t∈lk ops.toList o,(e t).live=true->a.tmps.getD t undef=vl (e t):=fun t ht hl=>by
   rw[hlook t ht,h.pi.env t hl];refine(PP hg hi' (S:=cL P ops dm todo) (fun j hj=>h.pi.sub j (hdL j hj)) (fun j hj=>?_) ht).symm;cases hb:cL P ops dm todo j
   ·rfl
   ·rw[h.pi.clo j i hb hj]at hpr;exact Bool.noConfusion hpr
  have hlen:=Vm h.nodup hit;have hrest:=h.rest;rw[hlen]at hrest;unfold drD at hrest;have hrest:=WH hrest _ (L2.2 ⟨i,dF.2 ⟨hit,hfree⟩,rfl⟩);rw[hi']at hrest
  -- what follows,where the operation cK yielded u and left w'
  have fin:∀(u:Value)(e1:B5)(w':World),PI P ops dm a0 (cL P ops dm todo) (AI listed) vals e1 obs w->(∀ q∈obs,NQ dm i q.1=false->AI listed q.1=false->q.2 w') ->
    zD P A ops.toList (OT P ops.toList dm todo i) (fun e'' obs''=>drD P A ops.toList dm (CS todo i).length (CS todo i) K e'' obs'' w') (Nz e1 o.dst u) obs w'->next (a.put o.dst u) w':=by
   intro u e1 w' hPI hob hnw;have hPI1:=hPI.wrote hg hi' hpr hdL u hob;have hpr1:∀ j,(cL P ops dm todo j || Nat.beq j i)=true↔(j<ops.size/\if PN P ops.toList j=true then O5 dm todo j=true else j ∉ todo\/j=i):=fun j=>by
    unfold cL;by_cases hj:j=i
    ·subst hj;simp[hid,hio]
    ·have hb:Nat.beq j i=false:=by
      cases hb:Nat.beq j i
      ·rfl
      ·exact absurd (AD hb) hj
     rw[hb,Ls4];split<;>simp[hj]
   have hsub:∀ j,O5 dm todo j=true->O5 dm (CS todo i) j=true:=fun j hj=>Gg.2 fun k hk=>Gg.1 hj k (JL.1 hk).1;have hfr:∀ j,j∈OT P ops.toList dm todo i↔(j<ops.size/\PN P ops.toList j=true/\O5 dm todo j=false/\O5 dm (CS todo i) j=true):=fun j=>by
    unfold OT;rw[dF,W9];simp[and_assoc]
   obtain⟨vals2,e2,obs2,h1,h2,h3⟩:=Y1 hg (OT P ops.toList dm todo i) hPI1 (fun j hj=>by
     obtain⟨_,hj2,hj3,_⟩:=(hfr j).1 hj;cases hb:(cL P ops dm todo j || Nat.beq j i)
     ·rfl
     ·have:=(hpr1 j).1 hb
      rw[if_pos hj2,hj3]at this;exact Bool.noConfusion this.2) (fun l1 j l2 he=>by
     unfold OT at he;obtain⟨q1,q2,q3,q4⟩:=Tr he;refine⟨q1,fun k hk=>?_⟩;have hjn:j<ops.size:=by simpa using q2
     have hj':ops.toList[j]?=some ops[j]:=by simp[hjn]
     obtain⟨g3a,g3b⟩:=hg.g3 j ops[j] hj' k hk;have hkn:k<ops.size:=Ln5 g3a hjn;simp only[Lr]at q3;cases hik:PN P ops.toList k with
     | true =>
      cases hfk:O5 dm todo k with
      | true=>exact .inl ((hpr1 k).2 ⟨hkn,by simp[hik,hfk]⟩)
      | false =>
       refine .inr (q4 k g3a ?_);simp only[hik,hfk,Bool.not_false,Bool.and_self,lE];exact Gg.2 fun m hm=>by
        have:=Gg.1 q3.2 m hm
        cases hb:NQ dm k m
        ·rfl
        ·have e:=g3b m hb;unfold NQ at this;rw[e]at this;exact Bool.noConfusion this
     | false =>
      refine .inl ((hpr1 k).2 ⟨hkn,?_⟩);rw[hik];simp only[cG,Wp];by_cases hki:k=i
      ·exact .inr hki
      ·left;intro hkt
       have:=Gg.1 q3.2 k (JL.2 ⟨hkt,hki⟩)
       have hk:NQ dm j k=true:=hk
       rw[hk]at this;exact Bool.noConfusion this) hnw
   have hprfun:(fun j=>(cL P ops dm todo j || Nat.beq j i) || (OT P ops.toList dm todo i).contains j)=cL P ops dm (CS todo i):=by
    funext j;rw[RH,wP,hpr1 j];unfold cL;have hc:(OT P ops.toList dm todo i).contains j=true↔j∈OT P ops.toList dm todo i:=by simp
    rw[hc,hfr j];simp only[Lr,RV];cases hij:PN P ops.toList j with
    | true =>
     simp only[lD];constructor
     ·rintro(⟨a1,a2⟩|⟨a1,_,_,a4⟩)
      ·exact⟨a1,hsub j a2⟩
      ·exact⟨a1,a4⟩
     ·rintro⟨a1,a2⟩;cases hfj:O5 dm todo j
      ·exact .inr ⟨a1,trivial,rfl,a2⟩
      ·exact .inl ⟨a1,rfl⟩
    | false =>
     simp only[cG,Wp,false_and,and_false,or_false];refine Lh5 Iff.rfl ?_;have:(!(CS todo i).contains j)=true↔j ∉ CS todo i:=by simp
     rw[this,JL];constructor
     ·rintro(h|h)
      ·exact fun hh=>h hh.1
      ·exact fun hh=>hh.2 h
     ·intro hh;by_cases hj:j=i
      ·exact .inr hj
      ·exact .inl fun hjt=>hh ⟨hjt,hj⟩
   rw[hprfun]at h1;refine hnext (CS todo i) vals2 e2 obs2 _ w' ⟨by simp[h.size],fun j=>?_,?_,hclo',?_,?_,h3⟩
   ·rw[JL,h.todoIs j,Hk hils];constructor
    ·rintro⟨⟨b1,b2,b3⟩,b4⟩;refine⟨b1,b2,?_⟩;rw[b3,wD];cases hb:Nat.beq j i
     ·rfl
     ·exact absurd (AD hb) b4
    ·rintro⟨b1,b2,b3⟩
     have:=Lt2.1 b3
     exact⟨⟨b1,b2,this.1⟩,Ez this.2⟩
   ·exact List.Pairwise.filter _ h.nodup
   ·rw[hLfun];exact h1
   ·refine⟨?_,(Ns _ _ _).trans h.stands.2.1,fun t=>?_⟩
    ·cases o.dst<;>exact h.stands.1
    ·rw[aD a o.dst u hdst t,hLfun];rw[NP (v':=fun j=>if j=i then u else vals j) (fun j hj=>h2 j ?_),TQ hg hi' hil u t,h.stands.2.2 t];simp only[wP]at hj |-;exact hj.imp (h.pi.sub j) id
  unfold wpOpIn;rw[hi];simp only;rcases Yj hrest with ⟨hga,hk⟩ | ⟨hga,hk⟩
  ·rw[(Ih hlookE).1 _ hga];simp only[lD];obtain⟨e1,h2,h3,h4,hk⟩:=UZ hk;have hl1:∀ t∈lk ops.toList o,(e1 t).live=true->a.tmps.getD t undef=vl (e1 t):=fun t ht hl=>by
    rw[h2]at hl;rw[h3 t hl];exact hlookE t ht hl
   refine Tg hk ((Ih hl1).2 (Si hk) h4) fun v w' hv=>?_;obtain⟨hob,hnw⟩:=LB (Sn hv);exact fin v e1 w' (h.pi.forced h2 h3) (fun q hq hd _=>hob q hq hd) hnw
  ·rw[(Ih hlookE).1 _ hga];simp only[cG,Wp];refine⟨fun _ _=>trivial,?_⟩;exact fin undef e w h.pi (fun q hq _ hL=>(h.pi.now q hq).2 hL) hk
theorem DI.any{ro:Option Nat}{nn:Nat}(hg:Wo ops.toList dm){n:Nat}(hn:∀ o∈ops.toList,∀ d,o.dst=some d->d<n)(ha0:a0.tmps.size=n)
  (hq:∀ e a w,Ki a0.defers e a->Fr (JH ops.toList) a0 a->K e w->Q .normal a w):∀(fuel:Nat){listed:Array Bool}{todo:List Nat}{vals:Nat->Value}{e:B5}{obs:XO}{a:Act}{w:World},
  DI P A ops dm a0 K listed todo vals e obs a w->left ops listed=fuel->wpAnyIn (Fw ro) nn P .any ops Q fuel listed a w:=by
 intro fuel
 induction fuel with
 | zero =>
  intro listed todo vals e obs a w h hl;have hr:Region.ready .any ops listed=[]:=by
   rw[List.eq_nil_iff_forall_not_mem];intro i hi;obtain⟨hil,o,ho,_⟩:=mem_ready.1 hi;have hio:i<ops.size:=(Le3.1 ho).1;have hils:i<listed.size:=h.size ▸ hio;unfold left at hl;have hnil:=iA hl
   have:i∈(List.range ops.size).filter fun i=>!AI listed i:=dF.2 ⟨W9.2 hio,by
    unfold AI;simp only[Lt]at hil |-
    simp[hils]at hil |-;exact hil⟩
   rw[hnil]at this;simp at this
  exact⟨hr,h.ends hg hq hr⟩
 | succ fuel ih =>
  intro listed todo vals e obs a w h hl;refine⟨fun hr=>h.ends hg hq hr,fun i hi=>?_⟩;refine h.round hg hn ha0 hi fun todo' vals' e' obs' a' w' h'=>ih h' ?_;obtain⟨hil,o,ho,_⟩:=mem_ready.1 hi;have hio:i<ops.size:=(Le3.1 ho).1;have hils:i<listed.size:=h.size ▸ hio;have hil:AI listed i=false:=by
   unfold AI;simp only[Lt]at hil |-;simp[hils]at hil |-;exact hil
  have:=tF (ops:=ops) hils hio hil
  omega
theorem ZN{D:List Deferred}{ro:Option Nat}{nn:Nat}{id:Nat}(hm:P.follows .mixedOrders=true)(hok:fJ ops.toList=true){n:Nat}(hn:∀ o∈ops.toList,∀ d,o.dst=some d->d<n){e:B5}{w:World}(hA:Ki D e a0)(ha0:a0.tmps.size=n)
  (hq:∀ e a w,Ki D e a->Fr (JH ops.toList) a0 a->K e w->Q .normal a w) (h:iT P A ops.toList K e (Af w)):(Code.region id ops true).wpIn (Fw ro) nn P Q a0 w:=by
 obtain⟨hD,hA⟩:=hA;subst hD;refine wpIn_region_any hm ?_;have hg:=yH hok;have hle:left ops (Array.replicate ops.size false)=ops.size:=by
  unfold left;rw[Lm3.2]
  ·simp
  ·intro i _;unfold AI;simp[Lt,Array.getElem?_replicate];split<;>rfl
 have hnone:∀ j,AI (Array.replicate ops.size false) j=false:=fun j=>by
  unfold AI;simp[Lt,Array.getElem?_replicate];split<;>rfl
 have hnone':AI (Array.replicate ops.size false)=fun _=>false:=funext hnone;unfold iT at h;have hcur:∀ vals t,H5 ops a0 (fun _=>false) vals t=a0.tmps.getD t undef:=fun vals t=>by unfold H5;split<;>simp
 have h0:PI P ops (Cm ops.toList) a0 (fun _=>false) (AI (Array.replicate ops.size false)) (fun _=>undef) e [] (Af w):=by
  refine⟨fun t ht=>?_,fun i hi=>?_,fun i hi=>?_,fun q hq=>?_,fun i j hi=>?_⟩
  ·rw[hcur];exact(hA t ht).symm
  ·rw[hnone]at hi;exact hi
  ·exact Bool.noConfusion hi
  ·simp at hq
  ·exact Bool.noConfusion hi
 have hw:∀ j,j∈oY P ops.toList↔(j<ops.size/\PN P ops.toList j=false):=fun j=>by
  unfold oY;rw[dF,W9];simp
 have hid:∀ j,j∈Vh P ops.toList (Cm ops.toList) (oY P ops.toList)↔(j<ops.size/\PN P ops.toList j=true/\O5 (Cm ops.toList) (oY P ops.toList) j=true):=fun j=>by
  unfold Vh;rw[dF,W9];simp
 obtain⟨vals,e1,obs1,h1,_,h3⟩:=Y1 hg _ h0 (fun _ _=>rfl) (fun l1 j l2 he=>by
  unfold Vh at he;obtain⟨q1,q2,q3,q4⟩:=Tr he;refine⟨q1,fun k hk=>.inr ?_⟩;have hjn:j<ops.size:=by simpa using q2
  have hj':ops.toList[j]?=some ops[j]:=by simp[hjn]
  obtain⟨g3a,g3b⟩:=hg.g3 j ops[j] hj' k hk;have hkn:k<ops.size:=Ln5 g3a hjn;simp only[Lr]at q3;refine q4 k g3a ?_;rw[Lr];have hik:PN P ops.toList k=true:=by
   cases hik:PN P ops.toList k
   ·have:=Gg.1 q3.2 k ((hw k).2 ⟨hkn,hik⟩)
    have hk:NQ (Cm ops.toList) j k=true:=hk;rw[hk]at this;exact Bool.noConfusion this
   ·rfl
  refine⟨hik,Gg.2 fun m hm=>?_⟩
  have:=Gg.1 q3.2 m hm
  cases hb:NQ (Cm ops.toList) k m
  ·rfl
  ·have e:=g3b m hb;unfold NQ at this
   rw[e]at this;exact Bool.noConfusion this) h
 have hprfun:(fun j=>false || (Vh P ops.toList (Cm ops.toList) (oY P ops.toList)).contains j)=cL P ops (Cm ops.toList) (oY P ops.toList):=by
  funext j;rw[wD,RH];have hc:(Vh P ops.toList (Cm ops.toList) (oY P ops.toList)).contains j=true↔j∈Vh P ops.toList (Cm ops.toList) (oY P ops.toList):=by simp
  rw[hc,hid j];unfold cL;simp only[Lr,RV];refine Ld5 fun hj=>?_;cases hij:PN P ops.toList j with
  | true=>simp
  | false =>
   simp only[cG,Wp,false_and,false_iff];have:j∈oY P ops.toList:=(hw j).2 ⟨hj,hij⟩;simp[this]
 rw[hprfun]at h1;refine DI.any (todo:=oY P ops.toList) (vals:=vals) (e:=e1) (obs:=obs1) hg hn ha0 hq ops.size ⟨by simp,fun j=>?_,?_,?_,h1,⟨rfl,rfl,fun t=>?_⟩,h3⟩ hle
 ·rw[hw j,hnone];simp
 ·exact List.Pairwise.filter _ List.nodup_range
 ·intro i j hi;rw[hnone]at hi;exact Bool.noConfusion hi
 ·rw[hnone',hcur]
end
open Go
section
variable{P:Program}{A:An}
def Vw:Code->Bool
 | .seq a b=>Vw a&&Vw b
 | .cond _ a b=>Vw a&&Vw b
 | .block _ c=>Vw c
 | .loop c=>Vw c
 | .scope _=>false
 | _=>true
def Xp(n:Nat):Code->Bool
 | .region _ ops draw=>(ops.toList.all fun o=>match o.dst with | some d=>Nat.blt d n | none=>true)&&(!draw || fJ ops.toList)
 | .seq a b=>Xp n a&&Xp n b
 | .cond _ a b=>Xp n a&&Xp n b
 | .block _ c=>Xp n c
 | .loop c=>Xp n c
 | .scope c=>Xp n c
 | _=>true
def GZ(D:List Deferred)(n:Nat)(a0:Act)(ds:List Nat)(K:B5->World->Prop)(X:Nat->B5->World->Prop)(R:B5->World->Prop):Exit->Act->World->Prop
 | .normal,a,w=>∃ e,Ki D e a/\Fr ds a0 a/\K e w
 | .exit i,a,w=>∃ e,Ki D e a/\Fr ds a0 a/\X i e w
 | .ret,a,w=>∃ e,Ki D e a/\a.tmps.size=n/\R e w
 | _,_,_=>False
theorem GZ.mono{D:List Deferred}{n:Nat}{a0:Act}{ds ds':List Nat}{K K':B5->World->Prop}{X X':Nat->B5->World->Prop}{R:B5->World->Prop}(hs:∀ t,t∈ds->t∈ds')
  (hK:∀ e a w,Ki D e a->Fr ds a0 a->K e w->∃ e',Ki D e' a/\K' e' w) (hX:∀ i e a w,Ki D e a->Fr ds a0 a->X i e w->∃ e',Ki D e' a/\X' i e' w) (x:Exit) (a:Act) (w:World) (h:GZ D n a0 ds K X R x a w):GZ D n a0 ds' K' X' R x a w:=by
 cases x<;>simp only[GZ]at h |-
 case normal=>obtain⟨e,h1,h2,h3⟩:=h;obtain⟨e',h4,h5⟩:=hK e a w h1 h2 h3;exact⟨e',h4,h2.mono hs,h5⟩
 case exit i=>obtain⟨e,h1,h2,h3⟩:=h;obtain⟨e',h4,h5⟩:=hX i e a w h1 h2 h3;exact⟨e',h4,h2.mono hs,h5⟩
 case ret=>exact h
theorem Nm{D:List Deferred}{ds:List Nat}{k:List Value->World->Prop}{e e0:B5}{a a0:Act}{w:World}(hA0:Ki D e0 a0)(hA:Ki D e a)(hF:Fr ds a0 a)(h:Vl A ds k e w) :
  Ki D (aR ds (Fv A ds) (vals (Fv A ds) e) e0) a/\k (vals (Fv A ds) e) w:=by
 unfold Vl at h;cases hal:Zv (Fv A ds) e
 ·rw[hal]at h;exact h.elim
 ·rw[hal]at h;refine⟨⟨hA.1,fun t ht=>?_⟩,h⟩;unfold aR at ht |-;cases ho:cK t (Fv A ds)
  ·rw[ho]at ht;simp only[wT]at ht |-;cases hd:cK t ds
   ·rw[hd]at ht;simp only[wT]at ht |-;rw[hF.2 t hd];exact hA0.2 t ht
   ·rw[hd]at ht;exact Bool.noConfusion ht
  ·simp only[wE,vl];have hmem:=JJ.1 ho;have hlive:(e t).live=true:=by
    have:=cI.1 hal t hmem
    unfold En.live;cases he:e t<;>rw[he]at this<;>first | rfl | exact Bool.noConfusion this
   rw[hA.2 t hlive]
   -- the t-th of the list
   have key:∀(l:List Nat),t∈l->A2 (vals l e) (V4 t l)=vl (e t):=by
    intro l
    induction l with
    | nil=>intro h;simp at h
    | cons d r ih =>
     intro hm;unfold vals V4;cases hb:Nat.beq t d
     ·have hr:t∈r:=(Lv.1 hm).resolve_left (Ez hb);exact ih hr
     ·have:=AD hb;subst this;rfl
   exact(key _ hmem).symm
theorem LL{D:List Deferred}{ro:Option Nat}{nn:Nat}{ds:List Nat}{e0:B5}{a0:Act}{w:World}{B:(B5->World->Prop)->Prop}{K:B5->World->Prop}{n:Nat}{X:Nat->B5->World->Prop}{R:B5->World->Prop}{c:Code}
  (hA:Ki D e0 a0) (h:YI A ds e0 B K) (hB:∀ k:B5->World->Prop,B k->c.wpIn (Fw ro) nn P (GZ D n a0 ds k X R) a0 w):c.wpIn (Fw ro) nn P (GZ D n a0 ds K X R) a0 w:=by
 obtain⟨J,hJ,hb⟩:=h;refine wpIn_mono (hB _ hb) fun x a w' hx=>?_;refine GZ.mono (fun _ h=>h) (fun e a w hA' hF hl=>?_) (fun i e a w hA' _ hx=>⟨e,hA',hx⟩) x a w' hx;obtain⟨h1,h2⟩:=Nm hA hA' hF hl;exact⟨_,h1,hJ _ _ h2⟩
theorem K8{D:List Deferred}{ro:Option Nat}{nn:Nat}(hm:P.follows .mixedOrders=true){n:Nat}:∀(c:Code),Xp n c=true->(ro=none\/Vw c=true)->∀(K:B5->World->Prop)(X:Nat->B5->World->Prop)(R:B5->World->Prop)(e:B5)(a:Act)(w:World),
  Ki D e a->a.tmps.size=n->Sh P A c K X R e w->c.wpIn (Fw ro) nn P (GZ D n a (BC c) K X R) a w:=by
 intro c
 induction c with
 | skip=>intro _ _ K X R e a w hA hn h;exact wpIn_skip ⟨e,hA,Fr.refl _ _,h⟩
 | label l=>intro _ _ K X R e a w hA hn h;exact wpIn_label ⟨e,hA,Fr.refl _ _,h⟩
 | exit i=>intro _ _ K X R e a w hA hn h;exact wpIn_exit ⟨e,hA,Fr.refl _ _,h⟩
 | ret=>intro _ _ K X R e a w hA hn h;exact wpIn_ret ⟨e,hA,hn,h⟩
 | goto l=>intro _ _ K X R e a w hA hn h;exact h.elim
 | refuse s=>intro _ _ K X R e a w hA hn h;exact h.elim
 | rangeFunc=>intro _ _ K X R e a w hA hn h;exact h.elim
 | region id ops draw =>
  intro hok hro K X R e a w hA hn h;simp only[Xp,Lr]at hok;have hds:∀ o∈ops.toList,∀ d,o.dst=some d->d<n:=fun o ho d hd=>by
   have:=cI.1 hok.1 o ho
   rw[hd]at this;simp only at this;rw[Nat.blt_eq]at this;exact this
  have core:∀ k:B5->World->Prop,zP P A ops.toList draw k e w->(Code.region id ops draw).wpIn (Fw ro) nn P (GZ D n a (JH ops.toList) k X R) a w:=by
   intro k hk;unfold zP at hk;cases draw
   ·refine wpIn_region ?_;have hk:oI P A ops.toList ops.toList 0 k e w:=hk
    have:=PY (ro:=ro) (nn:=nn) (n:=n) (a0:=a) (Q:=GZ D n a (JH ops.toList) k X R) hds (fun e a w h1 h2 h3=>⟨e,h1,h2,h3⟩) ops.toList 0 e a w rfl hA hn (Fr.refl _ _) hk
    rwa [show ops.toList.length=ops.size by simp,<- List.range_eq_range']at this
   ·have hk:iT P A ops.toList k e (Af w):=hk;exact ZN hm (by simpa using hok.2) hds hA hn (fun e a w h1 h2 h3=>⟨e,h1,h2,h3⟩) hk
  unfold Sh at h;cases hg:jH ops.toList
  ·rw[hg]at h;exact core K h
  ·rw[hg,wE]at h;exact LL hA h core
 | seq x y ihx ihy =>
  intro hok hro K X R e a w hA hn h;simp only[Xp,Lr]at hok;unfold Sh at h;refine wpIn_seq (wpIn_mono (ihx hok.1 (hro.imp id fun h=>(Le4.1 h).1) _ _ _ e a w hA hn h) fun ex a1 w1 hx=>?_);have sub:∀ t,t∈BC x->t∈BC (x.seq y):=fun t ht=>Lv2 _ ht;cases ex with
  | normal =>
   obtain⟨e1,hA1,hF1,h1⟩:=hx;refine wpIn_mono (ihy hok.2 (hro.imp id fun h=>(Le4.1 h).2) _ _ _ e1 a1 w1 hA1 (hF1.1.trans hn) h1) fun ex2 a2 w2 hx2=>?_;have sub2:∀ t,t∈BC y->t∈BC (x.seq y):=fun t ht=>Lz3 _ ht;cases ex2<;>simp only[GZ]at hx2 |-
   case normal=>obtain⟨e2,b1,b2,b3⟩:=hx2;exact⟨e2,b1,(hF1.mono sub).trans (b2.mono sub2),b3⟩
   case exit i=>obtain⟨e2,b1,b2,b3⟩:=hx2;exact⟨e2,b1,(hF1.mono sub).trans (b2.mono sub2),b3⟩
   case ret=>exact hx2
  | exit i=>obtain⟨e2,b1,b2,b3⟩:=hx;exact⟨e2,b1,b2.mono sub,b3⟩
  | ret=>exact hx
  | goto l=>exact hx.elim
  | panic ch=>exact hx.elim
  | outgrown=>exact hx.elim
 | cond cnd x y ihx ihy =>
  intro hok hro K X R e a w hA hn h;simp only[Xp,Lr]at hok;unfold Sh at h;obtain⟨e1,hA1,_,_,hl,h⟩:=Dj hA h;have hev:a.eval cnd=ev e1 cnd:=Yc hA1 fun t ht=>hl t (HB.2 ht.symm)
  split at h
  ·rename_i t ht;have two:∀ k:B5->World->Prop,(bif t then Sh P A x k X R e1 w else Sh P A y k X R e1 w)->(Code.cond cnd x y).wpIn (Fw ro) nn P (GZ D n a (BC x++BC y) k X R) a w:=by
    intro k hk;have keep:∀ ds:List Nat,(∀ t,t∈ds->t∈BC x++BC y)->∀ ex a1 w1,GZ D n a ds k X R ex a1 w1->GZ D n a (BC x++BC y) k X R ex a1 w1 :=
     fun ds hs ex a1 w1 hx=>GZ.mono hs (fun e _ _ h1 _ h2=>⟨e,h1,h2⟩) (fun i e _ _ h1 _ h2=>⟨e,h1,h2⟩) ex a1 w1 hx
    refine wpIn_cond_split (hev.trans ht) (fun h1=>?_) (fun h1=>?_)
    ·exact wpIn_mono (ihx hok.1 (hro.imp id fun h=>(Le4.1 h).1) _ _ _ e1 a w hA1 hn (by rw[h1]at hk;exact hk)) (keep _ fun t ht=>Lv2 _ ht)
    ·exact wpIn_mono (ihy hok.2 (hro.imp id fun h=>(Le4.1 h).2) _ _ _ e1 a w hA1 hn (by rw[h1]at hk;exact hk)) (keep _ fun t ht=>Lz3 _ ht)
   cases hb:(ES x&&ES y)
   ·rw[hb]at h;exact two K h
   ·rw[hb,wE]at h;exact LL hA1 h two
  ·exact h.elim
 | block id c ih =>
  intro hok hro K X R e a w hA hn h;simp only[Xp]at hok;unfold Sh at h;have core:∀ k:B5->World->Prop,Sh P A c k (fun i e w=>bif Nat.beq i id then k e w else X i e w) R e w->(Code.block id c).wpIn (Fw ro) nn P (GZ D n a (BC c) k X R) a w:=by
   intro k hk;refine wpIn_block (wpIn_mono (ih hok hro _ _ _ e a w hA hn hk) fun ex a1 w1 hx=>?_);cases ex<;>simp only[GZ]at hx<;>simp only[Exit.inBlock,GZ]
   case normal=>exact hx
   case exit i =>
    obtain⟨e2,b1,b2,b3⟩:=hx;cases hb:Nat.beq i id
    ·rw[hb]at b3;rw[if_neg (Ez hb)];exact⟨e2,b1,b2,b3⟩
    ·rw[hb]at b3;rw[if_pos (AD hb)];exact⟨e2,b1,b2,b3⟩
   case ret=>exact hx
  cases hb:Nat.ble 2 ((bif ES c then 1 else 0)+OR id c)
  ·rw[hb]at h;exact core K h
  ·rw[hb,wE]at h;exact LL hA h core
 | loop c ih =>
  intro hok hro K X R e a w hA hn h;simp only[Xp]at hok;unfold Sh at h;obtain⟨hA1,I,μ,h0,hround⟩:=Nm hA hA (Fr.refl _ _) h
  let xs:Act->List Value:=fun b=>(Fv A (BC c)).map fun t=>b.tmps.getD t undef
  have hxs:∀(e1:B5)(b:Act),Ki D e1 b->Zv (Fv A (BC c)) e1=true->vals (Fv A (BC c)) e1=xs b:=by
   intro e1 b hA hal;refine Ln3 fun t ht=>?_
   have:=cI.1 hal t ht
   refine(hA.2 t ?_).symm;unfold En.live;cases he:e1 t<;>rw[he]at this<;>first | rfl | exact Bool.noConfusion this
  have halv:∀{k:List Value->World->Prop}{e1:B5}{w1:World},Vl A (BC c) k e1 w1->Zv (Fv A (BC c)) e1=true:=by
   intro k e1 w1 hl;unfold Vl at hl;cases hb:Zv (Fv A (BC c)) e1
   ·rw[hb]at hl;exact hl.elim
   ·rfl
  refine wpIn_loop (fun b w1=>b.tmps.size=n/\Fr (BC c) a b/\Ki D (aR (BC c) (Fv A (BC c)) (xs b) e) b/\I (xs b) w1) (fun b w1=>μ (xs b) w1) ⟨hn,Fr.refl _ _,?_,?_⟩ ?_
  ·rw[<- hxs e a hA (halv h)];exact hA1
  ·rw[<- hxs e a hA (halv h)];exact h0
  ·rintro b w1 ⟨hbn,hbF,hbA,hbI⟩;refine wpIn_mono (ih hok hro _ _ _ _ b w1 hbA hbn (hround (xs b) w1 hbI)) fun ex a2 w2 hx=>?_;cases ex<;>simp only[GZ]at hx<;>simp only[Exit.then,GZ]
   case normal =>
    obtain⟨e2,b1,b2,b3⟩:=hx;have hF2:Fr (BC c) a a2:=hbF.trans b2;obtain⟨c1,c2,c3⟩:=Nm hA b1 hF2 b3;have hv:=hxs e2 a2 b1 (halv b3);rw[hv]at c1 c2 c3;exact⟨⟨hF2.1.trans hn,hF2,c1,c2⟩,c3⟩
   case exit i=>obtain⟨e2,b1,b2,b3⟩:=hx;exact⟨e2,b1,hbF.trans b2,b3⟩
   case ret=>exact hx
 | scope c ih =>
  intro hok hro K X R e a w hA hn h;simp only[Xp]at hok;unfold Sh at h;have hro:ro=none:=hro.resolve_right fun h=>by cases h
  subst hro;refine wpIn_wide.2 (wp_scope_straight (wp_mono (wpIn_wide.1 (ih hok (.inl rfl) _ _ _ e a w hA hn h)) fun ex a1 w1 hx=>?_));cases ex<;>simp only[GZ]at hx<;>first | exact hx | exact hx.elim
def uJ(tmps:Array Value):ResultVar->Sem Value
 | .tmp t=>pure (tmps.getD t undef)
 | .cell a t=>do loadVar t (<- asAddr (tmps.getD a undef))
theorem LJ{D:List Deferred}{w:World}{a:Act}:∀(rs:List ResultVar)(e:B5)(K:List Value->Prop),Ki D e a->Y9 P A w rs e K ->
  ∃ vs:List Value,(rs.mapM (uJ a.tmps)).run P w=.ok vs w/\K vs
 | [],e,K,hA,h=>⟨[],by simp,h⟩
 | .tmp t::r,e,K,hA,h=>by
  unfold Y9 at h;obtain⟨e1,hA1,_,_,hl,h⟩:=Dj hA h;obtain⟨vs,h1,h2⟩:=LJ r e1 _ hA1 h;refine⟨vl (e1 t)::vs,?_,h2⟩;simp only[List.mapM_cons,Sem.run_bind,uJ,Sem.run_pure,Result.andThen_ok,h1,hA1.2 t (hl t (by simp))]
 | .cell c t::r,e,K,hA,h=>by
  unfold Y9 at h;obtain⟨e1,hA1,_,_,hl,h⟩:=Dj hA h;obtain⟨v,hv,h⟩:=pW.elim h;obtain⟨vs,h1,h2⟩:=LJ r e1 _ hA1 h;refine⟨v::vs,?_,h2⟩;have hc:=hA1.2 c (hl c (by simp));have hload:(uJ a.tmps (.cell c t)).run P w=.ok v w:=by
   show((asAddr (a.tmps.getD c undef)) >>= fun x=>loadVar t x).run P w=.ok v w;rw[hc];simp only[Instr.loadAt,Instr.sureAddr]at hv;cases hx:vl (e1 c)<;>rw[hx]at hv<;>try (simp at hv;done)
   case pointer p =>
    cases p with
    | none=>simp at hv
    | some q=>simpa [asAddr] using hv
  simp only[List.mapM_cons,Sem.run_bind,hload,Result.andThen_ok,h1,Sem.run_pure]
theorem Zz{args:List Value}{n:Nat}:Ki [] (xB args) { tmps:=args.toArray++Array.replicate n undef,defers:=[] }:=by
 refine⟨rfl,fun t _=>?_⟩;unfold xB;simp only[Lt];cases h:args[t]? with
 | some v =>
  have hlt:t<args.length:=(Lq.1 h).1;rw[Array.getElem?_append_left (by simpa using hlt)];simp[h,vl]
 | none =>
  have hge:args.length<=t:=by simpa using h
  rw[Array.getElem?_append_right (by simpa using hge)];simp only[vl,Array.getElem?_replicate];split<;>rfl
def okF(np:Nat)(fn:Func):Bool:=Nat.ble np fn.ntmps&&(match fn.body with | some c=>Xp fn.ntmps c | none=>false)
theorem eP(hm : P.follows .mixedOrders = true){f : FuncId}{fn : Func}{args : List Value}{w : World}{K : Value → World → Prop}(hf : P.funcs[f]? = some fn)(hok : okF args.length fn = true)
    (hn : (fn.name == "runtime.NumGoroutine") = false) (h : AcG P A fn args w K) : A7 P f args.toArray w K := by
  unfold AcG at h;unfold okF at hok
  split at h
  · rename_i c hb
    rw[hb]at hok;simp only[Lr]at hok;refine⟨⟨fn, hf, by rw[hb];rfl, hn⟩, ?_⟩;refine callsIn_wide.1 (callsIn_of_wp (n := 0) hf hb trivial ?_);have hsz : args.length ≤ fn.ntmps := Nat.le_of_ble_eq_true hok.1;refine wpIn_mono (K8 (ro := none) hm (n := fn.ntmps) c hok.2 (.inl rfl) _ _ _ _ _ w Zz (by simp;omega) h) fun ex a w' hx => ?_;have fin : ∀ e, Ki [] e a → Y9 P A w' fn.results.toList e (fun vs => K (Vx vs) w') → a.defers = [] ∧ ∃ v, (results fn a.tmps).run P w' = .ok v w' ∧ zR K (.returned v) w' := by
      intro e hA hr;obtain⟨vs, h1, h2⟩ := LJ _ _ _ hA hr;refine⟨hA.1, Vx vs, ?_, h2⟩
      have e1 : results fn a.tmps = (do
          let vs ← fn.results.mapM (uJ a.tmps)
          pure (if h : vs.size = 1 then vs[0]else .tuple vs)) := by
        unfold results
        congr 1
      rw[e1, Array.mapM_eq_mapM_toList];simp only[Sem.run_bind, Sem.run_map, h1, Result.andThen_ok, Sem.run_pure]
      congr 1
      cases vs with
      | nil => rfl
      | cons v r => cases r with
        | nil => rfl
        | cons u r => rfl
    cases ex<;>simp only[GZ]at hx<;>simp only[bodyPost]
    case normal => obtain⟨e, b1, _, b3⟩ := hx;exact fin e b1 b3
    case ret => obtain⟨e, b1, _, b3⟩ := hx;exact fin e b1 b3
    case exit i => obtain⟨e, b1, _, b3⟩ := hx;exact b3
  · exact h.elim
end
open Go
section
variable{P:Program}{w:World}
theorem Aa{b:Bool}{T F:Prop}(ht:b=true->T)(hf:b=false->F):cond b T F:=by
 cases b
 ·exact hf rfl
 ·exact ht rfl
def Qf(w:World)(b:Nat)(o:Obj):World:={ w with heap:=w.heap.setIfInBounds b o }
@[simp] theorem AfN (w:World) (b:Nat) (o:Obj):(Qf w b o).heap.size=w.heap.size:=by simp[Qf]
theorem AX{b:Nat}{o:Obj}(h:b<w.heap.size):(Qf w b o).heap[b]?=some o:=by simp[Qf,h]
theorem Vf{b b':Nat}{o:Obj}(h:b'≠b):(Qf w b o).heap[b']?=w.heap[b']?:=by
 simp only[Qf];rw[wS (fun e=>h e.symm)]
theorem zN(b:Nat)(o o':Obj):Qf (Qf w b o) b o'=Qf w b o':=by
 unfold Qf;simp
theorem BV(w:World)(o:Obj):(w.alloc o).heap[w.heap.size]?=some o:=by
 show(w.heap.push o)[w.heap.size]?=some o;simp
theorem Rl{b:Nat}{o:Obj}(h:b<w.heap.size):(w.alloc o).heap[b]?=w.heap[b]?:=by
 simp only[World.alloc,Array.getElem?_push];rw[if_neg (by omega)]
theorem AM{b:Nat}{o:Obj}(h:w.heap[b]?=some o):b<w.heap.size:=(Le3.1 h).1
@[simp] theorem AeC (w:World):(Af w).heap=w.heap:=rfl
structure Ab(S:Nat->Prop)(w w':World):Prop where
 tape:w'.tape=w.tape
 os:w'.os=w.os
 output:w'.output=w.output
 size:w.heap.size<=w'.heap.size
 block:∀ b,b<w.heap.size->¬ S b->w'.heap[b]?=w.heap[b]?
def No:Nat->Prop:=fun _=>False
theorem Ab.refl(S:Nat->Prop)(w:World):Ab S w w:=⟨rfl,rfl,rfl,Le _,fun _ _ _=>rfl⟩
theorem Ab.trans{S S':Nat->Prop}{a b c:World}(h:Ab S a b)(k:Ab S' b c)(hs:∀ x,x<a.heap.size->S' x->S x):Ab S a c :=
 ⟨k.tape.trans h.tape,k.os.trans h.os,k.output.trans h.output,QK h.size k.size,fun x hx hn=>(k.block x (pF hx h.size) (fun h'=>hn (hs x hx h'))).trans (h.block x hx hn)⟩
theorem Ab.no{S:Nat->Prop}{a b c:World}(h:Ab S a b)(k:Ab No b c):Ab S a c:=h.trans k fun _ _ h=>h.elim
theorem Ab.mono{S S':Nat->Prop}{a b:World}(h:Ab S a b)(hs:∀ x,x<a.heap.size->S x->S' x):Ab S' a b :=
 ⟨h.tape,h.os,h.output,h.size,fun x hx hn=>h.block x hx fun h'=>hn (hs x hx h')⟩
theorem Ab.alloc{S:Nat->Prop}{a b:World}(h:Ab S a b)(o:Obj):Ab S a (b.alloc o) :=
 h.no ⟨rfl,rfl,rfl,by simp,fun x hx _=>Rl hx⟩
theorem Ab.put{S:Nat->Prop}{a b:World}(h:Ab S a b){k:Nat}(hk:a.heap.size<=k\/S k)(o:Obj):Ab S a (Qf b k o) :=
 h.trans (S':=fun x=>x=k) ⟨rfl,rfl,rfl,by simp,fun x _ hn=>Vf hn⟩ fun x hx e=>by subst e;exact hk.resolve_left (by omega)
theorem Ab.drew{S:Nat->Prop}{a b:World}(h:Ab S a b):Ab S a (Af b):=⟨h.tape,h.os,h.output,h.size,h.block⟩
theorem Ab.below{S:Nat->Prop}{a b:World}(h:Ab S a b)(hs:∀ x,¬ S x):RowKit.Below a.heap.size a b :=
 ⟨h.os,h.tape,h.output,h.size,fun k hk=>h.block k hk (hs k)⟩
theorem Ab.keep{S:Nat->Prop}{a b:World}(h:Ab S a b){k:Nat}{o:Obj}(ho:a.heap[k]?=some o)(hk:¬ S k):b.heap[k]?=some o :=
 (h.block k (AM ho) hk).trans ho
def Cw(P:Program)(T:TypeId):Bool :=
 match P.underlying T with
 | some (.struct _) | some (.array _ _) | none=>false
 | some _=>match P.info? T with | some i=>Nat.beq i.size 1 | none=>false
def D5(P:Program)(T:TypeId):Option Nat :=
 match P.underlying T with
 | some (.struct _) | some (.array _ _)=>match P.info? T with | some i=>some i.size | none=>none
 | _=>none
def Hf(P:Program)(T:TypeId):Option Nat :=
 match P.underlying T with
 | some (.slice e)=>match P.info? e with | some i=>some i.size | none=>none
 | _=>none
theorem kJ{T:TypeId}(h:Cw P T=true):(∀ w,(isAgg T).run P w=.ok false w)/\∃ i,P.info? T=some i/\i.size=1:=by
 unfold Cw at h
 split at h
 ·exact Bool.noConfusion h
 ·exact Bool.noConfusion h
 ·exact Bool.noConfusion h
 ·rename_i d h1 h2 hd
  split at h
  ·rename_i i hi;refine⟨fun w=>?_,i,hi,AD h⟩;simp only[isAgg,Sem.run_bind,AJ hd,Result.andThen_ok,Sem.run_pure]
  ·exact Bool.noConfusion h
theorem dM{T:TypeId}{n:Nat}(h:D5 P T=some n):(∀ w,(isAgg T).run P w=.ok true w)/\∃ i,P.info? T=some i/\i.size=n:=by
 unfold D5 at h
 split at h
 ·rename_i d hd
  split at h
  ·rename_i i hi;refine⟨fun w=>?_,i,hi,Lk h⟩;simp only[isAgg,Sem.run_bind,AJ hd,Result.andThen_ok,Sem.run_pure]
  ·cases h
 ·rename_i d hd
  split at h
  ·rename_i i hi;refine⟨fun w=>?_,i,hi,Lk h⟩;simp only[isAgg,Sem.run_bind,AJ hd,Result.andThen_ok,Sem.run_pure]
  ·cases h
 ·cases h
theorem Bx{T:TypeId}{i:TypeInfo}(h:P.info? T=some i)(w:World):(sizeOf T).run P w=.ok i.size w:=by
 simp[sizeOf,typeInfo,h]
theorem Ae(b o n:Nat):Addr.add ⟨b,o,none⟩ n=⟨b,o+n,none⟩:=by
 unfold Addr.add;split
 ·rename_i h;subst h;rfl
 ·rfl
theorem QU{b o:Nat}{l:List Value}{t:TypeId}{fz:Nat×Nat}(h:w.heap[b]?=some (.cells ⟨l⟩ t fz)):w.cell? ⟨b,o,none⟩=l[o]?:=by
 simp[World.cell?,h]
theorem mT{b o:Nat}{l:List Value}{t:TypeId}{fz:Nat×Nat}(h:w.heap[b]?=some (.cells ⟨l⟩ t fz)):w.frozen? ⟨b,o,none⟩=(decide (fz.1<=o)&&decide (o<fz.2)):=by
 simp[World.frozen?,h]
theorem gA{b o:Nat}{l:List Value}{t:TypeId}{fz:Nat×Nat}(h:w.heap[b]?=some (.cells ⟨l⟩ t fz))(v:Value):w.setCell ⟨b,o,none⟩ v=Qf w b (.cells ⟨l.set o v⟩ t fz):=by
 unfold World.setCell Qf
 congr 1
 apply Array.ext_getElem?;intro i;rw[Array.getElem?_modify];by_cases hi:b=i
 ·subst hi;have hlt:=AM h;rw[Array.getElem?_eq_getElem hlt]at h;have h:=Lk h;simp[hlt,h]
 ·rw[if_neg hi,wS hi]
theorem nG{T:TypeId}{b o:Nat}{l:List Value}{t:TypeId}{fz:Nat×Nat}{v:Value}(hT:Cw P T=true)(h:w.heap[b]?=some (.cells ⟨l⟩ t fz))(hv:l[o]?=some v) :
  (Instr.loadAt T (.pointer (some ⟨b,o,none⟩))).run P w=.ok v w:=by
 obtain⟨h1,_⟩:=kJ hT;simp[Instr.loadAt,Instr.sureAddr,loadVar,h1 w,QU h,hv]
theorem aP{T:TypeId}{b o n:Nat}{l:List Value}{t:TypeId}{fz:Nat×Nat}(hT:D5 P T=some n)(h:w.heap[b]?=some (.cells ⟨l⟩ t fz))(hn:o+n<=l.length) :
  (Instr.loadAt T (.pointer (some ⟨b,o,none⟩))).run P w=.ok (.agg ⟨(l.drop o).take n⟩) w:=by
 obtain⟨h1,i,hi,hin⟩:=dM hT;have hlen:((l.drop o).take n).length=n:=by simp;omega
 have hc:=run_loadCells_list (P:=P) w ⟨b,o,none⟩ ((l.drop o).take n) (fun j v hj=>by
  rw[Ae,QU h];rw[Ln4]at hj
  split at hj
  ·rwa [Lm4]at hj
  ·cases hj)
 rw[hlen]at hc;simp only[Instr.loadAt,Instr.sureAddr,loadVar,Sem.run_bind,Sem.run_pure,Result.andThen_ok,h1 w,lD,Bx hi,hin,hc]
def A9(l:List Value)(o:Nat)(cs:List Value):List Value:=l.take o++cs++l.drop (o+cs.length)
theorem Bp{l:List Value}{o:Nat}{cs:List Value}(h:o+cs.length<=l.length):(A9 l o cs).length=l.length:=by
 unfold A9;simp;omega
theorem bP{l:List Value}{o:Nat}{v:Value}{r:List Value}(h:o<l.length):A9 l o (v::r)=A9 (l.set o v) (o+1) r:=by
 have hs:l.set o v=l.take o++v::l.drop (o+1):=by rw[Lk2,if_pos h]
 have hlen:(l.take o).length=o:=by simp;omega
 unfold A9;rw[hs];have e1:(l.take o++v::l.drop (o+1)).take (o+1)=l.take o++[v]:=by
  rw[Lw4,hlen,Lf (by omega)];simp
 have e2:(l.take o++v::l.drop (o+1)).drop (o+1+r.length)=l.drop (o+(v::r).length):=by
  rw[UB,hlen,Ls (by omega),Ly,show o+1+r.length-o=r.length+1 by omega,pZ,Tb]
  congr 1;simp;omega
 rw[e1,e2];simp
theorem Hp{b:Nat}{t:TypeId}{fz:Nat×Nat}:∀(cs:List Value){w:World}{o i:Nat}{l:List Value},w.heap[b]?=some (.cells ⟨l⟩ t fz)->o+i+cs.length<=l.length ->
  (∀ j,o+i<=j->j<o+i+cs.length->¬ (fz.1<=j/\j<fz.2))->(∀ v∈cs,v.oneCell'=true) ->
  (storeCells ⟨b,o,none⟩ cs i).run P w=.ok () (Qf w b (.cells ⟨A9 l (o+i) cs⟩ t fz))
 | [],w,o,i,l,h,hl,_,_=>by
  have:Qf w b (.cells ⟨A9 l (o+i) []⟩ t fz)=w:=by
   unfold Qf A9;have hlt:=AM h;have e:w.heap.setIfInBounds b (.cells ⟨l⟩ t fz)=w.heap:=by
    apply Array.ext_getElem?;intro k;by_cases hk:b=k
    ·subst hk;rw[Array.getElem?_eq_getElem hlt]at h;have h:=Lk h;simp[hlt,h]
    ·rw[wS hk]
   simp[e]
  rw[this];simp[storeCells]
 | v::r,w,o,i,l,h,hl,hf,hv=>by
  simp only[pH]at hl hf;have hfz:w.frozen? ⟨b,o+i,none⟩=false:=by
   rw[mT h]
   have:=hf (o+i) (Le _) (by omega)
   rw[Ld2];by_cases h1:fz.1<=o+i
   ·right;simpa using fun h2=>this ⟨h1,h2⟩
   ·left;simpa using h1
  have hlt:o+i<l.length:=by omega
  have hc:w.cell? ⟨b,o+i,none⟩=some l[o+i]:=by rw[QU h];simp[hlt]
  have hb:=AM h;have ih:=Hp r (w:=Qf w b (.cells ⟨l.set (o+i) v⟩ t fz)) (o:=o) (i:=i+1) (l:=l.set (o+i) v) (AX hb) (by simp;omega)
   (fun j h1 h2=>hf j (by omega) (by omega)) (fun u hu=>hv u (dH _ hu))
  simp only[storeCells,Sem.run_bind,Ae];rw[run_store P w _ v .plain (hv v iF),hc];simp only[hfz,cG,Wp,Result.andThen_ok,gA h,ih,zN];rw[bP hlt,wM]
theorem VF{T:TypeId}{b o:Nat}{l:List Value}{t:TypeId}{fz:Nat×Nat}{v:Value}(hT:Cw P T=true)(h:w.heap[b]?=some (.cells ⟨l⟩ t fz))(ho:o<l.length)(hf:¬ (fz.1<=o/\o<fz.2))
  (hv:v.oneCell'=true):(Instr.storeAt T (.pointer (some ⟨b,o,none⟩)) v).run P w=.ok () (Qf w b (.cells ⟨l.set o v⟩ t fz)):=by
 obtain⟨_,i,hi,hi1⟩:=kJ hT;have hcs:v.cells=#[v]:=by cases v<;>first|rfl|simp[Value.oneCell']at hv
 have:=Hp (P:=P) [v] (o:=o) (i:=0) h (by simp;omega) (fun j h1 h2=>by
  have:j=o:=by simp at h1 h2;omega
  subst this;exact hf) (by simpa using hv)
 simp only[Instr.storeAt,Instr.sureAddr,storeVar,Sem.run_bind,Sem.run_pure,Result.andThen_ok,Bx hi,hi1,hcs];simp only[List.size_toArray,pH,List.length_nil,ne_eq,not_true_eq_false,Wp];have e:A9 l (o+0) [v]=l.set o v:=by
  unfold A9;simp only[Lb5,pH,List.length_nil,Tc];rw[Lk2,if_pos ho];simp
 rw[e]at this;simpa using this
theorem X0{T:TypeId}{b o n:Nat}{l cs:List Value}{t:TypeId}{fz:Nat×Nat}(hT:D5 P T=some n)(h:w.heap[b]?=some (.cells ⟨l⟩ t fz))(hcs:cs.length=n)(ho:o+n<=l.length)
  (hf:∀ j,o<=j->j<o+n->¬ (fz.1<=j/\j<fz.2)) (hv:∀ v∈cs,v.oneCell'=true) :
  (Instr.storeAt T (.pointer (some ⟨b,o,none⟩)) (.agg ⟨cs⟩)).run P w=.ok () (Qf w b (.cells ⟨A9 l o cs⟩ t fz)):=by
 obtain⟨_,i,hi,hi1⟩:=dM hT
 have:=Hp (P:=P) cs (i:=0) h (by subst hcs;omega) (fun j h1 h2=>hf j (by omega) (by subst hcs;omega)) hv
 have hsz:¬ (Value.agg ⟨cs⟩).cells.size≠n:=by simp[Value.cells,hcs]
 simp only[Instr.storeAt,Instr.sureAddr,storeVar,Sem.run_bind,Sem.run_pure,Result.andThen_ok,Bx hi,hi1];rw[if_neg hsz];simpa [Value.cells] using this
theorem JI{T:TypeId}{k:Nat}(h:Hf P T=some k):∃ e i,P.underlying T=some (.slice e)/\P.info? e=some i/\i.size=k:=by
 unfold Hf at h
 split at h
 ·rename_i e he
  split at h
  ·rename_i i hi;exact⟨e,i,he,hi,Lk h⟩
  ·cases h
 ·cases h
theorem A8{T:TypeId}{k n c:Nat}{a:Addr}{kk:IntKind}{i:Int}(hT:Hf P T=some k)(h0:0<=i)(hn:i<n)(w:World) :
  (Instr.indexAt T (.slice (some a) n c) (.int kk i)).run P w=.ok (.pointer (some (a.add (i.toNat*k)))) w:=by
 obtain⟨e,inf,he,hi,hk⟩:=JI hT;simp only[Instr.indexAt,asIntOf,Sem.run_bind,Sem.run_pure,Result.andThen_ok,AJ he];rw[if_pos ⟨h0,hn⟩];simp only[Sem.run_bind,Bx hi,Result.andThen_ok,Sem.run_pure,hk]
theorem EF{kk:IntKind}{i:Int}{y:Nat}{code:BoundsCode}(h0:0<=i)(h1:i<=y)(w:World):(Instr.sliceBound (.int kk i) y code).run P w=.ok i.toNat w:=by
 simp[Instr.sliceBound,asIntOf,h0,h1]
def CL(a:Option Addr)(cap l k:Nat):Option Addr:=if cap=l then a else a.map (·.add (l*k))
theorem BH{T:TypeId}{k n c:Nat}{a:Option Addr}{k1 k2:IntKind}{l h:Int}(hT:Hf P T=some k)(h0:0<=l)(h1:l<=h)(h2:h<=c)(w:World) :
  (Instr.sliceAt T (.slice a n c) (some (.int k1 l)) (some (.int k2 h)) none).run P w=.ok (.slice (CL a c l.toNat k) (h.toNat-l.toNat) (c-l.toNat)) w:=by
 obtain⟨e,inf,he,hi,hk⟩:=JI hT;have hb1:=fun code=>EF (P:=P) (kk:=k2) (i:=h) (y:=c) (code:=code) (by omega) h2 w;have hb2:=fun code=>EF (P:=P) (kk:=k1) (i:=l) (y:=h.toNat) (code:=code) h0 (by omega) w;simp only[Instr.sliceAt,Sem.run_bind,AJ he,Result.andThen_ok,Instr.slice,Instr.sliceBounds,Sem.run_pure,lD,hb1,Lo2,cG,Wp,hb2,Bx hi,hk]
 unfold CL;split<;>rfl
theorem Gq{T:TypeId}{k n c:Nat}{a:Option Addr}{k1:IntKind}{l:Int}(hT:Hf P T=some k)(h0:0<=l)(h1:l<=n)(w:World) :
  (Instr.sliceAt T (.slice a n c) (some (.int k1 l)) none none).run P w=.ok (.slice (CL a c l.toNat k) (n-l.toNat) (c-l.toNat)) w:=by
 obtain⟨e,inf,he,hi,hk⟩:=JI hT;have hb2:=fun code=>EF (P:=P) (kk:=k1) (i:=l) (y:=n) (code:=code) h0 h1 w;simp only[Instr.sliceAt,Sem.run_bind,AJ he,Result.andThen_ok,Instr.slice,Instr.sliceBounds,Sem.run_pure,Lo2,cG,Wp,hb2,Bx hi,hk];unfold CL;split<;>rfl
theorem NX{T:TypeId}{k n c:Nat}{a:Option Addr}{k2:IntKind}{h:Int}(hT:Hf P T=some k)(h0:0<=h)(h2:h<=c)(w:World) :
  (Instr.sliceAt T (.slice a n c) none (some (.int k2 h)) none).run P w=.ok (.slice (CL a c 0 k) h.toNat c) w:=by
 obtain⟨e,inf,he,hi,hk⟩:=JI hT;have hb1:=fun code=>EF (P:=P) (kk:=k2) (i:=h) (y:=c) (code:=code) h0 h2 w;simp only[Instr.sliceAt,Sem.run_bind,AJ he,Result.andThen_ok,Instr.slice,Instr.sliceBounds,Sem.run_pure,lD,hb1,Lo2,cG,Wp,Bx hi,hk];unfold CL;split<;>rfl
end
open Go
def Ag7(l:Nat)(r0:Loop)(k:World->Prop)(W:World):Prop:=W.heap[l]?=some (.loop r0)/\k (W.putObj l (.loop { r0 with state:=.busy }))
def AhA(l:Nat)(r0:Loop)(K:Value->World->Prop)(c:Option Code)(W:World):Prop :=
 W.heap[l]?=some (.loop { r0 with state:=.busy })/\K (.bool c.isNone) (W.putObj l (.loop { r0 with state:=if c.isNone then .ready else .done,pending:=c }))
def qG(P:Program)(f:FuncId)(lb:Array Value)(n:Nat)(w:World)(rnd:List Value->((World->Prop)->World->Prop)->(Option Code->World->Prop)->World->Prop)(aft:Option Code->World->Prop):Prop :=
 ∀ r0:Loop,r0.state=.ready->r0.pending=none ->
  (∀(xs:List Value)(W:World)(K:Value->World->Prop),xs.length=n->W.heap[w.heap.size+1]?=some (.loop r0)->rnd xs (Ag7 (w.heap.size+1) r0) (AhA (w.heap.size+1) r0 K) W->Yld P (w.heap.size+1) ⟨xs⟩ W K) ->
  A7 P f (#[.func (.yield (w.heap.size+1)) #[] #[]]++lb) ((w.alloc (.deferred (some []))).alloc (.loop r0)) fun _ w3 =>
   ∃ st pe,w3.heap[w.heap.size+1]?=some (.loop { r0 with state:=st,pending:=pe })/\st≠.busy/\aft pe (w3.putObj (w.heap.size+1) (.loop { r0 with state:=.exhausted,pending:=pe }))
def L5(P:Program)(v:Value)(n:Nat)(w:World)(rnd:List Value->((World->Prop)->World->Prop)->(Option Code->World->Prop)->World->Prop)(aft:Option Code->World->Prop):Prop :=
 match v with
 | .func (.func f) ⟨[]⟩ lb=>qG P f lb n w rnd aft
 | _=>False
def XR(K:World->Prop)(X:Nat->World->Prop)(R:World->Prop)(pe:Option Code)(w:World):Prop :=
 match pe with
 | none=>K w
 | some (.exit i)=>X i w
 | some .ret=>R w
 | _=>False
def UL(P : Program)(A : An) : Code → List Nat → (List Nat → B5 → World → Prop) → (Nat → List Nat → B5 → World → Prop) → (List Nat → B5 → World → Prop) → B5 → World → Prop
  | .seq a b, ms, K, X, R, e, w => UL P A a ms (fun ms e w => UL P A b ms K X R e w) X R e w
  | .cond c a b, ms, K, X, R, e, w => Hh P A (tm c) e fun e => match ev e c with
    | .bool t => bif t then UL P A a ms K X R e w else UL P A b ms K X R e w
    | _ => False
  | .block id c, ms, K, X, R, e, w => UL P A c ms K (fun i ms e w => bif Nat.beq i id then K ms e w else X i ms e w) R e w
  | .rangeFunc g ps asg body, ms, K, X, R, e, w => Hh P A (tm g) e fun e => L5 P (ev e g) ps.toList.length w
        (fun xs bgn fin W => Sh P A asg (fun e1 W1 => bgn (fun W2 => Sh P A body (fun _ W3 => fin none W3) (fun i _ W3 => fin (some (.exit i)) W3) (fun _ W3 => fin (some .ret) W3) e1 W2) W1)
          (fun _ _ _ => False) (fun _ _ => False) (aR ps.toList ps.toList xs e) W)
        (XR (K (w.heap.size :: ms) e) (fun i => X i (w.heap.size :: ms) e) (R (w.heap.size :: ms) e))
  | .skip, ms, K, _, _, e, w => K ms e w
  | .label _, ms, K, _, _, e, w => K ms e w
  | .region id ops draw, ms, K, X, R, e, w => Sh P A (.region id ops draw) (K ms) (fun i => X i ms) (R ms) e w
  | .loop c, ms, K, X, R, e, w => Sh P A (.loop c) (K ms) (fun i => X i ms) (R ms) e w
  | .exit i, ms, _, X, _, e, w => X i ms e w
  | .ret, ms, _, _, R, e, w => R ms e w
  | _, _, _, _, _, _, _ => False
def xY:List Nat->(World->Prop)->World->Prop
 | [],K,w=>K w
 | r::ms,K,w=>w.heap[r]?=some (.deferred (some []))/\xY ms K (w.putObj r (.deferred none))
def Tf(P:Program)(A:An)(fn:Func)(args:List Value)(w:World)(K:Value->World->Prop):Prop :=
 match fn.body with
 | some c =>
  let R:List Nat->B5->World->Prop:=fun ms e w=>xY ms (fun w=>Y9 P A w fn.results.toList e fun vs=>K (Vx vs) w) w
  UL P A c [] R (fun _ _ _ _=>False) R (xB args) w
 | none=>False
def Y0:List Nat->Bool
 | []=>true
 | x::r=>!cK x r&&Y0 r
def tT(n:Nat):Code->Bool
 | .seq a b=>tT n a&&tT n b
 | .cond _ a b=>tT n a&&tT n b
 | .block _ c=>tT n c
 | .rangeFunc _ ps a b=>Xp n a&&Xp n b&&Vw a&&Vw b&&(ps.toList.all fun t=>Nat.blt t n)&&Y0 ps.toList
 | .scope _=>false
 | c=>Xp n c
def AfI(np:Nat)(fn:Func):Bool:=Nat.ble np fn.ntmps&&(match fn.body with | some c=>tT fn.ntmps c | none=>false)
def yV(ms:List Nat):List Deferred:=ms.map fun r=>{ target:=.collected r,args:=#[] }
section
variable{P:Program}{A:An}
def QL(n:Nat)(K:List Nat->B5->World->Prop)(X:Nat->List Nat->B5->World->Prop)(R:List Nat->B5->World->Prop):Exit->Act->World->Prop
 | .normal,a,w=>∃ ms e,Ki (yV ms) e a/\a.tmps.size=n/\K ms e w
 | .exit i,a,w=>∃ ms e,Ki (yV ms) e a/\a.tmps.size=n/\X i ms e w
 | .ret,a,w=>∃ ms e,Ki (yV ms) e a/\a.tmps.size=n/\R ms e w
 | _,_,_=>False
theorem uD{n:Nat}{a0:Act}{ds:List Nat}{ms:List Nat}{K:List Nat->B5->World->Prop}{X:Nat->List Nat->B5->World->Prop}{R:List Nat->B5->World->Prop}(hn:a0.tmps.size=n)(x:Exit)(a:Act)(w:World)
  (h:GZ (yV ms) n a0 ds (K ms) (fun i=>X i ms) (R ms) x a w):QL n K X R x a w:=by
 cases x<;>simp only[GZ]at h<;>simp only[QL]
 case normal=>obtain⟨e,h1,h2,h3⟩:=h;exact⟨ms,e,h1,h2.1.trans hn,h3⟩
 case exit i=>obtain⟨e,h1,h2,h3⟩:=h;exact⟨ms,e,h1,h2.1.trans hn,h3⟩
 case ret=>obtain⟨e,h1,h2,h3⟩:=h;exact⟨ms,e,h1,h2,h3⟩
def FE:List (Tmp×Value)->Array Value->Array Value
 | [],t=>t
 | (p,v)::r,t=>FE r (t.setIfInBounds p v)
theorem Xy:∀(l:List (Tmp×Value)) (t:Array Value),(FE l t).size=t.size
 | [],_=>rfl
 | (p,v)::r,t=>by rw[FE,Xy r];simp
theorem mS(l:List (Tmp×Value))(t:Array Value):l.foldl (fun tmps (x:Tmp×Value)=>tmps.setIfInBounds x.1 x.2) t=FE l t:=by
 induction l generalizing t with
 | nil=>rfl
 | cons x r ih=>exact ih _
theorem Qa:∀(l:List (Tmp×Value)) (t:Array Value) (j:Nat),(∀ x∈l,x.1≠j)->(FE l t).getD j undef=t.getD j undef
 | [],_,_,_=>rfl
 | (p,v)::r,t,j,h=>by
  rw[FE,Qa r _ j fun x hx=>h x (dH _ hx)];have hp:p≠j:=h (p,v) iF;simp only[Lt];rw[wS hp]
theorem kL:∀(ps:List Tmp)(xs:List Value)(t:Array Value)(j:Nat),ps.Nodup->xs.length=ps.length->(∀ p∈ps,p<t.size)->j∈ps->(FE (ps.zip xs) t).getD j undef=A2 xs (V4 j ps)
 | [],_,_,_,_,_,_,hj=>by simp at hj
 | p::ps,[],_,_,_,hl,_,_=>by simp at hl
 | p::ps,v::xs,t,j,hnd,hl,hlt,hj=>by
  have hnd':=pN.1 hnd;rw[List.zip_cons_cons,FE];cases hb:Nat.beq j p with
  | true =>
   have e:=AD hb;subst e;rw[Qa _ _ _ fun x hx=>fun e=>hnd'.1 (by rw[<- e];exact(List.of_mem_zip hx).1)]
   have:=hlt j iF
   simp[V4,A2,Lt,this]
  | false =>
   have hne:=Ez hb;have hj':j∈ps:=(Lv.1 hj).resolve_left hne;rw[kL ps xs _ j hnd'.2 (by simpa using hl) (fun q hq=>by simp;exact hlt q (dH _ hq)) hj'];simp[V4,hb,A2]
theorem Rr:∀{l:List Nat},Y0 l=true->l.Nodup
 | [],_=>Lf5
 | x::r,h=>by
  simp only[Y0,Lr,lC]at h;refine pN.2 ⟨fun hx=>?_,Rr h.2⟩;rw[JJ.2 hx]at h;cases h.1
theorem lK{D:List Deferred}{e:B5}{a:Act}{ps:List Tmp}{xs:List Value}(hA:Ki D e a)(hnd:ps.Nodup)(hl:xs.length=ps.length)(hlt:∀ p∈ps,p<a.tmps.size) :
  Ki [] (aR ps ps xs e) { tmps:=FE (ps.zip xs) a.tmps,defers:=[] }:=by
 refine⟨rfl,fun t ht=>?_⟩;unfold aR at ht |-;cases hh:cK t ps
 ·rw[hh]at ht;simp only[wT]at ht |-;have hn:t ∉ ps:=fun hm=>by rw[JJ.2 hm]at hh;cases hh
  show(FE (ps.zip xs) a.tmps).getD t undef=_;rw[Qa _ _ _ fun x hx=>fun e=>hn (by rw[<- e];exact(List.of_mem_zip hx).1)];exact hA.2 t ht
 ·simp only[wE,vl];exact kL ps xs a.tmps t hnd hl hlt (JJ.1 hh)
theorem bF(hm:P.follows .mixedOrders=true){nn n:Nat}{g:Operand}{ps:Array Tmp}{asg body:Code}{f:FuncId}{lb:Array Value}{ms:List Nat}{e:B5}{a:Act}{w:World}
  {K:List Nat->B5->World->Prop} {X:Nat->List Nat->B5->World->Prop} {R:List Nat->B5->World->Prop}
  (hA:Ki (yV ms) e a) (hn:a.tmps.size=n) (ha:Xp n asg=true) (hb:Xp n body=true) (sa:Vw asg=true) (sb:Vw body=true) (hlt:∀ p∈ps.toList,p<n) (hnd:ps.toList.Nodup)
  (hg:a.eval g=.func (.func f) #[] lb)
  (h:qG P f lb ps.toList.length w
    (fun xs bgn fin W=>Sh P A asg (fun e1 W1=>bgn (fun W2=>Sh P A body (fun _ W3=>fin none W3) (fun i _ W3=>fin (some (.exit i)) W3) (fun _ W3=>fin (some .ret) W3) e1 W2) W1)
     (fun _ _ _=>False) (fun _ _=>False) (aR ps.toList ps.toList xs e) W)
    (XR (K (w.heap.size::ms) e) (fun i=>X i (w.heap.size::ms) e) (R (w.heap.size::ms) e))) :
  (Code.rangeFunc g ps asg body).wpIn (Fw none) nn P (QL n K X R) a w:=by
 refine wpIn_rangeFunc fun fn _=>?_;obtain⟨r0,hr0⟩:∃ r0:Loop,r0={ state:=.ready,pending:=none,fn,tmps:=a.tmps,params:=ps,assign:=asg,body,defers:=w.heap.size }:=⟨_,rfl⟩;have hcal:=h r0 (by rw[hr0]) (by rw[hr0]) (fun xs W K' hxs hW hrnd=>?_)
 ·have hgo:=hcal.1;have eg:=LK (P:=P) hgo
  refine⟨w.heap.size+1,[{ target:=.collected w.heap.size,args:=#[] }],(w.alloc (.deferred (some []))).alloc (.loop r0),{ target:=.fn (.func f) lb,args:=#[.func (.yield (w.heap.size+1)) #[] #[]] },(w.alloc (.deferred (some []))).alloc (.loop r0),f,
   #[.func (.yield (w.heap.size+1)) #[] #[]]++lb,(w.alloc (.deferred (some []))).alloc (.loop r0),?_,?_,fun _ _=>trivial,?_,QY,?_⟩
  ·rw[hr0];exact run_enterLoop_outer _ _ _ _ _
  ·simp only[resolve,hg];simp[go_sem]
  ·simp[invoke,go_sem,eg]
  ·refine PF ?_;refine Calls.mono hcal.2 ?_;intro ex w3 hx;cases ex with
   | panicked c=>exact hx.elim
   | outgrown=>exact hx.elim
   | returned v =>
    obtain⟨st,pe,h1,h2,h3⟩:=hx;refine⟨pe,_,run_endLoop h1 h2,?_⟩;have hA':Ki (yV (w.heap.size::ms)) e { a with defers:=[{ target:=.collected w.heap.size,args:=#[] }]++a.defers }:=⟨by show [_]++a.defers=_;rw[hA.1];rfl,hA.2⟩;cases pe with
    | none=>exact⟨_,e,hA',hn,h3⟩
    | some c=>cases c<;>first | exact h3.elim | exact wpIn_exit ⟨_,e,hA',hn,h3⟩ | exact wpIn_ret ⟨_,e,hA',hn,h3⟩
 ·have hsz:(⟨xs⟩:Array Value).size=r0.params.size:=by rw[hr0];simpa using hxs
  refine⟨_,_,_,_,run_yield hW hsz,roundIn_of_wpIn trivial ?_⟩;have hfold:((r0.params.zip (⟨xs⟩:Array Value)).foldl (fun tmps (t,a)=>tmps.setIfInBounds t a) r0.tmps)=FE (ps.toList.zip xs) a.tmps:=by
   rw[hr0,<- Array.foldl_toList,Array.toList_zip];exact mS _ _
  rw[hfold];have hR0:r0.assign=asg:=by rw[hr0]
  have hR1:r0.body=body:=by rw[hr0]
  rw[hR0,hR1];have hst:r0.state=.ready:=by rw[hr0]
  have hAr:=lK (xs:=xs) hA hnd (by simpa using hxs) (fun p hp=>by rw[hn];exact hlt p hp);have hs0:(FE (ps.toList.zip xs) a.tmps).size=n:=by rw[Xy];exact hn
  refine wpIn_mono (K8 (D:=[]) (ro:=some (w.heap.size+1)) (nn:=0) hm asg ha (.inr sa) _ _ _ _ _ W hAr hs0 hrnd) fun ex a1 w1 hx=>?_;cases ex<;>simp only[GZ]at hx<;>simp only[Exit.then]
  case exit=>obtain⟨_,_,_,h⟩:=hx;exact h.elim
  case ret=>obtain⟨_,_,_,h⟩:=hx;exact h.elim
  case normal =>
   obtain⟨e1,hA1,hF1,hl1,hk⟩:=hx;refine⟨_,run_beginRound hl1 hst,?_⟩;refine wpIn_mono (K8 (D:=[]) (ro:=some (w.heap.size+1)) (nn:=0) hm body hb (.inr sb) _ _ _ _ _ _ hA1 (hF1.1.trans hs0) hk) fun ex a2 w2 hx2=>?_;cases ex<;>simp only[GZ]at hx2<;>simp only[roundPost]
   case normal=>obtain⟨_,_,_,h1,h2⟩:=hx2;exact⟨_,_,run_endRound none h1,h2⟩
   case exit i=>obtain⟨_,_,_,h1,h2⟩:=hx2;exact⟨_,_,run_endRound (some (.exit i)) h1,h2⟩
   case ret=>obtain⟨_,_,_,h1,h2⟩:=hx2;exact⟨_,_,run_endRound (some .ret) h1,h2⟩
theorem eR(hm:P.follows .mixedOrders=true){nn n:Nat}:∀(c:Code),tT n c=true->∀(ms:List Nat)(K:List Nat->B5->World->Prop)(X:Nat->List Nat->B5->World->Prop)(R:List Nat->B5->World->Prop)(e:B5)(a:Act)(w:World),
  Ki (yV ms) e a->a.tmps.size=n->UL P A c ms K X R e w->c.wpIn (Fw none) nn P (QL n K X R) a w:=by
 intro c
 induction c with
 | skip=>intro _ ms K X R e a w hA hn h;exact wpIn_skip ⟨ms,e,hA,hn,h⟩
 | label l=>intro _ ms K X R e a w hA hn h;exact wpIn_label ⟨ms,e,hA,hn,h⟩
 | exit i=>intro _ ms K X R e a w hA hn h;exact wpIn_exit ⟨ms,e,hA,hn,h⟩
 | ret=>intro _ ms K X R e a w hA hn h;exact wpIn_ret ⟨ms,e,hA,hn,h⟩
 | goto l=>intro _ ms K X R e a w hA hn h;exact h.elim
 | refuse s=>intro _ ms K X R e a w hA hn h;exact h.elim
 | scope c _=>intro hok;cases hok
 | region id ops draw =>
  intro hok ms K X R e a w hA hn h;exact wpIn_mono (K8 (ro:=none) hm (.region id ops draw) hok (.inl rfl) _ _ _ e a w hA hn h) (uD hn)
 | loop c _ =>
  intro hok ms K X R e a w hA hn h;exact wpIn_mono (K8 (ro:=none) hm (.loop c) hok (.inl rfl) _ _ _ e a w hA hn h) (uD hn)
 | seq x y ihx ihy =>
  intro hok ms K X R e a w hA hn h;simp only[tT,Lr]at hok;unfold UL at h;refine wpIn_seq (wpIn_mono (ihx hok.1 ms _ _ _ e a w hA hn h) fun ex a1 w1 hx=>?_);cases ex<;>simp only[QL]at hx<;>simp only[Exit.then,QL]
  case normal=>obtain⟨ms1,e1,h1,h2,h3⟩:=hx;exact ihy hok.2 ms1 K X R e1 a1 w1 h1 h2 h3
  case exit i=>exact hx
  case ret=>exact hx
 | cond cnd x y ihx ihy =>
  intro hok ms K X R e a w hA hn h;simp only[tT,Lr]at hok;unfold UL at h;obtain⟨e1,hA1,_,_,hl,h⟩:=Dj hA h;have hev:a.eval cnd=ev e1 cnd:=Yc hA1 fun t ht=>hl t (HB.2 ht.symm)
  split at h
  ·rename_i t ht;refine wpIn_cond_split (hev.trans ht) (fun h1=>?_) (fun h1=>?_)
   ·exact ihx hok.1 ms K X R e1 a w hA1 hn (by rw[h1]at h;exact h)
   ·exact ihy hok.2 ms K X R e1 a w hA1 hn (by rw[h1]at h;exact h)
  ·exact h.elim
 | block id c ih =>
  intro hok ms K X R e a w hA hn h;simp only[tT]at hok;unfold UL at h;refine wpIn_block (wpIn_mono (ih hok ms _ _ _ e a w hA hn h) fun ex a1 w1 hx=>?_);cases ex<;>simp only[QL]at hx<;>simp only[Exit.inBlock,QL]
  case normal=>exact hx
  case exit i =>
   obtain⟨ms1,e1,h1,h2,h3⟩:=hx;cases hb:Nat.beq i id
   ·rw[hb]at h3;rw[if_neg (Ez hb)];exact⟨ms1,e1,h1,h2,h3⟩
   ·rw[hb]at h3;rw[if_pos (AD hb)];exact⟨ms1,e1,h1,h2,h3⟩
  case ret=>exact hx
 | rangeFunc g ps asg body _ _ =>
  intro hok ms K X R e a w hA hn h;simp only[tT,Lr]at hok;obtain⟨⟨⟨⟨⟨h1,h2⟩,h3⟩,h4⟩,h5⟩,h6⟩:=hok;unfold UL at h;obtain⟨e1,hA1,_,_,hl,h⟩:=Dj hA h;have hev:a.eval g=ev e1 g:=Yc hA1 fun t ht=>hl t (HB.2 ht.symm);unfold L5 at h
  split at h
  ·rename_i f lb hg;refine bF hm hA1 hn h1 h2 h3 h4 (fun p hp=>?_) (Rr h6) (hev.trans hg) h
   have:=cI.1 h5 p hp
   rwa [Nat.blt_eq]at this
  ·exact h.elim
theorem Tl{fn:Func}{tmps:Array Value}{R:Ending->World->Prop}{n:Nat}{G:World->Prop}:∀(ms:List Nat)(w:World),xY ms G w ->
  (∀ w',G w'->∃ v,(results fn tmps).run P w'=.ok v w'/\R (.returned v) w')->LeavesInM (Fw none) n P fn tmps R (yV ms) .returning w
 | [],w,h,hk=>hk w h
 | r::ms,w,h,hk=>⟨by simp,.inl ⟨r,_,rfl,run_takeDeferred h.1,Tl ms _ h.2 hk⟩⟩
theorem F8(hm : P.follows .mixedOrders = true){f : FuncId}{fn : Func}{args : List Value}{w : World}{K : Value → World → Prop}(hf : P.funcs[f]? = some fn)(hok : AfI args.length fn = true)
    (hn : (fn.name == "runtime.NumGoroutine") = false) (h : Tf P A fn args w K) : A7 P f args.toArray w K := by
  unfold Tf at h;unfold AfI at hok
  split at h
  · rename_i c hb
    rw[hb]at hok;simp only[Lr]at hok;refine⟨⟨fn, hf, by rw[hb];rfl, hn⟩, ?_⟩;refine callsIn_wide.1 (callsIn_of_wp_marks (n := 0) hf hb trivial ?_);have hsz : args.length ≤ fn.ntmps := Nat.le_of_ble_eq_true hok.1;refine wpIn_mono (eR hm (n := fn.ntmps) c hok.2 [] _ _ _ _ _ w Zz (by simp;omega) h) fun ex a w' hx => ?_;have fin : ∀ ms e, Ki (yV ms) e a → xY ms (fun w => Y9 P A w fn.results.toList e fun vs => K (Vx vs) w) w' → LeavesInM (Fw none) 0 P fn a.tmps (zR K) a.defers .returning w' := by
      intro ms e hA hr;rw[hA.1];refine Tl ms w' hr fun w2 hr => ?_;obtain⟨vs, h1, h2⟩ := LJ _ _ _ hA hr;refine⟨Vx vs, ?_, h2⟩
      have e1 : results fn a.tmps = (do
          let vs ← fn.results.mapM (uJ a.tmps)
          pure (if h : vs.size = 1 then vs[0]else .tuple vs)) := by
        unfold results
        congr 1
      rw[e1, Array.mapM_eq_mapM_toList];simp only[Sem.run_bind, Sem.run_map, h1, Result.andThen_ok, Sem.run_pure]
      congr 1
      cases vs with
      | nil => rfl
      | cons v r => cases r with
        | nil => rfl
        | cons u r => rfl
    cases ex<;>simp only[QL]at hx<;>simp only[bodyPostM]
    case normal => obtain⟨ms, e, b1, _, b3⟩ := hx;exact fin ms e b1 b3
    case ret => obtain⟨ms, e, b1, _, b3⟩ := hx;exact fin ms e b1 b3
    case exit i => obtain⟨ms, e, b1, _, b3⟩ := hx;exact b3
  · exact h.elim
end
end Go.Den
end
section
open Go Go.Den Go.Proofs
namespace Go.Z
abbrev GY:Nat:=3
abbrev P7:Nat:=4
abbrev BJ:Nat:=5
abbrev BK:Nat:=6
abbrev BL:Nat:=7
abbrev CA:Nat:=8
abbrev Cj:Nat:=9
abbrev Ce:Nat:=10
abbrev Dz:Nat:=11
abbrev FV:Nat:=12
abbrev J9:Nat:=13
abbrev Dy:Nat:=14
abbrev B9:Nat:=15
abbrev JA:Nat:=16
abbrev Fh:Nat:=17
abbrev G4:Nat:=18
abbrev K4:Nat:=19
abbrev DW:Nat:=20
abbrev CB:Nat:=21
abbrev IH:Nat:=22
abbrev B8:Nat:=23
abbrev Dn:Nat:=24
abbrev Cz:Nat:=25
abbrev EQ:Nat:=26
abbrev Bg:Nat:=27
abbrev Cg:Nat:=28
abbrev Cd:Nat:=29
abbrev FP:Nat:=30
abbrev C7:Nat:=31
abbrev FW:Nat:=32
abbrev Bc:Nat:=33
abbrev KV:Nat:=34
abbrev Id:Nat:=35
abbrev JC:Nat:=36
abbrev W8:Nat:=37
abbrev KW:Nat:=38
abbrev J0:Nat:=39
abbrev U9:Nat:=40
abbrev G2:Nat:=41
abbrev BO:Nat:=42
abbrev DA:Nat:=43
abbrev EB:Nat:=44
abbrev FQ:Nat:=45
abbrev DX:Nat:=46
abbrev D0:Nat:=47
abbrev MR:Nat:=48
abbrev P8:Nat:=49
abbrev DT:Nat:=50
abbrev Dl:Nat:=51
abbrev P9:Nat:=52
abbrev Dp:Nat:=53
abbrev Dq:Nat:=54
abbrev JV:Nat:=55
abbrev AR:Nat:=56
abbrev Fl:Nat:=57
abbrev J2:Nat:=58
abbrev DU:Nat:=59
abbrev Ci:Nat:=60
abbrev FS:Nat:=61
abbrev E8:Nat:=62
abbrev CV:Nat:=63
abbrev BP:Nat:=64
abbrev CT:Nat:=65
abbrev EE:Nat:=66
abbrev DB:Nat:=67
abbrev Ib:Nat:=68
abbrev EN:Nat:=69
abbrev FU:Nat:=70
abbrev Eb:Nat:=71
abbrev C8:Nat:=72
abbrev CC:Nat:=73
abbrev Dh:Nat:=74
abbrev B1:Nat:=75
abbrev G1:Nat:=76
abbrev AY:Nat:=77
abbrev BI:Nat:=78
abbrev PC:Nat:=79
abbrev MT:Nat:=80
abbrev L1:Nat:=81
abbrev B7:Nat:=82
abbrev II:Nat:=83
abbrev U8:Nat:=84
abbrev Be:Nat:=85
abbrev GV:Nat:=86
abbrev H0:Nat:=87
abbrev LZ:Nat:=88
abbrev HT:Nat:=89
abbrev IF:Nat:=93
abbrev K3:Nat:=94
abbrev Dm:Nat:=95
abbrev Do:Nat:=96
abbrev Ic:Nat:=97
abbrev Fj:Nat:=98
abbrev U7:Nat:=99
abbrev Fc:Nat:=100
abbrev Ev:Nat:=101
abbrev EP:Nat:=102
abbrev DC:Nat:=103
abbrev J6:Nat:=104
abbrev Bz:Nat:=105
abbrev B4:Nat:=106
abbrev OL:Nat:=107
abbrev MS:Nat:=108
abbrev Dw:Nat:=109
abbrev E9:Nat:=110
abbrev J3:Nat:=111
abbrev EA:Nat:=112
abbrev Gb:Nat:=113
abbrev Bd:Nat:=114
abbrev KZ:Nat:=115
abbrev C6:Nat:=116
abbrev JW:Nat:=117
abbrev GM:Nat:=118
abbrev CU:Nat:=119
abbrev BA:Nat:=120
abbrev JX:Nat:=121
abbrev Fg:Nat:=122
abbrev H3:Nat:=123
abbrev Fi:Nat:=124
abbrev GW:Nat:=125
abbrev EO:Nat:=126
abbrev Er:Nat:=127
abbrev G0:Nat:=128
abbrev Et:Nat:=129
abbrev GN:Nat:=130
abbrev GX:Nat:=131
abbrev Ec:Nat:=132
abbrev Eu:Nat:=133
abbrev MQ:Nat:=134
abbrev CQ:Nat:=135
abbrev NG:Nat:=136
abbrev MK:Nat:=137
abbrev JB:Nat:=138
abbrev BU:Nat:=139
abbrev Ed:Nat:=140
abbrev MO:Nat:=141
abbrev Wn:Nat:=142
abbrev FR:Nat:=145
abbrev ML:Nat:=146
abbrev FZ:Nat:=147
abbrev E6:Nat:=148
abbrev By:Nat:=149
abbrev Fd:Nat:=151
abbrev C0:Nat:=152
abbrev CI:Nat:=153
abbrev C2:Nat:=154
abbrev CD:Nat:=155
abbrev Ia:Nat:=156
abbrev J4:Nat:=157
abbrev J5:Nat:=158
abbrev MN:Nat:=159
abbrev Cc:Nat:=160
abbrev J7:Nat:=161
abbrev BX:Nat:=162
abbrev Ct:Nat:=163
abbrev CP:Nat:=164
abbrev Dr:Nat:=165
abbrev DQ:Nat:=166
abbrev NF:Nat:=167
abbrev FN:Nat:=168
abbrev BT:Nat:=169
abbrev BE:Nat:=170
abbrev Dv:Nat:=171
abbrev E5:Nat:=172
abbrev Gd:Nat:=174
abbrev J8:Nat:=175
abbrev MP:Nat:=176
abbrev CN:Nat:=177
abbrev Du:Nat:=178
abbrev Ga:Nat:=179
abbrev Gz:Nat:=180
abbrev J1:Nat:=181
abbrev KU:Nat:=182
abbrev CJ:Nat:=183
abbrev FT:Nat:=184
abbrev KY:Nat:=185
abbrev AF:Nat:=186
abbrev DH:Nat:=187
abbrev IG:Nat:=188
abbrev CO:Nat:=189
abbrev KX:Nat:=192
abbrev Gc:Nat:=193
abbrev FY:Nat:=194
abbrev FX:Nat:=195
abbrev KT:Nat:=196
abbrev MJ:Nat:=197
abbrev P6:Nat:=198
abbrev GO:Nat:=199
abbrev DS:Nat:=200
abbrev DR:Nat:=201
abbrev Fe:Nat:=202
abbrev L0:Nat:=203
abbrev IE:Nat:=205
abbrev Ds:Nat:=207
abbrev Ck:Nat:=219
abbrev G3:Nat:=220
abbrev DM:Nat:=221
abbrev Ba:Nat:=222
abbrev BS:Nat:=223
abbrev Ff:Nat:=224
abbrev DV:Nat:=225
abbrev Ew:Nat:=226
abbrev F3:Nat:=233
abbrev H1:Nat:=234
abbrev Fk:Nat:=235
abbrev BY:Nat:=236
abbrev C4:Nat:=237
abbrev E7:Nat:=238
abbrev FO:Nat:=239
abbrev CM:Nat:=241
abbrev Ru(s:Sem Value)(w:World)(v:Value)(w2:World):Prop:=s.run Tryz.prog w=.ok v w2
abbrev Gr(s:Sem Unit)(w w2:World):Prop:=s.run Tryz.prog w=.ok () w2
abbrev Al(s:Sem Value)(v:Value):Prop:=∀ w,s.run Tryz.prog w=.ok v w
abbrev MW(n:Nat)(a b:Int):Int:=(BitVec.ofInt n a &&& BitVec.ofInt n b).toNat
abbrev UH(n:Nat)(a b:Int):Int:=(BitVec.ofInt n a ||| BitVec.ofInt n b).toNat
abbrev MX(n:Nat)(a b:Int):Int:=(BitVec.ofInt n a ^^^ BitVec.ofInt n b).toNat
abbrev UG(n:Nat)(a b:Int):Int:=(BitVec.ofInt n a &&& ~~~(BitVec.ofInt n b)).toNat
abbrev YA:=Value->World->Prop
abbrev YB:=Option Addr
abbrev YC(f:Nat)(args:Array Value)(w:World)(K:YA):Prop:=A7 Tryz.prog f args w K
abbrev YD(T:Nat)(q:Addr)(w:World)(v:Value):Prop:=Ru (Instr.loadAt T (.pointer (some q))) w v w
abbrev YE(T:Nat)(q:Addr)(v:Value)(w w2:World):Prop:=Gr (Instr.storeAt T (.pointer (some q)) v) w w2
abbrev Yz(f:Nat)(a:Array Value)(D:World->YA->Prop):Prop := ∀ w K,D w K->A7 Yt f a w K
abbrev Yq(T:Nat)(w:World)(q:Addr)(v:World):Prop := Ru (Instr.alloc T true (.tuple #[])) w (.pointer (some q)) v
abbrev Yb(T:Nat)(x:Value)(w:World)(q:Addr)(v:World):Prop := Ru (Instr.box T x) w (.pointer (some q)) v
abbrev Yi(q:Addr)(w:World)(n:Int):Prop := YD 3 q w (Yn n)
abbrev Yg(T:Nat)(q:Addr)(w:World)(g:Array Value):Prop := YD T q w (.agg g)
abbrev Yp(T:Nat)(q:Addr)(w:World)(p:YB):Prop := YD T q w (.pointer p)
abbrev Yx(T:Nat)(x y:Value)(q:Addr):Prop := Al (Instr.indexAt T x y) (.pointer (some q))
theorem Vs:Yt.follows .mixedOrders=true:=by kernel_rfl
end Go.Z
end
section
open Go Go.Den
namespace Go.Den
section
variable{P:Program}{w:World}
theorem Ad.dup{B:(List Value->World->Prop)->Prop}{C:List Value->World->Prop}(h:B C):Ad B C:=⟨C,fun _ _ h=>h,h⟩
theorem Ad.cut{B:(List Value->World->Prop)->Prop}{C:List Value->World->Prop}(J:List Value->World->Prop)(hB:B J)(hC:∀ x w,J x w->C x w):Ad B C:=⟨J,hC,hB⟩
theorem tt{b:Bool}{T F:Prop}(hb:b=true)(h:T):cond b T F:=by rw[hb];exact h
theorem ff{b:Bool}{T F:Prop}(hb:b=false)(h:F):cond b T F:=by rw[hb];exact h
theorem Ad.or{c d:Bool}{C:List Value->World->Prop}(h:C [.bool (c || d)] w):Ad (fun k=>bif c then k [.bool true] w else k [.bool d] w) C:=Ad.dup (by cases c<;>simpa using h)
theorem Ag{x:Int}(h0:-9223372036854775808<=x)(h1:x<=9223372036854775807):Yw x=x:=by
 simp only[IntKind.wrap,IntKind.bits,IntKind.signed]at *;simp at *;omega
theorem RG{x:Int}(h0:0<=x)(h1:x<=18446744073709551615):IntKind.u64.wrap x=x:=by
 simp only[IntKind.wrap,IntKind.bits,IntKind.signed]at *;simp at *;omega
theorem NC{x:Int}:IntKind.u8.wrap x=x % 256:=by
 simp only[IntKind.wrap,IntKind.bits,IntKind.signed]at *;simp at *
theorem zM{o o':Obj}:Qf (w.alloc o) w.heap.size o'=w.alloc o':=by
 unfold Qf World.alloc
 congr 1
 apply Array.ext_getElem?;intro i;by_cases hi:w.heap.size=i
 ·subst hi;simp
 ·rw[wS hi,Array.getElem?_push,Array.getElem?_push,if_neg (fun e=>hi e.symm),if_neg (fun e=>hi e.symm)]
theorem NY{T n:Nat}{z l:List Value}{t:TypeId}(hT:D5 P T=some n)(hz:z.length=n)(hl:l.length=n)(hv:∀ v∈l,v.oneCell'=true) :
  (Instr.storeAt T (Yo w.heap.size) (.agg ⟨l⟩)).run P (w.alloc (.cells ⟨z⟩ t))=.ok () (w.alloc (.cells ⟨l⟩ t)):=by
 rw[X0 hT (BV w _) hl (by omega) (fun j _ _=>by simp) hv,zM];have:A9 z 0 l=l:=by unfold A9;simp[hz,hl]
 rw[this]
theorem aQ{T n:Nat}{l:List Value}{t:TypeId}(hT:D5 P T=some n)(hl:l.length=n) :
  (Instr.loadAt T (Yo w.heap.size)).run P (w.alloc (.cells ⟨l⟩ t))=.ok (.agg ⟨l⟩) (w.alloc (.cells ⟨l⟩ t)):=by
 rw[aP hT (BV w _) (by omega)];simp[Lf (pG hl)]
theorem JF{T:TypeId}{v:Value}:(Instr.box T v).run P w=.ok (Yo w.heap.size) (w.alloc (.cells v.cells T)):=rfl
theorem lM{T:TypeId}{i:TypeInfo}{z:Value}(hi:P.info? T=some i)(hz:i.zero=some z) :
  (Instr.alloc T true (.tuple #[])).run P w=.ok (Yo w.heap.size) (w.alloc (.cells z.cells T)):=by
 simp[Instr.alloc,zeroValue,typeInfo,hi,hz,newVar,newRow]
end
end Go.Den
end
section
open Go Go.Den
namespace Go.Den
section
variable{P:Program}{w:World}
def At(w:World)(b o:Nat)(cs:List Value):Prop :=
 ∃ l t fz,w.heap[b]?=some (.cells ⟨l⟩ t fz)/\o+cs.length<=l.length/\(l.drop o).take cs.length=cs
def Av(w:World)(b o:Nat)(cs:List Value):Prop :=
 ∃ l t fz,w.heap[b]?=some (.cells ⟨l⟩ t fz)/\o+cs.length<=l.length/\(l.drop o).take cs.length=cs/\∀ j,o<=j->j<o+cs.length->¬ (fz.1<=j/\j<fz.2)
theorem Av.at{b o:Nat}{cs:List Value}(h:Av w b o cs):At w b o cs:=by obtain⟨l,t,fz,h1,h2,h3,_⟩:=h;exact⟨l,t,fz,h1,h2,h3⟩
theorem At.lt{b o:Nat}{cs:List Value}(h:At w b o cs):b<w.heap.size:=by obtain⟨l,t,fz,h1,_⟩:=h;exact AM h1
theorem Av.lt{b o:Nat}{cs:List Value}(h:Av w b o cs):b<w.heap.size:=h.at.lt
theorem At.of_eq{b o:Nat}{cs:List Value}{w':World}(h:At w b o cs)(e:w'.heap[b]?=w.heap[b]?):At w' b o cs:=by
 obtain⟨l,t,fz,h1,h2⟩:=h;exact⟨l,t,fz,e.trans h1,h2⟩
theorem Av.of_eq{b o:Nat}{cs:List Value}{w':World}(h:Av w b o cs)(e:w'.heap[b]?=w.heap[b]?):Av w' b o cs:=by
 obtain⟨l,t,fz,h1,h2⟩:=h;exact⟨l,t,fz,e.trans h1,h2⟩
theorem At.keep{b o:Nat}{cs:List Value}{w':World}{S:Nat->Prop}(h:At w b o cs)(m:Ab S w w')(hb:¬ S b):At w' b o cs:=h.of_eq (m.block b h.lt hb)
theorem Av.keep{b o:Nat}{cs:List Value}{w':World}{S:Nat->Prop}(h:Av w b o cs)(m:Ab S w w')(hb:¬ S b):Av w' b o cs:=h.of_eq (m.block b h.lt hb)
theorem At.drew{b o:Nat}{cs:List Value}(h:At w b o cs):At (Af w) b o cs:=h
theorem Av.drew{b o:Nat}{cs:List Value}(h:Av w b o cs):Av (Af w) b o cs:=h
theorem Kh{l cs:List Value}{o:Nat}(h3:(l.drop o).take cs.length=cs)(i:Nat)(hi:i<cs.length):l[o+i]?=some cs[i]:=by
 have:cs[i]?=some cs[i]:=by simp[hi]
 rw[<- this]
 conv=>rhs;rw[<- h3]
 rw[Ln4,if_pos hi,Lm4]
theorem bS{l cs:List Value}{o i m:Nat}(h3:(l.drop o).take cs.length=cs)(him:i+m<=cs.length):(l.drop (o+i)).take m=(cs.drop i).take m:=by
 conv=>rhs;rw[<- h3]
 rw[<- Tb,List.drop_take,La4]
 congr 1;omega
theorem At.sub{b o:Nat}{cs:List Value}(h:At w b o cs){i m:Nat}(him:i+m<=cs.length):At w b (o+i) ((cs.drop i).take m):=by
 obtain⟨l,t,fz,h1,h2,h3⟩:=h;have hl:((cs.drop i).take m).length=m:=by simp;omega
 refine⟨l,t,fz,h1,by omega,?_⟩;rw[hl];exact bS h3 him
theorem At.load{T:TypeId}{b o i:Nat}{cs:List Value}{v:Value}(hT:Cw P T=true)(h:At w b o cs)(hv:cs[i]?=some v):(Instr.loadAt T (.pointer (some ⟨b,o+i,none⟩))).run P w=.ok v w:=by
 obtain⟨l,t,fz,h1,h2,h3⟩:=h;have hi:i<cs.length:=(Lq.1 hv).1;refine nG hT h1 ?_;rw[Kh h3 i hi];rw[<- hv];simp[hi]
theorem At.loadAgg{T:TypeId}{b o i n:Nat}{cs:List Value}(hT:D5 P T=some n)(h:At w b o cs)(hi:i+n<=cs.length):(Instr.loadAt T (.pointer (some ⟨b,o+i,none⟩))).run P w=.ok (.agg ⟨(cs.drop i).take n⟩) w:=by
 obtain⟨l,t,fz,h1,h2,h3⟩:=h;rw[aP hT h1 (by omega),bS h3 hi]
theorem SA{l cs vs:List Value}{o i:Nat}(h2:o+cs.length<=l.length)(h3:(l.drop o).take cs.length=cs)(hi:i+vs.length<=cs.length) :
  ((A9 l (o+i) vs).drop o).take (A9 cs i vs).length=A9 cs i vs:=by
 rw[Bp hi];have e:A9 l (o+i) vs=l.take o++(A9 cs i vs++l.drop (o+cs.length)):=by
  have hl:l=l.take o++(cs++l.drop (o+cs.length)):=by
   conv=>lhs;rw[<- wC o l,<- wC cs.length (l.drop o),h3,Tb]
  have hlen:(l.take o).length=o:=by simp;omega
  unfold A9;have e1:l.take (o+i)=l.take o++cs.take i:=by
   conv=>lhs;rw[hl]
   rw[Lw4,hlen,Lf (by omega),show o+i-o=i by omega,Lw4,show i-cs.length=0 by omega];simp
  have e2:l.drop (o+i+vs.length)=cs.drop (i+vs.length)++l.drop (o+cs.length):=by
   conv=>lhs;rw[hl]
   rw[UB,hlen,Ls (by omega),Ly,show o+i+vs.length-o=i+vs.length by omega,UB,show i+vs.length-cs.length=0 by omega];simp
  rw[e1,e2];simp
 have hlen:(l.take o).length=o:=by simp;omega
 rw[e,UB,hlen,Ls (by omega),Ly,dI,VW,Lu (by rw[Bp hi];omega),Lf (by rw[Bp hi];omega)]
theorem Av.store{T:TypeId}{b o i:Nat}{cs:List Value}{v:Value}(hT:Cw P T=true)(h:Av w b o cs)(hi:i<cs.length)(hv:v.oneCell'=true) :
  ∃ w',(Instr.storeAt T (.pointer (some ⟨b,o+i,none⟩)) v).run P w=.ok () w'/\Av w' b o (cs.set i v)/\Ab (fun x=>x=b) w w'/\w'.heap.size=w.heap.size:=by
 obtain⟨l,t,fz,h1,h2,h3,h4⟩:=h;refine⟨_,VF hT h1 (by omega) (h4 _ (by omega) (by omega)) hv,⟨l.set (o+i) v,t,fz,AX (AM h1),by simp;omega,?_,fun j a1 a2=>h4 j a1 (by simpa using a2)⟩,(Ab.refl (fun x=>x=b) w).put (.inr rfl) _,by simp⟩;have e1:l.set (o+i) v=A9 l (o+i) [v]:=by
  unfold A9;rw[Lk2,if_pos (by omega)];simp
 have e2:cs.set i v=A9 cs i [v]:=by
  unfold A9;rw[Lk2,if_pos hi];simp
 rw[e1,e2];exact SA h2 h3 (by simp;omega)
theorem Av.storeAgg{T:TypeId}{b o i n:Nat}{cs vs:List Value}(hT:D5 P T=some n)(h:Av w b o cs)(hn:vs.length=n)(hi:i+n<=cs.length)(hv:∀ v∈vs,v.oneCell'=true) :
  ∃ w',(Instr.storeAt T (.pointer (some ⟨b,o+i,none⟩)) (.agg ⟨vs⟩)).run P w=.ok () w'/\Av w' b o (A9 cs i vs)/\Ab (fun x=>x=b) w w'/\w'.heap.size=w.heap.size:=by
 obtain⟨l,t,fz,h1,h2,h3,h4⟩:=h;subst hn;refine⟨_,X0 hT h1 rfl (by omega) (fun j a1 a2=>h4 j (by omega) (by omega)) hv,⟨A9 l (o+i) vs,t,fz,AX (AM h1),?_,SA h2 h3 hi,fun j a1 a2=>h4 j a1 (by rwa [Bp hi]at a2)⟩,(Ab.refl (fun x=>x=b) w).put (.inr rfl) _,by simp⟩;rw[Bp hi,Bp (by omega)];exact h2
theorem Av.new{cs:List Value}{t:TypeId}:Av (w.alloc (.cells ⟨cs⟩ t)) w.heap.size 0 cs :=
 ⟨cs,t,(0,0),BV w _,by simp,by simp,fun j _ _=>by simp⟩
def Aa1(P:Program)(T:TypeId):Option (Nat×Array Value×Nat) :=
 match P.underlying T with
 | some (.slice e)=>match P.info? e with
  | some i=>match i.zero with
   | some z=>some (i.size,z.cells,i.bytes)
   | none=>none
  | none=>none
 | _=>none
def EG(P:Program)(T:TypeId)(k:Nat)(z:Value)(bytes:Nat):Prop:=Aa1 P T=some (k,⟨List.replicate k z⟩,bytes)
theorem EG.is{T:TypeId}{k bytes:Nat}{z:Value}(h:EG P T k z bytes):∃ e i zv,P.underlying T=some (.slice e)/\P.info? e=some i/\i.size=k/\i.zero=some zv/\zv.cells=⟨List.replicate k z⟩/\i.bytes=bytes:=by
 unfold EG Aa1 at h
 split at h
 ·rename_i e he
  split at h
  ·rename_i i hi
   split at h
   ·rename_i zv hz;have h:=Lk h;simp only[Lu4]at h;exact⟨e,i,zv,he,hi,h.1,hz,h.2.1,h.2.2⟩
   ·cases h
  ·cases h
 ·cases h
theorem VE{cs old:List Value}(h:cs.length=old.length):A9 old 0 cs=cs:=by
 unfold A9;simp[h]
theorem bR{cs vs:List Value}{i:Nat}{v:Value}(h:i+vs.length<cs.length):(A9 cs i vs).set (i+vs.length) v=A9 cs i (vs++[v]):=by
 have hlen:(cs.take i++vs).length=i+vs.length:=by simp;omega
 unfold A9;rw[Le2 _ _ (by omega),hlen,dI];have:cs.drop (i+vs.length)=cs[i+vs.length]::cs.drop (i+vs.length+1):=Li3 h;rw[this];simp[wM]
theorem DK{T:TypeId}{k bytes:Nat}{z:Value}{n:Nat}(hT:EG P T k z bytes)(hk0:0<k)(hb:bytes*n<=281474976710656)(hn:n<=9223372036854775807) :
  ∃ w',(Instr.makeSlice T (Yn n) (Yn n)).run P w=.ok (.slice (some ⟨w.heap.size,0,none⟩) n n) w'/\Av w' w.heap.size 0 (List.replicate (n*k) z)/\Ab No w w'/\w'.heap.size=w.heap.size+1:=by
 obtain⟨e,i,zv,he,hi,hk,hz,hzc,hby⟩:=hT.is;have hcells:madeCells zv.cells (n*k)=⟨List.replicate (n*k) z⟩:=by
  rw[hzc];unfold madeCells;apply Array.ext
  ·simp
  ·intro j hj1 hj2;simp at hj1;have:j % k<k:=wQ _ hk0;simp[this]
 have h:=run_make w T e i zv he hi hz .i64 .i64 (n:Int) (n:Int) (by omega) (by omega) (by rw[hby];have:=Int.ofNat_le.2 hb;rw[Int.natCast_mul]at this;exact this) (by omega);rw[hk,Lz,hcells]at h;exact⟨_,h,Av.new,(Ab.refl No w).alloc _,World.size_alloc _ _⟩
end
section
variable{P:Program}{w:World}
theorem At.cells{b o n:Nat}{cs:List Value}(h:At w b o cs)(hn:n<=cs.length):(loadCells ⟨b,o,none⟩ n).run P w=.ok ⟨cs.take n⟩ w:=by
 obtain⟨l,t,fz,h1,h2,h3⟩:=h;have hl:(cs.take n).length=n:=by simp;omega
 have:=run_loadCells_list (P:=P) w ⟨b,o,none⟩ (cs.take n) (fun j v hj=>by
  have hjn:j<n:=by have:=(Lq.1 hj).1;omega
  rw[Ae,QU h1,Kh h3 j (by omega)];rw[Ln4,if_pos hjn]at hj
  rw[<- hj];simp)
 rwa [hl]at this
theorem Av.stores{b o i:Nat}{cs vs:List Value}(h:Av w b o cs)(hi:i+vs.length<=cs.length)(hv:∀ v∈vs,v.oneCell'=true) :
  ∃ w',(storeCells ⟨b,o+i,none⟩ vs).run P w=.ok () w'/\Av w' b o (A9 cs i vs)/\Ab (fun x=>x=b) w w'/\w'.heap.size=w.heap.size:=by
 obtain⟨l,t,fz,h1,h2,h3,h4⟩:=h
 have:=Hp (P:=P) vs (o:=o+i) (i:=0) h1 (by omega) (fun j a1 a2=>h4 j (by omega) (by omega)) hv
 refine⟨_,this,⟨A9 l (o+i) vs,t,fz,AX (AM h1),?_,SA h2 h3 hi,fun j a1 a2=>h4 j a1 (by rwa [Bp hi]at a2)⟩,(Ab.refl (fun x=>x=b) w).put (.inr rfl) _,by simp⟩;rw[Bp hi,Bp (by omega)];exact h2
theorem ZI{T T2 ty:TypeId}{k b o n c n2 c2:Nat}{a2:Option Addr}{old src:List Value}(hT:Hf P T=some k)(hd:Av w b o old)(hold:old.length=n*k)
  (hs:src=[]\/∃ b2 o2,a2=some ⟨b2,o2,none⟩/\At w b2 o2 src) (hsrc:src.length=n2*k) (hv:∀ v∈src,v.oneCell'=true) :
  ∃ w',(Builtin.copy_ #[T,T2] ty #[.slice (some ⟨b,o,none⟩) n c,.slice a2 n2 c2]).run P w=.ok (Yn (Nat.min n2 n:Nat)) w' /\
   Av w' b o (A9 old 0 (src.take (Nat.min n2 n*k)))/\Ab (fun x=>x=b) w w'/\w'.heap.size=w.heap.size:=by
 obtain⟨e,i,he,hi,hk⟩:=JI hT;have hm1:Nat.min n2 n*k<=src.length:=by rw[hsrc];exact pP _ (Nat.min_le_left _ _)
 have hm2:Nat.min n2 n*k<=old.length:=by rw[hold];exact pP _ (Nat.min_le_right _ _)
 have hf:(Builtin.firstCells k (Nat.min n2 n) (.slice a2 n2 c2)).run P w=.ok ⟨src.take (Nat.min n2 n*k)⟩ w:=by
  rcases hs with rfl|⟨b2,o2,rfl,hat⟩
  ·cases a2 with
   | none=>simp[Builtin.firstCells]
   | some a =>
    have h0:Nat.min n2 n*k=0:=by simpa using hm1
    simp only[Builtin.firstCells,h0];rfl
  ·simp only[Builtin.firstCells];exact hat.cells hm1
 obtain⟨w',h1,h2,h3,h4⟩:=hd.stores (P:=P) (i:=0) (vs:=src.take (Nat.min n2 n*k)) (by simp;omega) (fun v hv'=>hv v (List.mem_of_mem_take hv'));refine⟨w',?_,h2,h3,h4⟩;have h1:(storeCells ⟨b,o,none⟩ (src.take (Nat.min n2 n*k))).run P w=.ok () w':=h1;simp[Builtin.copy_,AJ he,Builtin.lenOf,sizeOf,typeInfo,hi,hk,hf,h1,goInt]
theorem GP{T T2 ty:TypeId}{k b o i n c n2 c2:Nat}{a2:Option Addr}{cs src:List Value}(hT:Hf P T=some k)(hd:Av w b o cs)(hin:i+n*k<=cs.length)
  (hs:src=[]\/∃ b2 o2,a2=some ⟨b2,o2,none⟩/\At w b2 o2 src) (hsrc:src.length=n2*k) (hv:∀ v∈src,v.oneCell'=true) :
  ∃ w',(Builtin.copy_ #[T,T2] ty #[.slice (some ⟨b,o+i,none⟩) n c,.slice a2 n2 c2]).run P w=.ok (Yn (Nat.min n2 n:Nat)) w' /\
   Av w' b o (A9 cs i (src.take (Nat.min n2 n*k)))/\Ab (fun x=>x=b) w w'/\w'.heap.size=w.heap.size:=by
 obtain⟨e,inf,he,hi,hk⟩:=JI hT;have hm1:Nat.min n2 n*k<=src.length:=by rw[hsrc];exact pP _ (Nat.min_le_left _ _)
 have hm2:Nat.min n2 n*k<=n*k:=pP _ (Nat.min_le_right _ _);have hf:(Builtin.firstCells k (Nat.min n2 n) (.slice a2 n2 c2)).run P w=.ok ⟨src.take (Nat.min n2 n*k)⟩ w:=by
  rcases hs with rfl|⟨b2,o2,rfl,hat⟩
  ·cases a2 with
   | none=>simp[Builtin.firstCells]
   | some a =>
    have h0:Nat.min n2 n*k=0:=by simpa using hm1
    simp only[Builtin.firstCells,h0];rfl
  ·simp only[Builtin.firstCells];exact hat.cells hm1
 obtain⟨w',h1,h2,h3,h4⟩:=hd.stores (P:=P) (i:=i) (vs:=src.take (Nat.min n2 n*k)) (by simp;omega) (fun v hv'=>hv v (List.mem_of_mem_take hv'));refine⟨w',?_,h2,h3,h4⟩;simp[Builtin.copy_,AJ he,Builtin.lenOf,sizeOf,typeInfo,hi,hk,hf,h1,goInt]
end
end Go.Den
end
section
open Go Go.Den
namespace Go.Den
theorem Fm(a b:Int):(a==b)=decide (a=b):=by rw[RH,pO,RV]
theorem DN(a b:Int):(a != b)=decide (a≠b):=by show(!(a==b))=_;rw[Fm,Ll5]
section
variable{P:Program}{w:World}
def MV(P:Program)(T:TypeId):Option (Nat×Nat) :=
 match P.underlying T with
 | some (.array n e)=>match P.info? e with | some i=>some (n,i.size) | none=>none
 | _=>none
theorem RX{T:TypeId}{n k:Nat}(h:MV P T=some (n,k)):∃ e i,P.underlying T=some (.array n e)/\P.info? e=some i/\i.size=k:=by
 unfold MV at h
 split at h
 ·rename_i n' e he
  split at h
  ·rename_i i hi;have h:=Lk h;simp only[Lu4]at h;obtain⟨rfl,rfl⟩:=h;exact⟨e,i,he,hi,rfl⟩
  ·cases h
 ·cases h
theorem Bo{T:TypeId}{k n:Nat}{a:Addr}{kk:IntKind}{i:Int}(hT:MV P T=some (n,k))(h0:0<=i)(hn:i<n)(w:World) :
  (Instr.indexAt T (.pointer (some a)) (.int kk i)).run P w=.ok (.pointer (some (a.add (i.toNat*k)))) w:=by
 obtain⟨e,inf,he,hi,hk⟩:=RX hT;simp only[Instr.indexAt,asIntOf,Sem.run_bind,Sem.run_pure,Result.andThen_ok,AJ he,Instr.sureAddr];rw[if_pos ⟨h0,hn⟩];simp only[Sem.run_bind,Bx hi,Result.andThen_ok,Sem.run_pure,hk]
theorem AN{T:TypeId}{k n b o:Nat}(hT:MV P T=some (n,k))(w:World) :
  (Instr.sliceAt T (.pointer (some ⟨b,o,none⟩)) none none none).run P w=.ok (.slice (some ⟨b,o,none⟩) n n) w:=by
 obtain⟨e,inf,he,hi,hk⟩:=RX hT;simp only[Instr.sliceAt,Sem.run_bind,AJ he,Result.andThen_ok,Instr.sureAddr,Sem.run_pure,Instr.sliceBounds,Lo2,Bx hi,hk];rw[Ae];simp
theorem NW{T:TypeId}{k n b o:Nat}{k1 k2:IntKind}{l h:Int}(hT:MV P T=some (n,k))(h0:0<=l)(h1:l<=h)(h2:h<=n)(hl:l<n)(w:World) :
  (Instr.sliceAt T (.pointer (some ⟨b,o,none⟩)) (some (.int k1 l)) (some (.int k2 h)) none).run P w=.ok (.slice (some ⟨b,o+l.toNat*k,none⟩) (h.toNat-l.toNat) (n-l.toNat)) w:=by
 obtain⟨e,inf,he,hi,hk⟩:=RX hT;have hb1:=fun code=>EF (P:=P) (kk:=k2) (i:=h) (y:=n) (code:=code) (by omega) h2 w;have hb2:=fun code=>EF (P:=P) (kk:=k1) (i:=l) (y:=h.toNat) (code:=code) h0 (by omega) w;simp only[Instr.sliceAt,Sem.run_bind,AJ he,Result.andThen_ok,Instr.sureAddr,Sem.run_pure,Instr.sliceBounds,Lo2,Bx hi,hk,hb1,hb2,cG,Wp]
 rw[Ae,if_neg (by omega)]
theorem uW{T:TypeId}{k n b o:Nat}{k2:IntKind}{h:Int}(hT:MV P T=some (n,k))(h1:0<=h)(h2:h<=n)(w:World) :
  (Instr.sliceAt T (.pointer (some ⟨b,o,none⟩)) none (some (.int k2 h)) none).run P w=.ok (.slice (some ⟨b,o,none⟩) h.toNat n) w:=by
 obtain⟨e,inf,he,hi,hk⟩:=RX hT;have hb1:=fun code=>EF (P:=P) (kk:=k2) (i:=h) (y:=n) (code:=code) (by omega) h2 w;simp only[Instr.sliceAt,Sem.run_bind,AJ he,Result.andThen_ok,Instr.sureAddr,Sem.run_pure,Instr.sliceBounds,Lo2,Bx hi,hk,hb1,cG,Wp];rw[Ae];simp
theorem uX{T:TypeId}{k n b o:Nat}{k1:IntKind}{l:Int}(hT:MV P T=some (n,k))(h0:0<=l)(hl:l<n)(w:World) :
  (Instr.sliceAt T (.pointer (some ⟨b,o,none⟩)) (some (.int k1 l)) none none).run P w=.ok (.slice (some ⟨b,o+l.toNat*k,none⟩) (n-l.toNat) (n-l.toNat)) w:=by
 obtain⟨e,inf,he,hi,hk⟩:=RX hT;have hb2:=fun code=>EF (P:=P) (kk:=k1) (i:=l) (y:=n) (code:=code) h0 (by omega) w;simp only[Instr.sliceAt,Sem.run_bind,AJ he,Result.andThen_ok,Instr.sureAddr,Sem.run_pure,Instr.sliceBounds,Lo2,Bx hi,hk,hb2,cG,Wp];rw[Ae,if_neg (by omega)]
theorem AB{T:TypeId}{cs:List Value}:∃ w1,(Instr.box T (.agg ⟨cs⟩)).run P w=.ok (Yo w.heap.size) w1/\Av w1 w.heap.size 0 cs/\Ab No w w1/\w1.heap.size=w.heap.size+1 :=
 ⟨_,JF,Av.new,(Ab.refl No w).alloc _,World.size_alloc _ _⟩
theorem Md{T:TypeId}{v:Value}(hv:v.cells=⟨[v]⟩):∃ w1,(Instr.box T v).run P w=.ok (Yo w.heap.size) w1/\Av w1 w.heap.size 0 [v]/\Ab No w w1/\w1.heap.size=w.heap.size+1 :=
 ⟨_,JF,by rw[hv];exact Av.new,(Ab.refl No w).alloc _,World.size_alloc _ _⟩
def Hs(P:Program)(T:TypeId):Option (List Value):=match P.info? T with | some i=>(match i.zero with | some z=>some z.cells.toList | none=>none) | none=>none
theorem Aw{T:TypeId}{cs:List Value}(h:Hs P T=some cs):∃ w1,(Instr.alloc T true (.tuple #[])).run P w=.ok (Yo w.heap.size) w1/\Av w1 w.heap.size 0 cs/\Ab No w w1/\w1.heap.size=w.heap.size+1:=by
 unfold Hs at h
 split at h
 ·rename_i i hi
  split at h
  ·rename_i z hz;have h:=Lk h;refine⟨_,lM hi hz,?_,(Ab.refl No w).alloc _,World.size_alloc _ _⟩;have e:z.cells=⟨cs⟩:=by rw[<- h]
   rw[e];exact Av.new
  ·cases h
 ·cases h
theorem At.fld{T:TypeId}{b j:Nat}{cs:List Value}{v:Value}(h:At w b 0 cs)(hT:Cw P T=true)(hv:cs[j]?=some v):(Instr.loadAt T (.pointer (some (Addr.add ⟨b,0,none⟩ j)))).run P w=.ok v w:=by
 rw[Ae];exact h.load hT hv
theorem At.fld2{T:TypeId}{b j i:Nat}{cs:List Value}{v:Value}(h:At w b 0 cs)(hT:Cw P T=true)(hv:cs[j+i]?=some v):(Instr.loadAt T (.pointer (some (Addr.add (Addr.add ⟨b,0,none⟩ j) i)))).run P w=.ok v w:=by
 rw[Ae,Ae,wM];exact h.load hT hv
theorem At.all{T:TypeId}{b n:Nat}{cs:List Value}(h:At w b 0 cs)(hT:D5 P T=some n)(hn:cs.length=n):(Instr.loadAt T (Yo b)).run P w=.ok (.agg ⟨cs⟩) w:=by
 have:=h.loadAgg (i:=0) hT (by omega)
 rw[VW,Lf (by omega)]at this;exact this
theorem At.one{T:TypeId}{b:Nat}{v:Value}(h:At w b 0 [v])(hT:Cw P T=true):(Instr.loadAt T (Yo b)).run P w=.ok v w:=h.load (i:=0) hT rfl
theorem At.fldA{T:TypeId}{b j n:Nat}{cs vs:List Value}(h:At w b 0 cs)(hT:D5 P T=some n)(hj:j+n<=cs.length)(hv:(cs.drop j).take n=vs):(Instr.loadAt T (.pointer (some (Addr.add ⟨b,0,none⟩ j)))).run P w=.ok (.agg ⟨vs⟩) w:=by
 rw[Ae,<- hv];exact h.loadAgg hT hj
theorem Av.put{T:TypeId}{b n:Nat}{cs vs:List Value}(h:Av w b 0 cs)(hT:D5 P T=some n)(hc:cs.length=n)(hn:vs.length=n)(hv:∀ v∈vs,v.oneCell'=true) :
  ∃ w',(Instr.storeAt T (Yo b) (.agg ⟨vs⟩)).run P w=.ok () w'/\Av w' b 0 vs/\Ab (fun x=>x=b) w w'/\w'.heap.size=w.heap.size:=by
 obtain⟨w',h1,h2,h3,h4⟩:=h.storeAgg (i:=0) hT hn (by omega) hv;rw[VE (by omega)]at h2;exact⟨w',h1,h2,h3,h4⟩
theorem Av.putF{T:TypeId}{b j:Nat}{cs:List Value}{v:Value}(h:Av w b 0 cs)(hT:Cw P T=true)(hj:j<cs.length)(hv:v.oneCell'=true) :
  ∃ w',(Instr.storeAt T (.pointer (some (Addr.add ⟨b,0,none⟩ j))) v).run P w=.ok () w'/\Av w' b 0 (cs.set j v)/\Ab (fun x=>x=b) w w'/\w'.heap.size=w.heap.size:=by
 rw[Ae];exact h.store hT hj hv
theorem Av.put1{T:TypeId}{b:Nat}{u v:Value}(h:Av w b 0 [u])(hT:Cw P T=true)(hv:v.oneCell'=true) :
  ∃ w',(Instr.storeAt T (Yo b) v).run P w=.ok () w'/\Av w' b 0 [v]/\Ab (fun x=>x=b) w w'/\w'.heap.size=w.heap.size:=h.store (i:=0) hT (by simp) hv
theorem Ab.own{w0 w1 w2:World}{b:Nat}(h:Ab No w0 w1)(k:Ab (fun x=>x=b) w1 w2)(hb:w0.heap.size<=b):Ab No w0 w2:=h.trans k fun x hx e=>by subst e;omega
end
end Go.Den
end
