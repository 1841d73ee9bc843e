/- Parts of the proof, in order: what the statement leans on. -/
import Derived.Test.YtelhlihjihklbaaGreatRows
import Derived.Test.YtelhlihjihklbaaGreatProg
import Derived.Below
import Derived.KernelRfl
import Derived.Laws.Sem
import Derived.Laws.World
import Derived.Orders
import Derived.OrdersIn
import Derived.ControlIn
import Derived.TacticsIn
import Derived.RangeFuncSeq
import Derived.RangeFuncRecord
import Derived.RangeFuncCalls
import Derived.RangeFuncLeaves
import Derived.Scope
import Derived.Laws.MakeOwn
import Derived.Laws.AppendOwn
import Derived.Laws.OwnMore
import Derived.Laws.BytesString
import Derived.Laws.Strings
import Derived.Laws.Concat
import Derived.Laws.StructEq
import Derived.Laws.Strings2
import Derived.ChangeKeysEq
import Derived.Laws.IdiomRangeMap
import Derived.Test.YtelhlihjihklbaaGreatShelf
import Derived.Sort.OwnSortedInts
import Derived.Great.BuildSlice
import Derived.Lib.SlBytesConst
import Derived.ProofKit
import Derived.Carry
import Derived.OpenShut
import Derived.JoinedCond
import Derived.Deep.Matrix
import Derived.Lib.SmallJoins
import Derived.Deep.Slices
import Derived.Lib.SlicesCompact
namespace Go
abbrev Lb:=@of_decide_eq_false
abbrev Lc:=@of_decide_eq_true
abbrev Ld:=@Nat.le_refl
abbrev Le:=@decide_eq_true
abbrev Lf:=@decide_eq_false
abbrev Lg:=@List.take_of_length_le
abbrev Lh:=@List.getElem?_eq_some_iff
abbrev Li:=@List.mem_map
abbrev Lj:=@List.getD_eq_getElem?_getD
abbrev Lk:=@List.getElem?_eq_getElem
abbrev Ll:=@List.take_succ_eq_append_getElem
abbrev Ln:=@Option.some.inj
abbrev Lp:=@Bool.and_eq_true
abbrev Lq:=@List.mem_append
abbrev Lr:=@Int.toNat_natCast
abbrev Ls:=@List.length_append
abbrev Lt:=@List.drop_eq_nil_of_le
abbrev Lu:=@Bool.eq_iff_iff
abbrev Lv:=@List.take_append_of_le_length
abbrev Lw:=@decide_eq_true_eq
abbrev Lx:=@Array.getD_eq_getD_getElem?
abbrev Ly:=@List.mem_of_getElem?
abbrev Lz:=@List.mem_cons
abbrev TV:=@List.length_replicate
abbrev Wq:=@Int.eq_ofNat_of_zero_le
abbrev Tw:=@Classical.not_not
abbrev fE:=@List.eq_nil_of_length_eq_zero
abbrev QM:=@List.mem_filter
abbrev QN:=@List.nil_append
abbrev TW:=@Bool.not_eq_true'
abbrev Tx:=@List.getElem_mem
abbrev Zp:=@List.getElem?_set_self
abbrev Wv:=@decide_eq_true_iff
abbrev Pj:=@Nat.zero_add
abbrev jI:=@Int.tdiv_eq_ediv_of_nonneg
abbrev Ty:=@List.mem_range
abbrev WB:=@List.append_assoc
abbrev Yv:=@List.mem_filterMap
abbrev ZK:=@List.getElem?_set_ne
abbrev mL:=@Int.tmod_eq_emod_of_nonneg
abbrev WC:=@List.any_eq_true
abbrev WD:=@List.drop_append
abbrev Uq:=@List.drop_zero
abbrev Zq:=@Bool.not_eq_false'
abbrev UO:=@List.drop_drop
abbrev dU:=@BitVec.ofInt_natCast
abbrev dV:=@List.mem_cons_of_mem
abbrev dW:=@BitVec.toNat_ofNat
abbrev dX:=@Bool.false_eq_true
abbrev Up:=@Nat.le_trans
abbrev Ws:=@Bool.true_and
abbrev Wu:=@List.map_cons
abbrev xS:=@Array.getElem?_setIfInBounds_ne
abbrev ZH:=@decide_eq_decide
abbrev mI:=@Nat.mul_le_mul_right
abbrev dR:=@List.all_eq_true
abbrev dS:=@Nat.mod_eq_of_lt
abbrev Pi:=@congrArg
abbrev jG:=@List.filter_append
abbrev jH:=@List.mem_cons_self
abbrev jJ:=@Nat.lt_of_lt_of_le
abbrev dT:=@List.map_append
abbrev jK:=@List.getElem?_map
abbrev fH:=@List.append_nil
abbrev xW:=@List.getElem?_append_left
abbrev mM:=@List.ext_getElem?
abbrev mN:=@List.flatten_cons
abbrev qS:=@List.getElem?_mapIdx
abbrev jL:=@List.length_map
abbrev qT:=@List.drop_succ_cons
abbrev qU:=@List.filter_eq_self
abbrev mO:=@List.length_cons
abbrev xZ:=@decide_eq_false_iff_not
abbrev Ly1:=@Classical.byContradiction
abbrev mP:=@List.nodup_cons
abbrev xB:=@List.map_congr_left
abbrev xP:=@Bool.and_eq_false_iff
abbrev xR:=@List.getElem?_eq_none
abbrev jF:=@Bool.false_or
abbrev Le2:=@List.getElem?_append_right
abbrev fG:=@Nat.sub_self
abbrev Lg2:=@List.length_filter_le
abbrev Lh2:=@List.take_append_drop
abbrev WA:=@if_false
abbrev Lj2:=@List.filter_cons_of_pos
abbrev xF:=@List.length_take
abbrev xG:=@List.take_length
abbrev mK:=@Nat.le_of_eq
abbrev qR:=@Bool.and_false
abbrev xX:=@Nat.or_lt_two_pow
abbrev xY:=@Option.some.injEq
abbrev Ls2:=@Nat.testBit_two_pow
abbrev Lt2:=@List.mem_of_find?_eq_some
abbrev Lu2:=@List.pairwise_iff_getElem
abbrev Lv2:=@List.getElem?_drop
abbrev qJ:=@List.map_map
abbrev yA:=@List.mem_flatMap
abbrev Ly2:=@Nat.xor_lt_two_pow
abbrev Lz2:=@Bool.or_eq_false_iff
abbrev xC:=@Int.mul_nonneg
abbrev Lb3:=@List.mem_append_left
abbrev xE:=@List.take_zero
abbrev Ld3:=@Nat.pow_le_pow_right
abbrev Le3:=@List.filter_cons_of_neg
abbrev Lf3:=@Nat.le_mul_of_pos_right
abbrev Lg3:=@List.any_eq_false
abbrev Lh3:=@List.filter_congr
abbrev Li3:=@List.set_eq_take_append_cons_drop
abbrev qI:=@Nat.mul_one
abbrev Lk3:=@Array.getElem?_eq_some_iff
abbrev mJ:=@Nat.mod_lt
abbrev Lm3:=@List.filter_cons
abbrev Ln3:=@List.isEmpty_iff
abbrev Lp3:=@List.getElem?_take
abbrev Lq3:=@Option.isSome_none
abbrev Lr3:=@UInt8.toNat_ofNat'
abbrev Ls3:=@Bool.or_eq_true
abbrev Lt3:=@Int.mul_le_mul_of_nonneg_right
abbrev Lu3:=@List.Nodup.length_le_of_subset
abbrev Lv3:=@List.all_append
abbrev Lw3:=@List.filterMap_cons_none
abbrev Lx3:=@List.filterMap_cons_some
abbrev Ly3:=@List.mem_of_mem_take
abbrev Lz3:=@Nat.eq_of_testBit_eq
abbrev La4:=@Option.map_some
abbrev xQ:=@Nat.add_assoc
abbrev Lc4:=@Nat.testBit_or
abbrev xT:=@Nat.xor_zero
abbrev Le4:=@Nat.min_eq_left
abbrev Lf4:=@List.map_take
abbrev Lg4:=@Int.emod_eq_of_lt
abbrev Lh4:=@List.flatMap_cons
abbrev Li4:=@List.nodup_append
abbrev Lj4:=@List.getLastD_eq_getLast?
abbrev Lk4:=@List.mem_or_eq_of_mem_set
abbrev xH:=@beq_iff_eq
abbrev xU:=@Int.le_refl
abbrev Ln4:=@Bool.false_and
abbrev Lo4:=@Nat.pow_succ
abbrev Lp4:=@Array.toList_append
abbrev Lq4:=@List.getElem_of_mem
abbrev Lr4:=@List.length_pos_iff
abbrev Ls4:=@List.getElem?_replicate
abbrev Lt4:=@Bool.or_false
abbrev Lu4:=@List.filter_map
abbrev Lv4:=@List.find?_eq_none
abbrev Lw4:=@List.range_succ
abbrev Lx4:=@Nat.testBit_and
abbrev Ly4:=@UInt8.toNat_inj
abbrev yB:=@cond_false
abbrev xD:=@cond_true
abbrev Lb5:=@List.filter_eq_nil_iff
abbrev Lc5:=@List.pairwise_lt_range
abbrev Ld5:=@List.foldl_append
abbrev Le5:=@List.length_range
abbrev Lf5:=@List.mem_append_right
abbrev qH:=@if_true
abbrev Lh5:=@Bool.and_eq_true_iff
abbrev Li5:=@List.not_mem_nil
abbrev Lj5:=@decide_not
abbrev Lk5:=@Bool.and_true
abbrev Ll5:=@Nat.lt_irrefl
abbrev Lm5:=@Nat.xor_assoc
abbrev Ln5:=@Nat.add_mul
abbrev Lo5:=@List.filter_sublist
abbrev Lp5:=@Int.emod_nonneg
abbrev Lq5:=@List.find?_some
abbrev Lr5:=@Int.emod_lt_of_pos
abbrev Ls5:=@List.map_replicate
abbrev Lt5:=@List.map_set
abbrev Lu5:=@Nat.mul_comm
abbrev Lv5:=@List.take_take
abbrev xI:=@Ne.symm
abbrev Lx5:=@List.Pairwise.imp
abbrev Ly5:=@Int.one_mul
abbrev Lz5:=@Nat.zero_le
abbrev La6:=@List.cons.inj
abbrev Lb6:=@List.take_add
abbrev Lc6:=@Prod.mk.injEq
abbrev Ld6:=@List.cons_append
abbrev Le6:=@List.getElem_map
abbrev Lf6:=@List.take_append
abbrev Lg6:=@Nat.sub_zero
abbrev Lh6:=@and_congr_right
abbrev Li6:=@Bool.and_assoc
abbrev Lj6:=@Int.mul_le_mul
abbrev Lk6:=@List.nodup_nil
abbrev Ll6:=@and_congr
abbrev Lm6:=@forall_congr'
abbrev Ln6:=@List.any_map
abbrev Lo6:=@Nat.add_zero
abbrev Lp6:=@Nat.lt_trans
abbrev Lq6:=@Nat.zero_mul
end Go
open Go.Proofs Go.Proofs.YtelhlihjihklbaaGreat
section
namespace Go.Den
open Go
inductive En where
 | lit (v:Value)
 | opq (v:Value)
 | dead
def vl:En->Value | .lit v=>v | .opq v=>v | .dead=>undef
abbrev Cp:=Nat->En
def st(e:Cp)(d:Nat)(v:Value):Cp:=fun t=>bif Nat.beq t d then .lit v else e t
def NH(e:Cp)(d:Option Nat)(v:Value):Cp:=match d with | some d=>st e d v | none=>e
def Xx(t:Nat):List Nat->Bool
 | []=>false
 | d::r=>bif Nat.beq t d then true else Xx t r
def Ap:List Value->Nat->Value
 | [],_=>undef
 | v::_,0=>v
 | _::r,n+1=>Ap r n
def VO(t:Nat):List Nat->Nat
 | []=>0
 | d::r=>bif Nat.beq t d then 0 else VO t r+1
def zY(ds outs:List Nat)(x:List Value)(e:Cp):Cp:=fun t=>bif Xx t outs then .opq (Ap x (VO t outs))else bif Xx t ds then .dead else e t
def vals(outs:List Nat)(e:Cp):List Value:=outs.map fun t=>vl (e t)
def ev(e:Cp):Operand->Value
 | .tmp t=>vl (e t)
 | .const v=>v
 | .global g=>.pointer (some ⟨g,0,none⟩)
 | .func f=>.func (.func f) #[] #[]
structure An where
 S:List Nat
 ty:List (Nat×Nat)
 raw:List Nat
def Ab9(t:Nat):List (Nat×Nat)->Option Nat
 | []=>none
 | (d,y)::r=>bif Nat.beq t d then some y else Ab9 t r
def FT(A:An)(ds:List Nat):List Nat:=A.S.filter fun t=>Xx t ds
inductive Kd where
 | int (k:IntKind) | bool | str | ptr | slc | map | agg | any | addr
def kdD:TypeDesc->Kd
 | .int k=>.int k | .bool=>.bool | .string=>.str | .pointer _=>.ptr | .slice _=>.slc | .map _ _=>.map | .struct _=>.agg | .array _ _=>.agg | _=>.any
def kd(P:Program)(t:TypeId):Kd:=match P.underlying t with | some d=>kdD d | none=>.any
def Ex:Kd->(Value->Prop)->Prop
 | .int k,K=>∃ n:Int,K (.int k n)
 | .bool,K=>∃ b:Bool,K (.bool b)
 | .str,K=>∃ s:ByteArray,K (.string s)
 | .ptr,K=>∃ a:Option Addr,K (.pointer a)
 | .slc,K=>∃(a:Option Addr)(l c:Nat),K (.slice a l c)
 | .map,K=>∃ r:Option Nat,K (.map r)
 | .agg,K=>∃ c:Array Value,K (.agg c)
 | .any,K=>∃ v:Value,K v
 | .addr,K=>∃ a:Addr,K (.pointer (some a))
def ExL:List Kd->(List Value->Prop)->Prop
 | [],K=>K []
 | k::ks,K=>Ex k fun v=>ExL ks fun vs=>K (v::vs)
def qO(P:Program)(t:TypeId)(K:Value->Prop):Prop :=
 match P.underlying t with
 | some (.tuple ts)=>ExL (ts.toList.map (kd P)) fun vs=>K (.tuple ⟨vs⟩)
 | some d=>Ex (kdD d) K
 | none=>Ex .any K
def exY(P:Program)(y:Nat)(K:Value->Prop):Prop:=bif Nat.beq y 1000000 then Ex .addr K else qO P y K
def mH(P:Program)(o:Oper)(K:Value->Prop):Prop :=
 match o.op with
 | .alloc _ | .box _ _ | .indexAddr _ _ _ | .fieldAddr _ _ _ | .sliceToArrayPointer _ _ | .range _ _=>Ex .addr K
 | .next _ _ | .entry _=>Ex .any K
 | _=>qO P o.type K
inductive Cl where
 | val (v:Value)
 | nn (x:Value)
 | pick (c a b:Value)
 | pv (s:Sem Value)
 | rd (s:Sem Value)
 | wr (s:Sem Value)
 | wru (s:Sem Unit)
 | call (f:FuncId) (args:Array Value)
 | dyn (f:Value) (args:Array Value)
 | no
def YP{α β:Type}(f:α->β)(a:Array α):Array β:=⟨a.toList.map f⟩
def mapO{α β:Type}(f:α->β):Option α->Option β | some a=>some (f a) | none=>none
def XI(c:Bool)(a b:Value):Value :=
 match a,b with
 | .bool x,.bool y=>.bool (bif c then x else y)
 | a,b=>bif c then a else b
def Gp(op:BinOp)(t:TypeId)(x y:Operand)(a b:Value):Sem Value:=do eqGuard op t x y a b;binOp op t a b
def rS(P:Program)(op:BinOp)(t:TypeId)(x y:Operand)(a b:Value):Cl :=
 match a,b with
 | .int k m,.int k' n =>
  match op with
  | .shl=>match y with
   | .const _=>bif decide (n<0)then .no else .val (.int k (k.wrap (m*2 ^ (min n.toNat k.bits))))
   | _=>.pv (Gp op t x y a b)
  | .shr=>match y with
   | .const _=>bif decide (n<0)then .no else .val (.int k (m.fdiv (2 ^ (min n.toNat k.bits))))
   | _=>.pv (Gp op t x y a b)
  | _ =>
   if k=k' then
    match op with
    | .add=>.val (.int k (k.wrap (m+n)))
    | .sub=>.val (.int k (k.wrap (m-n)))
    | .mul=>.val (.int k (k.wrap (m*n)))
    | .quo=>match y with
     | .const _=>bif decide (n=0)then .no else .val (.int k (k.wrap (m.tdiv n)))
     | _=>.pv (Gp op t x y a b)
    | .rem=>match y with
     | .const _=>bif decide (n=0)then .no else .val (.int k (m.tmod n))
     | _=>.pv (Gp op t x y a b)
    | .and=>.val (.int k (k.wrap (BitVec.ofInt k.bits m &&& BitVec.ofInt k.bits n).toNat))
    | .or=>.val (.int k (k.wrap (BitVec.ofInt k.bits m ||| BitVec.ofInt k.bits n).toNat))
    | .xor=>.val (.int k (k.wrap (BitVec.ofInt k.bits m ^^^ BitVec.ofInt k.bits n).toNat))
    | .andNot=>.val (.int k (k.wrap (BitVec.ofInt k.bits m &&& ~~~(BitVec.ofInt k.bits n)).toNat))
    | .eql=>.val (.bool (m==n))
    | .neq=>.val (.bool (m != n))
    | .lss=>.val (.bool (decide (m<n)))
    | .leq=>.val (.bool (decide (m<=n)))
    | .gtr=>.val (.bool (decide (m > n)))
    | .geq=>.val (.bool (decide (m >= n)))
    | _=>.no
   else .no
 | .bool p,.bool q =>
  match P.underlying t with
  | some .bool=>match op with
   | .eql=>.val (.bool (p==q))
   | .neq=>.val (.bool (!(p==q)))
   | _=>.no
  | _=>.no
 | .string s,.string u =>
  match op with
  | .eql=>.val (.bool (s.toList==u.toList))
  | .neq=>.val (.bool (!(s.toList==u.toList)))
  | _=>.pv (Gp op t x y a b)
 | .pointer p,.pointer q =>
  match P.underlying t with
  | some (.pointer _)=>match y,op with
   | .const (.pointer none),.eql=>.val (.bool p.isNone)
   | .const (.pointer none),.neq=>.val (.bool (!p.isNone))
   | _,_=>.rd (Gp op t x y (.pointer p) (.pointer q))
  | _=>.no
 | a,b=>.pv (Gp op t x y a b)
def clB(P:Program)(b:Builtin)(argTypes:Array TypeId)(type:TypeId)(args:Array Value):Cl :=
 match b with
 | .len=>match argTypes.toList,args.toList with
  | t::_,[.slice _ n _]=>match P.underlying t with
   | some (.slice _)=>.val (.int .i64 n)
   | _=>.no
  | t::_,[.string s]=>match P.underlying t with
   | some .string=>.val (.int .i64 s.size)
   | _=>.no
  | _,_=>.rd (Builtin.len_ argTypes type args)
 | .cap=>match argTypes.toList,args.toList with
  | t::_,[.slice _ _ n]=>match P.underlying t with
   | some (.slice _)=>.val (.int .i64 n)
   | _=>.no
  | _,_=>.no
 | .max=>match args.toList with
  | [.int k x,.int _ y]=>.val (.int k (if y > x then y else x))
  | _=>.no
 | .min=>match args.toList with
  | [.int k x,.int _ y]=>.val (.int k (if y<x then y else x))
  | _=>.no
 | .append=>.wr (Builtin.append_ argTypes type args)
 | .copy=>.wr (Builtin.copy_ argTypes type args)
 | .clear=>.wr (Builtin.clear_ argTypes type args)
 | .delete=>.wr (Builtin.delete_ argTypes type args)
 | _=>.no
def Vp(P:Program)(s:TypeId)(f:Nat):Option Nat :=
 match P.underlying s with
 | some (.struct fs)=>match fs.toList[f]? with
  | some f=>match P.info? f.type with
   | some i=>bif Nat.beq i.size 0 then none else some f.offset
   | none=>none
  | none=>none
 | _=>none
def wD(P:Program)(t:TypeId):Bool:=match P.underlying t with | some .string=>true | _=>false
def vW(P:Program)(t:TypeId):Bool:=match P.underlying t with | some (.slice _)=>true | _=>false
def Ab8(A:An):Operand->Bool | .tmp t=>Xx t A.raw | _=>false
def cl(P:Program)(A:An)(ρ:Operand->Value)(o:Oper):Cl :=
 match o.op with
 | .move x | .assign x=>.val (ρ x)
 | .pick c a b=>.pick (ρ c) (ρ a) (ρ b)
 | .alloc t=>.wr (Instr.alloc t true (.tuple #[]))
 | .box t x=>.wr (Instr.box t (ρ x))
 | .build t ps=>.pv (Instr.build t (YP (fun p=>(p.1,ρ p.2)) ps))
 | .buildSlice t n ps=>.wr (Instr.buildSlice t n (YP (fun p=>(p.1,ρ p.2)) ps))
 | .load t a=>.rd (Instr.loadAt t (ρ a))
 | .store t a x=>.wru (Instr.storeAt t (ρ a) (ρ x))
 | .nilCheck x=>.nn (ρ x)
 | .binOp op t x y _=>rS P op t x y (ρ x) (ρ y)
 | .unOp op _ x=>match op,ρ x with
  | .not,.bool b=>.val (.bool (!b))
  | .neg,.int k n=>.val (.int k (k.wrap (0-n)))
  | _,_=>.pv (Op.unary op (ρ x))
 | .convert s d x=>match ρ x with
  | .int _ n=>match P.underlying d with
   | some (.int k)=>match P.underlying s with
    | some _=>.val (.int k (k.wrap n))
    | none=>.no
   | _=>.pv (convert s d (ρ x))
  | .string _=>bif wD P d then .pv (convert s d (ρ x))else .wr (convert s d (ρ x))
  | _=>bif vW P d then .wr (convert s d (ρ x))else .rd (convert s d (ρ x))
 | .sliceToArrayPointer t x=>.pv (Instr.arrayAt t (ρ x))
 | .makeInterface t x=>.pv (Instr.makeInterface t (ρ x))
 | .makeFunc fn a b=>.val (.func fn (YP ρ a) (YP ρ b))
 | .makeMap t r=>.wr (Instr.makeMap t (mapO ρ r))
 | .makeSlice t l c=>.wr (Instr.makeSlice t (ρ l) (ρ c))
 | .slice t x l h m=>.pv (Instr.sliceAt t (ρ x) (mapO ρ l) (mapO ρ h) (mapO ρ m))
 | .fieldAddr s x f=>match ρ x,Vp P s f with
  | .pointer (some a),some off=>.val (.pointer (some (a.add off)))
  | v,_=>.rd (Instr.fieldAt s v f)
 | .field t x f=>.pv (Instr.field t (ρ x) f)
 | .indexAddr t x i=>.pv (Instr.indexAt t (ρ x) (ρ i))
 | .index t x i=>.pv (Instr.index t (ρ x) (ρ i))
 | .lookup t x i b=>.rd (Instr.lookup t (ρ x) (ρ i) b)
 | .mapUpdate t m k v=>.wru (Instr.mapUpdate t (ρ m) (ρ k) (ρ v))
 | .insert t m k v=>.wru (Instr.mapUpdate t (ρ m) (ρ k) (ρ v))
 | .mapEntry t m k=>.wr (Instr.mapEntry t (ρ m) (ρ k))
 | .entryStore t m s v=>.wru (Instr.entryStore t (ρ m) (ρ s) (ρ v))
 | .range t x=>.wr (Instr.range t (ρ x))
 | .next it b=>.wr (Instr.next (ρ it) b o.type)
 | .entry it=>.rd (Instr.entry (ρ it))
 | .extract t i=>bif Ab8 A t then .pv (Instr.extract (ρ t) i)else match ρ t with
  | .tuple vs=>match vs.toList[i]? with
   | some v=>.val v
   | none=>.no
  | _=>.no
 | .call c=>match c.callee with
  | .value (.func f)=>.call f (YP ρ c.args)
  | .value g=>.dyn (ρ g) (YP ρ c.args)
  | .builtin b=>clB P b c.argTypes o.type (YP ρ c.args)
  | .invoke _ _=>.no
 | _=>.no
def isW(P:Program)(o:Oper):Bool :=
 match o.op with
 | .alloc _ | .box .. | .buildSlice .. | .store .. | .makeMap .. | .makeSlice .. | .mapUpdate .. | .insert .. | .mapEntry .. | .entryStore .. | .range .. | .next ..=>true
 | .convert s d _=>wD P s || vW P d
 | .call c=>match c.callee with
  | .builtin .len | .builtin .cap | .builtin .max | .builtin .min=>false
  | _=>true
 | _=>false
def AaU(K:Value->World->Prop):Ending->World->Prop:=fun e w=>match e with | .returned v=>K v w | _=>False
def xN (P : Program) (f : FuncId) : Prop := ∃ fn, P.funcs[f]? = some fn ∧ fn.body.isSome = true ∧ (fn.name == "runtime.NumGoroutine") = false
def A8(P:Program)(f:FuncId)(args:Array Value)(w:World)(K:Value->World->Prop):Prop:=xN P f/\Calls P f args w (AaU K)
def Yld(P:Program)(l:Nat)(args:Array Value)(w:World)(K:Value->World->Prop):Prop:=YieldAt Fence.wide 0 P l args w (AaU K)
def AhE(P:Program)(t:Fn)(first args cap:Array Value)(w:World)(K:Value->World->Prop):Prop :=
 match t with
 | .func f=>A8 P f (first++args++cap) w K
 | .yield l=>first=#[]/\cap=#[]/\Yld P l args w K
 | _=>False
def WN(P:Program)(v:Value)(args:Array Value)(w:World)(K:Value->World->Prop):Prop :=
 ∃ f first cap,v=.func f first cap/\AhE P f first args cap w K
def Fw(r:Option Nat):Fence:={ Fence.wide with round:=r }
def As(P:Program)(t:TypeId)(v:Value)(K:Value->Prop):Prop:=qO P t fun u=>v=u/\K u
def Xi(P:Program)(A:An)(o:Oper)(e:Cp)(w:World)(K:Value->World->Prop):Prop :=
 match cl P A (ev e) o with
 | .val v=>K v w
 | .nn x=>∃ a,x=.pointer (some a)/\K (.pointer (some a)) w
 | .pick c a b=>match c with | .bool d=>K (XI d a b) w | _=>False
 | .pv s=>mH P o fun v=>(∀ w',s.run P w'=.ok v w')/\K v w
 | .rd s=>mH P o fun v=>s.run P w=.ok v w/\K v w
 | .wr s=>mH P o fun v=>∃ w',s.run P w=.ok v w'/\K v w'
 | .wru s=>∃ w',s.run P w=.ok () w'/\K undef w'
 | .call f args=>A8 P f args w fun v w'=>As P o.type v fun v=>K v w'
 | .dyn f args=>WN P f args w fun v w'=>As P o.type v fun v=>K v w'
 | .no=>False
def tm:Operand->List Nat | .tmp t=>[t] | _=>[]
def tmO:Option Operand->List Nat | some x=>tm x | none=>[]
def tmL(l:List Operand):List Nat:=l.flatMap tm
def RQ:Op->List Nat
 | .move x | .assign x | .box _ x | .load _ x | .nilCheck x | .unOp _ _ x | .convert _ _ x | .sliceToArrayPointer _ x | .makeInterface _ x | .fieldAddr _ x _ | .field _ x _
 | .range _ x | .next x _ | .entry x | .extract x _=>tm x
 | .pick c a b=>tm c++tm a++tm b
 | .build _ ps | .buildSlice _ _ ps=>tmL (ps.toList.map fun p=>p.2)
 | .store _ a v | .binOp _ _ a v _ | .makeSlice _ a v | .indexAddr _ a v | .index _ a v | .lookup _ a v _ | .mapEntry _ a v=>tm a++tm v
 | .makeFunc _ a b=>tmL a.toList++tmL b.toList
 | .makeMap _ r=>tmO r
 | .slice _ x l h m=>tm x++tmO l++tmO h++tmO m
 | .mapUpdate _ m k v | .entryStore _ m k v | .insert _ m k v=>tm m++tm k++tm v
 | .call c=>(match c.callee with | .value f=>tm f | _=>[])++tmL c.args.toList
 | _=>[]
def HK(P:Program)(A:An):List Nat->Cp->(Cp->Prop)->Prop
 | [],e,K=>K e
 | t::r,e,K=>match e t with
  | .lit _=>HK P A r e K
  | .opq v=>match Ab9 t A.ty with
   | some y=>exY P y fun u=>v=u/\HK P A r (st e t u) K
   | none=>HK P A r (st e t v) K
  | .dead=>False
def isG(ops:List Oper)(j:Nat):Bool:=ops.any fun o=>match o.guard with | some (k,_)=>Nat.beq k j | none=>false
def sM(g:Bool)(v:Value)(K:Value->Prop):Prop :=
 bif g then(match v with | .bool b=>bif b then K (.bool true)else K (.bool false) | _=>False)else K v
def aP(ops:List Oper)(j:Nat):Option Nat:=match ops[j]? with | some o=>o.dst | none=>none
def fJ(ops:List Oper)(e:Cp)(o:Oper):Option Bool :=
 match o.guard with
 | none=>some true
 | some (j,want)=>match aP ops j with
  | some d=>match e d with
   | .lit (.bool b)=>some (b==want)
   | .lit (.tuple _)=>some false
   | _=>none
  | none=>none
def gd(b:Option Bool)(x y:Prop):Prop:=match b with | some true=>x | some false=>y | none=>False
def pP(P:Program)(A:An)(ops:List Oper):List Oper->Nat->(Cp->World->Prop)->Cp->World->Prop
 | [],_,K,e,w=>K e w
 | o::r,i,K,e,w =>
  gd (fJ ops e o) (HK P A (RQ o.op) e fun e=>Xi P A o e w fun v w'=>sM (isG ops i) v fun v=>pP P A ops r (i+1) K (NH e o.dst v) w')
   (pP P A ops r (i+1) K (NH e o.dst undef) w)
def SJ(l:List Nat):Nat:=l.foldl (fun m i=>Nat.lor m (2 ^ i)) 0
def CZ(ops:List Oper):List Nat :=
 ops.foldl (fun acc o=>acc++[o.after.toList.foldl (fun m e=>bif Region.binds .any e then Nat.lor m (Nat.lor (2 ^ e.on) (acc.getD e.on 0))else m) 0]) []
def PZ(P:Program)(ops:List Oper)(r:Nat):Bool:=match ops[r]? with | some o=>!isW P o | none=>false
def OX(dm:List Nat)(todo:List Nat)(r:Nat):Bool:=Nat.beq (Nat.land (dm.getD r 0) (SJ todo)) 0
abbrev Yw:=List (Nat×(World->Prop))
def obl(P:Program)(A:An)(i:Nat)(o:Oper)(e:Cp)(v:Value):Yw :=
 match cl P A (ev e) o with
 | .rd s=>[(i,fun w'=>s.run P w'=.ok v w')]
 | _=>[]
def Rp(dm:List Nat)(i:Nat)(w:World):Yw->Prop->Prop
 | [],K=>K
 | (r,p)::l,K=>bif Nat.testBit (dm.getD i 0) r then Rp dm i w l K else p w/\Rp dm i w l K
def AdD:List Prop->Prop
 | []=>True
 | [p]=>p
 | p::q::l=>p/\AdD (q::l)
def yX(P:Program)(A:An)(o:Oper)(e:Cp)(w:World)(K:Value->Prop):Prop :=
 match cl P A (ev e) o with
 | .val v=>K v
 | .nn x=>∃ a,x=.pointer (some a)/\K (.pointer (some a))
 | .pick c a b=>match c with | .bool d=>K (XI d a b) | _=>False
 | .pv s=>mH P o fun v=>(∀ w',s.run P w'=.ok v w')/\K v
 | .rd s=>mH P o fun v=>s.run P w=.ok v w/\K v
 | _=>False
def nwD(P:Program)(A:An)(ops:List Oper):List Nat->(Cp->Yw->Prop)->Cp->Yw->World->Prop
 | [],K,e,obs,_=>K e obs
 | i::r,K,e,obs,w=>match ops[i]? with
  | none=>False
  | some o =>
   gd (fJ ops e o) (HK P A (RQ o.op) e fun e=>yX P A o e w fun v=>sM (isG ops i) v fun v'=>nwD P A ops r K (NH e o.dst v') (obs++obl P A i o e v) w)
    (nwD P A ops r K (NH e o.dst undef) obs w)
def V6(P:Program)(ops:List Oper)(dm:List Nat)(todo:List Nat):List Nat :=
 (List.range ops.length).filter fun r=>PZ P ops r&&OX dm todo r
def DF(todo:List Nat)(i:Nat):List Nat:=todo.filter fun j=>!Nat.beq j i
def Pp(P:Program)(ops:List Oper)(dm:List Nat)(todo:List Nat)(i:Nat):List Nat :=
 (List.range ops.length).filter fun r=>PZ P ops r&&!OX dm todo r&&OX dm (DF todo i) r
def drD(P:Program)(A:An)(ops:List Oper)(dm:List Nat):Nat->List Nat->(Cp->World->Prop)->Cp->Yw->World->Prop
 | 0,_,K,e,_,w=>K e w
 | n+1,todo,K,e,obs,w =>
  AdD ((todo.filter (OX dm todo)).map fun i=>match ops[i]? with
   | none=>False
   | some o =>
    gd (fJ ops e o)
     (HK P A (RQ o.op) e fun e=>Xi P A o e w fun v w'=>sM (isG ops i) v fun v' =>
      Rp dm i w' obs (nwD P A ops (Pp P ops dm todo i) (fun e'' obs''=>drD P A ops dm n (DF todo i) K e'' obs'' w') (NH e o.dst v') obs w'))
     (nwD P A ops (Pp P ops dm todo i) (fun e'' obs''=>drD P A ops dm n (DF todo i) K e'' obs'' w) (NH e o.dst undef) obs w))
def Ah(w:World):World:={ w with drawn:=w.drawn+1 }
def qD(P:Program)(ops:List Oper):List Nat:=(List.range ops.length).filter fun r=>!PZ P ops r
def jZ(P:Program)(A:An)(ops:List Oper)(K:Cp->World->Prop)(e:Cp)(w:World):Prop :=
 nwD P A ops (V6 P ops (CZ ops) (qD P ops)) (fun e' obs=>drD P A ops (CZ ops) (qD P ops).length (qD P ops) K e' obs w) e [] w
def Ac(B:(List Value->World->Prop)->Prop)(C:List Value->World->Prop):Prop:=∃ J:List Value->World->Prop,(∀ x w,J x w->C x w)/\B J
def A6(B:(List Value->World->Prop)->List Value->World->Prop)(x:List Value)(w:World):Prop :=
 ∃(I:List Value->World->Prop)(μ:List Value->World->Nat),I x w/\∀ x w,I x w->B (fun x' w'=>I x' w'/\μ x' w'<μ x w) x w
def JU:List Oper->List Nat
 | []=>[]
 | o::r=>match o.dst with | some d=>d::JU r | none=>JU r
def Cy:Code->List Nat
 | .region _ ops _=>JU ops.toList
 | .seq a b=>Cy a++Cy b
 | .cond _ a b=>Cy a++Cy b
 | .block _ c=>Cy c
 | .loop c=>Cy c
 | .scope c=>Cy c
 | _=>[]
def Pn(id:Nat):Code->Nat
 | .exit i=>bif Nat.beq i id then 1 else 0
 | .seq a b=>Pn id a+Pn id b
 | .cond _ a b=>Pn id a+Pn id b
 | .block _ c=>Pn id c
 | .loop c=>Pn id c
 | .scope c=>Pn id c
 | _=>0
def F5:Code->Bool
 | .skip | .region .. | .label _=>true
 | .seq a b=>F5 a&&F5 b
 | .cond _ a b=>F5 a || F5 b
 | .block id c=>F5 c || !Nat.beq (Pn id c) 0
 | .scope c=>F5 c
 | _=>false
def kJ(ops:List Oper):Bool:=ops.any fun o=>o.guard.isSome
def AaT(P:Program)(A:An)(ops:List Oper)(draw:Bool)(K:Cp->World->Prop)(e:Cp)(w:World):Prop :=
 bif draw then jZ P A ops K e (Ah w)else pP P A ops ops 0 K e w
def ZO(outs:List Nat)(e:Cp):Bool:=outs.all fun t=>match e t with | .dead=>false | _=>true
def VC(A:An)(ds:List Nat)(k:List Value->World->Prop)(e:Cp)(w:World):Prop :=
 bif ZO (FT A ds) e then k (vals (FT A ds) e) w else False
def Zg(A:An)(ds:List Nat)(e:Cp)(B:(Cp->World->Prop)->Prop)(K:Cp->World->Prop):Prop :=
 Ac (fun k=>B (VC A ds k)) (fun x w=>K (zY ds (FT A ds) x e) w)
def S3(P:Program)(A:An):Code->(Cp->World->Prop)->(Nat->Cp->World->Prop)->(Cp->World->Prop)->Cp->World->Prop
 | .skip,K,_,_,e,w=>K e w
 | .label _,K,_,_,e,w=>K e w
 | .region _ ops draw,K,_,_,e,w =>
  bif kJ ops.toList then Zg A (JU ops.toList) e (fun k=>AaT P A ops.toList draw k e w) K else AaT P A ops.toList draw K e w
 | .seq a b,K,X,R,e,w=>S3 P A a (fun e w=>S3 P A b K X R e w) X R e w
 | .cond c a b,K,X,R,e,w=>HK P A (tm c) e fun e=>match ev e c with
  | .bool t =>
   bif F5 a&&F5 b then
    Zg A (Cy a++Cy b) e (fun k=>bif t then S3 P A a k X R e w else S3 P A b k X R e w) K
   else bif t then S3 P A a K X R e w else S3 P A b K X R e w
  | _=>False
 | .block id c,K,X,R,e,w =>
  bif Nat.ble 2 ((bif F5 c then 1 else 0)+Pn id c)then
   Zg A (Cy c) e (fun k=>S3 P A c k (fun i e w=>bif Nat.beq i id then k e w else X i e w) R e w) K
  else S3 P A c K (fun i e w=>bif Nat.beq i id then K e w else X i e w) R e w
 | .loop c,_,X,R,e,w =>
  VC A (Cy c) (A6 (fun k x w=>S3 P A c (VC A (Cy c) k) X R (zY (Cy c) (FT A (Cy c)) x e) w)) e w
 | .scope c,K,X,R,e,w=>S3 P A c K X R e w
 | .exit i,_,X,_,e,w=>X i e w
 | .ret,_,_,R,e,w=>R e w
 | _,_,_,_,_,_=>False
def Ze(P:Program)(A:An)(w:World):List ResultVar->Cp->(List Value->Prop)->Prop
 | [],_,K=>K []
 | .tmp t::r,e,K=>HK P A [t] e fun e=>Ze P A w r e fun vs=>K (vl (e t)::vs)
 | .cell a t::r,e,K=>HK P A [a] e fun e=>qO P t fun v=>(Instr.loadAt t (vl (e a))).run P w=.ok v w/\Ze P A w r e fun vs=>K (v::vs)
def YV:List Value->Value
 | [v]=>v
 | vs=>.tuple ⟨vs⟩
def yK(args:List Value):Cp:=fun t=>match args[t]? with | some v=>.lit v | none=>.lit undef
def AdE(P:Program)(A:An)(fn:Func)(args:List Value)(w:World)(K:Value->World->Prop):Prop :=
 match fn.body with
 | some c =>
  let R:Cp->World->Prop:=fun e w=>Ze P A w fn.results.toList e fun vs=>K (YV vs) w
  S3 P A c R (fun _ _ _=>False) R (yK args) w
 | none=>False
open Go
theorem zU{α β:Type}(f:α->β)(a:Array α):YP f a=a.map f:=by
 cases a;simp[YP]
theorem zV{α β:Type}(f:α->β)(a:Option α):mapO f a=a.map f:=by cases a<;>rfl
def Cl.Ok(P:Program)(o:Oper)(ρ:Operand->Value):Cl->Prop
 | .val v=>∀ w,(execOp ρ o).run P w=.ok (.value v) w
 | .nn x=>∀ a,x=.pointer (some a)->∀ w,(execOp ρ o).run P w=.ok (.value (.pointer (some a))) w
 | .pick c a b=>∀ d,c=.bool d->∀ w,(execOp ρ o).run P w=.ok (.value (XI d a b)) w
 | .pv s | .rd s | .wr s=>∀ w,(execOp ρ o).run P w=(s.run P w).andThen fun v w'=>.ok (.value v) w'
 | .wru s=>∀ w,(execOp ρ o).run P w=(s.run P w).andThen fun _ w'=>.ok .skip w'
 | .call f args=>xN P f->∀ w,(execOp ρ o).run P w=.ok (.enter f args) w
 | .dyn x args=>(∀ f first cap,x=.func (.func f) first cap->xN P f->∀ w,(execOp ρ o).run P w=.ok (.enter f (first++args++cap)) w) /\
   ∀ l,x=.func (.yield l) #[] #[]->∀ w,(execOp ρ o).run P w=(Instr.yield l args).run P w
 | .no=>True
theorem uS(d:Bool)(a b:Value):XI d a b=if d=true then a else b:=by
 unfold XI;split
 ·cases d<;>rfl
 ·cases d<;>rfl
theorem AI{P:Program}{t:TypeId}{d:TypeDesc}(h:P.underlying t=some d)(w:World):(underlying t).run P w=.ok d w:=by
 simp[underlying,h]
def OkS(P:Program)(s:Sem Value):Cl->Prop
 | .val v=>∀ w,s.run P w=.ok v w
 | .pv s' | .rd s' | .wr s'=>∀ w,s.run P w=s'.run P w
 | .no=>True
 | _=>False
theorem Cl.ok_of_s{P:Program}{o:Oper}{ρ:Operand->Value}{s:Sem Value}{c:Cl}(h:OkS P s c)
  (he:execOp ρ o=(s >>= fun v=>pure (.value v))):c.Ok P o ρ:=by
 cases c<;>simp only[OkS]at h<;>simp only[Cl.Ok]
 case val v=>intro w;rw[he];simp[h w]
 case pv s'=>intro w;rw[he];simp[h w]
 case rd s'=>intro w;rw[he];simp[h w]
 case wr s'=>intro w;rw[he];simp[h w]
theorem DE{P:Program}{op:BinOp}{t:TypeId}{x y:Operand}{a b:Value}(hg:∀ w,(eqGuard op t x y a b).run P w=.ok () w)(w:World) :
  (Gp op t x y a b).run P w=(binOp op t a b).run P w:=by
 simp[Gp,hg w]
theorem Gg{P:Program}(op:BinOp)(t:TypeId)(x y:Operand)(k k':IntKind)(m n:Int)(w:World) :
  (eqGuard op t x y (.int k m) (.int k' n)).run P w=.ok () w:=by
 simp only[eqGuard];cases op<;>simp
theorem gI{P:Program}(op:BinOp)(t:TypeId)(x y:Operand)(m n:Bool)(w:World) :
  (eqGuard op t x y (.bool m) (.bool n)).run P w=.ok () w:=by
 simp only[eqGuard];cases op<;>simp
theorem oG{P:Program}(op:BinOp)(t:TypeId)(x y:Operand)(m n:ByteArray)(w:World) :
  (eqGuard op t x y (.string m) (.string n)).run P w=.ok () w:=by
 simp only[eqGuard];cases op<;>simp
theorem oF{P:Program}(op:BinOp)(t:TypeId)(x y:Operand)(m n:Option Addr)(w:World) :
  (eqGuard op t x y (.pointer m) (.pointer n)).run P w=.ok () w:=by
 simp only[eqGuard];cases op<;>simp
theorem ND{P:Program}{t:TypeId}(h:P.underlying t=some .bool)(p q:Bool)(w:World) :
  (Op.equal t (.bool p) (.bool q)).run P w=.ok (p==q) w:=by
 have key:∀ d,(Op.equalIn (d+1) t (.bool p) (.bool q)).run P w=.ok (p==q) w:=fun d=>by
  simp only[Op.equalIn,Sem.run_bind,AI h,Result.andThen_ok,Sem.run_pure]
 exact key 9999
theorem Pr{P:Program}{t:TypeId}{e:TypeId}(h:P.underlying t=some (.pointer e))(p:Option Addr)(w:World) :
  (Op.equal t (.pointer p) (.pointer none)).run P w=.ok p.isNone w:=by
 have key:∀ d,(Op.equalIn (d+1) t (.pointer p) (.pointer none)).run P w=.ok p.isNone w:=fun d=>by
  cases p<;>simp[Op.equalIn,Sem.run_bind,AI h,Result.andThen_ok,Sem.run_pure]
 exact key 9999
theorem rT{P : Program}{op : BinOp}{t : TypeId}{x y : Operand}{a b : Value}(hc : ∀ c, y = .const c → b = c) :
    OkS P (Gp op t x y a b) (rS P op t x y a b) := by
  unfold rS;split
  · rename_i k m k' n
    have hg := fun w => DE (P := P) (op := op) (t := t) (fun w => Gg op t x y k k' m n w) w;split
    · split
      · cases h : decide (n < 0)
        · simp only[yB, OkS];intro w;rw[hg];have : ¬ n < 0 := by simpa using h
          simp[binOp, Op.shift, this]
        · trivial
      · intro w;rfl
    · split
      · cases h : decide (n < 0)
        · simp only[yB, OkS];intro w;rw[hg];have : ¬ n < 0 := by simpa using h
          simp[binOp, Op.shift, this]
        · trivial
      · intro w;rfl
    · rename_i h1 h2
      split
      · rename_i hk
        subst hk;split
        all_goals first
          | (intro w;rw[hg];simp[binOp, Op.intArith, Op.intBits, Op.intCmp];done)
          | (split
             · first
               | (cases h : decide (n = 0)
                  · simp only[yB, OkS];intro w;rw[hg];have : ¬ n = 0 := by simpa using h
                    simp[binOp, Op.intDiv, this]
                  · trivial)
             · intro w;rfl)
          | trivial
      · trivial
  · rename_i p q
    have hg := fun w => DE (P := P) (op := op) (t := t) (fun w => gI op t x y p q w) w;split
    · rename_i hu
      split
      · intro w;rw[hg];simp only[binOp, Sem.run_bind, ND hu, Result.andThen_ok, Sem.run_pure]
      · intro w;rw[hg];simp only[binOp, Sem.run_bind, ND hu, Result.andThen_ok, Sem.run_pure]
      · trivial
    · trivial
  · rename_i p q
    have hg := fun w => DE (P := P) (op := op) (t := t) (fun w => oG op t x y p q w) w;split
    · intro w;rw[hg];simp[binOp, Op.stringOp]
    · intro w;rw[hg];simp[binOp, Op.stringOp]
    · intro w;rfl
  · rename_i p q
    have hg := fun w => DE (P := P) (op := op) (t := t) (fun w => oF op t x y p q w) w;split
    · rename_i e hu
      split
      · have := hc _ rfl
        cases this;intro w;rw[hg];simp only[binOp, Sem.run_bind, Pr hu, Result.andThen_ok, Sem.run_pure]
      · have := hc _ rfl
        cases this;intro w;rw[hg];simp only[binOp, Sem.run_bind, Pr hu, Result.andThen_ok, Sem.run_pure]
      · intro w;rfl
    · trivial
  · intro w;rfl
open Go
theorem Mj{P : Program}{f : FuncId}(h : xN P f)(args : Array Value)(w : World) : (callFunc f args).run P w = .ok (.enter f args) w := by
  obtain⟨fn, hf, hb, hn⟩ := h;have hb' : fn.body ≠ none := by intro e;simp[e]at hb
  have hn' : ¬ fn.name = "runtime.NumGoroutine" := by simpa using hn
  simp[callFunc, hf, hn', hb']
theorem aS{P:Program}{s:TypeId}{f off:Nat}(h:Vp P s f=some off)(a:Addr)(w:World) :
  (Instr.fieldAt s (.pointer (some a)) f).run P w=.ok (.pointer (some (a.add off))) w:=by
 unfold Vp at h
 split at h
 ·rename_i fs hu
  split at h
  ·rename_i fd hfd
   split at h
   ·rename_i i hi;cases hz:Nat.beq i.size 0 with
    | true=>simp[hz]at h
    | false =>
     have hz':i.size≠0:=by intro e;simp[e]at hz
     simp only[hz,yB,xY]at h;have hfd':fs[f]?=some fd:=by simpa using hfd
     simp[Instr.fieldAt,AI hu,hfd',Instr.sureAddr,fieldPlace,sizeOf,typeInfo,hi,hz',h]
   ·simp at h
  ·simp at h
 ·simp at h
theorem aJ{P:Program}{s d:TypeId}{k k':IntKind}{sd:TypeDesc}(hd:P.underlying d=some (.int k))(hs:P.underlying s=some sd)(n:Int)(w:World) :
  (convert s d (.int k' n)).run P w=.ok (.int k (k.wrap n)) w:=by
 simp only[convert,Sem.run_bind,AI hd,AI hs,Result.andThen_ok];simp[Conv.intToInt]
theorem cT{P:Program}{o:Oper}{ρ:Operand->Value}{b:Builtin}{c:Call}(ho:o.op=.call c)(hb:c.callee=.builtin b)(w:World) :
  ∃ cs,(execOp ρ o).run P w=(builtin b c.argTypes o.type cs (c.args.map ρ)).run P w:=by
 simp only[execOp,ho,resolve,hb,Sem.run_bind,Sem.run_pure,Result.andThen_ok,invoke];exact⟨_,rfl⟩
theorem AdC{P:Program}{o:Oper}{ρ:Operand->Value}{b:Builtin}{c:Call}(ho:o.op=.call c)(hb:c.callee=.builtin b) :
  (clB P b c.argTypes o.type (c.args.map ρ)).Ok P o ρ:=by
 have he:∀ w,∃ cs,(execOp ρ o).run P w=(builtin b c.argTypes o.type cs (c.args.map ρ)).run P w:=fun w=>cT ho hb w;generalize hA:c.args.map ρ=A at *;have hl:A=A.toList.toArray:=by simp
 have ht:c.argTypes=c.argTypes.toList.toArray:=by simp
 generalize c.argTypes=T at *;unfold clB;split
 ·-- len
  split
  ·rename_i t _ x n y hT heq;rw[heq]at hl;rw[hT]at ht;split
   ·rename_i e hu;intro w;obtain⟨cs,h⟩:=he w;rw[h];simp[builtin,Builtin.len_,hl,ht,AI hu,goInt]
   ·trivial
  ·rename_i t _ s hT heq;rw[heq]at hl;rw[hT]at ht;split
   ·rename_i hu;intro w;obtain⟨cs,h⟩:=he w;rw[h];simp[builtin,Builtin.len_,hl,ht,AI hu,goInt]
   ·trivial
  ·intro w;obtain⟨cs,h⟩:=he w;rw[h];simp[builtin]
 ·split
  ·rename_i t _ x n y hT heq;rw[heq]at hl;rw[hT]at ht;split
   ·rename_i e hu;intro w;obtain⟨cs,h⟩:=he w;rw[h];simp[builtin,Builtin.cap_,hl,ht,AI hu,goInt]
   ·trivial
  ·trivial
 ·split
  ·rename_i k x k' y heq;rw[heq]at hl;intro w;obtain⟨cs,h⟩:=he w;rw[h];simp[builtin,Builtin.max_,hl,Builtin.max2]
  ·trivial
 ·split
  ·rename_i k x k' y heq;rw[heq]at hl;intro w;obtain⟨cs,h⟩:=he w;rw[h];simp[builtin,Builtin.min_,hl,Builtin.min2]
  ·trivial
 ·intro w;obtain⟨cs,h⟩:=he w;rw[h];simp[builtin]
 ·intro w;obtain⟨cs,h⟩:=he w;rw[h];simp[builtin]
 ·intro w;obtain⟨cs,h⟩:=he w;rw[h];simp[builtin]
 ·intro w;obtain⟨cs,h⟩:=he w;rw[h];simp[builtin]
 ·trivial
theorem Ab3{P:Program}{A:An}{o:Oper}{e:Cp}:(cl P A (ev e) o).Ok P o (ev e):=by
 have hconst:∀ c,ev e (.const c)=c:=fun _=>rfl;have hfun:∀ f,ev e (.func f)=.func (.func f) #[] #[]:=fun _=>rfl;generalize ev e=ρ at *;generalize ho:o.op=op;unfold cl;rw[ho];cases op<;>simp only[zU,zV]
 case move x=>intro w;simp[execOp,ho]
 case assign x=>intro w;simp[execOp,ho]
 case pick c a b=>intro d hd w;simp[execOp,ho,hd,asBool,uS]
 case alloc t=>intro w;simp[execOp,ho]
 case box t x=>intro w;simp[execOp,ho]
 case build t ps=>intro w;simp[execOp,ho]
 case buildSlice t n ps=>intro w;simp[execOp,ho]
 case insert t m k v=>intro w;simp[execOp,ho]
 case load t a=>intro w;simp[execOp,ho]
 case store t a x=>intro w;simp[execOp,ho]
 case ready=>trivial
 case waits=>trivial
 case nilCheck x=>intro a ha w;simp[execOp,ho,ha]
 case binOp op t x y yt =>
  refine Cl.ok_of_s (rT (x:=x) (y:=y) (fun c hc=>by subst hc;exact hconst _)) ?_;simp[execOp,ho,Gp]
 case unOp op t x =>
  split
  ·rename_i b hx;intro w;simp[execOp,ho,hx,Op.unary]
  ·rename_i k n hx;intro w;simp[execOp,ho,hx,Op.unary,Op.intArith]
  ·intro w;simp[execOp,ho]
 case convert s d x =>
  split
  ·rename_i k n hx;split
   ·rename_i k' hd;split
    ·rename_i sd hs;intro w;simp[execOp,ho,hx,aJ hd hs]
    ·trivial
   ·intro w;simp[execOp,ho,hx]
  ·rename_i s hx;cases wD P d<;>(intro w;simp[execOp,ho,hx])
  ·cases vW P d<;>(intro w;simp[execOp,ho])
 case sliceToArrayPointer t x=>intro w;simp[execOp,ho]
 case makeInterface t x=>intro w;simp[execOp,ho]
 case makeFunc fn a b=>intro w;simp[execOp,ho,Instr.makeFunc]
 case makeMap t r=>intro w;simp[execOp,ho]
 case makeChan=>trivial
 case makeSlice t l c=>intro w;simp[execOp,ho]
 case slice t x l h m=>intro w;simp[execOp,ho]
 case fieldAddr s x f =>
  split
  ·rename_i a off hx hf;intro w;simp[execOp,ho,hx,aS hf]
  ·intro w;simp[execOp,ho]
 case field t x f=>intro w;simp[execOp,ho]
 case indexAddr t x i=>intro w;simp[execOp,ho]
 case index t x i=>intro w;simp[execOp,ho]
 case lookup t x i b=>intro w;simp[execOp,ho]
 case mapUpdate t m k v=>intro w;simp[execOp,ho]
 case mapEntry t m k=>intro w;simp[execOp,ho]
 case entryStore t m s v=>intro w;simp[execOp,ho]
 case range t x=>intro w;simp[execOp,ho]
 case next it b=>intro w;simp[execOp,ho]
 case entry it=>intro w;simp[execOp,ho]
 case typeAssert=>trivial
 case extract t i =>
  cases Ab8 A t
  ·simp only[yB];split
   ·rename_i vs ht;split
    ·rename_i v hv;intro w;have:vs[i]?=some v:=by simpa using hv
     simp[execOp,ho,ht,Instr.extract,this]
    ·trivial
   ·trivial
  ·intro w;simp[execOp,ho]
 case call c =>
  split
  ·rename_i f hc;intro hg w;simp[execOp,ho,resolve,hc,hfun,Deferred.ofValue,invoke,Mj hg]
  ·rename_i g hng hc;refine⟨?_,?_⟩
   ·intro f first cap hv hg w;simp[execOp,ho,resolve,hc,hv,Deferred.ofValue,invoke,Mj hg]
   ·intro l hv w;simp[execOp,ho,resolve,hc,hv,Deferred.ofValue,invoke]
  ·rename_i b hc;exact AdC ho hc
  ·trivial
 case go=>trivial
 case defer=>trivial
 case panic=>trivial
 case send=>trivial
 case recv=>trivial
 case select=>trivial
open Go
theorem Ex.elim{k:Kd}{K:Value->Prop}(h:Ex k K):∃ v,K v:=by
 cases k<;>simp only[Ex]at h
 case slc=>obtain⟨a,l,c,h⟩:=h;exact⟨_,h⟩
 all_goals (obtain⟨a,h⟩:=h;exact⟨_,h⟩)
theorem ExL.elim:∀{ks:List Kd}{K:List Value->Prop},ExL ks K->∃ v,K v
 | [],_,h=>⟨_,h⟩
 | k::ks,K,h=>by
  obtain⟨v,h⟩:=Ex.elim h;obtain⟨vs,h⟩:=ExL.elim h;exact⟨_,h⟩
theorem qO.elim{P:Program}{t:TypeId}{K:Value->Prop}(h:qO P t K):∃ v,K v:=by
 unfold qO at h
 split at h
 ·obtain⟨vs,h⟩:=ExL.elim h;exact⟨_,h⟩
 ·exact Ex.elim h
 ·exact Ex.elim h
theorem exY.elim{P:Program}{t:TypeId}{K:Value->Prop}(h:exY P t K):∃ v,K v:=by
 unfold exY at h;cases hb:Nat.beq t 1000000<;>rw[hb]at h
 ·exact qO.elim h
 ·exact Ex.elim (k:=.addr) h
theorem mH.elim{P:Program}{o:Oper}{K:Value->Prop}(h:mH P o K):∃ v,K v:=by
 unfold mH at h
 split at h<;>first | exact Ex.elim h | exact qO.elim h
theorem As.elim{P:Program}{t:TypeId}{v:Value}{K:Value->Prop}(h:As P t v K):K v:=by
 obtain⟨u,rfl,h⟩:=qO.elim h;exact h
def En.live:En->Bool | .dead=>false | _=>true
def Kp(D:List Deferred)(e:Cp)(a:Act):Prop:=a.defers=D/\∀ t,(e t).live=true->a.tmps.getD t undef=vl (e t)
theorem AL{a b:Nat}(h:Nat.beq a b=true):a=b:=Nat.eq_of_beq_eq_true h
theorem EX{a b:Nat}(h:Nat.beq a b=false):a≠b:=Nat.ne_of_beq_eq_false h
theorem ZT(a:Nat):Nat.beq a a=true:=by simp
theorem DU{D:List Deferred}{P:Program}{A:An}{a:Act}:∀{ts:List Nat}{e:Cp}{K:Cp->Prop},Kp D e a->HK P A ts e K ->
  ∃ e',Kp D e' a/\(∀ t,(e' t).live=(e t).live)/\(∀ t,(e t).live=true->vl (e' t)=vl (e t))/\(∀ t∈ts,(e' t).live=true)/\K e'
 | [],e,K,hA,h=>⟨e,hA,fun _=>rfl,fun _ _=>rfl,fun _ h=>by simp at h,h⟩
 | t::r,e,K,hA,h=>by
  unfold HK at h
  split at h
  ·rename_i v hv;obtain⟨e',h1,h2,h3,h4,h5⟩:=DU hA h;refine⟨e',h1,h2,h3,?_,h5⟩;intro u hu;rcases Lz.1 hu with rfl | hu
   ·rw[h2,hv];rfl
   ·exact h4 u hu
  ·rename_i v hv;have step:∀ u,v=u->HK P A r (st e t u) K->∃ e',Kp D e' a/\(∀ t,(e' t).live=(e t).live)/\(∀ t,(e t).live=true->vl (e' t)=vl (e t))/\(∀ s∈t::r,(e' s).live=true)/\K e':=by
    intro u hu hf;have hst:∀ s,(st e t u s).live=(e s).live/\((e s).live=true->vl (st e t u s)=vl (e s)):=by
     intro s;unfold st;cases hb:Nat.beq s t
     ·exact⟨rfl,fun _=>rfl⟩
     ·have:=AL hb;subst this
      simp only[xD,hv,hu];exact⟨rfl,fun _=>rfl⟩
    have hA':Kp D (st e t u) a:=⟨hA.1,fun s hs=>by rw[(hst s).2 ((hst s).1 ▸ hs)];exact hA.2 s ((hst s).1 ▸ hs)⟩;obtain⟨e',h1,h2,h3,h4,h5⟩:=DU hA' hf;refine⟨e',h1,fun s=>(h2 s).trans (hst s).1,fun s hs=>(h3 s ((hst s).1.trans hs)).trans ((hst s).2 hs),?_,h5⟩;intro s hs;rcases Lz.1 hs with rfl | hs
    ·rw[h2,(hst s).1,hv];rfl
    ·exact h4 s hs
   split at h
   ·obtain⟨u,hu,h⟩:=exY.elim h;exact step u hu h
   ·exact step v rfl h
  ·exact h.elim
theorem Kp.put{D:List Deferred}{e:Cp}{a:Act}{d:Option Nat}{v:Value}(h:Kp D e a)(hd:∀ x,d=some x->x<a.tmps.size):Kp D (NH e d v) (a.put d v):=by
 cases d with
 | none=>exact h
 | some d =>
  have hd:=hd d rfl;refine⟨h.1,fun t ht=>?_⟩;simp only[NH,st,Act.put]at *;cases hb:Nat.beq t d
  ·have hne:=EX hb;rw[hb]at ht;simp only[yB]at ht |-;rw[<- h.2 t ht];simp only[Lx];rw[xS (fun e=>hne e.symm)]
  ·have:=AL hb;subst this
   simp only[xD,vl];simp[Lx,hd]
theorem NB(a:Act)(d:Option Nat)(v:Value):(a.put d v).tmps.size=a.tmps.size:=by
 cases d<;>simp[Act.put]
theorem YF{D:List Deferred}{e:Cp}{a:Act}(h:Kp D e a){x:Operand}(hx:∀ t,x=.tmp t->(e t).live=true):a.eval x=ev e x:=by
 cases x with
 | tmp t=>exact h.2 t (hx t rfl)
 | _=>rfl
theorem Ib{t:Nat}{x:Operand}:t∈tm x↔.tmp t=x:=by
 cases x<;>simp[tm]
theorem kW{t:Nat}{x:Option Operand}:t∈tmO x↔some (.tmp t)=x:=by
 cases x with
 | none=>simp[tmO]
 | some x=>simp[tmO,Ib]
theorem kV{t:Nat}{l:List Operand}:t∈tmL l↔.tmp t∈l:=by
 simp[tmL,Ib]
def iV:Op->Bool
 | .makeChan .. | .typeAssert .. | .go _ | .defer _ | .panic _ | .send .. | .recv .. | .select .. | .ready _ | .waits _=>false
 | .call c=>(match c.callee with | .invoke ..=>false | _=>true)
 | _=>true
theorem rU{P:Program}{A:An}{ρ:Operand->Value}{o:Oper}(h:iV o.op=false):cl P A ρ o=.no:=by
 unfold iV at h;unfold cl
 split at h<;>simp_all
 split at h<;>simp_all
theorem XD{op:Op}{t:Nat}(hs:iV op=true)(h:Operand.tmp t∈op.operands.toList):t∈RQ op:=by
 cases op<;>simp only[Op.operands]at h<;>simp only[RQ]<;>try (simp only[Lq,Ib,kW,kV];clear hs;simp at h;simp[h];done)
 case pick=>simp only[Lq,Ib];simpa [or_assoc] using h
 case alloc=>simp at h
 case slice t x l hh m=>cases l<;>cases hh<;>cases m<;>simp_all [kW,Ib]
 case mapUpdate=>simpa [Ib,or_assoc] using h
 case insert=>simpa [Ib,or_assoc] using h
 case entryStore=>simpa [Ib,or_assoc] using h
 case call c =>
  simp only[Call.operands]at h;simp only[Lq,kV];cases hc:c.callee with
  | value f=>simp[hc]at h;simp[Ib,h]
  | builtin b=>simp[hc]at h;simp[h]
  | invoke r m=>simp[iV,hc]at hs
 all_goals (simp[iV]at hs)
open Go
variable{P:Program}{A:An}
theorem sF{D:List Deferred}{o:Oper}{e:Cp}{a:Act}(hA:Kp D e a)(hs:iV o.op=true)(hl:∀ t∈RQ o.op,(e t).live=true):execOp a.eval o=execOp (ev e) o:=by
 refine execOp_congr o ?_ fun x hx=>YF hA fun t ht=>hl t (XD hs (ht ▸ by simpa using hx));intro cs b hc;simp[hc,iV]at hs
theorem S4{o:Oper}{e:Cp}{w:World}{K:Value->World->Prop}(h:Xi P A o e w K):iV o.op=true:=by
 cases hh:iV o.op
 ·unfold Xi at h;rw[rU hh]at h;exact h.elim
 ·rfl
theorem pO{r:Option Nat}{ρ:Operand->Value}{o:Oper}(h:iV o.op=true):o.semAt r ρ=execOp ρ o :=
 Oper.semAt_eq r ρ o fun c hc=>by rw[hc]at h;cases h
theorem YG{ρ:Operand->Value}{o:Oper}{v:Value}{w w':World}(h:(execOp ρ o).run P w=.ok (.value v) w'):∀ c,o.op≠.defer c:=fun c hc=>by
 simp only[execOp,hc,Sem.run_bind]at h;cases hr:(resolve ρ c o.type).run P w with
 | ok d w2=>rw[hr]at h;simp at h
 | halt x w2=>rw[hr]at h;simp at h
theorem PU{r:Option Nat}{n:Nat}{f:FuncId}{args:Array Value}{w:World}{R:Ending->World->Prop}(h:Calls P f args w R):CallsIn (Fw r) n P f args w R:=callsIn_wide.2 h
theorem iH{r:Option Nat}{n m l:Nat}{f:FuncId}{tmps:Array Value}{a b:Code}{w:World}{R:Ending->World->Prop}(h:RoundIn Fence.wide m P l f tmps a b w R):RoundIn (Fw r) n P l f tmps a b w R :=
 ⟨trivial,fun c cs _=>h.2 c cs (room_wide _)⟩
theorem QX{r:Option Nat}{n:Nat}:(Fw r).depth.isSome=true->1<=n:=fun h=>by cases h
theorem T4{r:Option Nat}{n:Nat}{o:Oper}{e:Cp}{a:Act}{w:World}{K:Value->World->Prop}{next:Act->World->Prop}{Q:Exit->Act->World->Prop}
  (h:Xi P A o e w K) (he:execOp a.eval o=execOp (ev e) o) (hk:∀ v w',K v w'->next (a.put o.dst v) w'):o.wpIn (Fw r) n P a w next Q:=by
 have hc:=Ab3 (P:=P) (A:=A) (o:=o) (e:=e);have hsup:=S4 h;unfold Oper.wpIn;refine⟨fun _ _=>trivial,?_⟩;rw[pO hsup,he];unfold Xi at h;cases hcl:cl P A (ev e) o<;>rw[hcl]at h hc<;>simp only[Cl.Ok]at hc<;>simp only at h
 case val v=>rw[hc w];exact hk _ _ h
 case nn x=>obtain⟨q,ha,h⟩:=h;rw[hc q ha w];exact hk _ _ h
 case pick c p q =>
  split at h
  ·rename_i d;rw[hc d rfl w];exact hk _ _ h
  ·exact h.elim
 case pv s=>obtain⟨v,hv,h⟩:=mH.elim h;rw[hc w,hv w];exact hk _ _ h
 case rd s=>obtain⟨v,hv,h⟩:=mH.elim h;rw[hc w,hv];exact hk _ _ h
 case wr s=>obtain⟨v,w',hv,h⟩:=mH.elim h;rw[hc w,hv];exact hk _ _ h
 case wru s=>obtain⟨w',hv,h⟩:=h;rw[hc w,hv];exact hk _ _ h
 case call f args =>
  obtain⟨hg,h⟩:=h;rw[hc hg w];refine⟨QX,PU (Calls.mono h fun e' w' hr=>?_)⟩;cases e' with
  | returned v=>exact hk _ _ (As.elim hr)
  | panicked c=>exact hr.elim
  | outgrown=>exact hr.elim
 case dyn x args =>
  obtain⟨f,first,cap,hx,h⟩:=h;cases f with
  | func f =>
   obtain⟨hg,h⟩:=h;rw[hc.1 f first cap hx hg w];refine⟨QX,PU (Calls.mono h fun e' w' hr=>?_)⟩;cases e' with
   | returned v=>exact hk _ _ (As.elim hr)
   | panicked c=>exact hr.elim
   | outgrown=>exact hr.elim
  | yield l =>
   obtain⟨rfl,rfl,fn,tmps,assign,body,hy,hr⟩:=h;rw[hc.2 l hx w,hy];refine⟨QX,(iH hr).mono fun e' w' hr=>?_⟩;cases e' with
   | returned v=>exact hk _ _ (As.elim hr)
   | panicked c=>exact hr.elim
   | outgrown=>exact hr.elim
  | _=>exact h.elim
theorem SB{g:Bool}{v:Value}{K:Value->Prop}(h:sM g v K):K v:=by
 unfold sM at h;cases g
 ·exact h
 ·simp only[xD]at h
  split at h
  ·rename_i b;cases b
   ·exact h
   ·exact h
  ·exact h.elim
theorem aQ(ops:Array Oper)(j:Nat):aP ops.toList j=(ops[j]?).bind (·.dst):=by
 unfold aP;have:ops.toList[j]?=ops[j]?:=by simp
 rw[this];cases ops[j]?<;>rfl
theorem UT{D:List Deferred}{ops:Array Oper}{e:Cp}{a:Act}{o:Oper}{b:Bool}(hA:Kp D e a)(h:fJ ops.toList e o=some b):Region.wanted o (yielded ops a.tmps)=b:=by
 unfold fJ at h;unfold Region.wanted;cases hg:o.guard with
 | none=>simp only[hg]at h |-;exact Ln h
 | some g =>
  obtain⟨j,want⟩:=g;simp only[hg,aQ]at h |-;unfold yielded;cases hd:(ops[j]?).bind (·.dst)with
  | none=>simp[hd]at h
  | some d =>
   simp only[hd]at h;cases he:e d with
   | opq v=>simp[he]at h
   | dead=>simp[he]at h
   | lit v =>
    have hv:=hA.2 d (by rw[he];rfl);simp only[he,vl]at hv h;simp only[Option.bind_some];cases v<;>simp only at h
    case bool c =>
     have:a.tmps[d]?=some (.bool c):=by
      cases hx:a.tmps[d]? with
      | none=>simp[Lx,hx,undef]at hv
      | some y=>simp[Lx,hx]at hv;rw[hv]
     rw[this];rw[<- Ln h];cases c<;>cases want<;>rfl
    case tuple vs =>
     rw[<- Ln h];cases hx:a.tmps[d]? with
     | none=>rfl
     | some y =>
      simp[Lx,hx]at hv;rw[hv];rfl
    all_goals (simp at h)
theorem YH{b:Option Bool}{x y:Prop}(h:gd b x y):(b=some true/\x)\/(b=some false/\y):=by
 unfold gd at h
 split at h
 ·exact .inl ⟨rfl,h⟩
 ·exact .inr ⟨rfl,h⟩
 ·exact h.elim
def Fr(ds:List Nat)(a a':Act):Prop:=a'.tmps.size=a.tmps.size/\∀ t,Xx t ds=false->a'.tmps.getD t undef=a.tmps.getD t undef
theorem Fr.refl(ds:List Nat)(a:Act):Fr ds a a:=⟨rfl,fun _ _=>rfl⟩
theorem Fr.trans{ds:List Nat}{a b c:Act}(h:Fr ds a b)(h':Fr ds b c):Fr ds a c:=⟨h'.1.trans h.1,fun t ht=>(h'.2 t ht).trans (h.2 t ht)⟩
theorem JX{t:Nat}{ds:List Nat}:Xx t ds=true↔t∈ds:=by
 induction ds with
 | nil=>simp[Xx]
 | cons d r ih =>
  unfold Xx;cases hb:Nat.beq t d
  ·have:=EX hb;simp[ih,this]
  ·have:=AL hb;simp[this]
theorem Fr.put{ds:List Nat}{a:Act}{d:Option Nat}(h:∀ x,d=some x->x∈ds)(v:Value):Fr ds a (a.put d v):=by
 refine⟨NB a d v,fun t ht=>?_⟩;cases d with
 | none=>rfl
 | some d =>
  have hne:d≠t:=by
   intro e;subst e;rw[JX.2 (h d rfl)]at ht;exact Bool.noConfusion ht
  simp only[Act.put,Lx];rw[xS hne]
theorem Fr.mono{ds ds':List Nat}{a b:Act}(h:Fr ds a b)(hs:∀ t,t∈ds->t∈ds'):Fr ds' a b :=
 ⟨h.1,fun t ht=>h.2 t (by
  cases hh:Xx t ds
  ·rfl
  ·rw[JX.2 (hs t (JX.1 hh))]at ht;exact ht)⟩
theorem XC{ops:List Oper}{o:Oper}{d:Nat}(ho:o∈ops)(hd:o.dst=some d):d∈JU ops:=by
 induction ops with
 | nil=>simp at ho
 | cons p r ih =>
  unfold JU;rcases Lz.1 ho with rfl | ho
  ·rw[hd];exact jH
  ·have:=ih ho
   split
   ·exact dV _ this
   ·exact this
theorem Qd{D:List Deferred}{ro:Option Nat}{nn:Nat}{ops:Array Oper}{Q:Exit->Act->World->Prop}{K:Cp->World->Prop}{n:Nat}{a0:Act}(hn:∀ o∈ops.toList,∀ d,o.dst=some d->d<n)
  (hq:∀ e a w,Kp D e a->Fr (JU ops.toList) a0 a->K e w->Q .normal a w) :
  ∀(r:List Oper)(i:Nat)(e:Cp)(a:Act)(w:World),ops.toList.drop i=r->Kp D e a->a.tmps.size=n->Fr (JU ops.toList) a0 a ->
   pP P A ops.toList r i K e w->wpOpsIn (Fw ro) nn P ops Q (List.range' i r.length) a w
 | [],i,e,a,w,_,hA,_,hF,h=>hq e a w hA hF h
 | o::r,i,e,a,w,hr,hA,hsz,hF,h=>by
  have hi:ops.toList[i]?=some o:=by
   have:=Pi (fun l=>l[0]?) hr
   simpa using this
  have hmem:o∈ops.toList:=Ly hi;have hi':ops[i]?=some o:=by simpa using hi
  have hr':ops.toList.drop (i+1)=r:=by
   have:=Pi List.tail hr
   simpa using this
  have hdst:∀ x,o.dst=some x->x<a.tmps.size:=fun x hx=>hsz ▸ hn o hmem x hx;have hmd:∀ x,o.dst=some x->x∈JU ops.toList:=fun x hx=>XC hmem hx;simp only[mO,List.range'_succ,wpOpsIn,hi'];unfold pP at h;rcases YH h with ⟨hg,h⟩ | ⟨hg,h⟩
  ·rw[UT hA hg];simp only[qH];obtain⟨e',hA',_,_,hl,h⟩:=DU hA h;refine T4 h (sF hA' (S4 h) hl) fun v w' hv=>?_;have hv:=SB hv;exact Qd hn hq r (i+1) _ _ w' hr' (hA'.put hdst) ((NB _ _ _).trans hsz) (hF.trans (Fr.put hmd v)) hv
  ·rw[UT hA hg];simp only[dX,WA];refine⟨fun _ _=>trivial,?_⟩;exact Qd hn hq r (i+1) _ _ w hr' (hA.put hdst) ((NB _ _ _).trans hsz) (hF.trans (Fr.put hmd _)) h
open Go
def SY:List Oper->Nat->Nat->Option Nat
 | [],_,_=>none
 | o::r,i,t=>match o.dst with
  | some d=>bif Nat.beq t d then some i else SY r (i+1) t
  | none=>SY r (i+1) t
def lk(ops:List Oper)(o:Oper):List Nat :=
 RQ o.op++(match o.guard with | some (j,_)=>(match aP ops j with | some d=>[d] | none=>[]) | none=>[])
def orE(dm:List Nat):List Edge->Nat
 | []=>0
 | e::r=>bif Region.binds .any e then Nat.lor (Nat.lor (2 ^ e.on) (dm.getD e.on 0)) (orE dm r)else orE dm r
def AaG(ops:List Oper)(dm:List Nat)(i:Nat)(o:Oper):Bool :=
 (match o.dst with | some d=>(match SY ops 0 d with | some j=>Nat.beq j i | none=>false) | none=>true) &&
 ((lk ops o).all fun t=>match SY ops 0 t with
  | some j=>Nat.testBit (dm.getD i 0) j || Nat.testBit (dm.getD j 0) i
  | none=>true) &&
 Nat.blt (dm.getD i 0) (2 ^ i) &&
 ((List.range i).all fun j=>!Nat.testBit (dm.getD i 0) j || Nat.beq (Nat.land (dm.getD j 0) (dm.getD i 0)) (dm.getD j 0)) &&
 (o.after.toList.all fun e=>!Region.binds .any e || Nat.blt e.on i) &&
 Nat.beq (dm.getD i 0) (orE dm o.after.toList)
def lA(ops:List Oper)(dm:List Nat):List Oper->Nat->Bool
 | [],_=>true
 | o::r,i=>AaG ops dm i o&&lA ops dm r (i+1)
def gT(ops:List Oper):Bool:=lA ops (CZ ops) ops 0
structure W8(ops:List Oper)(dm:List Nat):Prop where
 g1:∀ i o,ops[i]?=some o->∀ d,o.dst=some d->SY ops 0 d=some i
 g2:∀ i o,ops[i]?=some o->∀ t∈lk ops o,∀ j,SY ops 0 t=some j->Nat.testBit (dm.getD i 0) j=true\/Nat.testBit (dm.getD j 0) i=true
 g3:∀ i o,ops[i]?=some o->∀ j,Nat.testBit (dm.getD i 0) j=true->j<i/\∀ k,Nat.testBit (dm.getD j 0) k=true->Nat.testBit (dm.getD i 0) k=true
 g4:∀ i o,ops[i]?=some o->∀ e∈o.after,Region.binds .any e=true->e.on<i
 g5:∀ i o,ops[i]?=some o->∀ j,Nat.testBit (dm.getD i 0) j=true->∃ e∈o.after,Region.binds .any e=true/\(j=e.on\/Nat.testBit (dm.getD e.on 0) j=true)
theorem O0{ops:List Oper}:∀{i t j:Nat},SY ops i t=some j->∃ o,ops[j-i]?=some o/\o.dst=some t/\i<=j:=by
 induction ops with
 | nil=>intro i t j h;simp[SY]at h
 | cons o r ih =>
  intro i t j h;unfold SY at h;have rest:SY r (i+1) t=some j->∃ p,(o::r)[j-i]?=some p/\p.dst=some t/\i<=j:=by
   intro h;obtain⟨p,h1,h2,h3⟩:=ih h;refine⟨p,?_,h2,by omega⟩;have:j-i=(j-(i+1))+1:=by omega
   rw[this];simpa using h1
  split at h
  ·rename_i d hd;cases hb:Nat.beq t d
   ·rw[hb]at h;exact rest h
   ·rw[hb]at h
    have:=AL hb;subst this
    simp only[xD,xY]at h;subst h;exact⟨o,by simp,hd,Ld _⟩
  ·exact rest h
theorem NI{dm:List Nat}{j:Nat}:∀{es:List Edge},Nat.testBit (orE dm es) j=true->∃ e∈es,Region.binds .any e=true/\(j=e.on\/Nat.testBit (dm.getD e.on 0) j=true)
 | [],h=>by simp[orE]at h
 | e::r,h=>by
  unfold orE at h;cases hb:Region.binds .any e
  ·rw[hb]at h;obtain⟨e',h1,h2⟩:=NI h;exact⟨e',dV _ h1,h2⟩
  ·rw[hb]at h;have h:Nat.testBit ((2 ^ e.on ||| dm.getD e.on 0) ||| orE dm r) j=true:=h;rw[Lc4,Lc4,Ls2]at h;simp only[Ls3,Lw]at h;rcases h with (h | h) | h
   ·exact⟨e,jH,hb,.inl h.symm⟩
   ·exact⟨e,jH,hb,.inr h⟩
   ·obtain⟨e',h1,h2⟩:=NI h;exact⟨e',dV _ h1,h2⟩
theorem XF{ops:List Oper}{dm:List Nat}:∀{r:List Oper}{i:Nat},lA ops dm r i=true->∀ k o,r[k]?=some o->AaG ops dm (i+k) o=true
 | [],_,_,_,_,h=>by simp at h
 | p::r,i,h,k,o,hk=>by
  unfold lA at h;simp only[Lp]at h;cases k with
  | zero=>simp at hk;subst hk;exact h.1
  | succ k =>
   have:=XF h.2 k o (by simpa using hk)
   rwa [show i+(k+1)=i+1+k by omega]
theorem zJ{ops:List Oper}(h:gT ops=true):W8 ops (CZ ops):=by
 have key:∀ i o,ops[i]?=some o->AaG ops (CZ ops) i o=true:=fun i o hi=>by
  have:=XF h i o hi
  rwa [Pj]at this
 generalize CZ ops=dm at *;have sp:∀ i o,ops[i]?=some o->_:=fun i o hi=>by
  have:=key i o hi
  unfold AaG at this;simp only[Lp]at this;exact this
 constructor
 ·intro i o hi d hd;have h1:=(sp i o hi).1.1.1.1.1;rw[hd]at h1;simp only at h1
  split at h1
  ·rename_i j hj
   have:=AL h1;subst this
   exact hj
  ·exact Bool.noConfusion h1
 ·intro i o hi t ht j hj;have h1:=(sp i o hi).1.1.1.1.2
  have:=dR.1 h1 t ht
  rw[hj]at this;simpa using this
 ·intro i o hi j hj;have h1:=(sp i o hi).1.1.1.2;have h2:=(sp i o hi).1.1.2;have hlt:dm.getD i 0<2 ^ i:=by rw[Nat.blt_eq]at h1;exact h1
  have hji:j<i:=by
   rcases Nat.lt_or_ge j i with h|h
   ·exact h
   ·rw[Nat.testBit_lt_two_pow (jJ hlt (Ld3 (by omega) h))]at hj;exact Bool.noConfusion hj
  refine⟨hji,fun k hk=>?_⟩
  have:=dR.1 h2 j (Ty.2 hji)
  rw[hj]at this;simp only[Bool.not_true,jF]at this;have this:=AL this;have e:Nat.testBit (dm.getD j 0 &&& dm.getD i 0) k=Nat.testBit (dm.getD j 0) k:=Pi (fun x=>Nat.testBit x k) this;rw[Lx4,hk]at e;simpa using e
 ·intro i o hi e he hb;have h1:=(sp i o hi).1.2
  have:=dR.1 h1 e (by simpa using he)
  rw[hb]at this;simp only[Bool.not_true,jF]at this;rw[Nat.blt_eq]at this;exact this
 ·intro i o hi j hj;have h1:=AL (sp i o hi).2;rw[h1]at hj;obtain⟨e,he,h⟩:=NI hj;exact⟨e,by simpa using he,h⟩
open Go
section
variable{P:Program}{A:An}{ops:Array Oper}{dm:List Nat}
def NZ(dm:List Nat)(i:Nat):Nat->Bool:=fun j=>Nat.testBit (dm.getD i 0) j
def GT(ops:Array Oper)(a0:Act)(S:Nat->Bool)(vals:Nat->Value)(t:Nat):Value :=
 match SY ops.toList 0 t with
 | some j=>if S j=true then vals j else a0.tmps.getD t undef
 | none=>a0.tmps.getD t undef
def AhG(P:Program)(ops:Array Oper)(dm:List Nat)(a0:Act)(vals:Nat->Value)(obs:Yw)(i:Nat):Prop :=
 ∃ o,ops[i]?=some o/\∀ a':Act,(∀ t∈lk ops.toList o,a'.tmps.getD t undef=GT ops a0 (NZ dm i) vals t)->a'.defers=a0.defers ->
  (Region.wanted o (yielded ops a'.tmps)=true/\∀ w',(∀ q∈obs,q.1=i->q.2 w')->(execOp a'.eval o).run P w'=.ok (.value (vals i)) w') \/
  (Region.wanted o (yielded ops a'.tmps)=false/\vals i=undef)
structure PI(P:Program)(ops:Array Oper)(dm:List Nat)(a0:Act)(pr L:Nat->Bool)(vals:Nat->Value)(e:Cp)(obs:Yw)(w:World):Prop where
 env:∀ t,(e t).live=true->vl (e t)=GT ops a0 pr vals t
 sub:∀ i,L i=true->pr i=true
 pend:∀ i,pr i=true->L i=false->AhG P ops dm a0 vals obs i
 now:∀ q∈obs,pr q.1=true/\(L q.1=false->q.2 w)
 clo:∀ i j,pr i=true->NZ dm i j=true->pr j=true
def AcZ(ops:Array Oper)(a0:Act)(L:Nat->Bool)(vals:Nat->Value)(a:Act):Prop :=
 a.defers=a0.defers/\a.tmps.size=a0.tmps.size/\∀ t,a.tmps.getD t undef=GT ops a0 L vals t
theorem NY{a0:Act}{S:Nat->Bool}{v v':Nat->Value}{t:Nat}(h:∀ j,S j=true->v j=v' j):GT ops a0 S v t=GT ops a0 S v' t:=by
 unfold GT;split
 ·split
  ·rename_i j _ hj;exact h j hj
  ·rfl
 ·rfl
theorem aN{a0:Act}{S S':Nat->Bool}{v:Nat->Value}{t:Nat}(h:∀ j,SY ops.toList 0 t=some j->S j=S' j):GT ops a0 S v t=GT ops a0 S' v t:=by
 unfold GT;split
 ·rename_i j hj;rw[h j hj]
 ·rfl
theorem Qa(hg:W8 ops.toList dm){i:Nat}{o:Oper}(hi:ops.toList[i]?=some o){S:Nat->Bool}(hin:∀ j,NZ dm i j=true->S j=true)
  (hout:∀ j,NZ dm j i=true->S j=false) {a0:Act} {v:Nat->Value} {t:Nat} (ht:t∈lk ops.toList o):GT ops a0 S v t=GT ops a0 (NZ dm i) v t:=by
 refine aN fun j hj=>?_;rcases hg.g2 i o hi t ht j hj with h | h
 ·have h:NZ dm i j=true:=h;rw[hin j h,h]
 ·have h:NZ dm j i=true:=h;rw[hout j h];cases hb:NZ dm i j
  ·rfl
  ·obtain⟨p,hp,_,_⟩:=O0 hj;have hp:ops.toList[j]?=some p:=by simpa using hp
   have h1:=(hg.g3 i o hi j hb).1;have h2:=(hg.g3 j p hp i h).1;omega
theorem Us{a0:Act}(hg:W8 ops.toList dm){S:Nat->Bool}{v:Nat->Value}{i:Nat}{o:Oper}(hi:ops.toList[i]?=some o)(hS:S i=false)(u:Value)(t:Nat) :
  GT ops a0 (fun j=>S j || Nat.beq j i) (fun j=>if j=i then u else v j) t=if o.dst=some t then u else GT ops a0 S v t:=by
 unfold GT;split
 ·rename_i j hj;obtain⟨p,hp,hd,_⟩:=O0 hj;have hp:ops.toList[j]?=some p:=by simpa using hp
  by_cases hji:j=i
  ·subst hji;rw[hi]at hp;cases hp;simp[hd]
  ·have hnb:Nat.beq j i=false:=by
    cases hb:Nat.beq j i
    ·rfl
    ·exact absurd (AL hb) hji
   have hne:o.dst≠some t:=by
    intro hd'
    have:=hg.g1 i o hi t hd'
    rw[hj]at this;exact hji (Ln this)
   simp[hnb,hji,hne]
 ·rename_i hj;have hne:o.dst≠some t:=by
   intro hd'
   have:=hg.g1 i o hi t hd'
   rw[hj]at this;cases this
  simp[hne]
theorem bD(a:Act)(d:Option Nat)(u:Value)(hd:∀ x,d=some x->x<a.tmps.size)(t:Nat):(a.put d u).tmps.getD t undef=if d=some t then u else a.tmps.getD t undef:=by
 cases d with
 | none=>simp[Act.put]
 | some d =>
  have:=hd d rfl
  by_cases h:d=t
  ·subst h;simp[Act.put,Lx,this]
  ·simp only[Act.put,Lx,xY,h,WA];rw[xS h]
theorem lX{e:Cp}{d:Option Nat}{u:Value}{t:Nat}(h:(NH e d u t).live=true):vl (NH e d u t)=if d=some t then u else vl (e t):=by
 cases d with
 | none=>simp[NH]
 | some d =>
  simp only[NH,st]at *;cases hb:Nat.beq t d
  ·have:=EX hb
   have:¬ (some d=some t):=fun e=>this (Ln e).symm;rw[if_neg this];rfl
  ·have:=AL hb;subst this
   simp[vl]
theorem X4{e:Cp}{d:Option Nat}{u:Value}{t:Nat}(h:(NH e d u t).live=true)(hd:d≠some t):(e t).live=true:=by
 cases d with
 | none=>exact h
 | some d =>
  simp only[NH,st]at h;cases hb:Nat.beq t d
  ·rwa [hb]at h
  ·exact absurd (Pi some (AL hb).symm) hd
end
open Go
section
variable{P:Program}{A:An}{ops:Array Oper}{dm:List Nat}
theorem yY{i:Nat}{o:Oper}{e:Cp}{w:World}{K:Value->Prop}(h:yX P A o e w K) :
  iV o.op=true/\∃ v,K v/\(∀ w',(∀ q∈obl P A i o e v,q.2 w')->(execOp (ev e) o).run P w'=.ok (.value v) w')/\(∀ q∈obl P A i o e v,q.1=i/\q.2 w):=by
 have hc:=Ab3 (P:=P) (A:=A) (o:=o) (e:=e);have hs:iV o.op=true:=by
  cases hh:iV o.op
  ·unfold yX at h;rw[rU hh]at h;exact h.elim
  ·rfl
 refine⟨hs,?_⟩;unfold yX at h;unfold obl;cases hcl:cl P A (ev e) o<;>rw[hcl]at h hc<;>simp only[Cl.Ok]at hc<;>simp only at h
 case val v=>exact⟨v,h,fun w' _=>hc w',by simp⟩
 case nn x=>obtain⟨a,ha,h⟩:=h;exact⟨_,h,fun w' _=>hc a ha w',by simp⟩
 case pick c a b =>
  split at h
  ·rename_i d;exact⟨_,h,fun w' _=>hc d rfl w',by simp⟩
  ·exact h.elim
 case pv s =>
  obtain⟨v,hv,h⟩:=mH.elim h;exact⟨v,h,fun w' _=>by rw[hc,hv];rfl,by simp⟩
 case rd s =>
  obtain⟨v,hv,h⟩:=mH.elim h;refine⟨v,h,fun w' hq=>?_,by simpa using hv⟩;have:s.run P w'=.ok v w':=by simpa using hq
  rw[hc,this];rfl
theorem IE{o:Oper}{e:Cp}{a:Act}(h:∀ t∈lk ops.toList o,(e t).live=true->a.tmps.getD t undef=vl (e t)) :
  (∀ b,fJ ops.toList e o=some b->Region.wanted o (yielded ops a.tmps)=b) /\
  (iV o.op=true->(∀ t∈RQ o.op,(e t).live=true)->execOp a.eval o=execOp (ev e) o):=by
 refine⟨fun b hb=>?_,fun hs hl=>?_⟩
 ·unfold fJ at hb;unfold Region.wanted;cases hg:o.guard with
  | none=>simp only[hg]at hb |-;exact Ln hb
  | some g =>
   obtain⟨j,want⟩:=g;simp only[hg]at hb |-;cases hdt:aP ops.toList j with
   | none=>simp[hdt]at hb
   | some d =>
    have hdt':=hdt;rw[aQ]at hdt';simp only[hdt]at hb;unfold yielded;rw[hdt'];cases he:e d with
    | opq v=>simp[he]at hb
    | dead=>simp[he]at hb
    | lit v =>
     have hv:=h d (by unfold lk;simp[hg,hdt]) (by rw[he];rfl);simp only[he,vl]at hv hb;simp only[Option.bind_some];cases v<;>simp only at hb
     case bool c =>
      have:a.tmps[d]?=some (.bool c):=by
       cases hx:a.tmps[d]? with
       | none=>simp[Lx,hx,undef]at hv
       | some y=>simp[Lx,hx]at hv;rw[hv]
      rw[this,<- Ln hb];cases c<;>cases want<;>rfl
     case tuple vs =>
      rw[<- Ln hb];cases hx:a.tmps[d]? with
      | none=>rfl
      | some y =>
       simp[Lx,hx]at hv;rw[hv];rfl
     all_goals (simp at hb)
 ·refine execOp_congr o ?_ fun x hx=>?_
  ·intro cs b hc;simp[hc,iV]at hs
  ·cases x with
   | tmp t =>
    have ht:t∈RQ o.op:=XD hs (by simpa using hx);exact h t (by unfold lk;exact Lb3 _ ht) (hl t ht)
   | _=>rfl
theorem PI.forced{a0:Act}{pr L:Nat->Bool}{vals:Nat->Value}{e e':Cp}{obs:Yw}{w:World}(h:PI P ops dm a0 pr L vals e obs w)
  (h2:∀ t,(e' t).live=(e t).live) (h3:∀ t,(e t).live=true->vl (e' t)=vl (e t)):PI P ops dm a0 pr L vals e' obs w :=
 { h with env:=fun t ht=>by rw[h2]at ht;rw[h3 t ht];exact h.env t ht }
theorem Vz:∀{ts:List Nat}{e:Cp}{K:Cp->Prop},HK P A ts e K ->
  ∃ e',(∀ t,(e' t).live=(e t).live)/\(∀ t,(e t).live=true->vl (e' t)=vl (e t))/\(∀ t∈ts,(e' t).live=true)/\K e':=by
 intro ts e K h
 -- an act that agrees: YV with a slot for each that is spoken of
 induction ts generalizing e with
 | nil=>exact⟨e,fun _=>rfl,fun _ _=>rfl,fun _ h=>by simp at h,h⟩
 | cons t r ih =>
  unfold HK at h
  split at h
  ·rename_i v hv;obtain⟨e',h2,h3,h4,h5⟩:=ih h;refine⟨e',h2,h3,fun u hu=>?_,h5⟩;rcases Lz.1 hu with rfl | hu
   ·rw[h2,hv];rfl
   ·exact h4 u hu
  ·rename_i v hv;have step:∀ u,v=u->HK P A r (st e t u) K->∃ e',(∀ t,(e' t).live=(e t).live)/\(∀ t,(e t).live=true->vl (e' t)=vl (e t))/\(∀ s∈t::r,(e' s).live=true)/\K e':=by
    intro u hu hf;have hst:∀ s,(st e t u s).live=(e s).live/\((e s).live=true->vl (st e t u s)=vl (e s)):=by
     intro s;unfold st;cases hb:Nat.beq s t
     ·exact⟨rfl,fun _=>rfl⟩
     ·have:=AL hb;subst this
      simp only[xD,hv,hu];exact⟨rfl,fun _=>rfl⟩
    obtain⟨e',h2,h3,h4,h5⟩:=ih hf;refine⟨e',fun s=>(h2 s).trans (hst s).1,fun s hs=>(h3 s ((hst s).1.trans hs)).trans ((hst s).2 hs),fun s hs=>?_,h5⟩;rcases Lz.1 hs with rfl|hs
    ·rw[h2,(hst s).1,hv];rfl
    ·exact h4 s hs
   split at h
   ·obtain⟨u,hu,h⟩:=exY.elim h;exact step u hu h
   ·exact step v rfl h
  ·exact h.elim
theorem PI.add{a0:Act}(hg:W8 ops.toList dm){pr L:Nat->Bool}{vals:Nat->Value}{e:Cp}{obs obs':Yw}{w:World}(h:PI P ops dm a0 pr L vals e obs w)
  {i:Nat} {o:Oper} (hi:ops.toList[i]?=some o) (hpr:pr i=false) (hdeps:∀ j,NZ dm i j=true->pr j=true) (u:Value)
  (hobs:∀ q∈obs',q.1=i/\(q.2 w))
  (hp:∀ a':Act,a'.defers=a0.defers->(∀ t∈lk ops.toList o,(e t).live=true->a'.tmps.getD t undef=vl (e t)) ->
   (Region.wanted o (yielded ops a'.tmps)=true/\∀ w',(∀ q∈obs',q.2 w')->(execOp a'.eval o).run P w'=.ok (.value u) w')\/(Region.wanted o (yielded ops a'.tmps)=false/\u=undef)) :
  PI P ops dm a0 (fun j=>pr j || Nat.beq j i) L (fun j=>if j=i then u else vals j) (NH e o.dst u) (obs++obs') w:=by
 have hLi:L i=false:=by
  cases hb:L i
  ·rfl
  ·rw[h.sub i hb]at hpr;exact Bool.noConfusion hpr
 have hnoti:∀ j,pr j=true->NZ dm j i=true->False:=fun j hj hd=>by rw[h.clo j i hj hd]at hpr;exact Bool.noConfusion hpr
 constructor
 ·intro t ht;rw[lX ht,Us hg hi hpr u t];split
  ·rfl
  ·rename_i hne;exact h.env t (X4 ht hne)
 ·intro j hj;simp[h.sub j hj]
 ·intro j hj hL;cases hpj:pr j
  ·rw[hpj,jF]at hj
   have:=AL hj;subst this
   refine⟨o,by simpa using hi,fun a' hl hd=>?_⟩;have hvals:∀ t∈lk ops.toList o,(e t).live=true->a'.tmps.getD t undef=vl (e t):=by
    intro t ht hlive;rw[hl t ht,h.env t hlive]
    rw[Qa hg hi (S:=pr) hdeps (fun k hk=>by
     cases hb:pr k
     ·rfl
     ·exact(hnoti k hb hk).elim) ht]
    refine NY fun k hk=>?_;have:k≠j:=fun e=>by subst e;rw[hdeps k hk]at hpr;exact Bool.noConfusion hpr
    simp[this]
   rcases hp a' hd hvals with ⟨h1,h2⟩|⟨h1,h2⟩
   ·refine .inl ⟨h1,fun w' hq=>?_⟩;simp only[qH];exact h2 w' fun q hq'=>hq q (Lf5 _ hq') (hobs q hq').1
   ·exact .inr ⟨h1,by simpa using h2⟩
  ·obtain⟨p,hp1,hp2⟩:=h.pend j hpj hL;have hji:j≠i:=fun e=>by subst e;rw[hpj]at hpr;exact Bool.noConfusion hpr
   refine⟨p,hp1,fun a' hl hd=>?_⟩
   have:=hp2 a' (fun t ht=>by
    rw[hl t ht];refine NY fun k hk=>?_;have:k≠i:=fun e=>by subst e;exact hnoti j hpj hk
    simp[this]) hd
   simp only[hji,WA];rcases this with ⟨h1,h2⟩ | h2
   ·exact .inl ⟨h1,fun w' hq=>h2 w' fun q hq' hqj=>hq q (Lb3 _ hq') hqj⟩
   ·exact .inr h2
 ·intro q hq;rcases Lq.1 hq with hq | hq
  ·have:=h.now q hq
   exact⟨by simp[this.1],this.2⟩
  ·have:=hobs q hq
   exact⟨by simp[this.1],fun _=>this.2⟩
 ·intro j k hj hk;cases hpj:pr j
  ·rw[hpj,jF]at hj
   have:=AL hj;subst this
   simp[hdeps k hk]
  ·simp[h.clo j k hpj hk]
theorem YU(hg:W8 ops.toList dm){a0:Act}{K:Cp->Yw->Prop}{w:World}{L:Nat->Bool}:∀(rs:List Nat){pr:Nat->Bool}{vals:Nat->Value}{e:Cp}{obs:Yw},
  PI P ops dm a0 pr L vals e obs w->(∀ i∈rs,pr i=false)->(∀ l1 i l2,rs=l1++i::l2->(i ∉ l1)/\∀ j,NZ dm i j=true->pr j=true\/j∈l1) ->
  nwD P A ops.toList rs K e obs w->∃ vals' e' obs',PI P ops dm a0 (fun j=>pr j || rs.contains j) L vals' e' obs' w/\(∀ j,pr j=true->vals' j=vals j)/\K e' obs'
 | [],pr,vals,e,obs,h,_,_,hk=>⟨vals,e,obs,by simpa using h,fun _ _=>rfl,hk⟩
 | i::r,pr,vals,e,obs,h,hnew,hord,hk=>by
  unfold nwD at hk;have hpr:=hnew i jH;have hdeps:∀ j,NZ dm i j=true->pr j=true:=fun j hj=>by
   rcases(hord [] i r rfl).2 j hj with h|h
   ·exact h
   ·simp at h
  split at hk
  ·exact hk.elim
  ·rename_i o hi;have finish:∀(u:Value)(e1:Cp)(obs':Yw),PI P ops dm a0 (fun j=>pr j || Nat.beq j i) L (fun j=>if j=i then u else vals j) e1 (obs++obs') w ->
     nwD P A ops.toList r K e1 (obs++obs') w->∃ vals' e' obs',PI P ops dm a0 (fun j=>pr j || (i::r).contains j) L vals' e' obs' w/\(∀ j,pr j=true->vals' j=vals j)/\K e' obs':=by
    intro u e1 obs' hPI hn;have hr:∀ j∈r,j≠i:=fun j hj e=>by
     subst e;obtain⟨l1,l2,rfl⟩:=List.append_of_mem hj;exact(hord (j::l1) j l2 rfl).1 jH
    obtain⟨vals',e',obs'',h1,h2,h3⟩:=YU hg r hPI (fun j hj=>by
      have:Nat.beq j i=false:=by
       cases hb:Nat.beq j i
       ·rfl
       ·exact absurd (AL hb) (hr j hj)
      simp[hnew j (dV _ hj),this]) (fun l1 j l2 he=>by
      have:=hord (i::l1) j l2 (by rw[he];rfl)
      refine⟨fun hm=>this.1 (dV _ hm),fun k hk=>?_⟩;rcases this.2 k hk with h | h
      ·left;simp[h]
      ·rcases Lz.1 h with rfl|h
       ·left;simp
       ·exact .inr h) hn
    refine⟨vals',e',obs'',?_,fun j hj=>?_,h3⟩
    ·have:(fun j=>(pr j || Nat.beq j i) || r.contains j)=fun j=>pr j || (i::r).contains j:=by
      funext j;have hb:Nat.beq j i=(j==i):=by rw[Lu,Nat.beq_eq];simp
      rw[Bool.or_assoc,List.contains_cons,hb]
     rwa [this]at h1
    ·rw[h2 j (by simp[hj])];have:j≠i:=fun e=>by subst e;rw[hj]at hpr;exact Bool.noConfusion hpr
     simp[this]
   rcases YH hk with ⟨hga,hk⟩|⟨hga,hk⟩
   ·obtain⟨e1,h2,h3,h4,hk⟩:=Vz hk;obtain⟨hs,v,hk,hrun,hob⟩:=yY (i:=i) hk;have hk:=SB hk;have hPI:=h.forced h2 h3;refine finish v _ _ (hPI.add hg hi hpr hdeps v (fun q hq=>hob q hq) fun a' _ hl=>.inl ⟨?_,fun w' hq=>?_⟩) hk
    ·have hl0:∀ t∈lk ops.toList o,(e t).live=true->a'.tmps.getD t undef=vl (e t):=fun t ht hlive=>by
      rw[hl t ht (by rw[h2];exact hlive),h3 t hlive]
     exact(IE hl0).1 _ hga
    ·rw[(IE hl).2 hs h4];exact hrun w' hq
   ·refine finish undef _ [] ?_ (by simpa using hk);exact h.add hg hi hpr hdeps undef (by simp) fun a' _ hl=>.inr ⟨(IE hl).1 _ hga,rfl⟩
end
open Go
section
variable{P:Program}{A:An}{ops:Array Oper}{dm:List Nat}
theorem Pu{k:Nat}:∀(l:List Nat)(m:Nat),Nat.testBit (l.foldl (fun m i=>Nat.lor m (2 ^ i)) m) k=(Nat.testBit m k || l.contains k)
 | [],m=>by simp
 | i::l,m=>by
  rw[List.foldl_cons,Pu l];have:Nat.testBit (Nat.lor m (2 ^ i)) k=(Nat.testBit m k || decide (i=k)):=by
   show Nat.testBit (m ||| 2 ^ i) k=_;rw[Lc4,Ls2]
  rw[this,List.contains_cons,Bool.or_assoc]
  congr 2
  rw[Lu,Lw,xH];exact⟨Eq.symm,Eq.symm⟩
theorem RR(l:List Nat)(k:Nat):Nat.testBit (SJ l) k=l.contains k:=by
 unfold SJ;rw[Pu];simp
theorem GB{todo:List Nat}{r:Nat}:OX dm todo r=true↔∀ k∈todo,NZ dm r k=false:=by
 unfold OX;constructor
 ·intro h k hk;have h:=AL h;have e:Nat.testBit (dm.getD r 0 &&& SJ todo) k=Nat.testBit 0 k:=Pi (fun x=>Nat.testBit x k) h;rw[Lx4,RR]at e;have:todo.contains k=true:=by simpa using hk
  rw[this]at e;simpa [NZ] using e
 ·intro h;have:Nat.land (dm.getD r 0) (SJ todo)=0:=by
   show dm.getD r 0 &&& SJ todo=0;apply Lz3;intro k;rw[Lx4,RR];cases hb:todo.contains k
   ·simp
   ·have hk:k∈todo:=by simpa using hb
    have:=h k hk
    unfold NZ at this;rw[this];simp
  rw[this];rfl
theorem Xe:∀{l:List Prop},AdD l->∀ p∈l,p
 | [],_,p,hp=>by simp at hp
 | [q],h,p,hp=>by rcases Lz.1 hp with rfl | hp;exact h;simp at hp
 | q::r::l,h,p,hp=>by
  obtain⟨h1,h2⟩:=h;rcases Lz.1 hp with rfl|hp
  ·exact h1
  ·exact Xe h2 p hp
theorem LZ{i:Nat}{w:World}{K:Prop}:∀{obs:Yw},Rp dm i w obs K->(∀ q∈obs,NZ dm i q.1=false->q.2 w)/\K
 | [],h=>⟨fun _ hq=>by simp at hq,h⟩
 | (r,p)::l,h=>by
  unfold Rp at h;cases hb:Nat.testBit (dm.getD i 0) r
  ·rw[hb]at h;obtain⟨h1,h2⟩:=h;obtain⟨h3,h4⟩:=LZ h2;refine⟨fun q hq hd=>?_,h4⟩;rcases Lz.1 hq with rfl | hq
   ·exact h1
   ·exact h3 q hq hd
  ·rw[hb]at h;obtain⟨h3,h4⟩:=LZ h;refine⟨fun q hq hd=>?_,h4⟩;rcases Lz.1 hq with rfl | hq
   ·unfold NZ at hd;simp only at hd;rw[hb]at hd;exact Bool.noConfusion hd
   ·exact h3 q hq hd
def eG(P:Program)(ops:Array Oper)(dm:List Nat)(todo:List Nat)(j:Nat):Bool :=
 decide (j<ops.size)&&(if PZ P ops.toList j=true then OX dm todo j else !todo.contains j)
theorem PI.list{a0:Act}{pr L:Nat->Bool}{vals:Nat->Value}{e:Cp}{obs:Yw}{w:World}(h:PI P ops dm a0 pr L vals e obs w){i:Nat}(hi:pr i=true) :
  PI P ops dm a0 pr (fun j=>L j || Nat.beq j i) vals e obs w:=by
 constructor
 ·exact h.env
 ·intro j hj;cases hb:L j
  ·rw[hb,jF]at hj;rw[AL hj];exact hi
  ·exact h.sub j hb
 ·intro j hj hL;simp only[Lz2]at hL;exact h.pend j hj hL.1
 ·intro q hq;refine⟨(h.now q hq).1,fun hL=>?_⟩;simp only[Lz2]at hL;exact(h.now q hq).2 hL.1
 ·exact h.clo
theorem PI.wrote{a0:Act}(hg:W8 ops.toList dm){pr L:Nat->Bool}{vals:Nat->Value}{e:Cp}{obs:Yw}{w w':World}(h:PI P ops dm a0 pr L vals e obs w)
  {i:Nat} {o:Oper} (hi:ops.toList[i]?=some o) (hpr:pr i=false) (hdL:∀ j,NZ dm i j=true->L j=true) (u:Value)
  (hob:∀ q∈obs,NZ dm i q.1=false->L q.1=false->q.2 w') :
  PI P ops dm a0 (fun j=>pr j || Nat.beq j i) (fun j=>L j || Nat.beq j i) (fun j=>if j=i then u else vals j) (NH e o.dst u) obs w':=by
 have hnoti:∀ j,pr j=true->NZ dm j i=true->False:=fun j hj hd=>by rw[h.clo j i hj hd]at hpr;exact Bool.noConfusion hpr
 constructor
 ·intro t ht;rw[lX ht,Us hg hi hpr u t];split
  ·rfl
  ·rename_i hne;exact h.env t (X4 ht hne)
 ·intro j hj;simp only[Ls3]at hj |-;exact hj.imp (h.sub j) id
 ·intro j hj hL;simp only[Lz2]at hL;have hpj:pr j=true:=by
   rw[hL.2,Lt4]at hj;exact hj
  obtain⟨p,hp1,hp2⟩:=h.pend j hpj hL.1;have hji:j≠i:=fun e=>by subst e;rw[hpj]at hpr;exact Bool.noConfusion hpr
  refine⟨p,hp1,fun a' hl hd=>?_⟩
  have:=hp2 a' (fun t ht=>by
   rw[hl t ht];refine NY fun k hk=>?_;have:k≠i:=fun e=>by subst e;exact hnoti j hpj hk
   simp[this]) hd
  simp only[hji,WA];exact this
 ·intro q hq;refine⟨by simp[(h.now q hq).1],fun hL=>?_⟩;simp only[Lz2]at hL;refine hob q hq ?_ hL.1;cases hb:NZ dm i q.1
  ·rfl
  ·rw[hdL _ hb]at hL;exact Bool.noConfusion hL.1
 ·intro j k hj hk;simp only[Ls3]at hj |-;rcases hj with hj | hj
  ·exact .inl (h.clo j k hj hk)
  ·rw[AL hj]at hk;exact .inl (h.sub k (hdL k hk))
theorem TG{p:Nat->Bool}{n i:Nat}{l1 l2:List Nat}(h:(List.range n).filter p=l1++i::l2):i ∉ l1/\i<n/\p i=true/\∀ j,j<i->p j=true->j∈l1:=by
 have hs:List.Pairwise (·<·) ((List.range n).filter p):=List.Pairwise.filter _ Lc5;have hi:i∈(List.range n).filter p:=by rw[h];simp
 rw[h]at hs;rw[List.pairwise_append]at hs;obtain⟨_,h2,h3⟩:=hs;rw[List.pairwise_cons]at h2;have him:=QM.1 hi;refine⟨fun hm=>Ll5 _ (h3 i hm i jH),Ty.1 him.1,him.2,fun j hj hp=>?_⟩;have hjm:j∈(List.range n).filter p:=QM.2 ⟨Ty.2 (Lp6 hj (Ty.1 him.1)),hp⟩;rw[h]at hjm;rcases Lq.1 hjm with hm | hm
 ·exact hm
 ·rcases Lz.1 hm with rfl|hm
  ·exact absurd hj (Ll5 _)
  ·exact absurd (h2.1 j hm) (Nat.lt_asymm hj)
theorem JY{todo:List Nat}{i j:Nat}:j∈DF todo i↔j∈todo/\j≠i:=by
 unfold DF;rw[QM];refine Ll6 Iff.rfl ?_;cases hb:Nat.beq j i
 ·simp[EX hb]
 ·simp[AL hb]
theorem VD{todo:List Nat}{i:Nat}(hn:todo.Nodup)(hi:i∈todo):todo.length=(DF todo i).length+1:=by
 induction todo with
 | nil=>simp at hi
 | cons k r ih =>
  rw[mP]at hn;unfold DF;by_cases hk:k=i
  ·subst hk;have:(r.filter fun j=>!Nat.beq j k)=r:=qU.2 fun j hj=>by
    have hne:j≠k:=fun e=>hn.1 (e ▸ hj);cases hb:Nat.beq j k
    ·rfl
    ·exact absurd (AL hb) hne
   have hkk:(!Nat.beq k k)=false:=by rw[ZT];rfl
   rw[Lm3,hkk,this];simp
  ·have hir:i∈r:=(Lz.1 hi).resolve_left fun e=>hk e.symm;have hkk:(!Nat.beq k i)=true:=by
    cases hb:Nat.beq k i
    ·rfl
    ·exact absurd (AL hb) hk
   have:=ih hn.2 hir
   unfold DF at this;rw[Lm3,hkk];simp only[qH,mO];omega
end
open Go
section
variable{P:Program}{A:An}{ops:Array Oper}{dm:List Nat}{Q:Exit->Act->World->Prop}{K:Cp->World->Prop}{a0:Act}
def AQ(listed:Array Bool)(j:Nat):Bool:=listed.getD j false
def left(ops:Array Oper)(listed:Array Bool):Nat:=((List.range ops.size).filter fun i=>!AQ listed i).length
theorem HM{listed:Array Bool}{i:Nat}(hi:i<listed.size)(j:Nat):AQ (listed.setIfInBounds i true) j=(AQ listed j || Nat.beq j i):=by
 unfold AQ;by_cases h:i=j
 ·subst h;simp[Lx,hi]
 ·have hb:Nat.beq j i=false:=by
   cases hb:Nat.beq j i
   ·rfl
   ·exact absurd (AL hb).symm h
  rw[hb,Lt4];simp only[Lx];rw[xS h]
theorem Mz{p:Nat->Bool}{i:Nat}:∀(l:List Nat),l.Nodup->i∈l->p i=true->(l.filter fun j=>p j&&!Nat.beq j i).length+1=(l.filter p).length
 | [],_,h,_=>by simp at h
 | k::r,hn,hi,hp=>by
  rw[mP]at hn;by_cases hk:k=i
  ·subst hk;have e:(r.filter fun j=>p j&&!Nat.beq j k)=r.filter p:=Lh3 fun j hj=>by
    have hne:j≠k:=fun e=>hn.1 (e ▸ hj);cases hb:Nat.beq j k
    ·simp
    ·exact absurd (AL hb) hne
   have h1:(p k&&!Nat.beq k k)=false:=by rw[ZT];simp
   rw[Lm3,Lm3,h1,hp,e];simp
  ·have hir:i∈r:=(Lz.1 hi).resolve_left fun e=>hk e.symm;have hb:Nat.beq k i=false:=by
    cases hb:Nat.beq k i
    ·rfl
    ·exact absurd (AL hb) hk
   have ih:=Mz r hn.2 hir hp;rw[Lm3,Lm3,hb];cases hpk:p k
   ·simpa using ih
   ·simp only[Bool.not_false,Lk5,qH,mO];omega
theorem tR{listed:Array Bool}{i:Nat}(hi:i<listed.size)(hio:i<ops.size)(hL:AQ listed i=false):left ops (listed.setIfInBounds i true)+1=left ops listed:=by
 unfold left;have:(fun j=>!AQ (listed.setIfInBounds i true) j)=fun j=>(!AQ listed j)&&!Nat.beq j i:=by
  funext j;rw[HM hi];simp
 rw[this];exact Mz _ List.nodup_range (Ty.2 hio) (by simp[hL])
theorem fM(hg:W8 ops.toList dm){listed:Array Bool}(hsz:listed.size=ops.size)(h:Region.ready .any ops listed=[]):∀ i,i<ops.size->AQ listed i=true:=by
 intro i
 induction i using Nat.strongRecOn with
 | _ i ih =>
  intro hi;cases hb:AQ listed i
  ·exfalso
   have:i∈Region.ready .any ops listed:=mem_ready.2 ⟨by
    unfold AQ at hb;simp only[Lx]at hb |-;have:i<listed.size:=hsz ▸ hi
    simp[this]at hb |-;exact hb,ops[i],by simp[hi],fun e he hbd=>ih e.on (hg.g4 i ops[i] (by simp[hi]) e he hbd) (Lp6 (hg.g4 i ops[i] (by simp[hi]) e he hbd) hi)⟩
   rw[h]at this;simp at this
  ·rfl
structure DI(P:Program)(A:An)(ops:Array Oper)(dm:List Nat)(a0:Act)(K:Cp->World->Prop)(listed:Array Bool)(todo:List Nat)(vals:Nat->Value)(e:Cp)(obs:Yw)(a:Act)(w:World):Prop where
 size:listed.size=ops.size
 todoIs:∀ i,i∈todo↔(i<ops.size/\PZ P ops.toList i=false/\AQ listed i=false)
 nodup:todo.Nodup
 clo:∀ i j,AQ listed i=true->NZ dm i j=true->AQ listed j=true
 pi:PI P ops dm a0 (eG P ops dm todo) (AQ listed) vals e obs w
 stands:AcZ ops a0 (AQ listed) vals a
 rest:drD P A ops.toList dm todo.length todo K e obs w
theorem DI.ends(hg:W8 ops.toList dm)(hq:∀ e a w,Kp a0.defers e a->Fr (JU ops.toList) a0 a->K e w->Q .normal a w){listed:Array Bool}{todo:List Nat}{vals:Nat->Value}{e:Cp}{obs:Yw}{a:Act}{w:World}
  (h:DI P A ops dm a0 K listed todo vals e obs a w) (hr:Region.ready .any ops listed=[]):Q .normal a w:=by
 have hall:=fM hg h.size hr;have ht:todo=[]:=by
  cases todo with
  | nil=>rfl
  | cons i r =>
   have:=(h.todoIs i).1 jH
   rw[hall i this.1]at this;exact Bool.noConfusion this.2.2
 subst ht;have hlt:∀ t j,SY ops.toList 0 t=some j->j<ops.size:=fun t j hj=>by
  obtain⟨o,ho,_⟩:=O0 hj
  have:=(Lh.1 ho).1
  simpa using this
 refine hq e a w ⟨h.stands.1,fun t ht=>?_⟩ ⟨h.stands.2.1,fun t ht=>?_⟩ h.rest
 ·rw[h.stands.2.2 t,h.pi.env t ht];refine aN fun j hj=>?_;rw[hall j (hlt t j hj),h.pi.sub j (hall j (hlt t j hj))]
 ·rw[h.stands.2.2 t];unfold GT;split
  ·rename_i j hj;obtain⟨o,ho,hd,_⟩:=O0 hj;rw[JX.2 (XC (Ly ho) hd)]at ht;exact Bool.noConfusion ht
  ·rfl
theorem DI.round{ro:Option Nat}{nn:Nat}(hg:W8 ops.toList dm){n:Nat}(hn:∀ o∈ops.toList,∀ d,o.dst=some d->d<n)(ha0:a0.tmps.size=n){listed:Array Bool}{todo:List Nat}{vals:Nat->Value}{e:Cp}{obs:Yw}{a:Act}{w:World}
  (h:DI P A ops dm a0 K listed todo vals e obs a w) {i:Nat} (hir:i∈Region.ready .any ops listed) {next:Act->World->Prop}
  (hnext:∀ todo' vals' e' obs' a' w',DI P A ops dm a0 K (listed.setIfInBounds i true) todo' vals' e' obs' a' w'->next a' w'):wpOpIn (Fw ro) nn P ops Q i next a w:=by
 obtain⟨hil,o,hi,hrdy⟩:=mem_ready.1 hir;have hio:i<ops.size:=(Lk3.1 hi).1;have hils:i<listed.size:=h.size ▸ hio;have hil:AQ listed i=false:=by
  unfold AQ;simp only[Lx]at hil |-;simp[hils]at hil |-;exact hil
 have hi':ops.toList[i]?=some o:=by simpa using hi
 have hmem:o∈ops.toList:=Ly hi';have hdL:∀ j,NZ dm i j=true->AQ listed j=true:=fun j hj=>by
  obtain⟨ed,he,hb,h5⟩:=hg.g5 i o hi' j hj;have h6:AQ listed ed.on=true:=hrdy ed he hb;rcases h5 with rfl|h5
  ·exact h6
  ·exact h.clo _ _ h6 h5
 have hnL:∀ j,NZ dm j i=true->AQ listed j=false:=fun j hj=>by
  cases hb:AQ listed j
  ·rfl
  ·rw[h.clo j i hb hj]at hil;exact Bool.noConfusion hil
 have hfree:OX dm todo i=true:=GB.2 fun k hk=>by
  cases hb:NZ dm i k
  ·rfl
  ·have:=((h.todoIs k).1 hk).2.2
   rw[hdL k hb]at this;exact Bool.noConfusion this
 have hdst:∀ x,o.dst=some x->x<a.tmps.size:=fun x hx=>by rw[h.stands.2.1,ha0];exact hn o hmem x hx
 have hlook:∀ t∈lk ops.toList o,a.tmps.getD t undef=GT ops a0 (NZ dm i) vals t:=fun t ht=>by
  rw[h.stands.2.2 t];exact Qa hg hi' hdL hnL ht
 have hclo':∀ k j,AQ (listed.setIfInBounds i true) k=true->NZ dm k j=true->AQ (listed.setIfInBounds i true) j=true:=fun k j hk hj=>by
  rw[HM hils]at hk |-;simp only[Ls3]at hk |-;rcases hk with hk | hk
  ·exact .inl (h.clo k j hk hj)
  ·rw[AL hk]at hj;exact .inl (hdL j hj)
 have hLfun:AQ (listed.setIfInBounds i true)=fun j=>AQ listed j || Nat.beq j i:=funext fun j=>HM hils j;cases hid:PZ P ops.toList i with
 | true =>
  have hpr:eG P ops dm todo i=true:=by unfold eG;simp[hio,hid,hfree]
  obtain⟨o',ho',hp⟩:=h.pi.pend i hpr hil;rw[hi]at ho';cases ho';have go:next (a.put o.dst (vals i)) w:=by
   refine hnext todo vals e obs _ w ⟨by simp[h.size],fun j=>?_,h.nodup,hclo',?_,?_,h.rest⟩
   ·rw[h.todoIs j,HM hils];refine Ll6 Iff.rfl ⟨fun⟨h1,h2⟩=>⟨h1,?_⟩,fun⟨h1,h2⟩=>⟨h1,(Lz2.1 h2).1⟩⟩;rw[h2,jF];cases hb:Nat.beq j i
    ·rfl
    ·rw[AL hb,hid]at h1;exact Bool.noConfusion h1
   ·rw[hLfun];exact h.pi.list hpr
   ·refine⟨?_,(NB _ _ _).trans h.stands.2.1,fun t=>?_⟩
    ·cases o.dst<;>exact h.stands.1
    ·rw[bD a o.dst (vals i) hdst t,hLfun];have e1:(fun j=>if j=i then vals i else vals j)=vals:=by
      funext j;split
      ·rename_i e;rw[e]
      ·rfl
     have:=Us (a0:=a0) hg hi' (S:=AQ listed) (v:=vals) hil (vals i) t
     rw[e1]at this;rw[this,h.stands.2.2 t]
  unfold wpOpIn;rw[hi];simp only;rcases hp a hlook h.stands.1 with ⟨hw,hrun⟩ | ⟨hw,hu⟩
  ·rw[hw];simp only[qH];have hrun:=hrun w fun q hq hqi=>(h.pi.now q hq).2 (by rw[hqi];exact hil);unfold Oper.wpIn;refine⟨fun _ _=>trivial,?_⟩;rw[Oper.semAt_eq _ _ _ (YG hrun),hrun];exact go
  ·rw[hw];simp only[dX,WA];refine⟨fun _ _=>trivial,?_⟩;rw[<- hu];exact go
 | false =>
  have hit:i∈todo:=(h.todoIs i).2 ⟨hio,hid,hil⟩;have hpr:eG P ops dm todo i=false:=by unfold eG;simp[hid,hit]
  have hlookE:∀ t∈lk ops.toList o,(e t).live=true->a.tmps.getD t undef=vl (e t):=fun t ht hl=>by
   rw[hlook t ht,h.pi.env t hl];refine(Qa hg hi' (S:=eG P ops dm todo) (fun j hj=>h.pi.sub j (hdL j hj)) (fun j hj=>?_) ht).symm;cases hb:eG P ops dm todo j
   ·rfl
   ·rw[h.pi.clo j i hb hj]at hpr;exact Bool.noConfusion hpr
  have hlen:=VD h.nodup hit;have hrest:=h.rest;rw[hlen]at hrest;unfold drD at hrest;have hrest:=Xe hrest _ (Li.2 ⟨i,QM.2 ⟨hit,hfree⟩,rfl⟩);rw[hi']at hrest
  -- what follows,where the operation Xx yielded u and left w'
  have fin:∀(u:Value)(e1:Cp)(w':World),PI P ops dm a0 (eG P ops dm todo) (AQ listed) vals e1 obs w->(∀ q∈obs,NZ dm i q.1=false->AQ listed q.1=false->q.2 w') ->
    nwD P A ops.toList (Pp P ops.toList dm todo i) (fun e'' obs''=>drD P A ops.toList dm (DF todo i).length (DF todo i) K e'' obs'' w') (NH e1 o.dst u) obs w'->next (a.put o.dst u) w':=by
   intro u e1 w' hPI hob hnw;have hPI1:=hPI.wrote hg hi' hpr hdL u hob;have hpr1:∀ j,(eG P ops dm todo j || Nat.beq j i)=true↔(j<ops.size/\if PZ P ops.toList j=true then OX dm todo j=true else j ∉ todo\/j=i):=fun j=>by
    unfold eG;by_cases hj:j=i
    ·subst hj;simp[hid,hio]
    ·have hb:Nat.beq j i=false:=by
      cases hb:Nat.beq j i
      ·rfl
      ·exact absurd (AL hb) hj
     rw[hb,Lt4];split<;>simp[hj]
   have hsub:∀ j,OX dm todo j=true->OX dm (DF todo i) j=true:=fun j hj=>GB.2 fun k hk=>GB.1 hj k (JY.1 hk).1;have hfr:∀ j,j∈Pp P ops.toList dm todo i↔(j<ops.size/\PZ P ops.toList j=true/\OX dm todo j=false/\OX dm (DF todo i) j=true):=fun j=>by
    unfold Pp;rw[QM,Ty];simp[and_assoc]
   obtain⟨vals2,e2,obs2,h1,h2,h3⟩:=YU hg (Pp P ops.toList dm todo i) hPI1 (fun j hj=>by
     obtain⟨_,hj2,hj3,_⟩:=(hfr j).1 hj;cases hb:(eG P ops dm todo j || Nat.beq j i)
     ·rfl
     ·have:=(hpr1 j).1 hb
      rw[if_pos hj2,hj3]at this;exact Bool.noConfusion this.2) (fun l1 j l2 he=>by
     unfold Pp at he;obtain⟨q1,q2,q3,q4⟩:=TG he;refine⟨q1,fun k hk=>?_⟩;have hjn:j<ops.size:=by simpa using q2
     have hj':ops.toList[j]?=some ops[j]:=by simp[hjn]
     obtain⟨g3a,g3b⟩:=hg.g3 j ops[j] hj' k hk;have hkn:k<ops.size:=Lp6 g3a hjn;simp only[Lp]at q3;cases hik:PZ P ops.toList k with
     | true =>
      cases hfk:OX dm todo k with
      | true=>exact .inl ((hpr1 k).2 ⟨hkn,by simp[hik,hfk]⟩)
      | false =>
       refine .inr (q4 k g3a ?_);simp only[hik,hfk,Bool.not_false,Bool.and_self,Ws];exact GB.2 fun m hm=>by
        have:=GB.1 q3.2 m hm
        cases hb:NZ dm k m
        ·rfl
        ·have e:=g3b m hb;unfold NZ at this;rw[e]at this;exact Bool.noConfusion this
     | false =>
      refine .inl ((hpr1 k).2 ⟨hkn,?_⟩);rw[hik];simp only[dX,WA];by_cases hki:k=i
      ·exact .inr hki
      ·left;intro hkt
       have:=GB.1 q3.2 k (JY.2 ⟨hkt,hki⟩)
       have hk:NZ dm j k=true:=hk
       rw[hk]at this;exact Bool.noConfusion this) hnw
   have hprfun:(fun j=>(eG P ops dm todo j || Nat.beq j i) || (Pp P ops.toList dm todo i).contains j)=eG P ops dm (DF todo i):=by
    funext j;rw[Lu,Ls3,hpr1 j];unfold eG;have hc:(Pp P ops.toList dm todo i).contains j=true↔j∈Pp P ops.toList dm todo i:=by simp
    rw[hc,hfr j];simp only[Lp,Lw];cases hij:PZ P ops.toList j with
    | true =>
     simp only[qH];constructor
     ·rintro(⟨a1,a2⟩|⟨a1,_,_,a4⟩)
      ·exact⟨a1,hsub j a2⟩
      ·exact⟨a1,a4⟩
     ·rintro⟨a1,a2⟩;cases hfj:OX dm todo j
      ·exact .inr ⟨a1,trivial,rfl,a2⟩
      ·exact .inl ⟨a1,rfl⟩
    | false =>
     simp only[dX,WA,false_and,and_false,or_false];refine Ll6 Iff.rfl ?_;have:(!(DF todo i).contains j)=true↔j ∉ DF todo i:=by simp
     rw[this,JY];constructor
     ·rintro(h|h)
      ·exact fun hh=>h hh.1
      ·exact fun hh=>hh.2 h
     ·intro hh;by_cases hj:j=i
      ·exact .inr hj
      ·exact .inl fun hjt=>hh ⟨hjt,hj⟩
   rw[hprfun]at h1;refine hnext (DF todo i) vals2 e2 obs2 _ w' ⟨by simp[h.size],fun j=>?_,?_,hclo',?_,?_,h3⟩
   ·rw[JY,h.todoIs j,HM hils];constructor
    ·rintro⟨⟨b1,b2,b3⟩,b4⟩;refine⟨b1,b2,?_⟩;rw[b3,jF];cases hb:Nat.beq j i
     ·rfl
     ·exact absurd (AL hb) b4
    ·rintro⟨b1,b2,b3⟩
     have:=Lz2.1 b3
     exact⟨⟨b1,b2,this.1⟩,EX this.2⟩
   ·exact List.Pairwise.filter _ h.nodup
   ·rw[hLfun];exact h1
   ·refine⟨?_,(NB _ _ _).trans h.stands.2.1,fun t=>?_⟩
    ·cases o.dst<;>exact h.stands.1
    ·rw[bD a o.dst u hdst t,hLfun];rw[NY (v':=fun j=>if j=i then u else vals j) (fun j hj=>h2 j ?_),Us hg hi' hil u t,h.stands.2.2 t];simp only[Ls3]at hj |-;exact hj.imp (h.pi.sub j) id
  unfold wpOpIn;rw[hi];simp only;rcases YH hrest with ⟨hga,hk⟩ | ⟨hga,hk⟩
  ·rw[(IE hlookE).1 _ hga];simp only[qH];obtain⟨e1,h2,h3,h4,hk⟩:=Vz hk;have hl1:∀ t∈lk ops.toList o,(e1 t).live=true->a.tmps.getD t undef=vl (e1 t):=fun t ht hl=>by
    rw[h2]at hl;rw[h3 t hl];exact hlookE t ht hl
   refine T4 hk ((IE hl1).2 (S4 hk) h4) fun v w' hv=>?_;obtain⟨hob,hnw⟩:=LZ (SB hv);exact fin v e1 w' (h.pi.forced h2 h3) (fun q hq hd _=>hob q hq hd) hnw
  ·rw[(IE hlookE).1 _ hga];simp only[dX,WA];refine⟨fun _ _=>trivial,?_⟩;exact fin undef e w h.pi (fun q hq _ hL=>(h.pi.now q hq).2 hL) hk
theorem DI.any{ro:Option Nat}{nn:Nat}(hg:W8 ops.toList dm){n:Nat}(hn:∀ o∈ops.toList,∀ d,o.dst=some d->d<n)(ha0:a0.tmps.size=n)
  (hq:∀ e a w,Kp a0.defers e a->Fr (JU ops.toList) a0 a->K e w->Q .normal a w):∀(fuel:Nat){listed:Array Bool}{todo:List Nat}{vals:Nat->Value}{e:Cp}{obs:Yw}{a:Act}{w:World},
  DI P A ops dm a0 K listed todo vals e obs a w->left ops listed=fuel->wpAnyIn (Fw ro) nn P .any ops Q fuel listed a w:=by
 intro fuel
 induction fuel with
 | zero =>
  intro listed todo vals e obs a w h hl;have hr:Region.ready .any ops listed=[]:=by
   rw[List.eq_nil_iff_forall_not_mem];intro i hi;obtain⟨hil,o,ho,_⟩:=mem_ready.1 hi;have hio:i<ops.size:=(Lk3.1 ho).1;have hils:i<listed.size:=h.size ▸ hio;unfold left at hl;have hnil:=fE hl
   have:i∈(List.range ops.size).filter fun i=>!AQ listed i:=QM.2 ⟨Ty.2 hio,by
    unfold AQ;simp only[Lx]at hil |-
    simp[hils]at hil |-;exact hil⟩
   rw[hnil]at this;simp at this
  exact⟨hr,h.ends hg hq hr⟩
 | succ fuel ih =>
  intro listed todo vals e obs a w h hl;refine⟨fun hr=>h.ends hg hq hr,fun i hi=>?_⟩;refine h.round hg hn ha0 hi fun todo' vals' e' obs' a' w' h'=>ih h' ?_;obtain⟨hil,o,ho,_⟩:=mem_ready.1 hi;have hio:i<ops.size:=(Lk3.1 ho).1;have hils:i<listed.size:=h.size ▸ hio;have hil:AQ listed i=false:=by
   unfold AQ;simp only[Lx]at hil |-;simp[hils]at hil |-;exact hil
  have:=tR (ops:=ops) hils hio hil
  omega
theorem aO{D:List Deferred}{ro:Option Nat}{nn:Nat}{id:Nat}(hm:P.follows .mixedOrders=true)(hok:gT ops.toList=true){n:Nat}(hn:∀ o∈ops.toList,∀ d,o.dst=some d->d<n){e:Cp}{w:World}(hA:Kp D e a0)(ha0:a0.tmps.size=n)
  (hq:∀ e a w,Kp D e a->Fr (JU ops.toList) a0 a->K e w->Q .normal a w) (h:jZ P A ops.toList K e (Ah w)):(Code.region id ops true).wpIn (Fw ro) nn P Q a0 w:=by
 obtain⟨hD,hA⟩:=hA;subst hD;refine wpIn_region_any hm ?_;have hg:=zJ hok;have hle:left ops (Array.replicate ops.size false)=ops.size:=by
  unfold left;rw[qU.2]
  ·simp
  ·intro i _;unfold AQ;simp[Lx,Array.getElem?_replicate];split<;>rfl
 have hnone:∀ j,AQ (Array.replicate ops.size false) j=false:=fun j=>by
  unfold AQ;simp[Lx,Array.getElem?_replicate];split<;>rfl
 have hnone':AQ (Array.replicate ops.size false)=fun _=>false:=funext hnone;unfold jZ at h;have hcur:∀ vals t,GT ops a0 (fun _=>false) vals t=a0.tmps.getD t undef:=fun vals t=>by unfold GT;split<;>simp
 have h0:PI P ops (CZ ops.toList) a0 (fun _=>false) (AQ (Array.replicate ops.size false)) (fun _=>undef) e [] (Ah w):=by
  refine⟨fun t ht=>?_,fun i hi=>?_,fun i hi=>?_,fun q hq=>?_,fun i j hi=>?_⟩
  ·rw[hcur];exact(hA t ht).symm
  ·rw[hnone]at hi;exact hi
  ·exact Bool.noConfusion hi
  ·simp at hq
  ·exact Bool.noConfusion hi
 have hw:∀ j,j∈qD P ops.toList↔(j<ops.size/\PZ P ops.toList j=false):=fun j=>by
  unfold qD;rw[QM,Ty];simp
 have hid:∀ j,j∈V6 P ops.toList (CZ ops.toList) (qD P ops.toList)↔(j<ops.size/\PZ P ops.toList j=true/\OX (CZ ops.toList) (qD P ops.toList) j=true):=fun j=>by
  unfold V6;rw[QM,Ty];simp
 obtain⟨vals,e1,obs1,h1,_,h3⟩:=YU hg _ h0 (fun _ _=>rfl) (fun l1 j l2 he=>by
  unfold V6 at he;obtain⟨q1,q2,q3,q4⟩:=TG he;refine⟨q1,fun k hk=>.inr ?_⟩;have hjn:j<ops.size:=by simpa using q2
  have hj':ops.toList[j]?=some ops[j]:=by simp[hjn]
  obtain⟨g3a,g3b⟩:=hg.g3 j ops[j] hj' k hk;have hkn:k<ops.size:=Lp6 g3a hjn;simp only[Lp]at q3;refine q4 k g3a ?_;rw[Lp];have hik:PZ P ops.toList k=true:=by
   cases hik:PZ P ops.toList k
   ·have:=GB.1 q3.2 k ((hw k).2 ⟨hkn,hik⟩)
    have hk:NZ (CZ ops.toList) j k=true:=hk;rw[hk]at this;exact Bool.noConfusion this
   ·rfl
  refine⟨hik,GB.2 fun m hm=>?_⟩
  have:=GB.1 q3.2 m hm
  cases hb:NZ (CZ ops.toList) k m
  ·rfl
  ·have e:=g3b m hb;unfold NZ at this
   rw[e]at this;exact Bool.noConfusion this) h
 have hprfun:(fun j=>false || (V6 P ops.toList (CZ ops.toList) (qD P ops.toList)).contains j)=eG P ops (CZ ops.toList) (qD P ops.toList):=by
  funext j;rw[jF,Lu];have hc:(V6 P ops.toList (CZ ops.toList) (qD P ops.toList)).contains j=true↔j∈V6 P ops.toList (CZ ops.toList) (qD P ops.toList):=by simp
  rw[hc,hid j];unfold eG;simp only[Lp,Lw];refine Lh6 fun hj=>?_;cases hij:PZ P ops.toList j with
  | true=>simp
  | false =>
   simp only[dX,WA,false_and,false_iff];have:j∈qD P ops.toList:=(hw j).2 ⟨hj,hij⟩;simp[this]
 rw[hprfun]at h1;refine DI.any (todo:=qD P ops.toList) (vals:=vals) (e:=e1) (obs:=obs1) hg hn ha0 hq ops.size ⟨by simp,fun j=>?_,?_,?_,h1,⟨rfl,rfl,fun t=>?_⟩,h3⟩ hle
 ·rw[hw j,hnone];simp
 ·exact List.Pairwise.filter _ List.nodup_range
 ·intro i j hi;rw[hnone]at hi;exact Bool.noConfusion hi
 ·rw[hnone',hcur]
end
open Go
section
variable{P:Program}{A:An}
def VK:Code->Bool
 | .seq a b=>VK a&&VK b
 | .cond _ a b=>VK a&&VK b
 | .block _ c=>VK c
 | .loop c=>VK c
 | .scope _=>false
 | _=>true
def XE(n:Nat):Code->Bool
 | .region _ ops draw=>(ops.toList.all fun o=>match o.dst with | some d=>Nat.blt d n | none=>true)&&(!draw || gT ops.toList)
 | .seq a b=>XE n a&&XE n b
 | .cond _ a b=>XE n a&&XE n b
 | .block _ c=>XE n c
 | .loop c=>XE n c
 | .scope c=>XE n c
 | _=>true
def HE(D:List Deferred)(n:Nat)(a0:Act)(ds:List Nat)(K:Cp->World->Prop)(X:Nat->Cp->World->Prop)(R:Cp->World->Prop):Exit->Act->World->Prop
 | .normal,a,w=>∃ e,Kp D e a/\Fr ds a0 a/\K e w
 | .exit i,a,w=>∃ e,Kp D e a/\Fr ds a0 a/\X i e w
 | .ret,a,w=>∃ e,Kp D e a/\a.tmps.size=n/\R e w
 | _,_,_=>False
theorem HE.mono{D:List Deferred}{n:Nat}{a0:Act}{ds ds':List Nat}{K K':Cp->World->Prop}{X X':Nat->Cp->World->Prop}{R:Cp->World->Prop}(hs:∀ t,t∈ds->t∈ds')
  (hK:∀ e a w,Kp D e a->Fr ds a0 a->K e w->∃ e',Kp D e' a/\K' e' w) (hX:∀ i e a w,Kp D e a->Fr ds a0 a->X i e w->∃ e',Kp D e' a/\X' i e' w) (x:Exit) (a:Act) (w:World) (h:HE D n a0 ds K X R x a w):HE D n a0 ds' K' X' R x a w:=by
 cases x<;>simp only[HE]at h |-
 case normal=>obtain⟨e,h1,h2,h3⟩:=h;obtain⟨e',h4,h5⟩:=hK e a w h1 h2 h3;exact⟨e',h4,h2.mono hs,h5⟩
 case exit i=>obtain⟨e,h1,h2,h3⟩:=h;obtain⟨e',h4,h5⟩:=hX i e a w h1 h2 h3;exact⟨e',h4,h2.mono hs,h5⟩
 case ret=>exact h
theorem N4{D:List Deferred}{ds:List Nat}{k:List Value->World->Prop}{e e0:Cp}{a a0:Act}{w:World}(hA0:Kp D e0 a0)(hA:Kp D e a)(hF:Fr ds a0 a)(h:VC A ds k e w) :
  Kp D (zY ds (FT A ds) (vals (FT A ds) e) e0) a/\k (vals (FT A ds) e) w:=by
 unfold VC at h;cases hal:ZO (FT A ds) e
 ·rw[hal]at h;exact h.elim
 ·rw[hal]at h;refine⟨⟨hA.1,fun t ht=>?_⟩,h⟩;unfold zY at ht |-;cases ho:Xx t (FT A ds)
  ·rw[ho]at ht;simp only[yB]at ht |-;cases hd:Xx t ds
   ·rw[hd]at ht;simp only[yB]at ht |-;rw[hF.2 t hd];exact hA0.2 t ht
   ·rw[hd]at ht;exact Bool.noConfusion ht
  ·simp only[xD,vl];have hmem:=JX.1 ho;have hlive:(e t).live=true:=by
    have:=dR.1 hal t hmem
    unfold En.live;cases he:e t<;>rw[he]at this<;>first | rfl | exact Bool.noConfusion this
   rw[hA.2 t hlive]
   -- the t-th of the list
   have key:∀(l:List Nat),t∈l->Ap (vals l e) (VO t l)=vl (e t):=by
    intro l
    induction l with
    | nil=>intro h;simp at h
    | cons d r ih =>
     intro hm;unfold vals VO;cases hb:Nat.beq t d
     ·have hr:t∈r:=(Lz.1 hm).resolve_left (EX hb);exact ih hr
     ·have:=AL hb;subst this;rfl
   exact(key _ hmem).symm
theorem Ml{D:List Deferred}{ro:Option Nat}{nn:Nat}{ds:List Nat}{e0:Cp}{a0:Act}{w:World}{B:(Cp->World->Prop)->Prop}{K:Cp->World->Prop}{n:Nat}{X:Nat->Cp->World->Prop}{R:Cp->World->Prop}{c:Code}
  (hA:Kp D e0 a0) (h:Zg A ds e0 B K) (hB:∀ k:Cp->World->Prop,B k->c.wpIn (Fw ro) nn P (HE D n a0 ds k X R) a0 w):c.wpIn (Fw ro) nn P (HE D n a0 ds K X R) a0 w:=by
 obtain⟨J,hJ,hb⟩:=h;refine wpIn_mono (hB _ hb) fun x a w' hx=>?_;refine HE.mono (fun _ h=>h) (fun e a w hA' hF hl=>?_) (fun i e a w hA' _ hx=>⟨e,hA',hx⟩) x a w' hx;obtain⟨h1,h2⟩:=N4 hA hA' hF hl;exact⟨_,h1,hJ _ _ h2⟩
theorem KR{D:List Deferred}{ro:Option Nat}{nn:Nat}(hm:P.follows .mixedOrders=true){n:Nat}:∀(c:Code),XE n c=true->(ro=none\/VK c=true)->∀(K:Cp->World->Prop)(X:Nat->Cp->World->Prop)(R:Cp->World->Prop)(e:Cp)(a:Act)(w:World),
  Kp D e a->a.tmps.size=n->S3 P A c K X R e w->c.wpIn (Fw ro) nn P (HE D n a (Cy c) K X R) a w:=by
 intro c
 induction c with
 | skip=>intro _ _ K X R e a w hA hn h;exact wpIn_skip ⟨e,hA,Fr.refl _ _,h⟩
 | label l=>intro _ _ K X R e a w hA hn h;exact wpIn_label ⟨e,hA,Fr.refl _ _,h⟩
 | exit i=>intro _ _ K X R e a w hA hn h;exact wpIn_exit ⟨e,hA,Fr.refl _ _,h⟩
 | ret=>intro _ _ K X R e a w hA hn h;exact wpIn_ret ⟨e,hA,hn,h⟩
 | goto l=>intro _ _ K X R e a w hA hn h;exact h.elim
 | refuse s=>intro _ _ K X R e a w hA hn h;exact h.elim
 | rangeFunc=>intro _ _ K X R e a w hA hn h;exact h.elim
 | region id ops draw =>
  intro hok hro K X R e a w hA hn h;simp only[XE,Lp]at hok;have hds:∀ o∈ops.toList,∀ d,o.dst=some d->d<n:=fun o ho d hd=>by
   have:=dR.1 hok.1 o ho
   rw[hd]at this;simp only at this;rw[Nat.blt_eq]at this;exact this
  have core:∀ k:Cp->World->Prop,AaT P A ops.toList draw k e w->(Code.region id ops draw).wpIn (Fw ro) nn P (HE D n a (JU ops.toList) k X R) a w:=by
   intro k hk;unfold AaT at hk;cases draw
   ·refine wpIn_region ?_;have hk:pP P A ops.toList ops.toList 0 k e w:=hk
    have:=Qd (ro:=ro) (nn:=nn) (n:=n) (a0:=a) (Q:=HE D n a (JU ops.toList) k X R) hds (fun e a w h1 h2 h3=>⟨e,h1,h2,h3⟩) ops.toList 0 e a w rfl hA hn (Fr.refl _ _) hk
    rwa [show ops.toList.length=ops.size by simp,<- List.range_eq_range']at this
   ·have hk:jZ P A ops.toList k e (Ah w):=hk;exact aO hm (by simpa using hok.2) hds hA hn (fun e a w h1 h2 h3=>⟨e,h1,h2,h3⟩) hk
  unfold S3 at h;cases hg:kJ ops.toList
  ·rw[hg]at h;exact core K h
  ·rw[hg,xD]at h;exact Ml hA h core
 | seq x y ihx ihy =>
  intro hok hro K X R e a w hA hn h;simp only[XE,Lp]at hok;unfold S3 at h;refine wpIn_seq (wpIn_mono (ihx hok.1 (hro.imp id fun h=>(Lh5.1 h).1) _ _ _ e a w hA hn h) fun ex a1 w1 hx=>?_);have sub:∀ t,t∈Cy x->t∈Cy (x.seq y):=fun t ht=>Lb3 _ ht;cases ex with
  | normal =>
   obtain⟨e1,hA1,hF1,h1⟩:=hx;refine wpIn_mono (ihy hok.2 (hro.imp id fun h=>(Lh5.1 h).2) _ _ _ e1 a1 w1 hA1 (hF1.1.trans hn) h1) fun ex2 a2 w2 hx2=>?_;have sub2:∀ t,t∈Cy y->t∈Cy (x.seq y):=fun t ht=>Lf5 _ ht;cases ex2<;>simp only[HE]at hx2 |-
   case normal=>obtain⟨e2,b1,b2,b3⟩:=hx2;exact⟨e2,b1,(hF1.mono sub).trans (b2.mono sub2),b3⟩
   case exit i=>obtain⟨e2,b1,b2,b3⟩:=hx2;exact⟨e2,b1,(hF1.mono sub).trans (b2.mono sub2),b3⟩
   case ret=>exact hx2
  | exit i=>obtain⟨e2,b1,b2,b3⟩:=hx;exact⟨e2,b1,b2.mono sub,b3⟩
  | ret=>exact hx
  | goto l=>exact hx.elim
  | panic ch=>exact hx.elim
  | outgrown=>exact hx.elim
 | cond cnd x y ihx ihy =>
  intro hok hro K X R e a w hA hn h;simp only[XE,Lp]at hok;unfold S3 at h;obtain⟨e1,hA1,_,_,hl,h⟩:=DU hA h;have hev:a.eval cnd=ev e1 cnd:=YF hA1 fun t ht=>hl t (Ib.2 ht.symm)
  split at h
  ·rename_i t ht;have two:∀ k:Cp->World->Prop,(bif t then S3 P A x k X R e1 w else S3 P A y k X R e1 w)->(Code.cond cnd x y).wpIn (Fw ro) nn P (HE D n a (Cy x++Cy y) k X R) a w:=by
    intro k hk;have keep:∀ ds:List Nat,(∀ t,t∈ds->t∈Cy x++Cy y)->∀ ex a1 w1,HE D n a ds k X R ex a1 w1->HE D n a (Cy x++Cy y) k X R ex a1 w1 :=
     fun ds hs ex a1 w1 hx=>HE.mono hs (fun e _ _ h1 _ h2=>⟨e,h1,h2⟩) (fun i e _ _ h1 _ h2=>⟨e,h1,h2⟩) ex a1 w1 hx
    refine wpIn_cond_split (hev.trans ht) (fun h1=>?_) (fun h1=>?_)
    ·exact wpIn_mono (ihx hok.1 (hro.imp id fun h=>(Lh5.1 h).1) _ _ _ e1 a w hA1 hn (by rw[h1]at hk;exact hk)) (keep _ fun t ht=>Lb3 _ ht)
    ·exact wpIn_mono (ihy hok.2 (hro.imp id fun h=>(Lh5.1 h).2) _ _ _ e1 a w hA1 hn (by rw[h1]at hk;exact hk)) (keep _ fun t ht=>Lf5 _ ht)
   cases hb:(F5 x&&F5 y)
   ·rw[hb]at h;exact two K h
   ·rw[hb,xD]at h;exact Ml hA1 h two
  ·exact h.elim
 | block id c ih =>
  intro hok hro K X R e a w hA hn h;simp only[XE]at hok;unfold S3 at h;have core:∀ k:Cp->World->Prop,S3 P A c k (fun i e w=>bif Nat.beq i id then k e w else X i e w) R e w->(Code.block id c).wpIn (Fw ro) nn P (HE D n a (Cy c) k X R) a w:=by
   intro k hk;refine wpIn_block (wpIn_mono (ih hok hro _ _ _ e a w hA hn hk) fun ex a1 w1 hx=>?_);cases ex<;>simp only[HE]at hx<;>simp only[Exit.inBlock,HE]
   case normal=>exact hx
   case exit i =>
    obtain⟨e2,b1,b2,b3⟩:=hx;cases hb:Nat.beq i id
    ·rw[hb]at b3;rw[if_neg (EX hb)];exact⟨e2,b1,b2,b3⟩
    ·rw[hb]at b3;rw[if_pos (AL hb)];exact⟨e2,b1,b2,b3⟩
   case ret=>exact hx
  cases hb:Nat.ble 2 ((bif F5 c then 1 else 0)+Pn id c)
  ·rw[hb]at h;exact core K h
  ·rw[hb,xD]at h;exact Ml hA h core
 | loop c ih =>
  intro hok hro K X R e a w hA hn h;simp only[XE]at hok;unfold S3 at h;obtain⟨hA1,I,μ,h0,hround⟩:=N4 hA hA (Fr.refl _ _) h
  let xs:Act->List Value:=fun b=>(FT A (Cy c)).map fun t=>b.tmps.getD t undef
  have hxs:∀(e1:Cp)(b:Act),Kp D e1 b->ZO (FT A (Cy c)) e1=true->vals (FT A (Cy c)) e1=xs b:=by
   intro e1 b hA hal;refine xB fun t ht=>?_
   have:=dR.1 hal t ht
   refine(hA.2 t ?_).symm;unfold En.live;cases he:e1 t<;>rw[he]at this<;>first | rfl | exact Bool.noConfusion this
  have halv:∀{k:List Value->World->Prop}{e1:Cp}{w1:World},VC A (Cy c) k e1 w1->ZO (FT A (Cy c)) e1=true:=by
   intro k e1 w1 hl;unfold VC at hl;cases hb:ZO (FT A (Cy c)) e1
   ·rw[hb]at hl;exact hl.elim
   ·rfl
  refine wpIn_loop (fun b w1=>b.tmps.size=n/\Fr (Cy c) a b/\Kp D (zY (Cy c) (FT A (Cy c)) (xs b) e) b/\I (xs b) w1) (fun b w1=>μ (xs b) w1) ⟨hn,Fr.refl _ _,?_,?_⟩ ?_
  ·rw[<- hxs e a hA (halv h)];exact hA1
  ·rw[<- hxs e a hA (halv h)];exact h0
  ·rintro b w1 ⟨hbn,hbF,hbA,hbI⟩;refine wpIn_mono (ih hok hro _ _ _ _ b w1 hbA hbn (hround (xs b) w1 hbI)) fun ex a2 w2 hx=>?_;cases ex<;>simp only[HE]at hx<;>simp only[Exit.then,HE]
   case normal =>
    obtain⟨e2,b1,b2,b3⟩:=hx;have hF2:Fr (Cy c) a a2:=hbF.trans b2;obtain⟨c1,c2,c3⟩:=N4 hA b1 hF2 b3;have hv:=hxs e2 a2 b1 (halv b3);rw[hv]at c1 c2 c3;exact⟨⟨hF2.1.trans hn,hF2,c1,c2⟩,c3⟩
   case exit i=>obtain⟨e2,b1,b2,b3⟩:=hx;exact⟨e2,b1,hbF.trans b2,b3⟩
   case ret=>exact hx
 | scope c ih =>
  intro hok hro K X R e a w hA hn h;simp only[XE]at hok;unfold S3 at h;have hro:ro=none:=hro.resolve_right fun h=>by cases h
  subst hro;refine wpIn_wide.2 (wp_scope_straight (wp_mono (wpIn_wide.1 (ih hok (.inl rfl) _ _ _ e a w hA hn h)) fun ex a1 w1 hx=>?_));cases ex<;>simp only[HE]at hx<;>first | exact hx | exact hx.elim
def vG(tmps:Array Value):ResultVar->Sem Value
 | .tmp t=>pure (tmps.getD t undef)
 | .cell a t=>do loadVar t (<- asAddr (tmps.getD a undef))
theorem Mh{D:List Deferred}{w:World}{a:Act}:∀(rs:List ResultVar)(e:Cp)(K:List Value->Prop),Kp D e a->Ze P A w rs e K ->
  ∃ vs:List Value,(rs.mapM (vG a.tmps)).run P w=.ok vs w/\K vs
 | [],e,K,hA,h=>⟨[],by simp,h⟩
 | .tmp t::r,e,K,hA,h=>by
  unfold Ze at h;obtain⟨e1,hA1,_,_,hl,h⟩:=DU hA h;obtain⟨vs,h1,h2⟩:=Mh r e1 _ hA1 h;refine⟨vl (e1 t)::vs,?_,h2⟩;simp only[List.mapM_cons,Sem.run_bind,vG,Sem.run_pure,Result.andThen_ok,h1,hA1.2 t (hl t (by simp))]
 | .cell c t::r,e,K,hA,h=>by
  unfold Ze at h;obtain⟨e1,hA1,_,_,hl,h⟩:=DU hA h;obtain⟨v,hv,h⟩:=qO.elim h;obtain⟨vs,h1,h2⟩:=Mh r e1 _ hA1 h;refine⟨v::vs,?_,h2⟩;have hc:=hA1.2 c (hl c (by simp));have hload:(vG a.tmps (.cell c t)).run P w=.ok v w:=by
   show((asAddr (a.tmps.getD c undef)) >>= fun x=>loadVar t x).run P w=.ok v w;rw[hc];simp only[Instr.loadAt,Instr.sureAddr]at hv;cases hx:vl (e1 c)<;>rw[hx]at hv<;>try (simp at hv;done)
   case pointer p =>
    cases p with
    | none=>simp at hv
    | some q=>simpa [asAddr] using hv
  simp only[List.mapM_cons,Sem.run_bind,hload,Result.andThen_ok,h1,Sem.run_pure]
theorem ZS{args:List Value}{n:Nat}:Kp [] (yK args) { tmps:=args.toArray++Array.replicate n undef,defers:=[] }:=by
 refine⟨rfl,fun t _=>?_⟩;unfold yK;simp only[Lx];cases h:args[t]? with
 | some v =>
  have hlt:t<args.length:=(Lh.1 h).1;rw[Array.getElem?_append_left (by simpa using hlt)];simp[h,vl]
 | none =>
  have hge:args.length<=t:=by simpa using h
  rw[Array.getElem?_append_right (by simpa using hge)];simp only[vl,Array.getElem?_replicate];split<;>rfl
def okF(np:Nat)(fn:Func):Bool:=Nat.ble np fn.ntmps&&(match fn.body with | some c=>XE fn.ntmps c | none=>false)
theorem fZ(hm : P.follows .mixedOrders = true){f : FuncId}{fn : Func}{args : List Value}{w : World}{K : Value → World → Prop}(hf : P.funcs[f]? = some fn)(hok : okF args.length fn = true)
    (hn : (fn.name == "runtime.NumGoroutine") = false) (h : AdE P A fn args w K) : A8 P f args.toArray w K := by
  unfold AdE at h;unfold okF at hok
  split at h
  · rename_i c hb
    rw[hb]at hok;simp only[Lp]at hok;refine⟨⟨fn, hf, by rw[hb];rfl, hn⟩, ?_⟩;refine callsIn_wide.1 (callsIn_of_wp (n := 0) hf hb trivial ?_);have hsz : args.length ≤ fn.ntmps := Nat.le_of_ble_eq_true hok.1;refine wpIn_mono (KR (ro := none) hm (n := fn.ntmps) c hok.2 (.inl rfl) _ _ _ _ _ w ZS (by simp;omega) h) fun ex a w' hx => ?_;have fin : ∀ e, Kp [] e a → Ze P A w' fn.results.toList e (fun vs => K (YV vs) w') → a.defers = [] ∧ ∃ v, (results fn a.tmps).run P w' = .ok v w' ∧ AaU K (.returned v) w' := by
      intro e hA hr;obtain⟨vs, h1, h2⟩ := Mh _ _ _ hA hr;refine⟨hA.1, YV vs, ?_, h2⟩
      have e1 : results fn a.tmps = (do
          let vs ← fn.results.mapM (vG a.tmps)
          pure (if h : vs.size = 1 then vs[0]else .tuple vs)) := by
        unfold results
        congr 1
      rw[e1, Array.mapM_eq_mapM_toList];simp only[Sem.run_bind, Sem.run_map, h1, Result.andThen_ok, Sem.run_pure]
      congr 1
      cases vs with
      | nil => rfl
      | cons v r => cases r with
        | nil => rfl
        | cons u r => rfl
    cases ex<;>simp only[HE]at hx<;>simp only[bodyPost]
    case normal => obtain⟨e, b1, _, b3⟩ := hx;exact fin e b1 b3
    case ret => obtain⟨e, b1, _, b3⟩ := hx;exact fin e b1 b3
    case exit i => obtain⟨e, b1, _, b3⟩ := hx;exact b3
  · exact h.elim
end
open Go
section
variable{P:Program}{w:World}
theorem Aa{b:Bool}{T F:Prop}(ht:b=true->T)(hf:b=false->F):cond b T F:=by
 cases b
 ·exact hf rfl
 ·exact ht rfl
def NA(w:World)(b:Nat)(o:Obj):World:={ w with heap:=w.heap.setIfInBounds b o }
@[simp] theorem Af7 (w:World) (b:Nat) (o:Obj):(NA w b o).heap.size=w.heap.size:=by simp[NA]
theorem AZ{b:Nat}{o:Obj}(h:b<w.heap.size):(NA w b o).heap[b]?=some o:=by simp[NA,h]
theorem N1{b b':Nat}{o:Obj}(h:b'≠b):(NA w b o).heap[b']?=w.heap[b']?:=by
 simp only[NA];rw[xS (fun e=>h e.symm)]
theorem AaO(b:Nat)(o o':Obj):NA (NA w b o) b o'=NA w b o':=by
 unfold NA;simp
theorem BC(w:World)(o:Obj):(w.alloc o).heap[w.heap.size]?=some o:=by
 show(w.heap.push o)[w.heap.size]?=some o;simp
theorem Ro{b:Nat}{o:Obj}(h:b<w.heap.size):(w.alloc o).heap[b]?=w.heap[b]?:=by
 simp only[World.alloc,Array.getElem?_push];rw[if_neg (by omega)]
theorem AK{b:Nat}{o:Obj}(h:w.heap[b]?=some o):b<w.heap.size:=(Lk3.1 h).1
@[simp] theorem Ae0 (w:World):(Ah w).heap=w.heap:=rfl
structure Ab(S:Nat->Prop)(w w':World):Prop where
 tape:w'.tape=w.tape
 os:w'.os=w.os
 output:w'.output=w.output
 size:w.heap.size<=w'.heap.size
 block:∀ b,b<w.heap.size->¬ S b->w'.heap[b]?=w.heap[b]?
def No:Nat->Prop:=fun _=>False
theorem Ab.refl(S:Nat->Prop)(w:World):Ab S w w:=⟨rfl,rfl,rfl,Ld _,fun _ _ _=>rfl⟩
theorem Ab.trans{S S':Nat->Prop}{a b c:World}(h:Ab S a b)(k:Ab S' b c)(hs:∀ x,x<a.heap.size->S' x->S x):Ab S a c :=
 ⟨k.tape.trans h.tape,k.os.trans h.os,k.output.trans h.output,Up h.size k.size,fun x hx hn=>(k.block x (jJ hx h.size) (fun h'=>hn (hs x hx h'))).trans (h.block x hx hn)⟩
theorem Ab.no{S:Nat->Prop}{a b c:World}(h:Ab S a b)(k:Ab No b c):Ab S a c:=h.trans k fun _ _ h=>h.elim
theorem Ab.mono{S S':Nat->Prop}{a b:World}(h:Ab S a b)(hs:∀ x,x<a.heap.size->S x->S' x):Ab S' a b :=
 ⟨h.tape,h.os,h.output,h.size,fun x hx hn=>h.block x hx fun h'=>hn (hs x hx h')⟩
theorem Ab.alloc{S:Nat->Prop}{a b:World}(h:Ab S a b)(o:Obj):Ab S a (b.alloc o) :=
 h.no ⟨rfl,rfl,rfl,by simp,fun x hx _=>Ro hx⟩
theorem Ab.put{S:Nat->Prop}{a b:World}(h:Ab S a b){k:Nat}(hk:a.heap.size<=k\/S k)(o:Obj):Ab S a (NA b k o) :=
 h.trans (S':=fun x=>x=k) ⟨rfl,rfl,rfl,by simp,fun x _ hn=>N1 hn⟩ fun x hx e=>by subst e;exact hk.resolve_left (by omega)
theorem Ab.drew{S:Nat->Prop}{a b:World}(h:Ab S a b):Ab S a (Ah b):=⟨h.tape,h.os,h.output,h.size,h.block⟩
theorem Ab.below{S:Nat->Prop}{a b:World}(h:Ab S a b)(hs:∀ x,¬ S x):RowKit.Below a.heap.size a b :=
 ⟨h.os,h.tape,h.output,h.size,fun k hk=>h.block k hk (hs k)⟩
theorem Ab.keep{S:Nat->Prop}{a b:World}(h:Ab S a b){k:Nat}{o:Obj}(ho:a.heap[k]?=some o)(hk:¬ S k):b.heap[k]?=some o :=
 (h.block k (AK ho) hk).trans ho
def DQ(P:Program)(T:TypeId):Bool :=
 match P.underlying T with
 | some (.struct _) | some (.array _ _) | none=>false
 | some _=>match P.info? T with | some i=>Nat.beq i.size 1 | none=>false
def Ei(P:Program)(T:TypeId):Option Nat :=
 match P.underlying T with
 | some (.struct _) | some (.array _ _)=>match P.info? T with | some i=>some i.size | none=>none
 | _=>none
def Ge(P:Program)(T:TypeId):Option Nat :=
 match P.underlying T with
 | some (.slice e)=>match P.info? e with | some i=>some i.size | none=>none
 | _=>none
theorem lQ{T:TypeId}(h:DQ P T=true):(∀ w,(isAgg T).run P w=.ok false w)/\∃ i,P.info? T=some i/\i.size=1:=by
 unfold DQ at h
 split at h
 ·exact Bool.noConfusion h
 ·exact Bool.noConfusion h
 ·exact Bool.noConfusion h
 ·rename_i d h1 h2 hd
  split at h
  ·rename_i i hi;refine⟨fun w=>?_,i,hi,AL h⟩;simp only[isAgg,Sem.run_bind,AI hd,Result.andThen_ok,Sem.run_pure]
  ·exact Bool.noConfusion h
theorem fL{T:TypeId}{n:Nat}(h:Ei P T=some n):(∀ w,(isAgg T).run P w=.ok true w)/\∃ i,P.info? T=some i/\i.size=n:=by
 unfold Ei at h
 split at h
 ·rename_i d hd
  split at h
  ·rename_i i hi;refine⟨fun w=>?_,i,hi,Ln h⟩;simp only[isAgg,Sem.run_bind,AI hd,Result.andThen_ok,Sem.run_pure]
  ·cases h
 ·rename_i d hd
  split at h
  ·rename_i i hi;refine⟨fun w=>?_,i,hi,Ln h⟩;simp only[isAgg,Sem.run_bind,AI hd,Result.andThen_ok,Sem.run_pure]
  ·cases h
 ·cases h
theorem Cf{T:TypeId}{i:TypeInfo}(h:P.info? T=some i)(w:World):(sizeOf T).run P w=.ok i.size w:=by
 simp[sizeOf,typeInfo,h]
theorem Ad(b o n:Nat):Addr.add ⟨b,o,none⟩ n=⟨b,o+n,none⟩:=by
 unfold Addr.add;split
 ·rename_i h;subst h;rfl
 ·rfl
theorem NW{b o:Nat}{l:List Value}{t:TypeId}{fz:Nat×Nat}(h:w.heap[b]?=some (.cells ⟨l⟩ t fz)):w.cell? ⟨b,o,none⟩=l[o]?:=by
 simp[World.cell?,h]
theorem oD{b o:Nat}{l:List Value}{t:TypeId}{fz:Nat×Nat}(h:w.heap[b]?=some (.cells ⟨l⟩ t fz)):w.frozen? ⟨b,o,none⟩=(decide (fz.1<=o)&&decide (o<fz.2)):=by
 simp[World.frozen?,h]
theorem iO{b o:Nat}{l:List Value}{t:TypeId}{fz:Nat×Nat}(h:w.heap[b]?=some (.cells ⟨l⟩ t fz))(v:Value):w.setCell ⟨b,o,none⟩ v=NA w b (.cells ⟨l.set o v⟩ t fz):=by
 unfold World.setCell NA
 congr 1
 apply Array.ext_getElem?;intro i;rw[Array.getElem?_modify];by_cases hi:b=i
 ·subst hi;have hlt:=AK h;rw[Array.getElem?_eq_getElem hlt]at h;have h:=Ln h;simp[hlt,h]
 ·rw[if_neg hi,xS hi]
theorem oQ{T:TypeId}{b o:Nat}{l:List Value}{t:TypeId}{fz:Nat×Nat}{v:Value}(hT:DQ P T=true)(h:w.heap[b]?=some (.cells ⟨l⟩ t fz))(hv:l[o]?=some v) :
  (Instr.loadAt T (.pointer (some ⟨b,o,none⟩))).run P w=.ok v w:=by
 obtain⟨h1,_⟩:=lQ hT;simp[Instr.loadAt,Instr.sureAddr,loadVar,h1 w,NW h,hv]
theorem bQ{T:TypeId}{b o n:Nat}{l:List Value}{t:TypeId}{fz:Nat×Nat}(hT:Ei P T=some n)(h:w.heap[b]?=some (.cells ⟨l⟩ t fz))(hn:o+n<=l.length) :
  (Instr.loadAt T (.pointer (some ⟨b,o,none⟩))).run P w=.ok (.agg ⟨(l.drop o).take n⟩) w:=by
 obtain⟨h1,i,hi,hin⟩:=fL hT;have hlen:((l.drop o).take n).length=n:=by simp;omega
 have hc:=run_loadCells_list (P:=P) w ⟨b,o,none⟩ ((l.drop o).take n) (fun j v hj=>by
  rw[Ad,NW h];rw[Lp3]at hj
  split at hj
  ·rwa [Lv2]at hj
  ·cases hj)
 rw[hlen]at hc;simp only[Instr.loadAt,Instr.sureAddr,loadVar,Sem.run_bind,Sem.run_pure,Result.andThen_ok,h1 w,qH,Cf hi,hin,hc]
def AA(l:List Value)(o:Nat)(cs:List Value):List Value:=l.take o++cs++l.drop (o+cs.length)
theorem BD{l:List Value}{o:Nat}{cs:List Value}(h:o+cs.length<=l.length):(AA l o cs).length=l.length:=by
 unfold AA;simp;omega
theorem cX{l:List Value}{o:Nat}{v:Value}{r:List Value}(h:o<l.length):AA l o (v::r)=AA (l.set o v) (o+1) r:=by
 have hs:l.set o v=l.take o++v::l.drop (o+1):=by rw[Li3,if_pos h]
 have hlen:(l.take o).length=o:=by simp;omega
 unfold AA;rw[hs];have e1:(l.take o++v::l.drop (o+1)).take (o+1)=l.take o++[v]:=by
  rw[Lf6,hlen,Lg (by omega)];simp
 have e2:(l.take o++v::l.drop (o+1)).drop (o+1+r.length)=l.drop (o+(v::r).length):=by
  rw[WD,hlen,Lt (by omega),QN,show o+1+r.length-o=r.length+1 by omega,qT,UO]
  congr 1;simp;omega
 rw[e1,e2];simp
theorem HQ{b:Nat}{t:TypeId}{fz:Nat×Nat}:∀(cs:List Value){w:World}{o i:Nat}{l:List Value},w.heap[b]?=some (.cells ⟨l⟩ t fz)->o+i+cs.length<=l.length ->
  (∀ j,o+i<=j->j<o+i+cs.length->¬ (fz.1<=j/\j<fz.2))->(∀ v∈cs,v.oneCell'=true) ->
  (storeCells ⟨b,o,none⟩ cs i).run P w=.ok () (NA w b (.cells ⟨AA l (o+i) cs⟩ t fz))
 | [],w,o,i,l,h,hl,_,_=>by
  have:NA w b (.cells ⟨AA l (o+i) []⟩ t fz)=w:=by
   unfold NA AA;have hlt:=AK h;have e:w.heap.setIfInBounds b (.cells ⟨l⟩ t fz)=w.heap:=by
    apply Array.ext_getElem?;intro k;by_cases hk:b=k
    ·subst hk;rw[Array.getElem?_eq_getElem hlt]at h;have h:=Ln h;simp[hlt,h]
    ·rw[xS hk]
   simp[e]
  rw[this];simp[storeCells]
 | v::r,w,o,i,l,h,hl,hf,hv=>by
  simp only[mO]at hl hf;have hfz:w.frozen? ⟨b,o+i,none⟩=false:=by
   rw[oD h]
   have:=hf (o+i) (Ld _) (by omega)
   rw[xP];by_cases h1:fz.1<=o+i
   ·right;simpa using fun h2=>this ⟨h1,h2⟩
   ·left;simpa using h1
  have hlt:o+i<l.length:=by omega
  have hc:w.cell? ⟨b,o+i,none⟩=some l[o+i]:=by rw[NW h];simp[hlt]
  have hb:=AK h;have ih:=HQ r (w:=NA w b (.cells ⟨l.set (o+i) v⟩ t fz)) (o:=o) (i:=i+1) (l:=l.set (o+i) v) (AZ hb) (by simp;omega)
   (fun j h1 h2=>hf j (by omega) (by omega)) (fun u hu=>hv u (dV _ hu))
  simp only[storeCells,Sem.run_bind,Ad];rw[run_store P w _ v .plain (hv v jH),hc];simp only[hfz,dX,WA,Result.andThen_ok,iO h,ih,AaO];rw[cX hlt,xQ]
theorem Mn{T:TypeId}{b o:Nat}{l:List Value}{t:TypeId}{fz:Nat×Nat}{v:Value}(hT:DQ P T=true)(h:w.heap[b]?=some (.cells ⟨l⟩ t fz))(ho:o<l.length)(hf:¬ (fz.1<=o/\o<fz.2))
  (hv:v.oneCell'=true):(Instr.storeAt T (.pointer (some ⟨b,o,none⟩)) v).run P w=.ok () (NA w b (.cells ⟨l.set o v⟩ t fz)):=by
 obtain⟨_,i,hi,hi1⟩:=lQ hT;have hcs:v.cells=#[v]:=by cases v<;>first|rfl|simp[Value.oneCell']at hv
 have:=HQ (P:=P) [v] (o:=o) (i:=0) h (by simp;omega) (fun j h1 h2=>by
  have:j=o:=by simp at h1 h2;omega
  subst this;exact hf) (by simpa using hv)
 simp only[Instr.storeAt,Instr.sureAddr,storeVar,Sem.run_bind,Sem.run_pure,Result.andThen_ok,Cf hi,hi1,hcs];simp only[List.size_toArray,mO,List.length_nil,ne_eq,not_true_eq_false,WA];have e:AA l (o+0) [v]=l.set o v:=by
  unfold AA;simp only[Lo6,mO,List.length_nil,Pj];rw[Li3,if_pos ho];simp
 rw[e]at this;simpa using this
theorem XZ{T:TypeId}{b o n:Nat}{l cs:List Value}{t:TypeId}{fz:Nat×Nat}(hT:Ei P T=some n)(h:w.heap[b]?=some (.cells ⟨l⟩ t fz))(hcs:cs.length=n)(ho:o+n<=l.length)
  (hf:∀ j,o<=j->j<o+n->¬ (fz.1<=j/\j<fz.2)) (hv:∀ v∈cs,v.oneCell'=true) :
  (Instr.storeAt T (.pointer (some ⟨b,o,none⟩)) (.agg ⟨cs⟩)).run P w=.ok () (NA w b (.cells ⟨AA l o cs⟩ t fz)):=by
 obtain⟨_,i,hi,hi1⟩:=fL hT
 have:=HQ (P:=P) cs (i:=0) h (by subst hcs;omega) (fun j h1 h2=>hf j (by omega) (by subst hcs;omega)) hv
 have hsz:¬ (Value.agg ⟨cs⟩).cells.size≠n:=by simp[Value.cells,hcs]
 simp only[Instr.storeAt,Instr.sureAddr,storeVar,Sem.run_bind,Sem.run_pure,Result.andThen_ok,Cf hi,hi1];rw[if_neg hsz];simpa [Value.cells] using this
theorem JW{T:TypeId}{k:Nat}(h:Ge P T=some k):∃ e i,P.underlying T=some (.slice e)/\P.info? e=some i/\i.size=k:=by
 unfold Ge at h
 split at h
 ·rename_i e he
  split at h
  ·rename_i i hi;exact⟨e,i,he,hi,Ln h⟩
  ·cases h
 ·cases h
theorem Ar{T:TypeId}{k n c:Nat}{a:Addr}{kk:IntKind}{i:Int}(hT:Ge P T=some k)(h0:0<=i)(hn:i<n)(w:World) :
  (Instr.indexAt T (.slice (some a) n c) (.int kk i)).run P w=.ok (.pointer (some (a.add (i.toNat*k)))) w:=by
 obtain⟨e,inf,he,hi,hk⟩:=JW hT;simp only[Instr.indexAt,asIntOf,Sem.run_bind,Sem.run_pure,Result.andThen_ok,AI he];rw[if_pos ⟨h0,hn⟩];simp only[Sem.run_bind,Cf hi,Result.andThen_ok,Sem.run_pure,hk]
theorem Fx{kk:IntKind}{i:Int}{y:Nat}{code:BoundsCode}(h0:0<=i)(h1:i<=y)(w:World):(Instr.sliceBound (.int kk i) y code).run P w=.ok i.toNat w:=by
 simp[Instr.sliceBound,asIntOf,h0,h1]
def Cb(a:Option Addr)(cap l k:Nat):Option Addr:=if cap=l then a else a.map (·.add (l*k))
theorem Be{T:TypeId}{k n c:Nat}{a:Option Addr}{k1 k2:IntKind}{l h:Int}(hT:Ge P T=some k)(h0:0<=l)(h1:l<=h)(h2:h<=c)(w:World) :
  (Instr.sliceAt T (.slice a n c) (some (.int k1 l)) (some (.int k2 h)) none).run P w=.ok (.slice (Cb a c l.toNat k) (h.toNat-l.toNat) (c-l.toNat)) w:=by
 obtain⟨e,inf,he,hi,hk⟩:=JW hT;have hb1:=fun code=>Fx (P:=P) (kk:=k2) (i:=h) (y:=c) (code:=code) (by omega) h2 w;have hb2:=fun code=>Fx (P:=P) (kk:=k1) (i:=l) (y:=h.toNat) (code:=code) h0 (by omega) w;simp only[Instr.sliceAt,Sem.run_bind,AI he,Result.andThen_ok,Instr.slice,Instr.sliceBounds,Sem.run_pure,qH,hb1,Lq3,dX,WA,hb2,Cf hi,hk]
 unfold Cb;split<;>rfl
theorem F7{T:TypeId}{k n c:Nat}{a:Option Addr}{k1:IntKind}{l:Int}(hT:Ge P T=some k)(h0:0<=l)(h1:l<=n)(w:World) :
  (Instr.sliceAt T (.slice a n c) (some (.int k1 l)) none none).run P w=.ok (.slice (Cb a c l.toNat k) (n-l.toNat) (c-l.toNat)) w:=by
 obtain⟨e,inf,he,hi,hk⟩:=JW hT;have hb2:=fun code=>Fx (P:=P) (kk:=k1) (i:=l) (y:=n) (code:=code) h0 h1 w;simp only[Instr.sliceAt,Sem.run_bind,AI he,Result.andThen_ok,Instr.slice,Instr.sliceBounds,Sem.run_pure,Lq3,dX,WA,hb2,Cf hi,hk];unfold Cb;split<;>rfl
theorem H4{T:TypeId}{k n c:Nat}{a:Option Addr}{k2:IntKind}{h:Int}(hT:Ge P T=some k)(h0:0<=h)(h2:h<=c)(w:World) :
  (Instr.sliceAt T (.slice a n c) none (some (.int k2 h)) none).run P w=.ok (.slice (Cb a c 0 k) h.toNat c) w:=by
 obtain⟨e,inf,he,hi,hk⟩:=JW hT;have hb1:=fun code=>Fx (P:=P) (kk:=k2) (i:=h) (y:=c) (code:=code) h0 h2 w;simp only[Instr.sliceAt,Sem.run_bind,AI he,Result.andThen_ok,Instr.slice,Instr.sliceBounds,Sem.run_pure,qH,hb1,Lq3,dX,WA,Cf hi,hk];unfold Cb;split<;>rfl
end
open Go
def AhL(l:Nat)(r0:Loop)(k:World->Prop)(W:World):Prop:=W.heap[l]?=some (.loop r0)/\k (W.putObj l (.loop { r0 with state:=.busy }))
def AhO(l:Nat)(r0:Loop)(K:Value->World->Prop)(c:Option Code)(W:World):Prop :=
 W.heap[l]?=some (.loop { r0 with state:=.busy })/\K (.bool c.isNone) (W.putObj l (.loop { r0 with state:=if c.isNone then .ready else .done,pending:=c }))
def qV(P:Program)(f:FuncId)(lb:Array Value)(n:Nat)(w:World)(rnd:List Value->((World->Prop)->World->Prop)->(Option Code->World->Prop)->World->Prop)(aft:Option Code->World->Prop):Prop :=
 ∀ r0:Loop,r0.state=.ready->r0.pending=none ->
  (∀(xs:List Value)(W:World)(K:Value->World->Prop),xs.length=n->W.heap[w.heap.size+1]?=some (.loop r0)->rnd xs (AhL (w.heap.size+1) r0) (AhO (w.heap.size+1) r0 K) W->Yld P (w.heap.size+1) ⟨xs⟩ W K) ->
  A8 P f (#[.func (.yield (w.heap.size+1)) #[] #[]]++lb) ((w.alloc (.deferred (some []))).alloc (.loop r0)) fun _ w3 =>
   ∃ st pe,w3.heap[w.heap.size+1]?=some (.loop { r0 with state:=st,pending:=pe })/\st≠.busy/\aft pe (w3.putObj (w.heap.size+1) (.loop { r0 with state:=.exhausted,pending:=pe }))
def Y0(P:Program)(v:Value)(n:Nat)(w:World)(rnd:List Value->((World->Prop)->World->Prop)->(Option Code->World->Prop)->World->Prop)(aft:Option Code->World->Prop):Prop :=
 match v with
 | .func (.func f) ⟨[]⟩ lb=>qV P f lb n w rnd aft
 | _=>False
def yG(K:World->Prop)(X:Nat->World->Prop)(R:World->Prop)(pe:Option Code)(w:World):Prop :=
 match pe with
 | none=>K w
 | some (.exit i)=>X i w
 | some .ret=>R w
 | _=>False
def Vj(P : Program)(A : An) : Code → List Nat → (List Nat → Cp → World → Prop) → (Nat → List Nat → Cp → World → Prop) → (List Nat → Cp → World → Prop) → Cp → World → Prop
  | .seq a b, ms, K, X, R, e, w => Vj P A a ms (fun ms e w => Vj P A b ms K X R e w) X R e w
  | .cond c a b, ms, K, X, R, e, w => HK P A (tm c) e fun e => match ev e c with
    | .bool t => bif t then Vj P A a ms K X R e w else Vj P A b ms K X R e w
    | _ => False
  | .block id c, ms, K, X, R, e, w => Vj P A c ms K (fun i ms e w => bif Nat.beq i id then K ms e w else X i ms e w) R e w
  | .rangeFunc g ps asg body, ms, K, X, R, e, w => HK P A (tm g) e fun e => Y0 P (ev e g) ps.toList.length w
        (fun xs bgn fin W => S3 P A asg (fun e1 W1 => bgn (fun W2 => S3 P A body (fun _ W3 => fin none W3) (fun i _ W3 => fin (some (.exit i)) W3) (fun _ W3 => fin (some .ret) W3) e1 W2) W1)
          (fun _ _ _ => False) (fun _ _ => False) (zY ps.toList ps.toList xs e) W)
        (yG (K (w.heap.size :: ms) e) (fun i => X i (w.heap.size :: ms) e) (R (w.heap.size :: ms) e))
  | .skip, ms, K, _, _, e, w => K ms e w
  | .label _, ms, K, _, _, e, w => K ms e w
  | .region id ops draw, ms, K, X, R, e, w => S3 P A (.region id ops draw) (K ms) (fun i => X i ms) (R ms) e w
  | .loop c, ms, K, X, R, e, w => S3 P A (.loop c) (K ms) (fun i => X i ms) (R ms) e w
  | .exit i, ms, _, X, _, e, w => X i ms e w
  | .ret, ms, _, _, R, e, w => R ms e w
  | _, _, _, _, _, _, _ => False
def zA:List Nat->(World->Prop)->World->Prop
 | [],K,w=>K w
 | r::ms,K,w=>w.heap[r]?=some (.deferred (some []))/\zA ms K (w.putObj r (.deferred none))
def jY(P:Program)(A:An)(fn:Func)(args:List Value)(w:World)(K:Value->World->Prop):Prop :=
 match fn.body with
 | some c =>
  let R:List Nat->Cp->World->Prop:=fun ms e w=>zA ms (fun w=>Ze P A w fn.results.toList e fun vs=>K (YV vs) w) w
  Vj P A c [] R (fun _ _ _ _=>False) R (yK args) w
 | none=>False
def YT:List Nat->Bool
 | []=>true
 | x::r=>!Xx x r&&YT r
def uH(n:Nat):Code->Bool
 | .seq a b=>uH n a&&uH n b
 | .cond _ a b=>uH n a&&uH n b
 | .block _ c=>uH n c
 | .rangeFunc _ ps a b=>XE n a&&XE n b&&VK a&&VK b&&(ps.toList.all fun t=>Nat.blt t n)&&YT ps.toList
 | .scope _=>false
 | c=>XE n c
def Af5(np:Nat)(fn:Func):Bool:=Nat.ble np fn.ntmps&&(match fn.body with | some c=>uH fn.ntmps c | none=>false)
def mkM(ms:List Nat):List Deferred:=ms.map fun r=>{ target:=.collected r,args:=#[] }
section
variable{P:Program}{A:An}
def QO(n:Nat)(K:List Nat->Cp->World->Prop)(X:Nat->List Nat->Cp->World->Prop)(R:List Nat->Cp->World->Prop):Exit->Act->World->Prop
 | .normal,a,w=>∃ ms e,Kp (mkM ms) e a/\a.tmps.size=n/\K ms e w
 | .exit i,a,w=>∃ ms e,Kp (mkM ms) e a/\a.tmps.size=n/\X i ms e w
 | .ret,a,w=>∃ ms e,Kp (mkM ms) e a/\a.tmps.size=n/\R ms e w
 | _,_,_=>False
theorem uT{n:Nat}{a0:Act}{ds:List Nat}{ms:List Nat}{K:List Nat->Cp->World->Prop}{X:Nat->List Nat->Cp->World->Prop}{R:List Nat->Cp->World->Prop}(hn:a0.tmps.size=n)(x:Exit)(a:Act)(w:World)
  (h:HE (mkM ms) n a0 ds (K ms) (fun i=>X i ms) (R ms) x a w):QO n K X R x a w:=by
 cases x<;>simp only[HE]at h<;>simp only[QO]
 case normal=>obtain⟨e,h1,h2,h3⟩:=h;exact⟨ms,e,h1,h2.1.trans hn,h3⟩
 case exit i=>obtain⟨e,h1,h2,h3⟩:=h;exact⟨ms,e,h1,h2.1.trans hn,h3⟩
 case ret=>obtain⟨e,h1,h2,h3⟩:=h;exact⟨ms,e,h1,h2,h3⟩
def Ul:List (Tmp×Value)->Array Value->Array Value
 | [],t=>t
 | (p,v)::r,t=>Ul r (t.setIfInBounds p v)
theorem XY:∀(l:List (Tmp×Value)) (t:Array Value),(Ul l t).size=t.size
 | [],_=>rfl
 | (p,v)::r,t=>by rw[Ul,XY r];simp
theorem nY(l:List (Tmp×Value))(t:Array Value):l.foldl (fun tmps (x:Tmp×Value)=>tmps.setIfInBounds x.1 x.2) t=Ul l t:=by
 induction l generalizing t with
 | nil=>rfl
 | cons x r ih=>exact ih _
theorem Qf:∀(l:List (Tmp×Value)) (t:Array Value) (j:Nat),(∀ x∈l,x.1≠j)->(Ul l t).getD j undef=t.getD j undef
 | [],_,_,_=>rfl
 | (p,v)::r,t,j,h=>by
  rw[Ul,Qf r _ j fun x hx=>h x (dV _ hx)];have hp:p≠j:=h (p,v) jH;simp only[Lx];rw[xS hp]
theorem lR:∀(ps:List Tmp)(xs:List Value)(t:Array Value)(j:Nat),ps.Nodup->xs.length=ps.length->(∀ p∈ps,p<t.size)->j∈ps->(Ul (ps.zip xs) t).getD j undef=Ap xs (VO j ps)
 | [],_,_,_,_,_,_,hj=>by simp at hj
 | p::ps,[],_,_,_,hl,_,_=>by simp at hl
 | p::ps,v::xs,t,j,hnd,hl,hlt,hj=>by
  have hnd':=mP.1 hnd;rw[List.zip_cons_cons,Ul];cases hb:Nat.beq j p with
  | true =>
   have e:=AL hb;subst e;rw[Qf _ _ _ fun x hx=>fun e=>hnd'.1 (by rw[<- e];exact(List.of_mem_zip hx).1)]
   have:=hlt j jH
   simp[VO,Ap,Lx,this]
  | false =>
   have hne:=EX hb;have hj':j∈ps:=(Lz.1 hj).resolve_left hne;rw[lR ps xs _ j hnd'.2 (by simpa using hl) (fun q hq=>by simp;exact hlt q (dV _ hq)) hj'];simp[VO,hb,Ap]
theorem RD:∀{l:List Nat},YT l=true->l.Nodup
 | [],_=>Lk6
 | x::r,h=>by
  simp only[YT,Lp,TW]at h;refine mP.2 ⟨fun hx=>?_,RD h.2⟩;rw[JX.2 hx]at h;cases h.1
theorem mS{D:List Deferred}{e:Cp}{a:Act}{ps:List Tmp}{xs:List Value}(hA:Kp D e a)(hnd:ps.Nodup)(hl:xs.length=ps.length)(hlt:∀ p∈ps,p<a.tmps.size) :
  Kp [] (zY ps ps xs e) { tmps:=Ul (ps.zip xs) a.tmps,defers:=[] }:=by
 refine⟨rfl,fun t ht=>?_⟩;unfold zY at ht |-;cases hh:Xx t ps
 ·rw[hh]at ht;simp only[yB]at ht |-;have hn:t ∉ ps:=fun hm=>by rw[JX.2 hm]at hh;cases hh
  show(Ul (ps.zip xs) a.tmps).getD t undef=_;rw[Qf _ _ _ fun x hx=>fun e=>hn (by rw[<- e];exact(List.of_mem_zip hx).1)];exact hA.2 t ht
 ·simp only[xD,vl];exact lR ps xs a.tmps t hnd hl hlt (JX.1 hh)
theorem cM(hm:P.follows .mixedOrders=true){nn n:Nat}{g:Operand}{ps:Array Tmp}{asg body:Code}{f:FuncId}{lb:Array Value}{ms:List Nat}{e:Cp}{a:Act}{w:World}
  {K:List Nat->Cp->World->Prop} {X:Nat->List Nat->Cp->World->Prop} {R:List Nat->Cp->World->Prop}
  (hA:Kp (mkM ms) e a) (hn:a.tmps.size=n) (ha:XE n asg=true) (hb:XE n body=true) (sa:VK asg=true) (sb:VK body=true) (hlt:∀ p∈ps.toList,p<n) (hnd:ps.toList.Nodup)
  (hg:a.eval g=.func (.func f) #[] lb)
  (h:qV P f lb ps.toList.length w
    (fun xs bgn fin W=>S3 P A asg (fun e1 W1=>bgn (fun W2=>S3 P A body (fun _ W3=>fin none W3) (fun i _ W3=>fin (some (.exit i)) W3) (fun _ W3=>fin (some .ret) W3) e1 W2) W1)
     (fun _ _ _=>False) (fun _ _=>False) (zY ps.toList ps.toList xs e) W)
    (yG (K (w.heap.size::ms) e) (fun i=>X i (w.heap.size::ms) e) (R (w.heap.size::ms) e))) :
  (Code.rangeFunc g ps asg body).wpIn (Fw none) nn P (QO n K X R) a w:=by
 refine wpIn_rangeFunc fun fn _=>?_;obtain⟨r0,hr0⟩:∃ r0:Loop,r0={ state:=.ready,pending:=none,fn,tmps:=a.tmps,params:=ps,assign:=asg,body,defers:=w.heap.size }:=⟨_,rfl⟩;have hcal:=h r0 (by rw[hr0]) (by rw[hr0]) (fun xs W K' hxs hW hrnd=>?_)
 ·have hgo:=hcal.1;have eg:=Mj (P:=P) hgo
  refine⟨w.heap.size+1,[{ target:=.collected w.heap.size,args:=#[] }],(w.alloc (.deferred (some []))).alloc (.loop r0),{ target:=.fn (.func f) lb,args:=#[.func (.yield (w.heap.size+1)) #[] #[]] },(w.alloc (.deferred (some []))).alloc (.loop r0),f,
   #[.func (.yield (w.heap.size+1)) #[] #[]]++lb,(w.alloc (.deferred (some []))).alloc (.loop r0),?_,?_,fun _ _=>trivial,?_,QX,?_⟩
  ·rw[hr0];exact run_enterLoop_outer _ _ _ _ _
  ·simp only[resolve,hg];simp[go_sem]
  ·simp[invoke,go_sem,eg]
  ·refine PU ?_;refine Calls.mono hcal.2 ?_;intro ex w3 hx;cases ex with
   | panicked c=>exact hx.elim
   | outgrown=>exact hx.elim
   | returned v =>
    obtain⟨st,pe,h1,h2,h3⟩:=hx;refine⟨pe,_,run_endLoop h1 h2,?_⟩;have hA':Kp (mkM (w.heap.size::ms)) e { a with defers:=[{ target:=.collected w.heap.size,args:=#[] }]++a.defers }:=⟨by show [_]++a.defers=_;rw[hA.1];rfl,hA.2⟩;cases pe with
    | none=>exact⟨_,e,hA',hn,h3⟩
    | some c=>cases c<;>first | exact h3.elim | exact wpIn_exit ⟨_,e,hA',hn,h3⟩ | exact wpIn_ret ⟨_,e,hA',hn,h3⟩
 ·have hsz:(⟨xs⟩:Array Value).size=r0.params.size:=by rw[hr0];simpa using hxs
  refine⟨_,_,_,_,run_yield hW hsz,roundIn_of_wpIn trivial ?_⟩;have hfold:((r0.params.zip (⟨xs⟩:Array Value)).foldl (fun tmps (t,a)=>tmps.setIfInBounds t a) r0.tmps)=Ul (ps.toList.zip xs) a.tmps:=by
   rw[hr0,<- Array.foldl_toList,Array.toList_zip];exact nY _ _
  rw[hfold];have hR0:r0.assign=asg:=by rw[hr0]
  have hR1:r0.body=body:=by rw[hr0]
  rw[hR0,hR1];have hst:r0.state=.ready:=by rw[hr0]
  have hAr:=mS (xs:=xs) hA hnd (by simpa using hxs) (fun p hp=>by rw[hn];exact hlt p hp);have hs0:(Ul (ps.toList.zip xs) a.tmps).size=n:=by rw[XY];exact hn
  refine wpIn_mono (KR (D:=[]) (ro:=some (w.heap.size+1)) (nn:=0) hm asg ha (.inr sa) _ _ _ _ _ W hAr hs0 hrnd) fun ex a1 w1 hx=>?_;cases ex<;>simp only[HE]at hx<;>simp only[Exit.then]
  case exit=>obtain⟨_,_,_,h⟩:=hx;exact h.elim
  case ret=>obtain⟨_,_,_,h⟩:=hx;exact h.elim
  case normal =>
   obtain⟨e1,hA1,hF1,hl1,hk⟩:=hx;refine⟨_,run_beginRound hl1 hst,?_⟩;refine wpIn_mono (KR (D:=[]) (ro:=some (w.heap.size+1)) (nn:=0) hm body hb (.inr sb) _ _ _ _ _ _ hA1 (hF1.1.trans hs0) hk) fun ex a2 w2 hx2=>?_;cases ex<;>simp only[HE]at hx2<;>simp only[roundPost]
   case normal=>obtain⟨_,_,_,h1,h2⟩:=hx2;exact⟨_,_,run_endRound none h1,h2⟩
   case exit i=>obtain⟨_,_,_,h1,h2⟩:=hx2;exact⟨_,_,run_endRound (some (.exit i)) h1,h2⟩
   case ret=>obtain⟨_,_,_,h1,h2⟩:=hx2;exact⟨_,_,run_endRound (some .ret) h1,h2⟩
theorem gA(hm:P.follows .mixedOrders=true){nn n:Nat}:∀(c:Code),uH n c=true->∀(ms:List Nat)(K:List Nat->Cp->World->Prop)(X:Nat->List Nat->Cp->World->Prop)(R:List Nat->Cp->World->Prop)(e:Cp)(a:Act)(w:World),
  Kp (mkM ms) e a->a.tmps.size=n->Vj P A c ms K X R e w->c.wpIn (Fw none) nn P (QO n K X R) a w:=by
 intro c
 induction c with
 | skip=>intro _ ms K X R e a w hA hn h;exact wpIn_skip ⟨ms,e,hA,hn,h⟩
 | label l=>intro _ ms K X R e a w hA hn h;exact wpIn_label ⟨ms,e,hA,hn,h⟩
 | exit i=>intro _ ms K X R e a w hA hn h;exact wpIn_exit ⟨ms,e,hA,hn,h⟩
 | ret=>intro _ ms K X R e a w hA hn h;exact wpIn_ret ⟨ms,e,hA,hn,h⟩
 | goto l=>intro _ ms K X R e a w hA hn h;exact h.elim
 | refuse s=>intro _ ms K X R e a w hA hn h;exact h.elim
 | scope c _=>intro hok;cases hok
 | region id ops draw =>
  intro hok ms K X R e a w hA hn h;exact wpIn_mono (KR (ro:=none) hm (.region id ops draw) hok (.inl rfl) _ _ _ e a w hA hn h) (uT hn)
 | loop c _ =>
  intro hok ms K X R e a w hA hn h;exact wpIn_mono (KR (ro:=none) hm (.loop c) hok (.inl rfl) _ _ _ e a w hA hn h) (uT hn)
 | seq x y ihx ihy =>
  intro hok ms K X R e a w hA hn h;simp only[uH,Lp]at hok;unfold Vj at h;refine wpIn_seq (wpIn_mono (ihx hok.1 ms _ _ _ e a w hA hn h) fun ex a1 w1 hx=>?_);cases ex<;>simp only[QO]at hx<;>simp only[Exit.then,QO]
  case normal=>obtain⟨ms1,e1,h1,h2,h3⟩:=hx;exact ihy hok.2 ms1 K X R e1 a1 w1 h1 h2 h3
  case exit i=>exact hx
  case ret=>exact hx
 | cond cnd x y ihx ihy =>
  intro hok ms K X R e a w hA hn h;simp only[uH,Lp]at hok;unfold Vj at h;obtain⟨e1,hA1,_,_,hl,h⟩:=DU hA h;have hev:a.eval cnd=ev e1 cnd:=YF hA1 fun t ht=>hl t (Ib.2 ht.symm)
  split at h
  ·rename_i t ht;refine wpIn_cond_split (hev.trans ht) (fun h1=>?_) (fun h1=>?_)
   ·exact ihx hok.1 ms K X R e1 a w hA1 hn (by rw[h1]at h;exact h)
   ·exact ihy hok.2 ms K X R e1 a w hA1 hn (by rw[h1]at h;exact h)
  ·exact h.elim
 | block id c ih =>
  intro hok ms K X R e a w hA hn h;simp only[uH]at hok;unfold Vj at h;refine wpIn_block (wpIn_mono (ih hok ms _ _ _ e a w hA hn h) fun ex a1 w1 hx=>?_);cases ex<;>simp only[QO]at hx<;>simp only[Exit.inBlock,QO]
  case normal=>exact hx
  case exit i =>
   obtain⟨ms1,e1,h1,h2,h3⟩:=hx;cases hb:Nat.beq i id
   ·rw[hb]at h3;rw[if_neg (EX hb)];exact⟨ms1,e1,h1,h2,h3⟩
   ·rw[hb]at h3;rw[if_pos (AL hb)];exact⟨ms1,e1,h1,h2,h3⟩
  case ret=>exact hx
 | rangeFunc g ps asg body _ _ =>
  intro hok ms K X R e a w hA hn h;simp only[uH,Lp]at hok;obtain⟨⟨⟨⟨⟨h1,h2⟩,h3⟩,h4⟩,h5⟩,h6⟩:=hok;unfold Vj at h;obtain⟨e1,hA1,_,_,hl,h⟩:=DU hA h;have hev:a.eval g=ev e1 g:=YF hA1 fun t ht=>hl t (Ib.2 ht.symm);unfold Y0 at h
  split at h
  ·rename_i f lb hg;refine cM hm hA1 hn h1 h2 h3 h4 (fun p hp=>?_) (RD h6) (hev.trans hg) h
   have:=dR.1 h5 p hp
   rwa [Nat.blt_eq]at this
  ·exact h.elim
theorem T8{fn:Func}{tmps:Array Value}{R:Ending->World->Prop}{n:Nat}{G:World->Prop}:∀(ms:List Nat)(w:World),zA ms G w ->
  (∀ w',G w'->∃ v,(results fn tmps).run P w'=.ok v w'/\R (.returned v) w')->LeavesInM (Fw none) n P fn tmps R (mkM ms) .returning w
 | [],w,h,hk=>hk w h
 | r::ms,w,h,hk=>⟨by simp,.inl ⟨r,_,rfl,run_takeDeferred h.1,T8 ms _ h.2 hk⟩⟩
theorem T0(hm : P.follows .mixedOrders = true){f : FuncId}{fn : Func}{args : List Value}{w : World}{K : Value → World → Prop}(hf : P.funcs[f]? = some fn)(hok : Af5 args.length fn = true)
    (hn : (fn.name == "runtime.NumGoroutine") = false) (h : jY P A fn args w K) : A8 P f args.toArray w K := by
  unfold jY at h;unfold Af5 at hok
  split at h
  · rename_i c hb
    rw[hb]at hok;simp only[Lp]at hok;refine⟨⟨fn, hf, by rw[hb];rfl, hn⟩, ?_⟩;refine callsIn_wide.1 (callsIn_of_wp_marks (n := 0) hf hb trivial ?_);have hsz : args.length ≤ fn.ntmps := Nat.le_of_ble_eq_true hok.1;refine wpIn_mono (gA hm (n := fn.ntmps) c hok.2 [] _ _ _ _ _ w ZS (by simp;omega) h) fun ex a w' hx => ?_;have fin : ∀ ms e, Kp (mkM ms) e a → zA ms (fun w => Ze P A w fn.results.toList e fun vs => K (YV vs) w) w' → LeavesInM (Fw none) 0 P fn a.tmps (AaU K) a.defers .returning w' := by
      intro ms e hA hr;rw[hA.1];refine T8 ms w' hr fun w2 hr => ?_;obtain⟨vs, h1, h2⟩ := Mh _ _ _ hA hr;refine⟨YV vs, ?_, h2⟩
      have e1 : results fn a.tmps = (do
          let vs ← fn.results.mapM (vG a.tmps)
          pure (if h : vs.size = 1 then vs[0]else .tuple vs)) := by
        unfold results
        congr 1
      rw[e1, Array.mapM_eq_mapM_toList];simp only[Sem.run_bind, Sem.run_map, h1, Result.andThen_ok, Sem.run_pure]
      congr 1
      cases vs with
      | nil => rfl
      | cons v r => cases r with
        | nil => rfl
        | cons u r => rfl
    cases ex<;>simp only[QO]at hx<;>simp only[bodyPostM]
    case normal => obtain⟨ms, e, b1, _, b3⟩ := hx;exact fin ms e b1 b3
    case ret => obtain⟨ms, e, b1, _, b3⟩ := hx;exact fin ms e b1 b3
    case exit i => obtain⟨ms, e, b1, _, b3⟩ := hx;exact b3
  · exact h.elim
end
end Go.Den
end
section
open Go Go.Den Go.Proofs
namespace Go.Z
abbrev G0:Nat:=9
abbrev Ng:Nat:=11
abbrev CD:Nat:=12
abbrev FC:Nat:=13
abbrev BH:Nat:=14
abbrev Bt:Nat:=16
abbrev C7:Nat:=17
abbrev BM:Nat:=19
abbrev EC:Nat:=20
abbrev AR:Nat:=22
abbrev FF:Nat:=23
abbrev AY:Nat:=30
abbrev E5:Nat:=45
abbrev Bu:Nat:=46
abbrev E9:Nat:=47
abbrev CC:Nat:=48
abbrev CH:Nat:=49
abbrev CF:Nat:=50
abbrev B0:Nat:=56
abbrev BP:Nat:=57
abbrev Ci:Nat:=58
abbrev Ec:Nat:=59
abbrev Gw:Nat:=60
abbrev ED:Nat:=61
abbrev Eb:Nat:=62
abbrev Hy:Nat:=63
abbrev Ea:Nat:=64
abbrev B1:Nat:=65
abbrev I3:Nat:=66
abbrev Ff:Nat:=68
abbrev FD:Nat:=69
abbrev EG:Nat:=70
abbrev Hg:Nat:=71
abbrev CV:Nat:=72
abbrev A0:Nat:=73
abbrev PP:Nat:=74
abbrev LS:Nat:=75
abbrev Nq:Nat:=76
abbrev Ha:Nat:=82
abbrev Fm:Nat:=83
abbrev FK:Nat:=84
abbrev KJ:Nat:=85
abbrev Ji:Nat:=86
abbrev CG:Nat:=87
abbrev Fp:Nat:=88
abbrev Fi:Nat:=89
abbrev E8:Nat:=90
abbrev Fg:Nat:=91
abbrev F3:Nat:=92
abbrev GS:Nat:=93
abbrev BZ:Nat:=94
abbrev Df:Nat:=95
abbrev Fh:Nat:=96
abbrev Cr:Nat:=105
abbrev G3:Nat:=106
abbrev Fk:Nat:=107
abbrev Bi:Nat:=109
abbrev Ed:Nat:=110
abbrev Dz:Nat:=111
abbrev G5:Nat:=112
abbrev LN:Nat:=113
abbrev E4:Nat:=114
abbrev ET:Nat:=115
abbrev DS:Nat:=116
abbrev UM:Nat:=117
abbrev ES:Nat:=118
abbrev F2:Nat:=119
abbrev Dn:Nat:=120
abbrev EH:Nat:=121
abbrev Nk:Nat:=122
abbrev Dy:Nat:=123
abbrev Do:Nat:=124
abbrev ER:Nat:=125
abbrev G7:Nat:=126
abbrev G6:Nat:=127
abbrev LM:Nat:=128
abbrev FL:Nat:=129
abbrev Dt:Nat:=130
abbrev Ck:Nat:=131
abbrev GZ:Nat:=132
abbrev Bo:Nat:=133
abbrev BX:Nat:=134
abbrev PQ:Nat:=135
abbrev Np:Nat:=136
abbrev LR:Nat:=137
abbrev Cs:Nat:=138
abbrev Jh:Nat:=139
abbrev UN:Nat:=140
abbrev F4:Nat:=141
abbrev HB:Nat:=142
abbrev G1:Nat:=143
abbrev Bh:Nat:=144
abbrev Bv:Nat:=145
abbrev Fo:Nat:=146
abbrev B4:Nat:=147
abbrev B3:Nat:=148
abbrev Fl:Nat:=149
abbrev E7:Nat:=150
abbrev Ct:Nat:=151
abbrev BY:Nat:=152
abbrev BS:Nat:=153
abbrev Dh:Nat:=154
abbrev D8:Nat:=155
abbrev E3:Nat:=156
abbrev NN:Nat:=157
abbrev Gx:Nat:=158
abbrev Cj:Nat:=159
abbrev Dg:Nat:=160
abbrev Dq:Nat:=161
abbrev Dp:Nat:=162
abbrev D9:Nat:=163
abbrev BI:Nat:=164
abbrev DA:Nat:=165
abbrev EF:Nat:=166
abbrev Bz:Nat:=167
abbrev Ee:Nat:=168
abbrev E6:Nat:=172
abbrev Hb:Nat:=182
abbrev Eg:Nat:=183
abbrev Ef:Nat:=184
abbrev EU:Nat:=186
abbrev I2:Nat:=187
abbrev JL:Nat:=188
abbrev JM:Nat:=189
abbrev HC:Nat:=190
abbrev Bb:Nat:=191
abbrev HD:Nat:=192
abbrev Jg:Nat:=193
abbrev Hz:Nat:=194
abbrev Nh:Nat:=195
abbrev CW:Nat:=196
abbrev Hf:Nat:=197
abbrev F1:Nat:=198
abbrev EP:Nat:=199
abbrev GY:Nat:=200
abbrev EQ:Nat:=201
abbrev Nm:Nat:=202
abbrev DB:Nat:=203
abbrev CA:Nat:=204
abbrev NO:Nat:=205
abbrev Ni:Nat:=206
abbrev JQ:Nat:=207
abbrev CI:Nat:=208
abbrev HW:Nat:=209
abbrev LP:Nat:=210
abbrev C8:Nat:=211
abbrev CN:Nat:=212
abbrev FI:Nat:=213
abbrev BN:Nat:=214
abbrev He:Nat:=215
abbrev FH:Nat:=216
abbrev A2:Nat:=217
abbrev EV:Nat:=218
abbrev EW:Nat:=219
abbrev FG:Nat:=220
abbrev G4:Nat:=221
abbrev D0:Nat:=222
abbrev LQ:Nat:=223
abbrev E0:Nat:=224
abbrev Bx:Nat:=225
abbrev CE:Nat:=226
abbrev FE:Nat:=227
abbrev AB:Nat:=229
abbrev Ai:Nat:=234
abbrev AT:Nat:=235
abbrev G2:Nat:=236
abbrev PO:Nat:=237
abbrev Gz:Nat:=238
abbrev LO:Nat:=239
abbrev Gc:Nat:=240
abbrev HV:Nat:=241
abbrev JP:Nat:=242
abbrev JO:Nat:=243
abbrev Nn:Nat:=244
abbrev Eu:Nat:=245
abbrev EE:Nat:=246
abbrev Nj:Nat:=247
abbrev Nl:Nat:=248
abbrev Dl:Nat:=249
abbrev BO:Nat:=250
abbrev Hc:Nat:=251
abbrev FM:Nat:=252
abbrev CO:Nat:=253
abbrev Ds:Nat:=254
abbrev Fj:Nat:=255
abbrev Gy:Nat:=256
abbrev CQ:Nat:=259
abbrev JN:Nat:=260
abbrev FJ:Nat:=261
abbrev D7:Nat:=262
abbrev H0:Nat:=274
abbrev Ru(s:Sem Value)(w:World)(v:Value)(w2:World):Prop:=s.run Tryz.prog w=.ok v w2
abbrev Eh(s:Sem Unit)(w w2:World):Prop:=s.run Tryz.prog w=.ok () w2
abbrev Al(s:Sem Value)(v:Value):Prop:=∀ w,s.run Tryz.prog w=.ok v w
abbrev JT(n:Nat)(a b:Int):Int:=(BitVec.ofInt n a &&& BitVec.ofInt n b).toNat
abbrev TY(n:Nat)(a b:Int):Int:=(BitVec.ofInt n a ||| BitVec.ofInt n b).toNat
abbrev HI(n:Nat)(a b:Int):Int:=(BitVec.ofInt n a ^^^ BitVec.ofInt n b).toNat
abbrev Vd(n:Nat)(a b:Int):Int:=(BitVec.ofInt n a &&& ~~~(BitVec.ofInt n b)).toNat
abbrev YA:=Value->World->Prop
abbrev YB:=Option Addr
abbrev YC(f:Nat)(args:Array Value)(w:World)(K:YA):Prop:=A8 Tryz.prog f args w K
abbrev YD(T:Nat)(q:Addr)(w:World)(v:Value):Prop:=Ru (Instr.loadAt T (.pointer (some q))) w v w
abbrev YE(T:Nat)(q:Addr)(v:Value)(w w2:World):Prop:=Eh (Instr.storeAt T (.pointer (some q)) v) w w2
abbrev Yz(f:Nat)(a:Array Value)(D:World->YA->Prop):Prop := ∀ w K,D w K->A8 Tryz.prog f a w K
abbrev Yq(T:Nat)(w:World)(q:Addr)(v:World):Prop := Ru (Instr.alloc T true (.tuple #[])) w (.pointer (some q)) v
abbrev Yb(T:Nat)(x:Value)(w:World)(q:Addr)(v:World):Prop := Ru (Instr.box T x) w (.pointer (some q)) v
abbrev Yi(q:Addr)(w:World)(n:Int):Prop := YD 3 q w (.int .i64 n)
abbrev Yg(T:Nat)(q:Addr)(w:World)(g:Array Value):Prop := YD T q w (.agg g)
abbrev Yp(T:Nat)(q:Addr)(w:World)(p:YB):Prop := YD T q w (.pointer p)
abbrev Yx(T:Nat)(x y:Value)(q:Addr):Prop := Al (Instr.indexAt T x y) (.pointer (some q))
theorem tX:Tryz.prog.follows .mixedOrders=true:=by kernel_rfl
end Go.Z
end
section
open Go Go.Den
namespace Go.Den
section
variable{P:Program}{w:World}
theorem Ac.dup{B:(List Value->World->Prop)->Prop}{C:List Value->World->Prop}(h:B C):Ac B C:=⟨C,fun _ _ h=>h,h⟩
theorem Ac.cut{B:(List Value->World->Prop)->Prop}{C:List Value->World->Prop}(J:List Value->World->Prop)(hB:B J)(hC:∀ x w,J x w->C x w):Ac B C:=⟨J,hC,hB⟩
theorem tt{b:Bool}{T F:Prop}(hb:b=true)(h:T):cond b T F:=by rw[hb];exact h
theorem ff{b:Bool}{T F:Prop}(hb:b=false)(h:F):cond b T F:=by rw[hb];exact h
theorem Ac.or{c d:Bool}{C:List Value->World->Prop}(h:C [.bool (c || d)] w):Ac (fun k=>bif c then k [.bool true] w else k [.bool d] w) C:=Ac.dup (by cases c<;>simpa using h)
theorem Ag{x:Int}(h0:-9223372036854775808<=x)(h1:x<=9223372036854775807):IntKind.i64.wrap x=x:=by
 simp only[IntKind.wrap,IntKind.bits,IntKind.signed]at *;simp at *;omega
theorem El{x:Int}(h0:0<=x)(h1:x<=18446744073709551615):IntKind.u64.wrap x=x:=by
 simp only[IntKind.wrap,IntKind.bits,IntKind.signed]at *;simp at *;omega
theorem Ko{x:Int}:IntKind.u8.wrap x=x % 256:=by
 simp only[IntKind.wrap,IntKind.bits,IntKind.signed]at *;simp at *
theorem lF{o o':Obj}:NA (w.alloc o) w.heap.size o'=w.alloc o':=by
 unfold NA World.alloc
 congr 1
 apply Array.ext_getElem?;intro i;by_cases hi:w.heap.size=i
 ·subst hi;simp
 ·rw[xS hi,Array.getElem?_push,Array.getElem?_push,if_neg (fun e=>hi e.symm),if_neg (fun e=>hi e.symm)]
theorem Ot{T n:Nat}{z l:List Value}{t:TypeId}(hT:Ei P T=some n)(hz:z.length=n)(hl:l.length=n)(hv:∀ v∈l,v.oneCell'=true) :
  (Instr.storeAt T (.pointer (some ⟨w.heap.size,0,none⟩)) (.agg ⟨l⟩)).run P (w.alloc (.cells ⟨z⟩ t))=.ok () (w.alloc (.cells ⟨l⟩ t)):=by
 rw[XZ hT (BC w _) hl (by omega) (fun j _ _=>by simp) hv,lF];have:AA z 0 l=l:=by unfold AA;simp[hz,hl]
 rw[this]
theorem tS{T n:Nat}{l:List Value}{t:TypeId}(hT:Ei P T=some n)(hl:l.length=n) :
  (Instr.loadAt T (.pointer (some ⟨w.heap.size,0,none⟩))).run P (w.alloc (.cells ⟨l⟩ t))=.ok (.agg ⟨l⟩) (w.alloc (.cells ⟨l⟩ t)):=by
 rw[bQ hT (BC w _) (by omega)];simp[Lg (mK hl)]
theorem I6{T:TypeId}{v:Value}:(Instr.box T v).run P w=.ok (.pointer (some ⟨w.heap.size,0,none⟩)) (w.alloc (.cells v.cells T)):=rfl
theorem mU{T:TypeId}{i:TypeInfo}{z:Value}(hi:P.info? T=some i)(hz:i.zero=some z) :
  (Instr.alloc T true (.tuple #[])).run P w=.ok (.pointer (some ⟨w.heap.size,0,none⟩)) (w.alloc (.cells z.cells T)):=by
 simp[Instr.alloc,zeroValue,typeInfo,hi,hz,newVar,newRow]
end
end Go.Den
end
section
open Go Go.Den
namespace Go.Den
section
variable{P:Program}{w:World}
def At(w:World)(b o:Nat)(cs:List Value):Prop :=
 ∃ l t fz,w.heap[b]?=some (.cells ⟨l⟩ t fz)/\o+cs.length<=l.length/\(l.drop o).take cs.length=cs
def A1(w:World)(b o:Nat)(cs:List Value):Prop :=
 ∃ l t fz,w.heap[b]?=some (.cells ⟨l⟩ t fz)/\o+cs.length<=l.length/\(l.drop o).take cs.length=cs/\∀ j,o<=j->j<o+cs.length->¬ (fz.1<=j/\j<fz.2)
theorem A1.at{b o:Nat}{cs:List Value}(h:A1 w b o cs):At w b o cs:=by obtain⟨l,t,fz,h1,h2,h3,_⟩:=h;exact⟨l,t,fz,h1,h2,h3⟩
theorem At.lt{b o:Nat}{cs:List Value}(h:At w b o cs):b<w.heap.size:=by obtain⟨l,t,fz,h1,_⟩:=h;exact AK h1
theorem A1.lt{b o:Nat}{cs:List Value}(h:A1 w b o cs):b<w.heap.size:=h.at.lt
theorem At.of_eq{b o:Nat}{cs:List Value}{w':World}(h:At w b o cs)(e:w'.heap[b]?=w.heap[b]?):At w' b o cs:=by
 obtain⟨l,t,fz,h1,h2⟩:=h;exact⟨l,t,fz,e.trans h1,h2⟩
theorem A1.of_eq{b o:Nat}{cs:List Value}{w':World}(h:A1 w b o cs)(e:w'.heap[b]?=w.heap[b]?):A1 w' b o cs:=by
 obtain⟨l,t,fz,h1,h2⟩:=h;exact⟨l,t,fz,e.trans h1,h2⟩
theorem At.keep{b o:Nat}{cs:List Value}{w':World}{S:Nat->Prop}(h:At w b o cs)(m:Ab S w w')(hb:¬ S b):At w' b o cs:=h.of_eq (m.block b h.lt hb)
theorem A1.keep{b o:Nat}{cs:List Value}{w':World}{S:Nat->Prop}(h:A1 w b o cs)(m:Ab S w w')(hb:¬ S b):A1 w' b o cs:=h.of_eq (m.block b h.lt hb)
theorem At.drew{b o:Nat}{cs:List Value}(h:At w b o cs):At (Ah w) b o cs:=h
theorem A1.drew{b o:Nat}{cs:List Value}(h:A1 w b o cs):A1 (Ah w) b o cs:=h
theorem F0{l cs:List Value}{o:Nat}(h3:(l.drop o).take cs.length=cs)(i:Nat)(hi:i<cs.length):l[o+i]?=some cs[i]:=by
 have:cs[i]?=some cs[i]:=by simp[hi]
 rw[<- this]
 conv=>rhs;rw[<- h3]
 rw[Lp3,if_pos hi,Lv2]
theorem dB{l cs:List Value}{o i m:Nat}(h3:(l.drop o).take cs.length=cs)(him:i+m<=cs.length):(l.drop (o+i)).take m=(cs.drop i).take m:=by
 conv=>rhs;rw[<- h3]
 rw[<- UO,List.drop_take,Lv5]
 congr 1;omega
theorem At.sub{b o:Nat}{cs:List Value}(h:At w b o cs){i m:Nat}(him:i+m<=cs.length):At w b (o+i) ((cs.drop i).take m):=by
 obtain⟨l,t,fz,h1,h2,h3⟩:=h;have hl:((cs.drop i).take m).length=m:=by simp;omega
 refine⟨l,t,fz,h1,by omega,?_⟩;rw[hl];exact dB h3 him
theorem At.load{T:TypeId}{b o i:Nat}{cs:List Value}{v:Value}(hT:DQ P T=true)(h:At w b o cs)(hv:cs[i]?=some v):(Instr.loadAt T (.pointer (some ⟨b,o+i,none⟩))).run P w=.ok v w:=by
 obtain⟨l,t,fz,h1,h2,h3⟩:=h;have hi:i<cs.length:=(Lh.1 hv).1;refine oQ hT h1 ?_;rw[F0 h3 i hi];rw[<- hv];simp[hi]
theorem At.loadAgg{T:TypeId}{b o i n:Nat}{cs:List Value}(hT:Ei P T=some n)(h:At w b o cs)(hi:i+n<=cs.length):(Instr.loadAt T (.pointer (some ⟨b,o+i,none⟩))).run P w=.ok (.agg ⟨(cs.drop i).take n⟩) w:=by
 obtain⟨l,t,fz,h1,h2,h3⟩:=h;rw[bQ hT h1 (by omega),dB h3 hi]
theorem SS{l cs vs:List Value}{o i:Nat}(h2:o+cs.length<=l.length)(h3:(l.drop o).take cs.length=cs)(hi:i+vs.length<=cs.length) :
  ((AA l (o+i) vs).drop o).take (AA cs i vs).length=AA cs i vs:=by
 rw[BD hi];have e:AA l (o+i) vs=l.take o++(AA cs i vs++l.drop (o+cs.length)):=by
  have hl:l=l.take o++(cs++l.drop (o+cs.length)):=by
   conv=>lhs;rw[<- Lh2 o l,<- Lh2 cs.length (l.drop o),h3,UO]
  have hlen:(l.take o).length=o:=by simp;omega
  unfold AA;have e1:l.take (o+i)=l.take o++cs.take i:=by
   conv=>lhs;rw[hl]
   rw[Lf6,hlen,Lg (by omega),show o+i-o=i by omega,Lf6,show i-cs.length=0 by omega];simp
  have e2:l.drop (o+i+vs.length)=cs.drop (i+vs.length)++l.drop (o+cs.length):=by
   conv=>lhs;rw[hl]
   rw[WD,hlen,Lt (by omega),QN,show o+i+vs.length-o=i+vs.length by omega,WD,show i+vs.length-cs.length=0 by omega];simp
  rw[e1,e2];simp
 have hlen:(l.take o).length=o:=by simp;omega
 rw[e,WD,hlen,Lt (by omega),QN,fG,Uq,Lv (by rw[BD hi];omega),Lg (by rw[BD hi];omega)]
theorem A1.store{T:TypeId}{b o i:Nat}{cs:List Value}{v:Value}(hT:DQ P T=true)(h:A1 w b o cs)(hi:i<cs.length)(hv:v.oneCell'=true) :
  ∃ w',(Instr.storeAt T (.pointer (some ⟨b,o+i,none⟩)) v).run P w=.ok () w'/\A1 w' b o (cs.set i v)/\Ab (fun x=>x=b) w w'/\w'.heap.size=w.heap.size:=by
 obtain⟨l,t,fz,h1,h2,h3,h4⟩:=h;refine⟨_,Mn hT h1 (by omega) (h4 _ (by omega) (by omega)) hv,⟨l.set (o+i) v,t,fz,AZ (AK h1),by simp;omega,?_,fun j a1 a2=>h4 j a1 (by simpa using a2)⟩,(Ab.refl (fun x=>x=b) w).put (.inr rfl) _,by simp⟩;have e1:l.set (o+i) v=AA l (o+i) [v]:=by
  unfold AA;rw[Li3,if_pos (by omega)];simp
 have e2:cs.set i v=AA cs i [v]:=by
  unfold AA;rw[Li3,if_pos hi];simp
 rw[e1,e2];exact SS h2 h3 (by simp;omega)
theorem A1.storeAgg{T:TypeId}{b o i n:Nat}{cs vs:List Value}(hT:Ei P T=some n)(h:A1 w b o cs)(hn:vs.length=n)(hi:i+n<=cs.length)(hv:∀ v∈vs,v.oneCell'=true) :
  ∃ w',(Instr.storeAt T (.pointer (some ⟨b,o+i,none⟩)) (.agg ⟨vs⟩)).run P w=.ok () w'/\A1 w' b o (AA cs i vs)/\Ab (fun x=>x=b) w w'/\w'.heap.size=w.heap.size:=by
 obtain⟨l,t,fz,h1,h2,h3,h4⟩:=h;subst hn;refine⟨_,XZ hT h1 rfl (by omega) (fun j a1 a2=>h4 j (by omega) (by omega)) hv,⟨AA l (o+i) vs,t,fz,AZ (AK h1),?_,SS h2 h3 hi,fun j a1 a2=>h4 j a1 (by rwa [BD hi]at a2)⟩,(Ab.refl (fun x=>x=b) w).put (.inr rfl) _,by simp⟩;rw[BD hi,BD (by omega)];exact h2
theorem A1.new{cs:List Value}{t:TypeId}:A1 (w.alloc (.cells ⟨cs⟩ t)) w.heap.size 0 cs :=
 ⟨cs,t,(0,0),BC w _,by simp,by simp,fun j _ _=>by simp⟩
def Ab5(P:Program)(T:TypeId):Option (Nat×Array Value×Nat) :=
 match P.underlying T with
 | some (.slice e)=>match P.info? e with
  | some i=>match i.zero with
   | some z=>some (i.size,z.cells,i.bytes)
   | none=>none
  | none=>none
 | _=>none
def D5(P:Program)(T:TypeId)(k:Nat)(z:Value)(bytes:Nat):Prop:=Ab5 P T=some (k,⟨List.replicate k z⟩,bytes)
theorem D5.is{T:TypeId}{k bytes:Nat}{z:Value}(h:D5 P T k z bytes):∃ e i zv,P.underlying T=some (.slice e)/\P.info? e=some i/\i.size=k/\i.zero=some zv/\zv.cells=⟨List.replicate k z⟩/\i.bytes=bytes:=by
 unfold D5 Ab5 at h
 split at h
 ·rename_i e he
  split at h
  ·rename_i i hi
   split at h
   ·rename_i zv hz;have h:=Ln h;simp only[Lc6]at h;exact⟨e,i,zv,he,hi,h.1,hz,h.2.1,h.2.2⟩
   ·cases h
  ·cases h
 ·cases h
theorem Wd{cs old:List Value}(h:cs.length=old.length):AA old 0 cs=cs:=by
 unfold AA;simp[h]
theorem cZ{cs vs:List Value}{i:Nat}{v:Value}(h:i+vs.length<cs.length):(AA cs i vs).set (i+vs.length) v=AA cs i (vs++[v]):=by
 have hlen:(cs.take i++vs).length=i+vs.length:=by simp;omega
 unfold AA;rw[List.set_append_right _ _ (by omega),hlen,fG];have:cs.drop (i+vs.length)=cs[i+vs.length]::cs.drop (i+vs.length+1):=List.drop_eq_getElem_cons h;rw[this];simp[xQ]
theorem D3{T:TypeId}{k bytes:Nat}{z:Value}{n:Nat}(hT:D5 P T k z bytes)(hk0:0<k)(hb:bytes*n<=281474976710656)(hn:n<=9223372036854775807) :
  ∃ w',(Instr.makeSlice T (.int .i64 n) (.int .i64 n)).run P w=.ok (.slice (some ⟨w.heap.size,0,none⟩) n n) w'/\A1 w' w.heap.size 0 (List.replicate (n*k) z)/\Ab No w w'/\w'.heap.size=w.heap.size+1:=by
 obtain⟨e,i,zv,he,hi,hk,hz,hzc,hby⟩:=hT.is;have hcells:madeCells zv.cells (n*k)=⟨List.replicate (n*k) z⟩:=by
  rw[hzc];unfold madeCells;apply Array.ext
  ·simp
  ·intro j hj1 hj2;simp at hj1;have:j % k<k:=mJ _ hk0;simp[this]
 have h:=run_make w T e i zv he hi hz .i64 .i64 (n:Int) (n:Int) (by omega) (by omega) (by rw[hby];have:=Int.ofNat_le.2 hb;rw[Int.natCast_mul]at this;exact this) (by omega);rw[hk,Lr,hcells]at h;exact⟨_,h,A1.new,(Ab.refl No w).alloc _,World.size_alloc _ _⟩
end
section
variable{P:Program}{w:World}
theorem At.cells{b o n:Nat}{cs:List Value}(h:At w b o cs)(hn:n<=cs.length):(loadCells ⟨b,o,none⟩ n).run P w=.ok ⟨cs.take n⟩ w:=by
 obtain⟨l,t,fz,h1,h2,h3⟩:=h;have hl:(cs.take n).length=n:=by simp;omega
 have:=run_loadCells_list (P:=P) w ⟨b,o,none⟩ (cs.take n) (fun j v hj=>by
  have hjn:j<n:=by have:=(Lh.1 hj).1;omega
  rw[Ad,NW h1,F0 h3 j (by omega)];rw[Lp3,if_pos hjn]at hj
  rw[<- hj];simp)
 rwa [hl]at this
theorem A1.stores{b o i:Nat}{cs vs:List Value}(h:A1 w b o cs)(hi:i+vs.length<=cs.length)(hv:∀ v∈vs,v.oneCell'=true) :
  ∃ w',(storeCells ⟨b,o+i,none⟩ vs).run P w=.ok () w'/\A1 w' b o (AA cs i vs)/\Ab (fun x=>x=b) w w'/\w'.heap.size=w.heap.size:=by
 obtain⟨l,t,fz,h1,h2,h3,h4⟩:=h
 have:=HQ (P:=P) vs (o:=o+i) (i:=0) h1 (by omega) (fun j a1 a2=>h4 j (by omega) (by omega)) hv
 refine⟨_,this,⟨AA l (o+i) vs,t,fz,AZ (AK h1),?_,SS h2 h3 hi,fun j a1 a2=>h4 j a1 (by rwa [BD hi]at a2)⟩,(Ab.refl (fun x=>x=b) w).put (.inr rfl) _,by simp⟩;rw[BD hi,BD (by omega)];exact h2
theorem aK{T T2 ty:TypeId}{k b o n c n2 c2:Nat}{a2:Option Addr}{old src:List Value}(hT:Ge P T=some k)(hd:A1 w b o old)(hold:old.length=n*k)
  (hs:src=[]\/∃ b2 o2,a2=some ⟨b2,o2,none⟩/\At w b2 o2 src) (hsrc:src.length=n2*k) (hv:∀ v∈src,v.oneCell'=true) :
  ∃ w',(Builtin.copy_ #[T,T2] ty #[.slice (some ⟨b,o,none⟩) n c,.slice a2 n2 c2]).run P w=.ok (.int .i64 (Nat.min n2 n:Nat)) w' /\
   A1 w' b o (AA old 0 (src.take (Nat.min n2 n*k)))/\Ab (fun x=>x=b) w w'/\w'.heap.size=w.heap.size:=by
 obtain⟨e,i,he,hi,hk⟩:=JW hT;have hm1:Nat.min n2 n*k<=src.length:=by rw[hsrc];exact mI _ (Nat.min_le_left _ _)
 have hm2:Nat.min n2 n*k<=old.length:=by rw[hold];exact mI _ (Nat.min_le_right _ _)
 have hf:(Builtin.firstCells k (Nat.min n2 n) (.slice a2 n2 c2)).run P w=.ok ⟨src.take (Nat.min n2 n*k)⟩ w:=by
  rcases hs with rfl|⟨b2,o2,rfl,hat⟩
  ·cases a2 with
   | none=>simp[Builtin.firstCells]
   | some a =>
    have h0:Nat.min n2 n*k=0:=by simpa using hm1
    simp only[Builtin.firstCells,h0];rfl
  ·simp only[Builtin.firstCells];exact hat.cells hm1
 obtain⟨w',h1,h2,h3,h4⟩:=hd.stores (P:=P) (i:=0) (vs:=src.take (Nat.min n2 n*k)) (by simp;omega) (fun v hv'=>hv v (Ly3 hv'));refine⟨w',?_,h2,h3,h4⟩;have h1:(storeCells ⟨b,o,none⟩ (src.take (Nat.min n2 n*k))).run P w=.ok () w':=h1;simp[Builtin.copy_,AI he,Builtin.lenOf,sizeOf,typeInfo,hi,hk,hf,h1,goInt]
theorem H1{T T2 ty:TypeId}{k b o i n c n2 c2:Nat}{a2:Option Addr}{cs src:List Value}(hT:Ge P T=some k)(hd:A1 w b o cs)(hin:i+n*k<=cs.length)
  (hs:src=[]\/∃ b2 o2,a2=some ⟨b2,o2,none⟩/\At w b2 o2 src) (hsrc:src.length=n2*k) (hv:∀ v∈src,v.oneCell'=true) :
  ∃ w',(Builtin.copy_ #[T,T2] ty #[.slice (some ⟨b,o+i,none⟩) n c,.slice a2 n2 c2]).run P w=.ok (.int .i64 (Nat.min n2 n:Nat)) w' /\
   A1 w' b o (AA cs i (src.take (Nat.min n2 n*k)))/\Ab (fun x=>x=b) w w'/\w'.heap.size=w.heap.size:=by
 obtain⟨e,inf,he,hi,hk⟩:=JW hT;have hm1:Nat.min n2 n*k<=src.length:=by rw[hsrc];exact mI _ (Nat.min_le_left _ _)
 have hm2:Nat.min n2 n*k<=n*k:=mI _ (Nat.min_le_right _ _);have hf:(Builtin.firstCells k (Nat.min n2 n) (.slice a2 n2 c2)).run P w=.ok ⟨src.take (Nat.min n2 n*k)⟩ w:=by
  rcases hs with rfl|⟨b2,o2,rfl,hat⟩
  ·cases a2 with
   | none=>simp[Builtin.firstCells]
   | some a =>
    have h0:Nat.min n2 n*k=0:=by simpa using hm1
    simp only[Builtin.firstCells,h0];rfl
  ·simp only[Builtin.firstCells];exact hat.cells hm1
 obtain⟨w',h1,h2,h3,h4⟩:=hd.stores (P:=P) (i:=i) (vs:=src.take (Nat.min n2 n*k)) (by simp;omega) (fun v hv'=>hv v (Ly3 hv'));refine⟨w',?_,h2,h3,h4⟩;simp[Builtin.copy_,AI he,Builtin.lenOf,sizeOf,typeInfo,hi,hk,hf,h1,goInt]
end
end Go.Den
end
section
open Go Go.Den
namespace Go.Den
theorem GO(a b:Int):(a==b)=decide (a=b):=by rw[Lu,xH,Lw]
theorem Di(a b:Int):(a != b)=decide (a≠b):=by show(!(a==b))=_;rw[GO,Lj5]
section
variable{P:Program}{w:World}
def PR(P:Program)(T:TypeId):Option (Nat×Nat) :=
 match P.underlying T with
 | some (.array n e)=>match P.info? e with | some i=>some (n,i.size) | none=>none
 | _=>none
theorem Sz{T:TypeId}{n k:Nat}(h:PR P T=some (n,k)):∃ e i,P.underlying T=some (.array n e)/\P.info? e=some i/\i.size=k:=by
 unfold PR at h
 split at h
 ·rename_i n' e he
  split at h
  ·rename_i i hi;have h:=Ln h;simp only[Lc6]at h;obtain⟨rfl,rfl⟩:=h;exact⟨e,i,he,hi,rfl⟩
  ·cases h
 ·cases h
theorem B5{T:TypeId}{k n:Nat}{a:Addr}{kk:IntKind}{i:Int}(hT:PR P T=some (n,k))(h0:0<=i)(hn:i<n)(w:World) :
  (Instr.indexAt T (.pointer (some a)) (.int kk i)).run P w=.ok (.pointer (some (a.add (i.toNat*k)))) w:=by
 obtain⟨e,inf,he,hi,hk⟩:=Sz hT;simp only[Instr.indexAt,asIntOf,Sem.run_bind,Sem.run_pure,Result.andThen_ok,AI he,Instr.sureAddr];rw[if_pos ⟨h0,hn⟩];simp only[Sem.run_bind,Cf hi,Result.andThen_ok,Sem.run_pure,hk]
theorem Ba{T:TypeId}{k n b o:Nat}(hT:PR P T=some (n,k))(w:World) :
  (Instr.sliceAt T (.pointer (some ⟨b,o,none⟩)) none none none).run P w=.ok (.slice (some ⟨b,o,none⟩) n n) w:=by
 obtain⟨e,inf,he,hi,hk⟩:=Sz hT;simp only[Instr.sliceAt,Sem.run_bind,AI he,Result.andThen_ok,Instr.sureAddr,Sem.run_pure,Instr.sliceBounds,Lq3,Cf hi,hk];rw[Ad];simp
theorem Oo{T:TypeId}{k n b o:Nat}{k1 k2:IntKind}{l h:Int}(hT:PR P T=some (n,k))(h0:0<=l)(h1:l<=h)(h2:h<=n)(hl:l<n)(w:World) :
  (Instr.sliceAt T (.pointer (some ⟨b,o,none⟩)) (some (.int k1 l)) (some (.int k2 h)) none).run P w=.ok (.slice (some ⟨b,o+l.toNat*k,none⟩) (h.toNat-l.toNat) (n-l.toNat)) w:=by
 obtain⟨e,inf,he,hi,hk⟩:=Sz hT;have hb1:=fun code=>Fx (P:=P) (kk:=k2) (i:=h) (y:=n) (code:=code) (by omega) h2 w;have hb2:=fun code=>Fx (P:=P) (kk:=k1) (i:=l) (y:=h.toNat) (code:=code) h0 (by omega) w;simp only[Instr.sliceAt,Sem.run_bind,AI he,Result.andThen_ok,Instr.sureAddr,Sem.run_pure,Instr.sliceBounds,Lq3,Cf hi,hk,hb1,hb2,dX,WA]
 rw[Ad,if_neg (by omega)]
theorem vX{T:TypeId}{k n b o:Nat}{k2:IntKind}{h:Int}(hT:PR P T=some (n,k))(h1:0<=h)(h2:h<=n)(w:World) :
  (Instr.sliceAt T (.pointer (some ⟨b,o,none⟩)) none (some (.int k2 h)) none).run P w=.ok (.slice (some ⟨b,o,none⟩) h.toNat n) w:=by
 obtain⟨e,inf,he,hi,hk⟩:=Sz hT;have hb1:=fun code=>Fx (P:=P) (kk:=k2) (i:=h) (y:=n) (code:=code) (by omega) h2 w;simp only[Instr.sliceAt,Sem.run_bind,AI he,Result.andThen_ok,Instr.sureAddr,Sem.run_pure,Instr.sliceBounds,Lq3,Cf hi,hk,hb1,dX,WA];rw[Ad];simp
theorem vY{T:TypeId}{k n b o:Nat}{k1:IntKind}{l:Int}(hT:PR P T=some (n,k))(h0:0<=l)(hl:l<n)(w:World) :
  (Instr.sliceAt T (.pointer (some ⟨b,o,none⟩)) (some (.int k1 l)) none none).run P w=.ok (.slice (some ⟨b,o+l.toNat*k,none⟩) (n-l.toNat) (n-l.toNat)) w:=by
 obtain⟨e,inf,he,hi,hk⟩:=Sz hT;have hb2:=fun code=>Fx (P:=P) (kk:=k1) (i:=l) (y:=n) (code:=code) h0 (by omega) w;simp only[Instr.sliceAt,Sem.run_bind,AI he,Result.andThen_ok,Instr.sureAddr,Sem.run_pure,Instr.sliceBounds,Lq3,Cf hi,hk,hb2,dX,WA];rw[Ad,if_neg (by omega)]
theorem AC{T:TypeId}{cs:List Value}:∃ w1,(Instr.box T (.agg ⟨cs⟩)).run P w=.ok (.pointer (some ⟨w.heap.size,0,none⟩)) w1/\A1 w1 w.heap.size 0 cs/\Ab No w w1/\w1.heap.size=w.heap.size+1 :=
 ⟨_,I6,A1.new,(Ab.refl No w).alloc _,World.size_alloc _ _⟩
theorem ZU{T:TypeId}{v:Value}(hv:v.cells=⟨[v]⟩):∃ w1,(Instr.box T v).run P w=.ok (.pointer (some ⟨w.heap.size,0,none⟩)) w1/\A1 w1 w.heap.size 0 [v]/\Ab No w w1/\w1.heap.size=w.heap.size+1 :=
 ⟨_,I6,by rw[hv];exact A1.new,(Ab.refl No w).alloc _,World.size_alloc _ _⟩
def HT(P:Program)(T:TypeId):Option (List Value):=match P.info? T with | some i=>(match i.zero with | some z=>some z.cells.toList | none=>none) | none=>none
theorem A9{T:TypeId}{cs:List Value}(h:HT P T=some cs):∃ w1,(Instr.alloc T true (.tuple #[])).run P w=.ok (.pointer (some ⟨w.heap.size,0,none⟩)) w1/\A1 w1 w.heap.size 0 cs/\Ab No w w1/\w1.heap.size=w.heap.size+1:=by
 unfold HT at h
 split at h
 ·rename_i i hi
  split at h
  ·rename_i z hz;have h:=Ln h;refine⟨_,mU hi hz,?_,(Ab.refl No w).alloc _,World.size_alloc _ _⟩;have e:z.cells=⟨cs⟩:=by rw[<- h]
   rw[e];exact A1.new
  ·cases h
 ·cases h
theorem At.fld{T:TypeId}{b j:Nat}{cs:List Value}{v:Value}(h:At w b 0 cs)(hT:DQ P T=true)(hv:cs[j]?=some v):(Instr.loadAt T (.pointer (some (Addr.add ⟨b,0,none⟩ j)))).run P w=.ok v w:=by
 rw[Ad];exact h.load hT hv
theorem At.fld2{T:TypeId}{b j i:Nat}{cs:List Value}{v:Value}(h:At w b 0 cs)(hT:DQ P T=true)(hv:cs[j+i]?=some v):(Instr.loadAt T (.pointer (some (Addr.add (Addr.add ⟨b,0,none⟩ j) i)))).run P w=.ok v w:=by
 rw[Ad,Ad,xQ];exact h.load hT hv
theorem At.all{T:TypeId}{b n:Nat}{cs:List Value}(h:At w b 0 cs)(hT:Ei P T=some n)(hn:cs.length=n):(Instr.loadAt T (.pointer (some ⟨b,0,none⟩))).run P w=.ok (.agg ⟨cs⟩) w:=by
 have:=h.loadAgg (i:=0) hT (by omega)
 rw[Uq,Lg (by omega)]at this;exact this
theorem At.one{T:TypeId}{b:Nat}{v:Value}(h:At w b 0 [v])(hT:DQ P T=true):(Instr.loadAt T (.pointer (some ⟨b,0,none⟩))).run P w=.ok v w:=h.load (i:=0) hT rfl
theorem At.fldA{T:TypeId}{b j n:Nat}{cs vs:List Value}(h:At w b 0 cs)(hT:Ei P T=some n)(hj:j+n<=cs.length)(hv:(cs.drop j).take n=vs):(Instr.loadAt T (.pointer (some (Addr.add ⟨b,0,none⟩ j)))).run P w=.ok (.agg ⟨vs⟩) w:=by
 rw[Ad,<- hv];exact h.loadAgg hT hj
theorem A1.put{T:TypeId}{b n:Nat}{cs vs:List Value}(h:A1 w b 0 cs)(hT:Ei P T=some n)(hc:cs.length=n)(hn:vs.length=n)(hv:∀ v∈vs,v.oneCell'=true) :
  ∃ w',(Instr.storeAt T (.pointer (some ⟨b,0,none⟩)) (.agg ⟨vs⟩)).run P w=.ok () w'/\A1 w' b 0 vs/\Ab (fun x=>x=b) w w'/\w'.heap.size=w.heap.size:=by
 obtain⟨w',h1,h2,h3,h4⟩:=h.storeAgg (i:=0) hT hn (by omega) hv;rw[Wd (by omega)]at h2;exact⟨w',h1,h2,h3,h4⟩
theorem A1.putF{T:TypeId}{b j:Nat}{cs:List Value}{v:Value}(h:A1 w b 0 cs)(hT:DQ P T=true)(hj:j<cs.length)(hv:v.oneCell'=true) :
  ∃ w',(Instr.storeAt T (.pointer (some (Addr.add ⟨b,0,none⟩ j))) v).run P w=.ok () w'/\A1 w' b 0 (cs.set j v)/\Ab (fun x=>x=b) w w'/\w'.heap.size=w.heap.size:=by
 rw[Ad];exact h.store hT hj hv
theorem A1.put1{T:TypeId}{b:Nat}{u v:Value}(h:A1 w b 0 [u])(hT:DQ P T=true)(hv:v.oneCell'=true) :
  ∃ w',(Instr.storeAt T (.pointer (some ⟨b,0,none⟩)) v).run P w=.ok () w'/\A1 w' b 0 [v]/\Ab (fun x=>x=b) w w'/\w'.heap.size=w.heap.size:=h.store (i:=0) hT (by simp) hv
theorem Ab.own{w0 w1 w2:World}{b:Nat}(h:Ab No w0 w1)(k:Ab (fun x=>x=b) w1 w2)(hb:w0.heap.size<=b):Ab No w0 w2:=h.trans k fun x hx e=>by subst e;omega
end
end Go.Den
end
