/- Parts of the proof, in order: what the statement leans on. -/
import Derived.Test.YtelhlihjihklbaaGreatBa
section
open Go Go.Den Go.Proofs
namespace Go.Proofs.YtelhlihjihklbaaGreat
set_option maxRecDepth 100000
theorem denF_of {A:An} {f:FuncId} {fn:Func} {args:List Value} {w:World} {K:Value->World->Prop} {Q:Prop} (hf:Tryz.prog.funcs[f]?=some fn) (hok:okF args.length fn=true) (hn:(fn.name=="runtime.NumGoroutine")=false) (e:denF Tryz.prog A fn args w K=Q) (h:Q):Cal Tryz.prog f args.toArray w K:=denF_sound (A:=A) mixed hf hok hn (e.mpr h)
def D_leveelaw14_AllocNil (n0:Int) (n1:Int) (w0:World) (K:YA):Prop :=
 YC F_alloc_New #[.pointer none] w0 fun r17 w1=>∃ p17:YB,r17=.pointer p17/\YC F_alloc_Alloc_Block #[.pointer p17,.int .i64 n0] w1 fun r21 w2=>∃ n21a:Int,∃ n21b:Int,∃ n21c:Int,r21=.tuple #[.int .i64 n21a,.int .i64 n21b,.int .i64 n21c]/\YC F_alloc_Alloc_Slot #[.pointer p17,.int .i64 n0] w2 fun r28 w3=>∃ n28a:Int,∃ n28b:Int,∃ n28c:Int,r28=.tuple #[.int .i64 n28a,.int .i64 n28b,.int .i64 n28c]/\YC F_alloc_Alloc_Free #[.pointer p17] w3 fun r34 w4=>∃ n34a:Int,∃ n34b:Int,r34=.tuple #[.int .i64 n34a,.int .i64 n34b]/\YC F_alloc_Alloc_Used #[.pointer p17,.int .i64 n0] w4 fun r40 w5=>∃ n40a:Int,∃ n40b:Int,∃ n40c:Int,r40=.tuple #[.int .i64 n40a,.int .i64 n40b,.int .i64 n40c]/\Share (fun k=>(bif Option.isNone p17 then YC F_alloc_Alloc_Vol #[.pointer p17] w5 fun r48 w6=>∃ p48:YB,r48=.pointer p48/\(bif Option.isNone p48 then (bif n21c==2 then (bif n28c==2 then YC F_alloc_Alloc_FreeBlock #[.pointer p17,.int .i64 n0,.int .i64 n1] w6 fun r63 w7=>∃ n63:Int,r63=.int .i64 n63/\(bif n63==2 then YC F_alloc_Alloc_FreeSlot #[.pointer p17,.int .i64 n0,.int .i64 n1] w7 fun r70 w8=>∃ n70:Int,r70=.int .i64 n70/\(bif n70==2 then YC F_alloc_Alloc_Settle #[.pointer p17] w8 fun r75 w9=>∃ n75:Int,r75=.int .i64 n75/\(bif n75==0 then (bif n34a==0 then (bif n34b==0 then YC F_alloc_Alloc_Freeze #[.pointer p17,.int .i64 n0,.bool true] w9 fun r89 w10=>∃ n89:Int,r89=.int .i64 n89/\(bif n89==2 then YC F_alloc_Alloc_Frozen #[.pointer p17,.int .i64 n0] w10 fun r95 w11=>∃ b95:Bool,r95=.bool b95/\(bif !b95 then (bif n40c==2 then YC F_alloc_Alloc_Taken #[.pointer p17,.int .i64 n0] w11 fun r105 w12=>∃ b105:Bool,r105=.bool b105/\(bif !b105 then YC F_leveelaw14_known #[] w12 fun r109 w13=>∃ b109:Bool,r109=.bool b109/\k [.bool b109] w13 else k [.bool false] w12) else k [.bool false] w11) else k [.bool false] w11) else k [.bool false] w10) else k [.bool false] w9) else k [.bool false] w9) else k [.bool false] w9) else k [.bool false] w8) else k [.bool false] w7) else k [.bool false] w6) else k [.bool false] w6) else k [.bool false] w6) else k [.bool false] w5)) fun x w14 =>
 ∃ b4:Bool,nth x 0=.bool b4/\K (.bool b4) w14
theorem C_leveelaw14_AllocNil (n0:Int) (n1:Int) (w0:World) (K:YA) (h:D_leveelaw14_AllocNil n0 n1 w0 K):Cal Tryz.prog F_leveelaw14_AllocNil #[.int .i64 n0,.int .i64 n1] w0 K :=
 denF_of (A:=⟨[4],[(4,4)],[]⟩) Tryz.func3 (by kernel_rfl) (by kernel_rfl) (by kernel_rfl) h
def D_alloc_New (p0:YB) (w0:World) (K:YA):Prop :=
 (bif Option.isNone p0 then
 K (.pointer none) w0
 else
 ∃ m6:Option Nat,∃ w1:World,Ru (Instr.makeMap 97 none) w0 (.map m6) w1/\∃ g7:Array Value,Al (Instr.build 99 #[(0,.pointer p0),(1,.map m6)]) (.agg g7)/\∃ q8:Addr,∃ w2:World,Ru (Instr.box 99 (.agg g7)) w1 (.pointer (some q8)) w2/\K (.pointer (some q8)) w2)
theorem C_alloc_New (p0:YB) (w0:World) (K:YA) (h:D_alloc_New p0 w0 K):Cal Tryz.prog F_alloc_New #[.pointer p0] w0 K :=
 denF_of (A:=⟨[],[],[]⟩) Tryz.func11 (by kernel_rfl) (by kernel_rfl) (by kernel_rfl) h
def D_alloc_Alloc_Block (p0:YB) (n1:Int) (w0:World) (K:YA):Prop :=
 (bif Option.isNone p0 then
 K (.tuple #[.int .i64 0,.int .i64 0,.int .i64 2]) w0
 else
 YC F_alloc_Alloc_block #[.pointer p0,.int .i64 n1] w0 fun r18 w1=>∃ g18a:Array Value,∃ b18b:Bool,r18=.tuple #[.agg g18a,.bool b18b]/\∃ q7:Addr,∃ w2:World,Ru (Instr.alloc 101 true (.tuple #[])) w1 (.pointer (some q7)) w2/\∃ w3:World,YE 101 q7 (.agg g18a) w2 w3/\∃ g23:Array Value,YD 101 q7 (drew w3) (.agg g23)/\YC F_alloc_blocks #[] (drew w3) fun r25 w4=>∃ g25:Array Value,r25=.agg g25/\YD 101 q7 w4 (.agg g23)/\YC F_alloc_Alloc_take #[.pointer p0,.agg g23,.bool b18b,.agg g25] w4 fun r26 w5=>∃ g26a:Array Value,∃ n26b:Int,∃ n26c:Int,r26=.tuple #[.agg g26a,.int .i64 n26b,.int .i64 n26c]/\∃ w6:World,YE 101 q7 (.agg g26a) w5 w6/\(bif n26c != 0 then
 K (.tuple #[.int .i64 0,.int .i64 0,.int .i64 n26c]) w6
 else
 ∃ q35:Addr,(.pointer p0:Value)=.pointer (some q35)/\∃ p37:YB,YD 31 (Addr.add q35 0) (drew w6) (.pointer p37)/\∃ n40:Int,YD 3 (Addr.add q7 0) (drew w6) (.int .i64 n40)/\YC F_vol_Vol_Geo #[.pointer p37] (drew w6) fun r38 w7=>∃ g38:Array Value,r38=.agg g38/\YD 3 (Addr.add q7 0) w7 (.int .i64 n40)/\YC F_geo_Head #[.agg g38,.int .i64 n40] w7 fun r41 w8=>∃ n41a:Int,∃ n41b:Int,r41=.tuple #[.int .i64 n41a,.int .i64 n41b]/\∃ n46:Int,YD 3 (Addr.add q7 1) w8 (.int .i64 n46)/\K (.tuple #[.int .i64 (IntKind.i64.wrap (n41a+n46)),.int .i64 n26b,.int .i64 0]) w8))
theorem C_alloc_Alloc_Block (p0:YB) (n1:Int) (w0:World) (K:YA) (h:D_alloc_Alloc_Block p0 n1 w0 K):Cal Tryz.prog F_alloc_Alloc_Block #[.pointer p0,.int .i64 n1] w0 K :=
 denF_of (A:=⟨[],[],[]⟩) Tryz.func12 (by kernel_rfl) (by kernel_rfl) (by kernel_rfl) h
def D_alloc_Alloc_Slot (p0:YB) (n1:Int) (w0:World) (K:YA):Prop :=
 (bif Option.isNone p0 then
 K (.tuple #[.int .i64 0,.int .i64 0,.int .i64 2]) w0
 else
 YC F_alloc_Alloc_slot #[.pointer p0,.int .i64 n1] w0 fun r16 w1=>∃ g16a:Array Value,∃ b16b:Bool,r16=.tuple #[.agg g16a,.bool b16b]/\∃ q7:Addr,∃ w2:World,Ru (Instr.alloc 101 true (.tuple #[])) w1 (.pointer (some q7)) w2/\∃ w3:World,YE 101 q7 (.agg g16a) w2 w3/\∃ g21:Array Value,YD 101 q7 (drew w3) (.agg g21)/\YC F_alloc_slots #[] (drew w3) fun r23 w4=>∃ g23:Array Value,r23=.agg g23/\YD 101 q7 w4 (.agg g21)/\YC F_alloc_Alloc_take #[.pointer p0,.agg g21,.bool b16b,.agg g23] w4 fun r24 w5=>∃ g24a:Array Value,∃ n24b:Int,∃ n24c:Int,r24=.tuple #[.agg g24a,.int .i64 n24b,.int .i64 n24c]/\∃ w6:World,YE 101 q7 (.agg g24a) w5 w6/\(bif n24c != 0 then
 K (.tuple #[.int .i64 0,.int .i64 0,.int .i64 n24c]) w6
 else
 ∃ n32:Int,YD 3 (Addr.add q7 0) (drew w6) (.int .i64 n32)/\∃ q34:Addr,(.pointer p0:Value)=.pointer (some q34)/\∃ p36:YB,YD 31 (Addr.add q34 0) (drew w6) (.pointer p36)/\∃ n41:Int,YD 3 (Addr.add q7 1) (drew w6) (.int .i64 n41)/\YC F_vol_Vol_Geo #[.pointer p36] (drew w6) fun r37 w7=>∃ g37:Array Value,r37=.agg g37/\YD 3 (Addr.add q7 0) w7 (.int .i64 n32)/\YD 3 (Addr.add q7 1) w7 (.int .i64 n41)/\∃ n38:Int,Al (Instr.field 40 (.agg g37) 1) (.int .i64 n38)/\K (.tuple #[.int .i64 (IntKind.i64.wrap ((IntKind.i64.wrap (n32*n38))+n41)),.int .i64 n24b,.int .i64 0]) w7))
theorem C_alloc_Alloc_Slot (p0:YB) (n1:Int) (w0:World) (K:YA) (h:D_alloc_Alloc_Slot p0 n1 w0 K):Cal Tryz.prog F_alloc_Alloc_Slot #[.pointer p0,.int .i64 n1] w0 K :=
 denF_of (A:=⟨[],[],[]⟩) Tryz.func13 (by kernel_rfl) (by kernel_rfl) (by kernel_rfl) h
def D_alloc_Alloc_Free (p0:YB) (w0:World) (K:YA):Prop :=
 ∃ q1:Addr,∃ w1:World,Ru (Instr.box 22 (.pointer p0)) w0 (.pointer (some q1)) w1/\∃ q4:Addr,∃ w2:World,Ru (Instr.alloc 3 true (.tuple #[])) w1 (.pointer (some q4)) w2/\∃ q5:Addr,∃ w3:World,Ru (Instr.alloc 3 true (.tuple #[])) w2 (.pointer (some q5)) w3/\∃ w4:World,YE 3 q4 (.int .i64 0) w3 w4/\∃ w5:World,YE 3 q5 (.int .i64 0) w4 w5/\∃ p11:YB,YD 22 q1 w5 (.pointer p11)/\(bif Option.isNone p11 then
 ∃ n13:Int,YD 3 q4 (drew w5) (.int .i64 n13)/\∃ n14:Int,YD 3 q5 (drew w5) (.int .i64 n14)/\K (.tuple #[.int .i64 n13,.int .i64 n14]) (drew w5)
 else
 ∃ p15:YB,YD 22 q1 w5 (.pointer p15)/\∃ g16:Array Value,Al (Instr.build 101 #[]) (.agg g16)/\YC F_alloc_Alloc_ring #[.pointer p15,.agg g16,.bool false] w5 fun r17 w6=>∃ v17:Value,r17=v17/\RangeV Tryz.prog v17 2 w6 (fun x bgn fin w7 =>
 ∃ n18:Int,nth x 0=.int .i64 n18/\bgn (fun w8 =>
 ∃ p21:YB,YD 22 q1 w8 (.pointer p21)/\∃ q22:Addr,(.pointer p21:Value)=.pointer (some q22)/\∃ p24:YB,YD 31 (Addr.add q22 0) w8 (.pointer p24)/\YC F_vol_Vol_Head #[.pointer p24,.int .i64 n18] w8 fun r26 w9=>∃ g26a:Array Value,∃ n26b:Int,r26=.tuple #[.agg g26a,.int .i64 n26b]/\∃ q7:Addr,∃ w10:World,Ru (Instr.alloc 119 true (.tuple #[])) w9 (.pointer (some q7)) w10/\∃ w11:World,YE 119 q7 (.agg g26a) w10 w11/\∃ p30:YB,YD 22 q1 (drew w11) (.pointer p30)/\∃ q31:Addr,(.pointer p30:Value)=.pointer (some q31)/\∃ p33:YB,YD 31 (Addr.add q31 0) (drew w11) (.pointer p33)/\∃ g35:Array Value,YD 119 q7 (drew w11) (.agg g35)/\YC F_vol_Vol_Geo #[.pointer p33] (drew w11) fun r34 w12=>∃ g34:Array Value,r34=.agg g34/\YD 119 q7 w12 (.agg g35)/\YC F_group_Free #[.agg g34,.agg g35] w12 fun r36 w13=>∃ n36a:Int,∃ n36b:Int,r36=.tuple #[.int .i64 n36a,.int .i64 n36b]/\∃ n39:Int,YD 3 q4 (drew w13) (.int .i64 n39)/\∃ n42:Int,YD 3 q5 (drew w13) (.int .i64 n42)/\∃ w14:World,YE 3 q4 (.int .i64 (IntKind.i64.wrap (n39+n36a))) (drew w13) w14/\YD 3 q5 w14 (.int .i64 n42)/\∃ w15:World,YE 3 q5 (.int .i64 (IntKind.i64.wrap (n42+n36b))) w14 w15/\fin none w15) w7)
 (aftR (fun w16 =>
 ∃ n45:Int,YD 3 q4 (drew w16) (.int .i64 n45)/\∃ n46:Int,YD 3 q5 (drew w16) (.int .i64 n46)/\(World.heap (drew w16))[(World.heap w6).size]?=some (.deferred (some []))/\K (.tuple #[.int .i64 n45,.int .i64 n46]) (World.putObj (drew w16) ((World.heap w6).size) (.deferred none)))
 (fun i w17 =>
 (bif Nat.beq i 0 then
 ∃ n45_2:Int,YD 3 q4 (drew w17) (.int .i64 n45_2)/\∃ n46_2:Int,YD 3 q5 (drew w17) (.int .i64 n46_2)/\(World.heap (drew w17))[(World.heap w6).size]?=some (.deferred (some []))/\K (.tuple #[.int .i64 n45_2,.int .i64 n46_2]) (World.putObj (drew w17) ((World.heap w6).size) (.deferred none))
 else
 False))
 (fun w18 =>
 (World.heap w18)[(World.heap w6).size]?=some (.deferred (some []))/\K (.tuple #[.int .i64 0,.int .i64 0]) (World.putObj w18 ((World.heap w6).size) (.deferred none)))))
theorem C_alloc_Alloc_Free (p0:YB) (w0:World) (K:YA) (h:D_alloc_Alloc_Free p0 w0 K):Cal Tryz.prog F_alloc_Alloc_Free #[.pointer p0] w0 K :=
 denFR_sound (A:={ S:=[],ty:=[(18,3)],raw:=[] }) mixed Tryz.func14 (by kernel_rfl) (by kernel_rfl) ((show denFR Tryz.prog _ Tryz.f14 _ w0 K=D_alloc_Alloc_Free p0 w0 K by kernel_rfl).mpr h)
def D_alloc_Alloc_Used (p0:YB) (n1:Int) (w0:World) (K:YA):Prop :=
 (bif Option.isNone p0 then
 K (.tuple #[.int .i64 0,.int .i64 0,.int .i64 2]) w0
 else
 ∃ q19:Addr,(.pointer p0:Value)=.pointer (some q19)/\∃ p21:YB,YD 31 (Addr.add q19 0) w0 (.pointer p21)/\YC F_vol_Vol_Head #[.pointer p21,.int .i64 n1] w0 fun r23 w1=>∃ g23a:Array Value,∃ n23b:Int,r23=.tuple #[.agg g23a,.int .i64 n23b]/\∃ q7:Addr,∃ w2:World,Ru (Instr.alloc 119 true (.tuple #[])) w1 (.pointer (some q7)) w2/\∃ w3:World,YE 119 q7 (.agg g23a) w2 w3/\(bif n23b != 0 then
 K (.tuple #[.int .i64 0,.int .i64 0,.int .i64 n23b]) w3
 else
 ∃ q30:Addr,(.pointer p0:Value)=.pointer (some q30)/\∃ p32:YB,YD 31 (Addr.add q30 0) w3 (.pointer p32)/\YC F_vol_Vol_Geo #[.pointer p32] w3 fun r33 w4=>∃ g33:Array Value,r33=.agg g33/\∃ q9:Addr,∃ w5:World,Ru (Instr.alloc 40 true (.tuple #[])) w4 (.pointer (some q9)) w5/\∃ w6:World,YE 40 q9 (.agg g33) w5 w6/\∃ g35:Array Value,YD 40 q9 w6 (.agg g35)/\∃ g36:Array Value,YD 119 q7 w6 (.agg g36)/\YC F_group_Free #[.agg g35,.agg g36] w6 fun r37 w7=>∃ n37a:Int,∃ n37b:Int,r37=.tuple #[.int .i64 n37a,.int .i64 n37b]/\∃ g41:Array Value,YD 40 q9 w7 (.agg g41)/\YC F_geo_Range #[.agg g41,.int .i64 n1] w7 fun r43 w8=>∃ n43a:Int,∃ n43b:Int,r43=.tuple #[.int .i64 n43a,.int .i64 n43b]/\∃ n47:Int,YD 3 (Addr.add q9 1) w8 (.int .i64 n47)/\Share (fun k=>(bif n1==0 then
 k [.int .i64 (IntKind.i64.wrap ((IntKind.i64.wrap (n47-n37b))-2))] w8
 else
 k [.int .i64 (IntKind.i64.wrap (n47-n37b))] w8)) fun x w9 =>
 ∃ n14:Int,nth x 0=.int .i64 n14/\K (.tuple #[.int .i64 (IntKind.i64.wrap ((IntKind.i64.wrap (n43b-n43a))-n37a)),.int .i64 n14,.int .i64 0]) w9))
theorem C_alloc_Alloc_Used (p0:YB) (n1:Int) (w0:World) (K:YA) (h:D_alloc_Alloc_Used p0 n1 w0 K):Cal Tryz.prog F_alloc_Alloc_Used #[.pointer p0,.int .i64 n1] w0 K :=
 denF_of (A:=⟨[14],[(14,3)],[]⟩) Tryz.func15 (by kernel_rfl) (by kernel_rfl) (by kernel_rfl) h
def D_alloc_Alloc_Vol (p0:YB) (w0:World) (K:YA):Prop :=
 (bif Option.isNone p0 then
 K (.pointer none) w0
 else
 ∃ q6:Addr,(.pointer p0:Value)=.pointer (some q6)/\∃ p8:YB,YD 31 (Addr.add q6 0) w0 (.pointer p8)/\K (.pointer p8) w0)
theorem C_alloc_Alloc_Vol (p0:YB) (w0:World) (K:YA) (h:D_alloc_Alloc_Vol p0 w0 K):Cal Tryz.prog F_alloc_Alloc_Vol #[.pointer p0] w0 K :=
 denF_of (A:=⟨[],[],[]⟩) Tryz.func16 (by kernel_rfl) (by kernel_rfl) (by kernel_rfl) h
def D_alloc_Alloc_FreeBlock (p0:YB) (n1:Int) (n2:Int) (w0:World) (K:YA):Prop :=
 (bif Option.isNone p0 then
 K (.int .i64 2) w0
 else
 YC F_alloc_Alloc_block #[.pointer p0,.int .i64 n1] w0 fun r14 w1=>∃ g14a:Array Value,∃ b14b:Bool,r14=.tuple #[.agg g14a,.bool b14b]/\∃ q7:Addr,∃ w2:World,Ru (Instr.alloc 101 true (.tuple #[])) w1 (.pointer (some q7)) w2/\∃ w3:World,YE 101 q7 (.agg g14a) w2 w3/\∃ g19:Array Value,Al (Instr.build 126 #[(0,.int .i64 1),(1,.int .i64 n1)]) (.agg g19)/\YC F_alloc_Alloc_Taken #[.pointer p0,.int .i64 n1] w3 fun r23 w4=>∃ b23:Bool,r23=.bool b23/\YC F_alloc_Alloc_later #[.pointer p0,.agg g19,.bool b14b,.bool b23,.int .i64 n2] w4 fun r25 w5=>∃ n25:Int,r25=.int .i64 n25/\K (.int .i64 n25) w5)
theorem C_alloc_Alloc_FreeBlock (p0:YB) (n1:Int) (n2:Int) (w0:World) (K:YA) (h:D_alloc_Alloc_FreeBlock p0 n1 n2 w0 K):Cal Tryz.prog F_alloc_Alloc_FreeBlock #[.pointer p0,.int .i64 n1,.int .i64 n2] w0 K :=
 denF_of (A:=⟨[],[],[]⟩) Tryz.func17 (by kernel_rfl) (by kernel_rfl) (by kernel_rfl) h
def D_alloc_Alloc_FreeSlot (p0:YB) (n1:Int) (n2:Int) (w0:World) (K:YA):Prop :=
 (bif Option.isNone p0 then
 K (.int .i64 2) w0
 else
 YC F_alloc_Alloc_slot #[.pointer p0,.int .i64 n1] w0 fun r17 w1=>∃ g17a:Array Value,∃ b17b:Bool,r17=.tuple #[.agg g17a,.bool b17b]/\∃ q7:Addr,∃ w2:World,Ru (Instr.alloc 101 true (.tuple #[])) w1 (.pointer (some q7)) w2/\∃ w3:World,YE 101 q7 (.agg g17a) w2 w3/\∃ q22:Addr,(.pointer p0:Value)=.pointer (some q22)/\∃ p24:YB,YD 31 (Addr.add q22 0) (drew w3) (.pointer p24)/\∃ n26:Int,YD 3 (Addr.add q7 0) (drew w3) (.int .i64 n26)/\(YC F_vol_Vol_Head #[.pointer p24,.int .i64 n26] (drew w3) fun r27 w4=>∃ g27a:Array Value,∃ n27b:Int,r27=.tuple #[.agg g27a,.int .i64 n27b]/\∃ q9:Addr,∃ w5:World,Ru (Instr.alloc 119 true (.tuple #[])) w4 (.pointer (some q9)) w5/\YD 31 (Addr.add q22 0) w5 (.pointer p24)/\YD 3 (Addr.add q7 0) w5 (.int .i64 n26)/\∃ w6:World,YE 119 q9 (.agg g27a) w5 w6/\∃ (a31:YB) (l31 c31:Nat),Al (Instr.sliceAt 117 (.pointer (some (Addr.add q9 17))) none none none) (.slice a31 l31 c31)/\∃ n33:Int,YD 3 (Addr.add q7 1) (drew w6) (.int .i64 n33)/\YC F_bits_Get #[.slice a31 l31 c31,.int .i64 n33] (drew w6) fun r34 w7=>∃ b34:Bool,r34=.bool b34/\Share (fun k=>∃ g37:Array Value,Al (Instr.build 126 #[(0,.int .i64 2),(1,.int .i64 n1)]) (.agg g37)/\(bif b17b then YC F_alloc_Alloc_later #[.pointer p0,.agg g37,.bool (decide (n1 >= 2)),.bool b34,.int .i64 n2] w7 fun r45 w8=>∃ n45:Int,r45=.int .i64 n45/\k [.int .i64 n45] w8 else YC F_alloc_Alloc_later #[.pointer p0,.agg g37,.bool false,.bool b34,.int .i64 n2] w7 fun r45_2 w9=>∃ n45_2:Int,r45_2=.int .i64 n45_2/\k [.int .i64 n45_2] w9)) fun x w10 =>
 ∃ n6:Int,nth x 0=.int .i64 n6/\K (.int .i64 n6) w10)/\(∃ q9_2:Addr,∃ w11:World,Ru (Instr.alloc 119 true (.tuple #[])) (drew w3) (.pointer (some q9_2)) w11/\YD 31 (Addr.add q22 0) w11 (.pointer p24)/\YD 3 (Addr.add q7 0) w11 (.int .i64 n26)/\YC F_vol_Vol_Head #[.pointer p24,.int .i64 n26] w11 fun r27_2 w12=>∃ g27a_2:Array Value,∃ n27b_2:Int,r27_2=.tuple #[.agg g27a_2,.int .i64 n27b_2]/\∃ w13:World,YE 119 q9_2 (.agg g27a_2) w12 w13/\∃ (a31_2:YB) (l31_2 c31_2:Nat),Al (Instr.sliceAt 117 (.pointer (some (Addr.add q9_2 17))) none none none) (.slice a31_2 l31_2 c31_2)/\∃ n33_2:Int,YD 3 (Addr.add q7 1) (drew w13) (.int .i64 n33_2)/\YC F_bits_Get #[.slice a31_2 l31_2 c31_2,.int .i64 n33_2] (drew w13) fun r34_2 w14=>∃ b34_2:Bool,r34_2=.bool b34_2/\Share (fun k_2=>∃ g37_2:Array Value,Al (Instr.build 126 #[(0,.int .i64 2),(1,.int .i64 n1)]) (.agg g37_2)/\(bif b17b then YC F_alloc_Alloc_later #[.pointer p0,.agg g37_2,.bool (decide (n1 >= 2)),.bool b34_2,.int .i64 n2] w14 fun r45_3 w15=>∃ n45_3:Int,r45_3=.int .i64 n45_3/\k_2 [.int .i64 n45_3] w15 else YC F_alloc_Alloc_later #[.pointer p0,.agg g37_2,.bool false,.bool b34_2,.int .i64 n2] w14 fun r45_4 w16=>∃ n45_4:Int,r45_4=.int .i64 n45_4/\k_2 [.int .i64 n45_4] w16)) fun x_2 w17 =>
 ∃ n6_2:Int,nth x_2 0=.int .i64 n6_2/\K (.int .i64 n6_2) w17))
theorem C_alloc_Alloc_FreeSlot (p0:YB) (n1:Int) (n2:Int) (w0:World) (K:YA) (h:D_alloc_Alloc_FreeSlot p0 n1 n2 w0 K):Cal Tryz.prog F_alloc_Alloc_FreeSlot #[.pointer p0,.int .i64 n1,.int .i64 n2] w0 K :=
 denF_of (A:=⟨[6],[(6,24)],[]⟩) Tryz.func18 (by kernel_rfl) (by kernel_rfl) (by kernel_rfl) h
def D_alloc_Alloc_Settle (p0:YB) (w0:World) (K:YA):Prop :=
 (bif Option.isNone p0 then
 K (.int .i64 0) w0
 else
 ∃ q13:Addr,(.pointer p0:Value)=.pointer (some q13)/\∃ p15:YB,YD 31 (Addr.add q13 0) (drew w0) (.pointer p15)/\∃ q18:Addr,(.pointer p0:Value)=.pointer (some q18)/\∃ p20:YB,YD 31 (Addr.add q18 0) (drew w0) (.pointer p20)/\YC F_vol_Vol_Work #[.pointer p15] (drew w0) fun r16 w1=>∃ p16:YB,r16=.pointer p16/\YD 31 (Addr.add q18 0) w1 (.pointer p20)/\YC F_vol_Vol_Store #[.pointer p20] w1 fun r21 w2=>∃ p21:YB,r21=.pointer p21/\YC F_push_Work_Ripe #[.pointer p16,.pointer p21] w2 fun r22 w3=>∃ (a22:YB) (l22 c22:Nat),r22=.slice a22 l22 c22/\LoopC (fun k x w4 =>
 ∃ n25:Int,nth x 0=.int .i64 n25/\(bif decide (n25<(l22:Int)) then
 ∃ q27:Addr,Al (Instr.indexAt 128 (.slice a22 l22 c22) (.int .i64 n25)) (.pointer (some q27))/\∃ g28:Array Value,YD 126 q27 w4 (.agg g28)/\∃ q5:Addr,∃ w5:World,Ru (Instr.alloc 126 true (.tuple #[])) w4 (.pointer (some q5)) w5/\∃ w6:World,YE 126 q5 (.agg g28) w5 w6/\∃ n30:Int,YD 3 (Addr.add q5 0) w6 (.int .i64 n30)/\Share (fun k_2=>(bif n30==1 then
 ∃ n36:Int,YD 3 (Addr.add q5 1) w6 (.int .i64 n36)/\YC F_alloc_Alloc_block #[.pointer p0,.int .i64 n36] w6 fun r37 w7=>∃ g37a:Array Value,∃ b37b:Bool,r37=.tuple #[.agg g37a,.bool b37b]/\∃ q6:Addr,∃ w8:World,Ru (Instr.alloc 101 true (.tuple #[])) w7 (.pointer (some q6)) w8/\∃ w9:World,YE 101 q6 (.agg g37a) w8 w9/\∃ g41:Array Value,YD 101 q6 (drew w9) (.agg g41)/\YC F_alloc_blocks #[] (drew w9) fun r42 w10=>∃ g42:Array Value,r42=.agg g42/\YD 101 q6 w10 (.agg g41)/\YC F_alloc_Alloc_turn #[.pointer p0,.agg g41,.agg g42,.bool false] w10 fun r43 w11=>∃ n43a:Int,∃ n43b:Int,r43=.tuple #[.int .i64 n43a,.int .i64 n43b]/\k_2 [] w11
 else
 Share (fun k_3=>(bif n30==2 then
 ∃ n49:Int,YD 3 (Addr.add q5 1) w6 (.int .i64 n49)/\YC F_alloc_Alloc_slot #[.pointer p0,.int .i64 n49] w6 fun r50 w12=>∃ g50a:Array Value,∃ b50b:Bool,r50=.tuple #[.agg g50a,.bool b50b]/\∃ q8:Addr,∃ w13:World,Ru (Instr.alloc 101 true (.tuple #[])) w12 (.pointer (some q8)) w13/\∃ w14:World,YE 101 q8 (.agg g50a) w13 w14/\∃ g54:Array Value,YD 101 q8 (drew w14) (.agg g54)/\YC F_alloc_slots #[] (drew w14) fun r55 w15=>∃ g55:Array Value,r55=.agg g55/\YD 101 q8 w15 (.agg g54)/\YC F_alloc_Alloc_turn #[.pointer p0,.agg g54,.agg g55,.bool false] w15 fun r56 w16=>∃ n56a:Int,∃ n56b:Int,r56=.tuple #[.int .i64 n56a,.int .i64 n56b]/\k_3 [] w16
 else
 k_3 [] w6)) fun x_3 w17 =>
 k_2 [] w17)) fun x_2 w18 =>
 k [.int .i64 (IntKind.i64.wrap (n25+1))] w18
 else
 K (.int .i64 ((l22:Int))) w4)) [.int .i64 0] w3)
theorem C_alloc_Alloc_Settle (p0:YB) (w0:World) (K:YA) (h:D_alloc_Alloc_Settle p0 w0 K):Cal Tryz.prog F_alloc_Alloc_Settle #[.pointer p0] w0 K :=
 denF_of (A:=⟨[25],[(25,3)],[]⟩) Tryz.func19 (by kernel_rfl) (by kernel_rfl) (by kernel_rfl) h
def D_alloc_Alloc_Freeze (p0:YB) (n1:Int) (b2:Bool) (w0:World) (K:YA):Prop :=
 (bif Option.isNone p0 then
 K (.int .i64 2) w0
 else
 Share (fun k=>(bif decide (n1<0) then k [.bool true] w0 else ∃ q16:Addr,(.pointer p0:Value)=.pointer (some q16)/\∃ p18:YB,YD 31 (Addr.add q16 0) w0 (.pointer p18)/\YC F_vol_Vol_Geo #[.pointer p18] w0 fun r19 w1=>∃ g19:Array Value,r19=.agg g19/\∃ n20:Int,Al (Instr.field 40 (.agg g19) 2) (.int .i64 n20)/\k [.bool (decide (n1 >= n20))] w1)) fun x w2 =>
 ∃ b10:Bool,nth x 0=.bool b10/\(bif b10 then
 K (.int .i64 3) w2
 else
 ∃ q24:Addr,(.pointer p0:Value)=.pointer (some q24)/\∃ m26:Option Nat,YD 97 (Addr.add q24 1) w2 (.map m26)/\∃ w3:World,RuU (Instr.mapUpdate 97 (.map m26) (.int .i64 n1) (.bool b2)) w2 w3/\K (.int .i64 0) w3))
theorem C_alloc_Alloc_Freeze (p0:YB) (n1:Int) (b2:Bool) (w0:World) (K:YA) (h:D_alloc_Alloc_Freeze p0 n1 b2 w0 K):Cal Tryz.prog F_alloc_Alloc_Freeze #[.pointer p0,.int .i64 n1,.bool b2] w0 K :=
 denF_of (A:=⟨[10],[(10,4)],[]⟩) Tryz.func20 (by kernel_rfl) (by kernel_rfl) (by kernel_rfl) h
def D_alloc_Alloc_Frozen (p0:YB) (n1:Int) (w0:World) (K:YA):Prop :=
 Share (fun k=>(bif !(Option.isNone p0) then ∃ q9:Addr,(.pointer p0:Value)=.pointer (some q9)/\∃ m11:Option Nat,YD 97 (Addr.add q9 1) w0 (.map m11)/\∃ b13:Bool,Ru (Instr.lookup 97 (.map m11) (.int .i64 n1) false) w0 (.bool b13) w0/\k [.bool b13] w0 else k [.bool false] w0)) fun x w1 =>
 ∃ b4:Bool,nth x 0=.bool b4/\K (.bool b4) w1
theorem C_alloc_Alloc_Frozen (p0:YB) (n1:Int) (w0:World) (K:YA) (h:D_alloc_Alloc_Frozen p0 n1 w0 K):Cal Tryz.prog F_alloc_Alloc_Frozen #[.pointer p0,.int .i64 n1] w0 K :=
 denF_of (A:=⟨[4],[(4,4)],[]⟩) Tryz.func21 (by kernel_rfl) (by kernel_rfl) (by kernel_rfl) h
def D_alloc_Alloc_Taken (p0:YB) (n1:Int) (w0:World) (K:YA):Prop :=
 (bif Option.isNone p0 then
 K (.bool false) w0
 else
 YC F_alloc_Alloc_block #[.pointer p0,.int .i64 n1] w0 fun r14 w1=>∃ g14a:Array Value,∃ b14b:Bool,r14=.tuple #[.agg g14a,.bool b14b]/\∃ q5:Addr,∃ w2:World,Ru (Instr.alloc 101 true (.tuple #[])) w1 (.pointer (some q5)) w2/\∃ w3:World,YE 101 q5 (.agg g14a) w2 w3/\∃ q19:Addr,(.pointer p0:Value)=.pointer (some q19)/\∃ p21:YB,YD 31 (Addr.add q19 0) (drew w3) (.pointer p21)/\∃ n23:Int,YD 3 (Addr.add q5 0) (drew w3) (.int .i64 n23)/\(YC F_vol_Vol_Head #[.pointer p21,.int .i64 n23] (drew w3) fun r24 w4=>∃ g24a:Array Value,∃ n24b:Int,r24=.tuple #[.agg g24a,.int .i64 n24b]/\∃ q7:Addr,∃ w5:World,Ru (Instr.alloc 119 true (.tuple #[])) w4 (.pointer (some q7)) w5/\YD 31 (Addr.add q19 0) w5 (.pointer p21)/\YD 3 (Addr.add q5 0) w5 (.int .i64 n23)/\∃ w6:World,YE 119 q7 (.agg g24a) w5 w6/\Share (fun k=>(bif b14b then (bif n24b==0 then ∃ (a34:YB) (l34 c34:Nat),Al (Instr.sliceAt 116 (.pointer (some (Addr.add q7 1))) none none none) (.slice a34 l34 c34)/\∃ n36:Int,YD 3 (Addr.add q5 1) (drew w6) (.int .i64 n36)/\YC F_bits_Get #[.slice a34 l34 c34,.int .i64 n36] (drew w6) fun r37 w7=>∃ b37:Bool,r37=.bool b37/\k [.bool b37] w7 else k [.bool false] (drew w6)) else k [.bool false] (drew w6))) fun x w8 =>
 ∃ b4:Bool,nth x 0=.bool b4/\K (.bool b4) w8)/\(∃ q7_2:Addr,∃ w9:World,Ru (Instr.alloc 119 true (.tuple #[])) (drew w3) (.pointer (some q7_2)) w9/\YD 31 (Addr.add q19 0) w9 (.pointer p21)/\YD 3 (Addr.add q5 0) w9 (.int .i64 n23)/\YC F_vol_Vol_Head #[.pointer p21,.int .i64 n23] w9 fun r24_2 w10=>∃ g24a_2:Array Value,∃ n24b_2:Int,r24_2=.tuple #[.agg g24a_2,.int .i64 n24b_2]/\∃ w11:World,YE 119 q7_2 (.agg g24a_2) w10 w11/\Share (fun k_2=>(bif b14b then (bif n24b_2==0 then ∃ (a34_2:YB) (l34_2 c34_2:Nat),Al (Instr.sliceAt 116 (.pointer (some (Addr.add q7_2 1))) none none none) (.slice a34_2 l34_2 c34_2)/\∃ n36_2:Int,YD 3 (Addr.add q5 1) (drew w11) (.int .i64 n36_2)/\YC F_bits_Get #[.slice a34_2 l34_2 c34_2,.int .i64 n36_2] (drew w11) fun r37_2 w12=>∃ b37_2:Bool,r37_2=.bool b37_2/\k_2 [.bool b37_2] w12 else k_2 [.bool false] (drew w11)) else k_2 [.bool false] (drew w11))) fun x_2 w13 =>
 ∃ b4_2:Bool,nth x_2 0=.bool b4_2/\K (.bool b4_2) w13))
theorem C_alloc_Alloc_Taken (p0:YB) (n1:Int) (w0:World) (K:YA) (h:D_alloc_Alloc_Taken p0 n1 w0 K):Cal Tryz.prog F_alloc_Alloc_Taken #[.pointer p0,.int .i64 n1] w0 K :=
 denF_of (A:=⟨[4],[(4,4)],[]⟩) Tryz.func22 (by kernel_rfl) (by kernel_rfl) (by kernel_rfl) h
def D_leveelaw14_known (w0:World) (K:YA):Prop :=
 ∃ g16:Array Value,Al (Instr.build 40 #[(0,.int .i64 16),(1,.int .i64 8),(2,.int .i64 2)]) (.agg g16)/\YC F_leveelaw14_open #[.agg g16] w0 fun r17 w1=>∃ p17a:YB,∃ p17b:YB,∃ b17c:Bool,r17=.tuple #[.pointer p17a,.pointer p17b,.bool b17c]/\(bif !b17c then
 K (.bool false) w1
 else
 YC F_alloc_Alloc_Block #[.pointer p17a,.int .i64 0] w1 fun r25 w2=>∃ n25a:Int,∃ n25b:Int,∃ n25c:Int,r25=.tuple #[.int .i64 n25a,.int .i64 n25b,.int .i64 n25c]/\YC F_alloc_Alloc_Block #[.pointer p17a,.int .i64 n25a] w2 fun r32 w3=>∃ n32a:Int,∃ n32b:Int,∃ n32c:Int,r32=.tuple #[.int .i64 n32a,.int .i64 n32b,.int .i64 n32c]/\YC F_alloc_Alloc_Slot #[.pointer p17a,.int .i64 1] w3 fun r38 w4=>∃ n38a:Int,∃ n38b:Int,∃ n38c:Int,r38=.tuple #[.int .i64 n38a,.int .i64 n38b,.int .i64 n38c]/\YC F_alloc_Alloc_Free #[.pointer p17a] w4 fun r44 w5=>∃ n44a:Int,∃ n44b:Int,r44=.tuple #[.int .i64 n44a,.int .i64 n44b]/\Share (fun k=>(bif n25a==5 then (bif n25b==1 then (bif n25c==0 then (bif n32a==6 then (bif n32b==2 then (bif n32c==0 then (bif n38a==2 then (bif n38b==3 then (bif n38c==0 then (bif n44a==24 then (bif n44b==13 then YC F_alloc_Alloc_Taken #[.pointer p17a,.int .i64 5] w5 fun r91 w6=>∃ b91:Bool,r91=.bool b91/\(bif b91 then YC F_alloc_Alloc_Taken #[.pointer p17a,.int .i64 7] w6 fun r95 w7=>∃ b95:Bool,r95=.bool b95/\k [.bool (!b95)] w7 else k [.bool false] w6) else k [.bool false] w5) else k [.bool false] w5) else k [.bool false] w5) else k [.bool false] w5) else k [.bool false] w5) else k [.bool false] w5) else k [.bool false] w5) else k [.bool false] w5) else k [.bool false] w5) else k [.bool false] w5) else k [.bool false] w5)) fun x w8 =>
 ∃ b0:Bool,nth x 0=.bool b0/\K (.bool b0) w8)
theorem C_leveelaw14_known (w0:World) (K:YA) (h:D_leveelaw14_known  w0 K):Cal Tryz.prog F_leveelaw14_known #[] w0 K :=
 denF_of (A:=⟨[0],[(0,4)],[]⟩) Tryz.func23 (by kernel_rfl) (by kernel_rfl) (by kernel_rfl) h
def D_vol_Vol_Geo (p0:YB) (w0:World) (K:YA):Prop :=
 ∃ q2:Addr,∃ w1:World,Ru (Instr.alloc 40 true (.tuple #[])) w0 (.pointer (some q2)) w1/\(bif Option.isNone p0 then
 ∃ g5:Array Value,Al (Instr.build 40 #[]) (.agg g5)/\∃ w2:World,YE 40 q2 (.agg g5) w1 w2/\∃ gR2:Array Value,YD 40 q2 w2 (.agg gR2)/\K (.agg gR2) w2
 else
 ∃ q7:Addr,(.pointer p0:Value)=.pointer (some q7)/\∃ g10:Array Value,YD 40 (Addr.add (Addr.add q7 0) 1) w1 (.agg g10)/\∃ w3:World,YE 40 q2 (.agg g10) w1 w3/\∃ gR2_2:Array Value,YD 40 q2 w3 (.agg gR2_2)/\K (.agg gR2_2) w3)
theorem C_vol_Vol_Geo (p0:YB) (w0:World) (K:YA) (h:D_vol_Vol_Geo p0 w0 K):Cal Tryz.prog F_vol_Vol_Geo #[.pointer p0] w0 K :=
 denF_of (A:=⟨[],[],[]⟩) Tryz.func30 (by kernel_rfl) (by kernel_rfl) (by kernel_rfl) h
def D_leveelaw14_open (g0:Array Value) (w0:World) (K:YA):Prop :=
 ∃ q1:Addr,∃ w1:World,Ru (Instr.box 40 (.agg g0)) w0 (.pointer (some q1)) w1/\Share (fun k=>∃ g14:Array Value,YD 40 q1 w1 (.agg g14)/\YC F_leveeref03_Right #[.agg g14] w1 fun r15 w2=>∃ b15:Bool,r15=.bool b15/\(bif !b15 then k [.bool true] w2 else ∃ g18:Array Value,YD 40 q1 w2 (.agg g18)/\YC F_leveeref03_Size #[.agg g18] w2 fun r19 w3=>∃ n19:Int,r19=.int .i64 n19/\k [.bool (decide (n19 > 200))] w3)) fun x w4 =>
 ∃ b21:Bool,nth x 0=.bool b21/\Share (fun k_2=>(bif b21 then
 ∃ g22:Array Value,Al (Instr.build 40 #[(0,.int .i64 16),(1,.int .i64 8),(2,.int .i64 2)]) (.agg g22)/\∃ w5:World,YE 40 q1 (.agg g22) w4 w5/\k_2 [] w5
 else
 k_2 [] w4)) fun x_2 w6 =>
 ∃ g24:Array Value,YD 40 q1 w6 (.agg g24)/\YC F_leveeref03_Size #[.agg g24] w6 fun r25 w7=>∃ n25:Int,r25=.int .i64 n25/\YC F_disk_New #[.int .i64 n25] w7 fun r26 w8=>∃ p26a:YB,∃ n26b:Int,r26=.tuple #[.pointer p26a,.int .i64 n26b]/\∃ g30:Array Value,YD 40 q1 w8 (.agg g30)/\YC F_leveeref03_Size #[.agg g30] w8 fun r31 w9=>∃ n31:Int,r31=.int .i64 n31/\YC F_leveeref02_New #[.int .i64 n31] w9 fun r32 w10=>∃ p32a:YB,∃ n32b:Int,r32=.tuple #[.pointer p32a,.int .i64 n32b]/\∃ g36:Array Value,YD 40 q1 w10 (.agg g36)/\YC F_vol_Format #[.pointer p26a,.agg g36] w10 fun r37 w11=>∃ n37:Int,r37=.int .i64 n37/\∃ g39:Array Value,YD 40 q1 w11 (.agg g39)/\YC F_leveeref13_Format #[.pointer p32a,.agg g39] w11 fun r40 w12=>∃ n40:Int,r40=.int .i64 n40/\YC F_vol_Mount #[.pointer p26a] w12 fun r43 w13=>∃ p43a:YB,∃ n43b:Int,r43=.tuple #[.pointer p43a,.int .i64 n43b]/\YC F_leveeref13_Mount #[.pointer p32a] w13 fun r48 w14=>∃ p48a:YB,∃ n48b:Int,r48=.tuple #[.pointer p48a,.int .i64 n48b]/\Share (fun k_3=>(bif n43b != 0 then k_3 [.bool true] w14 else k_3 [.bool (n48b != 0)] w14)) fun x_3 w15 =>
 ∃ b56:Bool,nth x_3 0=.bool b56/\(bif b56 then
 K (.tuple #[.pointer none,.pointer none,.bool false]) w15
 else
 YC F_alloc_New #[.pointer p43a] w15 fun r58 w16=>∃ p58:YB,r58=.pointer p58/\Share (fun k_4=>YC F_leveeref14_New #[.pointer p48a] w16 fun r61 w17=>∃ p61:YB,r61=.pointer p61/\(bif !(Option.isNone p58) then YC F_alloc_Alloc_Vol #[.pointer p58] w17 fun r66 w18=>∃ p66:YB,r66=.pointer p66/\∃ b68:Bool,Ru (eqS .eql 31 (.tmp 66) (.tmp 67) (.pointer p66) (.pointer p43a)) w18 (.bool b68) w18/\k_4 [.pointer p58,.pointer p61,.bool b68] w18 else k_4 [.pointer p58,.pointer p61,.bool false] w17)) fun x_4 w19 =>
 ∃ p2:YB,nth x_4 0=.pointer p2/\∃ p3:YB,nth x_4 1=.pointer p3/\∃ b4:Bool,nth x_4 2=.bool b4/\K (.tuple #[.pointer p2,.pointer p3,.bool b4]) w19)
theorem C_leveelaw14_open (g0:Array Value) (w0:World) (K:YA) (h:D_leveelaw14_open g0 w0 K):Cal Tryz.prog F_leveelaw14_open #[.agg g0] w0 K :=
 denF_of (A:=⟨[2,3,4,21,56],[(2,22),(3,71),(4,4),(21,4),(56,4)],[]⟩) Tryz.func45 (by kernel_rfl) (by kernel_rfl) (by kernel_rfl) h
def D_leveeref03_Size (g0:Array Value) (w0:World) (K:YA):Prop :=
 ∃ q1:Addr,∃ w1:World,Ru (Instr.box 40 (.agg g0)) w0 (.pointer (some q1)) w1/\∃ g3:Array Value,YD 40 q1 w1 (.agg g3)/\YC F_leveeref03_Right #[.agg g3] w1 fun r4 w2=>∃ b4:Bool,r4=.bool b4/\(bif !b4 then
 K (.int .i64 0) w2
 else
 ∃ n7:Int,YD 3 (Addr.add q1 2) w2 (.int .i64 n7)/\∃ n9:Int,YD 3 (Addr.add q1 0) w2 (.int .i64 n9)/\K (.int .i64 (IntKind.i64.wrap (2+(IntKind.i64.wrap (n7*n9))))) w2)
theorem C_leveeref03_Size (g0:Array Value) (w0:World) (K:YA) (h:D_leveeref03_Size g0 w0 K):Cal Tryz.prog F_leveeref03_Size #[.agg g0] w0 K :=
 denF_of (A:=⟨[],[],[]⟩) Tryz.func46 (by kernel_rfl) (by kernel_rfl) (by kernel_rfl) h
def D_patch_Store_Read (p0:YB) (n1:Int) (w0:World) (K:YA):Prop :=
 (bif Option.isNone p0 then
 K (.tuple #[.slice none 0 0,.int .i64 2]) w0
 else
 ∃ q9:Addr,(.pointer p0:Value)=.pointer (some q9)/\∃ p11:YB,YD 160 (Addr.add q9 0) w0 (.pointer p11)/\YC F_cache_Cache_Read #[.pointer p11,.int .i64 n1] w0 fun r13 w1=>∃ (a13a:YB) (l13a c13a:Nat),∃ n13b:Int,r13=.tuple #[.slice a13a l13a c13a,.int .i64 n13b]/\K (.tuple #[.slice a13a l13a c13a,.int .i64 n13b]) w1)
theorem C_patch_Store_Read (p0:YB) (n1:Int) (w0:World) (K:YA) (h:D_patch_Store_Read p0 n1 w0 K):Cal Tryz.prog F_patch_Store_Read #[.pointer p0,.int .i64 n1] w0 K :=
 denF_of (A:=⟨[],[],[]⟩) Tryz.func56 (by kernel_rfl) (by kernel_rfl) (by kernel_rfl) h
def D_leveeref11_Store_Read (p0:YB) (n1:Int) (w0:World) (K:YA):Prop :=
 YC F_leveeref11_Store_there #[.pointer p0,.int .i64 n1] w0 fun r10 w1=>∃ b10:Bool,r10=.bool b10/\(bif !b10 then
 K (.tuple #[.slice none 0 0,.int .i64 3]) w1
 else
 ∃ q13:Addr,(.pointer p0:Value)=.pointer (some q13)/\∃ (a15:YB) (l15 c15:Nat),YD 178 (Addr.add q13 1) w1 (.slice a15 l15 c15)/\∃ q17:Addr,Al (Instr.indexAt 178 (.slice a15 l15 c15) (.int .i64 n1)) (.pointer (some q17))/\∃ s18:ByteArray,YD 9 q17 w1 (.string s18)/\∃ (a19:YB) (l19 c19:Nat),∃ w2:World,Ru (convert 9 88 (.string s18)) w1 (.slice a19 l19 c19) w2/\LoopC (fun k x w3 =>
 ∃ n7:Int,nth x 1=.int .i64 n7/\∃ q22:Addr,(.pointer p0:Value)=.pointer (some q22)/\∃ (a24:YB) (l24 c24:Nat),YD 179 (Addr.add q22 2) w3 (.slice a24 l24 c24)/\(bif decide (n7<(l24:Int)) then
 ∃ q30:Addr,(.pointer p0:Value)=.pointer (some q30)/\∃ (a32:YB) (l32 c32:Nat),YD 179 (Addr.add q30 2) w3 (.slice a32 l32 c32)/\∃ q34:Addr,Al (Instr.indexAt 179 (.slice a32 l32 c32) (.int .i64 n7)) (.pointer (some q34))/\∃ n36:Int,YD 3 (Addr.add q34 1) w3 (.int .i64 n36)/\Share (fun k_2=>(bif n36==n1 then
 ∃ (a6:YB) (l6 c6:Nat),nth x 0=.slice a6 l6 c6/\∃ q41:Addr,(.pointer p0:Value)=.pointer (some q41)/\∃ (a43:YB) (l43 c43:Nat),YD 179 (Addr.add q41 2) w3 (.slice a43 l43 c43)/\∃ q45:Addr,Al (Instr.indexAt 179 (.slice a43 l43 c43) (.int .i64 n7)) (.pointer (some q45))/\∃ g46:Array Value,YD 189 q45 w3 (.agg g46)/\YC F_leveeref11_upon #[.slice a6 l6 c6,.agg g46] w3 fun r47 w4=>∃ (a47:YB) (l47 c47:Nat),r47=.slice a47 l47 c47/\k_2 [.slice a47 l47 c47] w4
 else
 k_2 [nth x 0] w3)) fun x_2 w5 =>
 k [nth x_2 0,.int .i64 (IntKind.i64.wrap (n7+1))] w5
 else
 ∃ (a6_2:YB) (l6_2 c6_2:Nat),nth x 0=.slice a6_2 l6_2 c6_2/\K (.tuple #[.slice a6_2 l6_2 c6_2,.int .i64 0]) w3)) [.slice a19 l19 c19,.int .i64 0] w2)
theorem C_leveeref11_Store_Read (p0:YB) (n1:Int) (w0:World) (K:YA) (h:D_leveeref11_Store_Read p0 n1 w0 K):Cal Tryz.prog F_leveeref11_Store_Read #[.pointer p0,.int .i64 n1] w0 K :=
 denF_of (A:=⟨[6,7],[(6,88),(7,3)],[]⟩) Tryz.func57 (by kernel_rfl) (by kernel_rfl) (by kernel_rfl) h
def D_alloc_Alloc_block (p0:YB) (n1:Int) (w0:World) (K:YA):Prop :=
 ∃ q4:Addr,∃ w1:World,Ru (Instr.alloc 101 true (.tuple #[])) w0 (.pointer (some q4)) w1/\∃ q12:Addr,(.pointer p0:Value)=.pointer (some q12)/\∃ p14:YB,YD 31 (Addr.add q12 0) w1 (.pointer p14)/\YC F_vol_Vol_Geo #[.pointer p14] w1 fun r15 w2=>∃ g15:Array Value,r15=.agg g15/\YC F_geo_Kind #[.agg g15,.int .i64 n1] w2 fun r17 w3=>∃ n17a:Int,∃ n17b:Int,r17=.tuple #[.int .i64 n17a,.int .i64 n17b]/\(bif n17a != 4 then
 ∃ g22:Array Value,Al (Instr.build 101 #[]) (.agg g22)/\∃ w4:World,YE 101 q4 (.agg g22) w3 w4/\∃ gR4:Array Value,YD 101 q4 w4 (.agg gR4)/\K (.tuple #[.agg gR4,.bool false]) w4
 else
 ∃ q25:Addr,(.pointer p0:Value)=.pointer (some q25)/\∃ p27:YB,YD 31 (Addr.add q25 0) w3 (.pointer p27)/\YC F_vol_Vol_Geo #[.pointer p27] w3 fun r28 w5=>∃ g28:Array Value,r28=.agg g28/\YC F_geo_Head #[.agg g28,.int .i64 n17b] w5 fun r30 w6=>∃ n30a:Int,∃ n30b:Int,r30=.tuple #[.int .i64 n30a,.int .i64 n30b]/\∃ g37:Array Value,Al (Instr.build 101 #[(0,.int .i64 n17b),(1,.int .i64 (IntKind.i64.wrap (n1-n30a)))]) (.agg g37)/\∃ w7:World,YE 101 q4 (.agg g37) w6 w7/\∃ gR4_2:Array Value,YD 101 q4 w7 (.agg gR4_2)/\K (.tuple #[.agg gR4_2,.bool true]) w7)
theorem C_alloc_Alloc_block (p0:YB) (n1:Int) (w0:World) (K:YA) (h:D_alloc_Alloc_block p0 n1 w0 K):Cal Tryz.prog F_alloc_Alloc_block #[.pointer p0,.int .i64 n1] w0 K :=
 denF_of (A:=⟨[],[],[]⟩) Tryz.func58 (by kernel_rfl) (by kernel_rfl) (by kernel_rfl) h
def D_alloc_Alloc_take (p0:YB) (g1:Array Value) (b2:Bool) (g3:Array Value) (w0:World) (K:YA):Prop :=
 ∃ q4:Addr,∃ w1:World,Ru (Instr.box 22 (.pointer p0)) w0 (.pointer (some q4)) w1/\∃ q5:Addr,∃ w2:World,Ru (Instr.box 101 (.agg g1)) w1 (.pointer (some q5)) w2/\∃ q7:Addr,∃ w3:World,Ru (Instr.box 109 (.agg g3)) w2 (.pointer (some q7)) w3/\∃ q8:Addr,∃ w4:World,Ru (Instr.alloc 101 true (.tuple #[])) w3 (.pointer (some q8)) w4/\∃ q9:Addr,∃ w5:World,Ru (Instr.alloc 2 true (.tuple #[])) w4 (.pointer (some q9)) w5/\∃ q10:Addr,∃ w6:World,Ru (Instr.alloc 24 true (.tuple #[])) w5 (.pointer (some q10)) w6/\∃ p18:YB,YD 22 q4 w6 (.pointer p18)/\∃ g19:Array Value,YD 101 q5 w6 (.agg g19)/\YC F_alloc_Alloc_ring #[.pointer p18,.agg g19,.bool b2] w6 fun r21 w7=>∃ v21:Value,r21=v21/\RangeV Tryz.prog v21 2 w7 (fun x bgn fin w8 =>
 ∃ n22:Int,nth x 0=.int .i64 n22/\∃ n23:Int,nth x 1=.int .i64 n23/\bgn (fun w9 =>
 ∃ p25:YB,YD 22 q4 w9 (.pointer p25)/\∃ q26:Addr,(.pointer p25:Value)=.pointer (some q26)/\∃ p28:YB,YD 31 (Addr.add q26 0) w9 (.pointer p28)/\YC F_vol_Vol_Head #[.pointer p28,.int .i64 n22] w9 fun r30 w10=>∃ g30a:Array Value,∃ n30b:Int,r30=.tuple #[.agg g30a,.int .i64 n30b]/\∃ q13:Addr,∃ w11:World,Ru (Instr.alloc 119 true (.tuple #[])) w10 (.pointer (some q13)) w11/\∃ w12:World,YE 119 q13 (.agg g30a) w11 w12/\(bif n30b != 0 then
 ∃ g35:Array Value,Al (Instr.build 101 #[]) (.agg g35)/\∃ w13:World,YE 101 q8 (.agg g35) w12 w13/\∃ w14:World,YE 2 q9 (.int .i64 0) w13 w14/\∃ w15:World,YE 24 q10 (.int .i64 n30b) w14 w15/\fin (some Code.ret) w15
 else
 ∃ v38:Value,YD 106 (Addr.add q7 0) (drew w12) v38/\∃ p39:YB,YD 22 q4 (drew w12) (.pointer p39)/\∃ q40:Addr,(.pointer p39:Value)=.pointer (some q40)/\∃ p42:YB,YD 31 (Addr.add q40 0) (drew w12) (.pointer p42)/\∃ g44:Array Value,YD 119 q13 (drew w12) (.agg g44)/\YC F_vol_Vol_Geo #[.pointer p42] (drew w12) fun r43 w16=>∃ g43:Array Value,r43=.agg g43/\YD 106 (Addr.add q7 0) w16 v38/\YD 119 q13 w16 (.agg g44)/\Dyn Tryz.prog v38 #[.agg g43,.agg g44,.int .i64 n23] w16 fun r46 w17=>∃ n46:Int,r46=.int .i64 n46/\(bif decide (n46 >= 0) then
 ∃ p50:YB,YD 22 q4 w17 (.pointer p50)/\∃ g53:Array Value,Al (Instr.build 101 #[(0,.int .i64 n22),(1,.int .i64 n46)]) (.agg g53)/\∃ g54:Array Value,YD 109 q7 w17 (.agg g54)/\YC F_alloc_Alloc_turn #[.pointer p50,.agg g53,.agg g54,.bool true] w17 fun r55 w18=>∃ n55a:Int,∃ n55b:Int,r55=.tuple #[.int .i64 n55a,.int .i64 n55b]/\∃ g60:Array Value,Al (Instr.build 101 #[(0,.int .i64 n22),(1,.int .i64 n46)]) (.agg g60)/\∃ w19:World,YE 101 q8 (.agg g60) w18 w19/\∃ w20:World,YE 2 q9 (.int .i64 n55a) w19 w20/\∃ w21:World,YE 24 q10 (.int .i64 n55b) w20 w21/\fin (some Code.ret) w21
 else
 fin none w17))) w8)
 (aftR (fun w22 =>
 ∃ g63:Array Value,Al (Instr.build 101 #[]) (.agg g63)/\∃ w23:World,YE 101 q8 (.agg g63) w22 w23/\∃ w24:World,YE 2 q9 (.int .i64 0) w23 w24/\∃ w25:World,YE 24 q10 (.int .i64 26) w24 w25/\(World.heap w25)[(World.heap w7).size]?=some (.deferred (some []))/\∃ gR8:Array Value,YD 101 q8 (World.putObj w25 ((World.heap w7).size) (.deferred none)) (.agg gR8)/\∃ nR9:Int,YD 2 q9 (World.putObj w25 ((World.heap w7).size) (.deferred none)) (.int .i64 nR9)/\∃ nR10:Int,YD 24 q10 (World.putObj w25 ((World.heap w7).size) (.deferred none)) (.int .i64 nR10)/\K (.tuple #[.agg gR8,.int .i64 nR9,.int .i64 nR10]) (World.putObj w25 ((World.heap w7).size) (.deferred none)))
 (fun i w26 =>
 (bif Nat.beq i 0 then
 ∃ g63_2:Array Value,Al (Instr.build 101 #[]) (.agg g63_2)/\∃ w27:World,YE 101 q8 (.agg g63_2) w26 w27/\∃ w28:World,YE 2 q9 (.int .i64 0) w27 w28/\∃ w29:World,YE 24 q10 (.int .i64 26) w28 w29/\(World.heap w29)[(World.heap w7).size]?=some (.deferred (some []))/\∃ gR8_2:Array Value,YD 101 q8 (World.putObj w29 ((World.heap w7).size) (.deferred none)) (.agg gR8_2)/\∃ nR9_2:Int,YD 2 q9 (World.putObj w29 ((World.heap w7).size) (.deferred none)) (.int .i64 nR9_2)/\∃ nR10_2:Int,YD 24 q10 (World.putObj w29 ((World.heap w7).size) (.deferred none)) (.int .i64 nR10_2)/\K (.tuple #[.agg gR8_2,.int .i64 nR9_2,.int .i64 nR10_2]) (World.putObj w29 ((World.heap w7).size) (.deferred none))
 else
 False))
 (fun w30 =>
 (World.heap w30)[(World.heap w7).size]?=some (.deferred (some []))/\∃ gR8_3:Array Value,YD 101 q8 (World.putObj w30 ((World.heap w7).size) (.deferred none)) (.agg gR8_3)/\∃ nR9_3:Int,YD 2 q9 (World.putObj w30 ((World.heap w7).size) (.deferred none)) (.int .i64 nR9_3)/\∃ nR10_3:Int,YD 24 q10 (World.putObj w30 ((World.heap w7).size) (.deferred none)) (.int .i64 nR10_3)/\K (.tuple #[.agg gR8_3,.int .i64 nR9_3,.int .i64 nR10_3]) (World.putObj w30 ((World.heap w7).size) (.deferred none))))
theorem C_alloc_Alloc_take (p0:YB) (g1:Array Value) (b2:Bool) (g3:Array Value) (w0:World) (K:YA) (h:D_alloc_Alloc_take p0 g1 b2 g3 w0 K):Cal Tryz.prog F_alloc_Alloc_take #[.pointer p0,.agg g1,.bool b2,.agg g3] w0 K :=
 denFR_sound (A:={ S:=[],ty:=[(22,3),(23,3)],raw:=[] }) mixed Tryz.func59 (by kernel_rfl) (by kernel_rfl) ((show denFR Tryz.prog _ Tryz.f59 _ w0 K=D_alloc_Alloc_take p0 g1 b2 g3 w0 K by kernel_rfl).mpr h)
def D_alloc_blocks (w0:World) (K:YA):Prop :=
 ∃ q0:Addr,∃ w1:World,Ru (Instr.alloc 109 true (.tuple #[])) w0 (.pointer (some q0)) w1/\∃ g1:Array Value,Al (Instr.build 109 #[(0,.func (.func F_group_FindBlock) #[] #[]),(1,.func (.func F_group_UseBlock) #[] #[])]) (.agg g1)/\∃ w2:World,YE 109 q0 (.agg g1) w1 w2/\∃ gR0:Array Value,YD 109 q0 w2 (.agg gR0)/\K (.agg gR0) w2
theorem C_alloc_blocks (w0:World) (K:YA) (h:D_alloc_blocks  w0 K):Cal Tryz.prog F_alloc_blocks #[] w0 K :=
 denF_of (A:=⟨[],[],[]⟩) Tryz.func60 (by kernel_rfl) (by kernel_rfl) (by kernel_rfl) h
def D_geo_Head (g0:Array Value) (n1:Int) (w0:World) (K:YA):Prop :=
 ∃ q2:Addr,∃ w1:World,Ru (Instr.box 40 (.agg g0)) w0 (.pointer (some q2)) w1/\∃ g7:Array Value,YD 40 q2 w1 (.agg g7)/\YC F_geo_Right #[.agg g7] w1 fun r8 w2=>∃ b8:Bool,r8=.bool b8/\(bif !b8 then
 K (.tuple #[.int .i64 0,.int .i64 1]) w2
 else
 Share (fun k=>(bif decide (n1<0) then k [.bool true] w2 else ∃ n16:Int,YD 3 (Addr.add q2 2) w2 (.int .i64 n16)/\k [.bool (decide (n1 >= n16))] w2)) fun x w3 =>
 ∃ b10:Bool,nth x 0=.bool b10/\(bif b10 then
 K (.tuple #[.int .i64 0,.int .i64 3]) w3
 else
 ∃ n21:Int,YD 3 (Addr.add q2 0) w3 (.int .i64 n21)/\K (.tuple #[.int .i64 (IntKind.i64.wrap (2+(IntKind.i64.wrap (n1*n21)))),.int .i64 0]) w3))
theorem C_geo_Head (g0:Array Value) (n1:Int) (w0:World) (K:YA) (h:D_geo_Head g0 n1 w0 K):Cal Tryz.prog F_geo_Head #[.agg g0,.int .i64 n1] w0 K :=
 denF_of (A:=⟨[10],[(10,4)],[]⟩) Tryz.func61 (by kernel_rfl) (by kernel_rfl) (by kernel_rfl) h
def D_alloc_Alloc_slot (p0:YB) (n1:Int) (w0:World) (K:YA):Prop :=
 ∃ q4:Addr,∃ w1:World,Ru (Instr.alloc 101 true (.tuple #[])) w0 (.pointer (some q4)) w1/\∃ q8:Addr,(.pointer p0:Value)=.pointer (some q8)/\∃ p10:YB,YD 31 (Addr.add q8 0) w1 (.pointer p10)/\YC F_vol_Vol_Geo #[.pointer p10] w1 fun r11 w2=>∃ g11:Array Value,r11=.agg g11/\YC F_geo_Of #[.agg g11,.int .i64 n1] w2 fun r13 w3=>∃ n13:Int,r13=.int .i64 n13/\(bif decide (n13<0) then
 ∃ g16:Array Value,Al (Instr.build 101 #[]) (.agg g16)/\∃ w4:World,YE 101 q4 (.agg g16) w3 w4/\∃ gR4:Array Value,YD 101 q4 w4 (.agg gR4)/\K (.tuple #[.agg gR4,.bool false]) w4
 else
 ∃ q20:Addr,(.pointer p0:Value)=.pointer (some q20)/\∃ p22:YB,YD 31 (Addr.add q20 0) w3 (.pointer p22)/\YC F_vol_Vol_Geo #[.pointer p22] w3 fun r23 w5=>∃ g23:Array Value,r23=.agg g23/\∃ n24:Int,Al (Instr.field 40 (.agg g23) 1) (.int .i64 n24)/\∃ n25:Int,Al (eqS .rem 3 (.tmp 18) (.tmp 24) (.int .i64 n1) (.int .i64 n24)) (.int .i64 n25)/\∃ g26:Array Value,Al (Instr.build 101 #[(0,.int .i64 n13),(1,.int .i64 n25)]) (.agg g26)/\∃ w6:World,YE 101 q4 (.agg g26) w5 w6/\∃ gR4_2:Array Value,YD 101 q4 w6 (.agg gR4_2)/\K (.tuple #[.agg gR4_2,.bool true]) w6)
theorem C_alloc_Alloc_slot (p0:YB) (n1:Int) (w0:World) (K:YA) (h:D_alloc_Alloc_slot p0 n1 w0 K):Cal Tryz.prog F_alloc_Alloc_slot #[.pointer p0,.int .i64 n1] w0 K :=
 denF_of (A:=⟨[],[],[]⟩) Tryz.func62 (by kernel_rfl) (by kernel_rfl) (by kernel_rfl) h
def D_alloc_slots (w0:World) (K:YA):Prop :=
 ∃ q0:Addr,∃ w1:World,Ru (Instr.alloc 109 true (.tuple #[])) w0 (.pointer (some q0)) w1/\∃ g1:Array Value,Al (Instr.build 109 #[(0,.func (.func F_group_FindSlot) #[] #[]),(1,.func (.func F_group_UseSlot) #[] #[])]) (.agg g1)/\∃ w2:World,YE 109 q0 (.agg g1) w1 w2/\∃ gR0:Array Value,YD 109 q0 w2 (.agg gR0)/\K (.agg gR0) w2
theorem C_alloc_slots (w0:World) (K:YA) (h:D_alloc_slots  w0 K):Cal Tryz.prog F_alloc_slots #[] w0 K :=
 denF_of (A:=⟨[],[],[]⟩) Tryz.func63 (by kernel_rfl) (by kernel_rfl) (by kernel_rfl) h
def D_alloc_Alloc_ring (p0:YB) (g1:Array Value) (b2:Bool) (w0:World) (K:YA):Prop :=
 ∃ q3:Addr,∃ w1:World,Ru (Instr.box 22 (.pointer p0)) w0 (.pointer (some q3)) w1/\∃ q4:Addr,∃ w2:World,Ru (Instr.box 101 (.agg g1)) w1 (.pointer (some q4)) w2/\∃ q5:Addr,∃ w3:World,Ru (Instr.box 4 (.bool b2)) w2 (.pointer (some q5)) w3/\K (.func (.func F_alloc_Alloc_ring_1) #[] #[.pointer (some q3),.pointer (some q4),.pointer (some q5)]) w3
theorem C_alloc_Alloc_ring (p0:YB) (g1:Array Value) (b2:Bool) (w0:World) (K:YA) (h:D_alloc_Alloc_ring p0 g1 b2 w0 K):Cal Tryz.prog F_alloc_Alloc_ring #[.pointer p0,.agg g1,.bool b2] w0 K :=
 denF_of (A:=⟨[],[],[]⟩) Tryz.func64 (by kernel_rfl) (by kernel_rfl) (by kernel_rfl) h
def D_vol_Vol_Head (p0:YB) (n1:Int) (w0:World) (K:YA):Prop :=
 ∃ q4:Addr,∃ w1:World,Ru (Instr.alloc 119 true (.tuple #[])) w0 (.pointer (some q4)) w1/\YC F_vol_Vol_head #[.pointer p0,.int .i64 n1] w1 fun r12 w2=>∃ n12a:Int,∃ n12b:Int,r12=.tuple #[.int .i64 n12a,.int .i64 n12b]/\(bif n12b != 0 then
 ∃ g17:Array Value,Al (Instr.build 119 #[]) (.agg g17)/\∃ w3:World,YE 119 q4 (.agg g17) w2 w3/\∃ gR4:Array Value,YD 119 q4 w3 (.agg gR4)/\K (.tuple #[.agg gR4,.int .i64 n12b]) w3
 else
 ∃ q21:Addr,(.pointer p0:Value)=.pointer (some q21)/\∃ p23:YB,YD 89 (Addr.add q21 4) w2 (.pointer p23)/\YC F_patch_Store_Read #[.pointer p23,.int .i64 n12a] w2 fun r25 w4=>∃ (a25a:YB) (l25a c25a:Nat),∃ n25b:Int,r25=.tuple #[.slice a25a l25a c25a,.int .i64 n25b]/\(bif n25b != 0 then
 ∃ g30:Array Value,Al (Instr.build 119 #[]) (.agg g30)/\∃ w5:World,YE 119 q4 (.agg g30) w4 w5/\∃ gR4_2:Array Value,YD 119 q4 w5 (.agg gR4_2)/\K (.tuple #[.agg gR4_2,.int .i64 n25b]) w5
 else
 ∃ q33:Addr,(.pointer p0:Value)=.pointer (some q33)/\∃ g36:Array Value,YD 40 (Addr.add (Addr.add q33 0) 1) w4 (.agg g36)/\YC F_group_Get #[.agg g36,.slice a25a l25a c25a] w4 fun r38 w6=>∃ g38a:Array Value,∃ n38b:Int,r38=.tuple #[.agg g38a,.int .i64 n38b]/\∃ w7:World,YE 119 q4 (.agg g38a) w6 w7/\∃ gR4_3:Array Value,YD 119 q4 w7 (.agg gR4_3)/\K (.tuple #[.agg gR4_3,.int .i64 n38b]) w7))
theorem C_vol_Vol_Head (p0:YB) (n1:Int) (w0:World) (K:YA) (h:D_vol_Vol_Head p0 n1 w0 K):Cal Tryz.prog F_vol_Vol_Head #[.pointer p0,.int .i64 n1] w0 K :=
 denF_of (A:=⟨[],[],[]⟩) Tryz.func65 (by kernel_rfl) (by kernel_rfl) (by kernel_rfl) h
def D_group_Free (g0:Array Value) (g1:Array Value) (w0:World) (K:YA):Prop :=
 ∃ q2:Addr,∃ w1:World,Ru (Instr.box 40 (.agg g0)) w0 (.pointer (some q2)) w1/\∃ q3:Addr,∃ w2:World,Ru (Instr.box 119 (.agg g1)) w1 (.pointer (some q3)) w2/\∃ g6:Array Value,YD 40 q2 w2 (.agg g6)/\∃ g7:Array Value,YD 119 q3 w2 (.agg g7)/\YC F_group_Right #[.agg g6,.agg g7] w2 fun r8 w3=>∃ b8:Bool,r8=.bool b8/\(bif !b8 then
 K (.tuple #[.int .i64 0,.int .i64 0]) w3
 else
 ∃ n11:Int,YD 3 (Addr.add q2 0) (drew w3) (.int .i64 n11)/\∃ (a13:YB) (l13 c13:Nat),Al (Instr.sliceAt 116 (.pointer (some (Addr.add q3 1))) none none none) (.slice a13 l13 c13)/\∃ n15:Int,YD 3 (Addr.add q2 0) (drew w3) (.int .i64 n15)/\∃ n19:Int,YD 3 (Addr.add q2 1) (drew w3) (.int .i64 n19)/\∃ (a21:YB) (l21 c21:Nat),Al (Instr.sliceAt 117 (.pointer (some (Addr.add q3 17))) none none none) (.slice a21 l21 c21)/\∃ n23:Int,YD 3 (Addr.add q2 1) (drew w3) (.int .i64 n23)/\YC F_bits_Count #[.slice a13 l13 c13,.int .i64 n15] (drew w3) fun r16 w4=>∃ n16:Int,r16=.int .i64 n16/\YD 3 (Addr.add q2 0) w4 (.int .i64 n11)/\YD 3 (Addr.add q2 1) w4 (.int .i64 n19)/\YD 3 (Addr.add q2 1) w4 (.int .i64 n23)/\YC F_bits_Count #[.slice a21 l21 c21,.int .i64 n23] w4 fun r24 w5=>∃ n24:Int,r24=.int .i64 n24/\YD 3 (Addr.add q2 0) w5 (.int .i64 n11)/\YD 3 (Addr.add q2 1) w5 (.int .i64 n19)/\K (.tuple #[.int .i64 (IntKind.i64.wrap (n11-n16)),.int .i64 (IntKind.i64.wrap (n19-n24))]) w5)
theorem C_group_Free (g0:Array Value) (g1:Array Value) (w0:World) (K:YA) (h:D_group_Free g0 g1 w0 K):Cal Tryz.prog F_group_Free #[.agg g0,.agg g1] w0 K :=
 denF_of (A:=⟨[],[],[]⟩) Tryz.func66 (by kernel_rfl) (by kernel_rfl) (by kernel_rfl) h
def D_bits_Get (a0:YB) (l0 c0:Nat) (n1:Int) (w0:World) (K:YA):Prop :=
 Share (fun k=>YC F_bits_there #[.slice a0 l0 c0,.int .i64 n1] (drew w0) fun r7 w1=>∃ b7:Bool,r7=.bool b7/\(bif b7 then ∃ q12:Addr,Al (Instr.indexAt 88 (.slice a0 l0 c0) (.int .i64 (IntKind.i64.wrap (Int.tdiv n1 8)))) (.pointer (some q12))/\∃ n13:Int,YD 5 q12 w1 (.int .u8 n13)/\∃ n16:Int,Al (eqS .shl 5 (.const (.int .u8 1)) (.tmp 15) (.int .u8 1) (.int .i64 (Int.tmod n1 8))) (.int .u8 n16)/\k [.bool ((IntKind.u8.wrap (bvAnd 8 n13 n16)) != 0)] w1 else k [.bool false] w1)) fun x w2 =>
 ∃ b4:Bool,nth x 0=.bool b4/\K (.bool b4) w2
theorem C_bits_Get (a0:YB) (l0 c0:Nat) (n1:Int) (w0:World) (K:YA) (h:D_bits_Get a0 l0 c0 n1 w0 K):Cal Tryz.prog F_bits_Get #[.slice a0 l0 c0,.int .i64 n1] w0 K :=
 denF_of (A:=⟨[4],[(4,4)],[]⟩) Tryz.func69 (by kernel_rfl) (by kernel_rfl) (by kernel_rfl) h
def D_alloc_Alloc_turn (p0:YB) (g1:Array Value) (g2:Array Value) (b3:Bool) (w0:World) (K:YA):Prop :=
 ∃ q5:Addr,∃ w1:World,Ru (Instr.box 101 (.agg g1)) w0 (.pointer (some q5)) w1/\∃ q6:Addr,∃ w2:World,Ru (Instr.box 109 (.agg g2)) w1 (.pointer (some q6)) w2/\∃ q14:Addr,(.pointer p0:Value)=.pointer (some q14)/\∃ p16:YB,YD 31 (Addr.add q14 0) (drew w2) (.pointer p16)/\∃ n18:Int,YD 3 (Addr.add q5 0) (drew w2) (.int .i64 n18)/\(YC F_vol_Vol_Head #[.pointer p16,.int .i64 n18] (drew w2) fun r19 w3=>∃ g19a:Array Value,∃ n19b:Int,r19=.tuple #[.agg g19a,.int .i64 n19b]/\∃ q10:Addr,∃ w4:World,Ru (Instr.alloc 119 true (.tuple #[])) w3 (.pointer (some q10)) w4/\YD 31 (Addr.add q14 0) w4 (.pointer p16)/\YD 3 (Addr.add q5 0) w4 (.int .i64 n18)/\∃ w5:World,YE 119 q10 (.agg g19a) w4 w5/\Share (fun k=>(bif n19b==0 then
 ∃ v26:Value,YD 107 (Addr.add q6 1) (drew w5) v26/\∃ q28:Addr,(.pointer p0:Value)=.pointer (some q28)/\∃ p30:YB,YD 31 (Addr.add q28 0) (drew w5) (.pointer p30)/\∃ g32:Array Value,YD 119 q10 (drew w5) (.agg g32)/\∃ n34:Int,YD 3 (Addr.add q5 1) (drew w5) (.int .i64 n34)/\YC F_vol_Vol_Geo #[.pointer p30] (drew w5) fun r31 w6=>∃ g31:Array Value,r31=.agg g31/\YD 107 (Addr.add q6 1) w6 v26/\YD 119 q10 w6 (.agg g32)/\YD 3 (Addr.add q5 1) w6 (.int .i64 n34)/\Dyn Tryz.prog v26 #[.agg g31,.agg g32,.int .i64 n34,.bool b3] w6 fun r36 w7=>∃ g36a:Array Value,∃ n36b:Int,r36=.tuple #[.agg g36a,.int .i64 n36b]/\∃ w8:World,YE 119 q10 (.agg g36a) w7 w8/\k [.int .i64 n36b] w8
 else
 k [.int .i64 n19b] w5)) fun x w9 =>
 ∃ n11:Int,nth x 0=.int .i64 n11/\(bif n11 != 0 then
 K (.tuple #[.int .i64 0,.int .i64 n11]) w9
 else
 ∃ q43:Addr,(.pointer p0:Value)=.pointer (some q43)/\∃ p45:YB,YD 31 (Addr.add q43 0) (drew w9) (.pointer p45)/\∃ n47:Int,YD 3 (Addr.add q5 0) (drew w9) (.int .i64 n47)/\∃ g48:Array Value,YD 119 q10 (drew w9) (.agg g48)/\YC F_vol_Vol_SetHead #[.pointer p45,.int .i64 n47,.agg g48,.slice none 0 0] (drew w9) fun r49 w10=>∃ n49a:Int,∃ n49b:Int,r49=.tuple #[.int .i64 n49a,.int .i64 n49b]/\K (.tuple #[.int .i64 n49a,.int .i64 n49b]) w10))/\(∃ q10_2:Addr,∃ w11:World,Ru (Instr.alloc 119 true (.tuple #[])) (drew w2) (.pointer (some q10_2)) w11/\YD 31 (Addr.add q14 0) w11 (.pointer p16)/\YD 3 (Addr.add q5 0) w11 (.int .i64 n18)/\YC F_vol_Vol_Head #[.pointer p16,.int .i64 n18] w11 fun r19_2 w12=>∃ g19a_2:Array Value,∃ n19b_2:Int,r19_2=.tuple #[.agg g19a_2,.int .i64 n19b_2]/\∃ w13:World,YE 119 q10_2 (.agg g19a_2) w12 w13/\Share (fun k_2=>(bif n19b_2==0 then
 ∃ v26_2:Value,YD 107 (Addr.add q6 1) (drew w13) v26_2/\∃ q28_2:Addr,(.pointer p0:Value)=.pointer (some q28_2)/\∃ p30_2:YB,YD 31 (Addr.add q28_2 0) (drew w13) (.pointer p30_2)/\∃ g32_2:Array Value,YD 119 q10_2 (drew w13) (.agg g32_2)/\∃ n34_2:Int,YD 3 (Addr.add q5 1) (drew w13) (.int .i64 n34_2)/\YC F_vol_Vol_Geo #[.pointer p30_2] (drew w13) fun r31_2 w14=>∃ g31_2:Array Value,r31_2=.agg g31_2/\YD 107 (Addr.add q6 1) w14 v26_2/\YD 119 q10_2 w14 (.agg g32_2)/\YD 3 (Addr.add q5 1) w14 (.int .i64 n34_2)/\Dyn Tryz.prog v26_2 #[.agg g31_2,.agg g32_2,.int .i64 n34_2,.bool b3] w14 fun r36_2 w15=>∃ g36a_2:Array Value,∃ n36b_2:Int,r36_2=.tuple #[.agg g36a_2,.int .i64 n36b_2]/\∃ w16:World,YE 119 q10_2 (.agg g36a_2) w15 w16/\k_2 [.int .i64 n36b_2] w16
 else
 k_2 [.int .i64 n19b_2] w13)) fun x_2 w17 =>
 ∃ n11_2:Int,nth x_2 0=.int .i64 n11_2/\(bif n11_2 != 0 then
 K (.tuple #[.int .i64 0,.int .i64 n11_2]) w17
 else
 ∃ q43_2:Addr,(.pointer p0:Value)=.pointer (some q43_2)/\∃ p45_2:YB,YD 31 (Addr.add q43_2 0) (drew w17) (.pointer p45_2)/\∃ n47_2:Int,YD 3 (Addr.add q5 0) (drew w17) (.int .i64 n47_2)/\∃ g48_2:Array Value,YD 119 q10_2 (drew w17) (.agg g48_2)/\YC F_vol_Vol_SetHead #[.pointer p45_2,.int .i64 n47_2,.agg g48_2,.slice none 0 0] (drew w17) fun r49_2 w18=>∃ n49a_2:Int,∃ n49b_2:Int,r49_2=.tuple #[.int .i64 n49a_2,.int .i64 n49b_2]/\K (.tuple #[.int .i64 n49a_2,.int .i64 n49b_2]) w18))
theorem C_alloc_Alloc_turn (p0:YB) (g1:Array Value) (g2:Array Value) (b3:Bool) (w0:World) (K:YA) (h:D_alloc_Alloc_turn p0 g1 g2 b3 w0 K):Cal Tryz.prog F_alloc_Alloc_turn #[.pointer p0,.agg g1,.agg g2,.bool b3] w0 K :=
 denF_of (A:=⟨[11],[(11,24)],[]⟩) Tryz.func72 (by kernel_rfl) (by kernel_rfl) (by kernel_rfl) h
def D_leveeref03_Right (g0:Array Value) (w0:World) (K:YA):Prop :=
 ∃ q1:Addr,∃ w1:World,Ru (Instr.box 40 (.agg g0)) w0 (.pointer (some q1)) w1/\Share (fun k=>∃ n4:Int,YD 3 (Addr.add q1 0) w1 (.int .i64 n4)/\(bif decide (n4<16) then k [.bool true] w1 else ∃ n8:Int,YD 3 (Addr.add q1 0) w1 (.int .i64 n8)/\(bif decide (n8 > 128) then k [.bool true] w1 else ∃ n13:Int,YD 3 (Addr.add q1 1) w1 (.int .i64 n13)/\(bif decide (n13<4) then k [.bool true] w1 else ∃ n18:Int,YD 3 (Addr.add q1 1) w1 (.int .i64 n18)/\(bif decide (n18 > 64) then k [.bool true] w1 else ∃ n23:Int,YD 3 (Addr.add q1 1) w1 (.int .i64 n23)/\(bif (Int.tmod n23 4) != 0 then k [.bool true] w1 else ∃ n29:Int,YD 3 (Addr.add q1 2) w1 (.int .i64 n29)/\(bif decide (n29<1) then k [.bool true] w1 else ∃ n34:Int,YD 3 (Addr.add q1 2) w1 (.int .i64 n34)/\k [.bool (decide (n34 > 16))] w1))))))) fun x w2 =>
 ∃ b36:Bool,nth x 0=.bool b36/\(bif b36 then
 K (.bool false) w2
 else
 Share (fun k_2=>∃ n38:Int,YD 3 (Addr.add q1 0) w2 (.int .i64 n38)/\∃ n41:Int,YD 3 (Addr.add q1 1) w2 (.int .i64 n41)/\(bif decide ((IntKind.i64.wrap ((IntKind.i64.wrap (n38-1))-(IntKind.i64.wrap (Int.tdiv n41 4)))) >= 4) then ∃ n47:Int,YD 3 (Addr.add q1 2) w2 (.int .i64 n47)/\∃ n49:Int,YD 3 (Addr.add q1 0) w2 (.int .i64 n49)/\k_2 [.bool (decide ((IntKind.i64.wrap (2+(IntKind.i64.wrap (n47*n49))))<=4096))] w2 else k_2 [.bool false] w2)) fun x_2 w3 =>
 ∃ b2:Bool,nth x_2 0=.bool b2/\K (.bool b2) w3)
theorem C_leveeref03_Right (g0:Array Value) (w0:World) (K:YA) (h:D_leveeref03_Right g0 w0 K):Cal Tryz.prog F_leveeref03_Right #[.agg g0] w0 K :=
 denF_of (A:=⟨[2,36],[(2,4),(36,4)],[]⟩) Tryz.func73 (by kernel_rfl) (by kernel_rfl) (by kernel_rfl) h
def D_disk_New (n0:Int) (w0:World) (K:YA):Prop :=
 Share (fun k=>(bif decide (n0<1) then k [.bool true] w0 else k [.bool (decide (n0 > 4096))] w0)) fun x w1 =>
 ∃ b9:Bool,nth x 0=.bool b9/\(bif b9 then
 K (.tuple #[.pointer none,.int .i64 1]) w1
 else
 ∃ (a11:YB) (l11 c11:Nat),∃ w2:World,Ru (Instr.makeSlice 206 (.int .i64 n0) (.int .i64 n0)) w1 (.slice a11 l11 c11) w2/\∃ m12:Option Nat,∃ w3:World,Ru (Instr.makeMap 207 none) w2 (.map m12) w3/\∃ g13:Array Value,Al (Instr.build 209 #[(0,.slice a11 l11 c11),(1,.map m12),(2,.int .i64 ((-1)))]) (.agg g13)/\∃ q14:Addr,∃ w4:World,Ru (Instr.box 209 (.agg g13)) w3 (.pointer (some q14)) w4/\K (.tuple #[.pointer (some q14),.int .i64 0]) w4)
theorem C_disk_New (n0:Int) (w0:World) (K:YA) (h:D_disk_New n0 w0 K):Cal Tryz.prog F_disk_New #[.int .i64 n0] w0 K :=
 denF_of (A:=⟨[9],[(9,4)],[]⟩) Tryz.func74 (by kernel_rfl) (by kernel_rfl) (by kernel_rfl) h
def D_vol_Format (p0:YB) (g1:Array Value) (w0:World) (K:YA):Prop :=
 ∃ q3:Addr,∃ w1:World,Ru (Instr.box 40 (.agg g1)) w0 (.pointer (some q3)) w1/\(bif Option.isNone p0 then
 K (.int .i64 2) w1
 else
 ∃ g12:Array Value,YD 40 q3 w1 (.agg g12)/\YC F_geo_Right #[.agg g12] w1 fun r13 w2=>∃ b13:Bool,r13=.bool b13/\(bif !b13 then
 K (.int .i64 1) w2
 else
 ∃ g18:Array Value,YD 40 q3 (drew w2) (.agg g18)/\YC F_disk_Disk_Len #[.pointer p0] (drew w2) fun r17 w3=>∃ n17:Int,r17=.int .i64 n17/\YD 40 q3 w3 (.agg g18)/\YC F_geo_Size #[.agg g18] w3 fun r19 w4=>∃ n19:Int,r19=.int .i64 n19/\(bif decide (n17<n19) then
 K (.int .i64 4) w4
 else
 LoopC (fun k x w5 =>
 ∃ n21:Int,nth x 0=.int .i64 n21/\(bif decide (n21<2) then
 ∃ (a26:YB) (l26 c26:Nat),∃ w6:World,Ru (Instr.makeSlice 88 (.int .i64 256) (.int .i64 256)) w5 (.slice a26 l26 c26) w6/\YC F_disk_Disk_Write #[.pointer p0,.int .i64 n21,.slice a26 l26 c26] w6 fun r27 w7=>∃ n27:Int,r27=.int .i64 n27/\k [.int .i64 (IntKind.i64.wrap (n21+1))] w7
 else
 YC F_disk_Disk_Flush #[.pointer p0] w5 fun r30 w8=>∃ n30:Int,r30=.int .i64 n30/\∃ g31:Array Value,YD 40 q3 w8 (.agg g31)/\YC F_vol_each #[.agg g31,.int .i64 0,.func (.func F_disk_Disk_Write) #[.pointer p0] #[]] w8 fun r34 w9=>∃ n34:Int,r34=.int .i64 n34/\YC F_disk_Disk_Flush #[.pointer p0] w9 fun r36 w10=>∃ n36:Int,r36=.int .i64 n36/\∃ g38:Array Value,YD 40 q3 w10 (.agg g38)/\∃ g39:Array Value,Al (Instr.build 143 #[(0,.int .i64 1),(1,.agg g38)]) (.agg g39)/\YC F_super_Put #[.agg g39] w10 fun r40 w11=>∃ (a40a:YB) (l40a c40a:Nat),∃ n40b:Int,r40=.tuple #[.slice a40a l40a c40a,.int .i64 n40b]/\YC F_disk_Disk_Write #[.pointer p0,.int .i64 1,.slice a40a l40a c40a] w11 fun r45 w12=>∃ n45:Int,r45=.int .i64 n45/\YC F_disk_Disk_Flush #[.pointer p0] w12 fun r47 w13=>∃ n47:Int,r47=.int .i64 n47/\K (.int .i64 n47) w13)) [.int .i64 0] w4)))
theorem C_vol_Format (p0:YB) (g1:Array Value) (w0:World) (K:YA) (h:D_vol_Format p0 g1 w0 K):Cal Tryz.prog F_vol_Format #[.pointer p0,.agg g1] w0 K :=
 denF_of (A:=⟨[21],[(21,3)],[]⟩) Tryz.func75 (by kernel_rfl) (by kernel_rfl) (by kernel_rfl) h
def D_vol_Mount (p0:YB) (w0:World) (K:YA):Prop :=
 YC F_disk_Disk_Len #[.pointer p0] w0 fun r24 w1=>∃ n24:Int,r24=.int .i64 n24/\YC F_patch_Open #[.pointer p0,.int .i64 (if 1 > n24 then 1 else n24)] w1 fun r26 w2=>∃ p26a:YB,∃ n26b:Int,r26=.tuple #[.pointer p26a,.int .i64 n26b]/\(bif n26b != 0 then
 K (.tuple #[.pointer none,.int .i64 n26b]) w2
 else
 YC F_disk_Disk_Read #[.pointer p0,.int .i64 0] w2 fun r34 w3=>∃ (a34a:YB) (l34a c34a:Nat),∃ n34b:Int,r34=.tuple #[.slice a34a l34a c34a,.int .i64 n34b]/\YC F_disk_Disk_Read #[.pointer p0,.int .i64 1] w3 fun r39 w4=>∃ (a39a:YB) (l39a c39a:Nat),∃ n39b:Int,r39=.tuple #[.slice a39a l39a c39a,.int .i64 n39b]/\YC F_disk_Disk_Len #[.pointer p0] w4 fun r46 w5=>∃ n46:Int,r46=.int .i64 n46/\YC F_super_Choose #[.slice a34a l34a c34a,.slice a39a l39a c39a,.int .i64 n46] w5 fun r47 w6=>∃ g47a:Array Value,∃ n47b:Int,∃ n47c:Int,r47=.tuple #[.agg g47a,.int .i64 n47b,.int .i64 n47c]/\∃ q10:Addr,∃ w7:World,Ru (Instr.alloc 143 true (.tuple #[])) w6 (.pointer (some q10)) w7/\∃ w8:World,YE 143 q10 (.agg g47a) w7 w8/\(bif n47c != 0 then
 K (.tuple #[.pointer none,.int .i64 n47c]) w8
 else
 ∃ g54:Array Value,YD 143 q10 (drew w8) (.agg g54)/\YC F_push_New #[] (drew w8) fun r56 w9=>∃ p56:YB,r56=.pointer p56/\YD 143 q10 w9 (.agg g54)/\∃ g57:Array Value,Al (Instr.build 145 #[(0,.agg g54),(1,.pointer p26a),(2,.pointer p56),(3,.int .i64 0)]) (.agg g57)/\∃ q58:Addr,∃ w10:World,Ru (Instr.box 145 (.agg g57)) w9 (.pointer (some q58)) w10/\∃ n61:Int,YD 3 (Addr.add (Addr.add q10 1) 2) w10 (.int .i64 n61)/\LoopC (fun k x w11 =>
 ∃ n62:Int,nth x 0=.int .i64 n62/\(bif decide (n62<n61) then
 YC F_vol_Vol_Head #[.pointer (some q58),.int .i64 n62] w11 fun r68 w12=>∃ g68a:Array Value,∃ n68b:Int,r68=.tuple #[.agg g68a,.int .i64 n68b]/\∃ q14:Addr,∃ w13:World,Ru (Instr.alloc 119 true (.tuple #[])) w12 (.pointer (some q14)) w13/\∃ w14:World,YE 119 q14 (.agg g68a) w13 w14/\Share (fun k_2=>(bif n68b != 0 then k_2 [.bool true] w14 else ∃ n75:Int,YD 3 (Addr.add q14 0) w14 (.int .i64 n75)/\k_2 [.bool (n75 != n62)] w14)) fun x_2 w15 =>
 ∃ b78:Bool,nth x_2 0=.bool b78/\(bif b78 then
 K (.tuple #[.pointer none,.int .i64 8]) w15
 else
 k [.int .i64 (IntKind.i64.wrap (n62+1)),.bool b78] w15)
 else
 YC F_vol_Vol_Inode #[.pointer (some q58),.int .i64 1] w11 fun r82 w16=>∃ g82a:Array Value,∃ n82b:Int,r82=.tuple #[.agg g82a,.int .i64 n82b]/\∃ q16:Addr,∃ w17:World,Ru (Instr.alloc 218 true (.tuple #[])) w16 (.pointer (some q16)) w17/\∃ w18:World,YE 218 q16 (.agg g82a) w17 w18/\Share (fun k_3=>(bif n82b != 0 then k_3 [.bool true] w18 else ∃ n89:Int,YD 3 (Addr.add q16 0) w18 (.int .i64 n89)/\k_3 [.bool (n89 != 2)] w18)) fun x_3 w19 =>
 ∃ b91:Bool,nth x_3 0=.bool b91/\(bif b91 then
 K (.tuple #[.pointer none,.int .i64 8]) w19
 else
 ∃ g93:Array Value,YD 40 (Addr.add q10 1) w19 (.agg g93)/\YC F_geo_Slots #[.agg g93] w19 fun r94 w20=>∃ n94:Int,r94=.int .i64 n94/\LoopC (fun k_4 x_4 w21 =>
 ∃ n95:Int,nth x_4 0=.int .i64 n95/\(bif decide (n95<n94) then
 YC F_vol_Vol_Inode #[.pointer (some q58),.int .i64 n95] w21 fun r101 w22=>∃ g101a:Array Value,∃ n101b:Int,r101=.tuple #[.agg g101a,.int .i64 n101b]/\∃ q19:Addr,∃ w23:World,Ru (Instr.alloc 218 true (.tuple #[])) w22 (.pointer (some q19)) w23/\∃ w24:World,YE 218 q19 (.agg g101a) w23 w24/\∃ q106:Addr,(.pointer (some q58):Value)=.pointer (some q106)/\∃ n108:Int,YD 2 (Addr.add q106 6) (drew w24) (.int .i64 n108)/\∃ n110:Int,YD 2 (Addr.add q19 3) (drew w24) (.int .i64 n110)/\∃ q112:Addr,(.pointer (some q58):Value)=.pointer (some q112)/\∃ w25:World,YE 2 (Addr.add q112 6) (.int .i64 (if n110 > n108 then n110 else n108)) (drew w24) w25/\k_4 [.int .i64 (IntKind.i64.wrap (n95+1))] w25
 else
 ∃ q116:Addr,(.pointer (some q58):Value)=.pointer (some q116)/\∃ n118:Int,YD 2 (Addr.add q116 6) w21 (.int .i64 n118)/\∃ q120:Addr,(.pointer (some q58):Value)=.pointer (some q120)/\∃ w26:World,YE 2 (Addr.add q120 6) (.int .i64 (IntKind.i64.wrap (n118+1))) w21 w26/\K (.tuple #[.pointer (some q58),.int .i64 0]) w26)) [.int .i64 0] w20))) [.int .i64 0,undef] w10))
theorem C_vol_Mount (p0:YB) (w0:World) (K:YA) (h:D_vol_Mount p0 w0 K):Cal Tryz.prog F_vol_Mount #[.pointer p0] w0 K :=
 denF_of (A:=⟨[62,78,91,95],[(62,3),(78,4),(91,4),(95,3)],[]⟩) Tryz.func76 (by kernel_rfl) (by kernel_rfl) (by kernel_rfl) h
def D_leveeref02_New (n0:Int) (w0:World) (K:YA):Prop :=
 Share (fun k=>(bif decide (n0<1) then k [.bool true] w0 else k [.bool (decide (n0 > 4096))] w0)) fun x w1 =>
 ∃ b11:Bool,nth x 0=.bool b11/\(bif b11 then
 K (.tuple #[.pointer none,.int .i64 1]) w1
 else
 ∃ g12:Array Value,Al (Instr.build 223 #[]) (.agg g12)/\∃ q13:Addr,∃ w2:World,Ru (Instr.box 223 (.agg g12)) w1 (.pointer (some q13)) w2/\LoopC (fun k_2 x_2 w3 =>
 ∃ n5:Int,nth x_2 0=.int .i64 n5/\(bif decide (n5<n0) then
 ∃ q21:Addr,(.pointer (some q13):Value)=.pointer (some q21)/\∃ (a23:YB) (l23 c23:Nat),YD 221 (Addr.add q21 0) (drew w3) (.slice a23 l23 c23)/\YC F_leveeref02_none #[] (drew w3) fun r24 w4=>∃ s24:ByteArray,r24=.string s24/\YD 221 (Addr.add q21 0) w4 (.slice a23 l23 c23)/\∃ (a25:YB) (l25 c25:Nat),∃ w5:World,Ru (Instr.buildSlice 178 1 #[(0,.string s24)]) w4 (.slice a25 l25 c25) w5/\YD 221 (Addr.add q21 0) w5 (.slice a23 l23 c23)/\∃ g26:Array Value,Al (Instr.build 226 #[(0,.slice a25 l25 c25)]) (.agg g26)/\∃ (a27:YB) (l27 c27:Nat),∃ w6:World,Ru (Instr.buildSlice 221 1 #[(0,.agg g26)]) w5 (.slice a27 l27 c27) w6/\YD 221 (Addr.add q21 0) w6 (.slice a23 l23 c23)/\∃ (a28:YB) (l28 c28:Nat),∃ w7:World,Ru (Builtin.append_ #[221,221] 221 #[.slice a23 l23 c23,.slice a27 l27 c27]) w6 (.slice a28 l28 c28) w7/\∃ q29:Addr,(.pointer (some q13):Value)=.pointer (some q29)/\∃ w8:World,YE 221 (Addr.add q29 0) (.slice a28 l28 c28) w7 w8/\k_2 [.int .i64 (IntKind.i64.wrap (n5+1))] w8
 else
 K (.tuple #[.pointer (some q13),.int .i64 0]) w3)) [.int .i64 0] w2)
theorem C_leveeref02_New (n0:Int) (w0:World) (K:YA) (h:D_leveeref02_New n0 w0 K):Cal Tryz.prog F_leveeref02_New #[.int .i64 n0] w0 K :=
 denF_of (A:=⟨[5,11],[(5,3),(11,4)],[]⟩) Tryz.func82 (by kernel_rfl) (by kernel_rfl) (by kernel_rfl) h
def D_leveeref13_Format (p0:YB) (g1:Array Value) (w0:World) (K:YA):Prop :=
 ∃ q3:Addr,∃ w1:World,Ru (Instr.box 40 (.agg g1)) w0 (.pointer (some q3)) w1/\∃ g9:Array Value,YD 40 q3 w1 (.agg g9)/\YC F_leveeref03_Right #[.agg g9] w1 fun r10 w2=>∃ b10:Bool,r10=.bool b10/\(bif !b10 then
 K (.int .i64 1) w2
 else
 ∃ q13:Addr,(.pointer p0:Value)=.pointer (some q13)/\∃ (a15:YB) (l15 c15:Nat),YD 221 (Addr.add q13 0) (drew w2) (.slice a15 l15 c15)/\∃ g17:Array Value,YD 40 q3 (drew w2) (.agg g17)/\YC F_leveeref03_Size #[.agg g17] (drew w2) fun r18 w3=>∃ n18:Int,r18=.int .i64 n18/\YD 221 (Addr.add q13 0) w3 (.slice a15 l15 c15)/\(bif decide ((l15:Int)<n18) then
 K (.int .i64 4) w3
 else
 ∃ (a21:YB) (l21 c21:Nat),∃ w4:World,Ru (Instr.makeSlice 88 (.int .i64 256) (.int .i64 256)) w3 (.slice a21 l21 c21) w4/\YC F_leveeref02_Disk_Write #[.pointer p0,.int .i64 0,.slice a21 l21 c21] w4 fun r22 w5=>∃ n22:Int,r22=.int .i64 n22/\∃ (a24:YB) (l24 c24:Nat),∃ w6:World,Ru (Instr.makeSlice 88 (.int .i64 256) (.int .i64 256)) w5 (.slice a24 l24 c24) w6/\YC F_leveeref02_Disk_Write #[.pointer p0,.int .i64 1,.slice a24 l24 c24] w6 fun r25 w7=>∃ n25:Int,r25=.int .i64 n25/\YC F_leveeref02_Disk_Flush #[.pointer p0] w7 fun r27 w8=>∃ n27:Int,r27=.int .i64 n27/\∃ g28:Array Value,YD 40 q3 w8 (.agg g28)/\YC F_leveeref13_groups #[.agg g28,.int .i64 0] w8 fun r29 w9=>∃ (a29:YB) (l29 c29:Nat),r29=.slice a29 l29 c29/\LoopC (fun k x w10 =>
 ∃ n6:Int,nth x 0=.int .i64 n6/\(bif decide (n6<(l29:Int)) then
 ∃ q39:Addr,Al (Instr.indexAt 227 (.slice a29 l29 c29) (.int .i64 n6)) (.pointer (some q39))/\∃ n41:Int,YD 3 (Addr.add q39 0) (drew w10) (.int .i64 n41)/\∃ q44:Addr,Al (Instr.indexAt 227 (.slice a29 l29 c29) (.int .i64 n6)) (.pointer (some q44))/\∃ (a46:YB) (l46 c46:Nat),YD 88 (Addr.add q44 1) (drew w10) (.slice a46 l46 c46)/\YC F_leveeref02_Disk_Write #[.pointer p0,.int .i64 n41,.slice a46 l46 c46] (drew w10) fun r47 w11=>∃ n47:Int,r47=.int .i64 n47/\k [.int .i64 (IntKind.i64.wrap (n6+1))] w11
 else
 YC F_leveeref02_Disk_Flush #[.pointer p0] w10 fun r49 w12=>∃ n49:Int,r49=.int .i64 n49/\∃ g51:Array Value,YD 40 q3 w12 (.agg g51)/\∃ g52:Array Value,Al (Instr.build 232 #[(0,.int .i64 1),(1,.agg g51)]) (.agg g52)/\YC F_leveeref04_Put #[.agg g52] w12 fun r53 w13=>∃ (a53a:YB) (l53a c53a:Nat),∃ n53b:Int,r53=.tuple #[.slice a53a l53a c53a,.int .i64 n53b]/\YC F_leveeref02_Disk_Write #[.pointer p0,.int .i64 1,.slice a53a l53a c53a] w13 fun r58 w14=>∃ n58:Int,r58=.int .i64 n58/\YC F_leveeref02_Disk_Flush #[.pointer p0] w14 fun r60 w15=>∃ n60:Int,r60=.int .i64 n60/\K (.int .i64 n60) w15)) [.int .i64 0] w9))
theorem C_leveeref13_Format (p0:YB) (g1:Array Value) (w0:World) (K:YA) (h:D_leveeref13_Format p0 g1 w0 K):Cal Tryz.prog F_leveeref13_Format #[.pointer p0,.agg g1] w0 K :=
 denF_of (A:=⟨[6],[(6,3)],[]⟩) Tryz.func83 (by kernel_rfl) (by kernel_rfl) (by kernel_rfl) h
def D_leveeref13_Mount (p0:YB) (w0:World) (K:YA):Prop :=
 YC F_leveeref02_Disk_Read #[.pointer p0,.int .i64 0] w0 fun r20 w1=>∃ (a20a:YB) (l20a c20a:Nat),∃ n20b:Int,r20=.tuple #[.slice a20a l20a c20a,.int .i64 n20b]/\YC F_leveeref02_Disk_Read #[.pointer p0,.int .i64 1] w1 fun r25 w2=>∃ (a25a:YB) (l25a c25a:Nat),∃ n25b:Int,r25=.tuple #[.slice a25a l25a c25a,.int .i64 n25b]/\∃ q32:Addr,(.pointer p0:Value)=.pointer (some q32)/\∃ (a34:YB) (l34 c34:Nat),YD 221 (Addr.add q32 0) w2 (.slice a34 l34 c34)/\YC F_leveeref04_Choose #[.slice a20a l20a c20a,.slice a25a l25a c25a,.int .i64 ((l34:Int))] w2 fun r36 w3=>∃ g36a:Array Value,∃ n36b:Int,∃ n36c:Int,r36=.tuple #[.agg g36a,.int .i64 n36b,.int .i64 n36c]/\∃ q8:Addr,∃ w4:World,Ru (Instr.alloc 232 true (.tuple #[])) w3 (.pointer (some q8)) w4/\∃ w5:World,YE 232 q8 (.agg g36a) w4 w5/\(bif n36c != 0 then
 K (.tuple #[.pointer none,.int .i64 n36c]) w5
 else
 ∃ g45:Array Value,Al (Instr.build 238 #[]) (.agg g45)/\∃ n48:Int,YD 2 (Addr.add q8 0) (drew w5) (.int .i64 n48)/\∃ g50:Array Value,YD 40 (Addr.add q8 1) (drew w5) (.agg g50)/\(YC F_leveeref11_Open #[.pointer p0] (drew w5) fun r44 w6=>∃ p44:YB,r44=.pointer p44/\YD 2 (Addr.add q8 0) w6 (.int .i64 n48)/\YD 40 (Addr.add q8 1) w6 (.agg g50)/\∃ q46:Addr,∃ w7:World,Ru (Instr.box 238 (.agg g45)) w6 (.pointer (some q46)) w7/\YD 2 (Addr.add q8 0) w7 (.int .i64 n48)/\YD 40 (Addr.add q8 1) w7 (.agg g50)/\∃ g51:Array Value,Al (Instr.build 78 #[(0,.pointer p44),(1,.pointer (some q46)),(2,.int .i64 n48),(3,.agg g50)]) (.agg g51)/\∃ q52:Addr,∃ w8:World,Ru (Instr.box 78 (.agg g51)) w7 (.pointer (some q52)) w8/\LoopC (fun k x w9 =>
 ∃ n12:Int,nth x 0=.int .i64 n12/\∃ q55:Addr,(.pointer (some q52):Value)=.pointer (some q55)/\∃ n58:Int,YD 3 (Addr.add (Addr.add q55 3) 2) w9 (.int .i64 n58)/\(bif decide (n12<n58) then
 YC F_leveeref13_Vol_Head #[.pointer (some q52),.int .i64 n12] w9 fun r65 w10=>∃ g65a:Array Value,∃ n65b:Int,r65=.tuple #[.agg g65a,.int .i64 n65b]/\∃ q13:Addr,∃ w11:World,Ru (Instr.alloc 183 true (.tuple #[])) w10 (.pointer (some q13)) w11/\∃ w12:World,YE 183 q13 (.agg g65a) w11 w12/\Share (fun k_2=>(bif n65b != 0 then k_2 [.bool true] w12 else ∃ n72:Int,YD 3 (Addr.add q13 0) w12 (.int .i64 n72)/\k_2 [.bool (n72 != n12)] w12)) fun x_2 w13 =>
 ∃ b75:Bool,nth x_2 0=.bool b75/\(bif b75 then
 K (.tuple #[.pointer none,.int .i64 8]) w13
 else
 k [.int .i64 (IntKind.i64.wrap (n12+1)),.bool b75] w13)
 else
 LoopC (fun k_3 x_3 w14 =>
 ∃ n15:Int,nth x_3 0=.int .i64 n15/\∃ q78:Addr,(.pointer (some q52):Value)=.pointer (some q78)/\∃ g80:Array Value,YD 40 (Addr.add q78 3) w14 (.agg g80)/\YC F_leveeref03_Slots #[.agg g80] w14 fun r81 w15=>∃ n81:Int,r81=.int .i64 n81/\(bif decide (n15<n81) then
 YC F_leveeref13_Vol_Inode #[.pointer (some q52),.int .i64 n15] w15 fun r88 w16=>∃ g88a:Array Value,∃ n88b:Int,r88=.tuple #[.agg g88a,.int .i64 n88b]/\∃ q16:Addr,∃ w17:World,Ru (Instr.alloc 218 true (.tuple #[])) w16 (.pointer (some q16)) w17/\∃ w18:World,YE 218 q16 (.agg g88a) w17 w18/\Share (fun k_4=>(bif n88b==0 then ∃ n95:Int,YD 2 (Addr.add q16 3) (drew w18) (.int .i64 n95)/\∃ q97:Addr,(.pointer (some q52):Value)=.pointer (some q97)/\∃ n99:Int,YD 2 (Addr.add q97 6) (drew w18) (.int .i64 n99)/\k_4 [.bool (decide (n95 > n99))] (drew w18) else k_4 [.bool false] (drew w18))) fun x_4 w19 =>
 ∃ b101:Bool,nth x_4 0=.bool b101/\Share (fun k_5=>(bif b101 then
 ∃ n104:Int,YD 2 (Addr.add q16 3) w19 (.int .i64 n104)/\∃ q105:Addr,(.pointer (some q52):Value)=.pointer (some q105)/\∃ w20:World,YE 2 (Addr.add q105 6) (.int .i64 n104) w19 w20/\k_5 [] w20
 else
 k_5 [] w19)) fun x_5 w21 =>
 Share (fun k_6=>(bif n15==1 then (bif n88b != 0 then k_6 [.bool true] w21 else ∃ n114:Int,YD 3 (Addr.add q16 0) w21 (.int .i64 n114)/\k_6 [.bool (n114 != 2)] w21) else k_6 [.bool false] w21)) fun x_6 w22 =>
 ∃ b117:Bool,nth x_6 0=.bool b117/\(bif b117 then
 K (.tuple #[.pointer none,.int .i64 8]) w22
 else
 k_3 [.int .i64 (IntKind.i64.wrap (n15+1)),.bool b101,.bool b117] w22)
 else
 ∃ q119:Addr,(.pointer (some q52):Value)=.pointer (some q119)/\∃ n121:Int,YD 2 (Addr.add q119 6) w15 (.int .i64 n121)/\∃ q123:Addr,(.pointer (some q52):Value)=.pointer (some q123)/\∃ w23:World,YE 2 (Addr.add q123 6) (.int .i64 (IntKind.i64.wrap (n121+1))) w15 w23/\K (.tuple #[.pointer (some q52),.int .i64 0]) w23)) [.int .i64 0,undef,undef] w9)) [.int .i64 0,undef] w8)/\(∃ q46_2:Addr,∃ w24:World,Ru (Instr.box 238 (.agg g45)) (drew w5) (.pointer (some q46_2)) w24/\YD 2 (Addr.add q8 0) w24 (.int .i64 n48)/\YD 40 (Addr.add q8 1) w24 (.agg g50)/\YC F_leveeref11_Open #[.pointer p0] w24 fun r44_2 w25=>∃ p44_2:YB,r44_2=.pointer p44_2/\YD 2 (Addr.add q8 0) w25 (.int .i64 n48)/\YD 40 (Addr.add q8 1) w25 (.agg g50)/\∃ g51_2:Array Value,Al (Instr.build 78 #[(0,.pointer p44_2),(1,.pointer (some q46_2)),(2,.int .i64 n48),(3,.agg g50)]) (.agg g51_2)/\∃ q52_2:Addr,∃ w26:World,Ru (Instr.box 78 (.agg g51_2)) w25 (.pointer (some q52_2)) w26/\LoopC (fun k_7 x_7 w27 =>
 ∃ n12_2:Int,nth x_7 0=.int .i64 n12_2/\∃ q55_2:Addr,(.pointer (some q52_2):Value)=.pointer (some q55_2)/\∃ n58_2:Int,YD 3 (Addr.add (Addr.add q55_2 3) 2) w27 (.int .i64 n58_2)/\(bif decide (n12_2<n58_2) then
 YC F_leveeref13_Vol_Head #[.pointer (some q52_2),.int .i64 n12_2] w27 fun r65_2 w28=>∃ g65a_2:Array Value,∃ n65b_2:Int,r65_2=.tuple #[.agg g65a_2,.int .i64 n65b_2]/\∃ q13_2:Addr,∃ w29:World,Ru (Instr.alloc 183 true (.tuple #[])) w28 (.pointer (some q13_2)) w29/\∃ w30:World,YE 183 q13_2 (.agg g65a_2) w29 w30/\Share (fun k_8=>(bif n65b_2 != 0 then k_8 [.bool true] w30 else ∃ n72_2:Int,YD 3 (Addr.add q13_2 0) w30 (.int .i64 n72_2)/\k_8 [.bool (n72_2 != n12_2)] w30)) fun x_8 w31 =>
 ∃ b75_2:Bool,nth x_8 0=.bool b75_2/\(bif b75_2 then
 K (.tuple #[.pointer none,.int .i64 8]) w31
 else
 k_7 [.int .i64 (IntKind.i64.wrap (n12_2+1)),.bool b75_2] w31)
 else
 LoopC (fun k_9 x_9 w32 =>
 ∃ n15_2:Int,nth x_9 0=.int .i64 n15_2/\∃ q78_2:Addr,(.pointer (some q52_2):Value)=.pointer (some q78_2)/\∃ g80_2:Array Value,YD 40 (Addr.add q78_2 3) w32 (.agg g80_2)/\YC F_leveeref03_Slots #[.agg g80_2] w32 fun r81_2 w33=>∃ n81_2:Int,r81_2=.int .i64 n81_2/\(bif decide (n15_2<n81_2) then
 YC F_leveeref13_Vol_Inode #[.pointer (some q52_2),.int .i64 n15_2] w33 fun r88_2 w34=>∃ g88a_2:Array Value,∃ n88b_2:Int,r88_2=.tuple #[.agg g88a_2,.int .i64 n88b_2]/\∃ q16_2:Addr,∃ w35:World,Ru (Instr.alloc 218 true (.tuple #[])) w34 (.pointer (some q16_2)) w35/\∃ w36:World,YE 218 q16_2 (.agg g88a_2) w35 w36/\Share (fun k_10=>(bif n88b_2==0 then ∃ n95_2:Int,YD 2 (Addr.add q16_2 3) (drew w36) (.int .i64 n95_2)/\∃ q97_2:Addr,(.pointer (some q52_2):Value)=.pointer (some q97_2)/\∃ n99_2:Int,YD 2 (Addr.add q97_2 6) (drew w36) (.int .i64 n99_2)/\k_10 [.bool (decide (n95_2 > n99_2))] (drew w36) else k_10 [.bool false] (drew w36))) fun x_10 w37 =>
 ∃ b101_2:Bool,nth x_10 0=.bool b101_2/\Share (fun k_11=>(bif b101_2 then
 ∃ n104_2:Int,YD 2 (Addr.add q16_2 3) w37 (.int .i64 n104_2)/\∃ q105_2:Addr,(.pointer (some q52_2):Value)=.pointer (some q105_2)/\∃ w38:World,YE 2 (Addr.add q105_2 6) (.int .i64 n104_2) w37 w38/\k_11 [] w38
 else
 k_11 [] w37)) fun x_11 w39 =>
 Share (fun k_12=>(bif n15_2==1 then (bif n88b_2 != 0 then k_12 [.bool true] w39 else ∃ n114_2:Int,YD 3 (Addr.add q16_2 0) w39 (.int .i64 n114_2)/\k_12 [.bool (n114_2 != 2)] w39) else k_12 [.bool false] w39)) fun x_12 w40 =>
 ∃ b117_2:Bool,nth x_12 0=.bool b117_2/\(bif b117_2 then
 K (.tuple #[.pointer none,.int .i64 8]) w40
 else
 k_9 [.int .i64 (IntKind.i64.wrap (n15_2+1)),.bool b101_2,.bool b117_2] w40)
 else
 ∃ q119_2:Addr,(.pointer (some q52_2):Value)=.pointer (some q119_2)/\∃ n121_2:Int,YD 2 (Addr.add q119_2 6) w33 (.int .i64 n121_2)/\∃ q123_2:Addr,(.pointer (some q52_2):Value)=.pointer (some q123_2)/\∃ w41:World,YE 2 (Addr.add q123_2 6) (.int .i64 (IntKind.i64.wrap (n121_2+1))) w33 w41/\K (.tuple #[.pointer (some q52_2),.int .i64 0]) w41)) [.int .i64 0,undef,undef] w27)) [.int .i64 0,undef] w26))
theorem C_leveeref13_Mount (p0:YB) (w0:World) (K:YA) (h:D_leveeref13_Mount p0 w0 K):Cal Tryz.prog F_leveeref13_Mount #[.pointer p0] w0 K :=
 denF_of (A:=⟨[12,15,75,101,117],[(12,3),(15,3),(75,4),(101,4),(117,4)],[]⟩) Tryz.func84 (by kernel_rfl) (by kernel_rfl) (by kernel_rfl) h
def D_leveeref14_New (p0:YB) (w0:World) (K:YA):Prop :=
 ∃ g4:Array Value,Al (Instr.build 82 #[(0,.pointer p0)]) (.agg g4)/\∃ q5:Addr,∃ w1:World,Ru (Instr.box 82 (.agg g4)) w0 (.pointer (some q5)) w1/\K (.pointer (some q5)) w1
theorem C_leveeref14_New (p0:YB) (w0:World) (K:YA) (h:D_leveeref14_New p0 w0 K):Cal Tryz.prog F_leveeref14_New #[.pointer p0] w0 K :=
 denF_of (A:=⟨[],[],[]⟩) Tryz.func85 (by kernel_rfl) (by kernel_rfl) (by kernel_rfl) h
def D_patch_Store_Patch (p0:YB) (n1:Int) (n2:Int) (a3:YB) (l3 c3:Nat) (a4:YB) (l4 c4:Nat) (w0:World) (K:YA):Prop :=
 ∃ q5:Addr,∃ w1:World,Ru (Instr.box 89 (.pointer p0)) w0 (.pointer (some q5)) w1/\∃ p21:YB,YD 89 q5 w1 (.pointer p21)/\(bif Option.isNone p21 then
 K (.tuple #[.int .i64 0,.int .i64 2]) w1
 else
 Share (fun k=>(bif decide (n1<0) then k [.bool true] w1 else ∃ p28:YB,YD 89 q5 w1 (.pointer p28)/\∃ q29:Addr,(.pointer p28:Value)=.pointer (some q29)/\∃ n31:Int,YD 3 (Addr.add q29 1) w1 (.int .i64 n31)/\k [.bool (decide (n1 >= n31))] w1)) fun x w2 =>
 ∃ b23:Bool,nth x 0=.bool b23/\(bif b23 then
 K (.tuple #[.int .i64 0,.int .i64 3]) w2
 else
 Share (fun k_2=>(bif (l3:Int)==0 then k_2 [.bool true] w2 else (bif decide (n2<0) then k_2 [.bool true] w2 else (bif decide (n2 > 256) then k_2 [.bool true] w2 else k_2 [.bool (decide ((l3:Int) > (IntKind.i64.wrap (256-n2))))] w2)))) fun x_2 w3 =>
 ∃ b34:Bool,nth x_2 0=.bool b34/\(bif b34 then
 K (.tuple #[.int .i64 0,.int .i64 4]) w3
 else
 YC F_slices_ContainsFunc_int64 #[.slice a4 l4 c4,.func (.func F_patch_Store_Patch_1) #[] #[.pointer (some q5)]] w3 fun r56 w4=>∃ b56:Bool,r56=.bool b56/\(bif b56 then
 K (.tuple #[.int .i64 0,.int .i64 1]) w4
 else
 ∃ p58:YB,YD 89 q5 w4 (.pointer p58)/\∃ q59:Addr,(.pointer p58:Value)=.pointer (some q59)/\∃ p61:YB,YD 160 (Addr.add q59 0) w4 (.pointer p61)/\YC F_cache_Cache_Read #[.pointer p61,.int .i64 n1] w4 fun r63 w5=>∃ (a63a:YB) (l63a c63a:Nat),∃ n63b:Int,r63=.tuple #[.slice a63a l63a c63a,.int .i64 n63b]/\(bif n63b != 0 then
 K (.tuple #[.int .i64 0,.int .i64 n63b]) w5
 else
 ∃ p69:YB,YD 89 q5 w5 (.pointer p69)/\∃ q70:Addr,(.pointer p69:Value)=.pointer (some q70)/\∃ m72:Option Nat,YD 162 (Addr.add q70 4) w5 (.map m72)/\∃ p74:YB,Ru (Instr.lookup 162 (.map m72) (.int .i64 n1) false) w5 (.pointer p74) w5/\Share (fun k_3=>(bif Option.isNone p74 then
 ∃ g78:Array Value,Al (Instr.build 171 #[(0,.slice a63a l63a c63a)]) (.agg g78)/\∃ q79:Addr,∃ w6:World,Ru (Instr.box 171 (.agg g78)) w5 (.pointer (some q79)) w6/\∃ p80:YB,YD 89 q5 w6 (.pointer p80)/\∃ q81:Addr,(.pointer p80:Value)=.pointer (some q81)/\∃ m83:Option Nat,YD 162 (Addr.add q81 4) w6 (.map m83)/\∃ w7:World,RuU (Instr.mapUpdate 162 (.map m83) (.int .i64 n1) (.pointer (some q79))) w6 w7/\∃ p86:YB,YD 89 q5 w7 (.pointer p86)/\∃ q87:Addr,(.pointer p86:Value)=.pointer (some q87)/\∃ p89:YB,YD 160 (Addr.add q87 0) w7 (.pointer p89)/\YC F_cache_Cache_Pin #[.pointer p89,.int .i64 n1] w7 fun r91 w8=>∃ n91:Int,r91=.int .i64 n91/\k_3 [.pointer (some q79)] w8
 else
 k_3 [.pointer p74] w5)) fun x_3 w9 =>
 YC F_num_Lay #[.slice a63a l63a c63a,.int .i64 n2,.slice a3 l3 c3] w9 fun r96 w10=>∃ (a96a:YB) (l96a c96a:Nat),∃ n96b:Int,r96=.tuple #[.slice a96a l96a c96a,.int .i64 n96b]/\∃ p99:YB,YD 89 q5 w10 (.pointer p99)/\∃ q100:Addr,(.pointer p99:Value)=.pointer (some q100)/\∃ p102:YB,YD 160 (Addr.add q100 0) w10 (.pointer p102)/\YC F_cache_Cache_Lay #[.pointer p102,.int .i64 n1,.slice a96a l96a c96a] w10 fun r105 w11=>∃ n105:Int,r105=.int .i64 n105/\∃ p106:YB,YD 89 q5 w11 (.pointer p106)/\∃ q107:Addr,(.pointer p106:Value)=.pointer (some q107)/\∃ n109:Int,YD 2 (Addr.add q107 2) w11 (.int .i64 n109)/\∃ q111:Addr,(.pointer p106:Value)=.pointer (some q111)/\∃ w12:World,YE 2 (Addr.add q111 2) (.int .i64 (IntKind.i64.wrap (n109+1))) w11 w12/\∃ p113:YB,YD 89 q5 (drew w12) (.pointer p113)/\∃ q114:Addr,(.pointer p113:Value)=.pointer (some q114)/\∃ n116:Int,YD 2 (Addr.add q114 2) (drew w12) (.int .i64 n116)/\YC F_slices_Clone_byte #[.slice a3 l3 c3] (drew w12) fun r120 w13=>∃ (a120:YB) (l120 c120:Nat),r120=.slice a120 l120 c120/\YD 89 q5 w13 (.pointer p113)/\YD 2 (Addr.add q114 2) w13 (.int .i64 n116)/\∃ g121:Array Value,Al (Instr.build 174 #[(0,.int .i64 n116),(1,.int .i64 n1),(2,.int .i64 n2),(3,.slice a120 l120 c120)]) (.agg g121)/\∃ q122:Addr,∃ w14:World,Ru (Instr.box 174 (.agg g121)) w13 (.pointer (some q122)) w14/\LoopC (fun k_4 x_4 w15 =>
 ∃ n125:Int,nth x_4 0=.int .i64 n125/\(bif decide (n125<(l4:Int)) then
 ∃ q127:Addr,Al (Instr.indexAt 159 (.slice a4 l4 c4) (.int .i64 n125)) (.pointer (some q127))/\∃ n128:Int,YD 2 q127 w15 (.int .i64 n128)/\∃ p129:YB,YD 89 q5 w15 (.pointer p129)/\∃ q130:Addr,(.pointer p129:Value)=.pointer (some q130)/\∃ m132:Option Nat,YD 161 (Addr.add q130 3) w15 (.map m132)/\∃ p134:YB,Ru (Instr.lookup 161 (.map m132) (.int .i64 n128) false) w15 (.pointer p134) w15/\Share (fun k_5=>(bif !(Option.isNone p134) then
 ∃ q138:Addr,(.pointer (some q122):Value)=.pointer (some q138)/\∃ (a140:YB) (l140 c140:Nat),YD 159 (Addr.add q138 4) w15 (.slice a140 l140 c140)/\∃ (a142:YB) (l142 c142:Nat),∃ w16:World,Ru (Instr.buildSlice 159 1 #[(0,.int .i64 n128)]) w15 (.slice a142 l142 c142) w16/\∃ (a143:YB) (l143 c143:Nat),∃ w17:World,Ru (Builtin.append_ #[159,159] 159 #[.slice a140 l140 c140,.slice a142 l142 c142]) w16 (.slice a143 l143 c143) w17/\∃ q144:Addr,(.pointer (some q122):Value)=.pointer (some q144)/\∃ w18:World,YE 159 (Addr.add q144 4) (.slice a143 l143 c143) w17 w18/\k_5 [] w18
 else
 k_5 [] w15)) fun x_5 w19 =>
 k_4 [.int .i64 (IntKind.i64.wrap (n125+1))] w19
 else
 ∃ p147:YB,YD 89 q5 (drew w15) (.pointer p147)/\∃ q148:Addr,(.pointer p147:Value)=.pointer (some q148)/\∃ m150:Option Nat,YD 161 (Addr.add q148 3) (drew w15) (.map m150)/\∃ q152:Addr,(.pointer (some q122):Value)=.pointer (some q152)/\∃ n154:Int,YD 2 (Addr.add q152 0) (drew w15) (.int .i64 n154)/\∃ w20:World,RuU (Instr.mapUpdate 161 (.map m150) (.int .i64 n154) (.pointer (some q122))) (drew w15) w20/\∃ p14:YB,nth x_3 0=.pointer p14/\∃ q158:Addr,(.pointer p14:Value)=.pointer (some q158)/\∃ (a160:YB) (l160 c160:Nat),YD 169 (Addr.add q158 1) w20 (.slice a160 l160 c160)/\∃ (a162:YB) (l162 c162:Nat),∃ w21:World,Ru (Instr.buildSlice 169 1 #[(0,.pointer (some q122))]) w20 (.slice a162 l162 c162) w21/\∃ (a163:YB) (l163 c163:Nat),∃ w22:World,Ru (Builtin.append_ #[169,169] 169 #[.slice a160 l160 c160,.slice a162 l162 c162]) w21 (.slice a163 l163 c163) w22/\∃ q164:Addr,(.pointer p14:Value)=.pointer (some q164)/\∃ w23:World,YE 169 (Addr.add q164 1) (.slice a163 l163 c163) w22 w23/\∃ q167:Addr,(.pointer (some q122):Value)=.pointer (some q167)/\∃ n169:Int,YD 2 (Addr.add q167 0) w23 (.int .i64 n169)/\K (.tuple #[.int .i64 n169,.int .i64 0]) w23)) [.int .i64 0] w14)))))
theorem C_patch_Store_Patch (p0:YB) (n1:Int) (n2:Int) (a3:YB) (l3 c3:Nat) (a4:YB) (l4 c4:Nat) (w0:World) (K:YA) (h:D_patch_Store_Patch p0 n1 n2 a3 l3 c3 a4 l4 c4 w0 K):Cal Tryz.prog F_patch_Store_Patch #[.pointer p0,.int .i64 n1,.int .i64 n2,.slice a3 l3 c3,.slice a4 l4 c4] w0 K :=
 denF_of (A:=⟨[14,23,34,125],[(14,165),(23,4),(34,4),(125,3)],[]⟩) Tryz.func87 (by kernel_rfl) (by kernel_rfl) (by kernel_rfl) h
def D_leveeref13_Vol_Head (p0:YB) (n1:Int) (w0:World) (K:YA):Prop :=
 ∃ q4:Addr,∃ w1:World,Ru (Instr.alloc 183 true (.tuple #[])) w0 (.pointer (some q4)) w1/\∃ q12:Addr,(.pointer p0:Value)=.pointer (some q12)/\∃ g14:Array Value,YD 40 (Addr.add q12 3) w1 (.agg g14)/\YC F_leveeref03_Head #[.agg g14,.int .i64 n1] w1 fun r16 w2=>∃ n16a:Int,∃ n16b:Int,r16=.tuple #[.int .i64 n16a,.int .i64 n16b]/\(bif n16b != 0 then
 ∃ g21:Array Value,Al (Instr.build 183 #[]) (.agg g21)/\∃ w3:World,YE 183 q4 (.agg g21) w2 w3/\∃ gR4:Array Value,YD 183 q4 w3 (.agg gR4)/\K (.tuple #[.agg gR4,.int .i64 n16b]) w3
 else
 ∃ q25:Addr,(.pointer p0:Value)=.pointer (some q25)/\∃ p27:YB,YD 75 (Addr.add q25 0) w2 (.pointer p27)/\YC F_leveeref11_Store_Read #[.pointer p27,.int .i64 n16a] w2 fun r29 w4=>∃ (a29a:YB) (l29a c29a:Nat),∃ n29b:Int,r29=.tuple #[.slice a29a l29a c29a,.int .i64 n29b]/\∃ q33:Addr,(.pointer p0:Value)=.pointer (some q33)/\∃ g35:Array Value,YD 40 (Addr.add q33 3) w4 (.agg g35)/\YC F_leveeref06_Get #[.agg g35,.slice a29a l29a c29a] w4 fun r37 w5=>∃ g37a:Array Value,∃ n37b:Int,r37=.tuple #[.agg g37a,.int .i64 n37b]/\∃ w6:World,YE 183 q4 (.agg g37a) w5 w6/\∃ gR4_2:Array Value,YD 183 q4 w6 (.agg gR4_2)/\K (.tuple #[.agg gR4_2,.int .i64 n37b]) w6)
theorem C_leveeref13_Vol_Head (p0:YB) (n1:Int) (w0:World) (K:YA) (h:D_leveeref13_Vol_Head p0 n1 w0 K):Cal Tryz.prog F_leveeref13_Vol_Head #[.pointer p0,.int .i64 n1] w0 K :=
 denF_of (A:=⟨[],[],[]⟩) Tryz.func105 (by kernel_rfl) (by kernel_rfl) (by kernel_rfl) h
def D_leveeref06_Free (g0:Array Value) (g1:Array Value) (w0:World) (K:YA):Prop :=
 ∃ q2:Addr,∃ w1:World,Ru (Instr.box 40 (.agg g0)) w0 (.pointer (some q2)) w1/\∃ q3:Addr,∃ w2:World,Ru (Instr.box 183 (.agg g1)) w1 (.pointer (some q3)) w2/\∃ g6:Array Value,YD 40 q2 w2 (.agg g6)/\∃ g7:Array Value,YD 183 q3 w2 (.agg g7)/\YC F_leveeref06_Right #[.agg g6,.agg g7] w2 fun r8 w3=>∃ b8:Bool,r8=.bool b8/\(bif !b8 then
 K (.tuple #[.int .i64 0,.int .i64 0]) w3
 else
 ∃ n11:Int,YD 3 (Addr.add q2 0) (drew w3) (.int .i64 n11)/\∃ (a13:YB) (l13 c13:Nat),YD 88 (Addr.add q3 1) (drew w3) (.slice a13 l13 c13)/\∃ n15:Int,YD 3 (Addr.add q2 0) (drew w3) (.int .i64 n15)/\∃ n19:Int,YD 3 (Addr.add q2 1) (drew w3) (.int .i64 n19)/\∃ (a21:YB) (l21 c21:Nat),YD 88 (Addr.add q3 2) (drew w3) (.slice a21 l21 c21)/\∃ n23:Int,YD 3 (Addr.add q2 1) (drew w3) (.int .i64 n23)/\YC F_leveeref05_Count #[.slice a13 l13 c13,.int .i64 n15] (drew w3) fun r16 w4=>∃ n16:Int,r16=.int .i64 n16/\YD 3 (Addr.add q2 0) w4 (.int .i64 n11)/\YD 3 (Addr.add q2 1) w4 (.int .i64 n19)/\YD 88 (Addr.add q3 2) w4 (.slice a21 l21 c21)/\YD 3 (Addr.add q2 1) w4 (.int .i64 n23)/\YC F_leveeref05_Count #[.slice a21 l21 c21,.int .i64 n23] w4 fun r24 w5=>∃ n24:Int,r24=.int .i64 n24/\YD 3 (Addr.add q2 0) w5 (.int .i64 n11)/\YD 3 (Addr.add q2 1) w5 (.int .i64 n19)/\K (.tuple #[.int .i64 (IntKind.i64.wrap (n11-n16)),.int .i64 (IntKind.i64.wrap (n19-n24))]) w5)
theorem C_leveeref06_Free (g0:Array Value) (g1:Array Value) (w0:World) (K:YA) (h:D_leveeref06_Free g0 g1 w0 K):Cal Tryz.prog F_leveeref06_Free #[.agg g0,.agg g1] w0 K :=
 denF_of (A:=⟨[],[],[]⟩) Tryz.func106 (by kernel_rfl) (by kernel_rfl) (by kernel_rfl) h
def D_leveeref03_Tables (g0:Array Value) (w0:World) (K:YA):Prop :=
 ∃ q1:Addr,∃ w1:World,Ru (Instr.box 40 (.agg g0)) w0 (.pointer (some q1)) w1/\∃ g3:Array Value,YD 40 q1 w1 (.agg g3)/\YC F_leveeref03_Right #[.agg g3] w1 fun r4 w2=>∃ b4:Bool,r4=.bool b4/\(bif !b4 then
 K (.int .i64 0) w2
 else
 ∃ n7:Int,YD 3 (Addr.add q1 1) w2 (.int .i64 n7)/\K (.int .i64 (IntKind.i64.wrap (Int.tdiv n7 4))) w2)
theorem C_leveeref03_Tables (g0:Array Value) (w0:World) (K:YA) (h:D_leveeref03_Tables g0 w0 K):Cal Tryz.prog F_leveeref03_Tables #[.agg g0] w0 K :=
 denF_of (A:=⟨[],[],[]⟩) Tryz.func107 (by kernel_rfl) (by kernel_rfl) (by kernel_rfl) h
def D_leveeref05_Get (a0:YB) (l0 c0:Nat) (n1:Int) (w0:World) (K:YA):Prop :=
 Share (fun k=>(bif decide (n1 >= 0) then (bif decide ((IntKind.i64.wrap (Int.tdiv n1 8))<(l0:Int)) then ∃ q18:Addr,Al (Instr.indexAt 88 (.slice a0 l0 c0) (.int .i64 (IntKind.i64.wrap (Int.tdiv n1 8)))) (.pointer (some q18))/\∃ n19:Int,YD 5 q18 w0 (.int .u8 n19)/\∃ n23:Int,Al (eqS .shr 5 (.tmp 19) (.tmp 22) (.int .u8 n19) (.int .u64 (IntKind.u64.wrap (Int.tmod n1 8)))) (.int .u8 n23)/\k [.bool ((IntKind.u8.wrap (bvAnd 8 n23 1))==1)] w0 else k [.bool false] w0) else k [.bool false] w0)) fun x w1 =>
 ∃ b4:Bool,nth x 0=.bool b4/\K (.bool b4) w1
theorem C_leveeref05_Get (a0:YB) (l0 c0:Nat) (n1:Int) (w0:World) (K:YA) (h:D_leveeref05_Get a0 l0 c0 n1 w0 K):Cal Tryz.prog F_leveeref05_Get #[.slice a0 l0 c0,.int .i64 n1] w0 K :=
 denF_of (A:=⟨[4],[(4,4)],[]⟩) Tryz.func109 (by kernel_rfl) (by kernel_rfl) (by kernel_rfl) h
def D_cache_Cache_Read (p0:YB) (n1:Int) (w0:World) (K:YA):Prop :=
 YC F_cache_Cache_may #[.pointer p0,.int .i64 n1,.slice none 0 0,.slice none 0 0] w0 fun r11 w1=>∃ n11:Int,r11=.int .i64 n11/\(bif n11 != 0 then
 K (.tuple #[.slice none 0 0,.int .i64 n11]) w1
 else
 YC F_cache_Cache_ask #[.pointer p0,.int .i64 n1] w1 fun r18 w2=>∃ p18a:YB,∃ n18b:Int,r18=.tuple #[.pointer p18a,.int .i64 n18b]/\(bif n18b != 0 then
 K (.tuple #[.slice none 0 0,.int .i64 n18b]) w2
 else
 ∃ q25:Addr,(.pointer p18a:Value)=.pointer (some q25)/\∃ (a28:YB) (l28 c28:Nat),YD 88 (Addr.add (Addr.add q25 0) 0) w2 (.slice a28 l28 c28)/\YC F_slices_Clone_byte #[.slice a28 l28 c28] w2 fun r29 w3=>∃ (a29:YB) (l29 c29:Nat),r29=.slice a29 l29 c29/\K (.tuple #[.slice a29 l29 c29,.int .i64 0]) w3))
theorem C_cache_Cache_Read (p0:YB) (n1:Int) (w0:World) (K:YA) (h:D_cache_Cache_Read p0 n1 w0 K):Cal Tryz.prog F_cache_Cache_Read #[.pointer p0,.int .i64 n1] w0 K :=
 denF_of (A:=⟨[],[],[]⟩) Tryz.func110 (by kernel_rfl) (by kernel_rfl) (by kernel_rfl) h
def D_leveeref11_Store_there (p0:YB) (n1:Int) (w0:World) (K:YA):Prop :=
 Share (fun k=>(bif decide (n1 >= 0) then ∃ q10:Addr,(.pointer p0:Value)=.pointer (some q10)/\∃ (a12:YB) (l12 c12:Nat),YD 178 (Addr.add q10 1) w0 (.slice a12 l12 c12)/\k [.bool (decide (n1<(l12:Int)))] w0 else k [.bool false] w0)) fun x w1 =>
 ∃ b4:Bool,nth x 0=.bool b4/\K (.bool b4) w1
theorem C_leveeref11_Store_there (p0:YB) (n1:Int) (w0:World) (K:YA) (h:D_leveeref11_Store_there p0 n1 w0 K):Cal Tryz.prog F_leveeref11_Store_there #[.pointer p0,.int .i64 n1] w0 K :=
 denF_of (A:=⟨[4],[(4,4)],[]⟩) Tryz.func111 (by kernel_rfl) (by kernel_rfl) (by kernel_rfl) h
def D_leveeref11_upon (a0:YB) (l0 c0:Nat) (g1:Array Value) (w0:World) (K:YA):Prop :=
 ∃ q3:Addr,∃ w1:World,Ru (Instr.box 189 (.agg g1)) w0 (.pointer (some q3)) w1/\∃ n10:Int,YD 3 (Addr.add q3 2) w1 (.int .i64 n10)/\∃ s12:ByteArray,YD 9 (Addr.add q3 3) w1 (.string s12)/\∃ (a13:YB) (l13 c13:Nat),∃ w2:World,Ru (convert 9 88 (.string s12)) w1 (.slice a13 l13 c13) w2/\YC F_leveeref01_Lay #[.slice a0 l0 c0,.int .i64 n10,.slice a13 l13 c13] w2 fun r14 w3=>∃ (a14a:YB) (l14a c14a:Nat),∃ n14b:Int,r14=.tuple #[.slice a14a l14a c14a,.int .i64 n14b]/\K (.slice a14a l14a c14a) w3
theorem C_leveeref11_upon (a0:YB) (l0 c0:Nat) (g1:Array Value) (w0:World) (K:YA) (h:D_leveeref11_upon a0 l0 c0 g1 w0 K):Cal Tryz.prog F_leveeref11_upon #[.slice a0 l0 c0,.agg g1] w0 K :=
 denF_of (A:=⟨[],[],[]⟩) Tryz.func112 (by kernel_rfl) (by kernel_rfl) (by kernel_rfl) h
def D_geo_Kind (g0:Array Value) (n1:Int) (w0:World) (K:YA):Prop :=
 ∃ q2:Addr,∃ w1:World,Ru (Instr.box 40 (.agg g0)) w0 (.pointer (some q2)) w1/\Share (fun k=>(bif decide (n1<0) then k [.bool true] w1 else ∃ g13:Array Value,YD 40 q2 w1 (.agg g13)/\YC F_geo_Size #[.agg g13] w1 fun r14 w2=>∃ n14:Int,r14=.int .i64 n14/\k [.bool (decide (n1 >= n14))] w2)) fun x w3 =>
 ∃ b8:Bool,nth x 0=.bool b8/\(bif b8 then
 K (.tuple #[.int .i64 0,.int .i64 ((-1))]) w3
 else
 (bif decide (n1<2) then
 K (.tuple #[.int .i64 1,.int .i64 ((-1))]) w3
 else
 ∃ n23:Int,YD 3 (Addr.add q2 0) (drew w3) (.int .i64 n23)/\∃ n24:Int,Al (eqS .quo 3 (.tmp 21) (.tmp 23) (.int .i64 (IntKind.i64.wrap (n1-2))) (.int .i64 n23)) (.int .i64 n24)/\∃ n28:Int,YD 3 (Addr.add q2 0) (drew w3) (.int .i64 n28)/\∃ n29:Int,Al (eqS .rem 3 (.tmp 26) (.tmp 28) (.int .i64 (IntKind.i64.wrap (n1-2))) (.int .i64 n28)) (.int .i64 n29)/\(bif n29==0 then
 K (.tuple #[.int .i64 2,.int .i64 n24]) (drew w3)
 else
 ∃ g36:Array Value,YD 40 q2 (drew w3) (.agg g36)/\YC F_geo_Tables #[.agg g36] (drew w3) fun r37 w4=>∃ n37:Int,r37=.int .i64 n37/\(bif decide (n29<=n37) then
 K (.tuple #[.int .i64 3,.int .i64 n24]) w4
 else
 K (.tuple #[.int .i64 4,.int .i64 n24]) w4))))
theorem C_geo_Kind (g0:Array Value) (n1:Int) (w0:World) (K:YA) (h:D_geo_Kind g0 n1 w0 K):Cal Tryz.prog F_geo_Kind #[.agg g0,.int .i64 n1] w0 K :=
 denF_of (A:=⟨[8],[(8,4)],[]⟩) Tryz.func113 (by kernel_rfl) (by kernel_rfl) (by kernel_rfl) h
def D_group_FindBlock (g0:Array Value) (g1:Array Value) (n2:Int) (w0:World) (K:YA):Prop :=
 ∃ q3:Addr,∃ w1:World,Ru (Instr.box 40 (.agg g0)) w0 (.pointer (some q3)) w1/\∃ q4:Addr,∃ w2:World,Ru (Instr.box 119 (.agg g1)) w1 (.pointer (some q4)) w2/\∃ g7:Array Value,YD 40 q3 w2 (.agg g7)/\∃ g8:Array Value,YD 119 q4 w2 (.agg g8)/\YC F_group_Right #[.agg g7,.agg g8] w2 fun r9 w3=>∃ b9:Bool,r9=.bool b9/\(bif !b9 then
 K (.int .i64 ((-1))) w3
 else
 ∃ (a12:YB) (l12 c12:Nat),Al (Instr.sliceAt 116 (.pointer (some (Addr.add q4 1))) none none none) (.slice a12 l12 c12)/\∃ n14:Int,YD 3 (Addr.add q3 0) (drew w3) (.int .i64 n14)/\YC F_bits_First #[.slice a12 l12 c12,.int .i64 n14,.int .i64 n2] (drew w3) fun r16 w4=>∃ n16:Int,r16=.int .i64 n16/\K (.int .i64 n16) w4)
theorem C_group_FindBlock (g0:Array Value) (g1:Array Value) (n2:Int) (w0:World) (K:YA) (h:D_group_FindBlock g0 g1 n2 w0 K):Cal Tryz.prog F_group_FindBlock #[.agg g0,.agg g1,.int .i64 n2] w0 K :=
 denF_of (A:=⟨[],[],[]⟩) Tryz.func114 (by kernel_rfl) (by kernel_rfl) (by kernel_rfl) h
def D_group_UseBlock (g0:Array Value) (g1:Array Value) (n2:Int) (b3:Bool) (w0:World) (K:YA):Prop :=
 ∃ q4:Addr,∃ w1:World,Ru (Instr.box 40 (.agg g0)) w0 (.pointer (some q4)) w1/\∃ q5:Addr,∃ w2:World,Ru (Instr.box 119 (.agg g1)) w1 (.pointer (some q5)) w2/\∃ q8:Addr,∃ w3:World,Ru (Instr.alloc 119 true (.tuple #[])) w2 (.pointer (some q8)) w3/\∃ g11:Array Value,YD 40 q4 (drew w3) (.agg g11)/\∃ g12:Array Value,YD 119 q5 (drew w3) (.agg g12)/\∃ g14:Array Value,YD 40 q4 (drew w3) (.agg g14)/\∃ n18:Int,YD 3 (Addr.add q4 0) (drew w3) (.int .i64 n18)/\YC F_geo_Tables #[.agg g14] (drew w3) fun r15 w4=>∃ n15:Int,r15=.int .i64 n15/\YD 40 q4 w4 (.agg g11)/\YD 119 q5 w4 (.agg g12)/\YD 3 (Addr.add q4 0) w4 (.int .i64 n18)/\YC F_group_may #[.agg g11,.agg g12,.int .i64 n2,.int .i64 (IntKind.i64.wrap (1+n15)),.int .i64 n18] w4 fun r19 w5=>∃ n19:Int,r19=.int .i64 n19/\Share (fun k=>(bif n19==0 then
 ∃ (a23:YB) (l23 c23:Nat),Al (Instr.sliceAt 116 (.pointer (some (Addr.add q5 1))) none none none) (.slice a23 l23 c23)/\YC F_group_use #[.slice a23 l23 c23,.int .i64 n2,.bool b3] w5 fun r26 w6=>∃ n26:Int,r26=.int .i64 n26/\k [.int .i64 n26] w6
 else
 k [.int .i64 n19] w5)) fun x w7 =>
 ∃ n10:Int,nth x 0=.int .i64 n10/\(bif n10 != 0 then
 ∃ g29:Array Value,Al (Instr.build 119 #[]) (.agg g29)/\∃ w8:World,YE 119 q8 (.agg g29) w7 w8/\∃ gR8:Array Value,YD 119 q8 w8 (.agg gR8)/\K (.tuple #[.agg gR8,.int .i64 n10]) w8
 else
 ∃ g31:Array Value,YD 119 q5 w7 (.agg g31)/\∃ w9:World,YE 119 q8 (.agg g31) w7 w9/\∃ gR8_2:Array Value,YD 119 q8 w9 (.agg gR8_2)/\K (.tuple #[.agg gR8_2,.int .i64 0]) w9)
theorem C_group_UseBlock (g0:Array Value) (g1:Array Value) (n2:Int) (b3:Bool) (w0:World) (K:YA) (h:D_group_UseBlock g0 g1 n2 b3 w0 K):Cal Tryz.prog F_group_UseBlock #[.agg g0,.agg g1,.int .i64 n2,.bool b3] w0 K :=
 denF_of (A:=⟨[10],[(10,24)],[]⟩) Tryz.func115 (by kernel_rfl) (by kernel_rfl) (by kernel_rfl) h
def D_geo_Right (g0:Array Value) (w0:World) (K:YA):Prop :=
 ∃ q1:Addr,∃ w1:World,Ru (Instr.box 40 (.agg g0)) w0 (.pointer (some q1)) w1/\∃ g4:Array Value,YD 40 q1 w1 (.agg g4)/\YC F_geo_whole #[.agg g4] w1 fun r5 w2=>∃ g5:Array Value,r5=.agg g5/\∃ q3:Addr,∃ w3:World,Ru (Instr.alloc 40 true (.tuple #[])) w2 (.pointer (some q3)) w3/\∃ w4:World,YE 40 q3 (.agg g5) w3 w4/\Share (fun k=>∃ g6:Array Value,YD 40 q3 w4 (.agg g6)/\∃ g7:Array Value,YD 40 q1 w4 (.agg g7)/\∃ b8:Bool,Al (eqS .eql 40 (.tmp 6) (.tmp 7) (.agg g6) (.agg g7)) (.bool b8)/\(bif b8 then ∃ n11:Int,YD 3 (Addr.add q3 2) w4 (.int .i64 n11)/\k [.bool (decide (n11 > 0))] w4 else k [.bool false] w4)) fun x w5 =>
 ∃ b2:Bool,nth x 0=.bool b2/\K (.bool b2) w5
theorem C_geo_Right (g0:Array Value) (w0:World) (K:YA) (h:D_geo_Right g0 w0 K):Cal Tryz.prog F_geo_Right #[.agg g0] w0 K :=
 denF_of (A:=⟨[2],[(2,4)],[]⟩) Tryz.func116 (by kernel_rfl) (by kernel_rfl) (by kernel_rfl) h
def D_geo_Of (g0:Array Value) (n1:Int) (w0:World) (K:YA):Prop :=
 ∃ q2:Addr,∃ w1:World,Ru (Instr.box 40 (.agg g0)) w0 (.pointer (some q2)) w1/\Share (fun k=>(bif decide (n1<0) then k [.bool true] w1 else ∃ g9:Array Value,YD 40 q2 w1 (.agg g9)/\YC F_geo_Slots #[.agg g9] w1 fun r10 w2=>∃ n10:Int,r10=.int .i64 n10/\k [.bool (decide (n1 >= n10))] w2)) fun x w3 =>
 ∃ b12:Bool,nth x 0=.bool b12/\(bif b12 then
 K (.int .i64 ((-1))) w3
 else
 ∃ n15:Int,YD 3 (Addr.add q2 1) w3 (.int .i64 n15)/\∃ n16:Int,Al (eqS .quo 3 (.tmp 13) (.tmp 15) (.int .i64 n1) (.int .i64 n15)) (.int .i64 n16)/\K (.int .i64 n16) w3)
theorem C_geo_Of (g0:Array Value) (n1:Int) (w0:World) (K:YA) (h:D_geo_Of g0 n1 w0 K):Cal Tryz.prog F_geo_Of #[.agg g0,.int .i64 n1] w0 K :=
 denF_of (A:=⟨[12],[(12,4)],[]⟩) Tryz.func117 (by kernel_rfl) (by kernel_rfl) (by kernel_rfl) h
def D_group_FindSlot (g0:Array Value) (g1:Array Value) (n2:Int) (w0:World) (K:YA):Prop :=
 ∃ q3:Addr,∃ w1:World,Ru (Instr.box 40 (.agg g0)) w0 (.pointer (some q3)) w1/\∃ q4:Addr,∃ w2:World,Ru (Instr.box 119 (.agg g1)) w1 (.pointer (some q4)) w2/\∃ g7:Array Value,YD 40 q3 w2 (.agg g7)/\∃ g8:Array Value,YD 119 q4 w2 (.agg g8)/\YC F_group_Right #[.agg g7,.agg g8] w2 fun r9 w3=>∃ b9:Bool,r9=.bool b9/\(bif !b9 then
 K (.int .i64 ((-1))) w3
 else
 ∃ (a12:YB) (l12 c12:Nat),Al (Instr.sliceAt 117 (.pointer (some (Addr.add q4 17))) none none none) (.slice a12 l12 c12)/\∃ n14:Int,YD 3 (Addr.add q3 1) (drew w3) (.int .i64 n14)/\YC F_bits_First #[.slice a12 l12 c12,.int .i64 n14,.int .i64 n2] (drew w3) fun r16 w4=>∃ n16:Int,r16=.int .i64 n16/\K (.int .i64 n16) w4)
theorem C_group_FindSlot (g0:Array Value) (g1:Array Value) (n2:Int) (w0:World) (K:YA) (h:D_group_FindSlot g0 g1 n2 w0 K):Cal Tryz.prog F_group_FindSlot #[.agg g0,.agg g1,.int .i64 n2] w0 K :=
 denF_of (A:=⟨[],[],[]⟩) Tryz.func118 (by kernel_rfl) (by kernel_rfl) (by kernel_rfl) h
def D_group_UseSlot (g0:Array Value) (g1:Array Value) (n2:Int) (b3:Bool) (w0:World) (K:YA):Prop :=
 ∃ q4:Addr,∃ w1:World,Ru (Instr.box 40 (.agg g0)) w0 (.pointer (some q4)) w1/\∃ q5:Addr,∃ w2:World,Ru (Instr.box 119 (.agg g1)) w1 (.pointer (some q5)) w2/\∃ q8:Addr,∃ w3:World,Ru (Instr.alloc 119 true (.tuple #[])) w2 (.pointer (some q8)) w3/\∃ n13:Int,YD 3 (Addr.add q5 0) w3 (.int .i64 n13)/\Share (fun k=>(bif n13==0 then
 k [.int .i64 2] w3
 else
 k [.int .i64 0] w3)) fun x w4 =>
 ∃ g15:Array Value,YD 40 q4 w4 (.agg g15)/\∃ g16:Array Value,YD 119 q5 w4 (.agg g16)/\∃ n10:Int,nth x 0=.int .i64 n10/\∃ n20:Int,YD 3 (Addr.add q4 1) w4 (.int .i64 n20)/\YC F_group_may #[.agg g15,.agg g16,.int .i64 n2,.int .i64 n10,.int .i64 n20] w4 fun r21 w5=>∃ n21:Int,r21=.int .i64 n21/\Share (fun k_2=>(bif n21==0 then
 ∃ (a25:YB) (l25 c25:Nat),Al (Instr.sliceAt 117 (.pointer (some (Addr.add q5 17))) none none none) (.slice a25 l25 c25)/\YC F_group_use #[.slice a25 l25 c25,.int .i64 n2,.bool b3] w5 fun r28 w6=>∃ n28:Int,r28=.int .i64 n28/\k_2 [.int .i64 n28] w6
 else
 k_2 [.int .i64 n21] w5)) fun x_2 w7 =>
 ∃ n11:Int,nth x_2 0=.int .i64 n11/\(bif n11 != 0 then
 ∃ g31:Array Value,Al (Instr.build 119 #[]) (.agg g31)/\∃ w8:World,YE 119 q8 (.agg g31) w7 w8/\∃ gR8:Array Value,YD 119 q8 w8 (.agg gR8)/\K (.tuple #[.agg gR8,.int .i64 n11]) w8
 else
 ∃ g33:Array Value,YD 119 q5 w7 (.agg g33)/\∃ w9:World,YE 119 q8 (.agg g33) w7 w9/\∃ gR8_2:Array Value,YD 119 q8 w9 (.agg gR8_2)/\K (.tuple #[.agg gR8_2,.int .i64 0]) w9)
theorem C_group_UseSlot (g0:Array Value) (g1:Array Value) (n2:Int) (b3:Bool) (w0:World) (K:YA) (h:D_group_UseSlot g0 g1 n2 b3 w0 K):Cal Tryz.prog F_group_UseSlot #[.agg g0,.agg g1,.int .i64 n2,.bool b3] w0 K :=
 denF_of (A:=⟨[10,11],[(10,3),(11,24)],[]⟩) Tryz.func119 (by kernel_rfl) (by kernel_rfl) (by kernel_rfl) h
def D_alloc_Alloc_ring_1 (v0:Value) (v1:Value) (q2:Addr) (v3:Value) (w0:World) (K:YA):Prop :=
 ∃ p9:YB,Ru (Instr.loadAt 22 v1) w0 (.pointer p9) w0/\∃ q10:Addr,(.pointer p9:Value)=.pointer (some q10)/\∃ p12:YB,YD 31 (Addr.add q10 0) w0 (.pointer p12)/\YC F_vol_Vol_Geo #[.pointer p12] w0 fun r13 w1=>∃ g13:Array Value,r13=.agg g13/\∃ n14:Int,Al (Instr.field 40 (.agg g13) 2) (.int .i64 n14)/\LoopC (fun k x w2 =>
 ∃ n16:Int,nth x 1=.int .i64 n16/\(bif decide (n16<n14) then
 ∃ n20:Int,YD 3 (Addr.add q2 0) w2 (.int .i64 n20)/\∃ n24:Int,Al (eqS .rem 3 (.tmp 22) (.tmp 23) (.int .i64 (IntKind.i64.wrap (n20+n16))) (.int .i64 n14)) (.int .i64 n24)/\Share (fun k_2=>(bif n16==0 then ∃ b28:Bool,Ru (Instr.loadAt 4 v3) w2 (.bool b28) w2/\k_2 [.bool b28] w2 else k_2 [.bool false] w2)) fun x_2 w3 =>
 ∃ b29:Bool,nth x_2 0=.bool b29/\Share (fun k_3=>(bif b29 then
 ∃ n31:Int,YD 3 (Addr.add q2 1) w3 (.int .i64 n31)/\k_3 [.int .i64 (IntKind.i64.wrap (n31+1))] w3
 else
 k_3 [.int .i64 0] w3)) fun x_3 w4 =>
 Share (fun k_4=>∃ p33:YB,Ru (Instr.loadAt 22 v1) w4 (.pointer p33) w4/\∃ q34:Addr,(.pointer p33:Value)=.pointer (some q34)/\∃ m36:Option Nat,YD 97 (Addr.add q34 1) w4 (.map m36)/\∃ b38:Bool,Ru (Instr.lookup 97 (.map m36) (.int .i64 n24) false) w4 (.bool b38) w4/\(bif !b38 then ∃ n8:Int,nth x_3 0=.int .i64 n8/\Dyn Tryz.prog v0 #[.int .i64 n24,.int .i64 n8] w4 fun r44 w5=>∃ b44:Bool,r44=.bool b44/\k_4 [.bool (!b44)] w5 else k_4 [.bool false] w4)) fun x_4 w6 =>
 ∃ b46:Bool,nth x_4 0=.bool b46/\(bif b46 then
 K (.tuple #[]) w6
 else
 k [nth x_3 0,.int .i64 (IntKind.i64.wrap (n16+1)),.bool b29,.bool b46] w6)
 else
 K (.tuple #[]) w2)) [undef,.int .i64 0,undef,undef] w1
theorem C_alloc_Alloc_ring_1 (v0:Value) (v1:Value) (q2:Addr) (v3:Value) (w0:World) (K:YA) (h:D_alloc_Alloc_ring_1 v0 v1 q2 v3 w0 K):Cal Tryz.prog F_alloc_Alloc_ring_1 #[v0,v1,.pointer (some q2),v3] w0 K :=
 denF_of (A:=⟨[8,16,29,46],[(8,3),(16,3),(29,4),(46,4)],[]⟩) Tryz.func120 (by kernel_rfl) (by kernel_rfl) (by kernel_rfl) h
def D_vol_Vol_head (p0:YB) (n1:Int) (w0:World) (K:YA):Prop :=
 (bif Option.isNone p0 then
 K (.tuple #[.int .i64 0,.int .i64 2]) w0
 else
 ∃ q9:Addr,(.pointer p0:Value)=.pointer (some q9)/\∃ g12:Array Value,YD 40 (Addr.add (Addr.add q9 0) 1) w0 (.agg g12)/\YC F_geo_Head #[.agg g12,.int .i64 n1] w0 fun r14 w1=>∃ n14a:Int,∃ n14b:Int,r14=.tuple #[.int .i64 n14a,.int .i64 n14b]/\K (.tuple #[.int .i64 n14a,.int .i64 n14b]) w1)
theorem C_vol_Vol_head (p0:YB) (n1:Int) (w0:World) (K:YA) (h:D_vol_Vol_head p0 n1 w0 K):Cal Tryz.prog F_vol_Vol_head #[.pointer p0,.int .i64 n1] w0 K :=
 denF_of (A:=⟨[],[],[]⟩) Tryz.func121 (by kernel_rfl) (by kernel_rfl) (by kernel_rfl) h
def D_group_Get (g0:Array Value) (a1:YB) (l1 c1:Nat) (w0:World) (K:YA):Prop :=
 ∃ q2:Addr,∃ w1:World,Ru (Instr.box 40 (.agg g0)) w0 (.pointer (some q2)) w1/\∃ q4:Addr,∃ w2:World,Ru (Instr.alloc 119 true (.tuple #[])) w1 (.pointer (some q4)) w2/\∃ g12:Array Value,YD 40 q2 w2 (.agg g12)/\YC F_geo_Right #[.agg g12] w2 fun r13 w3=>∃ b13:Bool,r13=.bool b13/\(bif !b13 then
 ∃ g15:Array Value,Al (Instr.build 119 #[]) (.agg g15)/\∃ w4:World,YE 119 q4 (.agg g15) w3 w4/\∃ gR4:Array Value,YD 119 q4 w4 (.agg gR4)/\K (.tuple #[.agg gR4,.int .i64 1]) w4
 else
 (bif (l1:Int) != 256 then
 ∃ g20:Array Value,Al (Instr.build 119 #[]) (.agg g20)/\∃ w5:World,YE 119 q4 (.agg g20) w3 w5/\∃ gR4_2:Array Value,YD 119 q4 w5 (.agg gR4_2)/\K (.tuple #[.agg gR4_2,.int .i64 4]) w5
 else
 ∃ (a22:YB) (l22 c22:Nat),Al (Instr.sliceAt 88 (.slice a1 l1 c1) (some (.int .i64 4)) (some (.int .i64 6)) none) (.slice a22 l22 c22)/\YC F_num_Get #[.slice a22 l22 c22] w3 fun r23 w6=>∃ n23:Int,r23=.int .u64 n23/\∃ g25:Array Value,Al (Instr.build 119 #[(0,.int .i64 (IntKind.i64.wrap n23))]) (.agg g25)/\∃ q6:Addr,∃ w7:World,Ru (Instr.alloc 119 true (.tuple #[])) w6 (.pointer (some q6)) w7/\∃ w8:World,YE 119 q6 (.agg g25) w7 w8/\∃ (a27:YB) (l27 c27:Nat),Al (Instr.sliceAt 116 (.pointer (some (Addr.add q6 1))) none none none) (.slice a27 l27 c27)/\∃ (a29:YB) (l29 c29:Nat),Al (Instr.sliceAt 88 (.slice a1 l1 c1) (some (.int .i64 16)) none none) (.slice a29 l29 c29)/\∃ n30:Int,∃ w9:World,Ru (Builtin.copy_ #[88,88] 3 #[.slice a27 l27 c27,.slice a29 l29 c29]) (drew w8) (.int .i64 n30) w9/\∃ (a32:YB) (l32 c32:Nat),Al (Instr.sliceAt 117 (.pointer (some (Addr.add q6 17))) none none none) (.slice a32 l32 c32)/\∃ (a34:YB) (l34 c34:Nat),Al (Instr.sliceAt 88 (.slice a1 l1 c1) (some (.int .i64 32)) none none) (.slice a34 l34 c34)/\∃ n35:Int,∃ w10:World,Ru (Builtin.copy_ #[88,88] 3 #[.slice a32 l32 c32,.slice a34 l34 c34]) (drew w9) (.int .i64 n35) w10/\∃ g37:Array Value,YD 40 q2 w10 (.agg g37)/\∃ g38:Array Value,YD 119 q6 w10 (.agg g38)/\YC F_group_Put #[.agg g37,.agg g38] w10 fun r39 w11=>∃ (a39a:YB) (l39a c39a:Nat),∃ n39b:Int,r39=.tuple #[.slice a39a l39a c39a,.int .i64 n39b]/\YC F_num_Diff #[.slice a1 l1 c1,.slice a39a l39a c39a] w11 fun r45 w12=>∃ n45a:Int,∃ n45b:Int,r45=.tuple #[.int .i64 n45a,.int .i64 n45b]/\Share (fun k=>(bif n39b != 0 then k [.bool true] w12 else k [.bool (decide (n45a >= 0))] w12)) fun x w13 =>
 ∃ b53:Bool,nth x 0=.bool b53/\(bif b53 then
 ∃ g54:Array Value,Al (Instr.build 119 #[]) (.agg g54)/\∃ w14:World,YE 119 q4 (.agg g54) w13 w14/\∃ gR4_3:Array Value,YD 119 q4 w14 (.agg gR4_3)/\K (.tuple #[.agg gR4_3,.int .i64 8]) w14
 else
 ∃ g55:Array Value,YD 119 q6 w13 (.agg g55)/\∃ w15:World,YE 119 q4 (.agg g55) w13 w15/\∃ gR4_4:Array Value,YD 119 q4 w15 (.agg gR4_4)/\K (.tuple #[.agg gR4_4,.int .i64 0]) w15)))
theorem C_group_Get (g0:Array Value) (a1:YB) (l1 c1:Nat) (w0:World) (K:YA) (h:D_group_Get g0 a1 l1 c1 w0 K):Cal Tryz.prog F_group_Get #[.agg g0,.slice a1 l1 c1] w0 K :=
 denF_of (A:=⟨[53],[(53,4)],[]⟩) Tryz.func122 (by kernel_rfl) (by kernel_rfl) (by kernel_rfl) h
def D_group_Right (g0:Array Value) (g1:Array Value) (w0:World) (K:YA):Prop :=
 ∃ q2:Addr,∃ w1:World,Ru (Instr.box 40 (.agg g0)) w0 (.pointer (some q2)) w1/\∃ q3:Addr,∃ w2:World,Ru (Instr.box 119 (.agg g1)) w1 (.pointer (some q3)) w2/\∃ g14:Array Value,YD 40 q2 w2 (.agg g14)/\∃ n16:Int,YD 3 (Addr.add q3 0) w2 (.int .i64 n16)/\YC F_group_Fresh #[.agg g14,.int .i64 n16] w2 fun r17 w3=>∃ g17a:Array Value,∃ n17b:Int,r17=.tuple #[.agg g17a,.int .i64 n17b]/\∃ q5:Addr,∃ w4:World,Ru (Instr.alloc 119 true (.tuple #[])) w3 (.pointer (some q5)) w4/\∃ w5:World,YE 119 q5 (.agg g17a) w4 w5/\(bif n17b != 0 then
 K (.bool false) w5
 else
 ∃ n23:Int,YD 3 (Addr.add q3 0) w5 (.int .i64 n23)/\∃ g24:Array Value,Al (Instr.build 119 #[(0,.int .i64 n23)]) (.agg g24)/\∃ q7:Addr,∃ w6:World,Ru (Instr.alloc 119 true (.tuple #[])) w5 (.pointer (some q7)) w6/\∃ w7:World,YE 119 q7 (.agg g24) w6 w7/\∃ g26:Array Value,YD 116 (Addr.add q3 1) w7 (.agg g26)/\LoopC (fun k x w8 =>
 ∃ n27:Int,nth x 0=.int .i64 n27/\(bif decide (n27<16) then
 ∃ n30:Int,Al (Instr.index 116 (.agg g26) (.int .i64 n27)) (.int .u8 n30)/\∃ q35:Addr,Al (Instr.indexAt 116 (.pointer (some (Addr.add q5 1))) (.int .i64 n27)) (.pointer (some q35))/\∃ n36:Int,YD 5 q35 w8 (.int .u8 n36)/\∃ q39:Addr,Al (Instr.indexAt 116 (.pointer (some (Addr.add q7 1))) (.int .i64 n27)) (.pointer (some q39))/\∃ w9:World,YE 5 q39 (.int .u8 (IntKind.u8.wrap (bvOr 8 n30 n36))) w8 w9/\k [.int .i64 (IntKind.i64.wrap (n27+1))] w9
 else
 ∃ g42:Array Value,YD 117 (Addr.add q3 17) w8 (.agg g42)/\LoopC (fun k_2 x_2 w10 =>
 ∃ n43:Int,nth x_2 0=.int .i64 n43/\(bif decide (n43<8) then
 ∃ n46:Int,Al (Instr.index 117 (.agg g42) (.int .i64 n43)) (.int .u8 n46)/\∃ q51:Addr,Al (Instr.indexAt 117 (.pointer (some (Addr.add q5 17))) (.int .i64 n43)) (.pointer (some q51))/\∃ n52:Int,YD 5 q51 w10 (.int .u8 n52)/\∃ q55:Addr,Al (Instr.indexAt 117 (.pointer (some (Addr.add q7 17))) (.int .i64 n43)) (.pointer (some q55))/\∃ w11:World,YE 5 q55 (.int .u8 (IntKind.u8.wrap (bvOr 8 n46 n52))) w10 w11/\k_2 [.int .i64 (IntKind.i64.wrap (n43+1))] w11
 else
 Share (fun k_3=>∃ (a58:YB) (l58 c58:Nat),Al (Instr.sliceAt 116 (.pointer (some (Addr.add q3 1))) none none none) (.slice a58 l58 c58)/\∃ n60:Int,YD 3 (Addr.add q2 0) (drew w10) (.int .i64 n60)/\∃ (a63:YB) (l63 c63:Nat),Al (Instr.sliceAt 116 (.pointer (some (Addr.add q3 1))) none none none) (.slice a63 l63 c63)/\YC F_bits_Count #[.slice a58 l58 c58,.int .i64 n60] (drew w10) fun r61 w12=>∃ n61:Int,r61=.int .i64 n61/\YC F_bits_Count #[.slice a63 l63 c63,.int .i64 128] w12 fun r64 w13=>∃ n64:Int,r64=.int .i64 n64/\(bif n61==n64 then ∃ (a68:YB) (l68 c68:Nat),Al (Instr.sliceAt 117 (.pointer (some (Addr.add q3 17))) none none none) (.slice a68 l68 c68)/\∃ n70:Int,YD 3 (Addr.add q2 1) w13 (.int .i64 n70)/\∃ (a73:YB) (l73 c73:Nat),Al (Instr.sliceAt 117 (.pointer (some (Addr.add q3 17))) none none none) (.slice a73 l73 c73)/\YC F_bits_Count #[.slice a68 l68 c68,.int .i64 n70] w13 fun r71 w14=>∃ n71:Int,r71=.int .i64 n71/\YC F_bits_Count #[.slice a73 l73 c73,.int .i64 64] w14 fun r74 w15=>∃ n74:Int,r74=.int .i64 n74/\k_3 [.bool (n71==n74)] w15 else k_3 [.bool false] w13)) fun x_3 w16 =>
 Share (fun k_4=>∃ g78:Array Value,YD 116 (Addr.add q7 1) w16 (.agg g78)/\∃ g80:Array Value,YD 116 (Addr.add q3 1) w16 (.agg g80)/\∃ b81:Bool,Al (eqS .eql 116 (.tmp 78) (.tmp 80) (.agg g78) (.agg g80)) (.bool b81)/\(bif b81 then ∃ g84:Array Value,YD 117 (Addr.add q7 17) w16 (.agg g84)/\∃ g86:Array Value,YD 117 (Addr.add q3 17) w16 (.agg g86)/\∃ b87:Bool,Al (eqS .eql 117 (.tmp 84) (.tmp 86) (.agg g84) (.agg g86)) (.bool b87)/\(bif b87 then ∃ b12:Bool,nth x_3 0=.bool b12/\k_4 [.bool b12] w16 else k_4 [.bool false] w16) else k_4 [.bool false] w16)) fun x_4 w17 =>
 ∃ b4:Bool,nth x_4 0=.bool b4/\K (.bool b4) w17)) [.int .i64 0] w8)) [.int .i64 0] w7)
theorem C_group_Right (g0:Array Value) (g1:Array Value) (w0:World) (K:YA) (h:D_group_Right g0 g1 w0 K):Cal Tryz.prog F_group_Right #[.agg g0,.agg g1] w0 K :=
 denF_of (A:=⟨[4,12,27,43],[(4,4),(12,4),(27,3),(43,3)],[]⟩) Tryz.func123 (by kernel_rfl) (by kernel_rfl) (by kernel_rfl) h
def D_bits_Count (a0:YB) (l0 c0:Nat) (n1:Int) (w0:World) (K:YA):Prop :=
 YC F_bits_most #[.slice a0 l0 c0,.int .i64 n1] w0 fun r9 w1=>∃ n9:Int,r9=.int .i64 n9/\LoopC (fun k x w2 =>
 ∃ n10:Int,nth x 1=.int .i64 n10/\(bif decide (n10<n9) then
 YC F_bits_Get #[.slice a0 l0 c0,.int .i64 n10] w2 fun r15 w3=>∃ b15:Bool,r15=.bool b15/\Share (fun k_2=>(bif b15 then
 ∃ n5:Int,nth x 0=.int .i64 n5/\k_2 [.int .i64 (IntKind.i64.wrap (n5+1))] w3
 else
 k_2 [nth x 0] w3)) fun x_2 w4 =>
 k [nth x_2 0,.int .i64 (IntKind.i64.wrap (n10+1))] w4
 else
 ∃ n5_2:Int,nth x 0=.int .i64 n5_2/\K (.int .i64 n5_2) w2)) [.int .i64 0,.int .i64 0] w1
theorem C_bits_Count (a0:YB) (l0 c0:Nat) (n1:Int) (w0:World) (K:YA) (h:D_bits_Count a0 l0 c0 n1 w0 K):Cal Tryz.prog F_bits_Count #[.slice a0 l0 c0,.int .i64 n1] w0 K :=
 denF_of (A:=⟨[5,10],[(5,3),(10,3)],[]⟩) Tryz.func124 (by kernel_rfl) (by kernel_rfl) (by kernel_rfl) h
def D_geo_Tables (g0:Array Value) (w0:World) (K:YA):Prop :=
 ∃ q1:Addr,∃ w1:World,Ru (Instr.box 40 (.agg g0)) w0 (.pointer (some q1)) w1/\∃ g4:Array Value,Al (Instr.build 40 #[]) (.agg g4)/\∃ q3:Addr,∃ w2:World,Ru (Instr.alloc 40 true (.tuple #[])) w1 (.pointer (some q3)) w2/\∃ w3:World,YE 40 q3 (.agg g4) w2 w3/\∃ g5:Array Value,YD 40 q1 (drew w3) (.agg g5)/\∃ g7:Array Value,YD 40 q3 (drew w3) (.agg g7)/\YC F_geo_whole #[.agg g5] (drew w3) fun r6 w4=>∃ g6:Array Value,r6=.agg g6/\YD 40 q3 w4 (.agg g7)/\∃ b8:Bool,Al (eqS .eql 40 (.tmp 6) (.tmp 7) (.agg g6) (.agg g7)) (.bool b8)/\(bif b8 then
 K (.int .i64 0) w4
 else
 ∃ n10:Int,YD 3 (Addr.add q1 1) w4 (.int .i64 n10)/\K (.int .i64 (IntKind.i64.wrap (Int.tdiv n10 4))) w4)
theorem C_geo_Tables (g0:Array Value) (w0:World) (K:YA) (h:D_geo_Tables g0 w0 K):Cal Tryz.prog F_geo_Tables #[.agg g0] w0 K :=
 denF_of (A:=⟨[],[],[]⟩) Tryz.func125 (by kernel_rfl) (by kernel_rfl) (by kernel_rfl) h
def D_bits_there (a0:YB) (l0 c0:Nat) (n1:Int) (w0:World) (K:YA):Prop :=
 Share (fun k=>(bif decide (n1 >= 0) then k [.bool (decide (n1<(IntKind.i64.wrap (8*(l0:Int)))))] w0 else k [.bool false] w0)) fun x w1 =>
 ∃ b4:Bool,nth x 0=.bool b4/\K (.bool b4) w1
theorem C_bits_there (a0:YB) (l0 c0:Nat) (n1:Int) (w0:World) (K:YA) (h:D_bits_there a0 l0 c0 n1 w0 K):Cal Tryz.prog F_bits_there #[.slice a0 l0 c0,.int .i64 n1] w0 K :=
 denF_of (A:=⟨[4],[(4,4)],[]⟩) Tryz.func128 (by kernel_rfl) (by kernel_rfl) (by kernel_rfl) h
def D_vol_Vol_SetHead (p0:YB) (n1:Int) (g2:Array Value) (a3:YB) (l3 c3:Nat) (w0:World) (K:YA):Prop :=
 ∃ q6:Addr,∃ w1:World,Ru (Instr.box 119 (.agg g2)) w0 (.pointer (some q6)) w1/\YC F_vol_Vol_head #[.pointer p0,.int .i64 n1] w1 fun r16 w2=>∃ n16a:Int,∃ n16b:Int,r16=.tuple #[.int .i64 n16a,.int .i64 n16b]/\(bif n16b != 0 then
 K (.tuple #[.int .i64 0,.int .i64 n16b]) w2
 else
 ∃ q24:Addr,(.pointer p0:Value)=.pointer (some q24)/\∃ g27:Array Value,YD 40 (Addr.add (Addr.add q24 0) 1) (drew w2) (.agg g27)/\∃ g28:Array Value,YD 119 q6 (drew w2) (.agg g28)/\YC F_group_Put #[.agg g27,.agg g28] (drew w2) fun r29 w3=>∃ (a29a:YB) (l29a c29a:Nat),∃ n29b:Int,r29=.tuple #[.slice a29a l29a c29a,.int .i64 n29b]/\Share (fun k=>(bif n29b != 0 then k [.bool true] w3 else ∃ n36:Int,YD 3 (Addr.add q6 0) w3 (.int .i64 n36)/\k [.bool (n36 != n1)] w3)) fun x w4 =>
 ∃ b39:Bool,nth x 0=.bool b39/\(bif b39 then
 K (.tuple #[.int .i64 0,.int .i64 1]) w4
 else
 ∃ q41:Addr,(.pointer p0:Value)=.pointer (some q41)/\∃ p43:YB,YD 89 (Addr.add q41 4) (drew w4) (.pointer p43)/\∃ (a46:YB) (l46 c46:Nat),Al (Instr.sliceAt 88 (.slice a29a l29a c29a) none (some (.int .i64 64)) none) (.slice a46 l46 c46)/\YC F_patch_Store_Patch #[.pointer p43,.int .i64 n16a,.int .i64 0,.slice a46 l46 c46,.slice a3 l3 c3] (drew w4) fun r48 w5=>∃ n48a:Int,∃ n48b:Int,r48=.tuple #[.int .i64 n48a,.int .i64 n48b]/\K (.tuple #[.int .i64 n48a,.int .i64 n48b]) w5))
theorem C_vol_Vol_SetHead (p0:YB) (n1:Int) (g2:Array Value) (a3:YB) (l3 c3:Nat) (w0:World) (K:YA) (h:D_vol_Vol_SetHead p0 n1 g2 a3 l3 c3 w0 K):Cal Tryz.prog F_vol_Vol_SetHead #[.pointer p0,.int .i64 n1,.agg g2,.slice a3 l3 c3] w0 K :=
 denF_of (A:=⟨[39],[(39,4)],[]⟩) Tryz.func130 (by kernel_rfl) (by kernel_rfl) (by kernel_rfl) h
def D_disk_Disk_Len (p0:YB) (w0:World) (K:YA):Prop :=
 (bif Option.isNone p0 then
 K (.int .i64 0) w0
 else
 ∃ q6:Addr,(.pointer p0:Value)=.pointer (some q6)/\∃ (a8:YB) (l8 c8:Nat),YD 206 (Addr.add q6 0) w0 (.slice a8 l8 c8)/\K (.int .i64 ((l8:Int))) w0)
theorem C_disk_Disk_Len (p0:YB) (w0:World) (K:YA) (h:D_disk_Disk_Len p0 w0 K):Cal Tryz.prog F_disk_Disk_Len #[.pointer p0] w0 K :=
 denF_of (A:=⟨[],[],[]⟩) Tryz.func131 (by kernel_rfl) (by kernel_rfl) (by kernel_rfl) h
def D_geo_Size (g0:Array Value) (w0:World) (K:YA):Prop :=
 ∃ q1:Addr,∃ w1:World,Ru (Instr.box 40 (.agg g0)) w0 (.pointer (some q1)) w1/\∃ g3:Array Value,YD 40 q1 w1 (.agg g3)/\YC F_geo_Right #[.agg g3] w1 fun r4 w2=>∃ b4:Bool,r4=.bool b4/\(bif !b4 then
 K (.int .i64 0) w2
 else
 ∃ n7:Int,YD 3 (Addr.add q1 2) w2 (.int .i64 n7)/\∃ n9:Int,YD 3 (Addr.add q1 0) w2 (.int .i64 n9)/\K (.int .i64 (IntKind.i64.wrap (2+(IntKind.i64.wrap (n7*n9))))) w2)
theorem C_geo_Size (g0:Array Value) (w0:World) (K:YA) (h:D_geo_Size g0 w0 K):Cal Tryz.prog F_geo_Size #[.agg g0] w0 K :=
 denF_of (A:=⟨[],[],[]⟩) Tryz.func132 (by kernel_rfl) (by kernel_rfl) (by kernel_rfl) h
def D_disk_Disk_Write (p0:YB) (n1:Int) (a2:YB) (l2 c2:Nat) (w0:World) (K:YA):Prop :=
 YC F_disk_Disk_may #[.pointer p0,.int .i64 n1] w0 fun r11 w1=>∃ n11:Int,r11=.int .i64 n11/\(bif n11 != 0 then
 K (.int .i64 n11) w1
 else
 (bif (l2:Int) != 256 then
 K (.int .i64 4) w1
 else
 ∃ q21:Addr,(.pointer p0:Value)=.pointer (some q21)/\∃ m23:Option Nat,YD 207 (Addr.add q21 1) w1 (.map m23)/\∃ (a25:YB) (l25 c25:Nat),Ru (Instr.lookup 207 (.map m23) (.int .i64 n1) false) w1 (.slice a25 l25 c25) w1/\YC F_disk_Disk_goes #[.pointer p0] w1 fun r27 w2=>∃ b27:Bool,r27=.bool b27/\Share (fun k=>(bif b27 then
 ∃ q29:Addr,(.pointer p0:Value)=.pointer (some q29)/\∃ m31:Option Nat,YD 207 (Addr.add q29 1) (drew w2) (.map m31)/\∃ (a38:YB) (l38 c38:Nat),Al (Instr.sliceAt 206 (.slice a25 l25 c25) none (some (.int .i64 ((l25:Int)))) (some (.int .i64 ((l25:Int))))) (.slice a38 l38 c38)/\∃ q40:Addr,Al (Instr.arrayAt 278 (.slice a2 l2 c2)) (.pointer (some q40))/\∃ g41:Array Value,YD 278 q40 (drew w2) (.agg g41)/\∃ (a42:YB) (l42 c42:Nat),∃ w3:World,Ru (Instr.buildSlice 206 1 #[(0,.agg g41)]) (drew w2) (.slice a42 l42 c42) w3/\YD 207 (Addr.add q29 1) w3 (.map m31)/\∃ (a43:YB) (l43 c43:Nat),∃ w4:World,Ru (Builtin.append_ #[206,206] 206 #[.slice a38 l38 c38,.slice a42 l42 c42]) w3 (.slice a43 l43 c43) w4/\YD 207 (Addr.add q29 1) w4 (.map m31)/\∃ w5:World,RuU (Instr.mapUpdate 207 (.map m31) (.int .i64 n1) (.slice a43 l43 c43)) w4 w5/\k [] w5
 else
 k [] w2)) fun x w6 =>
 K (.int .i64 0) w6))
theorem C_disk_Disk_Write (p0:YB) (n1:Int) (a2:YB) (l2 c2:Nat) (w0:World) (K:YA) (h:D_disk_Disk_Write p0 n1 a2 l2 c2 w0 K):Cal Tryz.prog F_disk_Disk_Write #[.pointer p0,.int .i64 n1,.slice a2 l2 c2] w0 K :=
 denF_of (A:=⟨[],[],[]⟩) Tryz.func133 (by kernel_rfl) (by kernel_rfl) (by kernel_rfl) h
def D_disk_Disk_Flush (p0:YB) (w0:World) (K:YA):Prop :=
 (bif Option.isNone p0 then
 K (.int .i64 2) w0
 else
 YC F_disk_Disk_goes #[.pointer p0] w0 fun r10 w1=>∃ b10:Bool,r10=.bool b10/\(bif !b10 then
 K (.int .i64 0) w1
 else
 YC F_disk_Disk_Open #[.pointer p0] w1 fun r13 w2=>∃ (a13:YB) (l13 c13:Nat),r13=.slice a13 l13 c13/\LoopC (fun k x w3 =>
 ∃ n15:Int,nth x 0=.int .i64 n15/\(bif decide (n15<(l13:Int)) then
 ∃ q17:Addr,Al (Instr.indexAt 80 (.slice a13 l13 c13) (.int .i64 n15)) (.pointer (some q17))/\∃ n18:Int,YD 3 q17 w3 (.int .i64 n18)/\∃ q20:Addr,(.pointer p0:Value)=.pointer (some q20)/\∃ (a22:YB) (l22 c22:Nat),YD 206 (Addr.add q20 0) (drew w3) (.slice a22 l22 c22)/\YC F_disk_Disk_last #[.pointer p0,.int .i64 n18] (drew w3) fun r26 w4=>∃ g26:Array Value,r26=.agg g26/\YD 206 (Addr.add q20 0) w4 (.slice a22 l22 c22)/\∃ q27:Addr,Al (Instr.indexAt 206 (.slice a22 l22 c22) (.int .i64 n18)) (.pointer (some q27))/\∃ w5:World,YE 278 q27 (.agg g26) w4 w5/\k [.int .i64 (IntKind.i64.wrap (n15+1))] w5
 else
 ∃ q30:Addr,(.pointer p0:Value)=.pointer (some q30)/\∃ m32:Option Nat,YD 207 (Addr.add q30 1) w3 (.map m32)/\∃ w6:World,Ru (Builtin.clear_ #[207] 0 #[.map m32]) w3 (.tuple #[]) w6/\K (.int .i64 0) w6)) [.int .i64 0] w2))
theorem C_disk_Disk_Flush (p0:YB) (w0:World) (K:YA) (h:D_disk_Disk_Flush p0 w0 K):Cal Tryz.prog F_disk_Disk_Flush #[.pointer p0] w0 K :=
 denF_of (A:=⟨[15],[(15,3)],[]⟩) Tryz.func134 (by kernel_rfl) (by kernel_rfl) (by kernel_rfl) h
def D_vol_each (g0:Array Value) (n1:Int) (v2:Value) (w0:World) (K:YA):Prop :=
 ∃ q3:Addr,∃ w1:World,Ru (Instr.box 40 (.agg g0)) w0 (.pointer (some q3)) w1/\LoopC (fun k x w2 =>
 ∃ n7:Int,nth x 0=.int .i64 n7/\∃ n19:Int,YD 3 (Addr.add q3 2) w2 (.int .i64 n19)/\(bif decide (n7<n19) then
 ∃ g24:Array Value,YD 40 q3 w2 (.agg g24)/\YC F_group_Fresh #[.agg g24,.int .i64 n7] w2 fun r26 w3=>∃ g26a:Array Value,∃ n26b:Int,r26=.tuple #[.agg g26a,.int .i64 n26b]/\∃ q8:Addr,∃ w4:World,Ru (Instr.alloc 119 true (.tuple #[])) w3 (.pointer (some q8)) w4/\∃ w5:World,YE 119 q8 (.agg g26a) w4 w5/\∃ g30:Array Value,YD 40 q3 w5 (.agg g30)/\∃ g31:Array Value,YD 119 q8 w5 (.agg g31)/\YC F_group_Put #[.agg g30,.agg g31] w5 fun r32 w6=>∃ (a32a:YB) (l32a c32a:Nat),∃ n32b:Int,r32=.tuple #[.slice a32a l32a c32a,.int .i64 n32b]/\∃ g36:Array Value,YD 40 q3 w6 (.agg g36)/\YC F_geo_Head #[.agg g36,.int .i64 n7] w6 fun r38 w7=>∃ n38a:Int,∃ n38b:Int,r38=.tuple #[.int .i64 n38a,.int .i64 n38b]/\∃ g41:Array Value,YD 40 q3 w7 (.agg g41)/\YC F_geo_Tables #[.agg g41] w7 fun r42 w8=>∃ n42:Int,r42=.int .i64 n42/\LoopC (fun k_2 x_2 w9 =>
 ∃ n44:Int,nth x_2 1=.int .i64 n44/\(bif decide (n44<(IntKind.i64.wrap (1+n42))) then
 Share (fun k_3=>(bif decide (n44 > 0) then
 ∃ (a49:YB) (l49 c49:Nat),∃ w10:World,Ru (Instr.makeSlice 88 (.int .i64 256) (.int .i64 256)) w9 (.slice a49 l49 c49) w10/\k_3 [.slice a49 l49 c49] w10
 else
 k_3 [nth x_2 0] w9)) fun x_3 w11 =>
 Share (fun k_4=>(bif n7==0 then k_4 [.bool (n44==1)] w11 else k_4 [.bool false] w11)) fun x_4 w12 =>
 ∃ b55:Bool,nth x_4 0=.bool b55/\Share (fun k_5=>(bif b55 then
 ∃ (a10:YB) (l10 c10:Nat),nth x_3 0=.slice a10 l10 c10/\∃ g58:Array Value,Al (Instr.build 218 #[(0,.int .i64 2),(1,.int .i64 1),(3,.int .i64 1)]) (.agg g58)/\YC F_inode_Lay #[.slice a10 l10 c10,.int .i64 1,.agg g58] w12 fun r59 w13=>∃ (a59a:YB) (l59a c59a:Nat),∃ n59b:Int,r59=.tuple #[.slice a59a l59a c59a,.int .i64 n59b]/\k_5 [.slice a59a l59a c59a] w13
 else
 k_5 [nth x_3 0] w12)) fun x_5 w14 =>
 ∃ (a10_2:YB) (l10_2 c10_2:Nat),nth x_5 0=.slice a10_2 l10_2 c10_2/\Dyn Tryz.prog v2 #[.int .i64 (IntKind.i64.wrap (n38a+n44)),.slice a10_2 l10_2 c10_2] w14 fun r67 w15=>∃ n67:Int,r67=.int .i64 n67/\(bif n67 != 0 then
 K (.int .i64 n67) w15
 else
 k_2 [.slice a10_2 l10_2 c10_2,.int .i64 (IntKind.i64.wrap (n44+1)),.bool b55] w15)
 else
 k [.int .i64 (IntKind.i64.wrap (n7+1)),nth x_2 0,.int .i64 n44,nth x_2 2] w9)) [.slice a32a l32a c32a,.int .i64 0,nth x 3] w8
 else
 K (.int .i64 0) w2)) [.int .i64 n1,undef,undef,undef] w1
theorem C_vol_each (g0:Array Value) (n1:Int) (v2:Value) (w0:World) (K:YA) (h:D_vol_each g0 n1 v2 w0 K):Cal Tryz.prog F_vol_each #[.agg g0,.int .i64 n1,v2] w0 K :=
 denF_of (A:=⟨[7,10,44,55],[(7,3),(10,88),(44,3),(55,4)],[]⟩) Tryz.func135 (by kernel_rfl) (by kernel_rfl) (by kernel_rfl) h
def D_super_Put (g0:Array Value) (w0:World) (K:YA):Prop :=
 ∃ q1:Addr,∃ w1:World,Ru (Instr.box 143 (.agg g0)) w0 (.pointer (some q1)) w1/\∃ g5:Array Value,YD 143 q1 w1 (.agg g5)/\YC F_super_Super_right #[.agg g5] w1 fun r6 w2=>∃ b6:Bool,r6=.bool b6/\(bif !b6 then
 K (.tuple #[.slice none 0 0,.int .i64 1]) w2
 else
 ∃ q4:Addr,∃ w3:World,Ru (Instr.alloc 277 true (.tuple #[])) w2 (.pointer (some q4)) w3/\∃ (a8:YB) (l8 c8:Nat),Al (Instr.sliceAt 277 (.pointer (some q4)) none none none) (.slice a8 l8 c8)/\∃ n9:Int,∃ w4:World,Ru (Builtin.copy_ #[88,9] 3 #[.slice a8 l8 c8,.string (⟨#[76,86,69,69]⟩)]) w3 (.int .i64 n9) w4/\∃ (a10:YB) (l10 c10:Nat),Al (Instr.sliceAt 277 (.pointer (some q4)) (some (.int .i64 4)) (some (.int .i64 12)) none) (.slice a10 l10 c10)/\∃ n12:Int,YD 2 (Addr.add q1 0) (drew w4) (.int .i64 n12)/\YC F_num_Put #[.slice a10 l10 c10,.int .u64 (IntKind.u64.wrap n12)] (drew w4) fun r14 w5=>r14=.tuple #[]/\∃ (a15:YB) (l15 c15:Nat),Al (Instr.sliceAt 277 (.pointer (some q4)) (some (.int .i64 12)) (some (.int .i64 14)) none) (.slice a15 l15 c15)/\∃ n18:Int,YD 3 (Addr.add (Addr.add q1 1) 0) (drew w5) (.int .i64 n18)/\YC F_num_Put #[.slice a15 l15 c15,.int .u64 (IntKind.u64.wrap n18)] (drew w5) fun r20 w6=>r20=.tuple #[]/\∃ (a21:YB) (l21 c21:Nat),Al (Instr.sliceAt 277 (.pointer (some q4)) (some (.int .i64 14)) (some (.int .i64 16)) none) (.slice a21 l21 c21)/\∃ n24:Int,YD 3 (Addr.add (Addr.add q1 1) 1) (drew w6) (.int .i64 n24)/\YC F_num_Put #[.slice a21 l21 c21,.int .u64 (IntKind.u64.wrap n24)] (drew w6) fun r26 w7=>r26=.tuple #[]/\∃ (a27:YB) (l27 c27:Nat),Al (Instr.sliceAt 277 (.pointer (some q4)) (some (.int .i64 16)) (some (.int .i64 18)) none) (.slice a27 l27 c27)/\∃ n30:Int,YD 3 (Addr.add (Addr.add q1 1) 2) (drew w7) (.int .i64 n30)/\YC F_num_Put #[.slice a27 l27 c27,.int .u64 (IntKind.u64.wrap n30)] (drew w7) fun r32 w8=>r32=.tuple #[]/\∃ (a33:YB) (l33 c33:Nat),Al (Instr.sliceAt 277 (.pointer (some q4)) (some (.int .i64 252)) none none) (.slice a33 l33 c33)/\∃ (a34:YB) (l34 c34:Nat),Al (Instr.sliceAt 277 (.pointer (some q4)) none (some (.int .i64 252)) none) (.slice a34 l34 c34)/\YC F_num_Sum #[.slice a34 l34 c34] (drew w8) fun r35 w9=>∃ n35:Int,r35=.int .u32 n35/\YC F_num_Put #[.slice a33 l33 c33,.int .u64 (IntKind.u64.wrap n35)] w9 fun r37 w10=>r37=.tuple #[]/\∃ (a38:YB) (l38 c38:Nat),Al (Instr.sliceAt 277 (.pointer (some q4)) none none none) (.slice a38 l38 c38)/\K (.tuple #[.slice a38 l38 c38,.int .i64 0]) w10)
theorem C_super_Put (g0:Array Value) (w0:World) (K:YA) (h:D_super_Put g0 w0 K):Cal Tryz.prog F_super_Put #[.agg g0] w0 K :=
 denF_of (A:=⟨[],[],[]⟩) Tryz.func136 (by kernel_rfl) (by kernel_rfl) (by kernel_rfl) h
def D_patch_Open (p0:YB) (n1:Int) (w0:World) (K:YA):Prop :=
 YC F_cache_New #[.pointer p0,.int .i64 n1] w0 fun r11 w1=>∃ p11a:YB,∃ n11b:Int,r11=.tuple #[.pointer p11a,.int .i64 n11b]/\(bif n11b != 0 then
 K (.tuple #[.pointer none,.int .i64 n11b]) w1
 else
 YC F_disk_Disk_Len #[.pointer p0] w1 fun r19 w2=>∃ n19:Int,r19=.int .i64 n19/\∃ m20:Option Nat,∃ w3:World,Ru (Instr.makeMap 161 none) w2 (.map m20) w3/\∃ m21:Option Nat,∃ w4:World,Ru (Instr.makeMap 162 none) w3 (.map m21) w4/\∃ g22:Array Value,Al (Instr.build 164 #[(0,.pointer p11a),(1,.int .i64 n19),(3,.map m20),(4,.map m21)]) (.agg g22)/\∃ q23:Addr,∃ w5:World,Ru (Instr.box 164 (.agg g22)) w4 (.pointer (some q23)) w5/\K (.tuple #[.pointer (some q23),.int .i64 0]) w5)
theorem C_patch_Open (p0:YB) (n1:Int) (w0:World) (K:YA) (h:D_patch_Open p0 n1 w0 K):Cal Tryz.prog F_patch_Open #[.pointer p0,.int .i64 n1] w0 K :=
 denF_of (A:=⟨[],[],[]⟩) Tryz.func137 (by kernel_rfl) (by kernel_rfl) (by kernel_rfl) h
def D_disk_Disk_Read (p0:YB) (n1:Int) (w0:World) (K:YA):Prop :=
 YC F_disk_Disk_may #[.pointer p0,.int .i64 n1] w0 fun r10 w1=>∃ n10:Int,r10=.int .i64 n10/\(bif n10 != 0 then
 K (.tuple #[.slice none 0 0,.int .i64 n10]) w1
 else
 YC F_disk_Disk_last #[.pointer p0,.int .i64 n1] w1 fun r16 w2=>∃ g16:Array Value,r16=.agg g16/\∃ q7:Addr,∃ w3:World,Ru (Instr.alloc 278 true (.tuple #[])) w2 (.pointer (some q7)) w3/\∃ w4:World,YE 278 q7 (.agg g16) w3 w4/\∃ (a17:YB) (l17 c17:Nat),Al (Instr.sliceAt 278 (.pointer (some q7)) none none none) (.slice a17 l17 c17)/\K (.tuple #[.slice a17 l17 c17,.int .i64 0]) w4)
theorem C_disk_Disk_Read (p0:YB) (n1:Int) (w0:World) (K:YA) (h:D_disk_Disk_Read p0 n1 w0 K):Cal Tryz.prog F_disk_Disk_Read #[.pointer p0,.int .i64 n1] w0 K :=
 denF_of (A:=⟨[],[],[]⟩) Tryz.func138 (by kernel_rfl) (by kernel_rfl) (by kernel_rfl) h
def D_super_Choose (a0:YB) (l0 c0:Nat) (a1:YB) (l1 c1:Nat) (n2:Int) (w0:World) (K:YA):Prop :=
 ∃ q6:Addr,∃ w1:World,Ru (Instr.alloc 143 true (.tuple #[])) w0 (.pointer (some q6)) w1/\∃ g15:Array Value,Al (Instr.build 143 #[]) (.agg g15)/\∃ q9:Addr,∃ w2:World,Ru (Instr.alloc 143 true (.tuple #[])) w1 (.pointer (some q9)) w2/\∃ w3:World,YE 143 q9 (.agg g15) w2 w3/\∃ g18:Array Value,Al (Instr.build 287 #[(0,.slice a0 l0 c0),(1,.slice a1 l1 c1)]) (.agg g18)/\LoopC (fun k x w4 =>
 ∃ n19:Int,nth x 0=.int .i64 n19/\(bif decide (n19<2) then
 ∃ (a22:YB) (l22 c22:Nat),Al (Instr.index 287 (.agg g18) (.int .i64 n19)) (.slice a22 l22 c22)/\YC F_super_Get #[.slice a22 l22 c22] w4 fun r25 w5=>∃ g25a:Array Value,∃ n25b:Int,r25=.tuple #[.agg g25a,.int .i64 n25b]/\∃ q12:Addr,∃ w6:World,Ru (Instr.alloc 143 true (.tuple #[])) w5 (.pointer (some q12)) w6/\∃ w7:World,YE 143 q12 (.agg g25a) w6 w7/\Share (fun k_2=>(bif n25b==0 then ∃ g31:Array Value,YD 143 q12 w7 (.agg g31)/\YC F_super_Super_place #[.agg g31] w7 fun r32 w8=>∃ n32:Int,r32=.int .i64 n32/\(bif n32==n19 then ∃ g38:Array Value,YD 40 (Addr.add q12 1) w8 (.agg g38)/\YC F_geo_Size #[.agg g38] w8 fun r39 w9=>∃ n39:Int,r39=.int .i64 n39/\(bif decide (n39<=n2) then ∃ n45:Int,YD 2 (Addr.add q12 0) w9 (.int .i64 n45)/\∃ n47:Int,YD 2 (Addr.add q9 0) w9 (.int .i64 n47)/\k_2 [.bool (decide (n45 > n47))] w9 else k_2 [.bool false] w9) else k_2 [.bool false] w8) else k_2 [.bool false] w7)) fun x_2 w10 =>
 ∃ b49:Bool,nth x_2 0=.bool b49/\Share (fun k_3=>(bif b49 then
 ∃ g50:Array Value,YD 143 q12 w10 (.agg g50)/\∃ w11:World,YE 143 q9 (.agg g50) w10 w11/\k_3 [] w11
 else
 k_3 [] w10)) fun x_3 w12 =>
 k [.int .i64 (IntKind.i64.wrap (n19+1)),.bool b49] w12
 else
 ∃ g52:Array Value,Al (Instr.build 143 #[]) (.agg g52)/\∃ q14:Addr,∃ w13:World,Ru (Instr.alloc 143 true (.tuple #[])) w4 (.pointer (some q14)) w13/\∃ w14:World,YE 143 q14 (.agg g52) w13 w14/\∃ g53:Array Value,YD 143 q9 w14 (.agg g53)/\∃ g54:Array Value,YD 143 q14 w14 (.agg g54)/\∃ b55:Bool,Al (eqS .eql 143 (.tmp 53) (.tmp 54) (.agg g53) (.agg g54)) (.bool b55)/\(bif b55 then
 ∃ g56:Array Value,YD 143 q9 w14 (.agg g56)/\∃ w15:World,YE 143 q6 (.agg g56) w14 w15/\∃ gR6:Array Value,YD 143 q6 w15 (.agg gR6)/\K (.tuple #[.agg gR6,.int .i64 0,.int .i64 10]) w15
 else
 ∃ g57:Array Value,YD 143 q9 (drew w14) (.agg g57)/\∃ g58:Array Value,YD 143 q9 (drew w14) (.agg g58)/\YC F_super_Super_place #[.agg g58] (drew w14) fun r59 w16=>∃ n59:Int,r59=.int .i64 n59/\YD 143 q9 w16 (.agg g57)/\∃ w17:World,YE 143 q6 (.agg g57) w16 w17/\∃ gR6_2:Array Value,YD 143 q6 w17 (.agg gR6_2)/\K (.tuple #[.agg gR6_2,.int .i64 n59,.int .i64 0]) w17))) [.int .i64 0,undef] w3
theorem C_super_Choose (a0:YB) (l0 c0:Nat) (a1:YB) (l1 c1:Nat) (n2:Int) (w0:World) (K:YA) (h:D_super_Choose a0 l0 c0 a1 l1 c1 n2 w0 K):Cal Tryz.prog F_super_Choose #[.slice a0 l0 c0,.slice a1 l1 c1,.int .i64 n2] w0 K :=
 denF_of (A:=⟨[19,49],[(19,3),(49,4)],[]⟩) Tryz.func139 (by kernel_rfl) (by kernel_rfl) (by kernel_rfl) h
def D_push_New (w0:World) (K:YA):Prop :=
 ∃ g1:Array Value,Al (Instr.build 201 #[]) (.agg g1)/\∃ q2:Addr,∃ w1:World,Ru (Instr.box 201 (.agg g1)) w0 (.pointer (some q2)) w1/\K (.pointer (some q2)) w1
theorem C_push_New (w0:World) (K:YA) (h:D_push_New  w0 K):Cal Tryz.prog F_push_New #[] w0 K :=
 denF_of (A:=⟨[],[],[]⟩) Tryz.func140 (by kernel_rfl) (by kernel_rfl) (by kernel_rfl) h
def D_vol_Vol_Inode (p0:YB) (n1:Int) (w0:World) (K:YA):Prop :=
 ∃ q4:Addr,∃ w1:World,Ru (Instr.alloc 218 true (.tuple #[])) w0 (.pointer (some q4)) w1/\YC F_vol_Vol_place #[.pointer p0,.int .i64 n1] w1 fun r13 w2=>∃ n13a:Int,∃ n13b:Int,∃ n13c:Int,r13=.tuple #[.int .i64 n13a,.int .i64 n13b,.int .i64 n13c]/\(bif n13c != 0 then
 ∃ g19:Array Value,Al (Instr.build 218 #[]) (.agg g19)/\∃ w3:World,YE 218 q4 (.agg g19) w2 w3/\∃ gR4:Array Value,YD 218 q4 w3 (.agg gR4)/\K (.tuple #[.agg gR4,.int .i64 n13c]) w3
 else
 ∃ q23:Addr,(.pointer p0:Value)=.pointer (some q23)/\∃ p25:YB,YD 89 (Addr.add q23 4) w2 (.pointer p25)/\YC F_patch_Store_Read #[.pointer p25,.int .i64 n13a] w2 fun r27 w4=>∃ (a27a:YB) (l27a c27a:Nat),∃ n27b:Int,r27=.tuple #[.slice a27a l27a c27a,.int .i64 n27b]/\(bif n27b != 0 then
 ∃ g32:Array Value,Al (Instr.build 218 #[]) (.agg g32)/\∃ w5:World,YE 218 q4 (.agg g32) w4 w5/\∃ gR4_2:Array Value,YD 218 q4 w5 (.agg gR4_2)/\K (.tuple #[.agg gR4_2,.int .i64 n27b]) w5
 else
 YC F_inode_Read #[.slice a27a l27a c27a,.int .i64 n13b] w4 fun r36 w6=>∃ g36a:Array Value,∃ n36b:Int,r36=.tuple #[.agg g36a,.int .i64 n36b]/\∃ w7:World,YE 218 q4 (.agg g36a) w6 w7/\∃ gR4_3:Array Value,YD 218 q4 w7 (.agg gR4_3)/\K (.tuple #[.agg gR4_3,.int .i64 n36b]) w7))
theorem C_vol_Vol_Inode (p0:YB) (n1:Int) (w0:World) (K:YA) (h:D_vol_Vol_Inode p0 n1 w0 K):Cal Tryz.prog F_vol_Vol_Inode #[.pointer p0,.int .i64 n1] w0 K :=
 denF_of (A:=⟨[],[],[]⟩) Tryz.func141 (by kernel_rfl) (by kernel_rfl) (by kernel_rfl) h
def D_geo_Slots (g0:Array Value) (w0:World) (K:YA):Prop :=
 ∃ q1:Addr,∃ w1:World,Ru (Instr.box 40 (.agg g0)) w0 (.pointer (some q1)) w1/\∃ g4:Array Value,YD 40 q1 w1 (.agg g4)/\YC F_geo_whole #[.agg g4] w1 fun r5 w2=>∃ g5:Array Value,r5=.agg g5/\∃ q3:Addr,∃ w3:World,Ru (Instr.alloc 40 true (.tuple #[])) w2 (.pointer (some q3)) w3/\∃ w4:World,YE 40 q3 (.agg g5) w3 w4/\∃ n7:Int,YD 3 (Addr.add q3 2) w4 (.int .i64 n7)/\∃ n9:Int,YD 3 (Addr.add q3 1) w4 (.int .i64 n9)/\K (.int .i64 (IntKind.i64.wrap (n7*n9))) w4
theorem C_geo_Slots (g0:Array Value) (w0:World) (K:YA) (h:D_geo_Slots g0 w0 K):Cal Tryz.prog F_geo_Slots #[.agg g0] w0 K :=
 denF_of (A:=⟨[],[],[]⟩) Tryz.func142 (by kernel_rfl) (by kernel_rfl) (by kernel_rfl) h
def D_leveeref02_none (w0:World) (K:YA):Prop :=
 ∃ (a1:YB) (l1 c1:Nat),∃ w1:World,Ru (Instr.makeSlice 88 (.int .i64 256) (.int .i64 256)) w0 (.slice a1 l1 c1) w1/\∃ s2:ByteArray,Ru (convert 88 9 (.slice a1 l1 c1)) w1 (.string s2) w1/\K (.string s2) w1
theorem C_leveeref02_none (w0:World) (K:YA) (h:D_leveeref02_none  w0 K):Cal Tryz.prog F_leveeref02_none #[] w0 K :=
 denF_of (A:=⟨[],[],[]⟩) Tryz.func143 (by kernel_rfl) (by kernel_rfl) (by kernel_rfl) h
def D_leveeref02_Disk_Write (p0:YB) (n1:Int) (a2:YB) (l2 c2:Nat) (w0:World) (K:YA):Prop :=
 YC F_leveeref02_Disk_there #[.pointer p0,.int .i64 n1] w0 fun r10 w1=>∃ b10:Bool,r10=.bool b10/\(bif !b10 then
 K (.int .i64 3) w1
 else
 (bif (l2:Int) != 256 then
 K (.int .i64 4) w1
 else
 YC F_leveeref02_Disk_goes #[.pointer p0] w1 fun r16 w2=>∃ b16:Bool,r16=.bool b16/\(bif !b16 then
 K (.int .i64 0) w2
 else
 ∃ q20:Addr,(.pointer p0:Value)=.pointer (some q20)/\∃ (a22:YB) (l22 c22:Nat),YD 221 (Addr.add q20 0) w2 (.slice a22 l22 c22)/\∃ q24:Addr,Al (Instr.indexAt 221 (.slice a22 l22 c22) (.int .i64 n1)) (.pointer (some q24))/\∃ (a26:YB) (l26 c26:Nat),YD 178 (Addr.add q24 0) w2 (.slice a26 l26 c26)/\∃ (a27:YB) (l27 c27:Nat),∃ w3:World,Ru (Builtin.append_ #[178,178] 178 #[.slice none 0 0,.slice a26 l26 c26]) w2 (.slice a27 l27 c27) w3/\∃ q29:Addr,(.pointer p0:Value)=.pointer (some q29)/\∃ (a31:YB) (l31 c31:Nat),YD 221 (Addr.add q29 0) (drew w3) (.slice a31 l31 c31)/\∃ s35:ByteArray,Ru (convert 88 9 (.slice a2 l2 c2)) (drew w3) (.string s35) (drew w3)/\∃ (a36:YB) (l36 c36:Nat),∃ w4:World,Ru (Instr.buildSlice 178 1 #[(0,.string s35)]) (drew w3) (.slice a36 l36 c36) w4/\YD 221 (Addr.add q29 0) w4 (.slice a31 l31 c31)/\∃ (a37:YB) (l37 c37:Nat),∃ w5:World,Ru (Builtin.append_ #[178,178] 178 #[.slice a27 l27 c27,.slice a36 l36 c36]) w4 (.slice a37 l37 c37) w5/\YD 221 (Addr.add q29 0) w5 (.slice a31 l31 c31)/\∃ q38:Addr,Al (Instr.indexAt 221 (.slice a31 l31 c31) (.int .i64 n1)) (.pointer (some q38))/\∃ w6:World,YE 178 (Addr.add q38 0) (.slice a37 l37 c37) w5 w6/\K (.int .i64 0) w6)))
theorem C_leveeref02_Disk_Write (p0:YB) (n1:Int) (a2:YB) (l2 c2:Nat) (w0:World) (K:YA) (h:D_leveeref02_Disk_Write p0 n1 a2 l2 c2 w0 K):Cal Tryz.prog F_leveeref02_Disk_Write #[.pointer p0,.int .i64 n1,.slice a2 l2 c2] w0 K :=
 denF_of (A:=⟨[],[],[]⟩) Tryz.func144 (by kernel_rfl) (by kernel_rfl) (by kernel_rfl) h
def D_leveeref02_Disk_Flush (p0:YB) (w0:World) (K:YA):Prop :=
 YC F_leveeref02_Disk_goes #[.pointer p0] w0 fun r6 w1=>∃ b6:Bool,r6=.bool b6/\(bif !b6 then
 K (.int .i64 0) w1
 else
 LoopC (fun k x w2 =>
 ∃ n3:Int,nth x 0=.int .i64 n3/\∃ q10:Addr,(.pointer p0:Value)=.pointer (some q10)/\∃ (a12:YB) (l12 c12:Nat),YD 221 (Addr.add q10 0) w2 (.slice a12 l12 c12)/\(bif decide (n3<(l12:Int)) then
 ∃ q18:Addr,(.pointer p0:Value)=.pointer (some q18)/\∃ (a20:YB) (l20 c20:Nat),YD 221 (Addr.add q18 0) w2 (.slice a20 l20 c20)/\∃ q22:Addr,Al (Instr.indexAt 221 (.slice a20 l20 c20) (.int .i64 n3)) (.pointer (some q22))/\∃ (a24:YB) (l24 c24:Nat),YD 178 (Addr.add q22 0) w2 (.slice a24 l24 c24)/\∃ q26:Addr,(.pointer p0:Value)=.pointer (some q26)/\∃ (a28:YB) (l28 c28:Nat),YD 221 (Addr.add q26 0) (drew w2) (.slice a28 l28 c28)/\∃ q34:Addr,Al (Instr.indexAt 178 (.slice a24 l24 c24) (.int .i64 (IntKind.i64.wrap ((l24:Int)-1)))) (.pointer (some q34))/\∃ s35:ByteArray,YD 9 q34 (drew w2) (.string s35)/\∃ (a36:YB) (l36 c36:Nat),∃ w3:World,Ru (Instr.buildSlice 178 1 #[(0,.string s35)]) (drew w2) (.slice a36 l36 c36) w3/\YD 221 (Addr.add q26 0) w3 (.slice a28 l28 c28)/\∃ q37:Addr,Al (Instr.indexAt 221 (.slice a28 l28 c28) (.int .i64 n3)) (.pointer (some q37))/\∃ w4:World,YE 178 (Addr.add q37 0) (.slice a36 l36 c36) w3 w4/\k [.int .i64 (IntKind.i64.wrap (n3+1))] w4
 else
 K (.int .i64 0) w2)) [.int .i64 0] w1)
theorem C_leveeref02_Disk_Flush (p0:YB) (w0:World) (K:YA) (h:D_leveeref02_Disk_Flush p0 w0 K):Cal Tryz.prog F_leveeref02_Disk_Flush #[.pointer p0] w0 K :=
 denF_of (A:=⟨[3],[(3,3)],[]⟩) Tryz.func145 (by kernel_rfl) (by kernel_rfl) (by kernel_rfl) h
def D_leveeref13_groups (g0:Array Value) (n1:Int) (w0:World) (K:YA):Prop :=
 ∃ q2:Addr,∃ w1:World,Ru (Instr.box 40 (.agg g0)) w0 (.pointer (some q2)) w1/\LoopC (fun k x w2 =>
 ∃ n6:Int,nth x 1=.int .i64 n6/\∃ n18:Int,YD 3 (Addr.add q2 2) w2 (.int .i64 n18)/\(bif decide (n6<n18) then
 ∃ g23:Array Value,YD 40 q2 w2 (.agg g23)/\YC F_leveeref06_Fresh #[.agg g23,.int .i64 n6] w2 fun r25 w3=>∃ g25a:Array Value,∃ n25b:Int,r25=.tuple #[.agg g25a,.int .i64 n25b]/\∃ q7:Addr,∃ w4:World,Ru (Instr.alloc 183 true (.tuple #[])) w3 (.pointer (some q7)) w4/\∃ w5:World,YE 183 q7 (.agg g25a) w4 w5/\∃ g29:Array Value,YD 40 q2 w5 (.agg g29)/\∃ g30:Array Value,YD 183 q7 w5 (.agg g30)/\YC F_leveeref06_Put #[.agg g29,.agg g30] w5 fun r31 w6=>∃ (a31a:YB) (l31a c31a:Nat),∃ n31b:Int,r31=.tuple #[.slice a31a l31a c31a,.int .i64 n31b]/\∃ g35:Array Value,YD 40 q2 w6 (.agg g35)/\YC F_leveeref03_Head #[.agg g35,.int .i64 n6] w6 fun r37 w7=>∃ n37a:Int,∃ n37b:Int,r37=.tuple #[.int .i64 n37a,.int .i64 n37b]/\∃ (a5:YB) (l5 c5:Nat),nth x 0=.slice a5 l5 c5/\∃ g43:Array Value,Al (Instr.build 230 #[(0,.int .i64 n37a),(1,.slice a31a l31a c31a)]) (.agg g43)/\∃ (a44:YB) (l44 c44:Nat),∃ w8:World,Ru (Instr.buildSlice 227 1 #[(0,.agg g43)]) w7 (.slice a44 l44 c44) w8/\∃ (a45:YB) (l45 c45:Nat),∃ w9:World,Ru (Builtin.append_ #[227,227] 227 #[.slice a5 l5 c5,.slice a44 l44 c44]) w8 (.slice a45 l45 c45) w9/\LoopC (fun k_2 x_2 w10 =>
 ∃ n13:Int,nth x_2 1=.int .i64 n13/\∃ g47:Array Value,YD 40 q2 w10 (.agg g47)/\YC F_leveeref03_Tables #[.agg g47] w10 fun r48 w11=>∃ n48:Int,r48=.int .i64 n48/\(bif decide (n13<n48) then
 ∃ (a52:YB) (l52 c52:Nat),∃ w12:World,Ru (Instr.makeSlice 88 (.int .i64 256) (.int .i64 256)) w11 (.slice a52 l52 c52) w12/\Share (fun k_3=>(bif n6==0 then k_3 [.bool (n13==0)] w12 else k_3 [.bool false] w12)) fun x_3 w13 =>
 ∃ b58:Bool,nth x_3 0=.bool b58/\Share (fun k_4=>(bif b58 then
 ∃ g61:Array Value,Al (Instr.build 218 #[(0,.int .i64 2),(1,.int .i64 1),(3,.int .i64 1)]) (.agg g61)/\YC F_leveeref07_Lay #[.slice a52 l52 c52,.int .i64 1,.agg g61] w13 fun r62 w14=>∃ (a62a:YB) (l62a c62a:Nat),∃ n62b:Int,r62=.tuple #[.slice a62a l62a c62a,.int .i64 n62b]/\k_4 [.slice a62a l62a c62a] w14
 else
 k_4 [.slice a52 l52 c52] w13)) fun x_4 w15 =>
 ∃ (a5_2:YB) (l5_2 c5_2:Nat),nth x_2 0=.slice a5_2 l5_2 c5_2/\∃ (a14:YB) (l14 c14:Nat),nth x_4 0=.slice a14 l14 c14/\∃ g71:Array Value,Al (Instr.build 230 #[(0,.int .i64 (IntKind.i64.wrap ((IntKind.i64.wrap (n37a+1))+n13))),(1,.slice a14 l14 c14)]) (.agg g71)/\∃ (a72:YB) (l72 c72:Nat),∃ w16:World,Ru (Instr.buildSlice 227 1 #[(0,.agg g71)]) w15 (.slice a72 l72 c72) w16/\∃ (a73:YB) (l73 c73:Nat),∃ w17:World,Ru (Builtin.append_ #[227,227] 227 #[.slice a5_2 l5_2 c5_2,.slice a72 l72 c72]) w16 (.slice a73 l73 c73) w17/\k_2 [.slice a73 l73 c73,.int .i64 (IntKind.i64.wrap (n13+1)),.slice a14 l14 c14,.bool b58] w17
 else
 k [nth x_2 0,.int .i64 (IntKind.i64.wrap (n6+1)),.int .i64 n13,nth x_2 2,nth x_2 3] w11)) [.slice a45 l45 c45,.int .i64 0,nth x 3,nth x 4] w9
 else
 ∃ (a5_3:YB) (l5_3 c5_3:Nat),nth x 0=.slice a5_3 l5_3 c5_3/\K (.slice a5_3 l5_3 c5_3) w2)) [.slice none 0 0,.int .i64 n1,undef,undef,undef] w1
theorem C_leveeref13_groups (g0:Array Value) (n1:Int) (w0:World) (K:YA) (h:D_leveeref13_groups g0 n1 w0 K):Cal Tryz.prog F_leveeref13_groups #[.agg g0,.int .i64 n1] w0 K :=
 denF_of (A:=⟨[5,6,13,14,58],[(5,227),(6,3),(13,3),(14,88),(58,4)],[]⟩) Tryz.func146 (by kernel_rfl) (by kernel_rfl) (by kernel_rfl) h
def D_leveeref04_Put (g0:Array Value) (w0:World) (K:YA):Prop :=
 ∃ q1:Addr,∃ w1:World,Ru (Instr.box 232 (.agg g0)) w0 (.pointer (some q1)) w1/\∃ g5:Array Value,YD 232 q1 w1 (.agg g5)/\YC F_leveeref04_Right #[.agg g5] w1 fun r6 w2=>∃ b6:Bool,r6=.bool b6/\(bif !b6 then
 K (.tuple #[.slice none 0 0,.int .i64 1]) w2
 else
 ∃ (a8:YB) (l8 c8:Nat),∃ w3:World,Ru (Instr.buildSlice 88 4 #[(0,.int .u8 76),(1,.int .u8 86),(2,.int .u8 69),(3,.int .u8 69)]) w2 (.slice a8 l8 c8) w3/\∃ (a9:YB) (l9 c9:Nat),∃ w4:World,Ru (convert 88 88 (.slice a8 l8 c8)) w3 (.slice a9 l9 c9) w4/\∃ n12:Int,YD 2 (Addr.add q1 0) w4 (.int .i64 n12)/\YC F_leveeref01_Bytes #[.int .u64 (IntKind.u64.wrap n12),.int .i64 8] w4 fun r14 w5=>∃ (a14:YB) (l14 c14:Nat),r14=.slice a14 l14 c14/\∃ (a15:YB) (l15 c15:Nat),∃ w6:World,Ru (Builtin.append_ #[88,88] 88 #[.slice a9 l9 c9,.slice a14 l14 c14]) w5 (.slice a15 l15 c15) w6/\∃ n19:Int,YD 3 (Addr.add (Addr.add q1 1) 0) w6 (.int .i64 n19)/\YC F_leveeref01_Bytes #[.int .u64 (IntKind.u64.wrap n19),.int .i64 2] w6 fun r21 w7=>∃ (a21:YB) (l21 c21:Nat),r21=.slice a21 l21 c21/\∃ (a22:YB) (l22 c22:Nat),∃ w8:World,Ru (Builtin.append_ #[88,88] 88 #[.slice a15 l15 c15,.slice a21 l21 c21]) w7 (.slice a22 l22 c22) w8/\∃ n26:Int,YD 3 (Addr.add (Addr.add q1 1) 1) w8 (.int .i64 n26)/\YC F_leveeref01_Bytes #[.int .u64 (IntKind.u64.wrap n26),.int .i64 2] w8 fun r28 w9=>∃ (a28:YB) (l28 c28:Nat),r28=.slice a28 l28 c28/\∃ (a29:YB) (l29 c29:Nat),∃ w10:World,Ru (Builtin.append_ #[88,88] 88 #[.slice a22 l22 c22,.slice a28 l28 c28]) w9 (.slice a29 l29 c29) w10/\∃ n33:Int,YD 3 (Addr.add (Addr.add q1 1) 2) w10 (.int .i64 n33)/\YC F_leveeref01_Bytes #[.int .u64 (IntKind.u64.wrap n33),.int .i64 2] w10 fun r35 w11=>∃ (a35:YB) (l35 c35:Nat),r35=.slice a35 l35 c35/\∃ (a36:YB) (l36 c36:Nat),∃ w12:World,Ru (Builtin.append_ #[88,88] 88 #[.slice a29 l29 c29,.slice a35 l35 c35]) w11 (.slice a36 l36 c36) w12/\LoopC (fun k x w13 =>
 ∃ (a4:YB) (l4 c4:Nat),nth x 0=.slice a4 l4 c4/\(bif decide ((l4:Int)<252) then
 ∃ (a41:YB) (l41 c41:Nat),∃ w14:World,Ru (Instr.buildSlice 88 1 #[(0,.int .u8 0)]) w13 (.slice a41 l41 c41) w14/\∃ (a42:YB) (l42 c42:Nat),∃ w15:World,Ru (Builtin.append_ #[88,88] 88 #[.slice a4 l4 c4,.slice a41 l41 c41]) w14 (.slice a42 l42 c42) w15/\k [.slice a42 l42 c42] w15
 else
 YC F_leveeref01_Sum #[.slice a4 l4 c4] w13 fun r45 w16=>∃ n45:Int,r45=.int .u32 n45/\YC F_leveeref01_Bytes #[.int .u64 (IntKind.u64.wrap n45),.int .i64 4] w16 fun r47 w17=>∃ (a47:YB) (l47 c47:Nat),r47=.slice a47 l47 c47/\∃ (a48:YB) (l48 c48:Nat),∃ w18:World,Ru (Builtin.append_ #[88,88] 88 #[.slice a4 l4 c4,.slice a47 l47 c47]) w17 (.slice a48 l48 c48) w18/\K (.tuple #[.slice a48 l48 c48,.int .i64 0]) w18)) [.slice a36 l36 c36] w12)
theorem C_leveeref04_Put (g0:Array Value) (w0:World) (K:YA) (h:D_leveeref04_Put g0 w0 K):Cal Tryz.prog F_leveeref04_Put #[.agg g0] w0 K :=
 denF_of (A:=⟨[4],[(4,88)],[]⟩) Tryz.func147 (by kernel_rfl) (by kernel_rfl) (by kernel_rfl) h
def D_leveeref02_Disk_Read (p0:YB) (n1:Int) (w0:World) (K:YA):Prop :=
 YC F_leveeref02_Disk_there #[.pointer p0,.int .i64 n1] w0 fun r9 w1=>∃ b9:Bool,r9=.bool b9/\(bif !b9 then
 K (.tuple #[.slice none 0 0,.int .i64 3]) w1
 else
 ∃ q12:Addr,(.pointer p0:Value)=.pointer (some q12)/\∃ (a14:YB) (l14 c14:Nat),YD 221 (Addr.add q12 0) w1 (.slice a14 l14 c14)/\∃ q16:Addr,Al (Instr.indexAt 221 (.slice a14 l14 c14) (.int .i64 n1)) (.pointer (some q16))/\∃ (a18:YB) (l18 c18:Nat),YD 178 (Addr.add q16 0) w1 (.slice a18 l18 c18)/\∃ q23:Addr,Al (Instr.indexAt 178 (.slice a18 l18 c18) (.int .i64 (IntKind.i64.wrap ((l18:Int)-1)))) (.pointer (some q23))/\∃ s24:ByteArray,YD 9 q23 w1 (.string s24)/\∃ (a25:YB) (l25 c25:Nat),∃ w2:World,Ru (convert 9 88 (.string s24)) w1 (.slice a25 l25 c25) w2/\K (.tuple #[.slice a25 l25 c25,.int .i64 0]) w2)
theorem C_leveeref02_Disk_Read (p0:YB) (n1:Int) (w0:World) (K:YA) (h:D_leveeref02_Disk_Read p0 n1 w0 K):Cal Tryz.prog F_leveeref02_Disk_Read #[.pointer p0,.int .i64 n1] w0 K :=
 denF_of (A:=⟨[],[],[]⟩) Tryz.func148 (by kernel_rfl) (by kernel_rfl) (by kernel_rfl) h
def D_leveeref04_Choose (a0:YB) (l0 c0:Nat) (a1:YB) (l1 c1:Nat) (n2:Int) (w0:World) (K:YA):Prop :=
 ∃ q6:Addr,∃ w1:World,Ru (Instr.alloc 232 true (.tuple #[])) w0 (.pointer (some q6)) w1/\∃ (a17:YB) (l17 c17:Nat),∃ w2:World,Ru (Instr.buildSlice 295 2 #[(0,.slice a0 l0 c0),(1,.slice a1 l1 c1)]) w1 (.slice a17 l17 c17) w2/\∃ q10:Addr,∃ w3:World,Ru (Instr.alloc 232 true (.tuple #[])) w2 (.pointer (some q10)) w3/\LoopC (fun k x w4 =>
 ∃ n12:Int,nth x 1=.int .i64 n12/\(bif decide (n12<2) then
 ∃ q25:Addr,Al (Instr.indexAt 295 (.slice a17 l17 c17) (.int .i64 n12)) (.pointer (some q25))/\∃ (a26:YB) (l26 c26:Nat),YD 88 q25 w4 (.slice a26 l26 c26)/\YC F_leveeref04_Get #[.slice a26 l26 c26] w4 fun r27 w5=>∃ g27a:Array Value,∃ n27b:Int,r27=.tuple #[.agg g27a,.int .i64 n27b]/\∃ q13:Addr,∃ w6:World,Ru (Instr.alloc 232 true (.tuple #[])) w5 (.pointer (some q13)) w6/\∃ w7:World,YE 232 q13 (.agg g27a) w6 w7/\Share (fun k_2=>(bif n27b==0 then ∃ n34:Int,YD 2 (Addr.add q13 0) w7 (.int .i64 n34)/\(bif (Int.tmod n34 2)==n12 then ∃ g41:Array Value,YD 40 (Addr.add q13 1) w7 (.agg g41)/\YC F_leveeref03_Size #[.agg g41] w7 fun r42 w8=>∃ n42:Int,r42=.int .i64 n42/\(bif decide (n42<=n2) then ∃ n48:Int,YD 2 (Addr.add q13 0) w8 (.int .i64 n48)/\∃ n50:Int,YD 2 (Addr.add q10 0) w8 (.int .i64 n50)/\k_2 [.bool (decide (n48 > n50))] w8 else k_2 [.bool false] w8) else k_2 [.bool false] w7) else k_2 [.bool false] w7)) fun x_2 w9 =>
 ∃ b52:Bool,nth x_2 0=.bool b52/\Share (fun k_3=>(bif b52 then
 ∃ g53:Array Value,YD 232 q13 w9 (.agg g53)/\∃ w10:World,YE 232 q10 (.agg g53) w9 w10/\k_3 [.int .i64 n12] w10
 else
 k_3 [nth x 0] w9)) fun x_3 w11 =>
 k [nth x_3 0,.int .i64 (IntKind.i64.wrap (n12+1)),.bool b52] w11
 else
 ∃ n11:Int,nth x 0=.int .i64 n11/\(bif decide (n11<0) then
 ∃ g57:Array Value,Al (Instr.build 232 #[]) (.agg g57)/\∃ w12:World,YE 232 q6 (.agg g57) w4 w12/\∃ gR6:Array Value,YD 232 q6 w12 (.agg gR6)/\K (.tuple #[.agg gR6,.int .i64 0,.int .i64 10]) w12
 else
 ∃ g58:Array Value,YD 232 q10 w4 (.agg g58)/\∃ w13:World,YE 232 q6 (.agg g58) w4 w13/\∃ gR6_2:Array Value,YD 232 q6 w13 (.agg gR6_2)/\K (.tuple #[.agg gR6_2,.int .i64 n11,.int .i64 0]) w13))) [.int .i64 ((-1)),.int .i64 0,undef] w3
theorem C_leveeref04_Choose (a0:YB) (l0 c0:Nat) (a1:YB) (l1 c1:Nat) (n2:Int) (w0:World) (K:YA) (h:D_leveeref04_Choose a0 l0 c0 a1 l1 c1 n2 w0 K):Cal Tryz.prog F_leveeref04_Choose #[.slice a0 l0 c0,.slice a1 l1 c1,.int .i64 n2] w0 K :=
 denF_of (A:=⟨[11,12,52],[(11,3),(12,3),(52,4)],[]⟩) Tryz.func149 (by kernel_rfl) (by kernel_rfl) (by kernel_rfl) h
def D_leveeref11_Open (p0:YB) (w0:World) (K:YA):Prop :=
 ∃ g8:Array Value,Al (Instr.build 181 #[(0,.pointer p0)]) (.agg g8)/\∃ q9:Addr,∃ w1:World,Ru (Instr.box 181 (.agg g8)) w0 (.pointer (some q9)) w1/\LoopC (fun k x w2 =>
 ∃ n4:Int,nth x 0=.int .i64 n4/\∃ q12:Addr,(.pointer p0:Value)=.pointer (some q12)/\∃ (a14:YB) (l14 c14:Nat),YD 221 (Addr.add q12 0) w2 (.slice a14 l14 c14)/\(bif decide (n4<(l14:Int)) then
 YC F_leveeref02_Disk_Read #[.pointer p0,.int .i64 n4] w2 fun r22 w3=>∃ (a22a:YB) (l22a c22a:Nat),∃ n22b:Int,r22=.tuple #[.slice a22a l22a c22a,.int .i64 n22b]/\∃ q27:Addr,(.pointer (some q9):Value)=.pointer (some q27)/\∃ (a29:YB) (l29 c29:Nat),YD 178 (Addr.add q27 1) (drew w3) (.slice a29 l29 c29)/\∃ s31:ByteArray,Ru (convert 88 9 (.slice a22a l22a c22a)) (drew w3) (.string s31) (drew w3)/\∃ (a32:YB) (l32 c32:Nat),∃ w4:World,Ru (Instr.buildSlice 178 1 #[(0,.string s31)]) (drew w3) (.slice a32 l32 c32) w4/\YD 178 (Addr.add q27 1) w4 (.slice a29 l29 c29)/\∃ (a33:YB) (l33 c33:Nat),∃ w5:World,Ru (Builtin.append_ #[178,178] 178 #[.slice a29 l29 c29,.slice a32 l32 c32]) w4 (.slice a33 l33 c33) w5/\∃ q34:Addr,(.pointer (some q9):Value)=.pointer (some q34)/\∃ w6:World,YE 178 (Addr.add q34 1) (.slice a33 l33 c33) w5 w6/\k [.int .i64 (IntKind.i64.wrap (n4+1))] w6
 else
 K (.pointer (some q9)) w2)) [.int .i64 0] w1
theorem C_leveeref11_Open (p0:YB) (w0:World) (K:YA) (h:D_leveeref11_Open p0 w0 K):Cal Tryz.prog F_leveeref11_Open #[.pointer p0] w0 K :=
 denF_of (A:=⟨[4],[(4,3)],[]⟩) Tryz.func150 (by kernel_rfl) (by kernel_rfl) (by kernel_rfl) h
def D_leveeref03_Slots (g0:Array Value) (w0:World) (K:YA):Prop :=
 ∃ q1:Addr,∃ w1:World,Ru (Instr.box 40 (.agg g0)) w0 (.pointer (some q1)) w1/\∃ g3:Array Value,YD 40 q1 w1 (.agg g3)/\YC F_leveeref03_Right #[.agg g3] w1 fun r4 w2=>∃ b4:Bool,r4=.bool b4/\(bif !b4 then
 K (.int .i64 0) w2
 else
 ∃ n7:Int,YD 3 (Addr.add q1 2) w2 (.int .i64 n7)/\∃ n9:Int,YD 3 (Addr.add q1 1) w2 (.int .i64 n9)/\K (.int .i64 (IntKind.i64.wrap (n7*n9))) w2)
theorem C_leveeref03_Slots (g0:Array Value) (w0:World) (K:YA) (h:D_leveeref03_Slots g0 w0 K):Cal Tryz.prog F_leveeref03_Slots #[.agg g0] w0 K :=
 denF_of (A:=⟨[],[],[]⟩) Tryz.func151 (by kernel_rfl) (by kernel_rfl) (by kernel_rfl) h
def D_leveeref13_Vol_Inode (p0:YB) (n1:Int) (w0:World) (K:YA):Prop :=
 ∃ q4:Addr,∃ w1:World,Ru (Instr.alloc 218 true (.tuple #[])) w0 (.pointer (some q4)) w1/\∃ q13:Addr,(.pointer p0:Value)=.pointer (some q13)/\∃ g15:Array Value,YD 40 (Addr.add q13 3) w1 (.agg g15)/\YC F_leveeref03_Place #[.agg g15,.int .i64 n1] w1 fun r17 w2=>∃ n17a:Int,∃ n17b:Int,∃ n17c:Int,r17=.tuple #[.int .i64 n17a,.int .i64 n17b,.int .i64 n17c]/\(bif n17c != 0 then
 ∃ g23:Array Value,Al (Instr.build 218 #[]) (.agg g23)/\∃ w3:World,YE 218 q4 (.agg g23) w2 w3/\∃ gR4:Array Value,YD 218 q4 w3 (.agg gR4)/\K (.tuple #[.agg gR4,.int .i64 n17c]) w3
 else
 ∃ q27:Addr,(.pointer p0:Value)=.pointer (some q27)/\∃ p29:YB,YD 75 (Addr.add q27 0) w2 (.pointer p29)/\YC F_leveeref11_Store_Read #[.pointer p29,.int .i64 n17a] w2 fun r31 w4=>∃ (a31a:YB) (l31a c31a:Nat),∃ n31b:Int,r31=.tuple #[.slice a31a l31a c31a,.int .i64 n31b]/\YC F_leveeref07_Read #[.slice a31a l31a c31a,.int .i64 n17b] w4 fun r36 w5=>∃ g36a:Array Value,∃ n36b:Int,r36=.tuple #[.agg g36a,.int .i64 n36b]/\∃ w6:World,YE 218 q4 (.agg g36a) w5 w6/\∃ gR4_2:Array Value,YD 218 q4 w6 (.agg gR4_2)/\K (.tuple #[.agg gR4_2,.int .i64 n36b]) w6)
theorem C_leveeref13_Vol_Inode (p0:YB) (n1:Int) (w0:World) (K:YA) (h:D_leveeref13_Vol_Inode p0 n1 w0 K):Cal Tryz.prog F_leveeref13_Vol_Inode #[.pointer p0,.int .i64 n1] w0 K :=
 denF_of (A:=⟨[],[],[]⟩) Tryz.func152 (by kernel_rfl) (by kernel_rfl) (by kernel_rfl) h
def D_slices_ContainsFunc_int64 (a0:YB) (l0 c0:Nat) (v1:Value) (w0:World) (K:YA):Prop :=
 YC F_slices_IndexFunc_int64 #[.slice a0 l0 c0,v1] w0 fun r7 w1=>∃ n7:Int,r7=.int .i64 n7/\K (.bool (decide (n7 >= 0))) w1
theorem C_slices_ContainsFunc_int64 (a0:YB) (l0 c0:Nat) (v1:Value) (w0:World) (K:YA) (h:D_slices_ContainsFunc_int64 a0 l0 c0 v1 w0 K):Cal Tryz.prog F_slices_ContainsFunc_int64 #[.slice a0 l0 c0,v1] w0 K :=
 denF_of (A:=⟨[],[],[]⟩) Tryz.func153 (by kernel_rfl) (by kernel_rfl) (by kernel_rfl) h
def D_patch_Store_Patch_1 (n0:Int) (v1:Value) (w0:World) (K:YA):Prop :=
 ∃ p4:YB,Ru (Instr.loadAt 89 v1) w0 (.pointer p4) w0/\YC F_patch_Store_given #[.pointer p4,.int .i64 n0] w0 fun r6 w1=>∃ b6:Bool,r6=.bool b6/\K (.bool (!b6)) w1
theorem C_patch_Store_Patch_1 (n0:Int) (v1:Value) (w0:World) (K:YA) (h:D_patch_Store_Patch_1 n0 v1 w0 K):Cal Tryz.prog F_patch_Store_Patch_1 #[.int .i64 n0,v1] w0 K :=
 denF_of (A:=⟨[],[],[]⟩) Tryz.func154 (by kernel_rfl) (by kernel_rfl) (by kernel_rfl) h
def D_patch_Store_given (p0:YB) (n1:Int) (w0:World) (K:YA):Prop :=
 Share (fun k=>(bif decide (n1 >= 1) then ∃ q10:Addr,(.pointer p0:Value)=.pointer (some q10)/\∃ n12:Int,YD 2 (Addr.add q10 2) w0 (.int .i64 n12)/\k [.bool (decide (n1<=n12))] w0 else k [.bool false] w0)) fun x w1 =>
 ∃ b4:Bool,nth x 0=.bool b4/\K (.bool b4) w1
theorem C_patch_Store_given (p0:YB) (n1:Int) (w0:World) (K:YA) (h:D_patch_Store_given p0 n1 w0 K):Cal Tryz.prog F_patch_Store_given #[.pointer p0,.int .i64 n1] w0 K :=
 denF_of (A:=⟨[4],[(4,4)],[]⟩) Tryz.func155 (by kernel_rfl) (by kernel_rfl) (by kernel_rfl) h
def D_cache_Cache_Pin (p0:YB) (n1:Int) (w0:World) (K:YA):Prop :=
 YC F_cache_Cache_held #[.pointer p0,.int .i64 n1] w0 fun r10 w1=>∃ p10a:YB,∃ n10b:Int,r10=.tuple #[.pointer p10a,.int .i64 n10b]/\Share (fun k=>(bif n10b==0 then
 ∃ q16:Addr,(.pointer p10a:Value)=.pointer (some q16)/\∃ n18:Int,YD 3 (Addr.add q16 1) w1 (.int .i64 n18)/\∃ q20:Addr,(.pointer p10a:Value)=.pointer (some q20)/\∃ w2:World,YE 3 (Addr.add q20 1) (.int .i64 (IntKind.i64.wrap (n18+1))) w1 w2/\k [] w2
 else
 k [] w1)) fun x w3 =>
 K (.int .i64 n10b) w3
theorem C_cache_Cache_Pin (p0:YB) (n1:Int) (w0:World) (K:YA) (h:D_cache_Cache_Pin p0 n1 w0 K):Cal Tryz.prog F_cache_Cache_Pin #[.pointer p0,.int .i64 n1] w0 K :=
 denF_of (A:=⟨[],[],[]⟩) Tryz.func156 (by kernel_rfl) (by kernel_rfl) (by kernel_rfl) h
def D_num_Lay (a0:YB) (l0 c0:Nat) (n1:Int) (a2:YB) (l2 c2:Nat) (w0:World) (K:YA):Prop :=
 YC F_num_within #[.slice a0 l0 c0,.int .i64 n1,.int .i64 ((l2:Int))] w0 fun r13 w1=>∃ b13:Bool,r13=.bool b13/\(bif !b13 then
 K (.tuple #[.slice none 0 0,.int .i64 3]) w1
 else
 ∃ (a17:YB) (l17 c17:Nat),∃ w2:World,Ru (Instr.makeSlice 88 (.int .i64 ((l0:Int))) (.int .i64 ((l0:Int)))) w1 (.slice a17 l17 c17) w2/\∃ n20:Int,∃ w3:World,Ru (Builtin.copy_ #[88,88] 3 #[.slice a17 l17 c17,.slice a0 l0 c0]) w2 (.int .i64 n20) w3/\∃ (a23:YB) (l23 c23:Nat),Al (Instr.sliceAt 88 (.slice a17 l17 c17) (some (.int .i64 n1)) none none) (.slice a23 l23 c23)/\∃ n25:Int,∃ w4:World,Ru (Builtin.copy_ #[88,88] 3 #[.slice a23 l23 c23,.slice a2 l2 c2]) w3 (.int .i64 n25) w4/\K (.tuple #[.slice a17 l17 c17,.int .i64 0]) w4)
theorem C_num_Lay (a0:YB) (l0 c0:Nat) (n1:Int) (a2:YB) (l2 c2:Nat) (w0:World) (K:YA) (h:D_num_Lay a0 l0 c0 n1 a2 l2 c2 w0 K):Cal Tryz.prog F_num_Lay #[.slice a0 l0 c0,.int .i64 n1,.slice a2 l2 c2] w0 K :=
 denF_of (A:=⟨[],[],[]⟩) Tryz.func157 (by kernel_rfl) (by kernel_rfl) (by kernel_rfl) h
def D_cache_Cache_Lay (p0:YB) (n1:Int) (a2:YB) (l2 c2:Nat) (w0:World) (K:YA):Prop :=
 ∃ (a13:YB) (l13 c13:Nat),∃ w1:World,Ru (Instr.buildSlice 80 1 #[(0,.int .i64 256)]) w0 (.slice a13 l13 c13) w1/\YC F_cache_Cache_may #[.pointer p0,.int .i64 n1,.slice a2 l2 c2,.slice a13 l13 c13] w1 fun r14 w2=>∃ n14:Int,r14=.int .i64 n14/\(bif n14 != 0 then
 K (.int .i64 n14) w2
 else
 YC F_cache_Cache_ask #[.pointer p0,.int .i64 n1] w2 fun r21 w3=>∃ p21a:YB,∃ n21b:Int,r21=.tuple #[.pointer p21a,.int .i64 n21b]/\Share (fun k=>(bif n21b==0 then
 YC F_slices_Clone_byte #[.slice a2 l2 c2] w3 fun r28 w4=>∃ (a28:YB) (l28 c28:Nat),r28=.slice a28 l28 c28/\∃ q29:Addr,(.pointer p21a:Value)=.pointer (some q29)/\∃ w5:World,YE 88 (Addr.add (Addr.add q29 0) 0) (.slice a28 l28 c28) w4 w5/\k [] w5
 else
 k [] w3)) fun x w6 =>
 K (.int .i64 n21b) w6)
theorem C_cache_Cache_Lay (p0:YB) (n1:Int) (a2:YB) (l2 c2:Nat) (w0:World) (K:YA) (h:D_cache_Cache_Lay p0 n1 a2 l2 c2 w0 K):Cal Tryz.prog F_cache_Cache_Lay #[.pointer p0,.int .i64 n1,.slice a2 l2 c2] w0 K :=
 denF_of (A:=⟨[],[],[]⟩) Tryz.func158 (by kernel_rfl) (by kernel_rfl) (by kernel_rfl) h
def D_slices_Clone_byte (a0:YB) (l0 c0:Nat) (w0:World) (K:YA):Prop :=
 ∃ b4:Bool,Al (eqS .eql 88 (.tmp 3) (.const (.slice none 0 0)) (.slice a0 l0 c0) (.slice none 0 0)) (.bool b4)/\(bif b4 then
 K (.slice none 0 0) w0
 else
 ∃ (a5:YB) (l5 c5:Nat),∃ w1:World,Ru (Instr.buildSlice 88 0 #[]) w0 (.slice a5 l5 c5) w1/\∃ (a7:YB) (l7 c7:Nat),∃ w2:World,Ru (Builtin.append_ #[88,88] 88 #[.slice a5 l5 c5,.slice a0 l0 c0]) w1 (.slice a7 l7 c7) w2/\K (.slice a7 l7 c7) w2)
theorem C_slices_Clone_byte (a0:YB) (l0 c0:Nat) (w0:World) (K:YA) (h:D_slices_Clone_byte a0 l0 c0 w0 K):Cal Tryz.prog F_slices_Clone_byte #[.slice a0 l0 c0] w0 K :=
 denF_of (A:=⟨[],[],[]⟩) Tryz.func159 (by kernel_rfl) (by kernel_rfl) (by kernel_rfl) h
def D_cache_Cache_may (p0:YB) (n1:Int) (a2:YB) (l2 c2:Nat) (a3:YB) (l3 c3:Nat) (w0:World) (K:YA):Prop :=
 (bif Option.isNone p0 then
 K (.int .i64 2) w0
 else
 Share (fun k=>(bif decide (n1<0) then k [.bool true] w0 else ∃ q18:Addr,(.pointer p0:Value)=.pointer (some q18)/\∃ p20:YB,YD 134 (Addr.add q18 0) w0 (.pointer p20)/\YC F_disk_Disk_Len #[.pointer p20] w0 fun r21 w1=>∃ n21:Int,r21=.int .i64 n21/\k [.bool (decide (n1 >= n21))] w1)) fun x w2 =>
 ∃ b12:Bool,nth x 0=.bool b12/\(bif b12 then
 K (.int .i64 3) w2
 else
 Share (fun k_2=>(bif decide ((l3:Int) > 0) then YC F_slices_Contains_int #[.slice a3 l3 c3,.int .i64 ((l2:Int))] w2 fun r32 w3=>∃ b32:Bool,r32=.bool b32/\k_2 [.bool (!b32)] w3 else k_2 [.bool false] w2)) fun x_2 w4 =>
 ∃ b24:Bool,nth x_2 0=.bool b24/\(bif b24 then
 K (.int .i64 4) w4
 else
 K (.int .i64 0) w4)))
theorem C_cache_Cache_may (p0:YB) (n1:Int) (a2:YB) (l2 c2:Nat) (a3:YB) (l3 c3:Nat) (w0:World) (K:YA) (h:D_cache_Cache_may p0 n1 a2 l2 c2 a3 l3 c3 w0 K):Cal Tryz.prog F_cache_Cache_may #[.pointer p0,.int .i64 n1,.slice a2 l2 c2,.slice a3 l3 c3] w0 K :=
 denF_of (A:=⟨[12,24],[(12,4),(24,4)],[]⟩) Tryz.func161 (by kernel_rfl) (by kernel_rfl) (by kernel_rfl) h
def D_cache_Cache_ask (p0:YB) (n1:Int) (w0:World) (K:YA):Prop :=
 ∃ q3:Addr,∃ w1:World,Ru (Instr.box 3 (.int .i64 n1)) w0 (.pointer (some q3)) w1/\∃ q14:Addr,(.pointer p0:Value)=.pointer (some q14)/\∃ m16:Option Nat,YD 250 (Addr.add q14 2) (drew w1) (.map m16)/\∃ n17:Int,YD 3 q3 (drew w1) (.int .i64 n17)/\∃ p18a:YB,∃ b18b:Bool,Ru (Instr.lookup 250 (.map m16) (.int .i64 n17) true) (drew w1) (.tuple #[.pointer p18a,.bool b18b]) (drew w1)/\(bif b18b then
 ∃ q24:Addr,(.pointer p0:Value)=.pointer (some q24)/\∃ (a26:YB) (l26 c26:Nat),YD 80 (Addr.add q24 3) (drew (drew w1)) (.slice a26 l26 c26)/\∃ n29:Int,YD 3 q3 (drew (drew w1)) (.int .i64 n29)/\(YC F_slices_DeleteFunc_int #[.slice a26 l26 c26,.func (.func F_cache_Cache_ask_1) #[] #[.pointer (some q3)]] (drew (drew w1)) fun r28 w2=>∃ (a28:YB) (l28 c28:Nat),r28=.slice a28 l28 c28/\YD 3 q3 w2 (.int .i64 n29)/\∃ (a30:YB) (l30 c30:Nat),∃ w3:World,Ru (Instr.buildSlice 80 1 #[(0,.int .i64 n29)]) w2 (.slice a30 l30 c30) w3/\YD 80 (Addr.add q24 3) w3 (.slice a26 l26 c26)/\∃ (a31:YB) (l31 c31:Nat),∃ w4:World,Ru (Builtin.append_ #[80,80] 80 #[.slice a28 l28 c28,.slice a30 l30 c30]) w3 (.slice a31 l31 c31) w4/\∃ q32:Addr,(.pointer p0:Value)=.pointer (some q32)/\∃ w5:World,YE 80 (Addr.add q32 3) (.slice a31 l31 c31) w4 w5/\K (.tuple #[.pointer p18a,.int .i64 0]) w5)/\(∃ (a30_2:YB) (l30_2 c30_2:Nat),∃ w6:World,Ru (Instr.buildSlice 80 1 #[(0,.int .i64 n29)]) (drew (drew w1)) (.slice a30_2 l30_2 c30_2) w6/\YD 80 (Addr.add q24 3) w6 (.slice a26 l26 c26)/\YC F_slices_DeleteFunc_int #[.slice a26 l26 c26,.func (.func F_cache_Cache_ask_1) #[] #[.pointer (some q3)]] w6 fun r28_2 w7=>∃ (a28_2:YB) (l28_2 c28_2:Nat),r28_2=.slice a28_2 l28_2 c28_2/\YD 3 q3 w7 (.int .i64 n29)/\∃ (a31_2:YB) (l31_2 c31_2:Nat),∃ w8:World,Ru (Builtin.append_ #[80,80] 80 #[.slice a28_2 l28_2 c28_2,.slice a30_2 l30_2 c30_2]) w7 (.slice a31_2 l31_2 c31_2) w8/\∃ q32_2:Addr,(.pointer p0:Value)=.pointer (some q32_2)/\∃ w9:World,YE 80 (Addr.add q32_2 3) (.slice a31_2 l31_2 c31_2) w8 w9/\K (.tuple #[.pointer p18a,.int .i64 0]) w9)
 else
 YC F_cache_Cache_room #[.pointer p0] (drew w1) fun r36 w10=>∃ n36:Int,r36=.int .i64 n36/\(bif n36 != 0 then
 K (.tuple #[.pointer none,.int .i64 n36]) w10
 else
 ∃ q42:Addr,(.pointer p0:Value)=.pointer (some q42)/\∃ p44:YB,YD 134 (Addr.add q42 0) (drew w10) (.pointer p44)/\∃ n45:Int,YD 3 q3 (drew w10) (.int .i64 n45)/\YC F_disk_Disk_Read #[.pointer p44,.int .i64 n45] (drew w10) fun r46 w11=>∃ (a46a:YB) (l46a c46a:Nat),∃ n46b:Int,r46=.tuple #[.slice a46a l46a c46a,.int .i64 n46b]/\(bif n46b != 0 then
 K (.tuple #[.pointer none,.int .i64 n46b]) w11
 else
 ∃ g53:Array Value,Al (Instr.build 247 #[(0,.slice a46a l46a c46a)]) (.agg g53)/\∃ g54:Array Value,Al (Instr.build 249 #[(0,.agg g53)]) (.agg g54)/\∃ q55:Addr,∃ w12:World,Ru (Instr.box 249 (.agg g54)) w11 (.pointer (some q55)) w12/\∃ q57:Addr,(.pointer p0:Value)=.pointer (some q57)/\∃ m59:Option Nat,YD 250 (Addr.add q57 2) (drew w12) (.map m59)/\∃ n60:Int,YD 3 q3 (drew w12) (.int .i64 n60)/\∃ w13:World,RuU (Instr.mapUpdate 250 (.map m59) (.int .i64 n60) (.pointer (some q55))) (drew w12) w13/\∃ q64:Addr,(.pointer p0:Value)=.pointer (some q64)/\∃ (a66:YB) (l66 c66:Nat),YD 80 (Addr.add q64 3) (drew w13) (.slice a66 l66 c66)/\∃ n67:Int,YD 3 q3 (drew w13) (.int .i64 n67)/\∃ (a68:YB) (l68 c68:Nat),∃ w14:World,Ru (Instr.buildSlice 80 1 #[(0,.int .i64 n67)]) (drew w13) (.slice a68 l68 c68) w14/\YD 80 (Addr.add q64 3) w14 (.slice a66 l66 c66)/\∃ (a69:YB) (l69 c69:Nat),∃ w15:World,Ru (Builtin.append_ #[80,80] 80 #[.slice a66 l66 c66,.slice a68 l68 c68]) w14 (.slice a69 l69 c69) w15/\∃ q70:Addr,(.pointer p0:Value)=.pointer (some q70)/\∃ w16:World,YE 80 (Addr.add q70 3) (.slice a69 l69 c69) w15 w16/\K (.tuple #[.pointer (some q55),.int .i64 0]) w16)))
theorem C_cache_Cache_ask (p0:YB) (n1:Int) (w0:World) (K:YA) (h:D_cache_Cache_ask p0 n1 w0 K):Cal Tryz.prog F_cache_Cache_ask #[.pointer p0,.int .i64 n1] w0 K :=
 denF_of (A:=⟨[],[],[]⟩) Tryz.func162 (by kernel_rfl) (by kernel_rfl) (by kernel_rfl) h
def D_cache_Cache_held (p0:YB) (n1:Int) (w0:World) (K:YA):Prop :=
 (bif Option.isNone p0 then
 K (.tuple #[.pointer none,.int .i64 2]) w0
 else
 ∃ q12:Addr,(.pointer p0:Value)=.pointer (some q12)/\∃ m14:Option Nat,YD 250 (Addr.add q12 2) w0 (.map m14)/\∃ p16a:YB,∃ b16b:Bool,Ru (Instr.lookup 250 (.map m14) (.int .i64 n1) true) w0 (.tuple #[.pointer p16a,.bool b16b]) w0/\(bif !b16b then
 K (.tuple #[.pointer none,.int .i64 20]) w0
 else
 K (.tuple #[.pointer p16a,.int .i64 0]) w0))
theorem C_cache_Cache_held (p0:YB) (n1:Int) (w0:World) (K:YA) (h:D_cache_Cache_held p0 n1 w0 K):Cal Tryz.prog F_cache_Cache_held #[.pointer p0,.int .i64 n1] w0 K :=
 denF_of (A:=⟨[],[],[]⟩) Tryz.func168 (by kernel_rfl) (by kernel_rfl) (by kernel_rfl) h
def D_leveeref03_Head (g0:Array Value) (n1:Int) (w0:World) (K:YA):Prop :=
 ∃ q2:Addr,∃ w1:World,Ru (Instr.box 40 (.agg g0)) w0 (.pointer (some q2)) w1/\∃ g6:Array Value,YD 40 q2 w1 (.agg g6)/\YC F_leveeref03_Right #[.agg g6] w1 fun r7 w2=>∃ b7:Bool,r7=.bool b7/\(bif !b7 then
 K (.tuple #[.int .i64 0,.int .i64 1]) w2
 else
 Share (fun k=>(bif decide (n1<0) then k [.bool true] w2 else ∃ n14:Int,YD 3 (Addr.add q2 2) w2 (.int .i64 n14)/\k [.bool (decide (n1 >= n14))] w2)) fun x w3 =>
 ∃ b16:Bool,nth x 0=.bool b16/\(bif b16 then
 K (.tuple #[.int .i64 0,.int .i64 3]) w3
 else
 ∃ n19:Int,YD 3 (Addr.add q2 0) w3 (.int .i64 n19)/\K (.tuple #[.int .i64 (IntKind.i64.wrap (2+(IntKind.i64.wrap (n1*n19)))),.int .i64 0]) w3))
theorem C_leveeref03_Head (g0:Array Value) (n1:Int) (w0:World) (K:YA) (h:D_leveeref03_Head g0 n1 w0 K):Cal Tryz.prog F_leveeref03_Head #[.agg g0,.int .i64 n1] w0 K :=
 denF_of (A:=⟨[16],[(16,4)],[]⟩) Tryz.func172 (by kernel_rfl) (by kernel_rfl) (by kernel_rfl) h
def D_leveeref06_Get (g0:Array Value) (a1:YB) (l1 c1:Nat) (w0:World) (K:YA):Prop :=
 ∃ q2:Addr,∃ w1:World,Ru (Instr.box 40 (.agg g0)) w0 (.pointer (some q2)) w1/\∃ q4:Addr,∃ w2:World,Ru (Instr.alloc 183 true (.tuple #[])) w1 (.pointer (some q4)) w2/\∃ g9:Array Value,YD 40 q2 w2 (.agg g9)/\YC F_leveeref03_Right #[.agg g9] w2 fun r10 w3=>∃ b10:Bool,r10=.bool b10/\(bif !b10 then
 ∃ g12:Array Value,Al (Instr.build 183 #[]) (.agg g12)/\∃ w4:World,YE 183 q4 (.agg g12) w3 w4/\∃ gR4:Array Value,YD 183 q4 w4 (.agg gR4)/\K (.tuple #[.agg gR4,.int .i64 1]) w4
 else
 (bif (l1:Int) != 256 then
 ∃ g16:Array Value,Al (Instr.build 183 #[]) (.agg g16)/\∃ w5:World,YE 183 q4 (.agg g16) w3 w5/\∃ gR4_2:Array Value,YD 183 q4 w5 (.agg gR4_2)/\K (.tuple #[.agg gR4_2,.int .i64 4]) w5
 else
 ∃ (a18:YB) (l18 c18:Nat),Al (Instr.sliceAt 88 (.slice a1 l1 c1) (some (.int .i64 4)) (some (.int .i64 6)) none) (.slice a18 l18 c18)/\∃ (a22:YB) (l22 c22:Nat),Al (Instr.sliceAt 88 (.slice a1 l1 c1) (some (.int .i64 16)) (some (.int .i64 32)) none) (.slice a22 l22 c22)/\∃ (a25:YB) (l25 c25:Nat),Al (Instr.sliceAt 88 (.slice a1 l1 c1) (some (.int .i64 32)) (some (.int .i64 40)) none) (.slice a25 l25 c25)/\(YC F_leveeref01_Get #[.slice a18 l18 c18] (drew w3) fun r19 w6=>∃ n19:Int,r19=.int .u64 n19/\(YC F_leveeref01_Lent #[.slice a22 l22 c22] w6 fun r23 w7=>∃ (a23:YB) (l23 c23:Nat),r23=.slice a23 l23 c23/\(YC F_leveeref01_Lent #[.slice a25 l25 c25] w7 fun r26 w8=>∃ (a26:YB) (l26 c26:Nat),r26=.slice a26 l26 c26/\∃ g27:Array Value,Al (Instr.build 183 #[(0,.int .i64 (IntKind.i64.wrap n19)),(1,.slice a23 l23 c23),(2,.slice a26 l26 c26)]) (.agg g27)/\∃ q6:Addr,∃ w9:World,Ru (Instr.alloc 183 true (.tuple #[])) w8 (.pointer (some q6)) w9/\∃ w10:World,YE 183 q6 (.agg g27) w9 w10/\∃ g29:Array Value,YD 40 q2 w10 (.agg g29)/\∃ g30:Array Value,YD 183 q6 w10 (.agg g30)/\YC F_leveeref06_Put #[.agg g29,.agg g30] w10 fun r31 w11=>∃ (a31a:YB) (l31a c31a:Nat),∃ n31b:Int,r31=.tuple #[.slice a31a l31a c31a,.int .i64 n31b]/\Share (fun k=>(bif n31b != 0 then k [.bool true] w11 else ∃ s38:ByteArray,Ru (convert 88 9 (.slice a31a l31a c31a)) w11 (.string s38) w11/\∃ s40:ByteArray,Ru (convert 88 9 (.slice a1 l1 c1)) w11 (.string s40) w11/\k [.bool (!((ByteArray.toList s38)==(ByteArray.toList s40)))] w11)) fun x w12 =>
 ∃ b42:Bool,nth x 0=.bool b42/\(bif b42 then
 ∃ g43:Array Value,Al (Instr.build 183 #[]) (.agg g43)/\∃ w13:World,YE 183 q4 (.agg g43) w12 w13/\∃ gR4_3:Array Value,YD 183 q4 w13 (.agg gR4_3)/\K (.tuple #[.agg gR4_3,.int .i64 8]) w13
 else
 ∃ g44:Array Value,YD 183 q6 w12 (.agg g44)/\∃ w14:World,YE 183 q4 (.agg g44) w12 w14/\∃ gR4_4:Array Value,YD 183 q4 w14 (.agg gR4_4)/\K (.tuple #[.agg gR4_4,.int .i64 0]) w14))/\(∃ q6_2:Addr,∃ w15:World,Ru (Instr.alloc 183 true (.tuple #[])) w7 (.pointer (some q6_2)) w15/\YC F_leveeref01_Lent #[.slice a25 l25 c25] w15 fun r26_2 w16=>∃ (a26_2:YB) (l26_2 c26_2:Nat),r26_2=.slice a26_2 l26_2 c26_2/\∃ g27_2:Array Value,Al (Instr.build 183 #[(0,.int .i64 (IntKind.i64.wrap n19)),(1,.slice a23 l23 c23),(2,.slice a26_2 l26_2 c26_2)]) (.agg g27_2)/\∃ w17:World,YE 183 q6_2 (.agg g27_2) w16 w17/\∃ g29_2:Array Value,YD 40 q2 w17 (.agg g29_2)/\∃ g30_2:Array Value,YD 183 q6_2 w17 (.agg g30_2)/\YC F_leveeref06_Put #[.agg g29_2,.agg g30_2] w17 fun r31_2 w18=>∃ (a31a_2:YB) (l31a_2 c31a_2:Nat),∃ n31b_2:Int,r31_2=.tuple #[.slice a31a_2 l31a_2 c31a_2,.int .i64 n31b_2]/\Share (fun k_2=>(bif n31b_2 != 0 then k_2 [.bool true] w18 else ∃ s38_2:ByteArray,Ru (convert 88 9 (.slice a31a_2 l31a_2 c31a_2)) w18 (.string s38_2) w18/\∃ s40_2:ByteArray,Ru (convert 88 9 (.slice a1 l1 c1)) w18 (.string s40_2) w18/\k_2 [.bool (!((ByteArray.toList s38_2)==(ByteArray.toList s40_2)))] w18)) fun x_2 w19 =>
 ∃ b42_2:Bool,nth x_2 0=.bool b42_2/\(bif b42_2 then
 ∃ g43_2:Array Value,Al (Instr.build 183 #[]) (.agg g43_2)/\∃ w20:World,YE 183 q4 (.agg g43_2) w19 w20/\∃ gR4_5:Array Value,YD 183 q4 w20 (.agg gR4_5)/\K (.tuple #[.agg gR4_5,.int .i64 8]) w20
 else
 ∃ g44_2:Array Value,YD 183 q6_2 w19 (.agg g44_2)/\∃ w21:World,YE 183 q4 (.agg g44_2) w19 w21/\∃ gR4_6:Array Value,YD 183 q4 w21 (.agg gR4_6)/\K (.tuple #[.agg gR4_6,.int .i64 0]) w21)))/\(∃ q6_3:Addr,∃ w22:World,Ru (Instr.alloc 183 true (.tuple #[])) w6 (.pointer (some q6_3)) w22/\YC F_leveeref01_Lent #[.slice a22 l22 c22] w22 fun r23_2 w23=>∃ (a23_2:YB) (l23_2 c23_2:Nat),r23_2=.slice a23_2 l23_2 c23_2/\YC F_leveeref01_Lent #[.slice a25 l25 c25] w23 fun r26_3 w24=>∃ (a26_3:YB) (l26_3 c26_3:Nat),r26_3=.slice a26_3 l26_3 c26_3/\∃ g27_3:Array Value,Al (Instr.build 183 #[(0,.int .i64 (IntKind.i64.wrap n19)),(1,.slice a23_2 l23_2 c23_2),(2,.slice a26_3 l26_3 c26_3)]) (.agg g27_3)/\∃ w25:World,YE 183 q6_3 (.agg g27_3) w24 w25/\∃ g29_3:Array Value,YD 40 q2 w25 (.agg g29_3)/\∃ g30_3:Array Value,YD 183 q6_3 w25 (.agg g30_3)/\YC F_leveeref06_Put #[.agg g29_3,.agg g30_3] w25 fun r31_3 w26=>∃ (a31a_3:YB) (l31a_3 c31a_3:Nat),∃ n31b_3:Int,r31_3=.tuple #[.slice a31a_3 l31a_3 c31a_3,.int .i64 n31b_3]/\Share (fun k_3=>(bif n31b_3 != 0 then k_3 [.bool true] w26 else ∃ s38_3:ByteArray,Ru (convert 88 9 (.slice a31a_3 l31a_3 c31a_3)) w26 (.string s38_3) w26/\∃ s40_3:ByteArray,Ru (convert 88 9 (.slice a1 l1 c1)) w26 (.string s40_3) w26/\k_3 [.bool (!((ByteArray.toList s38_3)==(ByteArray.toList s40_3)))] w26)) fun x_3 w27 =>
 ∃ b42_3:Bool,nth x_3 0=.bool b42_3/\(bif b42_3 then
 ∃ g43_3:Array Value,Al (Instr.build 183 #[]) (.agg g43_3)/\∃ w28:World,YE 183 q4 (.agg g43_3) w27 w28/\∃ gR4_7:Array Value,YD 183 q4 w28 (.agg gR4_7)/\K (.tuple #[.agg gR4_7,.int .i64 8]) w28
 else
 ∃ g44_3:Array Value,YD 183 q6_3 w27 (.agg g44_3)/\∃ w29:World,YE 183 q4 (.agg g44_3) w27 w29/\∃ gR4_8:Array Value,YD 183 q4 w29 (.agg gR4_8)/\K (.tuple #[.agg gR4_8,.int .i64 0]) w29)))/\(∃ q6_4:Addr,∃ w30:World,Ru (Instr.alloc 183 true (.tuple #[])) (drew w3) (.pointer (some q6_4)) w30/\YC F_leveeref01_Get #[.slice a18 l18 c18] w30 fun r19_2 w31=>∃ n19_2:Int,r19_2=.int .u64 n19_2/\YC F_leveeref01_Lent #[.slice a22 l22 c22] w31 fun r23_3 w32=>∃ (a23_3:YB) (l23_3 c23_3:Nat),r23_3=.slice a23_3 l23_3 c23_3/\YC F_leveeref01_Lent #[.slice a25 l25 c25] w32 fun r26_4 w33=>∃ (a26_4:YB) (l26_4 c26_4:Nat),r26_4=.slice a26_4 l26_4 c26_4/\∃ g27_4:Array Value,Al (Instr.build 183 #[(0,.int .i64 (IntKind.i64.wrap n19_2)),(1,.slice a23_3 l23_3 c23_3),(2,.slice a26_4 l26_4 c26_4)]) (.agg g27_4)/\∃ w34:World,YE 183 q6_4 (.agg g27_4) w33 w34/\∃ g29_4:Array Value,YD 40 q2 w34 (.agg g29_4)/\∃ g30_4:Array Value,YD 183 q6_4 w34 (.agg g30_4)/\YC F_leveeref06_Put #[.agg g29_4,.agg g30_4] w34 fun r31_4 w35=>∃ (a31a_4:YB) (l31a_4 c31a_4:Nat),∃ n31b_4:Int,r31_4=.tuple #[.slice a31a_4 l31a_4 c31a_4,.int .i64 n31b_4]/\Share (fun k_4=>(bif n31b_4 != 0 then k_4 [.bool true] w35 else ∃ s38_4:ByteArray,Ru (convert 88 9 (.slice a31a_4 l31a_4 c31a_4)) w35 (.string s38_4) w35/\∃ s40_4:ByteArray,Ru (convert 88 9 (.slice a1 l1 c1)) w35 (.string s40_4) w35/\k_4 [.bool (!((ByteArray.toList s38_4)==(ByteArray.toList s40_4)))] w35)) fun x_4 w36 =>
 ∃ b42_4:Bool,nth x_4 0=.bool b42_4/\(bif b42_4 then
 ∃ g43_4:Array Value,Al (Instr.build 183 #[]) (.agg g43_4)/\∃ w37:World,YE 183 q4 (.agg g43_4) w36 w37/\∃ gR4_9:Array Value,YD 183 q4 w37 (.agg gR4_9)/\K (.tuple #[.agg gR4_9,.int .i64 8]) w37
 else
 ∃ g44_4:Array Value,YD 183 q6_4 w36 (.agg g44_4)/\∃ w38:World,YE 183 q4 (.agg g44_4) w36 w38/\∃ gR4_10:Array Value,YD 183 q4 w38 (.agg gR4_10)/\K (.tuple #[.agg gR4_10,.int .i64 0]) w38))))
theorem C_leveeref06_Get (g0:Array Value) (a1:YB) (l1 c1:Nat) (w0:World) (K:YA) (h:D_leveeref06_Get g0 a1 l1 c1 w0 K):Cal Tryz.prog F_leveeref06_Get #[.agg g0,.slice a1 l1 c1] w0 K :=
 denF_of (A:=⟨[42],[(42,4)],[]⟩) Tryz.func182 (by kernel_rfl) (by kernel_rfl) (by kernel_rfl) h
def D_leveeref06_Right (g0:Array Value) (g1:Array Value) (w0:World) (K:YA):Prop :=
 ∃ q2:Addr,∃ w1:World,Ru (Instr.box 40 (.agg g0)) w0 (.pointer (some q2)) w1/\∃ q3:Addr,∃ w2:World,Ru (Instr.box 183 (.agg g1)) w1 (.pointer (some q3)) w2/\Share (fun k=>∃ g8:Array Value,YD 40 q2 w2 (.agg g8)/\YC F_leveeref03_Right #[.agg g8] w2 fun r9 w3=>∃ b9:Bool,r9=.bool b9/\(bif !b9 then k [.bool true] w3 else ∃ n13:Int,YD 3 (Addr.add q3 0) w3 (.int .i64 n13)/\(bif decide (n13<0) then k [.bool true] w3 else ∃ n18:Int,YD 3 (Addr.add q3 0) w3 (.int .i64 n18)/\∃ n20:Int,YD 3 (Addr.add q2 2) w3 (.int .i64 n20)/\(bif decide (n18 >= n20) then k [.bool true] w3 else ∃ (a25:YB) (l25 c25:Nat),YD 88 (Addr.add q3 1) w3 (.slice a25 l25 c25)/\(bif (l25:Int) != 16 then k [.bool true] w3 else ∃ (a31:YB) (l31 c31:Nat),YD 88 (Addr.add q3 2) w3 (.slice a31 l31 c31)/\k [.bool ((l31:Int) != 8)] w3))))) fun x w4 =>
 ∃ b34:Bool,nth x 0=.bool b34/\(bif b34 then
 K (.bool false) w4
 else
 LoopC (fun k_2 x_2 w5 =>
 ∃ n6:Int,nth x_2 1=.int .i64 n6/\(bif decide (n6<128) then
 Share (fun k_3=>∃ n41:Int,YD 3 (Addr.add q2 1) w5 (.int .i64 n41)/\(bif decide (n6<(IntKind.i64.wrap (1+(IntKind.i64.wrap (Int.tdiv n41 4))))) then ∃ (a47:YB) (l47 c47:Nat),YD 88 (Addr.add q3 1) w5 (.slice a47 l47 c47)/\YC F_leveeref05_Get #[.slice a47 l47 c47,.int .i64 n6] w5 fun r49 w6=>∃ b49:Bool,r49=.bool b49/\(bif !b49 then k_3 [.bool true] w6 else ∃ n55:Int,YD 3 (Addr.add q2 0) w6 (.int .i64 n55)/\(bif decide (n6 >= n55) then ∃ (a59:YB) (l59 c59:Nat),YD 88 (Addr.add q3 1) w6 (.slice a59 l59 c59)/\YC F_leveeref05_Get #[.slice a59 l59 c59,.int .i64 n6] w6 fun r61 w7=>∃ b61:Bool,r61=.bool b61/\k_3 [.bool b61] w7 else k_3 [.bool false] w6)) else ∃ n55_2:Int,YD 3 (Addr.add q2 0) w5 (.int .i64 n55_2)/\(bif decide (n6 >= n55_2) then ∃ (a59_2:YB) (l59_2 c59_2:Nat),YD 88 (Addr.add q3 1) w5 (.slice a59_2 l59_2 c59_2)/\YC F_leveeref05_Get #[.slice a59_2 l59_2 c59_2,.int .i64 n6] w5 fun r61_2 w8=>∃ b61_2:Bool,r61_2=.bool b61_2/\k_3 [.bool b61_2] w8 else k_3 [.bool false] w5))) fun x_3 w9 =>
 ∃ b63:Bool,nth x_3 0=.bool b63/\Share (fun k_4=>(bif b63 then
 k_4 [.bool false] w9
 else
 k_4 [nth x_2 0] w9)) fun x_4 w10 =>
 k_2 [nth x_4 0,.int .i64 (IntKind.i64.wrap (n6+1)),.bool b63] w10
 else
 LoopC (fun k_5 x_5 w11 =>
 ∃ n7:Int,nth x_5 1=.int .i64 n7/\(bif decide (n7<64) then
 Share (fun k_6=>∃ n70:Int,YD 3 (Addr.add q2 1) w11 (.int .i64 n70)/\(bif decide (n7 >= n70) then ∃ (a74:YB) (l74 c74:Nat),YD 88 (Addr.add q3 2) w11 (.slice a74 l74 c74)/\YC F_leveeref05_Get #[.slice a74 l74 c74,.int .i64 n7] w11 fun r76 w12=>∃ b76:Bool,r76=.bool b76/\(bif b76 then k_6 [.bool true] w12 else ∃ n80:Int,YD 3 (Addr.add q3 0) w12 (.int .i64 n80)/\(bif n80==0 then (bif decide (n7<2) then ∃ (a88:YB) (l88 c88:Nat),YD 88 (Addr.add q3 2) w12 (.slice a88 l88 c88)/\YC F_leveeref05_Get #[.slice a88 l88 c88,.int .i64 n7] w12 fun r90 w13=>∃ b90:Bool,r90=.bool b90/\k_6 [.bool (!b90)] w13 else k_6 [.bool false] w12) else k_6 [.bool false] w12)) else ∃ n80_2:Int,YD 3 (Addr.add q3 0) w11 (.int .i64 n80_2)/\(bif n80_2==0 then (bif decide (n7<2) then ∃ (a88_2:YB) (l88_2 c88_2:Nat),YD 88 (Addr.add q3 2) w11 (.slice a88_2 l88_2 c88_2)/\YC F_leveeref05_Get #[.slice a88_2 l88_2 c88_2,.int .i64 n7] w11 fun r90_2 w14=>∃ b90_2:Bool,r90_2=.bool b90_2/\k_6 [.bool (!b90_2)] w14 else k_6 [.bool false] w11) else k_6 [.bool false] w11))) fun x_6 w15 =>
 ∃ b93:Bool,nth x_6 0=.bool b93/\Share (fun k_7=>(bif b93 then
 k_7 [.bool false] w15
 else
 k_7 [nth x_5 0] w15)) fun x_7 w16 =>
 k_5 [nth x_7 0,.int .i64 (IntKind.i64.wrap (n7+1)),.bool b93] w16
 else
 ∃ b5:Bool,nth x_5 0=.bool b5/\K (.bool b5) w11)) [nth x_2 0,.int .i64 0,undef] w5)) [.bool true,.int .i64 0,undef] w4)
theorem C_leveeref06_Right (g0:Array Value) (g1:Array Value) (w0:World) (K:YA) (h:D_leveeref06_Right g0 g1 w0 K):Cal Tryz.prog F_leveeref06_Right #[.agg g0,.agg g1] w0 K :=
 denF_of (A:=⟨[5,6,7,34,63,93],[(5,4),(6,3),(7,3),(34,4),(63,4),(93,4)],[]⟩) Tryz.func183 (by kernel_rfl) (by kernel_rfl) (by kernel_rfl) h
def D_leveeref05_Count (a0:YB) (l0 c0:Nat) (n1:Int) (w0:World) (K:YA):Prop :=
 LoopC (fun k x w1 =>
 ∃ n6:Int,nth x 1=.int .i64 n6/\YC F_leveeref05_most #[.slice a0 l0 c0,.int .i64 n1] w1 fun r10 w2=>∃ n10:Int,r10=.int .i64 n10/\(bif decide (n6<n10) then
 YC F_leveeref05_Get #[.slice a0 l0 c0,.int .i64 n6] w2 fun r16 w3=>∃ b16:Bool,r16=.bool b16/\Share (fun k_2=>(bif b16 then
 ∃ n5:Int,nth x 0=.int .i64 n5/\k_2 [.int .i64 (IntKind.i64.wrap (n5+1))] w3
 else
 k_2 [nth x 0] w3)) fun x_2 w4 =>
 k [nth x_2 0,.int .i64 (IntKind.i64.wrap (n6+1))] w4
 else
 ∃ n5_2:Int,nth x 0=.int .i64 n5_2/\K (.int .i64 n5_2) w2)) [.int .i64 0,.int .i64 0] w0
theorem C_leveeref05_Count (a0:YB) (l0 c0:Nat) (n1:Int) (w0:World) (K:YA) (h:D_leveeref05_Count a0 l0 c0 n1 w0 K):Cal Tryz.prog F_leveeref05_Count #[.slice a0 l0 c0,.int .i64 n1] w0 K :=
 denF_of (A:=⟨[5,6],[(5,3),(6,3)],[]⟩) Tryz.func184 (by kernel_rfl) (by kernel_rfl) (by kernel_rfl) h
def D_leveeref01_Lay (a0:YB) (l0 c0:Nat) (n1:Int) (a2:YB) (l2 c2:Nat) (w0:World) (K:YA):Prop :=
 Share (fun k=>(bif decide (n1<0) then k [.bool true] w0 else (bif decide (n1 > (l0:Int)) then k [.bool true] w0 else k [.bool (decide ((l2:Int) > (IntKind.i64.wrap ((l0:Int)-n1))))] w0))) fun x w1 =>
 ∃ b25:Bool,nth x 0=.bool b25/\(bif b25 then
 K (.tuple #[.slice none 0 0,.int .i64 3]) w1
 else
 ∃ (a29:YB) (l29 c29:Nat),Al (Instr.sliceAt 88 (.slice a0 l0 c0) none (some (.int .i64 n1)) none) (.slice a29 l29 c29)/\∃ (a30:YB) (l30 c30:Nat),∃ w2:World,Ru (Builtin.append_ #[88,88] 88 #[.slice none 0 0,.slice a29 l29 c29]) w1 (.slice a30 l30 c30) w2/\∃ (a33:YB) (l33 c33:Nat),∃ w3:World,Ru (Builtin.append_ #[88,88] 88 #[.slice a30 l30 c30,.slice a2 l2 c2]) w2 (.slice a33 l33 c33) w3/\∃ (a40:YB) (l40 c40:Nat),Al (Instr.sliceAt 88 (.slice a0 l0 c0) (some (.int .i64 (IntKind.i64.wrap (n1+(l2:Int))))) none none) (.slice a40 l40 c40)/\∃ (a41:YB) (l41 c41:Nat),∃ w4:World,Ru (Builtin.append_ #[88,88] 88 #[.slice a33 l33 c33,.slice a40 l40 c40]) w3 (.slice a41 l41 c41) w4/\K (.tuple #[.slice a41 l41 c41,.int .i64 0]) w4)
theorem C_leveeref01_Lay (a0:YB) (l0 c0:Nat) (n1:Int) (a2:YB) (l2 c2:Nat) (w0:World) (K:YA) (h:D_leveeref01_Lay a0 l0 c0 n1 a2 l2 c2 w0 K):Cal Tryz.prog F_leveeref01_Lay #[.slice a0 l0 c0,.int .i64 n1,.slice a2 l2 c2] w0 K :=
 denF_of (A:=⟨[25],[(25,4)],[]⟩) Tryz.func186 (by kernel_rfl) (by kernel_rfl) (by kernel_rfl) h
def D_bits_First (a0:YB) (l0 c0:Nat) (n1:Int) (n2:Int) (w0:World) (K:YA):Prop :=
 Share (fun k=>(bif decide (n2<0) then k [.bool true] w0 else k [.bool (decide (n2 > n1))] w0)) fun x w1 =>
 ∃ b16:Bool,nth x 0=.bool b16/\Share (fun k_2=>(bif b16 then
 k_2 [.int .i64 0] w1
 else
 k_2 [.int .i64 n2] w1)) fun x_2 w2 =>
 YC F_bits_most #[.slice a0 l0 c0,.int .i64 n1] w2 fun r19 w3=>∃ n19:Int,r19=.int .i64 n19/\LoopC (fun k_3 x_3 w4 =>
 ∃ n21:Int,nth x_3 1=.int .i64 n21/\(bif decide (n21<n19) then
 Share (fun k_4=>YC F_bits_Get #[.slice a0 l0 c0,.int .i64 n21] w4 fun r26 w5=>∃ b26:Bool,r26=.bool b26/\(bif b26 then
 k_4 [nth x_3 0] w5
 else
 ∃ n2_2:Int,nth x_2 0=.int .i64 n2_2/\(bif decide (n21 >= n2_2) then
 K (.int .i64 n21) w5
 else
 ∃ n8:Int,nth x_3 0=.int .i64 n8/\Share (fun k_5=>(bif decide (n8<0) then
 k_5 [.int .i64 n21] w5
 else
 k_5 [.int .i64 n8] w5)) fun x_5 w6 =>
 k_4 [nth x_5 0] w6))) fun x_4 w7 =>
 k_3 [nth x_4 0,.int .i64 (IntKind.i64.wrap (n21+1))] w7
 else
 ∃ n8_2:Int,nth x_3 0=.int .i64 n8_2/\K (.int .i64 n8_2) w4)) [.int .i64 ((-1)),.int .i64 0] w3
theorem C_bits_First (a0:YB) (l0 c0:Nat) (n1:Int) (n2:Int) (w0:World) (K:YA) (h:D_bits_First a0 l0 c0 n1 n2 w0 K):Cal Tryz.prog F_bits_First #[.slice a0 l0 c0,.int .i64 n1,.int .i64 n2] w0 K :=
 denF_of (A:=⟨[2,8,16,21],[(2,3),(8,3),(16,4),(21,3)],[]⟩) Tryz.func187 (by kernel_rfl) (by kernel_rfl) (by kernel_rfl) h
def D_group_may (g0:Array Value) (g1:Array Value) (n2:Int) (n3:Int) (n4:Int) (w0:World) (K:YA):Prop :=
 ∃ q5:Addr,∃ w1:World,Ru (Instr.box 40 (.agg g0)) w0 (.pointer (some q5)) w1/\∃ q6:Addr,∃ w2:World,Ru (Instr.box 119 (.agg g1)) w1 (.pointer (some q6)) w2/\∃ g12:Array Value,YD 40 q5 w2 (.agg g12)/\∃ g13:Array Value,YD 119 q6 w2 (.agg g13)/\YC F_group_Right #[.agg g12,.agg g13] w2 fun r14 w3=>∃ b14:Bool,r14=.bool b14/\(bif !b14 then
 K (.int .i64 1) w3
 else
 Share (fun k=>(bif decide (n2<n3) then k [.bool true] w3 else k [.bool (decide (n2 >= n4))] w3)) fun x w4 =>
 ∃ b16:Bool,nth x 0=.bool b16/\(bif b16 then
 K (.int .i64 3) w4
 else
 K (.int .i64 0) w4))
theorem C_group_may (g0:Array Value) (g1:Array Value) (n2:Int) (n3:Int) (n4:Int) (w0:World) (K:YA) (h:D_group_may g0 g1 n2 n3 n4 w0 K):Cal Tryz.prog F_group_may #[.agg g0,.agg g1,.int .i64 n2,.int .i64 n3,.int .i64 n4] w0 K :=
 denF_of (A:=⟨[16],[(16,4)],[]⟩) Tryz.func188 (by kernel_rfl) (by kernel_rfl) (by kernel_rfl) h
def D_group_use (a0:YB) (l0 c0:Nat) (n1:Int) (b2:Bool) (w0:World) (K:YA):Prop :=
 YC F_bits_Get #[.slice a0 l0 c0,.int .i64 n1] w0 fun r11 w1=>∃ b11:Bool,r11=.bool b11/\(bif b11==b2 then
 K (.int .i64 6) w1
 else
 YC F_bits_Set #[.slice a0 l0 c0,.int .i64 n1,.bool b2] w1 fun r18 w2=>∃ (a18a:YB) (l18a c18a:Nat),∃ n18b:Int,r18=.tuple #[.slice a18a l18a c18a,.int .i64 n18b]/\∃ n23:Int,∃ w3:World,Ru (Builtin.copy_ #[88,88] 3 #[.slice a0 l0 c0,.slice a18a l18a c18a]) w2 (.int .i64 n23) w3/\K (.int .i64 0) w3)
theorem C_group_use (a0:YB) (l0 c0:Nat) (n1:Int) (b2:Bool) (w0:World) (K:YA) (h:D_group_use a0 l0 c0 n1 b2 w0 K):Cal Tryz.prog F_group_use #[.slice a0 l0 c0,.int .i64 n1,.bool b2] w0 K :=
 denF_of (A:=⟨[],[],[]⟩) Tryz.func189 (by kernel_rfl) (by kernel_rfl) (by kernel_rfl) h
def D_geo_whole (g0:Array Value) (w0:World) (K:YA):Prop :=
 ∃ q1:Addr,∃ w1:World,Ru (Instr.box 40 (.agg g0)) w0 (.pointer (some q1)) w1/\∃ q2:Addr,∃ w2:World,Ru (Instr.alloc 40 true (.tuple #[])) w1 (.pointer (some q2)) w2/\Share (fun k=>∃ n5:Int,YD 3 (Addr.add q1 0) w2 (.int .i64 n5)/\YC F_geo_within #[.int .i64 n5,.int .i64 16,.int .i64 128] w2 fun r6 w3=>∃ b6:Bool,r6=.bool b6/\(bif !b6 then k [.bool true] w3 else ∃ n10:Int,YD 3 (Addr.add q1 2) w3 (.int .i64 n10)/\YC F_geo_within #[.int .i64 n10,.int .i64 1,.int .i64 16] w3 fun r11 w4=>∃ b11:Bool,r11=.bool b11/\k [.bool (!b11)] w4)) fun x w5 =>
 ∃ b3:Bool,nth x 0=.bool b3/\(bif b3 then
 ∃ g14:Array Value,Al (Instr.build 40 #[]) (.agg g14)/\∃ w6:World,YE 40 q2 (.agg g14) w5 w6/\∃ gR2:Array Value,YD 40 q2 w6 (.agg gR2)/\K (.agg gR2) w6
 else
 Share (fun k_2=>∃ n17:Int,YD 3 (Addr.add q1 1) w5 (.int .i64 n17)/\YC F_geo_within #[.int .i64 n17,.int .i64 4,.int .i64 64] w5 fun r18 w7=>∃ b18:Bool,r18=.bool b18/\(bif !b18 then k_2 [.bool true] w7 else ∃ n22:Int,YD 3 (Addr.add q1 1) w7 (.int .i64 n22)/\k_2 [.bool ((Int.tmod n22 4) != 0)] w7)) fun x_2 w8 =>
 ∃ b15:Bool,nth x_2 0=.bool b15/\(bif b15 then
 ∃ g26:Array Value,Al (Instr.build 40 #[]) (.agg g26)/\∃ w9:World,YE 40 q2 (.agg g26) w8 w9/\∃ gR2_2:Array Value,YD 40 q2 w9 (.agg gR2_2)/\K (.agg gR2_2) w9
 else
 Share (fun k_3=>∃ n29:Int,YD 3 (Addr.add q1 0) w8 (.int .i64 n29)/\∃ n32:Int,YD 3 (Addr.add q1 1) w8 (.int .i64 n32)/\(bif decide ((IntKind.i64.wrap ((IntKind.i64.wrap (n29-1))-(IntKind.i64.wrap (Int.tdiv n32 4))))<4) then k_3 [.bool true] w8 else ∃ n38:Int,YD 3 (Addr.add q1 2) w8 (.int .i64 n38)/\∃ n40:Int,YD 3 (Addr.add q1 0) w8 (.int .i64 n40)/\k_3 [.bool (decide ((IntKind.i64.wrap (2+(IntKind.i64.wrap (n38*n40)))) > 4096))] w8)) fun x_3 w10 =>
 ∃ b27:Bool,nth x_3 0=.bool b27/\(bif b27 then
 ∃ g45:Array Value,Al (Instr.build 40 #[]) (.agg g45)/\∃ w11:World,YE 40 q2 (.agg g45) w10 w11/\∃ gR2_3:Array Value,YD 40 q2 w11 (.agg gR2_3)/\K (.agg gR2_3) w11
 else
 ∃ g46:Array Value,YD 40 q1 w10 (.agg g46)/\∃ w12:World,YE 40 q2 (.agg g46) w10 w12/\∃ gR2_4:Array Value,YD 40 q2 w12 (.agg gR2_4)/\K (.agg gR2_4) w12)))
theorem C_geo_whole (g0:Array Value) (w0:World) (K:YA) (h:D_geo_whole g0 w0 K):Cal Tryz.prog F_geo_whole #[.agg g0] w0 K :=
 denF_of (A:=⟨[3,15,27],[(3,4),(15,4),(27,4)],[]⟩) Tryz.func190 (by kernel_rfl) (by kernel_rfl) (by kernel_rfl) h
def D_num_Get (a0:YB) (l0 c0:Nat) (w0:World) (K:YA):Prop :=
 LoopC (fun k x w1 =>
 ∃ n8:Int,nth x 1=.int .i64 n8/\(bif decide (n8<(if 8<(l0:Int) then 8 else (l0:Int))) then
 ∃ n3:Int,nth x 0=.int .u64 n3/\∃ q14:Addr,Al (Instr.indexAt 88 (.slice a0 l0 c0) (.int .i64 n8)) (.pointer (some q14))/\∃ n15:Int,YD 5 q14 w1 (.int .u8 n15)/\∃ n19:Int,Al (eqS .shl 270 (.tmp 16) (.tmp 18) (.int .u64 (IntKind.u64.wrap n15)) (.int .i64 (IntKind.i64.wrap (8*n8)))) (.int .u64 n19)/\k [.int .u64 (IntKind.u64.wrap (bvOr 64 n3 n19)),.int .i64 (IntKind.i64.wrap (n8+1))] w1
 else
 ∃ n3_2:Int,nth x 0=.int .u64 n3_2/\K (.int .u64 n3_2) w1)) [.int .u64 0,.int .i64 0] w0
theorem C_num_Get (a0:YB) (l0 c0:Nat) (w0:World) (K:YA) (h:D_num_Get a0 l0 c0 w0 K):Cal Tryz.prog F_num_Get #[.slice a0 l0 c0] w0 K :=
 denF_of (A:=⟨[3,8],[(3,270),(8,3)],[]⟩) Tryz.func191 (by kernel_rfl) (by kernel_rfl) (by kernel_rfl) h
def D_group_Put (g0:Array Value) (g1:Array Value) (w0:World) (K:YA):Prop :=
 ∃ q2:Addr,∃ w1:World,Ru (Instr.box 40 (.agg g0)) w0 (.pointer (some q2)) w1/\∃ q3:Addr,∃ w2:World,Ru (Instr.box 119 (.agg g1)) w1 (.pointer (some q3)) w2/\∃ g11:Array Value,YD 40 q2 w2 (.agg g11)/\∃ g12:Array Value,YD 119 q3 w2 (.agg g12)/\YC F_group_Right #[.agg g11,.agg g12] w2 fun r13 w3=>∃ b13:Bool,r13=.bool b13/\(bif !b13 then
 K (.tuple #[.slice none 0 0,.int .i64 1]) w3
 else
 ∃ (a15:YB) (l15 c15:Nat),∃ w4:World,Ru (Instr.makeSlice 88 (.int .i64 256) (.int .i64 256)) w3 (.slice a15 l15 c15) w4/\∃ n17:Int,∃ w5:World,Ru (Builtin.copy_ #[88,9] 3 #[.slice a15 l15 c15,.string (⟨#[76,71,82,80]⟩)]) w4 (.int .i64 n17) w5/\∃ g19:Array Value,YD 40 q2 w5 (.agg g19)/\∃ g20:Array Value,YD 119 q3 w5 (.agg g20)/\YC F_group_Free #[.agg g19,.agg g20] w5 fun r21 w6=>∃ n21a:Int,∃ n21b:Int,r21=.tuple #[.int .i64 n21a,.int .i64 n21b]/\∃ n25:Int,YD 3 (Addr.add q3 0) w6 (.int .i64 n25)/\∃ g28:Array Value,Al (Instr.build 312 #[(0,.int .i64 n25),(1,.int .i64 n21a),(2,.int .i64 n21b)]) (.agg g28)/\LoopC (fun k x w7 =>
 ∃ n29:Int,nth x 0=.int .i64 n29/\(bif decide (n29<3) then
 ∃ n32:Int,Al (Instr.index 312 (.agg g28) (.int .i64 n29)) (.int .i64 n32)/\∃ (a41:YB) (l41 c41:Nat),Al (Instr.sliceAt 88 (.slice a15 l15 c15) (some (.int .i64 (IntKind.i64.wrap (4+(IntKind.i64.wrap (n29*2)))))) (some (.int .i64 (IntKind.i64.wrap (4+(IntKind.i64.wrap ((IntKind.i64.wrap (n29+1))*2)))))) none) (.slice a41 l41 c41)/\YC F_num_Put #[.slice a41 l41 c41,.int .u64 (IntKind.u64.wrap n32)] w7 fun r44 w8=>r44=.tuple #[]/\k [.int .i64 (IntKind.i64.wrap (n29+1))] w8
 else
 ∃ (a47:YB) (l47 c47:Nat),Al (Instr.sliceAt 88 (.slice a15 l15 c15) (some (.int .i64 16)) none none) (.slice a47 l47 c47)/\∃ (a49:YB) (l49 c49:Nat),Al (Instr.sliceAt 116 (.pointer (some (Addr.add q3 1))) none none none) (.slice a49 l49 c49)/\∃ n50:Int,∃ w9:World,Ru (Builtin.copy_ #[88,88] 3 #[.slice a47 l47 c47,.slice a49 l49 c49]) (drew w7) (.int .i64 n50) w9/\∃ (a52:YB) (l52 c52:Nat),Al (Instr.sliceAt 88 (.slice a15 l15 c15) (some (.int .i64 32)) none none) (.slice a52 l52 c52)/\∃ (a54:YB) (l54 c54:Nat),Al (Instr.sliceAt 117 (.pointer (some (Addr.add q3 17))) none none none) (.slice a54 l54 c54)/\∃ n55:Int,∃ w10:World,Ru (Builtin.copy_ #[88,88] 3 #[.slice a52 l52 c52,.slice a54 l54 c54]) (drew w9) (.int .i64 n55) w10/\K (.tuple #[.slice a15 l15 c15,.int .i64 0]) w10)) [.int .i64 0] w6)
theorem C_group_Put (g0:Array Value) (g1:Array Value) (w0:World) (K:YA) (h:D_group_Put g0 g1 w0 K):Cal Tryz.prog F_group_Put #[.agg g0,.agg g1] w0 K :=
 denF_of (A:=⟨[29],[(29,3)],[]⟩) Tryz.func192 (by kernel_rfl) (by kernel_rfl) (by kernel_rfl) h
def D_num_Diff (a0:YB) (l0 c0:Nat) (a1:YB) (l1 c1:Nat) (w0:World) (K:YA):Prop :=
 LoopC (fun k x w1 =>
 ∃ n14:Int,nth x 2=.int .i64 n14/\(bif decide (n14<(if (l1:Int) > (l0:Int) then (l1:Int) else (l0:Int))) then
 Share (fun k_2=>Share (fun k_3=>(bif decide (n14<(if (l1:Int)<(l0:Int) then (l1:Int) else (l0:Int))) then ∃ q27:Addr,Al (Instr.indexAt 88 (.slice a0 l0 c0) (.int .i64 n14)) (.pointer (some q27))/\∃ n28:Int,YD 5 q27 (drew w1) (.int .u8 n28)/\∃ q31:Addr,Al (Instr.indexAt 88 (.slice a1 l1 c1) (.int .i64 n14)) (.pointer (some q31))/\∃ n32:Int,YD 5 q31 (drew w1) (.int .u8 n32)/\k_3 [.bool (n28==n32)] (drew w1) else k_3 [.bool false] (drew w1))) fun x_3 w2 =>
 ∃ b34:Bool,nth x_3 0=.bool b34/\(bif b34 then
 k_2 [nth x 0,nth x 1,.bool b34] w2
 else
 ∃ n6:Int,nth x 0=.int .i64 n6/\Share (fun k_4=>(bif decide (n6<0) then
 k_4 [.int .i64 n14] w2
 else
 k_4 [.int .i64 n6] w2)) fun x_4 w3 =>
 k_2 [nth x_4 0,.int .i64 (IntKind.i64.wrap (n14+1)),.bool b34] w3)) fun x_2 w4 =>
 k [nth x_2 0,nth x_2 1,.int .i64 (IntKind.i64.wrap (n14+1)),nth x_2 2] w4
 else
 ∃ n6_2:Int,nth x 0=.int .i64 n6_2/\∃ n7:Int,nth x 1=.int .i64 n7/\K (.tuple #[.int .i64 n6_2,.int .i64 n7]) w1)) [.int .i64 ((-1)),.int .i64 ((-1)),.int .i64 0,undef] w0
theorem C_num_Diff (a0:YB) (l0 c0:Nat) (a1:YB) (l1 c1:Nat) (w0:World) (K:YA) (h:D_num_Diff a0 l0 c0 a1 l1 c1 w0 K):Cal Tryz.prog F_num_Diff #[.slice a0 l0 c0,.slice a1 l1 c1] w0 K :=
 denF_of (A:=⟨[6,7,14,34],[(6,3),(7,3),(14,3),(34,4)],[]⟩) Tryz.func193 (by kernel_rfl) (by kernel_rfl) (by kernel_rfl) h
def D_group_Fresh (g0:Array Value) (n1:Int) (w0:World) (K:YA):Prop :=
 ∃ q2:Addr,∃ w1:World,Ru (Instr.box 40 (.agg g0)) w0 (.pointer (some q2)) w1/\∃ q4:Addr,∃ w2:World,Ru (Instr.alloc 119 true (.tuple #[])) w1 (.pointer (some q4)) w2/\∃ g9:Array Value,YD 40 q2 w2 (.agg g9)/\YC F_geo_Head #[.agg g9,.int .i64 n1] w2 fun r11 w3=>∃ n11a:Int,∃ n11b:Int,r11=.tuple #[.int .i64 n11a,.int .i64 n11b]/\(bif n11b != 0 then
 ∃ g16:Array Value,Al (Instr.build 119 #[]) (.agg g16)/\∃ w4:World,YE 119 q4 (.agg g16) w3 w4/\∃ gR4:Array Value,YD 119 q4 w4 (.agg gR4)/\K (.tuple #[.agg gR4,.int .i64 1]) w4
 else
 ∃ g17:Array Value,YD 40 q2 w3 (.agg g17)/\YC F_group_base #[.agg g17,.int .i64 n1] w3 fun r19 w5=>∃ g19:Array Value,r19=.agg g19/\∃ w6:World,YE 119 q4 (.agg g19) w5 w6/\∃ gR4_2:Array Value,YD 119 q4 w6 (.agg gR4_2)/\K (.tuple #[.agg gR4_2,.int .i64 0]) w6)
theorem C_group_Fresh (g0:Array Value) (n1:Int) (w0:World) (K:YA) (h:D_group_Fresh g0 n1 w0 K):Cal Tryz.prog F_group_Fresh #[.agg g0,.int .i64 n1] w0 K :=
 denF_of (A:=⟨[],[],[]⟩) Tryz.func194 (by kernel_rfl) (by kernel_rfl) (by kernel_rfl) h
def D_bits_most (a0:YB) (l0 c0:Nat) (n1:Int) (w0:World) (K:YA):Prop :=
 K (.int .i64 (if (IntKind.i64.wrap (8*(l0:Int)))<(if 0 > n1 then 0 else n1) then (IntKind.i64.wrap (8*(l0:Int))) else (if 0 > n1 then 0 else n1))) w0
theorem C_bits_most (a0:YB) (l0 c0:Nat) (n1:Int) (w0:World) (K:YA) (h:D_bits_most a0 l0 c0 n1 w0 K):Cal Tryz.prog F_bits_most #[.slice a0 l0 c0,.int .i64 n1] w0 K :=
 denF_of (A:=⟨[],[],[]⟩) Tryz.func195 (by kernel_rfl) (by kernel_rfl) (by kernel_rfl) h
def D_disk_Disk_may (p0:YB) (n1:Int) (w0:World) (K:YA):Prop :=
 (bif Option.isNone p0 then
 K (.int .i64 2) w0
 else
 Share (fun k=>(bif decide (n1<0) then k [.bool true] w0 else ∃ q14:Addr,(.pointer p0:Value)=.pointer (some q14)/\∃ (a16:YB) (l16 c16:Nat),YD 206 (Addr.add q14 0) w0 (.slice a16 l16 c16)/\k [.bool (decide (n1 >= (l16:Int)))] w0)) fun x w1 =>
 ∃ b8:Bool,nth x 0=.bool b8/\(bif b8 then
 K (.int .i64 3) w1
 else
 K (.int .i64 0) w1))
theorem C_disk_Disk_may (p0:YB) (n1:Int) (w0:World) (K:YA) (h:D_disk_Disk_may p0 n1 w0 K):Cal Tryz.prog F_disk_Disk_may #[.pointer p0,.int .i64 n1] w0 K :=
 denF_of (A:=⟨[8],[(8,4)],[]⟩) Tryz.func198 (by kernel_rfl) (by kernel_rfl) (by kernel_rfl) h
def D_disk_Disk_goes (p0:YB) (w0:World) (K:YA):Prop :=
 ∃ q4:Addr,(.pointer p0:Value)=.pointer (some q4)/\∃ n6:Int,YD 3 (Addr.add q4 2) w0 (.int .i64 n6)/\(bif n6==0 then
 K (.bool false) w0
 else
 ∃ q10:Addr,(.pointer p0:Value)=.pointer (some q10)/\∃ n12:Int,YD 3 (Addr.add q10 2) w0 (.int .i64 n12)/\∃ q15:Addr,(.pointer p0:Value)=.pointer (some q15)/\∃ w1:World,YE 3 (Addr.add q15 2) (.int .i64 (if (-1) > (IntKind.i64.wrap (n12-1)) then (-1) else (IntKind.i64.wrap (n12-1)))) w0 w1/\K (.bool true) w1)
theorem C_disk_Disk_goes (p0:YB) (w0:World) (K:YA) (h:D_disk_Disk_goes p0 w0 K):Cal Tryz.prog F_disk_Disk_goes #[.pointer p0] w0 K :=
 denF_of (A:=⟨[],[],[]⟩) Tryz.func199 (by kernel_rfl) (by kernel_rfl) (by kernel_rfl) h
def D_disk_Disk_Open (p0:YB) (w0:World) (K:YA):Prop :=
 (bif Option.isNone p0 then
 K (.slice none 0 0) w0
 else
 ∃ q8:Addr,(.pointer p0:Value)=.pointer (some q8)/\∃ m10:Option Nat,YD 207 (Addr.add q8 1) w0 (.map m10)/\∃ q11:Addr,∃ w1:World,Ru (Instr.range 207 (.map m10)) w0 (.pointer (some q11)) w1/\LoopC (fun k x w2 =>
 ∃ v12:Value,∃ w3:World,Ru (Instr.next (.pointer (some q11)) false 0) w2 v12 w3/\∃ b13:Bool,Al (Instr.extract v12 0) (.bool b13)/\(bif b13 then
 ∃ v14:Value,Ru (Instr.entry (.pointer (some q11))) w3 v14 w3/\∃ n15:Int,Al (Instr.extract v14 0) (.int .i64 n15)/\∃ (a3:YB) (l3 c3:Nat),nth x 0=.slice a3 l3 c3/\∃ (a18:YB) (l18 c18:Nat),∃ w4:World,Ru (Instr.buildSlice 80 1 #[(0,.int .i64 n15)]) w3 (.slice a18 l18 c18) w4/\∃ (a19:YB) (l19 c19:Nat),∃ w5:World,Ru (Builtin.append_ #[80,80] 80 #[.slice a3 l3 c3,.slice a18 l18 c18]) w4 (.slice a19 l19 c19) w5/\k [.slice a19 l19 c19] w5
 else
 ∃ (a3_2:YB) (l3_2 c3_2:Nat),nth x 0=.slice a3_2 l3_2 c3_2/\YC F_slices_Sort_int #[.slice a3_2 l3_2 c3_2] w3 fun r21 w6=>r21=.tuple #[]/\K (.slice a3_2 l3_2 c3_2) w6)) [.slice none 0 0] w1)
theorem C_disk_Disk_Open (p0:YB) (w0:World) (K:YA) (h:D_disk_Disk_Open p0 w0 K):Cal Tryz.prog F_disk_Disk_Open #[.pointer p0] w0 K :=
 denF_of (A:=⟨[3],[(3,80)],[12,14]⟩) Tryz.func200 (by kernel_rfl) (by kernel_rfl) (by kernel_rfl) h
def D_disk_Disk_last (p0:YB) (n1:Int) (w0:World) (K:YA):Prop :=
 ∃ q4:Addr,∃ w1:World,Ru (Instr.alloc 278 true (.tuple #[])) w0 (.pointer (some q4)) w1/\∃ q7:Addr,(.pointer p0:Value)=.pointer (some q7)/\∃ m9:Option Nat,YD 207 (Addr.add q7 1) w1 (.map m9)/\∃ (a11:YB) (l11 c11:Nat),Ru (Instr.lookup 207 (.map m9) (.int .i64 n1) false) w1 (.slice a11 l11 c11) w1/\(bif decide ((l11:Int) > 0) then
 ∃ q19:Addr,Al (Instr.indexAt 206 (.slice a11 l11 c11) (.int .i64 (IntKind.i64.wrap ((l11:Int)-1)))) (.pointer (some q19))/\∃ g20:Array Value,YD 278 q19 w1 (.agg g20)/\∃ w2:World,YE 278 q4 (.agg g20) w1 w2/\∃ gR4:Array Value,YD 278 q4 w2 (.agg gR4)/\K (.agg gR4) w2
 else
 ∃ q22:Addr,(.pointer p0:Value)=.pointer (some q22)/\∃ (a24:YB) (l24 c24:Nat),YD 206 (Addr.add q22 0) w1 (.slice a24 l24 c24)/\∃ q26:Addr,Al (Instr.indexAt 206 (.slice a24 l24 c24) (.int .i64 n1)) (.pointer (some q26))/\∃ g27:Array Value,YD 278 q26 w1 (.agg g27)/\∃ w3:World,YE 278 q4 (.agg g27) w1 w3/\∃ gR4_2:Array Value,YD 278 q4 w3 (.agg gR4_2)/\K (.agg gR4_2) w3)
theorem C_disk_Disk_last (p0:YB) (n1:Int) (w0:World) (K:YA) (h:D_disk_Disk_last p0 n1 w0 K):Cal Tryz.prog F_disk_Disk_last #[.pointer p0,.int .i64 n1] w0 K :=
 denF_of (A:=⟨[],[],[]⟩) Tryz.func201 (by kernel_rfl) (by kernel_rfl) (by kernel_rfl) h
def D_inode_Lay (a0:YB) (l0 c0:Nat) (n1:Int) (g2:Array Value) (w0:World) (K:YA):Prop :=
 ∃ q5:Addr,∃ w1:World,Ru (Instr.box 218 (.agg g2)) w0 (.pointer (some q5)) w1/\YC F_inode_may #[.slice a0 l0 c0,.int .i64 n1] w1 fun r13 w2=>∃ n13:Int,r13=.int .i64 n13/\(bif n13 != 0 then
 K (.tuple #[.slice none 0 0,.int .i64 n13]) w2
 else
 ∃ g18:Array Value,YD 218 q5 w2 (.agg g18)/\YC F_inode_Put #[.agg g18] w2 fun r19 w3=>∃ (a19a:YB) (l19a c19a:Nat),∃ n19b:Int,r19=.tuple #[.slice a19a l19a c19a,.int .i64 n19b]/\(bif n19b != 0 then
 K (.tuple #[.slice none 0 0,.int .i64 n19b]) w3
 else
 YC F_num_Lay #[.slice a0 l0 c0,.int .i64 (IntKind.i64.wrap (n1*64)),.slice a19a l19a c19a] w3 fun r29 w4=>∃ (a29a:YB) (l29a c29a:Nat),∃ n29b:Int,r29=.tuple #[.slice a29a l29a c29a,.int .i64 n29b]/\K (.tuple #[.slice a29a l29a c29a,.int .i64 n29b]) w4))
theorem C_inode_Lay (a0:YB) (l0 c0:Nat) (n1:Int) (g2:Array Value) (w0:World) (K:YA) (h:D_inode_Lay a0 l0 c0 n1 g2 w0 K):Cal Tryz.prog F_inode_Lay #[.slice a0 l0 c0,.int .i64 n1,.agg g2] w0 K :=
 denF_of (A:=⟨[],[],[]⟩) Tryz.func202 (by kernel_rfl) (by kernel_rfl) (by kernel_rfl) h
def D_super_Super_right (g0:Array Value) (w0:World) (K:YA):Prop :=
 ∃ q1:Addr,∃ w1:World,Ru (Instr.box 143 (.agg g0)) w0 (.pointer (some q1)) w1/\Share (fun k=>∃ n4:Int,YD 2 (Addr.add q1 0) w1 (.int .i64 n4)/\(bif decide (n4 >= 1) then ∃ n8:Int,YD 2 (Addr.add q1 0) w1 (.int .i64 n8)/\(bif decide (n8<=4611686018427387904) then ∃ g13:Array Value,YD 40 (Addr.add q1 1) w1 (.agg g13)/\YC F_geo_Right #[.agg g13] w1 fun r14 w2=>∃ b14:Bool,r14=.bool b14/\k [.bool b14] w2 else k [.bool false] w1) else k [.bool false] w1)) fun x w3 =>
 ∃ b2:Bool,nth x 0=.bool b2/\K (.bool b2) w3
theorem C_super_Super_right (g0:Array Value) (w0:World) (K:YA) (h:D_super_Super_right g0 w0 K):Cal Tryz.prog F_super_Super_right #[.agg g0] w0 K :=
 denF_of (A:=⟨[2],[(2,4)],[]⟩) Tryz.func203 (by kernel_rfl) (by kernel_rfl) (by kernel_rfl) h
def D_num_Put (a0:YB) (l0 c0:Nat) (n1:Int) (w0:World) (K:YA):Prop :=
 LoopC (fun k x w1 =>
 ∃ n7:Int,nth x 1=.int .i64 n7/\(bif decide (n7<(l0:Int)) then
 ∃ n1_2:Int,nth x 0=.int .u64 n1_2/\∃ q14:Addr,Al (Instr.indexAt 88 (.slice a0 l0 c0) (.int .i64 n7)) (.pointer (some q14))/\∃ w2:World,YE 5 q14 (.int .u8 (IntKind.u8.wrap n1_2)) w1 w2/\k [.int .u64 (Int.fdiv n1_2 256),.int .i64 (IntKind.i64.wrap (n7+1))] w2
 else
 K (.tuple #[]) w1)) [.int .u64 n1,.int .i64 0] w0
theorem C_num_Put (a0:YB) (l0 c0:Nat) (n1:Int) (w0:World) (K:YA) (h:D_num_Put a0 l0 c0 n1 w0 K):Cal Tryz.prog F_num_Put #[.slice a0 l0 c0,.int .u64 n1] w0 K :=
 denF_of (A:=⟨[1,7],[(1,270),(7,3)],[]⟩) Tryz.func204 (by kernel_rfl) (by kernel_rfl) (by kernel_rfl) h
def D_num_Sum (a0:YB) (l0 c0:Nat) (w0:World) (K:YA):Prop :=
 ∃ q3:Addr,∃ w1:World,Ru (Instr.alloc 318 true (.tuple #[])) w0 (.pointer (some q3)) w1/\LoopC (fun k x w2 =>
 ∃ n9:Int,nth x 1=.int .i64 n9/\(bif decide (n9<16) then
 LoopC (fun k_2 x_2 w3 =>
 ∃ n14:Int,nth x_2 1=.int .i64 n14/\(bif decide (n14<4) then
 ∃ n5:Int,nth x_2 0=.int .u32 n5/\k_2 [.int .u32 (IntKind.u32.wrap (bvXor 32 (Int.fdiv n5 2) (IntKind.u32.wrap (3988292384*(IntKind.u32.wrap (bvAnd 32 n5 1)))))),.int .i64 (IntKind.i64.wrap (n14+1))] w3
 else
 ∃ n5_2:Int,nth x_2 0=.int .u32 n5_2/\∃ q25:Addr,Al (Instr.indexAt 318 (.pointer (some q3)) (.int .i64 n9)) (.pointer (some q25))/\∃ w4:World,YE 283 q25 (.int .u32 n5_2) w3 w4/\k [.int .u32 n5_2,.int .i64 (IntKind.i64.wrap (n9+1)),.int .i64 n14] w4)) [.int .u32 (IntKind.u32.wrap n9),.int .i64 0] w2
 else
 LoopC (fun k_3 x_3 w5 =>
 ∃ n29:Int,nth x_3 1=.int .i64 n29/\(bif decide (n29<(l0:Int)) then
 ∃ q31:Addr,Al (Instr.indexAt 88 (.slice a0 l0 c0) (.int .i64 n29)) (.pointer (some q31))/\∃ n32:Int,YD 5 q31 w5 (.int .u8 n32)/\∃ n6:Int,nth x_3 0=.int .u32 n6/\∃ q41:Addr,Al (Instr.indexAt 318 (.pointer (some q3)) (.int .u32 (IntKind.u32.wrap (bvAnd 32 (IntKind.u32.wrap (bvXor 32 n6 (IntKind.u32.wrap n32))) 15)))) (.pointer (some q41))/\∃ n42:Int,YD 283 q41 w5 (.int .u32 n42)/\∃ q48:Addr,Al (Instr.indexAt 318 (.pointer (some q3)) (.int .u32 (IntKind.u32.wrap (bvAnd 32 (IntKind.u32.wrap (bvXor 32 (Int.fdiv (IntKind.u32.wrap (bvXor 32 n6 (IntKind.u32.wrap n32))) 16) n42)) 15)))) (.pointer (some q48))/\∃ n49:Int,YD 283 q48 w5 (.int .u32 n49)/\k_3 [.int .u32 (IntKind.u32.wrap (bvXor 32 (Int.fdiv (IntKind.u32.wrap (bvXor 32 (Int.fdiv (IntKind.u32.wrap (bvXor 32 n6 (IntKind.u32.wrap n32))) 16) n42)) 16) n49)),.int .i64 (IntKind.i64.wrap (n29+1))] w5
 else
 ∃ n6_2:Int,nth x_3 0=.int .u32 n6_2/\∃ n53:Int,Al (Op.unary .xor (.int .u32 n6_2)) (.int .u32 n53)/\K (.int .u32 n53) w5)) [.int .u32 4294967295,.int .i64 0] w2)) [undef,.int .i64 0,undef] w1
theorem C_num_Sum (a0:YB) (l0 c0:Nat) (w0:World) (K:YA) (h:D_num_Sum a0 l0 c0 w0 K):Cal Tryz.prog F_num_Sum #[.slice a0 l0 c0] w0 K :=
 denF_of (A:=⟨[5,6,9,14,29],[(5,283),(6,283),(9,3),(14,3),(29,3)],[]⟩) Tryz.func205 (by kernel_rfl) (by kernel_rfl) (by kernel_rfl) h
def D_cache_New (p0:YB) (n1:Int) (w0:World) (K:YA):Prop :=
 (bif Option.isNone p0 then
 K (.tuple #[.pointer none,.int .i64 2]) w0
 else
 Share (fun k=>(bif decide (n1<1) then k [.bool true] w0 else k [.bool (decide (n1 > 4096))] w0)) fun x w1 =>
 ∃ b9:Bool,nth x 0=.bool b9/\(bif b9 then
 K (.tuple #[.pointer none,.int .i64 1]) w1
 else
 ∃ m18:Option Nat,∃ w2:World,Ru (Instr.makeMap 250 none) w1 (.map m18) w2/\∃ g19:Array Value,Al (Instr.build 252 #[(0,.pointer p0),(1,.int .i64 n1),(2,.map m18)]) (.agg g19)/\∃ q20:Addr,∃ w3:World,Ru (Instr.box 252 (.agg g19)) w2 (.pointer (some q20)) w3/\K (.tuple #[.pointer (some q20),.int .i64 0]) w3))
theorem C_cache_New (p0:YB) (n1:Int) (w0:World) (K:YA) (h:D_cache_New p0 n1 w0 K):Cal Tryz.prog F_cache_New #[.pointer p0,.int .i64 n1] w0 K :=
 denF_of (A:=⟨[9],[(9,4)],[]⟩) Tryz.func206 (by kernel_rfl) (by kernel_rfl) (by kernel_rfl) h
def D_super_Get (a0:YB) (l0 c0:Nat) (w0:World) (K:YA):Prop :=
 ∃ q1:Addr,∃ w1:World,Ru (Instr.box 88 (.slice a0 l0 c0)) w0 (.pointer (some q1)) w1/\∃ q2:Addr,∃ w2:World,Ru (Instr.alloc 143 true (.tuple #[])) w1 (.pointer (some q2)) w2/\∃ (a7:YB) (l7 c7:Nat),YD 88 q1 w2 (.slice a7 l7 c7)/\(bif (l7:Int) != 256 then
 ∃ g10:Array Value,Al (Instr.build 143 #[]) (.agg g10)/\∃ w3:World,YE 143 q2 (.agg g10) w2 w3/\∃ gR2:Array Value,YD 143 q2 w3 (.agg gR2)/\K (.tuple #[.agg gR2,.int .i64 4]) w3
 else
 ∃ (a12:YB) (l12 c12:Nat),YD 88 q1 w2 (.slice a12 l12 c12)/\∃ (a13:YB) (l13 c13:Nat),Al (Instr.sliceAt 88 (.slice a12 l12 c12) none (some (.int .i64 4)) none) (.slice a13 l13 c13)/\∃ s14:ByteArray,Ru (convert 88 9 (.slice a13 l13 c13)) w2 (.string s14) w2/\(bif !((ByteArray.toList s14)==(ByteArray.toList (⟨#[76,86,69,69]⟩))) then
 ∃ g16:Array Value,Al (Instr.build 143 #[]) (.agg g16)/\∃ w4:World,YE 143 q2 (.agg g16) w2 w4/\∃ gR2_2:Array Value,YD 143 q2 w4 (.agg gR2_2)/\K (.tuple #[.agg gR2_2,.int .i64 8]) w4
 else
 ∃ (a18:YB) (l18 c18:Nat),YD 88 q1 (drew w2) (.slice a18 l18 c18)/\∃ (a19:YB) (l19 c19:Nat),Al (Instr.sliceAt 88 (.slice a18 l18 c18) (some (.int .i64 252)) none none) (.slice a19 l19 c19)/\∃ (a21:YB) (l21 c21:Nat),YD 88 q1 (drew w2) (.slice a21 l21 c21)/\∃ (a22:YB) (l22 c22:Nat),Al (Instr.sliceAt 88 (.slice a21 l21 c21) none (some (.int .i64 252)) none) (.slice a22 l22 c22)/\YC F_num_Get #[.slice a19 l19 c19] (drew w2) fun r20 w5=>∃ n20:Int,r20=.int .u64 n20/\YD 88 q1 w5 (.slice a21 l21 c21)/\YC F_num_Sum #[.slice a22 l22 c22] w5 fun r23 w6=>∃ n23:Int,r23=.int .u32 n23/\(bif n20 != (IntKind.u64.wrap n23) then
 ∃ g26:Array Value,Al (Instr.build 143 #[]) (.agg g26)/\∃ w7:World,YE 143 q2 (.agg g26) w6 w7/\∃ gR2_3:Array Value,YD 143 q2 w7 (.agg gR2_3)/\K (.tuple #[.agg gR2_3,.int .i64 7]) w7
 else
 ∃ (a28:YB) (l28 c28:Nat),YD 88 q1 w6 (.slice a28 l28 c28)/\∃ (a29:YB) (l29 c29:Nat),Al (Instr.sliceAt 88 (.slice a28 l28 c28) (some (.int .i64 4)) (some (.int .i64 12)) none) (.slice a29 l29 c29)/\YC F_num_Get #[.slice a29 l29 c29] w6 fun r30 w8=>∃ n30:Int,r30=.int .u64 n30/\Dyn Tryz.prog (.func (.func F_super_Get_1) #[] #[.pointer (some q1)]) #[.int .i64 12] w8 fun r33 w9=>∃ n33:Int,r33=.int .i64 n33/\Dyn Tryz.prog (.func (.func F_super_Get_1) #[] #[.pointer (some q1)]) #[.int .i64 14] w9 fun r35 w10=>∃ n35:Int,r35=.int .i64 n35/\Dyn Tryz.prog (.func (.func F_super_Get_1) #[] #[.pointer (some q1)]) #[.int .i64 16] w10 fun r37 w11=>∃ n37:Int,r37=.int .i64 n37/\∃ g38:Array Value,Al (Instr.build 40 #[(0,.int .i64 n33),(1,.int .i64 n35),(2,.int .i64 n37)]) (.agg g38)/\∃ g39:Array Value,Al (Instr.build 143 #[(0,.int .i64 (IntKind.i64.wrap n30)),(1,.agg g38)]) (.agg g39)/\∃ q5:Addr,∃ w12:World,Ru (Instr.alloc 143 true (.tuple #[])) w11 (.pointer (some q5)) w12/\∃ w13:World,YE 143 q5 (.agg g39) w12 w13/\∃ g41:Array Value,YD 143 q5 w13 (.agg g41)/\YC F_super_Super_right #[.agg g41] w13 fun r42 w14=>∃ b42:Bool,r42=.bool b42/\(bif !b42 then
 ∃ g44:Array Value,Al (Instr.build 143 #[]) (.agg g44)/\∃ w15:World,YE 143 q2 (.agg g44) w14 w15/\∃ gR2_4:Array Value,YD 143 q2 w15 (.agg gR2_4)/\K (.tuple #[.agg gR2_4,.int .i64 1]) w15
 else
 ∃ (a46:YB) (l46 c46:Nat),YD 88 q1 w14 (.slice a46 l46 c46)/\∃ (a47:YB) (l47 c47:Nat),Al (Instr.sliceAt 88 (.slice a46 l46 c46) (some (.int .i64 18)) (some (.int .i64 252)) none) (.slice a47 l47 c47)/\YC F_num_Zero #[.slice a47 l47 c47] w14 fun r48 w16=>∃ b48:Bool,r48=.bool b48/\(bif !b48 then
 ∃ g50:Array Value,Al (Instr.build 143 #[]) (.agg g50)/\∃ w17:World,YE 143 q2 (.agg g50) w16 w17/\∃ gR2_5:Array Value,YD 143 q2 w17 (.agg gR2_5)/\K (.tuple #[.agg gR2_5,.int .i64 8]) w17
 else
 ∃ g51:Array Value,YD 143 q5 w16 (.agg g51)/\∃ w18:World,YE 143 q2 (.agg g51) w16 w18/\∃ gR2_6:Array Value,YD 143 q2 w18 (.agg gR2_6)/\K (.tuple #[.agg gR2_6,.int .i64 0]) w18)))))
theorem C_super_Get (a0:YB) (l0 c0:Nat) (w0:World) (K:YA) (h:D_super_Get a0 l0 c0 w0 K):Cal Tryz.prog F_super_Get #[.slice a0 l0 c0] w0 K :=
 denF_of (A:=⟨[],[],[]⟩) Tryz.func207 (by kernel_rfl) (by kernel_rfl) (by kernel_rfl) h
def D_super_Super_place (g0:Array Value) (w0:World) (K:YA):Prop :=
 ∃ q1:Addr,∃ w1:World,Ru (Instr.box 143 (.agg g0)) w0 (.pointer (some q1)) w1/\∃ n4:Int,YD 2 (Addr.add q1 0) w1 (.int .i64 n4)/\K (.int .i64 (Int.tmod n4 2)) w1
theorem C_super_Super_place (g0:Array Value) (w0:World) (K:YA) (h:D_super_Super_place g0 w0 K):Cal Tryz.prog F_super_Super_place #[.agg g0] w0 K :=
 denF_of (A:=⟨[],[],[]⟩) Tryz.func208 (by kernel_rfl) (by kernel_rfl) (by kernel_rfl) h
def D_vol_Vol_place (p0:YB) (n1:Int) (w0:World) (K:YA):Prop :=
 (bif Option.isNone p0 then
 K (.tuple #[.int .i64 0,.int .i64 0,.int .i64 2]) w0
 else
 ∃ q10:Addr,(.pointer p0:Value)=.pointer (some q10)/\∃ g13:Array Value,YD 40 (Addr.add (Addr.add q10 0) 1) w0 (.agg g13)/\YC F_geo_Place #[.agg g13,.int .i64 n1] w0 fun r15 w1=>∃ n15a:Int,∃ n15b:Int,∃ n15c:Int,r15=.tuple #[.int .i64 n15a,.int .i64 n15b,.int .i64 n15c]/\K (.tuple #[.int .i64 n15a,.int .i64 n15b,.int .i64 n15c]) w1)
theorem C_vol_Vol_place (p0:YB) (n1:Int) (w0:World) (K:YA) (h:D_vol_Vol_place p0 n1 w0 K):Cal Tryz.prog F_vol_Vol_place #[.pointer p0,.int .i64 n1] w0 K :=
 denF_of (A:=⟨[],[],[]⟩) Tryz.func209 (by kernel_rfl) (by kernel_rfl) (by kernel_rfl) h
def D_inode_Read (a0:YB) (l0 c0:Nat) (n1:Int) (w0:World) (K:YA):Prop :=
 ∃ q4:Addr,∃ w1:World,Ru (Instr.alloc 218 true (.tuple #[])) w0 (.pointer (some q4)) w1/\YC F_inode_may #[.slice a0 l0 c0,.int .i64 n1] w1 fun r9 w2=>∃ n9:Int,r9=.int .i64 n9/\(bif n9 != 0 then
 ∃ g12:Array Value,Al (Instr.build 218 #[]) (.agg g12)/\∃ w3:World,YE 218 q4 (.agg g12) w2 w3/\∃ gR4:Array Value,YD 218 q4 w3 (.agg gR4)/\K (.tuple #[.agg gR4,.int .i64 n9]) w3
 else
 ∃ (a20:YB) (l20 c20:Nat),Al (Instr.sliceAt 88 (.slice a0 l0 c0) (some (.int .i64 (IntKind.i64.wrap (n1*64)))) (some (.int .i64 (IntKind.i64.wrap ((IntKind.i64.wrap (n1+1))*64)))) none) (.slice a20 l20 c20)/\YC F_inode_Get #[.slice a20 l20 c20] w2 fun r21 w4=>∃ g21a:Array Value,∃ n21b:Int,r21=.tuple #[.agg g21a,.int .i64 n21b]/\∃ w5:World,YE 218 q4 (.agg g21a) w4 w5/\∃ gR4_2:Array Value,YD 218 q4 w5 (.agg gR4_2)/\K (.tuple #[.agg gR4_2,.int .i64 n21b]) w5)
theorem C_inode_Read (a0:YB) (l0 c0:Nat) (n1:Int) (w0:World) (K:YA) (h:D_inode_Read a0 l0 c0 n1 w0 K):Cal Tryz.prog F_inode_Read #[.slice a0 l0 c0,.int .i64 n1] w0 K :=
 denF_of (A:=⟨[],[],[]⟩) Tryz.func210 (by kernel_rfl) (by kernel_rfl) (by kernel_rfl) h
def D_leveeref02_Disk_there (p0:YB) (n1:Int) (w0:World) (K:YA):Prop :=
 Share (fun k=>(bif decide (n1 >= 0) then ∃ q10:Addr,(.pointer p0:Value)=.pointer (some q10)/\∃ (a12:YB) (l12 c12:Nat),YD 221 (Addr.add q10 0) w0 (.slice a12 l12 c12)/\k [.bool (decide (n1<(l12:Int)))] w0 else k [.bool false] w0)) fun x w1 =>
 ∃ b4:Bool,nth x 0=.bool b4/\K (.bool b4) w1
theorem C_leveeref02_Disk_there (p0:YB) (n1:Int) (w0:World) (K:YA) (h:D_leveeref02_Disk_there p0 n1 w0 K):Cal Tryz.prog F_leveeref02_Disk_there #[.pointer p0,.int .i64 n1] w0 K :=
 denF_of (A:=⟨[4],[(4,4)],[]⟩) Tryz.func211 (by kernel_rfl) (by kernel_rfl) (by kernel_rfl) h
def D_leveeref02_Disk_goes (p0:YB) (w0:World) (K:YA):Prop :=
 YC F_leveeref02_Disk_Stopped #[.pointer p0] w0 fun r4 w1=>∃ b4:Bool,r4=.bool b4/\(bif b4 then
 K (.bool false) w1
 else
 ∃ q6:Addr,(.pointer p0:Value)=.pointer (some q6)/\∃ b8:Bool,YD 4 (Addr.add q6 1) w1 (.bool b8)/\Share (fun k=>(bif b8 then
 ∃ q10:Addr,(.pointer p0:Value)=.pointer (some q10)/\∃ n12:Int,YD 3 (Addr.add q10 2) w1 (.int .i64 n12)/\∃ q14:Addr,(.pointer p0:Value)=.pointer (some q14)/\∃ w2:World,YE 3 (Addr.add q14 2) (.int .i64 (IntKind.i64.wrap (n12-1))) w1 w2/\k [] w2
 else
 k [] w1)) fun x w3 =>
 K (.bool true) w3)
theorem C_leveeref02_Disk_goes (p0:YB) (w0:World) (K:YA) (h:D_leveeref02_Disk_goes p0 w0 K):Cal Tryz.prog F_leveeref02_Disk_goes #[.pointer p0] w0 K :=
 denF_of (A:=⟨[],[],[]⟩) Tryz.func212 (by kernel_rfl) (by kernel_rfl) (by kernel_rfl) h
def D_leveeref06_Fresh (g0:Array Value) (n1:Int) (w0:World) (K:YA):Prop :=
 ∃ q2:Addr,∃ w1:World,Ru (Instr.box 40 (.agg g0)) w0 (.pointer (some q2)) w1/\∃ q4:Addr,∃ w2:World,Ru (Instr.alloc 183 true (.tuple #[])) w1 (.pointer (some q4)) w2/\(∃ (a10:YB) (l10 c10:Nat),∃ w3:World,Ru (Instr.makeSlice 88 (.int .i64 16) (.int .i64 16)) (drew w2) (.slice a10 l10 c10) w3/\(∃ (a11:YB) (l11 c11:Nat),∃ w4:World,Ru (Instr.makeSlice 88 (.int .i64 8) (.int .i64 8)) w3 (.slice a11 l11 c11) w4/\∃ g12:Array Value,Al (Instr.build 183 #[(0,.int .i64 n1),(1,.slice a10 l10 c10),(2,.slice a11 l11 c11)]) (.agg g12)/\∃ q6:Addr,∃ w5:World,Ru (Instr.alloc 183 true (.tuple #[])) w4 (.pointer (some q6)) w5/\∃ w6:World,YE 183 q6 (.agg g12) w5 w6/\Share (fun k=>∃ g13:Array Value,YD 40 q2 w6 (.agg g13)/\YC F_leveeref03_Right #[.agg g13] w6 fun r14 w7=>∃ b14:Bool,r14=.bool b14/\(bif !b14 then k [.bool true] w7 else (bif decide (n1<0) then k [.bool true] w7 else ∃ n23:Int,YD 3 (Addr.add q2 2) w7 (.int .i64 n23)/\k [.bool (decide (n1 >= n23))] w7))) fun x w8 =>
 ∃ b25:Bool,nth x 0=.bool b25/\(bif b25 then
 ∃ g26:Array Value,Al (Instr.build 183 #[]) (.agg g26)/\∃ w9:World,YE 183 q4 (.agg g26) w8 w9/\∃ gR4:Array Value,YD 183 q4 w9 (.agg gR4)/\K (.tuple #[.agg gR4,.int .i64 1]) w9
 else
 LoopC (fun k_2 x_2 w10 =>
 ∃ n7:Int,nth x_2 0=.int .i64 n7/\∃ n29:Int,YD 3 (Addr.add q2 1) w10 (.int .i64 n29)/\(bif decide (n7<(IntKind.i64.wrap (1+(IntKind.i64.wrap (Int.tdiv n29 4))))) then
 ∃ (a37:YB) (l37 c37:Nat),YD 88 (Addr.add q6 1) w10 (.slice a37 l37 c37)/\YC F_leveeref05_Set #[.slice a37 l37 c37,.int .i64 n7,.bool true] w10 fun r39 w11=>∃ (a39a:YB) (l39a c39a:Nat),∃ n39b:Int,r39=.tuple #[.slice a39a l39a c39a,.int .i64 n39b]/\∃ w12:World,YE 88 (Addr.add q6 1) (.slice a39a l39a c39a) w11 w12/\k_2 [.int .i64 (IntKind.i64.wrap (n7+1))] w12
 else
 LoopC (fun k_3 x_3 w13 =>
 Share (fun k_4=>∃ n8:Int,nth x_3 0=.int .i64 n8/\(bif decide (n8<2) then k_4 [.bool (n1==0)] w13 else k_4 [.bool false] w13)) fun x_4 w14 =>
 ∃ b48:Bool,nth x_4 0=.bool b48/\(bif b48 then
 ∃ (a53:YB) (l53 c53:Nat),YD 88 (Addr.add q6 2) w14 (.slice a53 l53 c53)/\∃ n8_2:Int,nth x_3 0=.int .i64 n8_2/\YC F_leveeref05_Set #[.slice a53 l53 c53,.int .i64 n8_2,.bool true] w14 fun r55 w15=>∃ (a55a:YB) (l55a c55a:Nat),∃ n55b:Int,r55=.tuple #[.slice a55a l55a c55a,.int .i64 n55b]/\∃ w16:World,YE 88 (Addr.add q6 2) (.slice a55a l55a c55a) w15 w16/\k_3 [.int .i64 (IntKind.i64.wrap (n8_2+1)),.bool b48] w16
 else
 ∃ g59:Array Value,YD 183 q6 w14 (.agg g59)/\∃ w17:World,YE 183 q4 (.agg g59) w14 w17/\∃ gR4_2:Array Value,YD 183 q4 w17 (.agg gR4_2)/\K (.tuple #[.agg gR4_2,.int .i64 0]) w17)) [.int .i64 0,undef] w10)) [.int .i64 0] w8))/\(∃ q6_2:Addr,∃ w18:World,Ru (Instr.alloc 183 true (.tuple #[])) w3 (.pointer (some q6_2)) w18/\∃ (a11_2:YB) (l11_2 c11_2:Nat),∃ w19:World,Ru (Instr.makeSlice 88 (.int .i64 8) (.int .i64 8)) w18 (.slice a11_2 l11_2 c11_2) w19/\∃ g12_2:Array Value,Al (Instr.build 183 #[(0,.int .i64 n1),(1,.slice a10 l10 c10),(2,.slice a11_2 l11_2 c11_2)]) (.agg g12_2)/\∃ w20:World,YE 183 q6_2 (.agg g12_2) w19 w20/\Share (fun k_5=>∃ g13_2:Array Value,YD 40 q2 w20 (.agg g13_2)/\YC F_leveeref03_Right #[.agg g13_2] w20 fun r14_2 w21=>∃ b14_2:Bool,r14_2=.bool b14_2/\(bif !b14_2 then k_5 [.bool true] w21 else (bif decide (n1<0) then k_5 [.bool true] w21 else ∃ n23_2:Int,YD 3 (Addr.add q2 2) w21 (.int .i64 n23_2)/\k_5 [.bool (decide (n1 >= n23_2))] w21))) fun x_5 w22 =>
 ∃ b25_2:Bool,nth x_5 0=.bool b25_2/\(bif b25_2 then
 ∃ g26_2:Array Value,Al (Instr.build 183 #[]) (.agg g26_2)/\∃ w23:World,YE 183 q4 (.agg g26_2) w22 w23/\∃ gR4_3:Array Value,YD 183 q4 w23 (.agg gR4_3)/\K (.tuple #[.agg gR4_3,.int .i64 1]) w23
 else
 LoopC (fun k_6 x_6 w24 =>
 ∃ n7_2:Int,nth x_6 0=.int .i64 n7_2/\∃ n29_2:Int,YD 3 (Addr.add q2 1) w24 (.int .i64 n29_2)/\(bif decide (n7_2<(IntKind.i64.wrap (1+(IntKind.i64.wrap (Int.tdiv n29_2 4))))) then
 ∃ (a37_2:YB) (l37_2 c37_2:Nat),YD 88 (Addr.add q6_2 1) w24 (.slice a37_2 l37_2 c37_2)/\YC F_leveeref05_Set #[.slice a37_2 l37_2 c37_2,.int .i64 n7_2,.bool true] w24 fun r39_2 w25=>∃ (a39a_2:YB) (l39a_2 c39a_2:Nat),∃ n39b_2:Int,r39_2=.tuple #[.slice a39a_2 l39a_2 c39a_2,.int .i64 n39b_2]/\∃ w26:World,YE 88 (Addr.add q6_2 1) (.slice a39a_2 l39a_2 c39a_2) w25 w26/\k_6 [.int .i64 (IntKind.i64.wrap (n7_2+1))] w26
 else
 LoopC (fun k_7 x_7 w27 =>
 Share (fun k_8=>∃ n8_3:Int,nth x_7 0=.int .i64 n8_3/\(bif decide (n8_3<2) then k_8 [.bool (n1==0)] w27 else k_8 [.bool false] w27)) fun x_8 w28 =>
 ∃ b48_2:Bool,nth x_8 0=.bool b48_2/\(bif b48_2 then
 ∃ (a53_2:YB) (l53_2 c53_2:Nat),YD 88 (Addr.add q6_2 2) w28 (.slice a53_2 l53_2 c53_2)/\∃ n8_4:Int,nth x_7 0=.int .i64 n8_4/\YC F_leveeref05_Set #[.slice a53_2 l53_2 c53_2,.int .i64 n8_4,.bool true] w28 fun r55_2 w29=>∃ (a55a_2:YB) (l55a_2 c55a_2:Nat),∃ n55b_2:Int,r55_2=.tuple #[.slice a55a_2 l55a_2 c55a_2,.int .i64 n55b_2]/\∃ w30:World,YE 88 (Addr.add q6_2 2) (.slice a55a_2 l55a_2 c55a_2) w29 w30/\k_7 [.int .i64 (IntKind.i64.wrap (n8_4+1)),.bool b48_2] w30
 else
 ∃ g59_2:Array Value,YD 183 q6_2 w28 (.agg g59_2)/\∃ w31:World,YE 183 q4 (.agg g59_2) w28 w31/\∃ gR4_4:Array Value,YD 183 q4 w31 (.agg gR4_4)/\K (.tuple #[.agg gR4_4,.int .i64 0]) w31)) [.int .i64 0,undef] w24)) [.int .i64 0] w22)))/\(∃ (a11_3:YB) (l11_3 c11_3:Nat),∃ w32:World,Ru (Instr.makeSlice 88 (.int .i64 8) (.int .i64 8)) (drew w2) (.slice a11_3 l11_3 c11_3) w32/\(∃ (a10_2:YB) (l10_2 c10_2:Nat),∃ w33:World,Ru (Instr.makeSlice 88 (.int .i64 16) (.int .i64 16)) w32 (.slice a10_2 l10_2 c10_2) w33/\∃ g12_3:Array Value,Al (Instr.build 183 #[(0,.int .i64 n1),(1,.slice a10_2 l10_2 c10_2),(2,.slice a11_3 l11_3 c11_3)]) (.agg g12_3)/\∃ q6_3:Addr,∃ w34:World,Ru (Instr.alloc 183 true (.tuple #[])) w33 (.pointer (some q6_3)) w34/\∃ w35:World,YE 183 q6_3 (.agg g12_3) w34 w35/\Share (fun k_9=>∃ g13_3:Array Value,YD 40 q2 w35 (.agg g13_3)/\YC F_leveeref03_Right #[.agg g13_3] w35 fun r14_3 w36=>∃ b14_3:Bool,r14_3=.bool b14_3/\(bif !b14_3 then k_9 [.bool true] w36 else (bif decide (n1<0) then k_9 [.bool true] w36 else ∃ n23_3:Int,YD 3 (Addr.add q2 2) w36 (.int .i64 n23_3)/\k_9 [.bool (decide (n1 >= n23_3))] w36))) fun x_9 w37 =>
 ∃ b25_3:Bool,nth x_9 0=.bool b25_3/\(bif b25_3 then
 ∃ g26_3:Array Value,Al (Instr.build 183 #[]) (.agg g26_3)/\∃ w38:World,YE 183 q4 (.agg g26_3) w37 w38/\∃ gR4_5:Array Value,YD 183 q4 w38 (.agg gR4_5)/\K (.tuple #[.agg gR4_5,.int .i64 1]) w38
 else
 LoopC (fun k_10 x_10 w39 =>
 ∃ n7_3:Int,nth x_10 0=.int .i64 n7_3/\∃ n29_3:Int,YD 3 (Addr.add q2 1) w39 (.int .i64 n29_3)/\(bif decide (n7_3<(IntKind.i64.wrap (1+(IntKind.i64.wrap (Int.tdiv n29_3 4))))) then
 ∃ (a37_3:YB) (l37_3 c37_3:Nat),YD 88 (Addr.add q6_3 1) w39 (.slice a37_3 l37_3 c37_3)/\YC F_leveeref05_Set #[.slice a37_3 l37_3 c37_3,.int .i64 n7_3,.bool true] w39 fun r39_3 w40=>∃ (a39a_3:YB) (l39a_3 c39a_3:Nat),∃ n39b_3:Int,r39_3=.tuple #[.slice a39a_3 l39a_3 c39a_3,.int .i64 n39b_3]/\∃ w41:World,YE 88 (Addr.add q6_3 1) (.slice a39a_3 l39a_3 c39a_3) w40 w41/\k_10 [.int .i64 (IntKind.i64.wrap (n7_3+1))] w41
 else
 LoopC (fun k_11 x_11 w42 =>
 Share (fun k_12=>∃ n8_5:Int,nth x_11 0=.int .i64 n8_5/\(bif decide (n8_5<2) then k_12 [.bool (n1==0)] w42 else k_12 [.bool false] w42)) fun x_12 w43 =>
 ∃ b48_3:Bool,nth x_12 0=.bool b48_3/\(bif b48_3 then
 ∃ (a53_3:YB) (l53_3 c53_3:Nat),YD 88 (Addr.add q6_3 2) w43 (.slice a53_3 l53_3 c53_3)/\∃ n8_6:Int,nth x_11 0=.int .i64 n8_6/\YC F_leveeref05_Set #[.slice a53_3 l53_3 c53_3,.int .i64 n8_6,.bool true] w43 fun r55_3 w44=>∃ (a55a_3:YB) (l55a_3 c55a_3:Nat),∃ n55b_3:Int,r55_3=.tuple #[.slice a55a_3 l55a_3 c55a_3,.int .i64 n55b_3]/\∃ w45:World,YE 88 (Addr.add q6_3 2) (.slice a55a_3 l55a_3 c55a_3) w44 w45/\k_11 [.int .i64 (IntKind.i64.wrap (n8_6+1)),.bool b48_3] w45
 else
 ∃ g59_3:Array Value,YD 183 q6_3 w43 (.agg g59_3)/\∃ w46:World,YE 183 q4 (.agg g59_3) w43 w46/\∃ gR4_6:Array Value,YD 183 q4 w46 (.agg gR4_6)/\K (.tuple #[.agg gR4_6,.int .i64 0]) w46)) [.int .i64 0,undef] w39)) [.int .i64 0] w37))/\(∃ q6_4:Addr,∃ w47:World,Ru (Instr.alloc 183 true (.tuple #[])) w32 (.pointer (some q6_4)) w47/\∃ (a10_3:YB) (l10_3 c10_3:Nat),∃ w48:World,Ru (Instr.makeSlice 88 (.int .i64 16) (.int .i64 16)) w47 (.slice a10_3 l10_3 c10_3) w48/\∃ g12_4:Array Value,Al (Instr.build 183 #[(0,.int .i64 n1),(1,.slice a10_3 l10_3 c10_3),(2,.slice a11_3 l11_3 c11_3)]) (.agg g12_4)/\∃ w49:World,YE 183 q6_4 (.agg g12_4) w48 w49/\Share (fun k_13=>∃ g13_4:Array Value,YD 40 q2 w49 (.agg g13_4)/\YC F_leveeref03_Right #[.agg g13_4] w49 fun r14_4 w50=>∃ b14_4:Bool,r14_4=.bool b14_4/\(bif !b14_4 then k_13 [.bool true] w50 else (bif decide (n1<0) then k_13 [.bool true] w50 else ∃ n23_4:Int,YD 3 (Addr.add q2 2) w50 (.int .i64 n23_4)/\k_13 [.bool (decide (n1 >= n23_4))] w50))) fun x_13 w51 =>
 ∃ b25_4:Bool,nth x_13 0=.bool b25_4/\(bif b25_4 then
 ∃ g26_4:Array Value,Al (Instr.build 183 #[]) (.agg g26_4)/\∃ w52:World,YE 183 q4 (.agg g26_4) w51 w52/\∃ gR4_7:Array Value,YD 183 q4 w52 (.agg gR4_7)/\K (.tuple #[.agg gR4_7,.int .i64 1]) w52
 else
 LoopC (fun k_14 x_14 w53 =>
 ∃ n7_4:Int,nth x_14 0=.int .i64 n7_4/\∃ n29_4:Int,YD 3 (Addr.add q2 1) w53 (.int .i64 n29_4)/\(bif decide (n7_4<(IntKind.i64.wrap (1+(IntKind.i64.wrap (Int.tdiv n29_4 4))))) then
 ∃ (a37_4:YB) (l37_4 c37_4:Nat),YD 88 (Addr.add q6_4 1) w53 (.slice a37_4 l37_4 c37_4)/\YC F_leveeref05_Set #[.slice a37_4 l37_4 c37_4,.int .i64 n7_4,.bool true] w53 fun r39_4 w54=>∃ (a39a_4:YB) (l39a_4 c39a_4:Nat),∃ n39b_4:Int,r39_4=.tuple #[.slice a39a_4 l39a_4 c39a_4,.int .i64 n39b_4]/\∃ w55:World,YE 88 (Addr.add q6_4 1) (.slice a39a_4 l39a_4 c39a_4) w54 w55/\k_14 [.int .i64 (IntKind.i64.wrap (n7_4+1))] w55
 else
 LoopC (fun k_15 x_15 w56 =>
 Share (fun k_16=>∃ n8_7:Int,nth x_15 0=.int .i64 n8_7/\(bif decide (n8_7<2) then k_16 [.bool (n1==0)] w56 else k_16 [.bool false] w56)) fun x_16 w57 =>
 ∃ b48_4:Bool,nth x_16 0=.bool b48_4/\(bif b48_4 then
 ∃ (a53_4:YB) (l53_4 c53_4:Nat),YD 88 (Addr.add q6_4 2) w57 (.slice a53_4 l53_4 c53_4)/\∃ n8_8:Int,nth x_15 0=.int .i64 n8_8/\YC F_leveeref05_Set #[.slice a53_4 l53_4 c53_4,.int .i64 n8_8,.bool true] w57 fun r55_4 w58=>∃ (a55a_4:YB) (l55a_4 c55a_4:Nat),∃ n55b_4:Int,r55_4=.tuple #[.slice a55a_4 l55a_4 c55a_4,.int .i64 n55b_4]/\∃ w59:World,YE 88 (Addr.add q6_4 2) (.slice a55a_4 l55a_4 c55a_4) w58 w59/\k_15 [.int .i64 (IntKind.i64.wrap (n8_8+1)),.bool b48_4] w59
 else
 ∃ g59_4:Array Value,YD 183 q6_4 w57 (.agg g59_4)/\∃ w60:World,YE 183 q4 (.agg g59_4) w57 w60/\∃ gR4_8:Array Value,YD 183 q4 w60 (.agg gR4_8)/\K (.tuple #[.agg gR4_8,.int .i64 0]) w60)) [.int .i64 0,undef] w53)) [.int .i64 0] w51)))/\(∃ q6_5:Addr,∃ w61:World,Ru (Instr.alloc 183 true (.tuple #[])) (drew w2) (.pointer (some q6_5)) w61/\(∃ (a10_4:YB) (l10_4 c10_4:Nat),∃ w62:World,Ru (Instr.makeSlice 88 (.int .i64 16) (.int .i64 16)) w61 (.slice a10_4 l10_4 c10_4) w62/\∃ (a11_4:YB) (l11_4 c11_4:Nat),∃ w63:World,Ru (Instr.makeSlice 88 (.int .i64 8) (.int .i64 8)) w62 (.slice a11_4 l11_4 c11_4) w63/\∃ g12_5:Array Value,Al (Instr.build 183 #[(0,.int .i64 n1),(1,.slice a10_4 l10_4 c10_4),(2,.slice a11_4 l11_4 c11_4)]) (.agg g12_5)/\∃ w64:World,YE 183 q6_5 (.agg g12_5) w63 w64/\Share (fun k_17=>∃ g13_5:Array Value,YD 40 q2 w64 (.agg g13_5)/\YC F_leveeref03_Right #[.agg g13_5] w64 fun r14_5 w65=>∃ b14_5:Bool,r14_5=.bool b14_5/\(bif !b14_5 then k_17 [.bool true] w65 else (bif decide (n1<0) then k_17 [.bool true] w65 else ∃ n23_5:Int,YD 3 (Addr.add q2 2) w65 (.int .i64 n23_5)/\k_17 [.bool (decide (n1 >= n23_5))] w65))) fun x_17 w66 =>
 ∃ b25_5:Bool,nth x_17 0=.bool b25_5/\(bif b25_5 then
 ∃ g26_5:Array Value,Al (Instr.build 183 #[]) (.agg g26_5)/\∃ w67:World,YE 183 q4 (.agg g26_5) w66 w67/\∃ gR4_9:Array Value,YD 183 q4 w67 (.agg gR4_9)/\K (.tuple #[.agg gR4_9,.int .i64 1]) w67
 else
 LoopC (fun k_18 x_18 w68 =>
 ∃ n7_5:Int,nth x_18 0=.int .i64 n7_5/\∃ n29_5:Int,YD 3 (Addr.add q2 1) w68 (.int .i64 n29_5)/\(bif decide (n7_5<(IntKind.i64.wrap (1+(IntKind.i64.wrap (Int.tdiv n29_5 4))))) then
 ∃ (a37_5:YB) (l37_5 c37_5:Nat),YD 88 (Addr.add q6_5 1) w68 (.slice a37_5 l37_5 c37_5)/\YC F_leveeref05_Set #[.slice a37_5 l37_5 c37_5,.int .i64 n7_5,.bool true] w68 fun r39_5 w69=>∃ (a39a_5:YB) (l39a_5 c39a_5:Nat),∃ n39b_5:Int,r39_5=.tuple #[.slice a39a_5 l39a_5 c39a_5,.int .i64 n39b_5]/\∃ w70:World,YE 88 (Addr.add q6_5 1) (.slice a39a_5 l39a_5 c39a_5) w69 w70/\k_18 [.int .i64 (IntKind.i64.wrap (n7_5+1))] w70
 else
 LoopC (fun k_19 x_19 w71 =>
 Share (fun k_20=>∃ n8_9:Int,nth x_19 0=.int .i64 n8_9/\(bif decide (n8_9<2) then k_20 [.bool (n1==0)] w71 else k_20 [.bool false] w71)) fun x_20 w72 =>
 ∃ b48_5:Bool,nth x_20 0=.bool b48_5/\(bif b48_5 then
 ∃ (a53_5:YB) (l53_5 c53_5:Nat),YD 88 (Addr.add q6_5 2) w72 (.slice a53_5 l53_5 c53_5)/\∃ n8_10:Int,nth x_19 0=.int .i64 n8_10/\YC F_leveeref05_Set #[.slice a53_5 l53_5 c53_5,.int .i64 n8_10,.bool true] w72 fun r55_5 w73=>∃ (a55a_5:YB) (l55a_5 c55a_5:Nat),∃ n55b_5:Int,r55_5=.tuple #[.slice a55a_5 l55a_5 c55a_5,.int .i64 n55b_5]/\∃ w74:World,YE 88 (Addr.add q6_5 2) (.slice a55a_5 l55a_5 c55a_5) w73 w74/\k_19 [.int .i64 (IntKind.i64.wrap (n8_10+1)),.bool b48_5] w74
 else
 ∃ g59_5:Array Value,YD 183 q6_5 w72 (.agg g59_5)/\∃ w75:World,YE 183 q4 (.agg g59_5) w72 w75/\∃ gR4_10:Array Value,YD 183 q4 w75 (.agg gR4_10)/\K (.tuple #[.agg gR4_10,.int .i64 0]) w75)) [.int .i64 0,undef] w68)) [.int .i64 0] w66))/\(∃ (a11_5:YB) (l11_5 c11_5:Nat),∃ w76:World,Ru (Instr.makeSlice 88 (.int .i64 8) (.int .i64 8)) w61 (.slice a11_5 l11_5 c11_5) w76/\∃ (a10_5:YB) (l10_5 c10_5:Nat),∃ w77:World,Ru (Instr.makeSlice 88 (.int .i64 16) (.int .i64 16)) w76 (.slice a10_5 l10_5 c10_5) w77/\∃ g12_6:Array Value,Al (Instr.build 183 #[(0,.int .i64 n1),(1,.slice a10_5 l10_5 c10_5),(2,.slice a11_5 l11_5 c11_5)]) (.agg g12_6)/\∃ w78:World,YE 183 q6_5 (.agg g12_6) w77 w78/\Share (fun k_21=>∃ g13_6:Array Value,YD 40 q2 w78 (.agg g13_6)/\YC F_leveeref03_Right #[.agg g13_6] w78 fun r14_6 w79=>∃ b14_6:Bool,r14_6=.bool b14_6/\(bif !b14_6 then k_21 [.bool true] w79 else (bif decide (n1<0) then k_21 [.bool true] w79 else ∃ n23_6:Int,YD 3 (Addr.add q2 2) w79 (.int .i64 n23_6)/\k_21 [.bool (decide (n1 >= n23_6))] w79))) fun x_21 w80 =>
 ∃ b25_6:Bool,nth x_21 0=.bool b25_6/\(bif b25_6 then
 ∃ g26_6:Array Value,Al (Instr.build 183 #[]) (.agg g26_6)/\∃ w81:World,YE 183 q4 (.agg g26_6) w80 w81/\∃ gR4_11:Array Value,YD 183 q4 w81 (.agg gR4_11)/\K (.tuple #[.agg gR4_11,.int .i64 1]) w81
 else
 LoopC (fun k_22 x_22 w82 =>
 ∃ n7_6:Int,nth x_22 0=.int .i64 n7_6/\∃ n29_6:Int,YD 3 (Addr.add q2 1) w82 (.int .i64 n29_6)/\(bif decide (n7_6<(IntKind.i64.wrap (1+(IntKind.i64.wrap (Int.tdiv n29_6 4))))) then
 ∃ (a37_6:YB) (l37_6 c37_6:Nat),YD 88 (Addr.add q6_5 1) w82 (.slice a37_6 l37_6 c37_6)/\YC F_leveeref05_Set #[.slice a37_6 l37_6 c37_6,.int .i64 n7_6,.bool true] w82 fun r39_6 w83=>∃ (a39a_6:YB) (l39a_6 c39a_6:Nat),∃ n39b_6:Int,r39_6=.tuple #[.slice a39a_6 l39a_6 c39a_6,.int .i64 n39b_6]/\∃ w84:World,YE 88 (Addr.add q6_5 1) (.slice a39a_6 l39a_6 c39a_6) w83 w84/\k_22 [.int .i64 (IntKind.i64.wrap (n7_6+1))] w84
 else
 LoopC (fun k_23 x_23 w85 =>
 Share (fun k_24=>∃ n8_11:Int,nth x_23 0=.int .i64 n8_11/\(bif decide (n8_11<2) then k_24 [.bool (n1==0)] w85 else k_24 [.bool false] w85)) fun x_24 w86 =>
 ∃ b48_6:Bool,nth x_24 0=.bool b48_6/\(bif b48_6 then
 ∃ (a53_6:YB) (l53_6 c53_6:Nat),YD 88 (Addr.add q6_5 2) w86 (.slice a53_6 l53_6 c53_6)/\∃ n8_12:Int,nth x_23 0=.int .i64 n8_12/\YC F_leveeref05_Set #[.slice a53_6 l53_6 c53_6,.int .i64 n8_12,.bool true] w86 fun r55_6 w87=>∃ (a55a_6:YB) (l55a_6 c55a_6:Nat),∃ n55b_6:Int,r55_6=.tuple #[.slice a55a_6 l55a_6 c55a_6,.int .i64 n55b_6]/\∃ w88:World,YE 88 (Addr.add q6_5 2) (.slice a55a_6 l55a_6 c55a_6) w87 w88/\k_23 [.int .i64 (IntKind.i64.wrap (n8_12+1)),.bool b48_6] w88
 else
 ∃ g59_6:Array Value,YD 183 q6_5 w86 (.agg g59_6)/\∃ w89:World,YE 183 q4 (.agg g59_6) w86 w89/\∃ gR4_12:Array Value,YD 183 q4 w89 (.agg gR4_12)/\K (.tuple #[.agg gR4_12,.int .i64 0]) w89)) [.int .i64 0,undef] w82)) [.int .i64 0] w80)))
theorem C_leveeref06_Fresh (g0:Array Value) (n1:Int) (w0:World) (K:YA) (h:D_leveeref06_Fresh g0 n1 w0 K):Cal Tryz.prog F_leveeref06_Fresh #[.agg g0,.int .i64 n1] w0 K :=
 denF_of (A:=⟨[7,8,25,48],[(7,3),(8,3),(25,4),(48,4)],[]⟩) Tryz.func213 (by kernel_rfl) (by kernel_rfl) (by kernel_rfl) h
def D_leveeref06_Put (g0:Array Value) (g1:Array Value) (w0:World) (K:YA):Prop :=
 ∃ q2:Addr,∃ w1:World,Ru (Instr.box 40 (.agg g0)) w0 (.pointer (some q2)) w1/\∃ q3:Addr,∃ w2:World,Ru (Instr.box 183 (.agg g1)) w1 (.pointer (some q3)) w2/\∃ g9:Array Value,YD 40 q2 w2 (.agg g9)/\∃ g10:Array Value,YD 183 q3 w2 (.agg g10)/\YC F_leveeref06_Right #[.agg g9,.agg g10] w2 fun r11 w3=>∃ b11:Bool,r11=.bool b11/\(bif !b11 then
 K (.tuple #[.slice none 0 0,.int .i64 1]) w3
 else
 ∃ g14:Array Value,YD 40 q2 w3 (.agg g14)/\∃ g15:Array Value,YD 183 q3 w3 (.agg g15)/\YC F_leveeref06_Free #[.agg g14,.agg g15] w3 fun r16 w4=>∃ n16a:Int,∃ n16b:Int,r16=.tuple #[.int .i64 n16a,.int .i64 n16b]/\∃ (a19:YB) (l19 c19:Nat),∃ w5:World,Ru (Instr.buildSlice 88 4 #[(0,.int .u8 76),(1,.int .u8 71),(2,.int .u8 82),(3,.int .u8 80)]) w4 (.slice a19 l19 c19) w5/\∃ (a20:YB) (l20 c20:Nat),∃ w6:World,Ru (convert 88 88 (.slice a19 l19 c19)) w5 (.slice a20 l20 c20) w6/\∃ n23:Int,YD 3 (Addr.add q3 0) w6 (.int .i64 n23)/\YC F_leveeref01_Bytes #[.int .u64 (IntKind.u64.wrap n23),.int .i64 2] w6 fun r25 w7=>∃ (a25:YB) (l25 c25:Nat),r25=.slice a25 l25 c25/\∃ (a26:YB) (l26 c26:Nat),∃ w8:World,Ru (Builtin.append_ #[88,88] 88 #[.slice a20 l20 c20,.slice a25 l25 c25]) w7 (.slice a26 l26 c26) w8/\YC F_leveeref01_Bytes #[.int .u64 (IntKind.u64.wrap n16a),.int .i64 2] w8 fun r30 w9=>∃ (a30:YB) (l30 c30:Nat),r30=.slice a30 l30 c30/\∃ (a31:YB) (l31 c31:Nat),∃ w10:World,Ru (Builtin.append_ #[88,88] 88 #[.slice a26 l26 c26,.slice a30 l30 c30]) w9 (.slice a31 l31 c31) w10/\YC F_leveeref01_Bytes #[.int .u64 (IntKind.u64.wrap n16b),.int .i64 2] w10 fun r35 w11=>∃ (a35:YB) (l35 c35:Nat),r35=.slice a35 l35 c35/\∃ (a36:YB) (l36 c36:Nat),∃ w12:World,Ru (Builtin.append_ #[88,88] 88 #[.slice a31 l31 c31,.slice a35 l35 c35]) w11 (.slice a36 l36 c36) w12/\LoopC (fun k x w13 =>
 ∃ (a8:YB) (l8 c8:Nat),nth x 0=.slice a8 l8 c8/\(bif decide ((l8:Int)<16) then
 ∃ (a41:YB) (l41 c41:Nat),∃ w14:World,Ru (Instr.buildSlice 88 1 #[(0,.int .u8 0)]) w13 (.slice a41 l41 c41) w14/\∃ (a42:YB) (l42 c42:Nat),∃ w15:World,Ru (Builtin.append_ #[88,88] 88 #[.slice a8 l8 c8,.slice a41 l41 c41]) w14 (.slice a42 l42 c42) w15/\k [.slice a42 l42 c42] w15
 else
 ∃ (a45:YB) (l45 c45:Nat),YD 88 (Addr.add q3 1) w13 (.slice a45 l45 c45)/\∃ (a46:YB) (l46 c46:Nat),∃ w16:World,Ru (Builtin.append_ #[88,88] 88 #[.slice a8 l8 c8,.slice a45 l45 c45]) w13 (.slice a46 l46 c46) w16/\∃ (a49:YB) (l49 c49:Nat),YD 88 (Addr.add q3 2) w16 (.slice a49 l49 c49)/\∃ (a50:YB) (l50 c50:Nat),∃ w17:World,Ru (Builtin.append_ #[88,88] 88 #[.slice a46 l46 c46,.slice a49 l49 c49]) w16 (.slice a50 l50 c50) w17/\LoopC (fun k_2 x_2 w18 =>
 ∃ (a8_2:YB) (l8_2 c8_2:Nat),nth x_2 0=.slice a8_2 l8_2 c8_2/\(bif decide ((l8_2:Int)<256) then
 ∃ (a55:YB) (l55 c55:Nat),∃ w19:World,Ru (Instr.buildSlice 88 1 #[(0,.int .u8 0)]) w18 (.slice a55 l55 c55) w19/\∃ (a56:YB) (l56 c56:Nat),∃ w20:World,Ru (Builtin.append_ #[88,88] 88 #[.slice a8_2 l8_2 c8_2,.slice a55 l55 c55]) w19 (.slice a56 l56 c56) w20/\k_2 [.slice a56 l56 c56] w20
 else
 K (.tuple #[.slice a8_2 l8_2 c8_2,.int .i64 0]) w18)) [.slice a50 l50 c50] w17)) [.slice a36 l36 c36] w12)
theorem C_leveeref06_Put (g0:Array Value) (g1:Array Value) (w0:World) (K:YA) (h:D_leveeref06_Put g0 g1 w0 K):Cal Tryz.prog F_leveeref06_Put #[.agg g0,.agg g1] w0 K :=
 denF_of (A:=⟨[8],[(8,88)],[]⟩) Tryz.func214 (by kernel_rfl) (by kernel_rfl) (by kernel_rfl) h
def D_leveeref07_Lay (a0:YB) (l0 c0:Nat) (n1:Int) (g2:Array Value) (w0:World) (K:YA):Prop :=
 ∃ q5:Addr,∃ w1:World,Ru (Instr.box 218 (.agg g2)) w0 (.pointer (some q5)) w1/\(bif (l0:Int) != 256 then
 K (.tuple #[.slice none 0 0,.int .i64 4]) w1
 else
 Share (fun k=>(bif decide (n1<0) then k [.bool true] w1 else k [.bool (decide (n1 > 3))] w1)) fun x w2 =>
 ∃ b18:Bool,nth x 0=.bool b18/\(bif b18 then
 K (.tuple #[.slice none 0 0,.int .i64 3]) w2
 else
 ∃ g20:Array Value,YD 218 q5 w2 (.agg g20)/\YC F_leveeref07_Put #[.agg g20] w2 fun r21 w3=>∃ (a21a:YB) (l21a c21a:Nat),∃ n21b:Int,r21=.tuple #[.slice a21a l21a c21a,.int .i64 n21b]/\(bif n21b != 0 then
 K (.tuple #[.slice none 0 0,.int .i64 n21b]) w3
 else
 YC F_leveeref01_Lay #[.slice a0 l0 c0,.int .i64 (IntKind.i64.wrap (64*n1)),.slice a21a l21a c21a] w3 fun r31 w4=>∃ (a31a:YB) (l31a c31a:Nat),∃ n31b:Int,r31=.tuple #[.slice a31a l31a c31a,.int .i64 n31b]/\K (.tuple #[.slice a31a l31a c31a,.int .i64 n31b]) w4)))
theorem C_leveeref07_Lay (a0:YB) (l0 c0:Nat) (n1:Int) (g2:Array Value) (w0:World) (K:YA) (h:D_leveeref07_Lay a0 l0 c0 n1 g2 w0 K):Cal Tryz.prog F_leveeref07_Lay #[.slice a0 l0 c0,.int .i64 n1,.agg g2] w0 K :=
 denF_of (A:=⟨[18],[(18,4)],[]⟩) Tryz.func215 (by kernel_rfl) (by kernel_rfl) (by kernel_rfl) h
def D_leveeref04_Right (g0:Array Value) (w0:World) (K:YA):Prop :=
 ∃ q1:Addr,∃ w1:World,Ru (Instr.box 232 (.agg g0)) w0 (.pointer (some q1)) w1/\Share (fun k=>∃ n4:Int,YD 2 (Addr.add q1 0) w1 (.int .i64 n4)/\(bif decide (n4 >= 1) then ∃ n8:Int,YD 2 (Addr.add q1 0) w1 (.int .i64 n8)/\(bif decide (n8<=4611686018427387904) then ∃ g13:Array Value,YD 40 (Addr.add q1 1) w1 (.agg g13)/\YC F_leveeref03_Right #[.agg g13] w1 fun r14 w2=>∃ b14:Bool,r14=.bool b14/\k [.bool b14] w2 else k [.bool false] w1) else k [.bool false] w1)) fun x w3 =>
 ∃ b2:Bool,nth x 0=.bool b2/\K (.bool b2) w3
theorem C_leveeref04_Right (g0:Array Value) (w0:World) (K:YA) (h:D_leveeref04_Right g0 w0 K):Cal Tryz.prog F_leveeref04_Right #[.agg g0] w0 K :=
 denF_of (A:=⟨[2],[(2,4)],[]⟩) Tryz.func216 (by kernel_rfl) (by kernel_rfl) (by kernel_rfl) h
def D_leveeref01_Bytes (n0:Int) (n1:Int) (w0:World) (K:YA):Prop :=
 LoopC (fun k x w1 =>
 ∃ n6:Int,nth x 1=.int .i64 n6/\(bif decide (n6<n1) then
 Share (fun k_2=>(bif decide (n6<8) then
 ∃ (a5:YB) (l5 c5:Nat),nth x 0=.slice a5 l5 c5/\∃ n19:Int,Al (eqS .shr 270 (.tmp 15) (.tmp 18) (.int .u64 n0) (.int .u64 (IntKind.u64.wrap (IntKind.i64.wrap (8*n6))))) (.int .u64 n19)/\∃ (a21:YB) (l21 c21:Nat),∃ w2:World,Ru (Instr.buildSlice 88 1 #[(0,.int .u8 (IntKind.u8.wrap n19))]) w1 (.slice a21 l21 c21) w2/\∃ (a22:YB) (l22 c22:Nat),∃ w3:World,Ru (Builtin.append_ #[88,88] 88 #[.slice a5 l5 c5,.slice a21 l21 c21]) w2 (.slice a22 l22 c22) w3/\k_2 [.slice a22 l22 c22] w3
 else
 ∃ (a5_2:YB) (l5_2 c5_2:Nat),nth x 0=.slice a5_2 l5_2 c5_2/\∃ (a24:YB) (l24 c24:Nat),∃ w4:World,Ru (Instr.buildSlice 88 1 #[(0,.int .u8 0)]) w1 (.slice a24 l24 c24) w4/\∃ (a25:YB) (l25 c25:Nat),∃ w5:World,Ru (Builtin.append_ #[88,88] 88 #[.slice a5_2 l5_2 c5_2,.slice a24 l24 c24]) w4 (.slice a25 l25 c25) w5/\k_2 [.slice a25 l25 c25] w5)) fun x_2 w6 =>
 k [nth x_2 0,.int .i64 (IntKind.i64.wrap (n6+1))] w6
 else
 ∃ (a5_3:YB) (l5_3 c5_3:Nat),nth x 0=.slice a5_3 l5_3 c5_3/\K (.slice a5_3 l5_3 c5_3) w1)) [.slice none 0 0,.int .i64 0] w0
theorem C_leveeref01_Bytes (n0:Int) (n1:Int) (w0:World) (K:YA) (h:D_leveeref01_Bytes n0 n1 w0 K):Cal Tryz.prog F_leveeref01_Bytes #[.int .u64 n0,.int .i64 n1] w0 K :=
 denF_of (A:=⟨[5,6],[(5,88),(6,3)],[]⟩) Tryz.func217 (by kernel_rfl) (by kernel_rfl) (by kernel_rfl) h
def D_leveeref01_Sum (a0:YB) (l0 c0:Nat) (w0:World) (K:YA):Prop :=
 LoopC (fun k x w1 =>
 ∃ n4:Int,nth x 1=.int .i64 n4/\(bif decide (n4<(l0:Int)) then
 ∃ n3:Int,nth x 0=.int .u32 n3/\∃ q15:Addr,Al (Instr.indexAt 88 (.slice a0 l0 c0) (.int .i64 n4)) (.pointer (some q15))/\∃ n16:Int,YD 5 q15 w1 (.int .u8 n16)/\LoopC (fun k_2 x_2 w2 =>
 ∃ n5:Int,nth x_2 1=.int .i64 n5/\(bif decide (n5<8) then
 ∃ n3_2:Int,nth x_2 0=.int .u32 n3_2/\Share (fun k_3=>(bif (IntKind.u32.wrap (bvAnd 32 n3_2 1))==1 then
 k_3 [.int .u32 (IntKind.u32.wrap (bvXor 32 (Int.fdiv n3_2 2) 3988292384))] w2
 else
 k_3 [.int .u32 (Int.fdiv n3_2 2)] w2)) fun x_3 w3 =>
 k_2 [nth x_3 0,.int .i64 (IntKind.i64.wrap (n5+1))] w3
 else
 k [nth x_2 0,.int .i64 (IntKind.i64.wrap (n4+1)),.int .i64 n5] w2)) [.int .u32 (IntKind.u32.wrap (bvXor 32 n3 (IntKind.u32.wrap n16))),.int .i64 0] w1
 else
 ∃ n3_3:Int,nth x 0=.int .u32 n3_3/\K (.int .u32 (IntKind.u32.wrap (bvXor 32 n3_3 4294967295))) w1)) [.int .u32 4294967295,.int .i64 0,undef] w0
theorem C_leveeref01_Sum (a0:YB) (l0 c0:Nat) (w0:World) (K:YA) (h:D_leveeref01_Sum a0 l0 c0 w0 K):Cal Tryz.prog F_leveeref01_Sum #[.slice a0 l0 c0] w0 K :=
 denF_of (A:=⟨[3,4,5],[(3,283),(4,3),(5,3)],[]⟩) Tryz.func218 (by kernel_rfl) (by kernel_rfl) (by kernel_rfl) h
def D_leveeref04_Get (a0:YB) (l0 c0:Nat) (w0:World) (K:YA):Prop :=
 ∃ q2:Addr,∃ w1:World,Ru (Instr.alloc 232 true (.tuple #[])) w0 (.pointer (some q2)) w1/\(bif (l0:Int) != 256 then
 ∃ g10:Array Value,Al (Instr.build 232 #[]) (.agg g10)/\∃ w2:World,YE 232 q2 (.agg g10) w1 w2/\∃ gR2:Array Value,YD 232 q2 w2 (.agg gR2)/\K (.tuple #[.agg gR2,.int .i64 4]) w2
 else
 ∃ (a12:YB) (l12 c12:Nat),Al (Instr.sliceAt 88 (.slice a0 l0 c0) none (some (.int .i64 4)) none) (.slice a12 l12 c12)/\∃ s13:ByteArray,Ru (convert 88 9 (.slice a12 l12 c12)) w1 (.string s13) w1/\(bif !((ByteArray.toList s13)==(ByteArray.toList (⟨#[76,86,69,69]⟩))) then
 ∃ g15:Array Value,Al (Instr.build 232 #[]) (.agg g15)/\∃ w3:World,YE 232 q2 (.agg g15) w1 w3/\∃ gR2_2:Array Value,YD 232 q2 w3 (.agg gR2_2)/\K (.tuple #[.agg gR2_2,.int .i64 8]) w3
 else
 ∃ (a17:YB) (l17 c17:Nat),Al (Instr.sliceAt 88 (.slice a0 l0 c0) (some (.int .i64 252)) none none) (.slice a17 l17 c17)/\∃ (a20:YB) (l20 c20:Nat),Al (Instr.sliceAt 88 (.slice a0 l0 c0) none (some (.int .i64 252)) none) (.slice a20 l20 c20)/\YC F_leveeref01_Get #[.slice a17 l17 c17] (drew w1) fun r18 w4=>∃ n18:Int,r18=.int .u64 n18/\YC F_leveeref01_Sum #[.slice a20 l20 c20] w4 fun r21 w5=>∃ n21:Int,r21=.int .u32 n21/\(bif n18 != (IntKind.u64.wrap n21) then
 ∃ g24:Array Value,Al (Instr.build 232 #[]) (.agg g24)/\∃ w6:World,YE 232 q2 (.agg g24) w5 w6/\∃ gR2_3:Array Value,YD 232 q2 w6 (.agg gR2_3)/\K (.tuple #[.agg gR2_3,.int .i64 7]) w6
 else
 ∃ (a26:YB) (l26 c26:Nat),Al (Instr.sliceAt 88 (.slice a0 l0 c0) (some (.int .i64 4)) (some (.int .i64 12)) none) (.slice a26 l26 c26)/\∃ (a30:YB) (l30 c30:Nat),Al (Instr.sliceAt 88 (.slice a0 l0 c0) (some (.int .i64 12)) (some (.int .i64 14)) none) (.slice a30 l30 c30)/\∃ (a34:YB) (l34 c34:Nat),Al (Instr.sliceAt 88 (.slice a0 l0 c0) (some (.int .i64 14)) (some (.int .i64 16)) none) (.slice a34 l34 c34)/\∃ (a38:YB) (l38 c38:Nat),Al (Instr.sliceAt 88 (.slice a0 l0 c0) (some (.int .i64 16)) (some (.int .i64 18)) none) (.slice a38 l38 c38)/\(YC F_leveeref01_Get #[.slice a26 l26 c26] (drew w5) fun r27 w7=>∃ n27:Int,r27=.int .u64 n27/\(YC F_leveeref01_Get #[.slice a30 l30 c30] w7 fun r31 w8=>∃ n31:Int,r31=.int .u64 n31/\(YC F_leveeref01_Get #[.slice a34 l34 c34] w8 fun r35 w9=>∃ n35:Int,r35=.int .u64 n35/\(YC F_leveeref01_Get #[.slice a38 l38 c38] w9 fun r39 w10=>∃ n39:Int,r39=.int .u64 n39/\∃ g41:Array Value,Al (Instr.build 40 #[(0,.int .i64 (IntKind.i64.wrap n31)),(1,.int .i64 (IntKind.i64.wrap n35)),(2,.int .i64 (IntKind.i64.wrap n39))]) (.agg g41)/\∃ g42:Array Value,Al (Instr.build 232 #[(0,.int .i64 (IntKind.i64.wrap n27)),(1,.agg g41)]) (.agg g42)/\∃ q4:Addr,∃ w11:World,Ru (Instr.alloc 232 true (.tuple #[])) w10 (.pointer (some q4)) w11/\∃ w12:World,YE 232 q4 (.agg g42) w11 w12/\∃ g44:Array Value,YD 232 q4 w12 (.agg g44)/\YC F_leveeref04_Put #[.agg g44] w12 fun r45 w13=>∃ (a45a:YB) (l45a c45a:Nat),∃ n45b:Int,r45=.tuple #[.slice a45a l45a c45a,.int .i64 n45b]/\(bif n45b != 0 then
 ∃ g50:Array Value,Al (Instr.build 232 #[]) (.agg g50)/\∃ w14:World,YE 232 q2 (.agg g50) w13 w14/\∃ gR2_4:Array Value,YD 232 q2 w14 (.agg gR2_4)/\K (.tuple #[.agg gR2_4,.int .i64 1]) w14
 else
 ∃ s52:ByteArray,Ru (convert 88 9 (.slice a45a l45a c45a)) w13 (.string s52) w13/\∃ s54:ByteArray,Ru (convert 88 9 (.slice a0 l0 c0)) w13 (.string s54) w13/\(bif !((ByteArray.toList s52)==(ByteArray.toList s54)) then
 ∃ g56:Array Value,Al (Instr.build 232 #[]) (.agg g56)/\∃ w15:World,YE 232 q2 (.agg g56) w13 w15/\∃ gR2_5:Array Value,YD 232 q2 w15 (.agg gR2_5)/\K (.tuple #[.agg gR2_5,.int .i64 8]) w15
 else
 ∃ g57:Array Value,YD 232 q4 w13 (.agg g57)/\∃ w16:World,YE 232 q2 (.agg g57) w13 w16/\∃ gR2_6:Array Value,YD 232 q2 w16 (.agg gR2_6)/\K (.tuple #[.agg gR2_6,.int .i64 0]) w16)))/\(∃ q4_2:Addr,∃ w17:World,Ru (Instr.alloc 232 true (.tuple #[])) w9 (.pointer (some q4_2)) w17/\YC F_leveeref01_Get #[.slice a38 l38 c38] w17 fun r39_2 w18=>∃ n39_2:Int,r39_2=.int .u64 n39_2/\∃ g41_2:Array Value,Al (Instr.build 40 #[(0,.int .i64 (IntKind.i64.wrap n31)),(1,.int .i64 (IntKind.i64.wrap n35)),(2,.int .i64 (IntKind.i64.wrap n39_2))]) (.agg g41_2)/\∃ g42_2:Array Value,Al (Instr.build 232 #[(0,.int .i64 (IntKind.i64.wrap n27)),(1,.agg g41_2)]) (.agg g42_2)/\∃ w19:World,YE 232 q4_2 (.agg g42_2) w18 w19/\∃ g44_2:Array Value,YD 232 q4_2 w19 (.agg g44_2)/\YC F_leveeref04_Put #[.agg g44_2] w19 fun r45_2 w20=>∃ (a45a_2:YB) (l45a_2 c45a_2:Nat),∃ n45b_2:Int,r45_2=.tuple #[.slice a45a_2 l45a_2 c45a_2,.int .i64 n45b_2]/\(bif n45b_2 != 0 then
 ∃ g50_2:Array Value,Al (Instr.build 232 #[]) (.agg g50_2)/\∃ w21:World,YE 232 q2 (.agg g50_2) w20 w21/\∃ gR2_7:Array Value,YD 232 q2 w21 (.agg gR2_7)/\K (.tuple #[.agg gR2_7,.int .i64 1]) w21
 else
 ∃ s52_2:ByteArray,Ru (convert 88 9 (.slice a45a_2 l45a_2 c45a_2)) w20 (.string s52_2) w20/\∃ s54_2:ByteArray,Ru (convert 88 9 (.slice a0 l0 c0)) w20 (.string s54_2) w20/\(bif !((ByteArray.toList s52_2)==(ByteArray.toList s54_2)) then
 ∃ g56_2:Array Value,Al (Instr.build 232 #[]) (.agg g56_2)/\∃ w22:World,YE 232 q2 (.agg g56_2) w20 w22/\∃ gR2_8:Array Value,YD 232 q2 w22 (.agg gR2_8)/\K (.tuple #[.agg gR2_8,.int .i64 8]) w22
 else
 ∃ g57_2:Array Value,YD 232 q4_2 w20 (.agg g57_2)/\∃ w23:World,YE 232 q2 (.agg g57_2) w20 w23/\∃ gR2_9:Array Value,YD 232 q2 w23 (.agg gR2_9)/\K (.tuple #[.agg gR2_9,.int .i64 0]) w23))))/\(∃ q4_3:Addr,∃ w24:World,Ru (Instr.alloc 232 true (.tuple #[])) w8 (.pointer (some q4_3)) w24/\YC F_leveeref01_Get #[.slice a34 l34 c34] w24 fun r35_2 w25=>∃ n35_2:Int,r35_2=.int .u64 n35_2/\YC F_leveeref01_Get #[.slice a38 l38 c38] w25 fun r39_3 w26=>∃ n39_3:Int,r39_3=.int .u64 n39_3/\∃ g41_3:Array Value,Al (Instr.build 40 #[(0,.int .i64 (IntKind.i64.wrap n31)),(1,.int .i64 (IntKind.i64.wrap n35_2)),(2,.int .i64 (IntKind.i64.wrap n39_3))]) (.agg g41_3)/\∃ g42_3:Array Value,Al (Instr.build 232 #[(0,.int .i64 (IntKind.i64.wrap n27)),(1,.agg g41_3)]) (.agg g42_3)/\∃ w27:World,YE 232 q4_3 (.agg g42_3) w26 w27/\∃ g44_3:Array Value,YD 232 q4_3 w27 (.agg g44_3)/\YC F_leveeref04_Put #[.agg g44_3] w27 fun r45_3 w28=>∃ (a45a_3:YB) (l45a_3 c45a_3:Nat),∃ n45b_3:Int,r45_3=.tuple #[.slice a45a_3 l45a_3 c45a_3,.int .i64 n45b_3]/\(bif n45b_3 != 0 then
 ∃ g50_3:Array Value,Al (Instr.build 232 #[]) (.agg g50_3)/\∃ w29:World,YE 232 q2 (.agg g50_3) w28 w29/\∃ gR2_10:Array Value,YD 232 q2 w29 (.agg gR2_10)/\K (.tuple #[.agg gR2_10,.int .i64 1]) w29
 else
 ∃ s52_3:ByteArray,Ru (convert 88 9 (.slice a45a_3 l45a_3 c45a_3)) w28 (.string s52_3) w28/\∃ s54_3:ByteArray,Ru (convert 88 9 (.slice a0 l0 c0)) w28 (.string s54_3) w28/\(bif !((ByteArray.toList s52_3)==(ByteArray.toList s54_3)) then
 ∃ g56_3:Array Value,Al (Instr.build 232 #[]) (.agg g56_3)/\∃ w30:World,YE 232 q2 (.agg g56_3) w28 w30/\∃ gR2_11:Array Value,YD 232 q2 w30 (.agg gR2_11)/\K (.tuple #[.agg gR2_11,.int .i64 8]) w30
 else
 ∃ g57_3:Array Value,YD 232 q4_3 w28 (.agg g57_3)/\∃ w31:World,YE 232 q2 (.agg g57_3) w28 w31/\∃ gR2_12:Array Value,YD 232 q2 w31 (.agg gR2_12)/\K (.tuple #[.agg gR2_12,.int .i64 0]) w31))))/\(∃ q4_4:Addr,∃ w32:World,Ru (Instr.alloc 232 true (.tuple #[])) w7 (.pointer (some q4_4)) w32/\YC F_leveeref01_Get #[.slice a30 l30 c30] w32 fun r31_2 w33=>∃ n31_2:Int,r31_2=.int .u64 n31_2/\YC F_leveeref01_Get #[.slice a34 l34 c34] w33 fun r35_3 w34=>∃ n35_3:Int,r35_3=.int .u64 n35_3/\YC F_leveeref01_Get #[.slice a38 l38 c38] w34 fun r39_4 w35=>∃ n39_4:Int,r39_4=.int .u64 n39_4/\∃ g41_4:Array Value,Al (Instr.build 40 #[(0,.int .i64 (IntKind.i64.wrap n31_2)),(1,.int .i64 (IntKind.i64.wrap n35_3)),(2,.int .i64 (IntKind.i64.wrap n39_4))]) (.agg g41_4)/\∃ g42_4:Array Value,Al (Instr.build 232 #[(0,.int .i64 (IntKind.i64.wrap n27)),(1,.agg g41_4)]) (.agg g42_4)/\∃ w36:World,YE 232 q4_4 (.agg g42_4) w35 w36/\∃ g44_4:Array Value,YD 232 q4_4 w36 (.agg g44_4)/\YC F_leveeref04_Put #[.agg g44_4] w36 fun r45_4 w37=>∃ (a45a_4:YB) (l45a_4 c45a_4:Nat),∃ n45b_4:Int,r45_4=.tuple #[.slice a45a_4 l45a_4 c45a_4,.int .i64 n45b_4]/\(bif n45b_4 != 0 then
 ∃ g50_4:Array Value,Al (Instr.build 232 #[]) (.agg g50_4)/\∃ w38:World,YE 232 q2 (.agg g50_4) w37 w38/\∃ gR2_13:Array Value,YD 232 q2 w38 (.agg gR2_13)/\K (.tuple #[.agg gR2_13,.int .i64 1]) w38
 else
 ∃ s52_4:ByteArray,Ru (convert 88 9 (.slice a45a_4 l45a_4 c45a_4)) w37 (.string s52_4) w37/\∃ s54_4:ByteArray,Ru (convert 88 9 (.slice a0 l0 c0)) w37 (.string s54_4) w37/\(bif !((ByteArray.toList s52_4)==(ByteArray.toList s54_4)) then
 ∃ g56_4:Array Value,Al (Instr.build 232 #[]) (.agg g56_4)/\∃ w39:World,YE 232 q2 (.agg g56_4) w37 w39/\∃ gR2_14:Array Value,YD 232 q2 w39 (.agg gR2_14)/\K (.tuple #[.agg gR2_14,.int .i64 8]) w39
 else
 ∃ g57_4:Array Value,YD 232 q4_4 w37 (.agg g57_4)/\∃ w40:World,YE 232 q2 (.agg g57_4) w37 w40/\∃ gR2_15:Array Value,YD 232 q2 w40 (.agg gR2_15)/\K (.tuple #[.agg gR2_15,.int .i64 0]) w40))))/\(∃ q4_5:Addr,∃ w41:World,Ru (Instr.alloc 232 true (.tuple #[])) (drew w5) (.pointer (some q4_5)) w41/\YC F_leveeref01_Get #[.slice a26 l26 c26] w41 fun r27_2 w42=>∃ n27_2:Int,r27_2=.int .u64 n27_2/\YC F_leveeref01_Get #[.slice a30 l30 c30] w42 fun r31_3 w43=>∃ n31_3:Int,r31_3=.int .u64 n31_3/\YC F_leveeref01_Get #[.slice a34 l34 c34] w43 fun r35_4 w44=>∃ n35_4:Int,r35_4=.int .u64 n35_4/\YC F_leveeref01_Get #[.slice a38 l38 c38] w44 fun r39_5 w45=>∃ n39_5:Int,r39_5=.int .u64 n39_5/\∃ g41_5:Array Value,Al (Instr.build 40 #[(0,.int .i64 (IntKind.i64.wrap n31_3)),(1,.int .i64 (IntKind.i64.wrap n35_4)),(2,.int .i64 (IntKind.i64.wrap n39_5))]) (.agg g41_5)/\∃ g42_5:Array Value,Al (Instr.build 232 #[(0,.int .i64 (IntKind.i64.wrap n27_2)),(1,.agg g41_5)]) (.agg g42_5)/\∃ w46:World,YE 232 q4_5 (.agg g42_5) w45 w46/\∃ g44_5:Array Value,YD 232 q4_5 w46 (.agg g44_5)/\YC F_leveeref04_Put #[.agg g44_5] w46 fun r45_5 w47=>∃ (a45a_5:YB) (l45a_5 c45a_5:Nat),∃ n45b_5:Int,r45_5=.tuple #[.slice a45a_5 l45a_5 c45a_5,.int .i64 n45b_5]/\(bif n45b_5 != 0 then
 ∃ g50_5:Array Value,Al (Instr.build 232 #[]) (.agg g50_5)/\∃ w48:World,YE 232 q2 (.agg g50_5) w47 w48/\∃ gR2_16:Array Value,YD 232 q2 w48 (.agg gR2_16)/\K (.tuple #[.agg gR2_16,.int .i64 1]) w48
 else
 ∃ s52_5:ByteArray,Ru (convert 88 9 (.slice a45a_5 l45a_5 c45a_5)) w47 (.string s52_5) w47/\∃ s54_5:ByteArray,Ru (convert 88 9 (.slice a0 l0 c0)) w47 (.string s54_5) w47/\(bif !((ByteArray.toList s52_5)==(ByteArray.toList s54_5)) then
 ∃ g56_5:Array Value,Al (Instr.build 232 #[]) (.agg g56_5)/\∃ w49:World,YE 232 q2 (.agg g56_5) w47 w49/\∃ gR2_17:Array Value,YD 232 q2 w49 (.agg gR2_17)/\K (.tuple #[.agg gR2_17,.int .i64 8]) w49
 else
 ∃ g57_5:Array Value,YD 232 q4_5 w47 (.agg g57_5)/\∃ w50:World,YE 232 q2 (.agg g57_5) w47 w50/\∃ gR2_18:Array Value,YD 232 q2 w50 (.agg gR2_18)/\K (.tuple #[.agg gR2_18,.int .i64 0]) w50))))))
theorem C_leveeref04_Get (a0:YB) (l0 c0:Nat) (w0:World) (K:YA) (h:D_leveeref04_Get a0 l0 c0 w0 K):Cal Tryz.prog F_leveeref04_Get #[.slice a0 l0 c0] w0 K :=
 denF_of (A:=⟨[],[],[]⟩) Tryz.func219 (by kernel_rfl) (by kernel_rfl) (by kernel_rfl) h
def D_leveeref03_Place (g0:Array Value) (n1:Int) (w0:World) (K:YA):Prop :=
 ∃ q2:Addr,∃ w1:World,Ru (Instr.box 40 (.agg g0)) w0 (.pointer (some q2)) w1/\∃ g9:Array Value,YD 40 q2 w1 (.agg g9)/\YC F_leveeref03_Right #[.agg g9] w1 fun r10 w2=>∃ b10:Bool,r10=.bool b10/\(bif !b10 then
 K (.tuple #[.int .i64 0,.int .i64 0,.int .i64 1]) w2
 else
 Share (fun k=>(bif decide (n1<0) then k [.bool true] w2 else ∃ g16:Array Value,YD 40 q2 w2 (.agg g16)/\YC F_leveeref03_Slots #[.agg g16] w2 fun r17 w3=>∃ n17:Int,r17=.int .i64 n17/\k [.bool (decide (n1 >= n17))] w3)) fun x w4 =>
 ∃ b19:Bool,nth x 0=.bool b19/\(bif b19 then
 K (.tuple #[.int .i64 0,.int .i64 0,.int .i64 3]) w4
 else
 ∃ n22:Int,YD 3 (Addr.add q2 1) w4 (.int .i64 n22)/\∃ n23:Int,Al (eqS .quo 3 (.tmp 20) (.tmp 22) (.int .i64 n1) (.int .i64 n22)) (.int .i64 n23)/\∃ n26:Int,YD 3 (Addr.add q2 1) w4 (.int .i64 n26)/\∃ n27:Int,Al (eqS .rem 3 (.tmp 24) (.tmp 26) (.int .i64 n1) (.int .i64 n26)) (.int .i64 n27)/\∃ n30:Int,YD 3 (Addr.add q2 0) w4 (.int .i64 n30)/\K (.tuple #[.int .i64 (IntKind.i64.wrap ((IntKind.i64.wrap ((IntKind.i64.wrap (2+(IntKind.i64.wrap (n23*n30))))+1))+(IntKind.i64.wrap (Int.tdiv n27 4)))),.int .i64 (Int.tmod n27 4),.int .i64 0]) w4))
theorem C_leveeref03_Place (g0:Array Value) (n1:Int) (w0:World) (K:YA) (h:D_leveeref03_Place g0 n1 w0 K):Cal Tryz.prog F_leveeref03_Place #[.agg g0,.int .i64 n1] w0 K :=
 denF_of (A:=⟨[19],[(19,4)],[]⟩) Tryz.func220 (by kernel_rfl) (by kernel_rfl) (by kernel_rfl) h
def D_leveeref07_Read (a0:YB) (l0 c0:Nat) (n1:Int) (w0:World) (K:YA):Prop :=
 ∃ q4:Addr,∃ w1:World,Ru (Instr.alloc 218 true (.tuple #[])) w0 (.pointer (some q4)) w1/\(bif (l0:Int) != 256 then
 ∃ g9:Array Value,Al (Instr.build 218 #[]) (.agg g9)/\∃ w2:World,YE 218 q4 (.agg g9) w1 w2/\∃ gR4:Array Value,YD 218 q4 w2 (.agg gR4)/\K (.tuple #[.agg gR4,.int .i64 4]) w2
 else
 Share (fun k=>(bif decide (n1<0) then k [.bool true] w1 else k [.bool (decide (n1 > 3))] w1)) fun x w3 =>
 ∃ b15:Bool,nth x 0=.bool b15/\(bif b15 then
 ∃ g16:Array Value,Al (Instr.build 218 #[]) (.agg g16)/\∃ w4:World,YE 218 q4 (.agg g16) w3 w4/\∃ gR4_2:Array Value,YD 218 q4 w4 (.agg gR4_2)/\K (.tuple #[.agg gR4_2,.int .i64 3]) w4
 else
 ∃ (a23:YB) (l23 c23:Nat),Al (Instr.sliceAt 88 (.slice a0 l0 c0) (some (.int .i64 (IntKind.i64.wrap (64*n1)))) (some (.int .i64 (IntKind.i64.wrap ((IntKind.i64.wrap (64*n1))+64)))) none) (.slice a23 l23 c23)/\YC F_leveeref07_Get #[.slice a23 l23 c23] w3 fun r24 w5=>∃ g24a:Array Value,∃ n24b:Int,r24=.tuple #[.agg g24a,.int .i64 n24b]/\∃ w6:World,YE 218 q4 (.agg g24a) w5 w6/\∃ gR4_3:Array Value,YD 218 q4 w6 (.agg gR4_3)/\K (.tuple #[.agg gR4_3,.int .i64 n24b]) w6))
theorem C_leveeref07_Read (a0:YB) (l0 c0:Nat) (n1:Int) (w0:World) (K:YA) (h:D_leveeref07_Read a0 l0 c0 n1 w0 K):Cal Tryz.prog F_leveeref07_Read #[.slice a0 l0 c0,.int .i64 n1] w0 K :=
 denF_of (A:=⟨[15],[(15,4)],[]⟩) Tryz.func221 (by kernel_rfl) (by kernel_rfl) (by kernel_rfl) h
def D_slices_IndexFunc_int64 (a0:YB) (l0 c0:Nat) (v1:Value) (w0:World) (K:YA):Prop :=
 LoopC (fun k x w1 =>
 ∃ n8:Int,nth x 0=.int .i64 n8/\(bif decide (n8<(l0:Int)) then
 ∃ q14:Addr,Al (Instr.indexAt 159 (.slice a0 l0 c0) (.int .i64 n8)) (.pointer (some q14))/\∃ n15:Int,YD 2 q14 w1 (.int .i64 n15)/\Dyn Tryz.prog v1 #[.int .i64 n15] w1 fun r16 w2=>∃ b16:Bool,r16=.bool b16/\(bif b16 then
 K (.int .i64 n8) w2
 else
 k [.int .i64 (IntKind.i64.wrap (n8+1))] w2)
 else
 K (.int .i64 ((-1))) w1)) [.int .i64 0] w0
theorem C_slices_IndexFunc_int64 (a0:YB) (l0 c0:Nat) (v1:Value) (w0:World) (K:YA) (h:D_slices_IndexFunc_int64 a0 l0 c0 v1 w0 K):Cal Tryz.prog F_slices_IndexFunc_int64 #[.slice a0 l0 c0,v1] w0 K :=
 denF_of (A:=⟨[8],[(8,3)],[]⟩) Tryz.func222 (by kernel_rfl) (by kernel_rfl) (by kernel_rfl) h
def D_num_within (a0:YB) (l0 c0:Nat) (n1:Int) (n2:Int) (w0:World) (K:YA):Prop :=
 Share (fun k=>(bif decide (n1 >= 0) then (bif decide (n2 >= 0) then (bif decide (n1<=(l0:Int)) then k [.bool (decide (n2<=(IntKind.i64.wrap ((l0:Int)-n1))))] w0 else k [.bool false] w0) else k [.bool false] w0) else k [.bool false] w0)) fun x w1 =>
 ∃ b6:Bool,nth x 0=.bool b6/\K (.bool b6) w1
theorem C_num_within (a0:YB) (l0 c0:Nat) (n1:Int) (n2:Int) (w0:World) (K:YA) (h:D_num_within a0 l0 c0 n1 n2 w0 K):Cal Tryz.prog F_num_within #[.slice a0 l0 c0,.int .i64 n1,.int .i64 n2] w0 K :=
 denF_of (A:=⟨[6],[(6,4)],[]⟩) Tryz.func223 (by kernel_rfl) (by kernel_rfl) (by kernel_rfl) h
def D_slices_Contains_int (a0:YB) (l0 c0:Nat) (n1:Int) (w0:World) (K:YA):Prop :=
 YC F_slices_Index_int #[.slice a0 l0 c0,.int .i64 n1] w0 fun r7 w1=>∃ n7:Int,r7=.int .i64 n7/\K (.bool (decide (n7 >= 0))) w1
theorem C_slices_Contains_int (a0:YB) (l0 c0:Nat) (n1:Int) (w0:World) (K:YA) (h:D_slices_Contains_int a0 l0 c0 n1 w0 K):Cal Tryz.prog F_slices_Contains_int #[.slice a0 l0 c0,.int .i64 n1] w0 K :=
 denF_of (A:=⟨[],[],[]⟩) Tryz.func224 (by kernel_rfl) (by kernel_rfl) (by kernel_rfl) h
end Go.Proofs.YtelhlihjihklbaaGreat
end
