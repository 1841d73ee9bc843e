/- Parts of the proof, in order: what the statement leans on. -/
import Derived.Test.YtandmpcjjaabmaaGreatBa
section
open Go Go.Den Go.Proofs
namespace Go.Proofs.YtandmpcjjaabmaaGreat
set_option maxRecDepth 100000
theorem denF_of {A:An} {f:FuncId} {fn:Func} {args:List Value} {w:World} {K:Value->World->Prop} {Q:Prop} (hf:Tryz.prog.funcs[f]?=some fn) (hok:okF args.length fn=true) (hn:(fn.name=="runtime.NumGoroutine")=false) (e:denF Tryz.prog A fn args w K=Q) (h:Q):Cal Tryz.prog f args.toArray w K:=denF_sound (A:=A) mixed hf hok hn (e.mpr h)
def D_leveelaw15_FileNil (n0:Int) (n1:Int) (a2:YB) (l2 c2:Nat) (w0:World) (K:YA):Prop :=
 YC F_file_New #[.pointer none] w0 fun r20 w1=>∃ p20:YB,r20=.pointer p20/\YC F_file_Files_Get #[.pointer p20,.int .i64 n0] w1 fun r24 w2=>∃ g24a:Array Value,∃ n24b:Int,r24=.tuple #[.agg g24a,.int .i64 n24b]/\∃ q8:Addr,∃ w3:World,Ru (Instr.alloc 51 true (.tuple #[])) w2 (.pointer (some q8)) w3/\∃ w4:World,YE 51 q8 (.agg g24a) w3 w4/\∃ g30:Array Value,Al (Instr.build 51 #[]) (.agg g30)/\YC F_file_Files_Put #[.pointer p20,.int .i64 n0,.agg g30,.slice none 0 0] w4 fun r31 w5=>∃ n31a:Int,∃ n31b:Int,r31=.tuple #[.int .i64 n31a,.int .i64 n31b]/\YC F_file_Files_Where #[.pointer p20,.int .i64 n0,.int .i64 0] w5 fun r37 w6=>∃ n37a:Int,∃ n37b:Int,r37=.tuple #[.int .i64 n37a,.int .i64 n37b]/\YC F_file_Files_Read #[.pointer p20,.int .i64 n0,.int .i64 n1,.int .i64 1] w6 fun r44 w7=>∃ (a44a:YB) (l44a c44a:Nat),∃ n44b:Int,r44=.tuple #[.slice a44a l44a c44a,.int .i64 n44b]/\∃ g47:Array Value,Al (Instr.build 39 #[]) (.agg g47)/\YC F_leveelaw15_begin #[.agg g47] w7 fun r48 w8=>∃ p48:YB,r48=.pointer p48/\(bif Option.isNone p48 then
 K (.bool false) w8
 else
 ∃ q52:Addr,(.pointer p48:Value)=.pointer (some q52)/\∃ p54:YB,YD 46 (Addr.add q52 2) w8 (.pointer p54)/\YC F_file_Files_Write #[.pointer p54,.int .i64 7,.int .i64 n1,.slice a2 l2 c2] w8 fun r57 w9=>∃ n57:Int,r57=.int .i64 n57/\∃ q60:Addr,(.pointer p48:Value)=.pointer (some q60)/\∃ p62:YB,YD 46 (Addr.add q60 2) w9 (.pointer p62)/\YC F_file_Files_Owned #[.pointer p62,.int .i64 7] w9 fun r63 w10=>∃ (a63a:YB) (l63a c63a:Nat),∃ n63b:Int,r63=.tuple #[.slice a63a l63a c63a,.int .i64 n63b]/\Share (fun k=>(bif Option.isNone p20 then YC F_file_Files_Alloc #[.pointer p20] w10 fun r70 w11=>∃ p70:YB,r70=.pointer p70/\(bif Option.isNone p70 then (bif n24b==2 then (bif n31b==2 then (bif n37b==2 then (bif n44b==2 then YC F_file_Files_Write #[.pointer p20,.int .i64 n0,.int .i64 n1,.slice a2 l2 c2] w11 fun r94 w12=>∃ n94:Int,r94=.int .i64 n94/\(bif n94==2 then YC F_file_Files_Resize #[.pointer p20,.int .i64 n0,.int .i64 n1] w12 fun r101 w13=>∃ n101:Int,r101=.int .i64 n101/\(bif n101==2 then YC F_file_Files_Drop #[.pointer p20,.int .i64 n0,.int .i64 0] w13 fun r107 w14=>∃ n107:Int,r107=.int .i64 n107/\(bif n107==2 then YC F_file_Files_Last #[.pointer p20,.int .i64 n0] w14 fun r113 w15=>∃ n113:Int,r113=.int .i64 n113/\(bif n113==0 then YC F_file_Files_Changes #[.pointer p20,.int .i64 n0] w15 fun r119 w16=>∃ (a119:YB) (l119 c119:Nat),r119=.slice a119 l119 c119/\(bif (l119:Int)==0 then (bif n57==20 then (bif n63b==20 then YC F_leveelaw15_known #[] w16 fun r132 w17=>∃ b132:Bool,r132=.bool b132/\k [.bool b132] w17 else k [.bool false] w16) else k [.bool false] w16) else k [.bool false] w16) else k [.bool false] w15) else k [.bool false] w14) else k [.bool false] w13) else k [.bool false] w12) else k [.bool false] w11) else k [.bool false] w11) else k [.bool false] w11) else k [.bool false] w11) else k [.bool false] w11) else k [.bool false] w10)) fun x w18 =>
 ∃ b6:Bool,nth x 0=.bool b6/\K (.bool b6) w18)
theorem C_leveelaw15_FileNil (n0:Int) (n1:Int) (a2:YB) (l2 c2:Nat) (w0:World) (K:YA) (h:D_leveelaw15_FileNil n0 n1 a2 l2 c2 w0 K):Cal Tryz.prog F_leveelaw15_FileNil #[.int .i64 n0,.int .i64 n1,.slice a2 l2 c2] w0 K :=
 denF_of (A:=⟨[6],[(6,4)],[]⟩) Tryz.func4 (by kernel_rfl) (by kernel_rfl) (by kernel_rfl) h
def D_file_Files_Put (p0:YB) (n1:Int) (g2:Array Value) (a3:YB) (l3 c3:Nat) (w0:World) (K:YA):Prop :=
 ∃ q6:Addr,∃ w1:World,Ru (Instr.box 51 (.agg g2)) w0 (.pointer (some q6)) w1/\(bif Option.isNone p0 then
 K (.tuple #[.int .i64 0,.int .i64 2]) w1
 else
 ∃ q16:Addr,(.pointer p0:Value)=.pointer (some q16)/\∃ p18:YB,YD 41 (Addr.add q16 1) (drew w1) (.pointer p18)/\∃ g20:Array Value,YD 51 q6 (drew w1) (.agg g20)/\YC F_file_real #[.slice a3 l3 c3] (drew w1) fun r22 w2=>∃ (a22:YB) (l22 c22:Nat),r22=.slice a22 l22 c22/\YD 41 (Addr.add q16 1) w2 (.pointer p18)/\YD 51 q6 w2 (.agg g20)/\YC F_vol_Vol_SetInode #[.pointer p18,.int .i64 n1,.agg g20,.slice a22 l22 c22] w2 fun r23 w3=>∃ n23a:Int,∃ n23b:Int,r23=.tuple #[.int .i64 n23a,.int .i64 n23b]/\Share (fun k=>(bif n23b==0 then
 ∃ q29:Addr,(.pointer p0:Value)=.pointer (some q29)/\∃ m31:Option Nat,YD 108 (Addr.add q29 2) w3 (.map m31)/\∃ w4:World,RuU (Instr.mapUpdate 108 (.map m31) (.int .i64 n1) (.int .i64 n23a)) w3 w4/\YC F_file_Files_note #[.pointer p0,.int .i64 n1,.int .i64 n23a] w4 fun r37 w5=>r37=.tuple #[]/\k [] w5
 else
 k [] w3)) fun x w6 =>
 K (.tuple #[.int .i64 n23a,.int .i64 n23b]) w6)
theorem C_file_Files_Put (p0:YB) (n1:Int) (g2:Array Value) (a3:YB) (l3 c3:Nat) (w0:World) (K:YA) (h:D_file_Files_Put p0 n1 g2 a3 l3 c3 w0 K):Cal Tryz.prog F_file_Files_Put #[.pointer p0,.int .i64 n1,.agg g2,.slice a3 l3 c3] w0 K :=
 denF_of (A:=⟨[],[],[]⟩) Tryz.func15 (by kernel_rfl) (by kernel_rfl) (by kernel_rfl) h
def D_file_New (p0:YB) (w0:World) (K:YA):Prop :=
 (bif Option.isNone p0 then
 K (.pointer none) w0
 else
 YC F_alloc_Alloc_Vol #[.pointer p0] w0 fun r7 w1=>∃ p7:YB,r7=.pointer p7/\∃ m8:Option Nat,∃ w2:World,Ru (Instr.makeMap 108 none) w1 (.map m8) w2/\∃ m9:Option Nat,∃ w3:World,Ru (Instr.makeMap 109 none) w2 (.map m9) w3/\∃ g10:Array Value,Al (Instr.build 111 #[(0,.pointer p0),(1,.pointer p7),(2,.map m8),(3,.map m9)]) (.agg g10)/\∃ q11:Addr,∃ w4:World,Ru (Instr.box 111 (.agg g10)) w3 (.pointer (some q11)) w4/\K (.pointer (some q11)) w4)
theorem C_file_New (p0:YB) (w0:World) (K:YA) (h:D_file_New p0 w0 K):Cal Tryz.prog F_file_New #[.pointer p0] w0 K :=
 denF_of (A:=⟨[],[],[]⟩) Tryz.func18 (by kernel_rfl) (by kernel_rfl) (by kernel_rfl) h
def D_file_Files_Get (p0:YB) (n1:Int) (w0:World) (K:YA):Prop :=
 ∃ q4:Addr,∃ w1:World,Ru (Instr.alloc 51 true (.tuple #[])) w0 (.pointer (some q4)) w1/\(bif Option.isNone p0 then
 ∃ g8:Array Value,Al (Instr.build 51 #[]) (.agg g8)/\∃ w2:World,YE 51 q4 (.agg g8) w1 w2/\∃ gR4:Array Value,YD 51 q4 w2 (.agg gR4)/\K (.tuple #[.agg gR4,.int .i64 2]) w2
 else
 ∃ q10:Addr,(.pointer p0:Value)=.pointer (some q10)/\∃ p12:YB,YD 41 (Addr.add q10 1) w1 (.pointer p12)/\YC F_vol_Vol_Inode #[.pointer p12,.int .i64 n1] w1 fun r14 w3=>∃ g14a:Array Value,∃ n14b:Int,r14=.tuple #[.agg g14a,.int .i64 n14b]/\∃ w4:World,YE 51 q4 (.agg g14a) w3 w4/\∃ gR4_2:Array Value,YD 51 q4 w4 (.agg gR4_2)/\K (.tuple #[.agg gR4_2,.int .i64 n14b]) w4)
theorem C_file_Files_Get (p0:YB) (n1:Int) (w0:World) (K:YA) (h:D_file_Files_Get p0 n1 w0 K):Cal Tryz.prog F_file_Files_Get #[.pointer p0,.int .i64 n1] w0 K :=
 denF_of (A:=⟨[],[],[]⟩) Tryz.func19 (by kernel_rfl) (by kernel_rfl) (by kernel_rfl) h
def D_file_Files_Where (p0:YB) (n1:Int) (n2:Int) (w0:World) (K:YA):Prop :=
 YC F_file_Files_thing #[.pointer p0,.int .i64 n1] w0 fun r14 w1=>∃ g14a:Array Value,∃ n14b:Int,r14=.tuple #[.agg g14a,.int .i64 n14b]/\∃ q8:Addr,∃ w2:World,Ru (Instr.alloc 51 true (.tuple #[])) w1 (.pointer (some q8)) w2/\∃ w3:World,YE 51 q8 (.agg g14a) w2 w3/\(bif n14b != 0 then
 K (.tuple #[.int .i64 0,.int .i64 n14b]) w3
 else
 YC F_ptr_Of #[.int .i64 n2] w3 fun r22 w4=>∃ g22a:Array Value,∃ n22b:Int,r22=.tuple #[.agg g22a,.int .i64 n22b]/\∃ q10:Addr,∃ w5:World,Ru (Instr.alloc 116 true (.tuple #[])) w4 (.pointer (some q10)) w5/\∃ w6:World,YE 116 q10 (.agg g22a) w5 w6/\(bif n22b != 0 then
 K (.tuple #[.int .i64 0,.int .i64 n22b]) w6
 else
 ∃ g29:Array Value,YD 51 q8 w6 (.agg g29)/\∃ g30:Array Value,YD 116 q10 w6 (.agg g30)/\YC F_file_Files_where #[.pointer p0,.agg g29,.agg g30] w6 fun r31 w7=>∃ n31:Int,r31=.int .i64 n31/\K (.tuple #[.int .i64 n31,.int .i64 0]) w7))
theorem C_file_Files_Where (p0:YB) (n1:Int) (n2:Int) (w0:World) (K:YA) (h:D_file_Files_Where p0 n1 n2 w0 K):Cal Tryz.prog F_file_Files_Where #[.pointer p0,.int .i64 n1,.int .i64 n2] w0 K :=
 denF_of (A:=⟨[],[],[]⟩) Tryz.func20 (by kernel_rfl) (by kernel_rfl) (by kernel_rfl) h
def D_file_Files_Read (p0:YB) (n1:Int) (n2:Int) (n3:Int) (w0:World) (K:YA):Prop :=
 YC F_file_Files_thing #[.pointer p0,.int .i64 n1] w0 fun r24 w1=>∃ g24a:Array Value,∃ n24b:Int,r24=.tuple #[.agg g24a,.int .i64 n24b]/\∃ q10:Addr,∃ w2:World,Ru (Instr.alloc 51 true (.tuple #[])) w1 (.pointer (some q10)) w2/\∃ w3:World,YE 51 q10 (.agg g24a) w2 w3/\(bif n24b != 0 then
 K (.tuple #[.slice none 0 0,.int .i64 n24b]) w3
 else
 Share (fun k=>(bif decide (n2<0) then k [.bool true] w3 else (bif decide (n3<0) then k [.bool true] w3 else k [.bool (decide (n3 > 4096))] w3))) fun x w4 =>
 ∃ b31:Bool,nth x 0=.bool b31/\(bif b31 then
 K (.tuple #[.slice none 0 0,.int .i64 3]) w4
 else
 ∃ n45:Int,YD 2 (Addr.add q10 2) w4 (.int .i64 n45)/\(bif decide (n2 >= n45) then
 K (.tuple #[.slice none 0 0,.int .i64 0]) w4
 else
 ∃ n49:Int,YD 2 (Addr.add q10 2) w4 (.int .i64 n49)/\∃ (a54:YB) (l54 c54:Nat),∃ w5:World,Ru (Instr.makeSlice 55 (.int .i64 (if (IntKind.i64.wrap (n49-n2))<n3 then (IntKind.i64.wrap (n49-n2)) else n3)) (.int .i64 (if (IntKind.i64.wrap (n49-n2))<n3 then (IntKind.i64.wrap (n49-n2)) else n3))) w4 (.slice a54 l54 c54) w5/\LoopC (fun k_2 x_2 w6 =>
 ∃ n13:Int,nth x_2 1=.int .i64 n13/\(bif decide (n13<(if (IntKind.i64.wrap (n49-n2))<n3 then (IntKind.i64.wrap (n49-n2)) else n3)) then
 ∃ n2_2:Int,nth x_2 0=.int .i64 n2_2/\YC F_ptr_Of #[.int .i64 (IntKind.i64.wrap (Int.tdiv n2_2 256))] w6 fun r69 w7=>∃ g69a:Array Value,∃ n69b:Int,r69=.tuple #[.agg g69a,.int .i64 n69b]/\∃ q16:Addr,∃ w8:World,Ru (Instr.alloc 116 true (.tuple #[])) w7 (.pointer (some q16)) w8/\∃ w9:World,YE 116 q16 (.agg g69a) w8 w9/\∃ g73:Array Value,YD 51 q10 w9 (.agg g73)/\∃ g74:Array Value,YD 116 q16 w9 (.agg g74)/\YC F_file_Files_where #[.pointer p0,.agg g73,.agg g74] w9 fun r75 w10=>∃ n75:Int,r75=.int .i64 n75/\Share (fun k_3=>(bif n75 != 0 then
 ∃ q80:Addr,(.pointer p0:Value)=.pointer (some q80)/\∃ p82:YB,YD 41 (Addr.add q80 1) w10 (.pointer p82)/\YC F_vol_Vol_Data #[.pointer p82,.int .i64 n75] w10 fun r84 w11=>∃ (a84a:YB) (l84a c84a:Nat),∃ n84b:Int,r84=.tuple #[.slice a84a l84a c84a,.int .i64 n84b]/\(bif n84b != 0 then
 K (.tuple #[.slice none 0 0,.int .i64 n84b]) w11
 else
 ∃ (a95:YB) (l95 c95:Nat),Al (Instr.sliceAt 55 (.slice a54 l54 c54) (some (.int .i64 n13)) (some (.int .i64 (IntKind.i64.wrap (n13+(if (IntKind.i64.wrap (256-(Int.tmod n2_2 256)))<(IntKind.i64.wrap ((if (IntKind.i64.wrap (n49-n2))<n3 then (IntKind.i64.wrap (n49-n2)) else n3)-n13)) then (IntKind.i64.wrap (256-(Int.tmod n2_2 256))) else (IntKind.i64.wrap ((if (IntKind.i64.wrap (n49-n2))<n3 then (IntKind.i64.wrap (n49-n2)) else n3)-n13))))))) none) (.slice a95 l95 c95)/\∃ (a98:YB) (l98 c98:Nat),Al (Instr.sliceAt 55 (.slice a84a l84a c84a) (some (.int .i64 (Int.tmod n2_2 256))) none none) (.slice a98 l98 c98)/\∃ n99:Int,∃ w12:World,Ru (Builtin.copy_ #[55,55] 3 #[.slice a95 l95 c95,.slice a98 l98 c98]) (drew w11) (.int .i64 n99) w12/\k_3 [] w12)
 else
 k_3 [] w10)) fun x_3 w13 =>
 k_2 [.int .i64 (IntKind.i64.wrap (n2_2+(if (IntKind.i64.wrap (256-(Int.tmod n2_2 256)))<(IntKind.i64.wrap ((if (IntKind.i64.wrap (n49-n2))<n3 then (IntKind.i64.wrap (n49-n2)) else n3)-n13)) then (IntKind.i64.wrap (256-(Int.tmod n2_2 256))) else (IntKind.i64.wrap ((if (IntKind.i64.wrap (n49-n2))<n3 then (IntKind.i64.wrap (n49-n2)) else n3)-n13))))),.int .i64 (IntKind.i64.wrap (n13+(if (IntKind.i64.wrap (256-(Int.tmod n2_2 256)))<(IntKind.i64.wrap ((if (IntKind.i64.wrap (n49-n2))<n3 then (IntKind.i64.wrap (n49-n2)) else n3)-n13)) then (IntKind.i64.wrap (256-(Int.tmod n2_2 256))) else (IntKind.i64.wrap ((if (IntKind.i64.wrap (n49-n2))<n3 then (IntKind.i64.wrap (n49-n2)) else n3)-n13)))))] w13
 else
 K (.tuple #[.slice a54 l54 c54,.int .i64 0]) w6)) [.int .i64 n2,.int .i64 0] w5)))
theorem C_file_Files_Read (p0:YB) (n1:Int) (n2:Int) (n3:Int) (w0:World) (K:YA) (h:D_file_Files_Read p0 n1 n2 n3 w0 K):Cal Tryz.prog F_file_Files_Read #[.pointer p0,.int .i64 n1,.int .i64 n2,.int .i64 n3] w0 K :=
 denF_of (A:=⟨[2,13,31],[(2,2),(13,3),(31,4)],[]⟩) Tryz.func21 (by kernel_rfl) (by kernel_rfl) (by kernel_rfl) h
def D_leveelaw15_begin (g0:Array Value) (w0:World) (K:YA):Prop :=
 ∃ q1:Addr,∃ w1:World,Ru (Instr.box 39 (.agg g0)) w0 (.pointer (some q1)) w1/\∃ g9:Array Value,YD 39 q1 w1 (.agg g9)/\YC F_leveelaw15_shape #[.agg g9] w1 fun r10 w2=>∃ g10:Array Value,r10=.agg g10/\∃ w3:World,YE 39 q1 (.agg g10) w2 w3/\∃ g12:Array Value,YD 39 q1 w3 (.agg g12)/\YC F_leveeref03_Size #[.agg g12] w3 fun r13 w4=>∃ n13:Int,r13=.int .i64 n13/\YC F_disk_New #[.int .i64 n13] w4 fun r14 w5=>∃ p14a:YB,∃ n14b:Int,r14=.tuple #[.pointer p14a,.int .i64 n14b]/\∃ g18:Array Value,YD 39 q1 w5 (.agg g18)/\YC F_vol_Format #[.pointer p14a,.agg g18] w5 fun r19 w6=>∃ n19:Int,r19=.int .i64 n19/\YC F_vol_Mount #[.pointer p14a] w6 fun r22 w7=>∃ p22a:YB,∃ n22b:Int,r22=.tuple #[.pointer p22a,.int .i64 n22b]/\Share (fun k=>(bif n22b != 0 then k [.bool true] w7 else k [.bool (Option.isNone p22a)] w7)) fun x w8 =>
 ∃ b30:Bool,nth x 0=.bool b30/\(bif b30 then
 K (.pointer none) w8
 else
 YC F_alloc_New #[.pointer p22a] w8 fun r34 w9=>∃ p34:YB,r34=.pointer p34/\YC F_file_New #[.pointer p34] w9 fun r35 w10=>∃ p35:YB,r35=.pointer p35/\∃ g36:Array Value,Al (Instr.build 69 #[(0,.pointer p14a),(1,.pointer p22a),(2,.pointer p35)]) (.agg g36)/\∃ q37:Addr,∃ w11:World,Ru (Instr.box 69 (.agg g36)) w10 (.pointer (some q37)) w11/\LoopC (fun k_2 x_2 w12 =>
 ∃ n8:Int,nth x_2 0=.int .i64 n8/\(bif decide (n8<3) then
 ∃ q44:Addr,(.pointer (some q37):Value)=.pointer (some q44)/\∃ (a46:YB) (l46 c46:Nat),YD 64 (Addr.add q44 3) w12 (.slice a46 l46 c46)/\∃ (a47:YB) (l47 c47:Nat),∃ w13:World,Ru (Instr.buildSlice 64 1 #[(0,.int .i64 0)]) w12 (.slice a47 l47 c47) w13/\∃ (a48:YB) (l48 c48:Nat),∃ w14:World,Ru (Builtin.append_ #[64,64] 64 #[.slice a46 l46 c46,.slice a47 l47 c47]) w13 (.slice a48 l48 c48) w14/\∃ q49:Addr,(.pointer (some q37):Value)=.pointer (some q49)/\∃ w15:World,YE 64 (Addr.add q49 3) (.slice a48 l48 c48) w14 w15/\∃ q53:Addr,(.pointer (some q37):Value)=.pointer (some q53)/\∃ (a55:YB) (l55 c55:Nat),YD 65 (Addr.add q53 4) w15 (.slice a55 l55 c55)/\∃ (a56:YB) (l56 c56:Nat),∃ w16:World,Ru (Instr.buildSlice 65 1 #[(0,.int .i64 0)]) w15 (.slice a56 l56 c56) w16/\∃ (a57:YB) (l57 c57:Nat),∃ w17:World,Ru (Builtin.append_ #[65,65] 65 #[.slice a55 l55 c55,.slice a56 l56 c56]) w16 (.slice a57 l57 c57) w17/\∃ q58:Addr,(.pointer (some q37):Value)=.pointer (some q58)/\∃ w18:World,YE 65 (Addr.add q58 4) (.slice a57 l57 c57) w17 w18/\∃ q62:Addr,(.pointer (some q37):Value)=.pointer (some q62)/\∃ (a64:YB) (l64 c64:Nat),YD 66 (Addr.add q62 5) w18 (.slice a64 l64 c64)/\∃ (a65:YB) (l65 c65:Nat),∃ w19:World,Ru (Instr.buildSlice 66 1 #[(0,.pointer none)]) w18 (.slice a65 l65 c65) w19/\∃ (a66:YB) (l66 c66:Nat),∃ w20:World,Ru (Builtin.append_ #[66,66] 66 #[.slice a64 l64 c64,.slice a65 l65 c65]) w19 (.slice a66 l66 c66) w20/\∃ q67:Addr,(.pointer (some q37):Value)=.pointer (some q67)/\∃ w21:World,YE 66 (Addr.add q67 5) (.slice a66 l66 c66) w20 w21/\YC F_leveelaw15_play_make #[.pointer (some q37),.int .i64 n8] w21 fun r71 w22=>∃ b71:Bool,r71=.bool b71/\(bif !b71 then
 K (.pointer none) w22
 else
 k_2 [.int .i64 (IntKind.i64.wrap (n8+1))] w22)
 else
 K (.pointer (some q37)) w12)) [.int .i64 0] w11)
theorem C_leveelaw15_begin (g0:Array Value) (w0:World) (K:YA) (h:D_leveelaw15_begin g0 w0 K):Cal Tryz.prog F_leveelaw15_begin #[.agg g0] w0 K :=
 denF_of (A:=⟨[8,30],[(8,3),(30,4)],[]⟩) Tryz.func22 (by kernel_rfl) (by kernel_rfl) (by kernel_rfl) h
def D_file_Files_Write (p0:YB) (n1:Int) (n2:Int) (a3:YB) (l3 c3:Nat) (w0:World) (K:YA):Prop :=
 YC F_file_Files_thing #[.pointer p0,.int .i64 n1] w0 fun r26 w1=>∃ g26a:Array Value,∃ n26b:Int,r26=.tuple #[.agg g26a,.int .i64 n26b]/\∃ q9:Addr,∃ w2:World,Ru (Instr.alloc 51 true (.tuple #[])) w1 (.pointer (some q9)) w2/\∃ w3:World,YE 51 q9 (.agg g26a) w2 w3/\(bif n26b != 0 then
 K (.int .i64 n26b) w3
 else
 Share (fun k=>(bif decide (n2<0) then k [.bool true] w3 else k [.bool (decide ((l3:Int) > 4096))] w3)) fun x w4 =>
 ∃ b33:Bool,nth x 0=.bool b33/\(bif b33 then
 K (.int .i64 3) w4
 else
 Share (fun k_2=>(bif decide (n2 > 1066496) then k_2 [.bool true] w4 else k_2 [.bool (decide ((l3:Int) > (IntKind.i64.wrap (1066496-n2))))] w4)) fun x_2 w5 =>
 ∃ b41:Bool,nth x_2 0=.bool b41/\(bif b41 then
 K (.int .i64 28) w5
 else
 Share (fun k_3=>∃ n53:Int,YD 3 (Addr.add q9 0) w5 (.int .i64 n53)/\(bif n53==3 then k_3 [.bool (decide ((IntKind.i64.wrap (n2+(l3:Int))) > 255))] w5 else k_3 [.bool false] w5)) fun x_3 w6 =>
 ∃ b51:Bool,nth x_3 0=.bool b51/\(bif b51 then
 K (.int .i64 1) w6
 else
 (bif (l3:Int)==0 then
 K (.int .i64 0) w6
 else
 ∃ q68:Addr,(.pointer p0:Value)=.pointer (some q68)/\∃ p70:YB,YD 73 (Addr.add q68 0) w6 (.pointer p70)/\YC F_alloc_Alloc_Free #[.pointer p70] w6 fun r71 w7=>∃ n71a:Int,∃ n71b:Int,r71=.tuple #[.int .i64 n71a,.int .i64 n71b]/\YC F_ptr_Need #[.int .i64 n2,.int .i64 ((l3:Int))] w7 fun r78 w8=>∃ n78:Int,r78=.int .i64 n78/\(bif decide (n71a<n78) then
 K (.int .i64 26) w8
 else
 ∃ g82:Array Value,YD 51 q9 (drew w8) (.agg g82)/\∃ g84:Array Value,YD 51 q9 (drew w8) (.agg g84)/\YC F_file_Files_near #[.pointer p0,.agg g84,.int .i64 (IntKind.i64.wrap (Int.tdiv n2 256))] (drew w8) fun r87 w9=>∃ n87:Int,r87=.int .i64 n87/\YD 51 q9 w9 (.agg g82)/\∃ g88:Array Value,Al (Instr.build 127 #[(0,.pointer p0),(1,.int .i64 n1),(2,.agg g82),(4,.int .i64 n87)]) (.agg g88)/\∃ q89:Addr,∃ w10:World,Ru (Instr.box 127 (.agg g88)) w9 (.pointer (some q89)) w10/\LoopC (fun k_4 x_4 w11 =>
 ∃ n15:Int,nth x_4 0=.int .i64 n15/\(bif decide (n15<(IntKind.i64.wrap (n2+(l3:Int)))) then
 ∃ (a114:YB) (l114 c114:Nat),Al (Instr.sliceAt 55 (.slice a3 l3 c3) (some (.int .i64 (IntKind.i64.wrap (n15-n2)))) (some (.int .i64 (if (IntKind.i64.wrap ((IntKind.i64.wrap (n15-n2))+(IntKind.i64.wrap (256-(Int.tmod n15 256)))))<(IntKind.i64.wrap ((IntKind.i64.wrap (n2+(l3:Int)))-n2)) then (IntKind.i64.wrap ((IntKind.i64.wrap (n15-n2))+(IntKind.i64.wrap (256-(Int.tmod n15 256))))) else (IntKind.i64.wrap ((IntKind.i64.wrap (n2+(l3:Int)))-n2))))) none) (.slice a114 l114 c114)/\∃ (a115:YB) (l115 c115:Nat),∃ w12:World,Ru (Instr.makeSlice 55 (.int .i64 256) (.int .i64 256)) w11 (.slice a115 l115 c115) w12/\∃ (a118:YB) (l118 c118:Nat),Al (Instr.sliceAt 55 (.slice a115 l115 c115) (some (.int .i64 (Int.tmod n15 256))) none none) (.slice a118 l118 c118)/\∃ n120:Int,∃ w13:World,Ru (Builtin.copy_ #[55,55] 3 #[.slice a118 l118 c118,.slice a114 l114 c114]) w12 (.int .i64 n120) w13/\YC F_file_writer_block #[.pointer (some q89),.int .i64 (IntKind.i64.wrap (Int.tdiv n15 256)),.slice a115 l115 c115] w13 fun r126 w14=>∃ n126a:Int,∃ b126b:Bool,∃ n126c:Int,r126=.tuple #[.int .i64 n126a,.bool b126b,.int .i64 n126c]/\Share (fun k_5=>(bif n126c==0 then k_5 [.bool (!b126b)] w14 else k_5 [.bool false] w14)) fun x_5 w15 =>
 ∃ b135:Bool,nth x_5 0=.bool b135/\Share (fun k_6=>(bif b135 then
 YC F_file_Files_set #[.pointer p0,.int .i64 n1,.int .i64 n126a,.int .i64 (Int.tmod n15 256),.slice a114 l114 c114,.slice none 0 0] w15 fun r142 w16=>∃ n142a:Int,∃ n142b:Int,r142=.tuple #[.int .i64 n142a,.int .i64 n142b]/\∃ n150:Int,YD 2 (Addr.add q9 2) w16 (.int .i64 n150)/\Share (fun k_7=>(bif decide ((IntKind.i64.wrap (n15+(l114:Int))) > n150) then
 ∃ q154:Addr,(.pointer (some q89):Value)=.pointer (some q154)/\∃ (a156:YB) (l156 c156:Nat),YD 65 (Addr.add q154 14) w16 (.slice a156 l156 c156)/\∃ (a158:YB) (l158 c158:Nat),∃ w17:World,Ru (Instr.buildSlice 65 1 #[(0,.int .i64 n142a)]) w16 (.slice a158 l158 c158) w17/\∃ (a159:YB) (l159 c159:Nat),∃ w18:World,Ru (Builtin.append_ #[65,65] 65 #[.slice a156 l156 c156,.slice a158 l158 c158]) w17 (.slice a159 l159 c159) w18/\∃ q160:Addr,(.pointer (some q89):Value)=.pointer (some q160)/\∃ w19:World,YE 65 (Addr.add q160 14) (.slice a159 l159 c159) w18 w19/\k_7 [] w19
 else
 k_7 [] w16)) fun x_7 w20 =>
 k_6 [.int .i64 n142b] w20
 else
 k_6 [.int .i64 n126c] w15)) fun x_6 w21 =>
 ∃ n21:Int,nth x_6 0=.int .i64 n21/\(bif n21 != 0 then
 K (.int .i64 n21) w21
 else
 k_4 [.int .i64 (IntKind.i64.wrap (n15+(l114:Int))),.int .i64 n21,.bool b135] w21)
 else
 ∃ n171:Int,YD 2 (Addr.add q9 2) w11 (.int .i64 n171)/\∃ q174:Addr,(.pointer (some q89):Value)=.pointer (some q174)/\∃ w22:World,YE 2 (Addr.add (Addr.add q174 2) 2) (.int .i64 (if (IntKind.i64.wrap (n2+(l3:Int))) > n171 then (IntKind.i64.wrap (n2+(l3:Int))) else n171)) w11 w22/\∃ n178:Int,YD 3 (Addr.add q9 0) w22 (.int .i64 n178)/\Share (fun k_8=>(bif n178==2 then
 ∃ q182:Addr,(.pointer (some q89):Value)=.pointer (some q182)/\∃ n185:Int,YD 2 (Addr.add (Addr.add q182 2) 2) w22 (.int .i64 n185)/\∃ q190:Addr,(.pointer (some q89):Value)=.pointer (some q190)/\∃ w23:World,YE 2 (Addr.add (Addr.add q190 2) 2) (.int .i64 (IntKind.i64.wrap ((IntKind.i64.wrap (Int.tdiv (IntKind.i64.wrap ((IntKind.i64.wrap (n185+256))-1)) 256))*256))) w22 w23/\k_8 [] w23
 else
 k_8 [] w22)) fun x_8 w24 =>
 ∃ q194:Addr,(.pointer (some q89):Value)=.pointer (some q194)/\∃ g196:Array Value,YD 51 (Addr.add q194 2) (drew w24) (.agg g196)/\∃ g197:Array Value,YD 51 q9 (drew w24) (.agg g197)/\∃ b198:Bool,Al (eqS .eql 51 (.tmp 196) (.tmp 197) (.agg g196) (.agg g197)) (.bool b198)/\(bif b198 then
 K (.int .i64 0) (drew w24)
 else
 ∃ q203:Addr,(.pointer (some q89):Value)=.pointer (some q203)/\∃ g205:Array Value,YD 51 (Addr.add q203 2) (drew (drew w24)) (.agg g205)/\∃ q207:Addr,(.pointer (some q89):Value)=.pointer (some q207)/\∃ (a209:YB) (l209 c209:Nat),YD 65 (Addr.add q207 14) (drew (drew w24)) (.slice a209 l209 c209)/\YC F_file_Files_Put #[.pointer p0,.int .i64 n1,.agg g205,.slice a209 l209 c209] (drew (drew w24)) fun r210 w25=>∃ n210a:Int,∃ n210b:Int,r210=.tuple #[.int .i64 n210a,.int .i64 n210b]/\K (.int .i64 n210b) w25))) [.int .i64 n2,undef,undef] w10))))))
theorem C_file_Files_Write (p0:YB) (n1:Int) (n2:Int) (a3:YB) (l3 c3:Nat) (w0:World) (K:YA) (h:D_file_Files_Write p0 n1 n2 a3 l3 c3 w0 K):Cal Tryz.prog F_file_Files_Write #[.pointer p0,.int .i64 n1,.int .i64 n2,.slice a3 l3 c3] w0 K :=
 denF_of (A:=⟨[15,21,33,41,51,135],[(15,2),(21,24),(33,4),(41,4),(51,4),(135,4)],[]⟩) Tryz.func23 (by kernel_rfl) (by kernel_rfl) (by kernel_rfl) h
def D_file_Files_Owned (p0:YB) (n1:Int) (w0:World) (K:YA):Prop :=
 YC F_file_Files_thing #[.pointer p0,.int .i64 n1] w0 fun r12 w1=>∃ g12a:Array Value,∃ n12b:Int,r12=.tuple #[.agg g12a,.int .i64 n12b]/\∃ q6:Addr,∃ w2:World,Ru (Instr.alloc 51 true (.tuple #[])) w1 (.pointer (some q6)) w2/\∃ w3:World,YE 51 q6 (.agg g12a) w2 w3/\(bif n12b != 0 then
 K (.tuple #[.slice none 0 0,.int .i64 n12b]) w3
 else
 ∃ q8:Addr,∃ w4:World,Ru (Instr.alloc 64 true (.tuple #[])) w3 (.pointer (some q8)) w4/\∃ g19:Array Value,YD 51 q6 w4 (.agg g19)/\YC F_file_Files_each #[.pointer p0,.agg g19,.func (.func F_file_Files_Owned_1) #[] #[.pointer (some q8)]] w4 fun r21 w5=>r21=.tuple #[]/\∃ (a22:YB) (l22 c22:Nat),YD 64 q8 w5 (.slice a22 l22 c22)/\YC F_slices_Sort_int #[.slice a22 l22 c22] w5 fun r23 w6=>r23=.tuple #[]/\∃ (a24:YB) (l24 c24:Nat),YD 64 q8 w6 (.slice a24 l24 c24)/\K (.tuple #[.slice a24 l24 c24,.int .i64 0]) w6)
theorem C_file_Files_Owned (p0:YB) (n1:Int) (w0:World) (K:YA) (h:D_file_Files_Owned p0 n1 w0 K):Cal Tryz.prog F_file_Files_Owned #[.pointer p0,.int .i64 n1] w0 K :=
 denF_of (A:=⟨[],[],[]⟩) Tryz.func24 (by kernel_rfl) (by kernel_rfl) (by kernel_rfl) h
def D_file_Files_Alloc (p0:YB) (w0:World) (K:YA):Prop :=
 (bif Option.isNone p0 then
 K (.pointer none) w0
 else
 ∃ q6:Addr,(.pointer p0:Value)=.pointer (some q6)/\∃ p8:YB,YD 73 (Addr.add q6 0) w0 (.pointer p8)/\K (.pointer p8) w0)
theorem C_file_Files_Alloc (p0:YB) (w0:World) (K:YA) (h:D_file_Files_Alloc p0 w0 K):Cal Tryz.prog F_file_Files_Alloc #[.pointer p0] w0 K :=
 denF_of (A:=⟨[],[],[]⟩) Tryz.func25 (by kernel_rfl) (by kernel_rfl) (by kernel_rfl) h
def D_file_Files_Resize (p0:YB) (n1:Int) (n2:Int) (w0:World) (K:YA):Prop :=
 YC F_file_Files_thing #[.pointer p0,.int .i64 n1] w0 fun r12 w1=>∃ g12a:Array Value,∃ n12b:Int,r12=.tuple #[.agg g12a,.int .i64 n12b]/\∃ q7:Addr,∃ w2:World,Ru (Instr.alloc 51 true (.tuple #[])) w1 (.pointer (some q7)) w2/\∃ w3:World,YE 51 q7 (.agg g12a) w2 w3/\(bif n12b != 0 then
 K (.int .i64 n12b) w3
 else
 (bif decide (n2<0) then
 K (.int .i64 3) w3
 else
 (bif decide (n2 > 1066496) then
 K (.int .i64 28) w3
 else
 Share (fun k=>∃ n27:Int,YD 3 (Addr.add q7 0) w3 (.int .i64 n27)/\(bif n27==3 then k [.bool true] w3 else ∃ n31:Int,YD 3 (Addr.add q7 0) w3 (.int .i64 n31)/\(bif n31==2 then k [.bool ((Int.tmod n2 256) != 0)] w3 else k [.bool false] w3))) fun x w4 =>
 ∃ b25:Bool,nth x 0=.bool b25/\(bif b25 then
 K (.int .i64 1) w4
 else
 ∃ n42:Int,YD 2 (Addr.add q7 2) w4 (.int .i64 n42)/\(bif decide (n2<n42) then
 ∃ g46:Array Value,YD 51 q7 w4 (.agg g46)/\YC F_file_Files_shorten #[.pointer p0,.int .i64 n1,.agg g46,.int .i64 n2] w4 fun r48 w5=>∃ n48:Int,r48=.int .i64 n48/\K (.int .i64 n48) w5
 else
 ∃ n52:Int,YD 2 (Addr.add q7 2) w4 (.int .i64 n52)/\(bif n2==n52 then
 K (.int .i64 0) w4
 else
 ∃ w6:World,YE 2 (Addr.add q7 2) (.int .i64 n2) w4 w6/\∃ g59:Array Value,YD 51 q7 w6 (.agg g59)/\YC F_file_Files_Put #[.pointer p0,.int .i64 n1,.agg g59,.slice none 0 0] w6 fun r60 w7=>∃ n60a:Int,∃ n60b:Int,r60=.tuple #[.int .i64 n60a,.int .i64 n60b]/\K (.int .i64 n60b) w7))))))
theorem C_file_Files_Resize (p0:YB) (n1:Int) (n2:Int) (w0:World) (K:YA) (h:D_file_Files_Resize p0 n1 n2 w0 K):Cal Tryz.prog F_file_Files_Resize #[.pointer p0,.int .i64 n1,.int .i64 n2] w0 K :=
 denF_of (A:=⟨[25],[(25,4)],[]⟩) Tryz.func26 (by kernel_rfl) (by kernel_rfl) (by kernel_rfl) h
def D_file_Files_Drop (p0:YB) (n1:Int) (n2:Int) (w0:World) (K:YA):Prop :=
 YC F_file_Files_Owned #[.pointer p0,.int .i64 n1] w0 fun r15 w1=>∃ (a15a:YB) (l15a c15a:Nat),∃ n15b:Int,r15=.tuple #[.slice a15a l15a c15a,.int .i64 n15b]/\(bif n15b != 0 then
 K (.int .i64 n15b) w1
 else
 ∃ g24:Array Value,Al (Instr.build 51 #[]) (.agg g24)/\∃ (a26:YB) (l26 c26:Nat),∃ w2:World,Ru (Instr.buildSlice 65 1 #[(0,.int .i64 n2)]) w1 (.slice a26 l26 c26) w2/\YC F_file_Files_Put #[.pointer p0,.int .i64 n1,.agg g24,.slice a26 l26 c26] w2 fun r27 w3=>∃ n27a:Int,∃ n27b:Int,r27=.tuple #[.int .i64 n27a,.int .i64 n27b]/\(bif n27b != 0 then
 K (.int .i64 n27b) w3
 else
 LoopC (fun k x w4 =>
 ∃ n35:Int,nth x 0=.int .i64 n35/\(bif decide (n35<(l15a:Int)) then
 ∃ q37:Addr,Al (Instr.indexAt 64 (.slice a15a l15a c15a) (.int .i64 n35)) (.pointer (some q37))/\∃ n38:Int,YD 3 q37 w4 (.int .i64 n38)/\∃ q40:Addr,(.pointer p0:Value)=.pointer (some q40)/\∃ p42:YB,YD 73 (Addr.add q40 0) w4 (.pointer p42)/\YC F_alloc_Alloc_FreeBlock #[.pointer p42,.int .i64 n38,.int .i64 n27a] w4 fun r45 w5=>∃ n45:Int,r45=.int .i64 n45/\k [.int .i64 (IntKind.i64.wrap (n35+1))] w5
 else
 ∃ q48:Addr,(.pointer p0:Value)=.pointer (some q48)/\∃ p50:YB,YD 73 (Addr.add q48 0) w4 (.pointer p50)/\YC F_alloc_Alloc_FreeSlot #[.pointer p50,.int .i64 n1,.int .i64 n27a] w4 fun r53 w6=>∃ n53:Int,r53=.int .i64 n53/\K (.int .i64 0) w6)) [.int .i64 0] w3))
theorem C_file_Files_Drop (p0:YB) (n1:Int) (n2:Int) (w0:World) (K:YA) (h:D_file_Files_Drop p0 n1 n2 w0 K):Cal Tryz.prog F_file_Files_Drop #[.pointer p0,.int .i64 n1,.int .i64 n2] w0 K :=
 denF_of (A:=⟨[35],[(35,3)],[]⟩) Tryz.func27 (by kernel_rfl) (by kernel_rfl) (by kernel_rfl) h
def D_file_Files_Last (p0:YB) (n1:Int) (w0:World) (K:YA):Prop :=
 (bif Option.isNone p0 then
 K (.int .i64 0) w0
 else
 ∃ q8:Addr,(.pointer p0:Value)=.pointer (some q8)/\∃ m10:Option Nat,YD 108 (Addr.add q8 2) w0 (.map m10)/\∃ n12:Int,Ru (Instr.lookup 108 (.map m10) (.int .i64 n1) false) w0 (.int .i64 n12) w0/\K (.int .i64 n12) w0)
theorem C_file_Files_Last (p0:YB) (n1:Int) (w0:World) (K:YA) (h:D_file_Files_Last p0 n1 w0 K):Cal Tryz.prog F_file_Files_Last #[.pointer p0,.int .i64 n1] w0 K :=
 denF_of (A:=⟨[],[],[]⟩) Tryz.func28 (by kernel_rfl) (by kernel_rfl) (by kernel_rfl) h
def D_file_Files_Changes (p0:YB) (n1:Int) (w0:World) (K:YA):Prop :=
 (bif Option.isNone p0 then
 K (.slice none 0 0) w0
 else
 ∃ q8:Addr,(.pointer p0:Value)=.pointer (some q8)/\∃ m10:Option Nat,YD 109 (Addr.add q8 3) (drew w0) (.map m10)/\YC F_file_Files_open #[.pointer p0,.int .i64 n1] (drew w0) fun r14 w1=>∃ (a14:YB) (l14 c14:Nat),r14=.slice a14 l14 c14/\YD 109 (Addr.add q8 3) w1 (.map m10)/\∃ w2:World,RuU (Instr.mapUpdate 109 (.map m10) (.int .i64 n1) (.slice a14 l14 c14)) w1 w2/\∃ q16:Addr,(.pointer p0:Value)=.pointer (some q16)/\∃ m18:Option Nat,YD 109 (Addr.add q16 3) w2 (.map m18)/\∃ (a20:YB) (l20 c20:Nat),Ru (Instr.lookup 109 (.map m18) (.int .i64 n1) false) w2 (.slice a20 l20 c20) w2/\YC F_slices_Clone_int64 #[.slice a20 l20 c20] w2 fun r21 w3=>∃ (a21:YB) (l21 c21:Nat),r21=.slice a21 l21 c21/\K (.slice a21 l21 c21) w3)
theorem C_file_Files_Changes (p0:YB) (n1:Int) (w0:World) (K:YA) (h:D_file_Files_Changes p0 n1 w0 K):Cal Tryz.prog F_file_Files_Changes #[.pointer p0,.int .i64 n1] w0 K :=
 denF_of (A:=⟨[],[],[]⟩) Tryz.func29 (by kernel_rfl) (by kernel_rfl) (by kernel_rfl) h
def D_leveelaw15_known (w0:World) (K:YA):Prop :=
 ∃ g7:Array Value,Al (Instr.build 39 #[]) (.agg g7)/\YC F_leveelaw15_begin #[.agg g7] w0 fun r8 w1=>∃ p8:YB,r8=.pointer p8/\Share (fun k=>(bif Option.isNone p8 then k [.bool true] w1 else ∃ q13:Addr,(.pointer p8:Value)=.pointer (some q13)/\∃ p15:YB,YD 46 (Addr.add q13 2) w1 (.pointer p15)/\k [.bool (Option.isNone p15)] w1)) fun x w2 =>
 ∃ b17:Bool,nth x 0=.bool b17/\(bif b17 then
 K (.bool false) w2
 else
 ∃ q19:Addr,(.pointer p8:Value)=.pointer (some q19)/\∃ p21:YB,YD 46 (Addr.add q19 2) (drew w2) (.pointer p21)/\∃ q23:Addr,(.pointer p8:Value)=.pointer (some q23)/\∃ (a25:YB) (l25 c25:Nat),YD 64 (Addr.add q23 3) (drew w2) (.slice a25 l25 c25)/\∃ q26:Addr,Al (Instr.indexAt 64 (.slice a25 l25 c25) (.int .i64 0)) (.pointer (some q26))/\∃ n27:Int,YD 3 q26 (drew w2) (.int .i64 n27)/\∃ (a28:YB) (l28 c28:Nat),∃ w3:World,Ru (Instr.makeSlice 55 (.int .i64 300) (.int .i64 300)) (drew w2) (.slice a28 l28 c28) w3/\YD 46 (Addr.add q19 2) w3 (.pointer p21)/\YD 64 (Addr.add q23 3) w3 (.slice a25 l25 c25)/\YD 3 q26 w3 (.int .i64 n27)/\YC F_file_Files_Write #[.pointer p21,.int .i64 n27,.int .i64 0,.slice a28 l28 c28] w3 fun r29 w4=>∃ n29:Int,r29=.int .i64 n29/\∃ q32:Addr,(.pointer p8:Value)=.pointer (some q32)/\∃ p34:YB,YD 46 (Addr.add q32 2) (drew w4) (.pointer p34)/\∃ q36:Addr,(.pointer p8:Value)=.pointer (some q36)/\∃ (a38:YB) (l38 c38:Nat),YD 64 (Addr.add q36 3) (drew w4) (.slice a38 l38 c38)/\∃ q39:Addr,Al (Instr.indexAt 64 (.slice a38 l38 c38) (.int .i64 0)) (.pointer (some q39))/\∃ n40:Int,YD 3 q39 (drew w4) (.int .i64 n40)/\YC F_file_Files_Read #[.pointer p34,.int .i64 n40,.int .i64 299,.int .i64 9] (drew w4) fun r41 w5=>∃ (a41a:YB) (l41a c41a:Nat),∃ n41b:Int,r41=.tuple #[.slice a41a l41a c41a,.int .i64 n41b]/\∃ q46:Addr,(.pointer p8:Value)=.pointer (some q46)/\∃ p48:YB,YD 46 (Addr.add q46 2) (drew w5) (.pointer p48)/\∃ q50:Addr,(.pointer p8:Value)=.pointer (some q50)/\∃ (a52:YB) (l52 c52:Nat),YD 64 (Addr.add q50 3) (drew w5) (.slice a52 l52 c52)/\∃ q53:Addr,Al (Instr.indexAt 64 (.slice a52 l52 c52) (.int .i64 0)) (.pointer (some q53))/\∃ n54:Int,YD 3 q53 (drew w5) (.int .i64 n54)/\YC F_file_Files_Data #[.pointer p48,.int .i64 n54] (drew w5) fun r55 w6=>∃ (a55a:YB) (l55a c55a:Nat),∃ n55b:Int,r55=.tuple #[.slice a55a l55a c55a,.int .i64 n55b]/\Share (fun k_2=>(bif n29==0 then (bif (l41a:Int)==1 then (bif n41b==0 then (bif (l55a:Int)==2 then (bif n55b==0 then ∃ q80:Addr,(.pointer p8:Value)=.pointer (some q80)/\∃ p82:YB,YD 46 (Addr.add q80 2) (drew w6) (.pointer p82)/\∃ q84:Addr,(.pointer p8:Value)=.pointer (some q84)/\∃ (a86:YB) (l86 c86:Nat),YD 64 (Addr.add q84 3) (drew w6) (.slice a86 l86 c86)/\∃ q87:Addr,Al (Instr.indexAt 64 (.slice a86 l86 c86) (.int .i64 0)) (.pointer (some q87))/\∃ n88:Int,YD 3 q87 (drew w6) (.int .i64 n88)/\YC F_file_Files_Last #[.pointer p82,.int .i64 n88] (drew w6) fun r89 w7=>∃ n89:Int,r89=.int .i64 n89/\(bif decide (n89 > 0) then ∃ q94:Addr,(.pointer p8:Value)=.pointer (some q94)/\∃ p96:YB,YD 46 (Addr.add q94 2) w7 (.pointer p96)/\∃ q98:Addr,(.pointer p8:Value)=.pointer (some q98)/\∃ (a100:YB) (l100 c100:Nat),YD 64 (Addr.add q98 3) w7 (.slice a100 l100 c100)/\∃ q101:Addr,Al (Instr.indexAt 64 (.slice a100 l100 c100) (.int .i64 0)) (.pointer (some q101))/\∃ n102:Int,YD 3 q101 w7 (.int .i64 n102)/\YC F_file_Files_Changes #[.pointer p96,.int .i64 n102] w7 fun r103 w8=>∃ (a103:YB) (l103 c103:Nat),r103=.slice a103 l103 c103/\k_2 [.bool (decide ((l103:Int) > 0))] w8 else k_2 [.bool false] w7) else k_2 [.bool false] (drew w6)) else k_2 [.bool false] (drew w6)) else k_2 [.bool false] (drew w6)) else k_2 [.bool false] (drew w6)) else k_2 [.bool false] (drew w6))) fun x_2 w9 =>
 ∃ b0:Bool,nth x_2 0=.bool b0/\K (.bool b0) w9)
theorem C_leveelaw15_known (w0:World) (K:YA) (h:D_leveelaw15_known  w0 K):Cal Tryz.prog F_leveelaw15_known #[] w0 K :=
 denF_of (A:=⟨[0,17],[(0,4),(17,4)],[]⟩) Tryz.func30 (by kernel_rfl) (by kernel_rfl) (by kernel_rfl) h
def D_ptr_Need (n0:Int) (n1:Int) (w0:World) (K:YA):Prop :=
 YC F_ptr_Span #[.int .i64 n0,.int .i64 n1] w0 fun r11 w1=>∃ n11a:Int,∃ n11b:Int,r11=.tuple #[.int .i64 n11a,.int .i64 n11b]/\(bif decide (n11b<n11a) then
 K (.int .i64 0) w1
 else
 K (.int .i64 (IntKind.i64.wrap ((IntKind.i64.wrap ((IntKind.i64.wrap ((IntKind.i64.wrap (n11b-n11a))+1))+(IntKind.i64.wrap (Int.tdiv (IntKind.i64.wrap ((IntKind.i64.wrap (n11b-n11a))+1)) 64))))+3))) w1)
theorem C_ptr_Need (n0:Int) (n1:Int) (w0:World) (K:YA) (h:D_ptr_Need n0 n1 w0 K):Cal Tryz.prog F_ptr_Need #[.int .i64 n0,.int .i64 n1] w0 K :=
 denF_of (A:=⟨[],[],[]⟩) Tryz.func44 (by kernel_rfl) (by kernel_rfl) (by kernel_rfl) h
def D_disk_New (n0:Int) (w0:World) (K:YA):Prop :=
 Share (fun k=>(bif decide (n0<1) then k [.bool true] w0 else k [.bool (decide (n0 > 4096))] w0)) fun x w1 =>
 ∃ b9:Bool,nth x 0=.bool b9/\(bif b9 then
 K (.tuple #[.pointer none,.int .i64 1]) w1
 else
 ∃ (a11:YB) (l11 c11:Nat),∃ w2:World,Ru (Instr.makeSlice 148 (.int .i64 n0) (.int .i64 n0)) w1 (.slice a11 l11 c11) w2/\∃ m12:Option Nat,∃ w3:World,Ru (Instr.makeMap 149 none) w2 (.map m12) w3/\∃ g13:Array Value,Al (Instr.build 151 #[(0,.slice a11 l11 c11),(1,.map m12),(2,.int .i64 ((-1)))]) (.agg g13)/\∃ q14:Addr,∃ w4:World,Ru (Instr.box 151 (.agg g13)) w3 (.pointer (some q14)) w4/\K (.tuple #[.pointer (some q14),.int .i64 0]) w4)
theorem C_disk_New (n0:Int) (w0:World) (K:YA) (h:D_disk_New n0 w0 K):Cal Tryz.prog F_disk_New #[.int .i64 n0] w0 K :=
 denF_of (A:=⟨[9],[(9,4)],[]⟩) Tryz.func46 (by kernel_rfl) (by kernel_rfl) (by kernel_rfl) h
def D_leveeref03_Size (g0:Array Value) (w0:World) (K:YA):Prop :=
 ∃ q1:Addr,∃ w1:World,Ru (Instr.box 39 (.agg g0)) w0 (.pointer (some q1)) w1/\∃ g3:Array Value,YD 39 q1 w1 (.agg g3)/\YC F_leveeref03_Right #[.agg g3] w1 fun r4 w2=>∃ b4:Bool,r4=.bool b4/\(bif !b4 then
 K (.int .i64 0) w2
 else
 ∃ n7:Int,YD 3 (Addr.add q1 2) w2 (.int .i64 n7)/\∃ n9:Int,YD 3 (Addr.add q1 0) w2 (.int .i64 n9)/\K (.int .i64 (IntKind.i64.wrap (2+(IntKind.i64.wrap (n7*n9))))) w2)
theorem C_leveeref03_Size (g0:Array Value) (w0:World) (K:YA) (h:D_leveeref03_Size g0 w0 K):Cal Tryz.prog F_leveeref03_Size #[.agg g0] w0 K :=
 denF_of (A:=⟨[],[],[]⟩) Tryz.func47 (by kernel_rfl) (by kernel_rfl) (by kernel_rfl) h
def D_vol_Format (p0:YB) (g1:Array Value) (w0:World) (K:YA):Prop :=
 ∃ q3:Addr,∃ w1:World,Ru (Instr.box 39 (.agg g1)) w0 (.pointer (some q3)) w1/\(bif Option.isNone p0 then
 K (.int .i64 2) w1
 else
 ∃ g12:Array Value,YD 39 q3 w1 (.agg g12)/\YC F_geo_Right #[.agg g12] w1 fun r13 w2=>∃ b13:Bool,r13=.bool b13/\(bif !b13 then
 K (.int .i64 1) w2
 else
 ∃ g18:Array Value,YD 39 q3 (drew w2) (.agg g18)/\YC F_disk_Disk_Len #[.pointer p0] (drew w2) fun r17 w3=>∃ n17:Int,r17=.int .i64 n17/\YD 39 q3 w3 (.agg g18)/\YC F_geo_Size #[.agg g18] w3 fun r19 w4=>∃ n19:Int,r19=.int .i64 n19/\(bif decide (n17<n19) then
 K (.int .i64 4) w4
 else
 LoopC (fun k x w5 =>
 ∃ n21:Int,nth x 0=.int .i64 n21/\(bif decide (n21<2) then
 ∃ (a26:YB) (l26 c26:Nat),∃ w6:World,Ru (Instr.makeSlice 55 (.int .i64 256) (.int .i64 256)) w5 (.slice a26 l26 c26) w6/\YC F_disk_Disk_Write #[.pointer p0,.int .i64 n21,.slice a26 l26 c26] w6 fun r27 w7=>∃ n27:Int,r27=.int .i64 n27/\k [.int .i64 (IntKind.i64.wrap (n21+1))] w7
 else
 YC F_disk_Disk_Flush #[.pointer p0] w5 fun r30 w8=>∃ n30:Int,r30=.int .i64 n30/\∃ g31:Array Value,YD 39 q3 w8 (.agg g31)/\YC F_vol_each #[.agg g31,.int .i64 0,.func (.func F_disk_Disk_Write) #[.pointer p0] #[]] w8 fun r34 w9=>∃ n34:Int,r34=.int .i64 n34/\YC F_disk_Disk_Flush #[.pointer p0] w9 fun r36 w10=>∃ n36:Int,r36=.int .i64 n36/\∃ g38:Array Value,YD 39 q3 w10 (.agg g38)/\∃ g39:Array Value,Al (Instr.build 158 #[(0,.int .i64 1),(1,.agg g38)]) (.agg g39)/\YC F_super_Put #[.agg g39] w10 fun r40 w11=>∃ (a40a:YB) (l40a c40a:Nat),∃ n40b:Int,r40=.tuple #[.slice a40a l40a c40a,.int .i64 n40b]/\YC F_disk_Disk_Write #[.pointer p0,.int .i64 1,.slice a40a l40a c40a] w11 fun r45 w12=>∃ n45:Int,r45=.int .i64 n45/\YC F_disk_Disk_Flush #[.pointer p0] w12 fun r47 w13=>∃ n47:Int,r47=.int .i64 n47/\K (.int .i64 n47) w13)) [.int .i64 0] w4)))
theorem C_vol_Format (p0:YB) (g1:Array Value) (w0:World) (K:YA) (h:D_vol_Format p0 g1 w0 K):Cal Tryz.prog F_vol_Format #[.pointer p0,.agg g1] w0 K :=
 denF_of (A:=⟨[21],[(21,3)],[]⟩) Tryz.func48 (by kernel_rfl) (by kernel_rfl) (by kernel_rfl) h
def D_vol_Mount (p0:YB) (w0:World) (K:YA):Prop :=
 YC F_disk_Disk_Len #[.pointer p0] w0 fun r24 w1=>∃ n24:Int,r24=.int .i64 n24/\YC F_patch_Open #[.pointer p0,.int .i64 (if 1 > n24 then 1 else n24)] w1 fun r26 w2=>∃ p26a:YB,∃ n26b:Int,r26=.tuple #[.pointer p26a,.int .i64 n26b]/\(bif n26b != 0 then
 K (.tuple #[.pointer none,.int .i64 n26b]) w2
 else
 YC F_disk_Disk_Read #[.pointer p0,.int .i64 0] w2 fun r34 w3=>∃ (a34a:YB) (l34a c34a:Nat),∃ n34b:Int,r34=.tuple #[.slice a34a l34a c34a,.int .i64 n34b]/\YC F_disk_Disk_Read #[.pointer p0,.int .i64 1] w3 fun r39 w4=>∃ (a39a:YB) (l39a c39a:Nat),∃ n39b:Int,r39=.tuple #[.slice a39a l39a c39a,.int .i64 n39b]/\YC F_disk_Disk_Len #[.pointer p0] w4 fun r46 w5=>∃ n46:Int,r46=.int .i64 n46/\YC F_super_Choose #[.slice a34a l34a c34a,.slice a39a l39a c39a,.int .i64 n46] w5 fun r47 w6=>∃ g47a:Array Value,∃ n47b:Int,∃ n47c:Int,r47=.tuple #[.agg g47a,.int .i64 n47b,.int .i64 n47c]/\∃ q10:Addr,∃ w7:World,Ru (Instr.alloc 158 true (.tuple #[])) w6 (.pointer (some q10)) w7/\∃ w8:World,YE 158 q10 (.agg g47a) w7 w8/\(bif n47c != 0 then
 K (.tuple #[.pointer none,.int .i64 n47c]) w8
 else
 ∃ g54:Array Value,YD 158 q10 (drew w8) (.agg g54)/\YC F_push_New #[] (drew w8) fun r56 w9=>∃ p56:YB,r56=.pointer p56/\YD 158 q10 w9 (.agg g54)/\∃ g57:Array Value,Al (Instr.build 167 #[(0,.agg g54),(1,.pointer p26a),(2,.pointer p56),(3,.int .i64 0)]) (.agg g57)/\∃ q58:Addr,∃ w10:World,Ru (Instr.box 167 (.agg g57)) w9 (.pointer (some q58)) w10/\∃ n61:Int,YD 3 (Addr.add (Addr.add q10 1) 2) w10 (.int .i64 n61)/\LoopC (fun k x w11 =>
 ∃ n62:Int,nth x 0=.int .i64 n62/\(bif decide (n62<n61) then
 YC F_vol_Vol_Head #[.pointer (some q58),.int .i64 n62] w11 fun r68 w12=>∃ g68a:Array Value,∃ n68b:Int,r68=.tuple #[.agg g68a,.int .i64 n68b]/\∃ q14:Addr,∃ w13:World,Ru (Instr.alloc 171 true (.tuple #[])) w12 (.pointer (some q14)) w13/\∃ w14:World,YE 171 q14 (.agg g68a) w13 w14/\Share (fun k_2=>(bif n68b != 0 then k_2 [.bool true] w14 else ∃ n75:Int,YD 3 (Addr.add q14 0) w14 (.int .i64 n75)/\k_2 [.bool (n75 != n62)] w14)) fun x_2 w15 =>
 ∃ b78:Bool,nth x_2 0=.bool b78/\(bif b78 then
 K (.tuple #[.pointer none,.int .i64 8]) w15
 else
 k [.int .i64 (IntKind.i64.wrap (n62+1)),.bool b78] w15)
 else
 YC F_vol_Vol_Inode #[.pointer (some q58),.int .i64 1] w11 fun r82 w16=>∃ g82a:Array Value,∃ n82b:Int,r82=.tuple #[.agg g82a,.int .i64 n82b]/\∃ q16:Addr,∃ w17:World,Ru (Instr.alloc 51 true (.tuple #[])) w16 (.pointer (some q16)) w17/\∃ w18:World,YE 51 q16 (.agg g82a) w17 w18/\Share (fun k_3=>(bif n82b != 0 then k_3 [.bool true] w18 else ∃ n89:Int,YD 3 (Addr.add q16 0) w18 (.int .i64 n89)/\k_3 [.bool (n89 != 2)] w18)) fun x_3 w19 =>
 ∃ b91:Bool,nth x_3 0=.bool b91/\(bif b91 then
 K (.tuple #[.pointer none,.int .i64 8]) w19
 else
 ∃ g93:Array Value,YD 39 (Addr.add q10 1) w19 (.agg g93)/\YC F_geo_Slots #[.agg g93] w19 fun r94 w20=>∃ n94:Int,r94=.int .i64 n94/\LoopC (fun k_4 x_4 w21 =>
 ∃ n95:Int,nth x_4 0=.int .i64 n95/\(bif decide (n95<n94) then
 YC F_vol_Vol_Inode #[.pointer (some q58),.int .i64 n95] w21 fun r101 w22=>∃ g101a:Array Value,∃ n101b:Int,r101=.tuple #[.agg g101a,.int .i64 n101b]/\∃ q19:Addr,∃ w23:World,Ru (Instr.alloc 51 true (.tuple #[])) w22 (.pointer (some q19)) w23/\∃ w24:World,YE 51 q19 (.agg g101a) w23 w24/\∃ q106:Addr,(.pointer (some q58):Value)=.pointer (some q106)/\∃ n108:Int,YD 2 (Addr.add q106 6) (drew w24) (.int .i64 n108)/\∃ n110:Int,YD 2 (Addr.add q19 3) (drew w24) (.int .i64 n110)/\∃ q112:Addr,(.pointer (some q58):Value)=.pointer (some q112)/\∃ w25:World,YE 2 (Addr.add q112 6) (.int .i64 (if n110 > n108 then n110 else n108)) (drew w24) w25/\k_4 [.int .i64 (IntKind.i64.wrap (n95+1))] w25
 else
 ∃ q116:Addr,(.pointer (some q58):Value)=.pointer (some q116)/\∃ n118:Int,YD 2 (Addr.add q116 6) w21 (.int .i64 n118)/\∃ q120:Addr,(.pointer (some q58):Value)=.pointer (some q120)/\∃ w26:World,YE 2 (Addr.add q120 6) (.int .i64 (IntKind.i64.wrap (n118+1))) w21 w26/\K (.tuple #[.pointer (some q58),.int .i64 0]) w26)) [.int .i64 0] w20))) [.int .i64 0,undef] w10))
theorem C_vol_Mount (p0:YB) (w0:World) (K:YA) (h:D_vol_Mount p0 w0 K):Cal Tryz.prog F_vol_Mount #[.pointer p0] w0 K :=
 denF_of (A:=⟨[62,78,91,95],[(62,3),(78,4),(91,4),(95,3)],[]⟩) Tryz.func49 (by kernel_rfl) (by kernel_rfl) (by kernel_rfl) h
def D_alloc_New (p0:YB) (w0:World) (K:YA):Prop :=
 (bif Option.isNone p0 then
 K (.pointer none) w0
 else
 ∃ m6:Option Nat,∃ w1:World,Ru (Instr.makeMap 174 none) w0 (.map m6) w1/\∃ g7:Array Value,Al (Instr.build 176 #[(0,.pointer p0),(1,.map m6)]) (.agg g7)/\∃ q8:Addr,∃ w2:World,Ru (Instr.box 176 (.agg g7)) w1 (.pointer (some q8)) w2/\K (.pointer (some q8)) w2)
theorem C_alloc_New (p0:YB) (w0:World) (K:YA) (h:D_alloc_New p0 w0 K):Cal Tryz.prog F_alloc_New #[.pointer p0] w0 K :=
 denF_of (A:=⟨[],[],[]⟩) Tryz.func50 (by kernel_rfl) (by kernel_rfl) (by kernel_rfl) h
def D_vol_Vol_SetInode (p0:YB) (n1:Int) (g2:Array Value) (a3:YB) (l3 c3:Nat) (w0:World) (K:YA):Prop :=
 ∃ q6:Addr,∃ w1:World,Ru (Instr.box 51 (.agg g2)) w0 (.pointer (some q6)) w1/\YC F_vol_Vol_place #[.pointer p0,.int .i64 n1] w1 fun r17 w2=>∃ n17a:Int,∃ n17b:Int,∃ n17c:Int,r17=.tuple #[.int .i64 n17a,.int .i64 n17b,.int .i64 n17c]/\(bif n17c != 0 then
 K (.tuple #[.int .i64 0,.int .i64 n17c]) w2
 else
 ∃ g25:Array Value,YD 51 q6 w2 (.agg g25)/\YC F_inode_Put #[.agg g25] w2 fun r26 w3=>∃ (a26a:YB) (l26a c26a:Nat),∃ n26b:Int,r26=.tuple #[.slice a26a l26a c26a,.int .i64 n26b]/\(bif n26b != 0 then
 K (.tuple #[.int .i64 0,.int .i64 n26b]) w3
 else
 ∃ q33:Addr,(.pointer p0:Value)=.pointer (some q33)/\∃ p35:YB,YD 159 (Addr.add q33 4) w3 (.pointer p35)/\YC F_patch_Store_Patch #[.pointer p35,.int .i64 n17a,.int .i64 (IntKind.i64.wrap (n17b*64)),.slice a26a l26a c26a,.slice a3 l3 c3] w3 fun r41 w4=>∃ n41a:Int,∃ n41b:Int,r41=.tuple #[.int .i64 n41a,.int .i64 n41b]/\K (.tuple #[.int .i64 n41a,.int .i64 n41b]) w4))
theorem C_vol_Vol_SetInode (p0:YB) (n1:Int) (g2:Array Value) (a3:YB) (l3 c3:Nat) (w0:World) (K:YA) (h:D_vol_Vol_SetInode p0 n1 g2 a3 l3 c3 w0 K):Cal Tryz.prog F_vol_Vol_SetInode #[.pointer p0,.int .i64 n1,.agg g2,.slice a3 l3 c3] w0 K :=
 denF_of (A:=⟨[],[],[]⟩) Tryz.func51 (by kernel_rfl) (by kernel_rfl) (by kernel_rfl) h
def D_file_real (a0:YB) (l0 c0:Nat) (w0:World) (K:YA):Prop :=
 YC F_slices_Clone_int64 #[.slice a0 l0 c0] w0 fun r4 w1=>∃ (a4:YB) (l4 c4:Nat),r4=.slice a4 l4 c4/\YC F_slices_DeleteFunc_int64 #[.slice a4 l4 c4,.func (.func F_file_real_1) #[] #[]] w1 fun r5 w2=>∃ (a5:YB) (l5 c5:Nat),r5=.slice a5 l5 c5/\K (.slice a5 l5 c5) w2
theorem C_file_real (a0:YB) (l0 c0:Nat) (w0:World) (K:YA) (h:D_file_real a0 l0 c0 w0 K):Cal Tryz.prog F_file_real #[.slice a0 l0 c0] w0 K :=
 denF_of (A:=⟨[],[],[]⟩) Tryz.func52 (by kernel_rfl) (by kernel_rfl) (by kernel_rfl) h
def D_file_Files_note (p0:YB) (n1:Int) (n2:Int) (w0:World) (K:YA):Prop :=
 ∃ q7:Addr,(.pointer p0:Value)=.pointer (some q7)/\∃ m9:Option Nat,YD 109 (Addr.add q7 3) (drew w0) (.map m9)/\(YC F_file_Files_open #[.pointer p0,.int .i64 n1] (drew w0) fun r13 w1=>∃ (a13:YB) (l13 c13:Nat),r13=.slice a13 l13 c13/\YD 109 (Addr.add q7 3) w1 (.map m9)/\∃ (a15:YB) (l15 c15:Nat),∃ w2:World,Ru (Instr.buildSlice 65 1 #[(0,.int .i64 n2)]) w1 (.slice a15 l15 c15) w2/\YD 109 (Addr.add q7 3) w2 (.map m9)/\∃ (a16:YB) (l16 c16:Nat),∃ w3:World,Ru (Builtin.append_ #[65,65] 65 #[.slice a13 l13 c13,.slice a15 l15 c15]) w2 (.slice a16 l16 c16) w3/\YD 109 (Addr.add q7 3) w3 (.map m9)/\∃ w4:World,RuU (Instr.mapUpdate 109 (.map m9) (.int .i64 n1) (.slice a16 l16 c16)) w3 w4/\K (.tuple #[]) w4)/\(∃ (a15_2:YB) (l15_2 c15_2:Nat),∃ w5:World,Ru (Instr.buildSlice 65 1 #[(0,.int .i64 n2)]) (drew w0) (.slice a15_2 l15_2 c15_2) w5/\YD 109 (Addr.add q7 3) w5 (.map m9)/\YC F_file_Files_open #[.pointer p0,.int .i64 n1] w5 fun r13_2 w6=>∃ (a13_2:YB) (l13_2 c13_2:Nat),r13_2=.slice a13_2 l13_2 c13_2/\YD 109 (Addr.add q7 3) w6 (.map m9)/\∃ (a16_2:YB) (l16_2 c16_2:Nat),∃ w7:World,Ru (Builtin.append_ #[65,65] 65 #[.slice a13_2 l13_2 c13_2,.slice a15_2 l15_2 c15_2]) w6 (.slice a16_2 l16_2 c16_2) w7/\YD 109 (Addr.add q7 3) w7 (.map m9)/\∃ w8:World,RuU (Instr.mapUpdate 109 (.map m9) (.int .i64 n1) (.slice a16_2 l16_2 c16_2)) w7 w8/\K (.tuple #[]) w8)
theorem C_file_Files_note (p0:YB) (n1:Int) (n2:Int) (w0:World) (K:YA) (h:D_file_Files_note p0 n1 n2 w0 K):Cal Tryz.prog F_file_Files_note #[.pointer p0,.int .i64 n1,.int .i64 n2] w0 K :=
 denF_of (A:=⟨[],[],[]⟩) Tryz.func53 (by kernel_rfl) (by kernel_rfl) (by kernel_rfl) h
def D_alloc_Alloc_Vol (p0:YB) (w0:World) (K:YA):Prop :=
 (bif Option.isNone p0 then
 K (.pointer none) w0
 else
 ∃ q6:Addr,(.pointer p0:Value)=.pointer (some q6)/\∃ p8:YB,YD 41 (Addr.add q6 0) w0 (.pointer p8)/\K (.pointer p8) w0)
theorem C_alloc_Alloc_Vol (p0:YB) (w0:World) (K:YA) (h:D_alloc_Alloc_Vol p0 w0 K):Cal Tryz.prog F_alloc_Alloc_Vol #[.pointer p0] w0 K :=
 denF_of (A:=⟨[],[],[]⟩) Tryz.func54 (by kernel_rfl) (by kernel_rfl) (by kernel_rfl) h
def D_vol_Vol_Inode (p0:YB) (n1:Int) (w0:World) (K:YA):Prop :=
 ∃ q4:Addr,∃ w1:World,Ru (Instr.alloc 51 true (.tuple #[])) w0 (.pointer (some q4)) w1/\YC F_vol_Vol_place #[.pointer p0,.int .i64 n1] w1 fun r13 w2=>∃ n13a:Int,∃ n13b:Int,∃ n13c:Int,r13=.tuple #[.int .i64 n13a,.int .i64 n13b,.int .i64 n13c]/\(bif n13c != 0 then
 ∃ g19:Array Value,Al (Instr.build 51 #[]) (.agg g19)/\∃ w3:World,YE 51 q4 (.agg g19) w2 w3/\∃ gR4:Array Value,YD 51 q4 w3 (.agg gR4)/\K (.tuple #[.agg gR4,.int .i64 n13c]) w3
 else
 ∃ q23:Addr,(.pointer p0:Value)=.pointer (some q23)/\∃ p25:YB,YD 159 (Addr.add q23 4) w2 (.pointer p25)/\YC F_patch_Store_Read #[.pointer p25,.int .i64 n13a] w2 fun r27 w4=>∃ (a27a:YB) (l27a c27a:Nat),∃ n27b:Int,r27=.tuple #[.slice a27a l27a c27a,.int .i64 n27b]/\(bif n27b != 0 then
 ∃ g32:Array Value,Al (Instr.build 51 #[]) (.agg g32)/\∃ w5:World,YE 51 q4 (.agg g32) w4 w5/\∃ gR4_2:Array Value,YD 51 q4 w5 (.agg gR4_2)/\K (.tuple #[.agg gR4_2,.int .i64 n27b]) w5
 else
 YC F_inode_Read #[.slice a27a l27a c27a,.int .i64 n13b] w4 fun r36 w6=>∃ g36a:Array Value,∃ n36b:Int,r36=.tuple #[.agg g36a,.int .i64 n36b]/\∃ w7:World,YE 51 q4 (.agg g36a) w6 w7/\∃ gR4_3:Array Value,YD 51 q4 w7 (.agg gR4_3)/\K (.tuple #[.agg gR4_3,.int .i64 n36b]) w7))
theorem C_vol_Vol_Inode (p0:YB) (n1:Int) (w0:World) (K:YA) (h:D_vol_Vol_Inode p0 n1 w0 K):Cal Tryz.prog F_vol_Vol_Inode #[.pointer p0,.int .i64 n1] w0 K :=
 denF_of (A:=⟨[],[],[]⟩) Tryz.func55 (by kernel_rfl) (by kernel_rfl) (by kernel_rfl) h
def D_file_Files_thing (p0:YB) (n1:Int) (w0:World) (K:YA):Prop :=
 ∃ q4:Addr,∃ w1:World,Ru (Instr.alloc 51 true (.tuple #[])) w0 (.pointer (some q4)) w1/\YC F_file_Files_Get #[.pointer p0,.int .i64 n1] w1 fun r11 w2=>∃ g11a:Array Value,∃ n11b:Int,r11=.tuple #[.agg g11a,.int .i64 n11b]/\∃ q6:Addr,∃ w3:World,Ru (Instr.alloc 51 true (.tuple #[])) w2 (.pointer (some q6)) w3/\∃ w4:World,YE 51 q6 (.agg g11a) w3 w4/\Share (fun k=>(bif n11b==0 then ∃ n18:Int,YD 3 (Addr.add q6 0) w4 (.int .i64 n18)/\k [.bool (n18==0)] w4 else k [.bool false] w4)) fun x w5 =>
 ∃ b20:Bool,nth x 0=.bool b20/\Share (fun k_2=>(bif b20 then
 k_2 [.int .i64 20] w5
 else
 k_2 [.int .i64 n11b] w5)) fun x_2 w6 =>
 ∃ g21:Array Value,YD 51 q6 w6 (.agg g21)/\∃ n7:Int,nth x_2 0=.int .i64 n7/\∃ w7:World,YE 51 q4 (.agg g21) w6 w7/\∃ gR4:Array Value,YD 51 q4 w7 (.agg gR4)/\K (.tuple #[.agg gR4,.int .i64 n7]) w7
theorem C_file_Files_thing (p0:YB) (n1:Int) (w0:World) (K:YA) (h:D_file_Files_thing p0 n1 w0 K):Cal Tryz.prog F_file_Files_thing #[.pointer p0,.int .i64 n1] w0 K :=
 denF_of (A:=⟨[7,20],[(7,24),(20,4)],[]⟩) Tryz.func56 (by kernel_rfl) (by kernel_rfl) (by kernel_rfl) h
def D_ptr_Of (n0:Int) (w0:World) (K:YA):Prop :=
 ∃ q2:Addr,∃ w1:World,Ru (Instr.alloc 116 true (.tuple #[])) w0 (.pointer (some q2)) w1/\Share (fun k=>(bif decide (n0<0) then k [.bool true] w1 else k [.bool (decide (n0 >= 4166))] w1)) fun x w2 =>
 ∃ b4:Bool,nth x 0=.bool b4/\(bif b4 then
 ∃ g11:Array Value,Al (Instr.build 116 #[]) (.agg g11)/\∃ w3:World,YE 116 q2 (.agg g11) w2 w3/\∃ gR2:Array Value,YD 116 q2 w3 (.agg gR2)/\K (.tuple #[.agg gR2,.int .i64 28]) w3
 else
 (bif decide (n0<6) then
 ∃ g16:Array Value,Al (Instr.build 116 #[(1,.int .i64 n0)]) (.agg g16)/\∃ w4:World,YE 116 q2 (.agg g16) w2 w4/\∃ gR2_2:Array Value,YD 116 q2 w4 (.agg gR2_2)/\K (.tuple #[.agg gR2_2,.int .i64 0]) w4
 else
 (bif decide ((IntKind.i64.wrap (n0-6))<64) then
 ∃ g22:Array Value,Al (Instr.build 116 #[(0,.int .i64 1),(2,.int .i64 (IntKind.i64.wrap (n0-6)))]) (.agg g22)/\∃ w5:World,YE 116 q2 (.agg g22) w2 w5/\∃ gR2_3:Array Value,YD 116 q2 w5 (.agg gR2_3)/\K (.tuple #[.agg gR2_3,.int .i64 0]) w5
 else
 ∃ g29:Array Value,Al (Instr.build 116 #[(0,.int .i64 2),(2,.int .i64 (IntKind.i64.wrap (Int.tdiv (IntKind.i64.wrap ((IntKind.i64.wrap (n0-6))-64)) 64))),(3,.int .i64 (Int.tmod (IntKind.i64.wrap ((IntKind.i64.wrap (n0-6))-64)) 64))]) (.agg g29)/\∃ w6:World,YE 116 q2 (.agg g29) w2 w6/\∃ gR2_4:Array Value,YD 116 q2 w6 (.agg gR2_4)/\K (.tuple #[.agg gR2_4,.int .i64 0]) w6)))
theorem C_ptr_Of (n0:Int) (w0:World) (K:YA) (h:D_ptr_Of n0 w0 K):Cal Tryz.prog F_ptr_Of #[.int .i64 n0] w0 K :=
 denF_of (A:=⟨[4],[(4,4)],[]⟩) Tryz.func57 (by kernel_rfl) (by kernel_rfl) (by kernel_rfl) h
def D_file_Files_where (p0:YB) (g1:Array Value) (g2:Array Value) (w0:World) (K:YA):Prop :=
 ∃ q4:Addr,∃ w1:World,Ru (Instr.box 51 (.agg g1)) w0 (.pointer (some q4)) w1/\∃ q5:Addr,∃ w2:World,Ru (Instr.box 116 (.agg g2)) w1 (.pointer (some q5)) w2/\∃ n8:Int,YD 3 (Addr.add q5 0) w2 (.int .i64 n8)/\(bif n8==0 then
 ∃ n12:Int,YD 3 (Addr.add q5 1) w2 (.int .i64 n12)/\∃ q14:Addr,Al (Instr.indexAt 49 (.pointer (some (Addr.add q4 4))) (.int .i64 n12)) (.pointer (some q14))/\∃ n15:Int,YD 3 q14 w2 (.int .i64 n15)/\K (.int .i64 n15) w2
 else
 (bif n8==1 then
 ∃ n20:Int,YD 3 (Addr.add q4 10) (drew w2) (.int .i64 n20)/\∃ n23:Int,YD 3 (Addr.add q5 2) (drew w2) (.int .i64 n23)/\YC F_file_Files_names #[.pointer p0,.int .i64 n20] (drew w2) fun r21 w3=>∃ (a21:YB) (l21 c21:Nat),r21=.slice a21 l21 c21/\YD 3 (Addr.add q5 2) w3 (.int .i64 n23)/\∃ q24:Addr,Al (Instr.indexAt 64 (.slice a21 l21 c21) (.int .i64 n23)) (.pointer (some q24))/\∃ n25:Int,YD 3 q24 w3 (.int .i64 n25)/\K (.int .i64 n25) w3
 else
 ∃ n29:Int,YD 3 (Addr.add q4 11) (drew w2) (.int .i64 n29)/\∃ n32:Int,YD 3 (Addr.add q5 2) (drew w2) (.int .i64 n32)/\∃ n37:Int,YD 3 (Addr.add q5 3) (drew w2) (.int .i64 n37)/\YC F_file_Files_names #[.pointer p0,.int .i64 n29] (drew w2) fun r30 w4=>∃ (a30:YB) (l30 c30:Nat),r30=.slice a30 l30 c30/\YD 3 (Addr.add q5 2) w4 (.int .i64 n32)/\YD 3 (Addr.add q5 3) w4 (.int .i64 n37)/\∃ q33:Addr,Al (Instr.indexAt 64 (.slice a30 l30 c30) (.int .i64 n32)) (.pointer (some q33))/\∃ n34:Int,YD 3 q33 w4 (.int .i64 n34)/\YC F_file_Files_names #[.pointer p0,.int .i64 n34] w4 fun r35 w5=>∃ (a35:YB) (l35 c35:Nat),r35=.slice a35 l35 c35/\YD 3 (Addr.add q5 3) w5 (.int .i64 n37)/\∃ q38:Addr,Al (Instr.indexAt 64 (.slice a35 l35 c35) (.int .i64 n37)) (.pointer (some q38))/\∃ n39:Int,YD 3 q38 w5 (.int .i64 n39)/\K (.int .i64 n39) w5))
theorem C_file_Files_where (p0:YB) (g1:Array Value) (g2:Array Value) (w0:World) (K:YA) (h:D_file_Files_where p0 g1 g2 w0 K):Cal Tryz.prog F_file_Files_where #[.pointer p0,.agg g1,.agg g2] w0 K :=
 denF_of (A:=⟨[],[],[]⟩) Tryz.func58 (by kernel_rfl) (by kernel_rfl) (by kernel_rfl) h
def D_vol_Vol_Data (p0:YB) (n1:Int) (w0:World) (K:YA):Prop :=
 YC F_vol_Vol_data #[.pointer p0,.int .i64 n1] w0 fun r9 w1=>∃ n9:Int,r9=.int .i64 n9/\(bif n9 != 0 then
 K (.tuple #[.slice none 0 0,.int .i64 n9]) w1
 else
 ∃ q14:Addr,(.pointer p0:Value)=.pointer (some q14)/\∃ p16:YB,YD 159 (Addr.add q14 4) w1 (.pointer p16)/\YC F_patch_Store_Read #[.pointer p16,.int .i64 n1] w1 fun r18 w2=>∃ (a18a:YB) (l18a c18a:Nat),∃ n18b:Int,r18=.tuple #[.slice a18a l18a c18a,.int .i64 n18b]/\K (.tuple #[.slice a18a l18a c18a,.int .i64 n18b]) w2)
theorem C_vol_Vol_Data (p0:YB) (n1:Int) (w0:World) (K:YA) (h:D_vol_Vol_Data p0 n1 w0 K):Cal Tryz.prog F_vol_Vol_Data #[.pointer p0,.int .i64 n1] w0 K :=
 denF_of (A:=⟨[],[],[]⟩) Tryz.func59 (by kernel_rfl) (by kernel_rfl) (by kernel_rfl) h
def D_leveelaw15_shape (g0:Array Value) (w0:World) (K:YA):Prop :=
 ∃ q1:Addr,∃ w1:World,Ru (Instr.box 39 (.agg g0)) w0 (.pointer (some q1)) w1/\∃ q2:Addr,∃ w2:World,Ru (Instr.alloc 39 true (.tuple #[])) w1 (.pointer (some q2)) w2/\Share (fun k=>∃ g3:Array Value,YD 39 q1 w2 (.agg g3)/\YC F_leveeref03_Right #[.agg g3] w2 fun r4 w3=>∃ b4:Bool,r4=.bool b4/\(bif !b4 then k [.bool true] w3 else ∃ g7:Array Value,YD 39 q1 w3 (.agg g7)/\YC F_leveeref03_Size #[.agg g7] w3 fun r8 w4=>∃ n8:Int,r8=.int .i64 n8/\(bif decide (n8 > 200) then k [.bool true] w4 else ∃ g12:Array Value,YD 39 q1 w4 (.agg g12)/\YC F_leveeref03_Slots #[.agg g12] w4 fun r13 w5=>∃ n13:Int,r13=.int .i64 n13/\k [.bool (decide (n13<5))] w5))) fun x w6 =>
 ∃ b15:Bool,nth x 0=.bool b15/\(bif b15 then
 ∃ g16:Array Value,Al (Instr.build 39 #[(0,.int .i64 24),(1,.int .i64 8),(2,.int .i64 3)]) (.agg g16)/\∃ w7:World,YE 39 q2 (.agg g16) w6 w7/\∃ gR2:Array Value,YD 39 q2 w7 (.agg gR2)/\K (.agg gR2) w7
 else
 ∃ g17:Array Value,YD 39 q1 w6 (.agg g17)/\∃ w8:World,YE 39 q2 (.agg g17) w6 w8/\∃ gR2_2:Array Value,YD 39 q2 w8 (.agg gR2_2)/\K (.agg gR2_2) w8)
theorem C_leveelaw15_shape (g0:Array Value) (w0:World) (K:YA) (h:D_leveelaw15_shape g0 w0 K):Cal Tryz.prog F_leveelaw15_shape #[.agg g0] w0 K :=
 denF_of (A:=⟨[15],[(15,4)],[]⟩) Tryz.func60 (by kernel_rfl) (by kernel_rfl) (by kernel_rfl) h
def D_leveelaw15_play_make (p0:YB) (n1:Int) (w0:World) (K:YA):Prop :=
 ∃ q14:Addr,(.pointer p0:Value)=.pointer (some q14)/\∃ p16:YB,YD 46 (Addr.add q14 2) w0 (.pointer p16)/\YC F_file_Files_Alloc #[.pointer p16] w0 fun r17 w1=>∃ p17:YB,r17=.pointer p17/\YC F_alloc_Alloc_Slot #[.pointer p17,.int .i64 0] w1 fun r18 w2=>∃ n18a:Int,∃ n18b:Int,∃ n18c:Int,r18=.tuple #[.int .i64 n18a,.int .i64 n18b,.int .i64 n18c]/\∃ q24:Addr,(.pointer p0:Value)=.pointer (some q24)/\∃ p26:YB,YD 41 (Addr.add q24 1) w2 (.pointer p26)/\YC F_vol_Vol_NewId #[.pointer p26] w2 fun r27 w3=>∃ n27a:Int,∃ n27b:Int,r27=.tuple #[.int .i64 n27a,.int .i64 n27b]/\Share (fun k=>(bif n18c != 0 then k [.bool true] w3 else k [.bool (n27b != 0)] w3)) fun x w4 =>
 ∃ b35:Bool,nth x 0=.bool b35/\(bif b35 then
 K (.bool false) w4
 else
 ∃ q38:Addr,(.pointer p0:Value)=.pointer (some q38)/\∃ p40:YB,YD 46 (Addr.add q38 2) w4 (.pointer p40)/\∃ g43:Array Value,Al (Instr.build 51 #[(0,.int .i64 1),(1,.int .i64 1),(3,.int .i64 n27a)]) (.agg g43)/\∃ (a45:YB) (l45 c45:Nat),∃ w5:World,Ru (Instr.buildSlice 65 1 #[(0,.int .i64 n18b)]) w4 (.slice a45 l45 c45) w5/\YC F_file_Files_Put #[.pointer p40,.int .i64 n18a,.agg g43,.slice a45 l45 c45] w5 fun r46 w6=>∃ n46a:Int,∃ n46b:Int,r46=.tuple #[.int .i64 n46a,.int .i64 n46b]/\∃ q50:Addr,(.pointer p0:Value)=.pointer (some q50)/\∃ (a52:YB) (l52 c52:Nat),YD 64 (Addr.add q50 3) w6 (.slice a52 l52 c52)/\∃ q55:Addr,Al (Instr.indexAt 64 (.slice a52 l52 c52) (.int .i64 n1)) (.pointer (some q55))/\∃ w7:World,YE 3 q55 (.int .i64 n18a) w6 w7/\∃ q57:Addr,(.pointer p0:Value)=.pointer (some q57)/\∃ (a59:YB) (l59 c59:Nat),YD 65 (Addr.add q57 4) w7 (.slice a59 l59 c59)/\∃ q62:Addr,Al (Instr.indexAt 65 (.slice a59 l59 c59) (.int .i64 n1)) (.pointer (some q62))/\∃ w8:World,YE 2 q62 (.int .i64 n27a) w7 w8/\∃ q64:Addr,(.pointer p0:Value)=.pointer (some q64)/\∃ (a66:YB) (l66 c66:Nat),YD 66 (Addr.add q64 5) w8 (.slice a66 l66 c66)/\∃ g68:Array Value,Al (Instr.build 190 #[]) (.agg g68)/\∃ q69:Addr,∃ w9:World,Ru (Instr.box 190 (.agg g68)) w8 (.pointer (some q69)) w9/\∃ q70:Addr,Al (Instr.indexAt 66 (.slice a66 l66 c66) (.int .i64 n1)) (.pointer (some q70))/\∃ w10:World,YE 188 q70 (.pointer (some q69)) w9 w10/\K (.bool (n46b==0)) w10)
theorem C_leveelaw15_play_make (p0:YB) (n1:Int) (w0:World) (K:YA) (h:D_leveelaw15_play_make p0 n1 w0 K):Cal Tryz.prog F_leveelaw15_play_make #[.pointer p0,.int .i64 n1] w0 K :=
 denF_of (A:=⟨[35],[(35,4)],[]⟩) Tryz.func61 (by kernel_rfl) (by kernel_rfl) (by kernel_rfl) h
def D_alloc_Alloc_Free (p0:YB) (w0:World) (K:YA):Prop :=
 ∃ q1:Addr,∃ w1:World,Ru (Instr.box 73 (.pointer p0)) w0 (.pointer (some q1)) w1/\∃ q4:Addr,∃ w2:World,Ru (Instr.alloc 3 true (.tuple #[])) w1 (.pointer (some q4)) w2/\∃ q5:Addr,∃ w3:World,Ru (Instr.alloc 3 true (.tuple #[])) w2 (.pointer (some q5)) w3/\∃ w4:World,YE 3 q4 (.int .i64 0) w3 w4/\∃ w5:World,YE 3 q5 (.int .i64 0) w4 w5/\∃ p11:YB,YD 73 q1 w5 (.pointer p11)/\(bif Option.isNone p11 then
 ∃ n13:Int,YD 3 q4 (drew w5) (.int .i64 n13)/\∃ n14:Int,YD 3 q5 (drew w5) (.int .i64 n14)/\K (.tuple #[.int .i64 n13,.int .i64 n14]) (drew w5)
 else
 ∃ p15:YB,YD 73 q1 w5 (.pointer p15)/\∃ g16:Array Value,Al (Instr.build 195 #[]) (.agg g16)/\YC F_alloc_Alloc_ring #[.pointer p15,.agg g16,.bool false] w5 fun r17 w6=>∃ v17:Value,r17=v17/\RangeV Tryz.prog v17 2 w6 (fun x bgn fin w7 =>
 ∃ n18:Int,nth x 0=.int .i64 n18/\bgn (fun w8 =>
 ∃ p21:YB,YD 73 q1 w8 (.pointer p21)/\∃ q22:Addr,(.pointer p21:Value)=.pointer (some q22)/\∃ p24:YB,YD 41 (Addr.add q22 0) w8 (.pointer p24)/\YC F_vol_Vol_Head #[.pointer p24,.int .i64 n18] w8 fun r26 w9=>∃ g26a:Array Value,∃ n26b:Int,r26=.tuple #[.agg g26a,.int .i64 n26b]/\∃ q7:Addr,∃ w10:World,Ru (Instr.alloc 171 true (.tuple #[])) w9 (.pointer (some q7)) w10/\∃ w11:World,YE 171 q7 (.agg g26a) w10 w11/\∃ p30:YB,YD 73 q1 (drew w11) (.pointer p30)/\∃ q31:Addr,(.pointer p30:Value)=.pointer (some q31)/\∃ p33:YB,YD 41 (Addr.add q31 0) (drew w11) (.pointer p33)/\∃ g35:Array Value,YD 171 q7 (drew w11) (.agg g35)/\YC F_vol_Vol_Geo #[.pointer p33] (drew w11) fun r34 w12=>∃ g34:Array Value,r34=.agg g34/\YD 171 q7 w12 (.agg g35)/\YC F_group_Free #[.agg g34,.agg g35] w12 fun r36 w13=>∃ n36a:Int,∃ n36b:Int,r36=.tuple #[.int .i64 n36a,.int .i64 n36b]/\∃ n39:Int,YD 3 q4 (drew w13) (.int .i64 n39)/\∃ n42:Int,YD 3 q5 (drew w13) (.int .i64 n42)/\∃ w14:World,YE 3 q4 (.int .i64 (IntKind.i64.wrap (n39+n36a))) (drew w13) w14/\YD 3 q5 w14 (.int .i64 n42)/\∃ w15:World,YE 3 q5 (.int .i64 (IntKind.i64.wrap (n42+n36b))) w14 w15/\fin none w15) w7)
 (aftR (fun w16 =>
 ∃ n45:Int,YD 3 q4 (drew w16) (.int .i64 n45)/\∃ n46:Int,YD 3 q5 (drew w16) (.int .i64 n46)/\(World.heap (drew w16))[(World.heap w6).size]?=some (.deferred (some []))/\K (.tuple #[.int .i64 n45,.int .i64 n46]) (World.putObj (drew w16) ((World.heap w6).size) (.deferred none)))
 (fun i w17 =>
 (bif Nat.beq i 0 then
 ∃ n45_2:Int,YD 3 q4 (drew w17) (.int .i64 n45_2)/\∃ n46_2:Int,YD 3 q5 (drew w17) (.int .i64 n46_2)/\(World.heap (drew w17))[(World.heap w6).size]?=some (.deferred (some []))/\K (.tuple #[.int .i64 n45_2,.int .i64 n46_2]) (World.putObj (drew w17) ((World.heap w6).size) (.deferred none))
 else
 False))
 (fun w18 =>
 (World.heap w18)[(World.heap w6).size]?=some (.deferred (some []))/\K (.tuple #[.int .i64 0,.int .i64 0]) (World.putObj w18 ((World.heap w6).size) (.deferred none)))))
theorem C_alloc_Alloc_Free (p0:YB) (w0:World) (K:YA) (h:D_alloc_Alloc_Free p0 w0 K):Cal Tryz.prog F_alloc_Alloc_Free #[.pointer p0] w0 K :=
 denFR_sound (A:={ S:=[],ty:=[(18,3)],raw:=[] }) mixed Tryz.func62 (by kernel_rfl) (by kernel_rfl) ((show denFR Tryz.prog _ Tryz.f62 _ w0 K=D_alloc_Alloc_Free p0 w0 K by kernel_rfl).mpr h)
def D_file_Files_near (p0:YB) (g1:Array Value) (n2:Int) (w0:World) (K:YA):Prop :=
 ∃ q4:Addr,∃ w1:World,Ru (Instr.box 51 (.agg g1)) w0 (.pointer (some q4)) w1/\(bif n2==0 then
 K (.int .i64 0) w1
 else
 YC F_ptr_Of #[.int .i64 (IntKind.i64.wrap (n2-1))] w1 fun r14 w2=>∃ g14a:Array Value,∃ n14b:Int,r14=.tuple #[.agg g14a,.int .i64 n14b]/\∃ q7:Addr,∃ w3:World,Ru (Instr.alloc 116 true (.tuple #[])) w2 (.pointer (some q7)) w3/\∃ w4:World,YE 116 q7 (.agg g14a) w3 w4/\∃ g18:Array Value,YD 51 q4 w4 (.agg g18)/\∃ g19:Array Value,YD 116 q7 w4 (.agg g19)/\YC F_file_Files_where #[.pointer p0,.agg g18,.agg g19] w4 fun r20 w5=>∃ n20:Int,r20=.int .i64 n20/\K (.int .i64 n20) w5)
theorem C_file_Files_near (p0:YB) (g1:Array Value) (n2:Int) (w0:World) (K:YA) (h:D_file_Files_near p0 g1 n2 w0 K):Cal Tryz.prog F_file_Files_near #[.pointer p0,.agg g1,.int .i64 n2] w0 K :=
 denF_of (A:=⟨[],[],[]⟩) Tryz.func63 (by kernel_rfl) (by kernel_rfl) (by kernel_rfl) h
def D_file_writer_block (p0:YB) (n1:Int) (a2:YB) (l2 c2:Nat) (w0:World) (K:YA):Prop :=
 YC F_ptr_Of #[.int .i64 n1] w0 fun r21 w1=>∃ g21a:Array Value,∃ n21b:Int,r21=.tuple #[.agg g21a,.int .i64 n21b]/\∃ q9:Addr,∃ w2:World,Ru (Instr.alloc 116 true (.tuple #[])) w1 (.pointer (some q9)) w2/\∃ w3:World,YE 116 q9 (.agg g21a) w2 w3/\(bif n21b != 0 then
 K (.tuple #[.int .i64 0,.bool false,.int .i64 n21b]) w3
 else
 ∃ n28:Int,YD 3 (Addr.add q9 0) w3 (.int .i64 n28)/\(bif n28==0 then
 ∃ n33:Int,YD 3 (Addr.add q9 1) (drew w3) (.int .i64 n33)/\∃ q34:Addr,(.pointer p0:Value)=.pointer (some q34)/\∃ q37:Addr,Al (Instr.indexAt 49 (.pointer (some (Addr.add (Addr.add q34 2) 4))) (.int .i64 n33)) (.pointer (some q37))/\∃ n38:Int,YD 3 q37 (drew w3) (.int .i64 n38)/\(bif n38 != 0 then
 K (.tuple #[.int .i64 n38,.bool false,.int .i64 0]) (drew w3)
 else
 YC F_file_writer_fresh #[.pointer p0,.slice a2 l2 c2,.slice none 0 0] (drew w3) fun r45 w4=>∃ n45a:Int,∃ (a45b:YB) (l45b c45b:Nat),∃ n45c:Int,r45=.tuple #[.int .i64 n45a,.slice a45b l45b c45b,.int .i64 n45c]/\Share (fun k=>(bif n45c==0 then
 ∃ n53:Int,YD 3 (Addr.add q9 1) (drew w4) (.int .i64 n53)/\∃ q55:Addr,(.pointer p0:Value)=.pointer (some q55)/\∃ q58:Addr,Al (Instr.indexAt 49 (.pointer (some (Addr.add (Addr.add q55 2) 4))) (.int .i64 n53)) (.pointer (some q58))/\∃ w5:World,YE 3 q58 (.int .i64 n45a) (drew w4) w5/\∃ q61:Addr,(.pointer p0:Value)=.pointer (some q61)/\∃ (a63:YB) (l63 c63:Nat),YD 65 (Addr.add q61 14) w5 (.slice a63 l63 c63)/\∃ (a65:YB) (l65 c65:Nat),∃ w6:World,Ru (Builtin.append_ #[65,65] 65 #[.slice a63 l63 c63,.slice a45b l45b c45b]) w5 (.slice a65 l65 c65) w6/\∃ q66:Addr,(.pointer p0:Value)=.pointer (some q66)/\∃ w7:World,YE 65 (Addr.add q66 14) (.slice a65 l65 c65) w6 w7/\k [] w7
 else
 k [] w4)) fun x w8 =>
 K (.tuple #[.int .i64 n45a,.bool true,.int .i64 n45c]) w8)
 else
 (bif n28==1 then
 ∃ q74:Addr,(.pointer p0:Value)=.pointer (some q74)/\YC F_file_writer_top #[.pointer p0,.pointer (some (Addr.add (Addr.add q74 2) 10))] w3 fun r77 w9=>∃ n77:Int,r77=.int .i64 n77/\(bif n77 != 0 then
 K (.tuple #[.int .i64 0,.bool false,.int .i64 n77]) w9
 else
 ∃ q83:Addr,(.pointer p0:Value)=.pointer (some q83)/\∃ n86:Int,YD 3 (Addr.add (Addr.add q83 2) 10) (drew w9) (.int .i64 n86)/\∃ n88:Int,YD 3 (Addr.add q9 2) (drew w9) (.int .i64 n88)/\YC F_file_writer_under #[.pointer p0,.int .i64 n86,.int .i64 n88,.slice a2 l2 c2] (drew w9) fun r90 w10=>∃ n90a:Int,∃ b90b:Bool,∃ n90c:Int,r90=.tuple #[.int .i64 n90a,.bool b90b,.int .i64 n90c]/\K (.tuple #[.int .i64 n90a,.bool b90b,.int .i64 n90c]) w10)
 else
 ∃ q96:Addr,(.pointer p0:Value)=.pointer (some q96)/\YC F_file_writer_top #[.pointer p0,.pointer (some (Addr.add (Addr.add q96 2) 11))] w3 fun r99 w11=>∃ n99:Int,r99=.int .i64 n99/\(bif n99 != 0 then
 K (.tuple #[.int .i64 0,.bool false,.int .i64 n99]) w11
 else
 ∃ q106:Addr,(.pointer p0:Value)=.pointer (some q106)/\∃ n109:Int,YD 3 (Addr.add (Addr.add q106 2) 11) (drew w11) (.int .i64 n109)/\∃ n111:Int,YD 3 (Addr.add q9 2) (drew w11) (.int .i64 n111)/\∃ (a112:YB) (l112 c112:Nat),∃ w12:World,Ru (Instr.makeSlice 55 (.int .i64 256) (.int .i64 256)) (drew w11) (.slice a112 l112 c112) w12/\YD 3 (Addr.add (Addr.add q106 2) 11) w12 (.int .i64 n109)/\YD 3 (Addr.add q9 2) w12 (.int .i64 n111)/\YC F_file_writer_under #[.pointer p0,.int .i64 n109,.int .i64 n111,.slice a112 l112 c112] w12 fun r113 w13=>∃ n113a:Int,∃ b113b:Bool,∃ n113c:Int,r113=.tuple #[.int .i64 n113a,.bool b113b,.int .i64 n113c]/\(bif n113c != 0 then
 K (.tuple #[.int .i64 0,.bool false,.int .i64 n113c]) w13
 else
 ∃ n123:Int,YD 3 (Addr.add q9 3) w13 (.int .i64 n123)/\YC F_file_writer_under #[.pointer p0,.int .i64 n113a,.int .i64 n123,.slice a2 l2 c2] w13 fun r125 w14=>∃ n125a:Int,∃ b125b:Bool,∃ n125c:Int,r125=.tuple #[.int .i64 n125a,.bool b125b,.int .i64 n125c]/\K (.tuple #[.int .i64 n125a,.bool b125b,.int .i64 n125c]) w14)))))
theorem C_file_writer_block (p0:YB) (n1:Int) (a2:YB) (l2 c2:Nat) (w0:World) (K:YA) (h:D_file_writer_block p0 n1 a2 l2 c2 w0 K):Cal Tryz.prog F_file_writer_block #[.pointer p0,.int .i64 n1,.slice a2 l2 c2] w0 K :=
 denF_of (A:=⟨[],[],[]⟩) Tryz.func64 (by kernel_rfl) (by kernel_rfl) (by kernel_rfl) h
def D_file_Files_set (p0:YB) (n1:Int) (n2:Int) (n3:Int) (a4:YB) (l4 c4:Nat) (a5:YB) (l5 c5:Nat) (w0:World) (K:YA):Prop :=
 ∃ q18:Addr,(.pointer p0:Value)=.pointer (some q18)/\∃ p20:YB,YD 41 (Addr.add q18 1) w0 (.pointer p20)/\YC F_vol_Vol_SetData #[.pointer p20,.int .i64 n2,.int .i64 n3,.slice a4 l4 c4,.slice a5 l5 c5] w0 fun r25 w1=>∃ n25a:Int,∃ n25b:Int,r25=.tuple #[.int .i64 n25a,.int .i64 n25b]/\Share (fun k=>(bif n25b==0 then
 YC F_file_Files_note #[.pointer p0,.int .i64 n1,.int .i64 n25a] w1 fun r33 w2=>r33=.tuple #[]/\k [] w2
 else
 k [] w1)) fun x w3 =>
 K (.tuple #[.int .i64 n25a,.int .i64 n25b]) w3
theorem C_file_Files_set (p0:YB) (n1:Int) (n2:Int) (n3:Int) (a4:YB) (l4 c4:Nat) (a5:YB) (l5 c5:Nat) (w0:World) (K:YA) (h:D_file_Files_set p0 n1 n2 n3 a4 l4 c4 a5 l5 c5 w0 K):Cal Tryz.prog F_file_Files_set #[.pointer p0,.int .i64 n1,.int .i64 n2,.int .i64 n3,.slice a4 l4 c4,.slice a5 l5 c5] w0 K :=
 denF_of (A:=⟨[],[],[]⟩) Tryz.func65 (by kernel_rfl) (by kernel_rfl) (by kernel_rfl) h
def D_file_Files_each (p0:YB) (g1:Array Value) (v2:Value) (w0:World) (K:YA):Prop :=
 ∃ q3:Addr,∃ w1:World,Ru (Instr.box 46 (.pointer p0)) w0 (.pointer (some q3)) w1/\∃ q4:Addr,∃ w2:World,Ru (Instr.box 51 (.agg g1)) w1 (.pointer (some q4)) w2/\∃ q5:Addr,∃ w3:World,Ru (Instr.box 132 v2) w2 (.pointer (some q5)) w3/\∃ q6:Addr,∃ w4:World,Ru (Instr.alloc 132 true (.tuple #[])) w3 (.pointer (some q6)) w4/\∃ w5:World,YE 132 q6 (.func (.func F_file_Files_each_1) #[] #[.pointer (some q5),.pointer (some q3),.pointer (some q6)]) w4 w5/\∃ g11:Array Value,YD 49 (Addr.add q4 4) w5 (.agg g11)/\LoopC (fun k x w6 =>
 ∃ n12:Int,nth x 0=.int .i64 n12/\(bif decide (n12<6) then
 ∃ n15:Int,Al (Instr.index 49 (.agg g11) (.int .i64 n12)) (.int .i64 n15)/\∃ v16:Value,YD 132 q6 w6 v16/\Dyn Tryz.prog v16 #[.int .i64 n15,.int .i64 0,.int .i64 n12] w6 fun r19 w7=>r19=.tuple #[]/\k [.int .i64 (IntKind.i64.wrap (n12+1))] w7
 else
 ∃ v21:Value,YD 132 q6 w6 v21/\∃ n23:Int,YD 3 (Addr.add q4 10) w6 (.int .i64 n23)/\Dyn Tryz.prog v21 #[.int .i64 n23,.int .i64 1,.int .i64 6] w6 fun r24 w8=>r24=.tuple #[]/\∃ v25:Value,YD 132 q6 w8 v25/\∃ n27:Int,YD 3 (Addr.add q4 11) w8 (.int .i64 n27)/\Dyn Tryz.prog v25 #[.int .i64 n27,.int .i64 2,.int .i64 70] w8 fun r28 w9=>r28=.tuple #[]/\K (.tuple #[]) w9)) [.int .i64 0] w5
theorem C_file_Files_each (p0:YB) (g1:Array Value) (v2:Value) (w0:World) (K:YA) (h:D_file_Files_each p0 g1 v2 w0 K):Cal Tryz.prog F_file_Files_each #[.pointer p0,.agg g1,v2] w0 K :=
 denF_of (A:=⟨[12],[(12,3)],[]⟩) Tryz.func66 (by kernel_rfl) (by kernel_rfl) (by kernel_rfl) h
def D_file_Files_open (p0:YB) (n1:Int) (w0:World) (K:YA):Prop :=
 ∃ q6:Addr,(.pointer p0:Value)=.pointer (some q6)/\∃ m8:Option Nat,YD 109 (Addr.add q6 3) (drew w0) (.map m8)/\∃ (a10:YB) (l10 c10:Nat),Ru (Instr.lookup 109 (.map m8) (.int .i64 n1) false) (drew w0) (.slice a10 l10 c10) (drew w0)/\∃ q12:Addr,(.pointer p0:Value)=.pointer (some q12)/\∃ p14:YB,YD 41 (Addr.add q12 1) (drew w0) (.pointer p14)/\YC F_vol_Vol_Store #[.pointer p14] (drew w0) fun r15 w1=>∃ p15:YB,r15=.pointer p15/\YD 109 (Addr.add q6 3) w1 (.map m8)/\Ru (Instr.lookup 109 (.map m8) (.int .i64 n1) false) w1 (.slice a10 l10 c10) w1/\YC F_slices_DeleteFunc_int64 #[.slice a10 l10 c10,.func (.func F_patch_Store_Safe) #[.pointer p15] #[]] w1 fun r17 w2=>∃ (a17:YB) (l17 c17:Nat),r17=.slice a17 l17 c17/\K (.slice a17 l17 c17) w2
theorem C_file_Files_open (p0:YB) (n1:Int) (w0:World) (K:YA) (h:D_file_Files_open p0 n1 w0 K):Cal Tryz.prog F_file_Files_open #[.pointer p0,.int .i64 n1] w0 K :=
 denF_of (A:=⟨[],[],[]⟩) Tryz.func72 (by kernel_rfl) (by kernel_rfl) (by kernel_rfl) h
def D_slices_Clone_int64 (a0:YB) (l0 c0:Nat) (w0:World) (K:YA):Prop :=
 ∃ b4:Bool,Al (eqS .eql 65 (.tmp 3) (.const (.slice none 0 0)) (.slice a0 l0 c0) (.slice none 0 0)) (.bool b4)/\(bif b4 then
 K (.slice none 0 0) w0
 else
 ∃ (a5:YB) (l5 c5:Nat),∃ w1:World,Ru (Instr.buildSlice 65 0 #[]) w0 (.slice a5 l5 c5) w1/\∃ (a7:YB) (l7 c7:Nat),∃ w2:World,Ru (Builtin.append_ #[65,65] 65 #[.slice a5 l5 c5,.slice a0 l0 c0]) w1 (.slice a7 l7 c7) w2/\K (.slice a7 l7 c7) w2)
theorem C_slices_Clone_int64 (a0:YB) (l0 c0:Nat) (w0:World) (K:YA) (h:D_slices_Clone_int64 a0 l0 c0 w0 K):Cal Tryz.prog F_slices_Clone_int64 #[.slice a0 l0 c0] w0 K :=
 denF_of (A:=⟨[],[],[]⟩) Tryz.func73 (by kernel_rfl) (by kernel_rfl) (by kernel_rfl) h
def D_file_Files_Data (p0:YB) (n1:Int) (w0:World) (K:YA):Prop :=
 YC F_file_Files_thing #[.pointer p0,.int .i64 n1] w0 fun r12 w1=>∃ g12a:Array Value,∃ n12b:Int,r12=.tuple #[.agg g12a,.int .i64 n12b]/\∃ q6:Addr,∃ w2:World,Ru (Instr.alloc 51 true (.tuple #[])) w1 (.pointer (some q6)) w2/\∃ w3:World,YE 51 q6 (.agg g12a) w2 w3/\(bif n12b != 0 then
 K (.tuple #[.slice none 0 0,.int .i64 n12b]) w3
 else
 ∃ q8:Addr,∃ w4:World,Ru (Instr.alloc 64 true (.tuple #[])) w3 (.pointer (some q8)) w4/\∃ g19:Array Value,YD 51 q6 w4 (.agg g19)/\YC F_file_Files_each #[.pointer p0,.agg g19,.func (.func F_file_Files_Data_1) #[] #[.pointer (some q8)]] w4 fun r21 w5=>r21=.tuple #[]/\∃ (a22:YB) (l22 c22:Nat),YD 64 q8 w5 (.slice a22 l22 c22)/\K (.tuple #[.slice a22 l22 c22,.int .i64 0]) w5)
theorem C_file_Files_Data (p0:YB) (n1:Int) (w0:World) (K:YA) (h:D_file_Files_Data p0 n1 w0 K):Cal Tryz.prog F_file_Files_Data #[.pointer p0,.int .i64 n1] w0 K :=
 denF_of (A:=⟨[],[],[]⟩) Tryz.func74 (by kernel_rfl) (by kernel_rfl) (by kernel_rfl) h
def D_num_Put (a0:YB) (l0 c0:Nat) (n1:Int) (w0:World) (K:YA):Prop :=
 LoopC (fun k x w1 =>
 ∃ n7:Int,nth x 1=.int .i64 n7/\(bif decide (n7<(l0:Int)) then
 ∃ n1_2:Int,nth x 0=.int .u64 n1_2/\∃ q14:Addr,Al (Instr.indexAt 55 (.slice a0 l0 c0) (.int .i64 n7)) (.pointer (some q14))/\∃ w2:World,YE 5 q14 (.int .u8 (IntKind.u8.wrap n1_2)) w1 w2/\k [.int .u64 (Int.fdiv n1_2 256),.int .i64 (IntKind.i64.wrap (n7+1))] w2
 else
 K (.tuple #[]) w1)) [.int .u64 n1,.int .i64 0] w0
theorem C_num_Put (a0:YB) (l0 c0:Nat) (n1:Int) (w0:World) (K:YA) (h:D_num_Put a0 l0 c0 n1 w0 K):Cal Tryz.prog F_num_Put #[.slice a0 l0 c0,.int .u64 n1] w0 K :=
 denF_of (A:=⟨[1,7],[(1,144),(7,3)],[]⟩) Tryz.func80 (by kernel_rfl) (by kernel_rfl) (by kernel_rfl) h
def D_ptr_Span (n0:Int) (n1:Int) (w0:World) (K:YA):Prop :=
 Share (fun k=>(bif decide (n1<1) then k [.bool true] w0 else YC F_ptr_within_int64 #[.int .i64 n0,.int .i64 0,.int .i64 1066496] w0 fun r11 w1=>∃ n11:Int,r11=.int .i64 n11/\(bif n0 != n11 then k [.bool true] w1 else k [.bool (decide (n1 > (IntKind.i64.wrap (1066496-n0))))] w1))) fun x w2 =>
 ∃ b19:Bool,nth x 0=.bool b19/\(bif b19 then
 K (.tuple #[.int .i64 0,.int .i64 ((-1))]) w2
 else
 K (.tuple #[.int .i64 (IntKind.i64.wrap (Int.tdiv n0 256)),.int .i64 (IntKind.i64.wrap (Int.tdiv (IntKind.i64.wrap (n0+(IntKind.i64.wrap (n1-1)))) 256))]) w2)
theorem C_ptr_Span (n0:Int) (n1:Int) (w0:World) (K:YA) (h:D_ptr_Span n0 n1 w0 K):Cal Tryz.prog F_ptr_Span #[.int .i64 n0,.int .i64 n1] w0 K :=
 denF_of (A:=⟨[19],[(19,4)],[]⟩) Tryz.func83 (by kernel_rfl) (by kernel_rfl) (by kernel_rfl) h
def D_leveeref03_Right (g0:Array Value) (w0:World) (K:YA):Prop :=
 ∃ q1:Addr,∃ w1:World,Ru (Instr.box 39 (.agg g0)) w0 (.pointer (some q1)) w1/\Share (fun k=>∃ n4:Int,YD 3 (Addr.add q1 0) w1 (.int .i64 n4)/\(bif decide (n4<16) then k [.bool true] w1 else ∃ n8:Int,YD 3 (Addr.add q1 0) w1 (.int .i64 n8)/\(bif decide (n8 > 128) then k [.bool true] w1 else ∃ n13:Int,YD 3 (Addr.add q1 1) w1 (.int .i64 n13)/\(bif decide (n13<4) then k [.bool true] w1 else ∃ n18:Int,YD 3 (Addr.add q1 1) w1 (.int .i64 n18)/\(bif decide (n18 > 64) then k [.bool true] w1 else ∃ n23:Int,YD 3 (Addr.add q1 1) w1 (.int .i64 n23)/\(bif (Int.tmod n23 4) != 0 then k [.bool true] w1 else ∃ n29:Int,YD 3 (Addr.add q1 2) w1 (.int .i64 n29)/\(bif decide (n29<1) then k [.bool true] w1 else ∃ n34:Int,YD 3 (Addr.add q1 2) w1 (.int .i64 n34)/\k [.bool (decide (n34 > 16))] w1))))))) fun x w2 =>
 ∃ b36:Bool,nth x 0=.bool b36/\(bif b36 then
 K (.bool false) w2
 else
 Share (fun k_2=>∃ n38:Int,YD 3 (Addr.add q1 0) w2 (.int .i64 n38)/\∃ n41:Int,YD 3 (Addr.add q1 1) w2 (.int .i64 n41)/\(bif decide ((IntKind.i64.wrap ((IntKind.i64.wrap (n38-1))-(IntKind.i64.wrap (Int.tdiv n41 4)))) >= 4) then ∃ n47:Int,YD 3 (Addr.add q1 2) w2 (.int .i64 n47)/\∃ n49:Int,YD 3 (Addr.add q1 0) w2 (.int .i64 n49)/\k_2 [.bool (decide ((IntKind.i64.wrap (2+(IntKind.i64.wrap (n47*n49))))<=4096))] w2 else k_2 [.bool false] w2)) fun x_2 w3 =>
 ∃ b2:Bool,nth x_2 0=.bool b2/\K (.bool b2) w3)
theorem C_leveeref03_Right (g0:Array Value) (w0:World) (K:YA) (h:D_leveeref03_Right g0 w0 K):Cal Tryz.prog F_leveeref03_Right #[.agg g0] w0 K :=
 denF_of (A:=⟨[2,36],[(2,4),(36,4)],[]⟩) Tryz.func84 (by kernel_rfl) (by kernel_rfl) (by kernel_rfl) h
def D_geo_Right (g0:Array Value) (w0:World) (K:YA):Prop :=
 ∃ q1:Addr,∃ w1:World,Ru (Instr.box 39 (.agg g0)) w0 (.pointer (some q1)) w1/\∃ g4:Array Value,YD 39 q1 w1 (.agg g4)/\YC F_geo_whole #[.agg g4] w1 fun r5 w2=>∃ g5:Array Value,r5=.agg g5/\∃ q3:Addr,∃ w3:World,Ru (Instr.alloc 39 true (.tuple #[])) w2 (.pointer (some q3)) w3/\∃ w4:World,YE 39 q3 (.agg g5) w3 w4/\Share (fun k=>∃ g6:Array Value,YD 39 q3 w4 (.agg g6)/\∃ g7:Array Value,YD 39 q1 w4 (.agg g7)/\∃ b8:Bool,Al (eqS .eql 39 (.tmp 6) (.tmp 7) (.agg g6) (.agg g7)) (.bool b8)/\(bif b8 then ∃ n11:Int,YD 3 (Addr.add q3 2) w4 (.int .i64 n11)/\k [.bool (decide (n11 > 0))] w4 else k [.bool false] w4)) fun x w5 =>
 ∃ b2:Bool,nth x 0=.bool b2/\K (.bool b2) w5
theorem C_geo_Right (g0:Array Value) (w0:World) (K:YA) (h:D_geo_Right g0 w0 K):Cal Tryz.prog F_geo_Right #[.agg g0] w0 K :=
 denF_of (A:=⟨[2],[(2,4)],[]⟩) Tryz.func85 (by kernel_rfl) (by kernel_rfl) (by kernel_rfl) h
def D_disk_Disk_Len (p0:YB) (w0:World) (K:YA):Prop :=
 (bif Option.isNone p0 then
 K (.int .i64 0) w0
 else
 ∃ q6:Addr,(.pointer p0:Value)=.pointer (some q6)/\∃ (a8:YB) (l8 c8:Nat),YD 148 (Addr.add q6 0) w0 (.slice a8 l8 c8)/\K (.int .i64 ((l8:Int))) w0)
theorem C_disk_Disk_Len (p0:YB) (w0:World) (K:YA) (h:D_disk_Disk_Len p0 w0 K):Cal Tryz.prog F_disk_Disk_Len #[.pointer p0] w0 K :=
 denF_of (A:=⟨[],[],[]⟩) Tryz.func86 (by kernel_rfl) (by kernel_rfl) (by kernel_rfl) h
def D_geo_Size (g0:Array Value) (w0:World) (K:YA):Prop :=
 ∃ q1:Addr,∃ w1:World,Ru (Instr.box 39 (.agg g0)) w0 (.pointer (some q1)) w1/\∃ g3:Array Value,YD 39 q1 w1 (.agg g3)/\YC F_geo_Right #[.agg g3] w1 fun r4 w2=>∃ b4:Bool,r4=.bool b4/\(bif !b4 then
 K (.int .i64 0) w2
 else
 ∃ n7:Int,YD 3 (Addr.add q1 2) w2 (.int .i64 n7)/\∃ n9:Int,YD 3 (Addr.add q1 0) w2 (.int .i64 n9)/\K (.int .i64 (IntKind.i64.wrap (2+(IntKind.i64.wrap (n7*n9))))) w2)
theorem C_geo_Size (g0:Array Value) (w0:World) (K:YA) (h:D_geo_Size g0 w0 K):Cal Tryz.prog F_geo_Size #[.agg g0] w0 K :=
 denF_of (A:=⟨[],[],[]⟩) Tryz.func87 (by kernel_rfl) (by kernel_rfl) (by kernel_rfl) h
def D_disk_Disk_Write (p0:YB) (n1:Int) (a2:YB) (l2 c2:Nat) (w0:World) (K:YA):Prop :=
 YC F_disk_Disk_may #[.pointer p0,.int .i64 n1] w0 fun r11 w1=>∃ n11:Int,r11=.int .i64 n11/\(bif n11 != 0 then
 K (.int .i64 n11) w1
 else
 (bif (l2:Int) != 256 then
 K (.int .i64 4) w1
 else
 ∃ q21:Addr,(.pointer p0:Value)=.pointer (some q21)/\∃ m23:Option Nat,YD 149 (Addr.add q21 1) w1 (.map m23)/\∃ (a25:YB) (l25 c25:Nat),Ru (Instr.lookup 149 (.map m23) (.int .i64 n1) false) w1 (.slice a25 l25 c25) w1/\YC F_disk_Disk_goes #[.pointer p0] w1 fun r27 w2=>∃ b27:Bool,r27=.bool b27/\Share (fun k=>(bif b27 then
 ∃ q29:Addr,(.pointer p0:Value)=.pointer (some q29)/\∃ m31:Option Nat,YD 149 (Addr.add q29 1) (drew w2) (.map m31)/\∃ (a38:YB) (l38 c38:Nat),Al (Instr.sliceAt 148 (.slice a25 l25 c25) none (some (.int .i64 ((l25:Int)))) (some (.int .i64 ((l25:Int))))) (.slice a38 l38 c38)/\∃ q40:Addr,Al (Instr.arrayAt 224 (.slice a2 l2 c2)) (.pointer (some q40))/\∃ g41:Array Value,YD 224 q40 (drew w2) (.agg g41)/\∃ (a42:YB) (l42 c42:Nat),∃ w3:World,Ru (Instr.buildSlice 148 1 #[(0,.agg g41)]) (drew w2) (.slice a42 l42 c42) w3/\YD 149 (Addr.add q29 1) w3 (.map m31)/\∃ (a43:YB) (l43 c43:Nat),∃ w4:World,Ru (Builtin.append_ #[148,148] 148 #[.slice a38 l38 c38,.slice a42 l42 c42]) w3 (.slice a43 l43 c43) w4/\YD 149 (Addr.add q29 1) w4 (.map m31)/\∃ w5:World,RuU (Instr.mapUpdate 149 (.map m31) (.int .i64 n1) (.slice a43 l43 c43)) w4 w5/\k [] w5
 else
 k [] w2)) fun x w6 =>
 K (.int .i64 0) w6))
theorem C_disk_Disk_Write (p0:YB) (n1:Int) (a2:YB) (l2 c2:Nat) (w0:World) (K:YA) (h:D_disk_Disk_Write p0 n1 a2 l2 c2 w0 K):Cal Tryz.prog F_disk_Disk_Write #[.pointer p0,.int .i64 n1,.slice a2 l2 c2] w0 K :=
 denF_of (A:=⟨[],[],[]⟩) Tryz.func88 (by kernel_rfl) (by kernel_rfl) (by kernel_rfl) h
def D_disk_Disk_Flush (p0:YB) (w0:World) (K:YA):Prop :=
 (bif Option.isNone p0 then
 K (.int .i64 2) w0
 else
 YC F_disk_Disk_goes #[.pointer p0] w0 fun r10 w1=>∃ b10:Bool,r10=.bool b10/\(bif !b10 then
 K (.int .i64 0) w1
 else
 YC F_disk_Disk_Open #[.pointer p0] w1 fun r13 w2=>∃ (a13:YB) (l13 c13:Nat),r13=.slice a13 l13 c13/\LoopC (fun k x w3 =>
 ∃ n15:Int,nth x 0=.int .i64 n15/\(bif decide (n15<(l13:Int)) then
 ∃ q17:Addr,Al (Instr.indexAt 64 (.slice a13 l13 c13) (.int .i64 n15)) (.pointer (some q17))/\∃ n18:Int,YD 3 q17 w3 (.int .i64 n18)/\∃ q20:Addr,(.pointer p0:Value)=.pointer (some q20)/\∃ (a22:YB) (l22 c22:Nat),YD 148 (Addr.add q20 0) (drew w3) (.slice a22 l22 c22)/\YC F_disk_Disk_last #[.pointer p0,.int .i64 n18] (drew w3) fun r26 w4=>∃ g26:Array Value,r26=.agg g26/\YD 148 (Addr.add q20 0) w4 (.slice a22 l22 c22)/\∃ q27:Addr,Al (Instr.indexAt 148 (.slice a22 l22 c22) (.int .i64 n18)) (.pointer (some q27))/\∃ w5:World,YE 224 q27 (.agg g26) w4 w5/\k [.int .i64 (IntKind.i64.wrap (n15+1))] w5
 else
 ∃ q30:Addr,(.pointer p0:Value)=.pointer (some q30)/\∃ m32:Option Nat,YD 149 (Addr.add q30 1) w3 (.map m32)/\∃ w6:World,Ru (Builtin.clear_ #[149] 0 #[.map m32]) w3 (.tuple #[]) w6/\K (.int .i64 0) w6)) [.int .i64 0] w2))
theorem C_disk_Disk_Flush (p0:YB) (w0:World) (K:YA) (h:D_disk_Disk_Flush p0 w0 K):Cal Tryz.prog F_disk_Disk_Flush #[.pointer p0] w0 K :=
 denF_of (A:=⟨[15],[(15,3)],[]⟩) Tryz.func89 (by kernel_rfl) (by kernel_rfl) (by kernel_rfl) h
def D_vol_each (g0:Array Value) (n1:Int) (v2:Value) (w0:World) (K:YA):Prop :=
 ∃ q3:Addr,∃ w1:World,Ru (Instr.box 39 (.agg g0)) w0 (.pointer (some q3)) w1/\LoopC (fun k x w2 =>
 ∃ n7:Int,nth x 0=.int .i64 n7/\∃ n19:Int,YD 3 (Addr.add q3 2) w2 (.int .i64 n19)/\(bif decide (n7<n19) then
 ∃ g24:Array Value,YD 39 q3 w2 (.agg g24)/\YC F_group_Fresh #[.agg g24,.int .i64 n7] w2 fun r26 w3=>∃ g26a:Array Value,∃ n26b:Int,r26=.tuple #[.agg g26a,.int .i64 n26b]/\∃ q8:Addr,∃ w4:World,Ru (Instr.alloc 171 true (.tuple #[])) w3 (.pointer (some q8)) w4/\∃ w5:World,YE 171 q8 (.agg g26a) w4 w5/\∃ g30:Array Value,YD 39 q3 w5 (.agg g30)/\∃ g31:Array Value,YD 171 q8 w5 (.agg g31)/\YC F_group_Put #[.agg g30,.agg g31] w5 fun r32 w6=>∃ (a32a:YB) (l32a c32a:Nat),∃ n32b:Int,r32=.tuple #[.slice a32a l32a c32a,.int .i64 n32b]/\∃ g36:Array Value,YD 39 q3 w6 (.agg g36)/\YC F_geo_Head #[.agg g36,.int .i64 n7] w6 fun r38 w7=>∃ n38a:Int,∃ n38b:Int,r38=.tuple #[.int .i64 n38a,.int .i64 n38b]/\∃ g41:Array Value,YD 39 q3 w7 (.agg g41)/\YC F_geo_Tables #[.agg g41] w7 fun r42 w8=>∃ n42:Int,r42=.int .i64 n42/\LoopC (fun k_2 x_2 w9 =>
 ∃ n44:Int,nth x_2 1=.int .i64 n44/\(bif decide (n44<(IntKind.i64.wrap (1+n42))) then
 Share (fun k_3=>(bif decide (n44 > 0) then
 ∃ (a49:YB) (l49 c49:Nat),∃ w10:World,Ru (Instr.makeSlice 55 (.int .i64 256) (.int .i64 256)) w9 (.slice a49 l49 c49) w10/\k_3 [.slice a49 l49 c49] w10
 else
 k_3 [nth x_2 0] w9)) fun x_3 w11 =>
 Share (fun k_4=>(bif n7==0 then k_4 [.bool (n44==1)] w11 else k_4 [.bool false] w11)) fun x_4 w12 =>
 ∃ b55:Bool,nth x_4 0=.bool b55/\Share (fun k_5=>(bif b55 then
 ∃ (a10:YB) (l10 c10:Nat),nth x_3 0=.slice a10 l10 c10/\∃ g58:Array Value,Al (Instr.build 51 #[(0,.int .i64 2),(1,.int .i64 1),(3,.int .i64 1)]) (.agg g58)/\YC F_inode_Lay #[.slice a10 l10 c10,.int .i64 1,.agg g58] w12 fun r59 w13=>∃ (a59a:YB) (l59a c59a:Nat),∃ n59b:Int,r59=.tuple #[.slice a59a l59a c59a,.int .i64 n59b]/\k_5 [.slice a59a l59a c59a] w13
 else
 k_5 [nth x_3 0] w12)) fun x_5 w14 =>
 ∃ (a10_2:YB) (l10_2 c10_2:Nat),nth x_5 0=.slice a10_2 l10_2 c10_2/\Dyn Tryz.prog v2 #[.int .i64 (IntKind.i64.wrap (n38a+n44)),.slice a10_2 l10_2 c10_2] w14 fun r67 w15=>∃ n67:Int,r67=.int .i64 n67/\(bif n67 != 0 then
 K (.int .i64 n67) w15
 else
 k_2 [.slice a10_2 l10_2 c10_2,.int .i64 (IntKind.i64.wrap (n44+1)),.bool b55] w15)
 else
 k [.int .i64 (IntKind.i64.wrap (n7+1)),nth x_2 0,.int .i64 n44,nth x_2 2] w9)) [.slice a32a l32a c32a,.int .i64 0,nth x 3] w8
 else
 K (.int .i64 0) w2)) [.int .i64 n1,undef,undef,undef] w1
theorem C_vol_each (g0:Array Value) (n1:Int) (v2:Value) (w0:World) (K:YA) (h:D_vol_each g0 n1 v2 w0 K):Cal Tryz.prog F_vol_each #[.agg g0,.int .i64 n1,v2] w0 K :=
 denF_of (A:=⟨[7,10,44,55],[(7,3),(10,55),(44,3),(55,4)],[]⟩) Tryz.func90 (by kernel_rfl) (by kernel_rfl) (by kernel_rfl) h
def D_super_Put (g0:Array Value) (w0:World) (K:YA):Prop :=
 ∃ q1:Addr,∃ w1:World,Ru (Instr.box 158 (.agg g0)) w0 (.pointer (some q1)) w1/\∃ g5:Array Value,YD 158 q1 w1 (.agg g5)/\YC F_super_Super_right #[.agg g5] w1 fun r6 w2=>∃ b6:Bool,r6=.bool b6/\(bif !b6 then
 K (.tuple #[.slice none 0 0,.int .i64 1]) w2
 else
 ∃ q4:Addr,∃ w3:World,Ru (Instr.alloc 223 true (.tuple #[])) w2 (.pointer (some q4)) w3/\∃ (a8:YB) (l8 c8:Nat),Al (Instr.sliceAt 223 (.pointer (some q4)) none none none) (.slice a8 l8 c8)/\∃ n9:Int,∃ w4:World,Ru (Builtin.copy_ #[55,9] 3 #[.slice a8 l8 c8,.string (⟨#[76,86,69,69]⟩)]) w3 (.int .i64 n9) w4/\∃ (a10:YB) (l10 c10:Nat),Al (Instr.sliceAt 223 (.pointer (some q4)) (some (.int .i64 4)) (some (.int .i64 12)) none) (.slice a10 l10 c10)/\∃ n12:Int,YD 2 (Addr.add q1 0) (drew w4) (.int .i64 n12)/\YC F_num_Put #[.slice a10 l10 c10,.int .u64 (IntKind.u64.wrap n12)] (drew w4) fun r14 w5=>r14=.tuple #[]/\∃ (a15:YB) (l15 c15:Nat),Al (Instr.sliceAt 223 (.pointer (some q4)) (some (.int .i64 12)) (some (.int .i64 14)) none) (.slice a15 l15 c15)/\∃ n18:Int,YD 3 (Addr.add (Addr.add q1 1) 0) (drew w5) (.int .i64 n18)/\YC F_num_Put #[.slice a15 l15 c15,.int .u64 (IntKind.u64.wrap n18)] (drew w5) fun r20 w6=>r20=.tuple #[]/\∃ (a21:YB) (l21 c21:Nat),Al (Instr.sliceAt 223 (.pointer (some q4)) (some (.int .i64 14)) (some (.int .i64 16)) none) (.slice a21 l21 c21)/\∃ n24:Int,YD 3 (Addr.add (Addr.add q1 1) 1) (drew w6) (.int .i64 n24)/\YC F_num_Put #[.slice a21 l21 c21,.int .u64 (IntKind.u64.wrap n24)] (drew w6) fun r26 w7=>r26=.tuple #[]/\∃ (a27:YB) (l27 c27:Nat),Al (Instr.sliceAt 223 (.pointer (some q4)) (some (.int .i64 16)) (some (.int .i64 18)) none) (.slice a27 l27 c27)/\∃ n30:Int,YD 3 (Addr.add (Addr.add q1 1) 2) (drew w7) (.int .i64 n30)/\YC F_num_Put #[.slice a27 l27 c27,.int .u64 (IntKind.u64.wrap n30)] (drew w7) fun r32 w8=>r32=.tuple #[]/\∃ (a33:YB) (l33 c33:Nat),Al (Instr.sliceAt 223 (.pointer (some q4)) (some (.int .i64 252)) none none) (.slice a33 l33 c33)/\∃ (a34:YB) (l34 c34:Nat),Al (Instr.sliceAt 223 (.pointer (some q4)) none (some (.int .i64 252)) none) (.slice a34 l34 c34)/\YC F_num_Sum #[.slice a34 l34 c34] (drew w8) fun r35 w9=>∃ n35:Int,r35=.int .u32 n35/\YC F_num_Put #[.slice a33 l33 c33,.int .u64 (IntKind.u64.wrap n35)] w9 fun r37 w10=>r37=.tuple #[]/\∃ (a38:YB) (l38 c38:Nat),Al (Instr.sliceAt 223 (.pointer (some q4)) none none none) (.slice a38 l38 c38)/\K (.tuple #[.slice a38 l38 c38,.int .i64 0]) w10)
theorem C_super_Put (g0:Array Value) (w0:World) (K:YA) (h:D_super_Put g0 w0 K):Cal Tryz.prog F_super_Put #[.agg g0] w0 K :=
 denF_of (A:=⟨[],[],[]⟩) Tryz.func91 (by kernel_rfl) (by kernel_rfl) (by kernel_rfl) h
def D_patch_Open (p0:YB) (n1:Int) (w0:World) (K:YA):Prop :=
 YC F_cache_New #[.pointer p0,.int .i64 n1] w0 fun r11 w1=>∃ p11a:YB,∃ n11b:Int,r11=.tuple #[.pointer p11a,.int .i64 n11b]/\(bif n11b != 0 then
 K (.tuple #[.pointer none,.int .i64 n11b]) w1
 else
 YC F_disk_Disk_Len #[.pointer p0] w1 fun r19 w2=>∃ n19:Int,r19=.int .i64 n19/\∃ m20:Option Nat,∃ w3:World,Ru (Instr.makeMap 236 none) w2 (.map m20) w3/\∃ m21:Option Nat,∃ w4:World,Ru (Instr.makeMap 237 none) w3 (.map m21) w4/\∃ g22:Array Value,Al (Instr.build 239 #[(0,.pointer p11a),(1,.int .i64 n19),(3,.map m20),(4,.map m21)]) (.agg g22)/\∃ q23:Addr,∃ w5:World,Ru (Instr.box 239 (.agg g22)) w4 (.pointer (some q23)) w5/\K (.tuple #[.pointer (some q23),.int .i64 0]) w5)
theorem C_patch_Open (p0:YB) (n1:Int) (w0:World) (K:YA) (h:D_patch_Open p0 n1 w0 K):Cal Tryz.prog F_patch_Open #[.pointer p0,.int .i64 n1] w0 K :=
 denF_of (A:=⟨[],[],[]⟩) Tryz.func92 (by kernel_rfl) (by kernel_rfl) (by kernel_rfl) h
def D_disk_Disk_Read (p0:YB) (n1:Int) (w0:World) (K:YA):Prop :=
 YC F_disk_Disk_may #[.pointer p0,.int .i64 n1] w0 fun r10 w1=>∃ n10:Int,r10=.int .i64 n10/\(bif n10 != 0 then
 K (.tuple #[.slice none 0 0,.int .i64 n10]) w1
 else
 YC F_disk_Disk_last #[.pointer p0,.int .i64 n1] w1 fun r16 w2=>∃ g16:Array Value,r16=.agg g16/\∃ q7:Addr,∃ w3:World,Ru (Instr.alloc 224 true (.tuple #[])) w2 (.pointer (some q7)) w3/\∃ w4:World,YE 224 q7 (.agg g16) w3 w4/\∃ (a17:YB) (l17 c17:Nat),Al (Instr.sliceAt 224 (.pointer (some q7)) none none none) (.slice a17 l17 c17)/\K (.tuple #[.slice a17 l17 c17,.int .i64 0]) w4)
theorem C_disk_Disk_Read (p0:YB) (n1:Int) (w0:World) (K:YA) (h:D_disk_Disk_Read p0 n1 w0 K):Cal Tryz.prog F_disk_Disk_Read #[.pointer p0,.int .i64 n1] w0 K :=
 denF_of (A:=⟨[],[],[]⟩) Tryz.func93 (by kernel_rfl) (by kernel_rfl) (by kernel_rfl) h
def D_super_Choose (a0:YB) (l0 c0:Nat) (a1:YB) (l1 c1:Nat) (n2:Int) (w0:World) (K:YA):Prop :=
 ∃ q6:Addr,∃ w1:World,Ru (Instr.alloc 158 true (.tuple #[])) w0 (.pointer (some q6)) w1/\∃ g15:Array Value,Al (Instr.build 158 #[]) (.agg g15)/\∃ q9:Addr,∃ w2:World,Ru (Instr.alloc 158 true (.tuple #[])) w1 (.pointer (some q9)) w2/\∃ w3:World,YE 158 q9 (.agg g15) w2 w3/\∃ g18:Array Value,Al (Instr.build 240 #[(0,.slice a0 l0 c0),(1,.slice a1 l1 c1)]) (.agg g18)/\LoopC (fun k x w4 =>
 ∃ n19:Int,nth x 0=.int .i64 n19/\(bif decide (n19<2) then
 ∃ (a22:YB) (l22 c22:Nat),Al (Instr.index 240 (.agg g18) (.int .i64 n19)) (.slice a22 l22 c22)/\YC F_super_Get #[.slice a22 l22 c22] w4 fun r25 w5=>∃ g25a:Array Value,∃ n25b:Int,r25=.tuple #[.agg g25a,.int .i64 n25b]/\∃ q12:Addr,∃ w6:World,Ru (Instr.alloc 158 true (.tuple #[])) w5 (.pointer (some q12)) w6/\∃ w7:World,YE 158 q12 (.agg g25a) w6 w7/\Share (fun k_2=>(bif n25b==0 then ∃ g31:Array Value,YD 158 q12 w7 (.agg g31)/\YC F_super_Super_place #[.agg g31] w7 fun r32 w8=>∃ n32:Int,r32=.int .i64 n32/\(bif n32==n19 then ∃ g38:Array Value,YD 39 (Addr.add q12 1) w8 (.agg g38)/\YC F_geo_Size #[.agg g38] w8 fun r39 w9=>∃ n39:Int,r39=.int .i64 n39/\(bif decide (n39<=n2) then ∃ n45:Int,YD 2 (Addr.add q12 0) w9 (.int .i64 n45)/\∃ n47:Int,YD 2 (Addr.add q9 0) w9 (.int .i64 n47)/\k_2 [.bool (decide (n45 > n47))] w9 else k_2 [.bool false] w9) else k_2 [.bool false] w8) else k_2 [.bool false] w7)) fun x_2 w10 =>
 ∃ b49:Bool,nth x_2 0=.bool b49/\Share (fun k_3=>(bif b49 then
 ∃ g50:Array Value,YD 158 q12 w10 (.agg g50)/\∃ w11:World,YE 158 q9 (.agg g50) w10 w11/\k_3 [] w11
 else
 k_3 [] w10)) fun x_3 w12 =>
 k [.int .i64 (IntKind.i64.wrap (n19+1)),.bool b49] w12
 else
 ∃ g52:Array Value,Al (Instr.build 158 #[]) (.agg g52)/\∃ q14:Addr,∃ w13:World,Ru (Instr.alloc 158 true (.tuple #[])) w4 (.pointer (some q14)) w13/\∃ w14:World,YE 158 q14 (.agg g52) w13 w14/\∃ g53:Array Value,YD 158 q9 w14 (.agg g53)/\∃ g54:Array Value,YD 158 q14 w14 (.agg g54)/\∃ b55:Bool,Al (eqS .eql 158 (.tmp 53) (.tmp 54) (.agg g53) (.agg g54)) (.bool b55)/\(bif b55 then
 ∃ g56:Array Value,YD 158 q9 w14 (.agg g56)/\∃ w15:World,YE 158 q6 (.agg g56) w14 w15/\∃ gR6:Array Value,YD 158 q6 w15 (.agg gR6)/\K (.tuple #[.agg gR6,.int .i64 0,.int .i64 10]) w15
 else
 ∃ g57:Array Value,YD 158 q9 (drew w14) (.agg g57)/\∃ g58:Array Value,YD 158 q9 (drew w14) (.agg g58)/\YC F_super_Super_place #[.agg g58] (drew w14) fun r59 w16=>∃ n59:Int,r59=.int .i64 n59/\YD 158 q9 w16 (.agg g57)/\∃ w17:World,YE 158 q6 (.agg g57) w16 w17/\∃ gR6_2:Array Value,YD 158 q6 w17 (.agg gR6_2)/\K (.tuple #[.agg gR6_2,.int .i64 n59,.int .i64 0]) w17))) [.int .i64 0,undef] w3
theorem C_super_Choose (a0:YB) (l0 c0:Nat) (a1:YB) (l1 c1:Nat) (n2:Int) (w0:World) (K:YA) (h:D_super_Choose a0 l0 c0 a1 l1 c1 n2 w0 K):Cal Tryz.prog F_super_Choose #[.slice a0 l0 c0,.slice a1 l1 c1,.int .i64 n2] w0 K :=
 denF_of (A:=⟨[19,49],[(19,3),(49,4)],[]⟩) Tryz.func94 (by kernel_rfl) (by kernel_rfl) (by kernel_rfl) h
def D_push_New (w0:World) (K:YA):Prop :=
 ∃ g1:Array Value,Al (Instr.build 245 #[]) (.agg g1)/\∃ q2:Addr,∃ w1:World,Ru (Instr.box 245 (.agg g1)) w0 (.pointer (some q2)) w1/\K (.pointer (some q2)) w1
theorem C_push_New (w0:World) (K:YA) (h:D_push_New  w0 K):Cal Tryz.prog F_push_New #[] w0 K :=
 denF_of (A:=⟨[],[],[]⟩) Tryz.func95 (by kernel_rfl) (by kernel_rfl) (by kernel_rfl) h
def D_vol_Vol_Head (p0:YB) (n1:Int) (w0:World) (K:YA):Prop :=
 ∃ q4:Addr,∃ w1:World,Ru (Instr.alloc 171 true (.tuple #[])) w0 (.pointer (some q4)) w1/\YC F_vol_Vol_head #[.pointer p0,.int .i64 n1] w1 fun r12 w2=>∃ n12a:Int,∃ n12b:Int,r12=.tuple #[.int .i64 n12a,.int .i64 n12b]/\(bif n12b != 0 then
 ∃ g17:Array Value,Al (Instr.build 171 #[]) (.agg g17)/\∃ w3:World,YE 171 q4 (.agg g17) w2 w3/\∃ gR4:Array Value,YD 171 q4 w3 (.agg gR4)/\K (.tuple #[.agg gR4,.int .i64 n12b]) w3
 else
 ∃ q21:Addr,(.pointer p0:Value)=.pointer (some q21)/\∃ p23:YB,YD 159 (Addr.add q21 4) w2 (.pointer p23)/\YC F_patch_Store_Read #[.pointer p23,.int .i64 n12a] w2 fun r25 w4=>∃ (a25a:YB) (l25a c25a:Nat),∃ n25b:Int,r25=.tuple #[.slice a25a l25a c25a,.int .i64 n25b]/\(bif n25b != 0 then
 ∃ g30:Array Value,Al (Instr.build 171 #[]) (.agg g30)/\∃ w5:World,YE 171 q4 (.agg g30) w4 w5/\∃ gR4_2:Array Value,YD 171 q4 w5 (.agg gR4_2)/\K (.tuple #[.agg gR4_2,.int .i64 n25b]) w5
 else
 ∃ q33:Addr,(.pointer p0:Value)=.pointer (some q33)/\∃ g36:Array Value,YD 39 (Addr.add (Addr.add q33 0) 1) w4 (.agg g36)/\YC F_group_Get #[.agg g36,.slice a25a l25a c25a] w4 fun r38 w6=>∃ g38a:Array Value,∃ n38b:Int,r38=.tuple #[.agg g38a,.int .i64 n38b]/\∃ w7:World,YE 171 q4 (.agg g38a) w6 w7/\∃ gR4_3:Array Value,YD 171 q4 w7 (.agg gR4_3)/\K (.tuple #[.agg gR4_3,.int .i64 n38b]) w7))
theorem C_vol_Vol_Head (p0:YB) (n1:Int) (w0:World) (K:YA) (h:D_vol_Vol_Head p0 n1 w0 K):Cal Tryz.prog F_vol_Vol_Head #[.pointer p0,.int .i64 n1] w0 K :=
 denF_of (A:=⟨[],[],[]⟩) Tryz.func96 (by kernel_rfl) (by kernel_rfl) (by kernel_rfl) h
def D_geo_Slots (g0:Array Value) (w0:World) (K:YA):Prop :=
 ∃ q1:Addr,∃ w1:World,Ru (Instr.box 39 (.agg g0)) w0 (.pointer (some q1)) w1/\∃ g4:Array Value,YD 39 q1 w1 (.agg g4)/\YC F_geo_whole #[.agg g4] w1 fun r5 w2=>∃ g5:Array Value,r5=.agg g5/\∃ q3:Addr,∃ w3:World,Ru (Instr.alloc 39 true (.tuple #[])) w2 (.pointer (some q3)) w3/\∃ w4:World,YE 39 q3 (.agg g5) w3 w4/\∃ n7:Int,YD 3 (Addr.add q3 2) w4 (.int .i64 n7)/\∃ n9:Int,YD 3 (Addr.add q3 1) w4 (.int .i64 n9)/\K (.int .i64 (IntKind.i64.wrap (n7*n9))) w4
theorem C_geo_Slots (g0:Array Value) (w0:World) (K:YA) (h:D_geo_Slots g0 w0 K):Cal Tryz.prog F_geo_Slots #[.agg g0] w0 K :=
 denF_of (A:=⟨[],[],[]⟩) Tryz.func97 (by kernel_rfl) (by kernel_rfl) (by kernel_rfl) h
def D_vol_Vol_place (p0:YB) (n1:Int) (w0:World) (K:YA):Prop :=
 (bif Option.isNone p0 then
 K (.tuple #[.int .i64 0,.int .i64 0,.int .i64 2]) w0
 else
 ∃ q10:Addr,(.pointer p0:Value)=.pointer (some q10)/\∃ g13:Array Value,YD 39 (Addr.add (Addr.add q10 0) 1) w0 (.agg g13)/\YC F_geo_Place #[.agg g13,.int .i64 n1] w0 fun r15 w1=>∃ n15a:Int,∃ n15b:Int,∃ n15c:Int,r15=.tuple #[.int .i64 n15a,.int .i64 n15b,.int .i64 n15c]/\K (.tuple #[.int .i64 n15a,.int .i64 n15b,.int .i64 n15c]) w1)
theorem C_vol_Vol_place (p0:YB) (n1:Int) (w0:World) (K:YA) (h:D_vol_Vol_place p0 n1 w0 K):Cal Tryz.prog F_vol_Vol_place #[.pointer p0,.int .i64 n1] w0 K :=
 denF_of (A:=⟨[],[],[]⟩) Tryz.func98 (by kernel_rfl) (by kernel_rfl) (by kernel_rfl) h
def D_inode_Put (g0:Array Value) (w0:World) (K:YA):Prop :=
 ∃ q1:Addr,∃ w1:World,Ru (Instr.box 51 (.agg g0)) w0 (.pointer (some q1)) w1/\∃ g7:Array Value,YD 51 q1 w1 (.agg g7)/\YC F_inode_Right #[.agg g7] w1 fun r8 w2=>∃ b8:Bool,r8=.bool b8/\(bif !b8 then
 K (.tuple #[.slice none 0 0,.int .i64 1]) w2
 else
 ∃ (a10:YB) (l10 c10:Nat),∃ w3:World,Ru (Instr.makeSlice 55 (.int .i64 64) (.int .i64 64)) w2 (.slice a10 l10 c10) w3/\∃ n13:Int,YD 3 (Addr.add q1 0) w3 (.int .i64 n13)/\∃ q15:Addr,Al (Instr.indexAt 55 (.slice a10 l10 c10) (.int .i64 0)) (.pointer (some q15))/\∃ w4:World,YE 5 q15 (.int .u8 (IntKind.u8.wrap n13)) w3 w4/\∃ (a17:YB) (l17 c17:Nat),Al (Instr.sliceAt 55 (.slice a10 l10 c10) (some (.int .i64 2)) (some (.int .i64 4)) none) (.slice a17 l17 c17)/\∃ n19:Int,YD 3 (Addr.add q1 1) (drew w4) (.int .i64 n19)/\YC F_num_Put #[.slice a17 l17 c17,.int .u64 (IntKind.u64.wrap n19)] (drew w4) fun r21 w5=>r21=.tuple #[]/\∃ (a23:YB) (l23 c23:Nat),Al (Instr.sliceAt 55 (.slice a10 l10 c10) (some (.int .i64 4)) (some (.int .i64 8)) none) (.slice a23 l23 c23)/\∃ n25:Int,YD 2 (Addr.add q1 2) (drew w5) (.int .i64 n25)/\YC F_num_Put #[.slice a23 l23 c23,.int .u64 (IntKind.u64.wrap n25)] (drew w5) fun r27 w6=>r27=.tuple #[]/\∃ (a29:YB) (l29 c29:Nat),Al (Instr.sliceAt 55 (.slice a10 l10 c10) (some (.int .i64 8)) (some (.int .i64 16)) none) (.slice a29 l29 c29)/\∃ n31:Int,YD 2 (Addr.add q1 3) (drew w6) (.int .i64 n31)/\YC F_num_Put #[.slice a29 l29 c29,.int .u64 (IntKind.u64.wrap n31)] (drew w6) fun r33 w7=>r33=.tuple #[]/\∃ g34:Array Value,YD 51 q1 w7 (.agg g34)/\YC F_inode_all #[.agg g34] w7 fun r35 w8=>∃ g35:Array Value,r35=.agg g35/\LoopC (fun k x w9 =>
 ∃ n36:Int,nth x 0=.int .i64 n36/\(bif decide (n36<8) then
 ∃ n39:Int,Al (Instr.index 249 (.agg g35) (.int .i64 n36)) (.int .i64 n39)/\∃ (a48:YB) (l48 c48:Nat),Al (Instr.sliceAt 55 (.slice a10 l10 c10) (some (.int .i64 (IntKind.i64.wrap (16+(IntKind.i64.wrap (n36*2)))))) (some (.int .i64 (IntKind.i64.wrap (16+(IntKind.i64.wrap ((IntKind.i64.wrap (n36+1))*2)))))) none) (.slice a48 l48 c48)/\YC F_num_Put #[.slice a48 l48 c48,.int .u64 (IntKind.u64.wrap n39)] w9 fun r51 w10=>r51=.tuple #[]/\k [.int .i64 (IntKind.i64.wrap (n36+1))] w10
 else
 K (.tuple #[.slice a10 l10 c10,.int .i64 0]) w9)) [.int .i64 0] w8)
theorem C_inode_Put (g0:Array Value) (w0:World) (K:YA) (h:D_inode_Put g0 w0 K):Cal Tryz.prog F_inode_Put #[.agg g0] w0 K :=
 denF_of (A:=⟨[36],[(36,3)],[]⟩) Tryz.func99 (by kernel_rfl) (by kernel_rfl) (by kernel_rfl) h
def D_patch_Store_Patch (p0:YB) (n1:Int) (n2:Int) (a3:YB) (l3 c3:Nat) (a4:YB) (l4 c4:Nat) (w0:World) (K:YA):Prop :=
 ∃ q5:Addr,∃ w1:World,Ru (Instr.box 159 (.pointer p0)) w0 (.pointer (some q5)) w1/\∃ p21:YB,YD 159 q5 w1 (.pointer p21)/\(bif Option.isNone p21 then
 K (.tuple #[.int .i64 0,.int .i64 2]) w1
 else
 Share (fun k=>(bif decide (n1<0) then k [.bool true] w1 else ∃ p28:YB,YD 159 q5 w1 (.pointer p28)/\∃ q29:Addr,(.pointer p28:Value)=.pointer (some q29)/\∃ n31:Int,YD 3 (Addr.add q29 1) w1 (.int .i64 n31)/\k [.bool (decide (n1 >= n31))] w1)) fun x w2 =>
 ∃ b23:Bool,nth x 0=.bool b23/\(bif b23 then
 K (.tuple #[.int .i64 0,.int .i64 3]) w2
 else
 Share (fun k_2=>(bif (l3:Int)==0 then k_2 [.bool true] w2 else (bif decide (n2<0) then k_2 [.bool true] w2 else (bif decide (n2 > 256) then k_2 [.bool true] w2 else k_2 [.bool (decide ((l3:Int) > (IntKind.i64.wrap (256-n2))))] w2)))) fun x_2 w3 =>
 ∃ b34:Bool,nth x_2 0=.bool b34/\(bif b34 then
 K (.tuple #[.int .i64 0,.int .i64 4]) w3
 else
 YC F_slices_ContainsFunc_int64 #[.slice a4 l4 c4,.func (.func F_patch_Store_Patch_1) #[] #[.pointer (some q5)]] w3 fun r56 w4=>∃ b56:Bool,r56=.bool b56/\(bif b56 then
 K (.tuple #[.int .i64 0,.int .i64 1]) w4
 else
 ∃ p58:YB,YD 159 q5 w4 (.pointer p58)/\∃ q59:Addr,(.pointer p58:Value)=.pointer (some q59)/\∃ p61:YB,YD 233 (Addr.add q59 0) w4 (.pointer p61)/\YC F_cache_Cache_Read #[.pointer p61,.int .i64 n1] w4 fun r63 w5=>∃ (a63a:YB) (l63a c63a:Nat),∃ n63b:Int,r63=.tuple #[.slice a63a l63a c63a,.int .i64 n63b]/\(bif n63b != 0 then
 K (.tuple #[.int .i64 0,.int .i64 n63b]) w5
 else
 ∃ p69:YB,YD 159 q5 w5 (.pointer p69)/\∃ q70:Addr,(.pointer p69:Value)=.pointer (some q70)/\∃ m72:Option Nat,YD 237 (Addr.add q70 4) w5 (.map m72)/\∃ p74:YB,Ru (Instr.lookup 237 (.map m72) (.int .i64 n1) false) w5 (.pointer p74) w5/\Share (fun k_3=>(bif Option.isNone p74 then
 ∃ g78:Array Value,Al (Instr.build 255 #[(0,.slice a63a l63a c63a)]) (.agg g78)/\∃ q79:Addr,∃ w6:World,Ru (Instr.box 255 (.agg g78)) w5 (.pointer (some q79)) w6/\∃ p80:YB,YD 159 q5 w6 (.pointer p80)/\∃ q81:Addr,(.pointer p80:Value)=.pointer (some q81)/\∃ m83:Option Nat,YD 237 (Addr.add q81 4) w6 (.map m83)/\∃ w7:World,RuU (Instr.mapUpdate 237 (.map m83) (.int .i64 n1) (.pointer (some q79))) w6 w7/\∃ p86:YB,YD 159 q5 w7 (.pointer p86)/\∃ q87:Addr,(.pointer p86:Value)=.pointer (some q87)/\∃ p89:YB,YD 233 (Addr.add q87 0) w7 (.pointer p89)/\YC F_cache_Cache_Pin #[.pointer p89,.int .i64 n1] w7 fun r91 w8=>∃ n91:Int,r91=.int .i64 n91/\k_3 [.pointer (some q79)] w8
 else
 k_3 [.pointer p74] w5)) fun x_3 w9 =>
 YC F_num_Lay #[.slice a63a l63a c63a,.int .i64 n2,.slice a3 l3 c3] w9 fun r96 w10=>∃ (a96a:YB) (l96a c96a:Nat),∃ n96b:Int,r96=.tuple #[.slice a96a l96a c96a,.int .i64 n96b]/\∃ p99:YB,YD 159 q5 w10 (.pointer p99)/\∃ q100:Addr,(.pointer p99:Value)=.pointer (some q100)/\∃ p102:YB,YD 233 (Addr.add q100 0) w10 (.pointer p102)/\YC F_cache_Cache_Lay #[.pointer p102,.int .i64 n1,.slice a96a l96a c96a] w10 fun r105 w11=>∃ n105:Int,r105=.int .i64 n105/\∃ p106:YB,YD 159 q5 w11 (.pointer p106)/\∃ q107:Addr,(.pointer p106:Value)=.pointer (some q107)/\∃ n109:Int,YD 2 (Addr.add q107 2) w11 (.int .i64 n109)/\∃ q111:Addr,(.pointer p106:Value)=.pointer (some q111)/\∃ w12:World,YE 2 (Addr.add q111 2) (.int .i64 (IntKind.i64.wrap (n109+1))) w11 w12/\∃ p113:YB,YD 159 q5 (drew w12) (.pointer p113)/\∃ q114:Addr,(.pointer p113:Value)=.pointer (some q114)/\∃ n116:Int,YD 2 (Addr.add q114 2) (drew w12) (.int .i64 n116)/\YC F_slices_Clone_byte #[.slice a3 l3 c3] (drew w12) fun r120 w13=>∃ (a120:YB) (l120 c120:Nat),r120=.slice a120 l120 c120/\YD 159 q5 w13 (.pointer p113)/\YD 2 (Addr.add q114 2) w13 (.int .i64 n116)/\∃ g121:Array Value,Al (Instr.build 260 #[(0,.int .i64 n116),(1,.int .i64 n1),(2,.int .i64 n2),(3,.slice a120 l120 c120)]) (.agg g121)/\∃ q122:Addr,∃ w14:World,Ru (Instr.box 260 (.agg g121)) w13 (.pointer (some q122)) w14/\LoopC (fun k_4 x_4 w15 =>
 ∃ n125:Int,nth x_4 0=.int .i64 n125/\(bif decide (n125<(l4:Int)) then
 ∃ q127:Addr,Al (Instr.indexAt 65 (.slice a4 l4 c4) (.int .i64 n125)) (.pointer (some q127))/\∃ n128:Int,YD 2 q127 w15 (.int .i64 n128)/\∃ p129:YB,YD 159 q5 w15 (.pointer p129)/\∃ q130:Addr,(.pointer p129:Value)=.pointer (some q130)/\∃ m132:Option Nat,YD 236 (Addr.add q130 3) w15 (.map m132)/\∃ p134:YB,Ru (Instr.lookup 236 (.map m132) (.int .i64 n128) false) w15 (.pointer p134) w15/\Share (fun k_5=>(bif !(Option.isNone p134) then
 ∃ q138:Addr,(.pointer (some q122):Value)=.pointer (some q138)/\∃ (a140:YB) (l140 c140:Nat),YD 65 (Addr.add q138 4) w15 (.slice a140 l140 c140)/\∃ (a142:YB) (l142 c142:Nat),∃ w16:World,Ru (Instr.buildSlice 65 1 #[(0,.int .i64 n128)]) w15 (.slice a142 l142 c142) w16/\∃ (a143:YB) (l143 c143:Nat),∃ w17:World,Ru (Builtin.append_ #[65,65] 65 #[.slice a140 l140 c140,.slice a142 l142 c142]) w16 (.slice a143 l143 c143) w17/\∃ q144:Addr,(.pointer (some q122):Value)=.pointer (some q144)/\∃ w18:World,YE 65 (Addr.add q144 4) (.slice a143 l143 c143) w17 w18/\k_5 [] w18
 else
 k_5 [] w15)) fun x_5 w19 =>
 k_4 [.int .i64 (IntKind.i64.wrap (n125+1))] w19
 else
 ∃ p147:YB,YD 159 q5 (drew w15) (.pointer p147)/\∃ q148:Addr,(.pointer p147:Value)=.pointer (some q148)/\∃ m150:Option Nat,YD 236 (Addr.add q148 3) (drew w15) (.map m150)/\∃ q152:Addr,(.pointer (some q122):Value)=.pointer (some q152)/\∃ n154:Int,YD 2 (Addr.add q152 0) (drew w15) (.int .i64 n154)/\∃ w20:World,RuU (Instr.mapUpdate 236 (.map m150) (.int .i64 n154) (.pointer (some q122))) (drew w15) w20/\∃ p14:YB,nth x_3 0=.pointer p14/\∃ q158:Addr,(.pointer p14:Value)=.pointer (some q158)/\∃ (a160:YB) (l160 c160:Nat),YD 253 (Addr.add q158 1) w20 (.slice a160 l160 c160)/\∃ (a162:YB) (l162 c162:Nat),∃ w21:World,Ru (Instr.buildSlice 253 1 #[(0,.pointer (some q122))]) w20 (.slice a162 l162 c162) w21/\∃ (a163:YB) (l163 c163:Nat),∃ w22:World,Ru (Builtin.append_ #[253,253] 253 #[.slice a160 l160 c160,.slice a162 l162 c162]) w21 (.slice a163 l163 c163) w22/\∃ q164:Addr,(.pointer p14:Value)=.pointer (some q164)/\∃ w23:World,YE 253 (Addr.add q164 1) (.slice a163 l163 c163) w22 w23/\∃ q167:Addr,(.pointer (some q122):Value)=.pointer (some q167)/\∃ n169:Int,YD 2 (Addr.add q167 0) w23 (.int .i64 n169)/\K (.tuple #[.int .i64 n169,.int .i64 0]) w23)) [.int .i64 0] w14)))))
theorem C_patch_Store_Patch (p0:YB) (n1:Int) (n2:Int) (a3:YB) (l3 c3:Nat) (a4:YB) (l4 c4:Nat) (w0:World) (K:YA) (h:D_patch_Store_Patch p0 n1 n2 a3 l3 c3 a4 l4 c4 w0 K):Cal Tryz.prog F_patch_Store_Patch #[.pointer p0,.int .i64 n1,.int .i64 n2,.slice a3 l3 c3,.slice a4 l4 c4] w0 K :=
 denF_of (A:=⟨[14,23,34,125],[(14,252),(23,4),(34,4),(125,3)],[]⟩) Tryz.func100 (by kernel_rfl) (by kernel_rfl) (by kernel_rfl) h
def D_slices_DeleteFunc_int64 (a0:YB) (l0 c0:Nat) (v1:Value) (w0:World) (K:YA):Prop :=
 YC F_slices_IndexFunc_int64 #[.slice a0 l0 c0,v1] w0 fun r10 w1=>∃ n10:Int,r10=.int .i64 n10/\(bif n10==(-1) then
 K (.slice a0 l0 c0) w1
 else
 LoopC (fun k x w2 =>
 ∃ n6:Int,nth x 1=.int .i64 n6/\(bif decide (n6<(l0:Int)) then
 ∃ q24:Addr,Al (Instr.indexAt 65 (.slice a0 l0 c0) (.int .i64 n6)) (.pointer (some q24))/\∃ n25:Int,YD 2 q24 w2 (.int .i64 n25)/\Dyn Tryz.prog v1 #[.int .i64 n25] w2 fun r28 w3=>∃ b28:Bool,r28=.bool b28/\Share (fun k_2=>(bif !b28 then
 ∃ n5:Int,nth x 0=.int .i64 n5/\∃ q33:Addr,Al (Instr.indexAt 65 (.slice a0 l0 c0) (.int .i64 n5)) (.pointer (some q33))/\∃ w4:World,YE 2 q33 (.int .i64 n25) w3 w4/\k_2 [.int .i64 (IntKind.i64.wrap (n5+1))] w4
 else
 k_2 [nth x 0] w3)) fun x_2 w5 =>
 k [nth x_2 0,.int .i64 (IntKind.i64.wrap (n6+1))] w5
 else
 ∃ n5_2:Int,nth x 0=.int .i64 n5_2/\∃ (a38:YB) (l38 c38:Nat),Al (Instr.sliceAt 65 (.slice a0 l0 c0) (some (.int .i64 n5_2)) none none) (.slice a38 l38 c38)/\∃ w6:World,Ru (Builtin.clear_ #[65] 0 #[.slice a38 l38 c38]) w2 (.tuple #[]) w6/\∃ (a41:YB) (l41 c41:Nat),Al (Instr.sliceAt 65 (.slice a0 l0 c0) none (some (.int .i64 n5_2)) none) (.slice a41 l41 c41)/\K (.slice a41 l41 c41) w6)) [.int .i64 n10,.int .i64 (IntKind.i64.wrap (n10+1))] w1)
theorem C_slices_DeleteFunc_int64 (a0:YB) (l0 c0:Nat) (v1:Value) (w0:World) (K:YA) (h:D_slices_DeleteFunc_int64 a0 l0 c0 v1 w0 K):Cal Tryz.prog F_slices_DeleteFunc_int64 #[.slice a0 l0 c0,v1] w0 K :=
 denF_of (A:=⟨[5,6],[(5,3),(6,3)],[]⟩) Tryz.func101 (by kernel_rfl) (by kernel_rfl) (by kernel_rfl) h
def D_file_real_1 (n0:Int) (w0:World) (K:YA):Prop :=
 K (.bool (n0==0)) w0
theorem C_file_real_1 (n0:Int) (w0:World) (K:YA) (h:D_file_real_1 n0 w0 K):Cal Tryz.prog F_file_real_1 #[.int .i64 n0] w0 K :=
 denF_of (A:=⟨[],[],[]⟩) Tryz.func102 (by kernel_rfl) (by kernel_rfl) (by kernel_rfl) h
def D_patch_Store_Read (p0:YB) (n1:Int) (w0:World) (K:YA):Prop :=
 (bif Option.isNone p0 then
 K (.tuple #[.slice none 0 0,.int .i64 2]) w0
 else
 ∃ q9:Addr,(.pointer p0:Value)=.pointer (some q9)/\∃ p11:YB,YD 233 (Addr.add q9 0) w0 (.pointer p11)/\YC F_cache_Cache_Read #[.pointer p11,.int .i64 n1] w0 fun r13 w1=>∃ (a13a:YB) (l13a c13a:Nat),∃ n13b:Int,r13=.tuple #[.slice a13a l13a c13a,.int .i64 n13b]/\K (.tuple #[.slice a13a l13a c13a,.int .i64 n13b]) w1)
theorem C_patch_Store_Read (p0:YB) (n1:Int) (w0:World) (K:YA) (h:D_patch_Store_Read p0 n1 w0 K):Cal Tryz.prog F_patch_Store_Read #[.pointer p0,.int .i64 n1] w0 K :=
 denF_of (A:=⟨[],[],[]⟩) Tryz.func103 (by kernel_rfl) (by kernel_rfl) (by kernel_rfl) h
def D_inode_Read (a0:YB) (l0 c0:Nat) (n1:Int) (w0:World) (K:YA):Prop :=
 ∃ q4:Addr,∃ w1:World,Ru (Instr.alloc 51 true (.tuple #[])) w0 (.pointer (some q4)) w1/\YC F_inode_may #[.slice a0 l0 c0,.int .i64 n1] w1 fun r9 w2=>∃ n9:Int,r9=.int .i64 n9/\(bif n9 != 0 then
 ∃ g12:Array Value,Al (Instr.build 51 #[]) (.agg g12)/\∃ w3:World,YE 51 q4 (.agg g12) w2 w3/\∃ gR4:Array Value,YD 51 q4 w3 (.agg gR4)/\K (.tuple #[.agg gR4,.int .i64 n9]) w3
 else
 ∃ (a20:YB) (l20 c20:Nat),Al (Instr.sliceAt 55 (.slice a0 l0 c0) (some (.int .i64 (IntKind.i64.wrap (n1*64)))) (some (.int .i64 (IntKind.i64.wrap ((IntKind.i64.wrap (n1+1))*64)))) none) (.slice a20 l20 c20)/\YC F_inode_Get #[.slice a20 l20 c20] w2 fun r21 w4=>∃ g21a:Array Value,∃ n21b:Int,r21=.tuple #[.agg g21a,.int .i64 n21b]/\∃ w5:World,YE 51 q4 (.agg g21a) w4 w5/\∃ gR4_2:Array Value,YD 51 q4 w5 (.agg gR4_2)/\K (.tuple #[.agg gR4_2,.int .i64 n21b]) w5)
theorem C_inode_Read (a0:YB) (l0 c0:Nat) (n1:Int) (w0:World) (K:YA) (h:D_inode_Read a0 l0 c0 n1 w0 K):Cal Tryz.prog F_inode_Read #[.slice a0 l0 c0,.int .i64 n1] w0 K :=
 denF_of (A:=⟨[],[],[]⟩) Tryz.func104 (by kernel_rfl) (by kernel_rfl) (by kernel_rfl) h
def D_vol_Vol_data (p0:YB) (n1:Int) (w0:World) (K:YA):Prop :=
 (bif Option.isNone p0 then
 K (.int .i64 2) w0
 else
 ∃ q11:Addr,(.pointer p0:Value)=.pointer (some q11)/\∃ g14:Array Value,YD 39 (Addr.add (Addr.add q11 0) 1) w0 (.agg g14)/\YC F_geo_Kind #[.agg g14,.int .i64 n1] w0 fun r16 w1=>∃ n16a:Int,∃ n16b:Int,r16=.tuple #[.int .i64 n16a,.int .i64 n16b]/\(bif n16a != 4 then
 K (.int .i64 3) w1
 else
 K (.int .i64 0) w1))
theorem C_vol_Vol_data (p0:YB) (n1:Int) (w0:World) (K:YA) (h:D_vol_Vol_data p0 n1 w0 K):Cal Tryz.prog F_vol_Vol_data #[.pointer p0,.int .i64 n1] w0 K :=
 denF_of (A:=⟨[],[],[]⟩) Tryz.func106 (by kernel_rfl) (by kernel_rfl) (by kernel_rfl) h
def D_alloc_Alloc_Slot (p0:YB) (n1:Int) (w0:World) (K:YA):Prop :=
 (bif Option.isNone p0 then
 K (.tuple #[.int .i64 0,.int .i64 0,.int .i64 2]) w0
 else
 YC F_alloc_Alloc_slot #[.pointer p0,.int .i64 n1] w0 fun r16 w1=>∃ g16a:Array Value,∃ b16b:Bool,r16=.tuple #[.agg g16a,.bool b16b]/\∃ q7:Addr,∃ w2:World,Ru (Instr.alloc 195 true (.tuple #[])) w1 (.pointer (some q7)) w2/\∃ w3:World,YE 195 q7 (.agg g16a) w2 w3/\∃ g21:Array Value,YD 195 q7 (drew w3) (.agg g21)/\YC F_alloc_slots #[] (drew w3) fun r23 w4=>∃ g23:Array Value,r23=.agg g23/\YD 195 q7 w4 (.agg g21)/\YC F_alloc_Alloc_take #[.pointer p0,.agg g21,.bool b16b,.agg g23] w4 fun r24 w5=>∃ g24a:Array Value,∃ n24b:Int,∃ n24c:Int,r24=.tuple #[.agg g24a,.int .i64 n24b,.int .i64 n24c]/\∃ w6:World,YE 195 q7 (.agg g24a) w5 w6/\(bif n24c != 0 then
 K (.tuple #[.int .i64 0,.int .i64 0,.int .i64 n24c]) w6
 else
 ∃ n32:Int,YD 3 (Addr.add q7 0) (drew w6) (.int .i64 n32)/\∃ q34:Addr,(.pointer p0:Value)=.pointer (some q34)/\∃ p36:YB,YD 41 (Addr.add q34 0) (drew w6) (.pointer p36)/\∃ n41:Int,YD 3 (Addr.add q7 1) (drew w6) (.int .i64 n41)/\YC F_vol_Vol_Geo #[.pointer p36] (drew w6) fun r37 w7=>∃ g37:Array Value,r37=.agg g37/\YD 3 (Addr.add q7 0) w7 (.int .i64 n32)/\YD 3 (Addr.add q7 1) w7 (.int .i64 n41)/\∃ n38:Int,Al (Instr.field 39 (.agg g37) 1) (.int .i64 n38)/\K (.tuple #[.int .i64 (IntKind.i64.wrap ((IntKind.i64.wrap (n32*n38))+n41)),.int .i64 n24b,.int .i64 0]) w7))
theorem C_alloc_Alloc_Slot (p0:YB) (n1:Int) (w0:World) (K:YA) (h:D_alloc_Alloc_Slot p0 n1 w0 K):Cal Tryz.prog F_alloc_Alloc_Slot #[.pointer p0,.int .i64 n1] w0 K :=
 denF_of (A:=⟨[],[],[]⟩) Tryz.func108 (by kernel_rfl) (by kernel_rfl) (by kernel_rfl) h
def D_vol_Vol_NewId (p0:YB) (w0:World) (K:YA):Prop :=
 (bif Option.isNone p0 then
 K (.tuple #[.int .i64 0,.int .i64 2]) w0
 else
 ∃ q9:Addr,(.pointer p0:Value)=.pointer (some q9)/\∃ n11:Int,YD 2 (Addr.add q9 6) w0 (.int .i64 n11)/\(bif decide (n11 > 4611686018427387904) then
 K (.tuple #[.int .i64 0,.int .i64 5]) w0
 else
 ∃ q14:Addr,(.pointer p0:Value)=.pointer (some q14)/\∃ n16:Int,YD 2 (Addr.add q14 6) w0 (.int .i64 n16)/\∃ q18:Addr,(.pointer p0:Value)=.pointer (some q18)/\∃ w1:World,YE 2 (Addr.add q18 6) (.int .i64 (IntKind.i64.wrap (n16+1))) w0 w1/\∃ q21:Addr,(.pointer p0:Value)=.pointer (some q21)/\∃ n23:Int,YD 2 (Addr.add q21 6) w1 (.int .i64 n23)/\K (.tuple #[.int .i64 (IntKind.i64.wrap (n23-1)),.int .i64 0]) w1))
theorem C_vol_Vol_NewId (p0:YB) (w0:World) (K:YA) (h:D_vol_Vol_NewId p0 w0 K):Cal Tryz.prog F_vol_Vol_NewId #[.pointer p0] w0 K :=
 denF_of (A:=⟨[],[],[]⟩) Tryz.func109 (by kernel_rfl) (by kernel_rfl) (by kernel_rfl) h
def D_alloc_Alloc_ring (p0:YB) (g1:Array Value) (b2:Bool) (w0:World) (K:YA):Prop :=
 ∃ q3:Addr,∃ w1:World,Ru (Instr.box 73 (.pointer p0)) w0 (.pointer (some q3)) w1/\∃ q4:Addr,∃ w2:World,Ru (Instr.box 195 (.agg g1)) w1 (.pointer (some q4)) w2/\∃ q5:Addr,∃ w3:World,Ru (Instr.box 4 (.bool b2)) w2 (.pointer (some q5)) w3/\K (.func (.func F_alloc_Alloc_ring_1) #[] #[.pointer (some q3),.pointer (some q4),.pointer (some q5)]) w3
theorem C_alloc_Alloc_ring (p0:YB) (g1:Array Value) (b2:Bool) (w0:World) (K:YA) (h:D_alloc_Alloc_ring p0 g1 b2 w0 K):Cal Tryz.prog F_alloc_Alloc_ring #[.pointer p0,.agg g1,.bool b2] w0 K :=
 denF_of (A:=⟨[],[],[]⟩) Tryz.func110 (by kernel_rfl) (by kernel_rfl) (by kernel_rfl) h
def D_group_Free (g0:Array Value) (g1:Array Value) (w0:World) (K:YA):Prop :=
 ∃ q2:Addr,∃ w1:World,Ru (Instr.box 39 (.agg g0)) w0 (.pointer (some q2)) w1/\∃ q3:Addr,∃ w2:World,Ru (Instr.box 171 (.agg g1)) w1 (.pointer (some q3)) w2/\∃ g6:Array Value,YD 39 q2 w2 (.agg g6)/\∃ g7:Array Value,YD 171 q3 w2 (.agg g7)/\YC F_group_Right #[.agg g6,.agg g7] w2 fun r8 w3=>∃ b8:Bool,r8=.bool b8/\(bif !b8 then
 K (.tuple #[.int .i64 0,.int .i64 0]) w3
 else
 ∃ n11:Int,YD 3 (Addr.add q2 0) (drew w3) (.int .i64 n11)/\∃ (a13:YB) (l13 c13:Nat),Al (Instr.sliceAt 168 (.pointer (some (Addr.add q3 1))) none none none) (.slice a13 l13 c13)/\∃ n15:Int,YD 3 (Addr.add q2 0) (drew w3) (.int .i64 n15)/\∃ n19:Int,YD 3 (Addr.add q2 1) (drew w3) (.int .i64 n19)/\∃ (a21:YB) (l21 c21:Nat),Al (Instr.sliceAt 169 (.pointer (some (Addr.add q3 17))) none none none) (.slice a21 l21 c21)/\∃ n23:Int,YD 3 (Addr.add q2 1) (drew w3) (.int .i64 n23)/\YC F_bits_Count #[.slice a13 l13 c13,.int .i64 n15] (drew w3) fun r16 w4=>∃ n16:Int,r16=.int .i64 n16/\YD 3 (Addr.add q2 0) w4 (.int .i64 n11)/\YD 3 (Addr.add q2 1) w4 (.int .i64 n19)/\YD 3 (Addr.add q2 1) w4 (.int .i64 n23)/\YC F_bits_Count #[.slice a21 l21 c21,.int .i64 n23] w4 fun r24 w5=>∃ n24:Int,r24=.int .i64 n24/\YD 3 (Addr.add q2 0) w5 (.int .i64 n11)/\YD 3 (Addr.add q2 1) w5 (.int .i64 n19)/\K (.tuple #[.int .i64 (IntKind.i64.wrap (n11-n16)),.int .i64 (IntKind.i64.wrap (n19-n24))]) w5)
theorem C_group_Free (g0:Array Value) (g1:Array Value) (w0:World) (K:YA) (h:D_group_Free g0 g1 w0 K):Cal Tryz.prog F_group_Free #[.agg g0,.agg g1] w0 K :=
 denF_of (A:=⟨[],[],[]⟩) Tryz.func111 (by kernel_rfl) (by kernel_rfl) (by kernel_rfl) h
def D_vol_Vol_Geo (p0:YB) (w0:World) (K:YA):Prop :=
 ∃ q2:Addr,∃ w1:World,Ru (Instr.alloc 39 true (.tuple #[])) w0 (.pointer (some q2)) w1/\(bif Option.isNone p0 then
 ∃ g5:Array Value,Al (Instr.build 39 #[]) (.agg g5)/\∃ w2:World,YE 39 q2 (.agg g5) w1 w2/\∃ gR2:Array Value,YD 39 q2 w2 (.agg gR2)/\K (.agg gR2) w2
 else
 ∃ q7:Addr,(.pointer p0:Value)=.pointer (some q7)/\∃ g10:Array Value,YD 39 (Addr.add (Addr.add q7 0) 1) w1 (.agg g10)/\∃ w3:World,YE 39 q2 (.agg g10) w1 w3/\∃ gR2_2:Array Value,YD 39 q2 w3 (.agg gR2_2)/\K (.agg gR2_2) w3)
theorem C_vol_Vol_Geo (p0:YB) (w0:World) (K:YA) (h:D_vol_Vol_Geo p0 w0 K):Cal Tryz.prog F_vol_Vol_Geo #[.pointer p0] w0 K :=
 denF_of (A:=⟨[],[],[]⟩) Tryz.func112 (by kernel_rfl) (by kernel_rfl) (by kernel_rfl) h
def D_file_writer_fresh (p0:YB) (a1:YB) (l1 c1:Nat) (a2:YB) (l2 c2:Nat) (w0:World) (K:YA):Prop :=
 ∃ q15:Addr,(.pointer p0:Value)=.pointer (some q15)/\∃ p17:YB,YD 46 (Addr.add q15 0) (drew w0) (.pointer p17)/\∃ q18:Addr,(.pointer p17:Value)=.pointer (some q18)/\∃ p20:YB,YD 73 (Addr.add q18 0) (drew w0) (.pointer p20)/\∃ q22:Addr,(.pointer p0:Value)=.pointer (some q22)/\∃ n24:Int,YD 3 (Addr.add q22 15) (drew w0) (.int .i64 n24)/\YC F_alloc_Alloc_Block #[.pointer p20,.int .i64 n24] (drew w0) fun r25 w1=>∃ n25a:Int,∃ n25b:Int,∃ n25c:Int,r25=.tuple #[.int .i64 n25a,.int .i64 n25b,.int .i64 n25c]/\(bif n25c != 0 then
 K (.tuple #[.int .i64 0,.slice none 0 0,.int .i64 n25c]) w1
 else
 ∃ q34:Addr,(.pointer p0:Value)=.pointer (some q34)/\∃ w2:World,YE 3 (Addr.add q34 15) (.int .i64 n25a) w1 w2/\∃ q38:Addr,(.pointer p0:Value)=.pointer (some q38)/\∃ p40:YB,YD 46 (Addr.add q38 0) (drew w2) (.pointer p40)/\∃ q42:Addr,(.pointer p0:Value)=.pointer (some q42)/\∃ n44:Int,YD 3 (Addr.add q42 1) (drew w2) (.int .i64 n44)/\YC F_file_Files_set #[.pointer p40,.int .i64 n44,.int .i64 n25a,.int .i64 0,.slice a1 l1 c1,.slice a2 l2 c2] (drew w2) fun r48 w3=>∃ n48a:Int,∃ n48b:Int,r48=.tuple #[.int .i64 n48a,.int .i64 n48b]/\∃ (a54:YB) (l54 c54:Nat),∃ w4:World,Ru (Instr.buildSlice 65 2 #[(0,.int .i64 n25b),(1,.int .i64 n48a)]) w3 (.slice a54 l54 c54) w4/\K (.tuple #[.int .i64 n25a,.slice a54 l54 c54,.int .i64 n48b]) w4)
theorem C_file_writer_fresh (p0:YB) (a1:YB) (l1 c1:Nat) (a2:YB) (l2 c2:Nat) (w0:World) (K:YA) (h:D_file_writer_fresh p0 a1 l1 c1 a2 l2 c2 w0 K):Cal Tryz.prog F_file_writer_fresh #[.pointer p0,.slice a1 l1 c1,.slice a2 l2 c2] w0 K :=
 denF_of (A:=⟨[],[],[]⟩) Tryz.func113 (by kernel_rfl) (by kernel_rfl) (by kernel_rfl) h
def D_vol_Vol_SetData (p0:YB) (n1:Int) (n2:Int) (a3:YB) (l3 c3:Nat) (a4:YB) (l4 c4:Nat) (w0:World) (K:YA):Prop :=
 YC F_vol_Vol_data #[.pointer p0,.int .i64 n1] w0 fun r15 w1=>∃ n15:Int,r15=.int .i64 n15/\(bif n15 != 0 then
 K (.tuple #[.int .i64 0,.int .i64 n15]) w1
 else
 ∃ q20:Addr,(.pointer p0:Value)=.pointer (some q20)/\∃ p22:YB,YD 159 (Addr.add q20 4) w1 (.pointer p22)/\YC F_patch_Store_Patch #[.pointer p22,.int .i64 n1,.int .i64 n2,.slice a3 l3 c3,.slice a4 l4 c4] w1 fun r27 w2=>∃ n27a:Int,∃ n27b:Int,r27=.tuple #[.int .i64 n27a,.int .i64 n27b]/\K (.tuple #[.int .i64 n27a,.int .i64 n27b]) w2)
theorem C_vol_Vol_SetData (p0:YB) (n1:Int) (n2:Int) (a3:YB) (l3 c3:Nat) (a4:YB) (l4 c4:Nat) (w0:World) (K:YA) (h:D_vol_Vol_SetData p0 n1 n2 a3 l3 c3 a4 l4 c4 w0 K):Cal Tryz.prog F_vol_Vol_SetData #[.pointer p0,.int .i64 n1,.int .i64 n2,.slice a3 l3 c3,.slice a4 l4 c4] w0 K :=
 denF_of (A:=⟨[],[],[]⟩) Tryz.func116 (by kernel_rfl) (by kernel_rfl) (by kernel_rfl) h
def D_file_Files_each_1 (n0:Int) (n1:Int) (n2:Int) (v3:Value) (v4:Value) (v5:Value) (w0:World) (K:YA):Prop :=
 (bif n0==0 then
 K (.tuple #[]) w0
 else
 ∃ v14:Value,Ru (Instr.loadAt 132 v3) w0 v14 w0/\Dyn Tryz.prog v14 #[.int .i64 n0,.int .i64 n1,.int .i64 n2] w0 fun r18 w1=>r18=.tuple #[]/\(bif n1==0 then
 K (.tuple #[]) w1
 else
 Share (fun k=>(bif decide (n1 > 1) then
 k [.int .i64 64] w1
 else
 k [.int .i64 1] w1)) fun x w2 =>
 ∃ p23:YB,Ru (Instr.loadAt 46 v4) w2 (.pointer p23) w2/\YC F_file_Files_names #[.pointer p23,.int .i64 n0] w2 fun r25 w3=>∃ (a25:YB) (l25 c25:Nat),r25=.slice a25 l25 c25/\LoopC (fun k_2 x_2 w4 =>
 ∃ n27:Int,nth x_2 0=.int .i64 n27/\(bif decide (n27<(l25:Int)) then
 ∃ q30:Addr,Al (Instr.indexAt 64 (.slice a25 l25 c25) (.int .i64 n27)) (.pointer (some q30))/\∃ n31:Int,YD 3 q30 w4 (.int .i64 n31)/\∃ v32:Value,Ru (Instr.loadAt 132 v5) w4 v32 w4/\∃ n9:Int,nth x 0=.int .i64 n9/\Dyn Tryz.prog v32 #[.int .i64 n31,.int .i64 (IntKind.i64.wrap (n1-1)),.int .i64 (IntKind.i64.wrap (n2+(IntKind.i64.wrap (n27*n9))))] w4 fun r41 w5=>r41=.tuple #[]/\k_2 [.int .i64 (IntKind.i64.wrap (n27+1))] w5
 else
 K (.tuple #[]) w4)) [.int .i64 0] w3))
theorem C_file_Files_each_1 (n0:Int) (n1:Int) (n2:Int) (v3:Value) (v4:Value) (v5:Value) (w0:World) (K:YA) (h:D_file_Files_each_1 n0 n1 n2 v3 v4 v5 w0 K):Cal Tryz.prog F_file_Files_each_1 #[.int .i64 n0,.int .i64 n1,.int .i64 n2,v3,v4,v5] w0 K :=
 denF_of (A:=⟨[9,27],[(9,3),(27,3)],[]⟩) Tryz.func117 (by kernel_rfl) (by kernel_rfl) (by kernel_rfl) h
def D_alloc_Alloc_block (p0:YB) (n1:Int) (w0:World) (K:YA):Prop :=
 ∃ q4:Addr,∃ w1:World,Ru (Instr.alloc 195 true (.tuple #[])) w0 (.pointer (some q4)) w1/\∃ q12:Addr,(.pointer p0:Value)=.pointer (some q12)/\∃ p14:YB,YD 41 (Addr.add q12 0) w1 (.pointer p14)/\YC F_vol_Vol_Geo #[.pointer p14] w1 fun r15 w2=>∃ g15:Array Value,r15=.agg g15/\YC F_geo_Kind #[.agg g15,.int .i64 n1] w2 fun r17 w3=>∃ n17a:Int,∃ n17b:Int,r17=.tuple #[.int .i64 n17a,.int .i64 n17b]/\(bif n17a != 4 then
 ∃ g22:Array Value,Al (Instr.build 195 #[]) (.agg g22)/\∃ w4:World,YE 195 q4 (.agg g22) w3 w4/\∃ gR4:Array Value,YD 195 q4 w4 (.agg gR4)/\K (.tuple #[.agg gR4,.bool false]) w4
 else
 ∃ q25:Addr,(.pointer p0:Value)=.pointer (some q25)/\∃ p27:YB,YD 41 (Addr.add q25 0) w3 (.pointer p27)/\YC F_vol_Vol_Geo #[.pointer p27] w3 fun r28 w5=>∃ g28:Array Value,r28=.agg g28/\YC F_geo_Head #[.agg g28,.int .i64 n17b] w5 fun r30 w6=>∃ n30a:Int,∃ n30b:Int,r30=.tuple #[.int .i64 n30a,.int .i64 n30b]/\∃ g37:Array Value,Al (Instr.build 195 #[(0,.int .i64 n17b),(1,.int .i64 (IntKind.i64.wrap (n1-n30a)))]) (.agg g37)/\∃ w7:World,YE 195 q4 (.agg g37) w6 w7/\∃ gR4_2:Array Value,YD 195 q4 w7 (.agg gR4_2)/\K (.tuple #[.agg gR4_2,.bool true]) w7)
theorem C_alloc_Alloc_block (p0:YB) (n1:Int) (w0:World) (K:YA) (h:D_alloc_Alloc_block p0 n1 w0 K):Cal Tryz.prog F_alloc_Alloc_block #[.pointer p0,.int .i64 n1] w0 K :=
 denF_of (A:=⟨[],[],[]⟩) Tryz.func122 (by kernel_rfl) (by kernel_rfl) (by kernel_rfl) h
def D_alloc_Alloc_slot (p0:YB) (n1:Int) (w0:World) (K:YA):Prop :=
 ∃ q4:Addr,∃ w1:World,Ru (Instr.alloc 195 true (.tuple #[])) w0 (.pointer (some q4)) w1/\∃ q8:Addr,(.pointer p0:Value)=.pointer (some q8)/\∃ p10:YB,YD 41 (Addr.add q8 0) w1 (.pointer p10)/\YC F_vol_Vol_Geo #[.pointer p10] w1 fun r11 w2=>∃ g11:Array Value,r11=.agg g11/\YC F_geo_Of #[.agg g11,.int .i64 n1] w2 fun r13 w3=>∃ n13:Int,r13=.int .i64 n13/\(bif decide (n13<0) then
 ∃ g16:Array Value,Al (Instr.build 195 #[]) (.agg g16)/\∃ w4:World,YE 195 q4 (.agg g16) w3 w4/\∃ gR4:Array Value,YD 195 q4 w4 (.agg gR4)/\K (.tuple #[.agg gR4,.bool false]) w4
 else
 ∃ q20:Addr,(.pointer p0:Value)=.pointer (some q20)/\∃ p22:YB,YD 41 (Addr.add q20 0) w3 (.pointer p22)/\YC F_vol_Vol_Geo #[.pointer p22] w3 fun r23 w5=>∃ g23:Array Value,r23=.agg g23/\∃ n24:Int,Al (Instr.field 39 (.agg g23) 1) (.int .i64 n24)/\∃ n25:Int,Al (eqS .rem 3 (.tmp 18) (.tmp 24) (.int .i64 n1) (.int .i64 n24)) (.int .i64 n25)/\∃ g26:Array Value,Al (Instr.build 195 #[(0,.int .i64 n13),(1,.int .i64 n25)]) (.agg g26)/\∃ w6:World,YE 195 q4 (.agg g26) w5 w6/\∃ gR4_2:Array Value,YD 195 q4 w6 (.agg gR4_2)/\K (.tuple #[.agg gR4_2,.bool true]) w6)
theorem C_alloc_Alloc_slot (p0:YB) (n1:Int) (w0:World) (K:YA) (h:D_alloc_Alloc_slot p0 n1 w0 K):Cal Tryz.prog F_alloc_Alloc_slot #[.pointer p0,.int .i64 n1] w0 K :=
 denF_of (A:=⟨[],[],[]⟩) Tryz.func125 (by kernel_rfl) (by kernel_rfl) (by kernel_rfl) h
def D_bits_Get (a0:YB) (l0 c0:Nat) (n1:Int) (w0:World) (K:YA):Prop :=
 Share (fun k=>YC F_bits_there #[.slice a0 l0 c0,.int .i64 n1] (drew w0) fun r7 w1=>∃ b7:Bool,r7=.bool b7/\(bif b7 then ∃ q12:Addr,Al (Instr.indexAt 55 (.slice a0 l0 c0) (.int .i64 (IntKind.i64.wrap (Int.tdiv n1 8)))) (.pointer (some q12))/\∃ n13:Int,YD 5 q12 w1 (.int .u8 n13)/\∃ n16:Int,Al (eqS .shl 5 (.const (.int .u8 1)) (.tmp 15) (.int .u8 1) (.int .i64 (Int.tmod n1 8))) (.int .u8 n16)/\k [.bool ((IntKind.u8.wrap (bvAnd 8 n13 n16)) != 0)] w1 else k [.bool false] w1)) fun x w2 =>
 ∃ b4:Bool,nth x 0=.bool b4/\K (.bool b4) w2
theorem C_bits_Get (a0:YB) (l0 c0:Nat) (n1:Int) (w0:World) (K:YA) (h:D_bits_Get a0 l0 c0 n1 w0 K):Cal Tryz.prog F_bits_Get #[.slice a0 l0 c0,.int .i64 n1] w0 K :=
 denF_of (A:=⟨[4],[(4,4)],[]⟩) Tryz.func126 (by kernel_rfl) (by kernel_rfl) (by kernel_rfl) h
def D_vol_Vol_Store (p0:YB) (w0:World) (K:YA):Prop :=
 (bif Option.isNone p0 then
 K (.pointer none) w0
 else
 ∃ q6:Addr,(.pointer p0:Value)=.pointer (some q6)/\∃ p8:YB,YD 159 (Addr.add q6 4) w0 (.pointer p8)/\K (.pointer p8) w0)
theorem C_vol_Vol_Store (p0:YB) (w0:World) (K:YA) (h:D_vol_Vol_Store p0 w0 K):Cal Tryz.prog F_vol_Vol_Store #[.pointer p0] w0 K :=
 denF_of (A:=⟨[],[],[]⟩) Tryz.func127 (by kernel_rfl) (by kernel_rfl) (by kernel_rfl) h
def D_patch_Store_Safe (p0:YB) (n1:Int) (w0:World) (K:YA):Prop :=
 Share (fun k=>(bif !(Option.isNone p0) then YC F_patch_Store_given #[.pointer p0,.int .i64 n1] w0 fun r10 w1=>∃ b10:Bool,r10=.bool b10/\(bif b10 then ∃ q14:Addr,(.pointer p0:Value)=.pointer (some q14)/\∃ m16:Option Nat,YD 236 (Addr.add q14 3) w1 (.map m16)/\∃ p18:YB,Ru (Instr.lookup 236 (.map m16) (.int .i64 n1) false) w1 (.pointer p18) w1/\k [.bool (Option.isNone p18)] w1 else k [.bool false] w1) else k [.bool false] w0)) fun x w2 =>
 ∃ b4:Bool,nth x 0=.bool b4/\K (.bool b4) w2
theorem C_patch_Store_Safe (p0:YB) (n1:Int) (w0:World) (K:YA) (h:D_patch_Store_Safe p0 n1 w0 K):Cal Tryz.prog F_patch_Store_Safe #[.pointer p0,.int .i64 n1] w0 K :=
 denF_of (A:=⟨[4],[(4,4)],[]⟩) Tryz.func128 (by kernel_rfl) (by kernel_rfl) (by kernel_rfl) h
def D_file_Files_Data_1 (n0:Int) (n1:Int) (n2:Int) (v3:Value) (w0:World) (K:YA):Prop :=
 Share (fun k=>(bif n1==0 then
 ∃ (a9:YB) (l9 c9:Nat),Ru (Instr.loadAt 64 v3) w0 (.slice a9 l9 c9) w0/\∃ (a11:YB) (l11 c11:Nat),∃ w1:World,Ru (Instr.buildSlice 64 1 #[(0,.int .i64 n0)]) w0 (.slice a11 l11 c11) w1/\∃ (a12:YB) (l12 c12:Nat),∃ w2:World,Ru (Builtin.append_ #[64,64] 64 #[.slice a9 l9 c9,.slice a11 l11 c11]) w1 (.slice a12 l12 c12) w2/\∃ w3:World,RuU (Instr.storeAt 64 v3 (.slice a12 l12 c12)) w2 w3/\k [] w3
 else
 k [] w0)) fun x w4 =>
 K (.tuple #[]) w4
theorem C_file_Files_Data_1 (n0:Int) (n1:Int) (n2:Int) (v3:Value) (w0:World) (K:YA) (h:D_file_Files_Data_1 n0 n1 n2 v3 w0 K):Cal Tryz.prog F_file_Files_Data_1 #[.int .i64 n0,.int .i64 n1,.int .i64 n2,v3] w0 K :=
 denF_of (A:=⟨[],[],[]⟩) Tryz.func129 (by kernel_rfl) (by kernel_rfl) (by kernel_rfl) h
def D_num_Zero (a0:YB) (l0 c0:Nat) (w0:World) (K:YA):Prop :=
 LoopC (fun k x w1 =>
 ∃ n8:Int,nth x 1=.int .i64 n8/\(bif decide (n8<(l0:Int)) then
 ∃ q10:Addr,Al (Instr.indexAt 55 (.slice a0 l0 c0) (.int .i64 n8)) (.pointer (some q10))/\∃ n11:Int,YD 5 q10 w1 (.int .u8 n11)/\∃ n3:Int,nth x 0=.int .u8 n3/\k [.int .u8 (IntKind.u8.wrap (bvOr 8 n3 n11)),.int .i64 (IntKind.i64.wrap (n8+1))] w1
 else
 ∃ n3_2:Int,nth x 0=.int .u8 n3_2/\K (.bool (n3_2==0)) w1)) [.int .u8 0,.int .i64 0] w0
theorem C_num_Zero (a0:YB) (l0 c0:Nat) (w0:World) (K:YA) (h:D_num_Zero a0 l0 c0 w0 K):Cal Tryz.prog F_num_Zero #[.slice a0 l0 c0] w0 K :=
 denF_of (A:=⟨[3,8],[(3,5),(8,3)],[]⟩) Tryz.func133 (by kernel_rfl) (by kernel_rfl) (by kernel_rfl) h
def D_ptr_within_int64 (n0:Int) (n1:Int) (n2:Int) (w0:World) (K:YA):Prop :=
 K (.int .i64 (if n2<(if n1 > n0 then n1 else n0) then n2 else (if n1 > n0 then n1 else n0))) w0
theorem C_ptr_within_int64 (n0:Int) (n1:Int) (n2:Int) (w0:World) (K:YA) (h:D_ptr_within_int64 n0 n1 n2 w0 K):Cal Tryz.prog F_ptr_within_int64 #[.int .i64 n0,.int .i64 n1,.int .i64 n2] w0 K :=
 denF_of (A:=⟨[],[],[]⟩) Tryz.func134 (by kernel_rfl) (by kernel_rfl) (by kernel_rfl) h
def D_geo_whole (g0:Array Value) (w0:World) (K:YA):Prop :=
 ∃ q1:Addr,∃ w1:World,Ru (Instr.box 39 (.agg g0)) w0 (.pointer (some q1)) w1/\∃ q2:Addr,∃ w2:World,Ru (Instr.alloc 39 true (.tuple #[])) w1 (.pointer (some q2)) w2/\Share (fun k=>∃ n5:Int,YD 3 (Addr.add q1 0) w2 (.int .i64 n5)/\YC F_geo_within #[.int .i64 n5,.int .i64 16,.int .i64 128] w2 fun r6 w3=>∃ b6:Bool,r6=.bool b6/\(bif !b6 then k [.bool true] w3 else ∃ n10:Int,YD 3 (Addr.add q1 2) w3 (.int .i64 n10)/\YC F_geo_within #[.int .i64 n10,.int .i64 1,.int .i64 16] w3 fun r11 w4=>∃ b11:Bool,r11=.bool b11/\k [.bool (!b11)] w4)) fun x w5 =>
 ∃ b3:Bool,nth x 0=.bool b3/\(bif b3 then
 ∃ g14:Array Value,Al (Instr.build 39 #[]) (.agg g14)/\∃ w6:World,YE 39 q2 (.agg g14) w5 w6/\∃ gR2:Array Value,YD 39 q2 w6 (.agg gR2)/\K (.agg gR2) w6
 else
 Share (fun k_2=>∃ n17:Int,YD 3 (Addr.add q1 1) w5 (.int .i64 n17)/\YC F_geo_within #[.int .i64 n17,.int .i64 4,.int .i64 64] w5 fun r18 w7=>∃ b18:Bool,r18=.bool b18/\(bif !b18 then k_2 [.bool true] w7 else ∃ n22:Int,YD 3 (Addr.add q1 1) w7 (.int .i64 n22)/\k_2 [.bool ((Int.tmod n22 4) != 0)] w7)) fun x_2 w8 =>
 ∃ b15:Bool,nth x_2 0=.bool b15/\(bif b15 then
 ∃ g26:Array Value,Al (Instr.build 39 #[]) (.agg g26)/\∃ w9:World,YE 39 q2 (.agg g26) w8 w9/\∃ gR2_2:Array Value,YD 39 q2 w9 (.agg gR2_2)/\K (.agg gR2_2) w9
 else
 Share (fun k_3=>∃ n29:Int,YD 3 (Addr.add q1 0) w8 (.int .i64 n29)/\∃ n32:Int,YD 3 (Addr.add q1 1) w8 (.int .i64 n32)/\(bif decide ((IntKind.i64.wrap ((IntKind.i64.wrap (n29-1))-(IntKind.i64.wrap (Int.tdiv n32 4))))<4) then k_3 [.bool true] w8 else ∃ n38:Int,YD 3 (Addr.add q1 2) w8 (.int .i64 n38)/\∃ n40:Int,YD 3 (Addr.add q1 0) w8 (.int .i64 n40)/\k_3 [.bool (decide ((IntKind.i64.wrap (2+(IntKind.i64.wrap (n38*n40)))) > 4096))] w8)) fun x_3 w10 =>
 ∃ b27:Bool,nth x_3 0=.bool b27/\(bif b27 then
 ∃ g45:Array Value,Al (Instr.build 39 #[]) (.agg g45)/\∃ w11:World,YE 39 q2 (.agg g45) w10 w11/\∃ gR2_3:Array Value,YD 39 q2 w11 (.agg gR2_3)/\K (.agg gR2_3) w11
 else
 ∃ g46:Array Value,YD 39 q1 w10 (.agg g46)/\∃ w12:World,YE 39 q2 (.agg g46) w10 w12/\∃ gR2_4:Array Value,YD 39 q2 w12 (.agg gR2_4)/\K (.agg gR2_4) w12)))
theorem C_geo_whole (g0:Array Value) (w0:World) (K:YA) (h:D_geo_whole g0 w0 K):Cal Tryz.prog F_geo_whole #[.agg g0] w0 K :=
 denF_of (A:=⟨[3,15,27],[(3,4),(15,4),(27,4)],[]⟩) Tryz.func135 (by kernel_rfl) (by kernel_rfl) (by kernel_rfl) h
def D_disk_Disk_may (p0:YB) (n1:Int) (w0:World) (K:YA):Prop :=
 (bif Option.isNone p0 then
 K (.int .i64 2) w0
 else
 Share (fun k=>(bif decide (n1<0) then k [.bool true] w0 else ∃ q14:Addr,(.pointer p0:Value)=.pointer (some q14)/\∃ (a16:YB) (l16 c16:Nat),YD 148 (Addr.add q14 0) w0 (.slice a16 l16 c16)/\k [.bool (decide (n1 >= (l16:Int)))] w0)) fun x w1 =>
 ∃ b8:Bool,nth x 0=.bool b8/\(bif b8 then
 K (.int .i64 3) w1
 else
 K (.int .i64 0) w1))
theorem C_disk_Disk_may (p0:YB) (n1:Int) (w0:World) (K:YA) (h:D_disk_Disk_may p0 n1 w0 K):Cal Tryz.prog F_disk_Disk_may #[.pointer p0,.int .i64 n1] w0 K :=
 denF_of (A:=⟨[8],[(8,4)],[]⟩) Tryz.func136 (by kernel_rfl) (by kernel_rfl) (by kernel_rfl) h
def D_disk_Disk_goes (p0:YB) (w0:World) (K:YA):Prop :=
 ∃ q4:Addr,(.pointer p0:Value)=.pointer (some q4)/\∃ n6:Int,YD 3 (Addr.add q4 2) w0 (.int .i64 n6)/\(bif n6==0 then
 K (.bool false) w0
 else
 ∃ q10:Addr,(.pointer p0:Value)=.pointer (some q10)/\∃ n12:Int,YD 3 (Addr.add q10 2) w0 (.int .i64 n12)/\∃ q15:Addr,(.pointer p0:Value)=.pointer (some q15)/\∃ w1:World,YE 3 (Addr.add q15 2) (.int .i64 (if (-1) > (IntKind.i64.wrap (n12-1)) then (-1) else (IntKind.i64.wrap (n12-1)))) w0 w1/\K (.bool true) w1)
theorem C_disk_Disk_goes (p0:YB) (w0:World) (K:YA) (h:D_disk_Disk_goes p0 w0 K):Cal Tryz.prog F_disk_Disk_goes #[.pointer p0] w0 K :=
 denF_of (A:=⟨[],[],[]⟩) Tryz.func137 (by kernel_rfl) (by kernel_rfl) (by kernel_rfl) h
def D_disk_Disk_Open (p0:YB) (w0:World) (K:YA):Prop :=
 (bif Option.isNone p0 then
 K (.slice none 0 0) w0
 else
 ∃ q8:Addr,(.pointer p0:Value)=.pointer (some q8)/\∃ m10:Option Nat,YD 149 (Addr.add q8 1) w0 (.map m10)/\∃ q11:Addr,∃ w1:World,Ru (Instr.range 149 (.map m10)) w0 (.pointer (some q11)) w1/\LoopC (fun k x w2 =>
 ∃ v12:Value,∃ w3:World,Ru (Instr.next (.pointer (some q11)) false 0) w2 v12 w3/\∃ b13:Bool,Al (Instr.extract v12 0) (.bool b13)/\(bif b13 then
 ∃ v14:Value,Ru (Instr.entry (.pointer (some q11))) w3 v14 w3/\∃ n15:Int,Al (Instr.extract v14 0) (.int .i64 n15)/\∃ (a3:YB) (l3 c3:Nat),nth x 0=.slice a3 l3 c3/\∃ (a18:YB) (l18 c18:Nat),∃ w4:World,Ru (Instr.buildSlice 64 1 #[(0,.int .i64 n15)]) w3 (.slice a18 l18 c18) w4/\∃ (a19:YB) (l19 c19:Nat),∃ w5:World,Ru (Builtin.append_ #[64,64] 64 #[.slice a3 l3 c3,.slice a18 l18 c18]) w4 (.slice a19 l19 c19) w5/\k [.slice a19 l19 c19] w5
 else
 ∃ (a3_2:YB) (l3_2 c3_2:Nat),nth x 0=.slice a3_2 l3_2 c3_2/\YC F_slices_Sort_int #[.slice a3_2 l3_2 c3_2] w3 fun r21 w6=>r21=.tuple #[]/\K (.slice a3_2 l3_2 c3_2) w6)) [.slice none 0 0] w1)
theorem C_disk_Disk_Open (p0:YB) (w0:World) (K:YA) (h:D_disk_Disk_Open p0 w0 K):Cal Tryz.prog F_disk_Disk_Open #[.pointer p0] w0 K :=
 denF_of (A:=⟨[3],[(3,64)],[12,14]⟩) Tryz.func138 (by kernel_rfl) (by kernel_rfl) (by kernel_rfl) h
def D_disk_Disk_last (p0:YB) (n1:Int) (w0:World) (K:YA):Prop :=
 ∃ q4:Addr,∃ w1:World,Ru (Instr.alloc 224 true (.tuple #[])) w0 (.pointer (some q4)) w1/\∃ q7:Addr,(.pointer p0:Value)=.pointer (some q7)/\∃ m9:Option Nat,YD 149 (Addr.add q7 1) w1 (.map m9)/\∃ (a11:YB) (l11 c11:Nat),Ru (Instr.lookup 149 (.map m9) (.int .i64 n1) false) w1 (.slice a11 l11 c11) w1/\(bif decide ((l11:Int) > 0) then
 ∃ q19:Addr,Al (Instr.indexAt 148 (.slice a11 l11 c11) (.int .i64 (IntKind.i64.wrap ((l11:Int)-1)))) (.pointer (some q19))/\∃ g20:Array Value,YD 224 q19 w1 (.agg g20)/\∃ w2:World,YE 224 q4 (.agg g20) w1 w2/\∃ gR4:Array Value,YD 224 q4 w2 (.agg gR4)/\K (.agg gR4) w2
 else
 ∃ q22:Addr,(.pointer p0:Value)=.pointer (some q22)/\∃ (a24:YB) (l24 c24:Nat),YD 148 (Addr.add q22 0) w1 (.slice a24 l24 c24)/\∃ q26:Addr,Al (Instr.indexAt 148 (.slice a24 l24 c24) (.int .i64 n1)) (.pointer (some q26))/\∃ g27:Array Value,YD 224 q26 w1 (.agg g27)/\∃ w3:World,YE 224 q4 (.agg g27) w1 w3/\∃ gR4_2:Array Value,YD 224 q4 w3 (.agg gR4_2)/\K (.agg gR4_2) w3)
theorem C_disk_Disk_last (p0:YB) (n1:Int) (w0:World) (K:YA) (h:D_disk_Disk_last p0 n1 w0 K):Cal Tryz.prog F_disk_Disk_last #[.pointer p0,.int .i64 n1] w0 K :=
 denF_of (A:=⟨[],[],[]⟩) Tryz.func139 (by kernel_rfl) (by kernel_rfl) (by kernel_rfl) h
def D_group_Fresh (g0:Array Value) (n1:Int) (w0:World) (K:YA):Prop :=
 ∃ q2:Addr,∃ w1:World,Ru (Instr.box 39 (.agg g0)) w0 (.pointer (some q2)) w1/\∃ q4:Addr,∃ w2:World,Ru (Instr.alloc 171 true (.tuple #[])) w1 (.pointer (some q4)) w2/\∃ g9:Array Value,YD 39 q2 w2 (.agg g9)/\YC F_geo_Head #[.agg g9,.int .i64 n1] w2 fun r11 w3=>∃ n11a:Int,∃ n11b:Int,r11=.tuple #[.int .i64 n11a,.int .i64 n11b]/\(bif n11b != 0 then
 ∃ g16:Array Value,Al (Instr.build 171 #[]) (.agg g16)/\∃ w4:World,YE 171 q4 (.agg g16) w3 w4/\∃ gR4:Array Value,YD 171 q4 w4 (.agg gR4)/\K (.tuple #[.agg gR4,.int .i64 1]) w4
 else
 ∃ g17:Array Value,YD 39 q2 w3 (.agg g17)/\YC F_group_base #[.agg g17,.int .i64 n1] w3 fun r19 w5=>∃ g19:Array Value,r19=.agg g19/\∃ w6:World,YE 171 q4 (.agg g19) w5 w6/\∃ gR4_2:Array Value,YD 171 q4 w6 (.agg gR4_2)/\K (.tuple #[.agg gR4_2,.int .i64 0]) w6)
theorem C_group_Fresh (g0:Array Value) (n1:Int) (w0:World) (K:YA) (h:D_group_Fresh g0 n1 w0 K):Cal Tryz.prog F_group_Fresh #[.agg g0,.int .i64 n1] w0 K :=
 denF_of (A:=⟨[],[],[]⟩) Tryz.func140 (by kernel_rfl) (by kernel_rfl) (by kernel_rfl) h
def D_group_Put (g0:Array Value) (g1:Array Value) (w0:World) (K:YA):Prop :=
 ∃ q2:Addr,∃ w1:World,Ru (Instr.box 39 (.agg g0)) w0 (.pointer (some q2)) w1/\∃ q3:Addr,∃ w2:World,Ru (Instr.box 171 (.agg g1)) w1 (.pointer (some q3)) w2/\∃ g11:Array Value,YD 39 q2 w2 (.agg g11)/\∃ g12:Array Value,YD 171 q3 w2 (.agg g12)/\YC F_group_Right #[.agg g11,.agg g12] w2 fun r13 w3=>∃ b13:Bool,r13=.bool b13/\(bif !b13 then
 K (.tuple #[.slice none 0 0,.int .i64 1]) w3
 else
 ∃ (a15:YB) (l15 c15:Nat),∃ w4:World,Ru (Instr.makeSlice 55 (.int .i64 256) (.int .i64 256)) w3 (.slice a15 l15 c15) w4/\∃ n17:Int,∃ w5:World,Ru (Builtin.copy_ #[55,9] 3 #[.slice a15 l15 c15,.string (⟨#[76,71,82,80]⟩)]) w4 (.int .i64 n17) w5/\∃ g19:Array Value,YD 39 q2 w5 (.agg g19)/\∃ g20:Array Value,YD 171 q3 w5 (.agg g20)/\YC F_group_Free #[.agg g19,.agg g20] w5 fun r21 w6=>∃ n21a:Int,∃ n21b:Int,r21=.tuple #[.int .i64 n21a,.int .i64 n21b]/\∃ n25:Int,YD 3 (Addr.add q3 0) w6 (.int .i64 n25)/\∃ g28:Array Value,Al (Instr.build 295 #[(0,.int .i64 n25),(1,.int .i64 n21a),(2,.int .i64 n21b)]) (.agg g28)/\LoopC (fun k x w7 =>
 ∃ n29:Int,nth x 0=.int .i64 n29/\(bif decide (n29<3) then
 ∃ n32:Int,Al (Instr.index 295 (.agg g28) (.int .i64 n29)) (.int .i64 n32)/\∃ (a41:YB) (l41 c41:Nat),Al (Instr.sliceAt 55 (.slice a15 l15 c15) (some (.int .i64 (IntKind.i64.wrap (4+(IntKind.i64.wrap (n29*2)))))) (some (.int .i64 (IntKind.i64.wrap (4+(IntKind.i64.wrap ((IntKind.i64.wrap (n29+1))*2)))))) none) (.slice a41 l41 c41)/\YC F_num_Put #[.slice a41 l41 c41,.int .u64 (IntKind.u64.wrap n32)] w7 fun r44 w8=>r44=.tuple #[]/\k [.int .i64 (IntKind.i64.wrap (n29+1))] w8
 else
 ∃ (a47:YB) (l47 c47:Nat),Al (Instr.sliceAt 55 (.slice a15 l15 c15) (some (.int .i64 16)) none none) (.slice a47 l47 c47)/\∃ (a49:YB) (l49 c49:Nat),Al (Instr.sliceAt 168 (.pointer (some (Addr.add q3 1))) none none none) (.slice a49 l49 c49)/\∃ n50:Int,∃ w9:World,Ru (Builtin.copy_ #[55,55] 3 #[.slice a47 l47 c47,.slice a49 l49 c49]) (drew w7) (.int .i64 n50) w9/\∃ (a52:YB) (l52 c52:Nat),Al (Instr.sliceAt 55 (.slice a15 l15 c15) (some (.int .i64 32)) none none) (.slice a52 l52 c52)/\∃ (a54:YB) (l54 c54:Nat),Al (Instr.sliceAt 169 (.pointer (some (Addr.add q3 17))) none none none) (.slice a54 l54 c54)/\∃ n55:Int,∃ w10:World,Ru (Builtin.copy_ #[55,55] 3 #[.slice a52 l52 c52,.slice a54 l54 c54]) (drew w9) (.int .i64 n55) w10/\K (.tuple #[.slice a15 l15 c15,.int .i64 0]) w10)) [.int .i64 0] w6)
theorem C_group_Put (g0:Array Value) (g1:Array Value) (w0:World) (K:YA) (h:D_group_Put g0 g1 w0 K):Cal Tryz.prog F_group_Put #[.agg g0,.agg g1] w0 K :=
 denF_of (A:=⟨[29],[(29,3)],[]⟩) Tryz.func141 (by kernel_rfl) (by kernel_rfl) (by kernel_rfl) h
def D_geo_Head (g0:Array Value) (n1:Int) (w0:World) (K:YA):Prop :=
 ∃ q2:Addr,∃ w1:World,Ru (Instr.box 39 (.agg g0)) w0 (.pointer (some q2)) w1/\∃ g7:Array Value,YD 39 q2 w1 (.agg g7)/\YC F_geo_Right #[.agg g7] w1 fun r8 w2=>∃ b8:Bool,r8=.bool b8/\(bif !b8 then
 K (.tuple #[.int .i64 0,.int .i64 1]) w2
 else
 Share (fun k=>(bif decide (n1<0) then k [.bool true] w2 else ∃ n16:Int,YD 3 (Addr.add q2 2) w2 (.int .i64 n16)/\k [.bool (decide (n1 >= n16))] w2)) fun x w3 =>
 ∃ b10:Bool,nth x 0=.bool b10/\(bif b10 then
 K (.tuple #[.int .i64 0,.int .i64 3]) w3
 else
 ∃ n21:Int,YD 3 (Addr.add q2 0) w3 (.int .i64 n21)/\K (.tuple #[.int .i64 (IntKind.i64.wrap (2+(IntKind.i64.wrap (n1*n21)))),.int .i64 0]) w3))
theorem C_geo_Head (g0:Array Value) (n1:Int) (w0:World) (K:YA) (h:D_geo_Head g0 n1 w0 K):Cal Tryz.prog F_geo_Head #[.agg g0,.int .i64 n1] w0 K :=
 denF_of (A:=⟨[10],[(10,4)],[]⟩) Tryz.func142 (by kernel_rfl) (by kernel_rfl) (by kernel_rfl) h
def D_geo_Tables (g0:Array Value) (w0:World) (K:YA):Prop :=
 ∃ q1:Addr,∃ w1:World,Ru (Instr.box 39 (.agg g0)) w0 (.pointer (some q1)) w1/\∃ g4:Array Value,Al (Instr.build 39 #[]) (.agg g4)/\∃ q3:Addr,∃ w2:World,Ru (Instr.alloc 39 true (.tuple #[])) w1 (.pointer (some q3)) w2/\∃ w3:World,YE 39 q3 (.agg g4) w2 w3/\∃ g5:Array Value,YD 39 q1 (drew w3) (.agg g5)/\∃ g7:Array Value,YD 39 q3 (drew w3) (.agg g7)/\YC F_geo_whole #[.agg g5] (drew w3) fun r6 w4=>∃ g6:Array Value,r6=.agg g6/\YD 39 q3 w4 (.agg g7)/\∃ b8:Bool,Al (eqS .eql 39 (.tmp 6) (.tmp 7) (.agg g6) (.agg g7)) (.bool b8)/\(bif b8 then
 K (.int .i64 0) w4
 else
 ∃ n10:Int,YD 3 (Addr.add q1 1) w4 (.int .i64 n10)/\K (.int .i64 (IntKind.i64.wrap (Int.tdiv n10 4))) w4)
theorem C_geo_Tables (g0:Array Value) (w0:World) (K:YA) (h:D_geo_Tables g0 w0 K):Cal Tryz.prog F_geo_Tables #[.agg g0] w0 K :=
 denF_of (A:=⟨[],[],[]⟩) Tryz.func143 (by kernel_rfl) (by kernel_rfl) (by kernel_rfl) h
def D_inode_Lay (a0:YB) (l0 c0:Nat) (n1:Int) (g2:Array Value) (w0:World) (K:YA):Prop :=
 ∃ q5:Addr,∃ w1:World,Ru (Instr.box 51 (.agg g2)) w0 (.pointer (some q5)) w1/\YC F_inode_may #[.slice a0 l0 c0,.int .i64 n1] w1 fun r13 w2=>∃ n13:Int,r13=.int .i64 n13/\(bif n13 != 0 then
 K (.tuple #[.slice none 0 0,.int .i64 n13]) w2
 else
 ∃ g18:Array Value,YD 51 q5 w2 (.agg g18)/\YC F_inode_Put #[.agg g18] w2 fun r19 w3=>∃ (a19a:YB) (l19a c19a:Nat),∃ n19b:Int,r19=.tuple #[.slice a19a l19a c19a,.int .i64 n19b]/\(bif n19b != 0 then
 K (.tuple #[.slice none 0 0,.int .i64 n19b]) w3
 else
 YC F_num_Lay #[.slice a0 l0 c0,.int .i64 (IntKind.i64.wrap (n1*64)),.slice a19a l19a c19a] w3 fun r29 w4=>∃ (a29a:YB) (l29a c29a:Nat),∃ n29b:Int,r29=.tuple #[.slice a29a l29a c29a,.int .i64 n29b]/\K (.tuple #[.slice a29a l29a c29a,.int .i64 n29b]) w4))
theorem C_inode_Lay (a0:YB) (l0 c0:Nat) (n1:Int) (g2:Array Value) (w0:World) (K:YA) (h:D_inode_Lay a0 l0 c0 n1 g2 w0 K):Cal Tryz.prog F_inode_Lay #[.slice a0 l0 c0,.int .i64 n1,.agg g2] w0 K :=
 denF_of (A:=⟨[],[],[]⟩) Tryz.func144 (by kernel_rfl) (by kernel_rfl) (by kernel_rfl) h
def D_super_Super_right (g0:Array Value) (w0:World) (K:YA):Prop :=
 ∃ q1:Addr,∃ w1:World,Ru (Instr.box 158 (.agg g0)) w0 (.pointer (some q1)) w1/\Share (fun k=>∃ n4:Int,YD 2 (Addr.add q1 0) w1 (.int .i64 n4)/\(bif decide (n4 >= 1) then ∃ n8:Int,YD 2 (Addr.add q1 0) w1 (.int .i64 n8)/\(bif decide (n8<=4611686018427387904) then ∃ g13:Array Value,YD 39 (Addr.add q1 1) w1 (.agg g13)/\YC F_geo_Right #[.agg g13] w1 fun r14 w2=>∃ b14:Bool,r14=.bool b14/\k [.bool b14] w2 else k [.bool false] w1) else k [.bool false] w1)) fun x w3 =>
 ∃ b2:Bool,nth x 0=.bool b2/\K (.bool b2) w3
theorem C_super_Super_right (g0:Array Value) (w0:World) (K:YA) (h:D_super_Super_right g0 w0 K):Cal Tryz.prog F_super_Super_right #[.agg g0] w0 K :=
 denF_of (A:=⟨[2],[(2,4)],[]⟩) Tryz.func145 (by kernel_rfl) (by kernel_rfl) (by kernel_rfl) h
def D_num_Sum (a0:YB) (l0 c0:Nat) (w0:World) (K:YA):Prop :=
 ∃ q3:Addr,∃ w1:World,Ru (Instr.alloc 296 true (.tuple #[])) w0 (.pointer (some q3)) w1/\LoopC (fun k x w2 =>
 ∃ n9:Int,nth x 1=.int .i64 n9/\(bif decide (n9<16) then
 LoopC (fun k_2 x_2 w3 =>
 ∃ n14:Int,nth x_2 1=.int .i64 n14/\(bif decide (n14<4) then
 ∃ n5:Int,nth x_2 0=.int .u32 n5/\k_2 [.int .u32 (IntKind.u32.wrap (bvXor 32 (Int.fdiv n5 2) (IntKind.u32.wrap (3988292384*(IntKind.u32.wrap (bvAnd 32 n5 1)))))),.int .i64 (IntKind.i64.wrap (n14+1))] w3
 else
 ∃ n5_2:Int,nth x_2 0=.int .u32 n5_2/\∃ q25:Addr,Al (Instr.indexAt 296 (.pointer (some q3)) (.int .i64 n9)) (.pointer (some q25))/\∃ w4:World,YE 231 q25 (.int .u32 n5_2) w3 w4/\k [.int .u32 n5_2,.int .i64 (IntKind.i64.wrap (n9+1)),.int .i64 n14] w4)) [.int .u32 (IntKind.u32.wrap n9),.int .i64 0] w2
 else
 LoopC (fun k_3 x_3 w5 =>
 ∃ n29:Int,nth x_3 1=.int .i64 n29/\(bif decide (n29<(l0:Int)) then
 ∃ q31:Addr,Al (Instr.indexAt 55 (.slice a0 l0 c0) (.int .i64 n29)) (.pointer (some q31))/\∃ n32:Int,YD 5 q31 w5 (.int .u8 n32)/\∃ n6:Int,nth x_3 0=.int .u32 n6/\∃ q41:Addr,Al (Instr.indexAt 296 (.pointer (some q3)) (.int .u32 (IntKind.u32.wrap (bvAnd 32 (IntKind.u32.wrap (bvXor 32 n6 (IntKind.u32.wrap n32))) 15)))) (.pointer (some q41))/\∃ n42:Int,YD 231 q41 w5 (.int .u32 n42)/\∃ q48:Addr,Al (Instr.indexAt 296 (.pointer (some q3)) (.int .u32 (IntKind.u32.wrap (bvAnd 32 (IntKind.u32.wrap (bvXor 32 (Int.fdiv (IntKind.u32.wrap (bvXor 32 n6 (IntKind.u32.wrap n32))) 16) n42)) 15)))) (.pointer (some q48))/\∃ n49:Int,YD 231 q48 w5 (.int .u32 n49)/\k_3 [.int .u32 (IntKind.u32.wrap (bvXor 32 (Int.fdiv (IntKind.u32.wrap (bvXor 32 (Int.fdiv (IntKind.u32.wrap (bvXor 32 n6 (IntKind.u32.wrap n32))) 16) n42)) 16) n49)),.int .i64 (IntKind.i64.wrap (n29+1))] w5
 else
 ∃ n6_2:Int,nth x_3 0=.int .u32 n6_2/\∃ n53:Int,Al (Op.unary .xor (.int .u32 n6_2)) (.int .u32 n53)/\K (.int .u32 n53) w5)) [.int .u32 4294967295,.int .i64 0] w2)) [undef,.int .i64 0,undef] w1
theorem C_num_Sum (a0:YB) (l0 c0:Nat) (w0:World) (K:YA) (h:D_num_Sum a0 l0 c0 w0 K):Cal Tryz.prog F_num_Sum #[.slice a0 l0 c0] w0 K :=
 denF_of (A:=⟨[5,6,9,14,29],[(5,231),(6,231),(9,3),(14,3),(29,3)],[]⟩) Tryz.func146 (by kernel_rfl) (by kernel_rfl) (by kernel_rfl) h
def D_cache_New (p0:YB) (n1:Int) (w0:World) (K:YA):Prop :=
 (bif Option.isNone p0 then
 K (.tuple #[.pointer none,.int .i64 2]) w0
 else
 Share (fun k=>(bif decide (n1<1) then k [.bool true] w0 else k [.bool (decide (n1 > 4096))] w0)) fun x w1 =>
 ∃ b9:Bool,nth x 0=.bool b9/\(bif b9 then
 K (.tuple #[.pointer none,.int .i64 1]) w1
 else
 ∃ m18:Option Nat,∃ w2:World,Ru (Instr.makeMap 297 none) w1 (.map m18) w2/\∃ g19:Array Value,Al (Instr.build 299 #[(0,.pointer p0),(1,.int .i64 n1),(2,.map m18)]) (.agg g19)/\∃ q20:Addr,∃ w3:World,Ru (Instr.box 299 (.agg g19)) w2 (.pointer (some q20)) w3/\K (.tuple #[.pointer (some q20),.int .i64 0]) w3))
theorem C_cache_New (p0:YB) (n1:Int) (w0:World) (K:YA) (h:D_cache_New p0 n1 w0 K):Cal Tryz.prog F_cache_New #[.pointer p0,.int .i64 n1] w0 K :=
 denF_of (A:=⟨[9],[(9,4)],[]⟩) Tryz.func147 (by kernel_rfl) (by kernel_rfl) (by kernel_rfl) h
def D_super_Get (a0:YB) (l0 c0:Nat) (w0:World) (K:YA):Prop :=
 ∃ q1:Addr,∃ w1:World,Ru (Instr.box 55 (.slice a0 l0 c0)) w0 (.pointer (some q1)) w1/\∃ q2:Addr,∃ w2:World,Ru (Instr.alloc 158 true (.tuple #[])) w1 (.pointer (some q2)) w2/\∃ (a7:YB) (l7 c7:Nat),YD 55 q1 w2 (.slice a7 l7 c7)/\(bif (l7:Int) != 256 then
 ∃ g10:Array Value,Al (Instr.build 158 #[]) (.agg g10)/\∃ w3:World,YE 158 q2 (.agg g10) w2 w3/\∃ gR2:Array Value,YD 158 q2 w3 (.agg gR2)/\K (.tuple #[.agg gR2,.int .i64 4]) w3
 else
 ∃ (a12:YB) (l12 c12:Nat),YD 55 q1 w2 (.slice a12 l12 c12)/\∃ (a13:YB) (l13 c13:Nat),Al (Instr.sliceAt 55 (.slice a12 l12 c12) none (some (.int .i64 4)) none) (.slice a13 l13 c13)/\∃ s14:ByteArray,Ru (convert 55 9 (.slice a13 l13 c13)) w2 (.string s14) w2/\(bif !((ByteArray.toList s14)==(ByteArray.toList (⟨#[76,86,69,69]⟩))) then
 ∃ g16:Array Value,Al (Instr.build 158 #[]) (.agg g16)/\∃ w4:World,YE 158 q2 (.agg g16) w2 w4/\∃ gR2_2:Array Value,YD 158 q2 w4 (.agg gR2_2)/\K (.tuple #[.agg gR2_2,.int .i64 8]) w4
 else
 ∃ (a18:YB) (l18 c18:Nat),YD 55 q1 (drew w2) (.slice a18 l18 c18)/\∃ (a19:YB) (l19 c19:Nat),Al (Instr.sliceAt 55 (.slice a18 l18 c18) (some (.int .i64 252)) none none) (.slice a19 l19 c19)/\∃ (a21:YB) (l21 c21:Nat),YD 55 q1 (drew w2) (.slice a21 l21 c21)/\∃ (a22:YB) (l22 c22:Nat),Al (Instr.sliceAt 55 (.slice a21 l21 c21) none (some (.int .i64 252)) none) (.slice a22 l22 c22)/\YC F_num_Get #[.slice a19 l19 c19] (drew w2) fun r20 w5=>∃ n20:Int,r20=.int .u64 n20/\YD 55 q1 w5 (.slice a21 l21 c21)/\YC F_num_Sum #[.slice a22 l22 c22] w5 fun r23 w6=>∃ n23:Int,r23=.int .u32 n23/\(bif n20 != (IntKind.u64.wrap n23) then
 ∃ g26:Array Value,Al (Instr.build 158 #[]) (.agg g26)/\∃ w7:World,YE 158 q2 (.agg g26) w6 w7/\∃ gR2_3:Array Value,YD 158 q2 w7 (.agg gR2_3)/\K (.tuple #[.agg gR2_3,.int .i64 7]) w7
 else
 ∃ (a28:YB) (l28 c28:Nat),YD 55 q1 w6 (.slice a28 l28 c28)/\∃ (a29:YB) (l29 c29:Nat),Al (Instr.sliceAt 55 (.slice a28 l28 c28) (some (.int .i64 4)) (some (.int .i64 12)) none) (.slice a29 l29 c29)/\YC F_num_Get #[.slice a29 l29 c29] w6 fun r30 w8=>∃ n30:Int,r30=.int .u64 n30/\Dyn Tryz.prog (.func (.func F_super_Get_1) #[] #[.pointer (some q1)]) #[.int .i64 12] w8 fun r33 w9=>∃ n33:Int,r33=.int .i64 n33/\Dyn Tryz.prog (.func (.func F_super_Get_1) #[] #[.pointer (some q1)]) #[.int .i64 14] w9 fun r35 w10=>∃ n35:Int,r35=.int .i64 n35/\Dyn Tryz.prog (.func (.func F_super_Get_1) #[] #[.pointer (some q1)]) #[.int .i64 16] w10 fun r37 w11=>∃ n37:Int,r37=.int .i64 n37/\∃ g38:Array Value,Al (Instr.build 39 #[(0,.int .i64 n33),(1,.int .i64 n35),(2,.int .i64 n37)]) (.agg g38)/\∃ g39:Array Value,Al (Instr.build 158 #[(0,.int .i64 (IntKind.i64.wrap n30)),(1,.agg g38)]) (.agg g39)/\∃ q5:Addr,∃ w12:World,Ru (Instr.alloc 158 true (.tuple #[])) w11 (.pointer (some q5)) w12/\∃ w13:World,YE 158 q5 (.agg g39) w12 w13/\∃ g41:Array Value,YD 158 q5 w13 (.agg g41)/\YC F_super_Super_right #[.agg g41] w13 fun r42 w14=>∃ b42:Bool,r42=.bool b42/\(bif !b42 then
 ∃ g44:Array Value,Al (Instr.build 158 #[]) (.agg g44)/\∃ w15:World,YE 158 q2 (.agg g44) w14 w15/\∃ gR2_4:Array Value,YD 158 q2 w15 (.agg gR2_4)/\K (.tuple #[.agg gR2_4,.int .i64 1]) w15
 else
 ∃ (a46:YB) (l46 c46:Nat),YD 55 q1 w14 (.slice a46 l46 c46)/\∃ (a47:YB) (l47 c47:Nat),Al (Instr.sliceAt 55 (.slice a46 l46 c46) (some (.int .i64 18)) (some (.int .i64 252)) none) (.slice a47 l47 c47)/\YC F_num_Zero #[.slice a47 l47 c47] w14 fun r48 w16=>∃ b48:Bool,r48=.bool b48/\(bif !b48 then
 ∃ g50:Array Value,Al (Instr.build 158 #[]) (.agg g50)/\∃ w17:World,YE 158 q2 (.agg g50) w16 w17/\∃ gR2_5:Array Value,YD 158 q2 w17 (.agg gR2_5)/\K (.tuple #[.agg gR2_5,.int .i64 8]) w17
 else
 ∃ g51:Array Value,YD 158 q5 w16 (.agg g51)/\∃ w18:World,YE 158 q2 (.agg g51) w16 w18/\∃ gR2_6:Array Value,YD 158 q2 w18 (.agg gR2_6)/\K (.tuple #[.agg gR2_6,.int .i64 0]) w18)))))
theorem C_super_Get (a0:YB) (l0 c0:Nat) (w0:World) (K:YA) (h:D_super_Get a0 l0 c0 w0 K):Cal Tryz.prog F_super_Get #[.slice a0 l0 c0] w0 K :=
 denF_of (A:=⟨[],[],[]⟩) Tryz.func148 (by kernel_rfl) (by kernel_rfl) (by kernel_rfl) h
def D_super_Super_place (g0:Array Value) (w0:World) (K:YA):Prop :=
 ∃ q1:Addr,∃ w1:World,Ru (Instr.box 158 (.agg g0)) w0 (.pointer (some q1)) w1/\∃ n4:Int,YD 2 (Addr.add q1 0) w1 (.int .i64 n4)/\K (.int .i64 (Int.tmod n4 2)) w1
theorem C_super_Super_place (g0:Array Value) (w0:World) (K:YA) (h:D_super_Super_place g0 w0 K):Cal Tryz.prog F_super_Super_place #[.agg g0] w0 K :=
 denF_of (A:=⟨[],[],[]⟩) Tryz.func149 (by kernel_rfl) (by kernel_rfl) (by kernel_rfl) h
def D_vol_Vol_head (p0:YB) (n1:Int) (w0:World) (K:YA):Prop :=
 (bif Option.isNone p0 then
 K (.tuple #[.int .i64 0,.int .i64 2]) w0
 else
 ∃ q9:Addr,(.pointer p0:Value)=.pointer (some q9)/\∃ g12:Array Value,YD 39 (Addr.add (Addr.add q9 0) 1) w0 (.agg g12)/\YC F_geo_Head #[.agg g12,.int .i64 n1] w0 fun r14 w1=>∃ n14a:Int,∃ n14b:Int,r14=.tuple #[.int .i64 n14a,.int .i64 n14b]/\K (.tuple #[.int .i64 n14a,.int .i64 n14b]) w1)
theorem C_vol_Vol_head (p0:YB) (n1:Int) (w0:World) (K:YA) (h:D_vol_Vol_head p0 n1 w0 K):Cal Tryz.prog F_vol_Vol_head #[.pointer p0,.int .i64 n1] w0 K :=
 denF_of (A:=⟨[],[],[]⟩) Tryz.func150 (by kernel_rfl) (by kernel_rfl) (by kernel_rfl) h
def D_group_Get (g0:Array Value) (a1:YB) (l1 c1:Nat) (w0:World) (K:YA):Prop :=
 ∃ q2:Addr,∃ w1:World,Ru (Instr.box 39 (.agg g0)) w0 (.pointer (some q2)) w1/\∃ q4:Addr,∃ w2:World,Ru (Instr.alloc 171 true (.tuple #[])) w1 (.pointer (some q4)) w2/\∃ g12:Array Value,YD 39 q2 w2 (.agg g12)/\YC F_geo_Right #[.agg g12] w2 fun r13 w3=>∃ b13:Bool,r13=.bool b13/\(bif !b13 then
 ∃ g15:Array Value,Al (Instr.build 171 #[]) (.agg g15)/\∃ w4:World,YE 171 q4 (.agg g15) w3 w4/\∃ gR4:Array Value,YD 171 q4 w4 (.agg gR4)/\K (.tuple #[.agg gR4,.int .i64 1]) w4
 else
 (bif (l1:Int) != 256 then
 ∃ g20:Array Value,Al (Instr.build 171 #[]) (.agg g20)/\∃ w5:World,YE 171 q4 (.agg g20) w3 w5/\∃ gR4_2:Array Value,YD 171 q4 w5 (.agg gR4_2)/\K (.tuple #[.agg gR4_2,.int .i64 4]) w5
 else
 ∃ (a22:YB) (l22 c22:Nat),Al (Instr.sliceAt 55 (.slice a1 l1 c1) (some (.int .i64 4)) (some (.int .i64 6)) none) (.slice a22 l22 c22)/\YC F_num_Get #[.slice a22 l22 c22] w3 fun r23 w6=>∃ n23:Int,r23=.int .u64 n23/\∃ g25:Array Value,Al (Instr.build 171 #[(0,.int .i64 (IntKind.i64.wrap n23))]) (.agg g25)/\∃ q6:Addr,∃ w7:World,Ru (Instr.alloc 171 true (.tuple #[])) w6 (.pointer (some q6)) w7/\∃ w8:World,YE 171 q6 (.agg g25) w7 w8/\∃ (a27:YB) (l27 c27:Nat),Al (Instr.sliceAt 168 (.pointer (some (Addr.add q6 1))) none none none) (.slice a27 l27 c27)/\∃ (a29:YB) (l29 c29:Nat),Al (Instr.sliceAt 55 (.slice a1 l1 c1) (some (.int .i64 16)) none none) (.slice a29 l29 c29)/\∃ n30:Int,∃ w9:World,Ru (Builtin.copy_ #[55,55] 3 #[.slice a27 l27 c27,.slice a29 l29 c29]) (drew w8) (.int .i64 n30) w9/\∃ (a32:YB) (l32 c32:Nat),Al (Instr.sliceAt 169 (.pointer (some (Addr.add q6 17))) none none none) (.slice a32 l32 c32)/\∃ (a34:YB) (l34 c34:Nat),Al (Instr.sliceAt 55 (.slice a1 l1 c1) (some (.int .i64 32)) none none) (.slice a34 l34 c34)/\∃ n35:Int,∃ w10:World,Ru (Builtin.copy_ #[55,55] 3 #[.slice a32 l32 c32,.slice a34 l34 c34]) (drew w9) (.int .i64 n35) w10/\∃ g37:Array Value,YD 39 q2 w10 (.agg g37)/\∃ g38:Array Value,YD 171 q6 w10 (.agg g38)/\YC F_group_Put #[.agg g37,.agg g38] w10 fun r39 w11=>∃ (a39a:YB) (l39a c39a:Nat),∃ n39b:Int,r39=.tuple #[.slice a39a l39a c39a,.int .i64 n39b]/\YC F_num_Diff #[.slice a1 l1 c1,.slice a39a l39a c39a] w11 fun r45 w12=>∃ n45a:Int,∃ n45b:Int,r45=.tuple #[.int .i64 n45a,.int .i64 n45b]/\Share (fun k=>(bif n39b != 0 then k [.bool true] w12 else k [.bool (decide (n45a >= 0))] w12)) fun x w13 =>
 ∃ b53:Bool,nth x 0=.bool b53/\(bif b53 then
 ∃ g54:Array Value,Al (Instr.build 171 #[]) (.agg g54)/\∃ w14:World,YE 171 q4 (.agg g54) w13 w14/\∃ gR4_3:Array Value,YD 171 q4 w14 (.agg gR4_3)/\K (.tuple #[.agg gR4_3,.int .i64 8]) w14
 else
 ∃ g55:Array Value,YD 171 q6 w13 (.agg g55)/\∃ w15:World,YE 171 q4 (.agg g55) w13 w15/\∃ gR4_4:Array Value,YD 171 q4 w15 (.agg gR4_4)/\K (.tuple #[.agg gR4_4,.int .i64 0]) w15)))
theorem C_group_Get (g0:Array Value) (a1:YB) (l1 c1:Nat) (w0:World) (K:YA) (h:D_group_Get g0 a1 l1 c1 w0 K):Cal Tryz.prog F_group_Get #[.agg g0,.slice a1 l1 c1] w0 K :=
 denF_of (A:=⟨[53],[(53,4)],[]⟩) Tryz.func151 (by kernel_rfl) (by kernel_rfl) (by kernel_rfl) h
def D_geo_Place (g0:Array Value) (n1:Int) (w0:World) (K:YA):Prop :=
 ∃ q2:Addr,∃ w1:World,Ru (Instr.box 39 (.agg g0)) w0 (.pointer (some q2)) w1/\∃ g11:Array Value,YD 39 q2 w1 (.agg g11)/\YC F_geo_Right #[.agg g11] w1 fun r12 w2=>∃ b12:Bool,r12=.bool b12/\(bif !b12 then
 K (.tuple #[.int .i64 0,.int .i64 0,.int .i64 1]) w2
 else
 Share (fun k=>(bif decide (n1<0) then k [.bool true] w2 else ∃ g19:Array Value,YD 39 q2 w2 (.agg g19)/\YC F_geo_Slots #[.agg g19] w2 fun r20 w3=>∃ n20:Int,r20=.int .i64 n20/\k [.bool (decide (n1 >= n20))] w3)) fun x w4 =>
 ∃ b14:Bool,nth x 0=.bool b14/\(bif b14 then
 K (.tuple #[.int .i64 0,.int .i64 0,.int .i64 3]) w4
 else
 ∃ n25:Int,YD 3 (Addr.add q2 1) w4 (.int .i64 n25)/\∃ n26:Int,Al (eqS .rem 3 (.tmp 23) (.tmp 25) (.int .i64 n1) (.int .i64 n25)) (.int .i64 n26)/\∃ g28:Array Value,YD 39 q2 (drew w4) (.agg g28)/\∃ n31:Int,YD 3 (Addr.add q2 1) (drew w4) (.int .i64 n31)/\∃ n32:Int,Al (eqS .quo 3 (.tmp 29) (.tmp 31) (.int .i64 n1) (.int .i64 n31)) (.int .i64 n32)/\YC F_geo_Head #[.agg g28,.int .i64 n32] (drew w4) fun r33 w5=>∃ n33a:Int,∃ n33b:Int,r33=.tuple #[.int .i64 n33a,.int .i64 n33b]/\K (.tuple #[.int .i64 (IntKind.i64.wrap ((IntKind.i64.wrap (n33a+1))+(IntKind.i64.wrap (Int.tdiv n26 4)))),.int .i64 (Int.tmod n26 4),.int .i64 0]) w5))
theorem C_geo_Place (g0:Array Value) (n1:Int) (w0:World) (K:YA) (h:D_geo_Place g0 n1 w0 K):Cal Tryz.prog F_geo_Place #[.agg g0,.int .i64 n1] w0 K :=
 denF_of (A:=⟨[14],[(14,4)],[]⟩) Tryz.func152 (by kernel_rfl) (by kernel_rfl) (by kernel_rfl) h
def D_inode_Right (g0:Array Value) (w0:World) (K:YA):Prop :=
 ∃ q1:Addr,∃ w1:World,Ru (Instr.box 51 (.agg g0)) w0 (.pointer (some q1)) w1/\∃ g6:Array Value,YD 51 q1 w1 (.agg g6)/\YC F_inode_all #[.agg g6] w1 fun r7 w2=>∃ g7:Array Value,r7=.agg g7/\LoopC (fun k x w3 =>
 ∃ n8:Int,nth x 1=.int .i64 n8/\(bif decide (n8<8) then
 ∃ n10:Int,Al (Instr.index 249 (.agg g7) (.int .i64 n8)) (.int .i64 n10)/\Share (fun k_2=>(bif decide (n10<0) then k_2 [.bool true] w3 else k_2 [.bool (decide (n10 >= 4096))] w3)) fun x_2 w4 =>
 ∃ b16:Bool,nth x_2 0=.bool b16/\(bif b16 then
 K (.bool false) w4
 else
 k [nth x 0,.int .i64 (IntKind.i64.wrap (n8+1)),.bool b16] w4)
 else
 ∃ n19:Int,YD 3 (Addr.add q1 0) w3 (.int .i64 n19)/\Share (fun k_3=>Share (fun k_4=>(bif n19==0 then
 ∃ g28:Array Value,Al (Instr.build 51 #[]) (.agg g28)/\∃ q5:Addr,∃ w5:World,Ru (Instr.alloc 51 true (.tuple #[])) w3 (.pointer (some q5)) w5/\∃ w6:World,YE 51 q5 (.agg g28) w5 w6/\∃ g29:Array Value,YD 51 q1 w6 (.agg g29)/\∃ g30:Array Value,YD 51 q5 w6 (.agg g30)/\∃ b31:Bool,Al (eqS .eql 51 (.tmp 29) (.tmp 30) (.agg g29) (.agg g30)) (.bool b31)/\K (.bool b31) w6
 else
 (bif n19==2 then
 ∃ n33:Int,YD 2 (Addr.add q1 2) w3 (.int .i64 n33)/\(bif (Int.tmod n33 256) != 0 then
 K (.bool false) w3
 else
 k_4 [nth x 0] w3)
 else
 (bif n19==1 then
 k_4 [nth x 0] w3
 else
 (bif n19==3 then
 Share (fun k_5=>∃ g38:Array Value,YD 51 q1 w3 (.agg g38)/\YC F_inode_sized #[.agg g38] w3 fun r39 w7=>∃ b39:Bool,r39=.bool b39/\(bif b39 then ∃ n42:Int,YD 2 (Addr.add q1 2) w7 (.int .i64 n42)/\(bif decide (n42 >= 1) then ∃ n47:Int,YD 2 (Addr.add q1 2) w7 (.int .i64 n47)/\k_5 [.bool (decide (n47<=255))] w7 else k_5 [.bool false] w7) else k_5 [.bool false] w7)) fun x_5 w8 =>
 ∃ b2:Bool,nth x_5 0=.bool b2/\K (.bool b2) w8
 else
 k_3 [nth x 0] w3))))) fun x_4 w9 =>
 ∃ g36:Array Value,YD 51 q1 w9 (.agg g36)/\YC F_inode_sized #[.agg g36] w9 fun r37 w10=>∃ b37:Bool,r37=.bool b37/\K (.bool b37) w10) fun x_3 w11 =>
 K (.bool false) w11)) [.bool false,.int .i64 0,undef] w2
theorem C_inode_Right (g0:Array Value) (w0:World) (K:YA) (h:D_inode_Right g0 w0 K):Cal Tryz.prog F_inode_Right #[.agg g0] w0 K :=
 denF_of (A:=⟨[2,8,16],[(2,4),(8,3),(16,4)],[]⟩) Tryz.func153 (by kernel_rfl) (by kernel_rfl) (by kernel_rfl) h
def D_inode_all (g0:Array Value) (w0:World) (K:YA):Prop :=
 ∃ q1:Addr,∃ w1:World,Ru (Instr.box 51 (.agg g0)) w0 (.pointer (some q1)) w1/\∃ q2:Addr,∃ w2:World,Ru (Instr.alloc 249 true (.tuple #[])) w1 (.pointer (some q2)) w2/\∃ q3:Addr,∃ w3:World,Ru (Instr.alloc 249 true (.tuple #[])) w2 (.pointer (some q3)) w3/\∃ (a4:YB) (l4 c4:Nat),Al (Instr.sliceAt 249 (.pointer (some q3)) none none none) (.slice a4 l4 c4)/\∃ (a6:YB) (l6 c6:Nat),Al (Instr.sliceAt 49 (.pointer (some (Addr.add q1 4))) none none none) (.slice a6 l6 c6)/\∃ n7:Int,∃ w4:World,Ru (Builtin.copy_ #[64,64] 3 #[.slice a4 l4 c4,.slice a6 l6 c6]) (drew w3) (.int .i64 n7) w4/\∃ n9:Int,YD 3 (Addr.add q1 10) w4 (.int .i64 n9)/\∃ n11:Int,YD 3 (Addr.add q1 11) w4 (.int .i64 n11)/\∃ q12:Addr,Al (Instr.indexAt 249 (.pointer (some q3)) (.int .i64 6)) (.pointer (some q12))/\∃ w5:World,YE 3 q12 (.int .i64 n9) w4 w5/\∃ q13:Addr,Al (Instr.indexAt 249 (.pointer (some q3)) (.int .i64 7)) (.pointer (some q13))/\∃ w6:World,YE 3 q13 (.int .i64 n11) w5 w6/\∃ g14:Array Value,YD 249 q3 w6 (.agg g14)/\∃ w7:World,YE 249 q2 (.agg g14) w6 w7/\∃ gR2:Array Value,YD 249 q2 w7 (.agg gR2)/\K (.agg gR2) w7
theorem C_inode_all (g0:Array Value) (w0:World) (K:YA) (h:D_inode_all g0 w0 K):Cal Tryz.prog F_inode_all #[.agg g0] w0 K :=
 denF_of (A:=⟨[],[],[]⟩) Tryz.func154 (by kernel_rfl) (by kernel_rfl) (by kernel_rfl) h
def D_slices_ContainsFunc_int64 (a0:YB) (l0 c0:Nat) (v1:Value) (w0:World) (K:YA):Prop :=
 YC F_slices_IndexFunc_int64 #[.slice a0 l0 c0,v1] w0 fun r7 w1=>∃ n7:Int,r7=.int .i64 n7/\K (.bool (decide (n7 >= 0))) w1
theorem C_slices_ContainsFunc_int64 (a0:YB) (l0 c0:Nat) (v1:Value) (w0:World) (K:YA) (h:D_slices_ContainsFunc_int64 a0 l0 c0 v1 w0 K):Cal Tryz.prog F_slices_ContainsFunc_int64 #[.slice a0 l0 c0,v1] w0 K :=
 denF_of (A:=⟨[],[],[]⟩) Tryz.func155 (by kernel_rfl) (by kernel_rfl) (by kernel_rfl) h
def D_patch_Store_Patch_1 (n0:Int) (v1:Value) (w0:World) (K:YA):Prop :=
 ∃ p4:YB,Ru (Instr.loadAt 159 v1) w0 (.pointer p4) w0/\YC F_patch_Store_given #[.pointer p4,.int .i64 n0] w0 fun r6 w1=>∃ b6:Bool,r6=.bool b6/\K (.bool (!b6)) w1
theorem C_patch_Store_Patch_1 (n0:Int) (v1:Value) (w0:World) (K:YA) (h:D_patch_Store_Patch_1 n0 v1 w0 K):Cal Tryz.prog F_patch_Store_Patch_1 #[.int .i64 n0,v1] w0 K :=
 denF_of (A:=⟨[],[],[]⟩) Tryz.func156 (by kernel_rfl) (by kernel_rfl) (by kernel_rfl) h
def D_patch_Store_given (p0:YB) (n1:Int) (w0:World) (K:YA):Prop :=
 Share (fun k=>(bif decide (n1 >= 1) then ∃ q10:Addr,(.pointer p0:Value)=.pointer (some q10)/\∃ n12:Int,YD 2 (Addr.add q10 2) w0 (.int .i64 n12)/\k [.bool (decide (n1<=n12))] w0 else k [.bool false] w0)) fun x w1 =>
 ∃ b4:Bool,nth x 0=.bool b4/\K (.bool b4) w1
theorem C_patch_Store_given (p0:YB) (n1:Int) (w0:World) (K:YA) (h:D_patch_Store_given p0 n1 w0 K):Cal Tryz.prog F_patch_Store_given #[.pointer p0,.int .i64 n1] w0 K :=
 denF_of (A:=⟨[4],[(4,4)],[]⟩) Tryz.func157 (by kernel_rfl) (by kernel_rfl) (by kernel_rfl) h
def D_cache_Cache_Read (p0:YB) (n1:Int) (w0:World) (K:YA):Prop :=
 YC F_cache_Cache_may #[.pointer p0,.int .i64 n1,.slice none 0 0,.slice none 0 0] w0 fun r11 w1=>∃ n11:Int,r11=.int .i64 n11/\(bif n11 != 0 then
 K (.tuple #[.slice none 0 0,.int .i64 n11]) w1
 else
 YC F_cache_Cache_ask #[.pointer p0,.int .i64 n1] w1 fun r18 w2=>∃ p18a:YB,∃ n18b:Int,r18=.tuple #[.pointer p18a,.int .i64 n18b]/\(bif n18b != 0 then
 K (.tuple #[.slice none 0 0,.int .i64 n18b]) w2
 else
 ∃ q25:Addr,(.pointer p18a:Value)=.pointer (some q25)/\∃ (a28:YB) (l28 c28:Nat),YD 55 (Addr.add (Addr.add q25 0) 0) w2 (.slice a28 l28 c28)/\YC F_slices_Clone_byte #[.slice a28 l28 c28] w2 fun r29 w3=>∃ (a29:YB) (l29 c29:Nat),r29=.slice a29 l29 c29/\K (.tuple #[.slice a29 l29 c29,.int .i64 0]) w3))
theorem C_cache_Cache_Read (p0:YB) (n1:Int) (w0:World) (K:YA) (h:D_cache_Cache_Read p0 n1 w0 K):Cal Tryz.prog F_cache_Cache_Read #[.pointer p0,.int .i64 n1] w0 K :=
 denF_of (A:=⟨[],[],[]⟩) Tryz.func158 (by kernel_rfl) (by kernel_rfl) (by kernel_rfl) h
def D_cache_Cache_Pin (p0:YB) (n1:Int) (w0:World) (K:YA):Prop :=
 YC F_cache_Cache_held #[.pointer p0,.int .i64 n1] w0 fun r10 w1=>∃ p10a:YB,∃ n10b:Int,r10=.tuple #[.pointer p10a,.int .i64 n10b]/\Share (fun k=>(bif n10b==0 then
 ∃ q16:Addr,(.pointer p10a:Value)=.pointer (some q16)/\∃ n18:Int,YD 3 (Addr.add q16 1) w1 (.int .i64 n18)/\∃ q20:Addr,(.pointer p10a:Value)=.pointer (some q20)/\∃ w2:World,YE 3 (Addr.add q20 1) (.int .i64 (IntKind.i64.wrap (n18+1))) w1 w2/\k [] w2
 else
 k [] w1)) fun x w3 =>
 K (.int .i64 n10b) w3
theorem C_cache_Cache_Pin (p0:YB) (n1:Int) (w0:World) (K:YA) (h:D_cache_Cache_Pin p0 n1 w0 K):Cal Tryz.prog F_cache_Cache_Pin #[.pointer p0,.int .i64 n1] w0 K :=
 denF_of (A:=⟨[],[],[]⟩) Tryz.func159 (by kernel_rfl) (by kernel_rfl) (by kernel_rfl) h
def D_num_Lay (a0:YB) (l0 c0:Nat) (n1:Int) (a2:YB) (l2 c2:Nat) (w0:World) (K:YA):Prop :=
 YC F_num_within #[.slice a0 l0 c0,.int .i64 n1,.int .i64 ((l2:Int))] w0 fun r13 w1=>∃ b13:Bool,r13=.bool b13/\(bif !b13 then
 K (.tuple #[.slice none 0 0,.int .i64 3]) w1
 else
 ∃ (a17:YB) (l17 c17:Nat),∃ w2:World,Ru (Instr.makeSlice 55 (.int .i64 ((l0:Int))) (.int .i64 ((l0:Int)))) w1 (.slice a17 l17 c17) w2/\∃ n20:Int,∃ w3:World,Ru (Builtin.copy_ #[55,55] 3 #[.slice a17 l17 c17,.slice a0 l0 c0]) w2 (.int .i64 n20) w3/\∃ (a23:YB) (l23 c23:Nat),Al (Instr.sliceAt 55 (.slice a17 l17 c17) (some (.int .i64 n1)) none none) (.slice a23 l23 c23)/\∃ n25:Int,∃ w4:World,Ru (Builtin.copy_ #[55,55] 3 #[.slice a23 l23 c23,.slice a2 l2 c2]) w3 (.int .i64 n25) w4/\K (.tuple #[.slice a17 l17 c17,.int .i64 0]) w4)
theorem C_num_Lay (a0:YB) (l0 c0:Nat) (n1:Int) (a2:YB) (l2 c2:Nat) (w0:World) (K:YA) (h:D_num_Lay a0 l0 c0 n1 a2 l2 c2 w0 K):Cal Tryz.prog F_num_Lay #[.slice a0 l0 c0,.int .i64 n1,.slice a2 l2 c2] w0 K :=
 denF_of (A:=⟨[],[],[]⟩) Tryz.func160 (by kernel_rfl) (by kernel_rfl) (by kernel_rfl) h
def D_cache_Cache_Lay (p0:YB) (n1:Int) (a2:YB) (l2 c2:Nat) (w0:World) (K:YA):Prop :=
 ∃ (a13:YB) (l13 c13:Nat),∃ w1:World,Ru (Instr.buildSlice 64 1 #[(0,.int .i64 256)]) w0 (.slice a13 l13 c13) w1/\YC F_cache_Cache_may #[.pointer p0,.int .i64 n1,.slice a2 l2 c2,.slice a13 l13 c13] w1 fun r14 w2=>∃ n14:Int,r14=.int .i64 n14/\(bif n14 != 0 then
 K (.int .i64 n14) w2
 else
 YC F_cache_Cache_ask #[.pointer p0,.int .i64 n1] w2 fun r21 w3=>∃ p21a:YB,∃ n21b:Int,r21=.tuple #[.pointer p21a,.int .i64 n21b]/\Share (fun k=>(bif n21b==0 then
 YC F_slices_Clone_byte #[.slice a2 l2 c2] w3 fun r28 w4=>∃ (a28:YB) (l28 c28:Nat),r28=.slice a28 l28 c28/\∃ q29:Addr,(.pointer p21a:Value)=.pointer (some q29)/\∃ w5:World,YE 55 (Addr.add (Addr.add q29 0) 0) (.slice a28 l28 c28) w4 w5/\k [] w5
 else
 k [] w3)) fun x w6 =>
 K (.int .i64 n21b) w6)
theorem C_cache_Cache_Lay (p0:YB) (n1:Int) (a2:YB) (l2 c2:Nat) (w0:World) (K:YA) (h:D_cache_Cache_Lay p0 n1 a2 l2 c2 w0 K):Cal Tryz.prog F_cache_Cache_Lay #[.pointer p0,.int .i64 n1,.slice a2 l2 c2] w0 K :=
 denF_of (A:=⟨[],[],[]⟩) Tryz.func161 (by kernel_rfl) (by kernel_rfl) (by kernel_rfl) h
def D_slices_Clone_byte (a0:YB) (l0 c0:Nat) (w0:World) (K:YA):Prop :=
 ∃ b4:Bool,Al (eqS .eql 55 (.tmp 3) (.const (.slice none 0 0)) (.slice a0 l0 c0) (.slice none 0 0)) (.bool b4)/\(bif b4 then
 K (.slice none 0 0) w0
 else
 ∃ (a5:YB) (l5 c5:Nat),∃ w1:World,Ru (Instr.buildSlice 55 0 #[]) w0 (.slice a5 l5 c5) w1/\∃ (a7:YB) (l7 c7:Nat),∃ w2:World,Ru (Builtin.append_ #[55,55] 55 #[.slice a5 l5 c5,.slice a0 l0 c0]) w1 (.slice a7 l7 c7) w2/\K (.slice a7 l7 c7) w2)
theorem C_slices_Clone_byte (a0:YB) (l0 c0:Nat) (w0:World) (K:YA) (h:D_slices_Clone_byte a0 l0 c0 w0 K):Cal Tryz.prog F_slices_Clone_byte #[.slice a0 l0 c0] w0 K :=
 denF_of (A:=⟨[],[],[]⟩) Tryz.func162 (by kernel_rfl) (by kernel_rfl) (by kernel_rfl) h
def D_slices_IndexFunc_int64 (a0:YB) (l0 c0:Nat) (v1:Value) (w0:World) (K:YA):Prop :=
 LoopC (fun k x w1 =>
 ∃ n8:Int,nth x 0=.int .i64 n8/\(bif decide (n8<(l0:Int)) then
 ∃ q14:Addr,Al (Instr.indexAt 65 (.slice a0 l0 c0) (.int .i64 n8)) (.pointer (some q14))/\∃ n15:Int,YD 2 q14 w1 (.int .i64 n15)/\Dyn Tryz.prog v1 #[.int .i64 n15] w1 fun r16 w2=>∃ b16:Bool,r16=.bool b16/\(bif b16 then
 K (.int .i64 n8) w2
 else
 k [.int .i64 (IntKind.i64.wrap (n8+1))] w2)
 else
 K (.int .i64 ((-1))) w1)) [.int .i64 0] w0
theorem C_slices_IndexFunc_int64 (a0:YB) (l0 c0:Nat) (v1:Value) (w0:World) (K:YA) (h:D_slices_IndexFunc_int64 a0 l0 c0 v1 w0 K):Cal Tryz.prog F_slices_IndexFunc_int64 #[.slice a0 l0 c0,v1] w0 K :=
 denF_of (A:=⟨[8],[(8,3)],[]⟩) Tryz.func163 (by kernel_rfl) (by kernel_rfl) (by kernel_rfl) h
def D_inode_may (a0:YB) (l0 c0:Nat) (n1:Int) (w0:World) (K:YA):Prop :=
 (bif (l0:Int) != 256 then
 K (.int .i64 4) w0
 else
 Share (fun k=>(bif decide (n1<0) then k [.bool true] w0 else k [.bool (decide (n1 >= 4))] w0)) fun x w1 =>
 ∃ b9:Bool,nth x 0=.bool b9/\(bif b9 then
 K (.int .i64 3) w1
 else
 K (.int .i64 0) w1))
theorem C_inode_may (a0:YB) (l0 c0:Nat) (n1:Int) (w0:World) (K:YA) (h:D_inode_may a0 l0 c0 n1 w0 K):Cal Tryz.prog F_inode_may #[.slice a0 l0 c0,.int .i64 n1] w0 K :=
 denF_of (A:=⟨[9],[(9,4)],[]⟩) Tryz.func164 (by kernel_rfl) (by kernel_rfl) (by kernel_rfl) h
def D_inode_Get (a0:YB) (l0 c0:Nat) (w0:World) (K:YA):Prop :=
 ∃ q2:Addr,∃ w1:World,Ru (Instr.alloc 51 true (.tuple #[])) w0 (.pointer (some q2)) w1/\(bif (l0:Int) != 64 then
 ∃ g10:Array Value,Al (Instr.build 51 #[]) (.agg g10)/\∃ w2:World,YE 51 q2 (.agg g10) w1 w2/\∃ gR2:Array Value,YD 51 q2 w2 (.agg gR2)/\K (.tuple #[.agg gR2,.int .i64 4]) w2
 else
 ∃ q12:Addr,Al (Instr.indexAt 55 (.slice a0 l0 c0) (.int .i64 0)) (.pointer (some q12))/\∃ n13:Int,YD 5 q12 (drew w1) (.int .u8 n13)/\∃ (a16:YB) (l16 c16:Nat),Al (Instr.sliceAt 55 (.slice a0 l0 c0) (some (.int .i64 2)) (some (.int .i64 4)) none) (.slice a16 l16 c16)/\∃ (a20:YB) (l20 c20:Nat),Al (Instr.sliceAt 55 (.slice a0 l0 c0) (some (.int .i64 4)) (some (.int .i64 8)) none) (.slice a20 l20 c20)/\∃ (a24:YB) (l24 c24:Nat),Al (Instr.sliceAt 55 (.slice a0 l0 c0) (some (.int .i64 8)) (some (.int .i64 16)) none) (.slice a24 l24 c24)/\(YC F_num_Get #[.slice a16 l16 c16] (drew w1) fun r17 w3=>∃ n17:Int,r17=.int .u64 n17/\YD 5 q12 w3 (.int .u8 n13)/\(YC F_num_Get #[.slice a20 l20 c20] w3 fun r21 w4=>∃ n21:Int,r21=.int .u64 n21/\YD 5 q12 w4 (.int .u8 n13)/\(YC F_num_Get #[.slice a24 l24 c24] w4 fun r25 w5=>∃ n25:Int,r25=.int .u64 n25/\YD 5 q12 w5 (.int .u8 n13)/\∃ g27:Array Value,Al (Instr.build 51 #[(0,.int .i64 (IntKind.i64.wrap n13)),(1,.int .i64 (IntKind.i64.wrap n17)),(2,.int .i64 (IntKind.i64.wrap n21)),(3,.int .i64 (IntKind.i64.wrap n25))]) (.agg g27)/\∃ q4:Addr,∃ w6:World,Ru (Instr.alloc 51 true (.tuple #[])) w5 (.pointer (some q4)) w6/\YD 5 q12 w6 (.int .u8 n13)/\∃ w7:World,YE 51 q4 (.agg g27) w6 w7/\∃ q5:Addr,∃ w8:World,Ru (Instr.alloc 249 true (.tuple #[])) w7 (.pointer (some q5)) w8/\LoopC (fun k x w9 =>
 ∃ n28:Int,nth x 0=.int .i64 n28/\(bif decide (n28<8) then
 ∃ (a40:YB) (l40 c40:Nat),Al (Instr.sliceAt 55 (.slice a0 l0 c0) (some (.int .i64 (IntKind.i64.wrap (16+(IntKind.i64.wrap (n28*2)))))) (some (.int .i64 (IntKind.i64.wrap (16+(IntKind.i64.wrap ((IntKind.i64.wrap (n28+1))*2)))))) none) (.slice a40 l40 c40)/\YC F_num_Get #[.slice a40 l40 c40] w9 fun r41 w10=>∃ n41:Int,r41=.int .u64 n41/\∃ q43:Addr,Al (Instr.indexAt 249 (.pointer (some q5)) (.int .i64 n28)) (.pointer (some q43))/\∃ w11:World,YE 3 q43 (.int .i64 (IntKind.i64.wrap n41)) w10 w11/\k [.int .i64 (IntKind.i64.wrap (n28+1))] w11
 else
 ∃ (a46:YB) (l46 c46:Nat),Al (Instr.sliceAt 49 (.pointer (some (Addr.add q4 4))) none none none) (.slice a46 l46 c46)/\∃ (a47:YB) (l47 c47:Nat),Al (Instr.sliceAt 249 (.pointer (some q5)) none none none) (.slice a47 l47 c47)/\∃ n48:Int,∃ w12:World,Ru (Builtin.copy_ #[64,64] 3 #[.slice a46 l46 c46,.slice a47 l47 c47]) (drew w9) (.int .i64 n48) w12/\∃ q49:Addr,Al (Instr.indexAt 249 (.pointer (some q5)) (.int .i64 6)) (.pointer (some q49))/\∃ n50:Int,YD 3 q49 w12 (.int .i64 n50)/\∃ q51:Addr,Al (Instr.indexAt 249 (.pointer (some q5)) (.int .i64 7)) (.pointer (some q51))/\∃ n52:Int,YD 3 q51 w12 (.int .i64 n52)/\∃ w13:World,YE 3 (Addr.add q4 10) (.int .i64 n50) w12 w13/\∃ w14:World,YE 3 (Addr.add q4 11) (.int .i64 n52) w13 w14/\Share (fun k_2=>∃ q56:Addr,Al (Instr.indexAt 55 (.slice a0 l0 c0) (.int .i64 1)) (.pointer (some q56))/\∃ n57:Int,YD 5 q56 w14 (.int .u8 n57)/\(bif n57 != 0 then k_2 [.bool true] w14 else ∃ (a61:YB) (l61 c61:Nat),Al (Instr.sliceAt 55 (.slice a0 l0 c0) (some (.int .i64 32)) none none) (.slice a61 l61 c61)/\YC F_num_Zero #[.slice a61 l61 c61] w14 fun r62 w15=>∃ b62:Bool,r62=.bool b62/\(bif !b62 then k_2 [.bool true] w15 else ∃ g66:Array Value,YD 51 q4 w15 (.agg g66)/\YC F_inode_Right #[.agg g66] w15 fun r67 w16=>∃ b67:Bool,r67=.bool b67/\k_2 [.bool (!b67)] w16))) fun x_2 w17 =>
 ∃ b69:Bool,nth x_2 0=.bool b69/\(bif b69 then
 ∃ g70:Array Value,Al (Instr.build 51 #[]) (.agg g70)/\∃ w18:World,YE 51 q2 (.agg g70) w17 w18/\∃ gR2_2:Array Value,YD 51 q2 w18 (.agg gR2_2)/\K (.tuple #[.agg gR2_2,.int .i64 8]) w18
 else
 ∃ g71:Array Value,YD 51 q4 w17 (.agg g71)/\∃ w19:World,YE 51 q2 (.agg g71) w17 w19/\∃ gR2_3:Array Value,YD 51 q2 w19 (.agg gR2_3)/\K (.tuple #[.agg gR2_3,.int .i64 0]) w19))) [.int .i64 0] w8)/\(∃ q4_2:Addr,∃ w20:World,Ru (Instr.alloc 51 true (.tuple #[])) w4 (.pointer (some q4_2)) w20/\YD 5 q12 w20 (.int .u8 n13)/\YC F_num_Get #[.slice a24 l24 c24] w20 fun r25_2 w21=>∃ n25_2:Int,r25_2=.int .u64 n25_2/\YD 5 q12 w21 (.int .u8 n13)/\∃ g27_2:Array Value,Al (Instr.build 51 #[(0,.int .i64 (IntKind.i64.wrap n13)),(1,.int .i64 (IntKind.i64.wrap n17)),(2,.int .i64 (IntKind.i64.wrap n21)),(3,.int .i64 (IntKind.i64.wrap n25_2))]) (.agg g27_2)/\∃ w22:World,YE 51 q4_2 (.agg g27_2) w21 w22/\∃ q5_2:Addr,∃ w23:World,Ru (Instr.alloc 249 true (.tuple #[])) w22 (.pointer (some q5_2)) w23/\LoopC (fun k_3 x_3 w24 =>
 ∃ n28_2:Int,nth x_3 0=.int .i64 n28_2/\(bif decide (n28_2<8) then
 ∃ (a40_2:YB) (l40_2 c40_2:Nat),Al (Instr.sliceAt 55 (.slice a0 l0 c0) (some (.int .i64 (IntKind.i64.wrap (16+(IntKind.i64.wrap (n28_2*2)))))) (some (.int .i64 (IntKind.i64.wrap (16+(IntKind.i64.wrap ((IntKind.i64.wrap (n28_2+1))*2)))))) none) (.slice a40_2 l40_2 c40_2)/\YC F_num_Get #[.slice a40_2 l40_2 c40_2] w24 fun r41_2 w25=>∃ n41_2:Int,r41_2=.int .u64 n41_2/\∃ q43_2:Addr,Al (Instr.indexAt 249 (.pointer (some q5_2)) (.int .i64 n28_2)) (.pointer (some q43_2))/\∃ w26:World,YE 3 q43_2 (.int .i64 (IntKind.i64.wrap n41_2)) w25 w26/\k_3 [.int .i64 (IntKind.i64.wrap (n28_2+1))] w26
 else
 ∃ (a46_2:YB) (l46_2 c46_2:Nat),Al (Instr.sliceAt 49 (.pointer (some (Addr.add q4_2 4))) none none none) (.slice a46_2 l46_2 c46_2)/\∃ (a47_2:YB) (l47_2 c47_2:Nat),Al (Instr.sliceAt 249 (.pointer (some q5_2)) none none none) (.slice a47_2 l47_2 c47_2)/\∃ n48_2:Int,∃ w27:World,Ru (Builtin.copy_ #[64,64] 3 #[.slice a46_2 l46_2 c46_2,.slice a47_2 l47_2 c47_2]) (drew w24) (.int .i64 n48_2) w27/\∃ q49_2:Addr,Al (Instr.indexAt 249 (.pointer (some q5_2)) (.int .i64 6)) (.pointer (some q49_2))/\∃ n50_2:Int,YD 3 q49_2 w27 (.int .i64 n50_2)/\∃ q51_2:Addr,Al (Instr.indexAt 249 (.pointer (some q5_2)) (.int .i64 7)) (.pointer (some q51_2))/\∃ n52_2:Int,YD 3 q51_2 w27 (.int .i64 n52_2)/\∃ w28:World,YE 3 (Addr.add q4_2 10) (.int .i64 n50_2) w27 w28/\∃ w29:World,YE 3 (Addr.add q4_2 11) (.int .i64 n52_2) w28 w29/\Share (fun k_4=>∃ q56_2:Addr,Al (Instr.indexAt 55 (.slice a0 l0 c0) (.int .i64 1)) (.pointer (some q56_2))/\∃ n57_2:Int,YD 5 q56_2 w29 (.int .u8 n57_2)/\(bif n57_2 != 0 then k_4 [.bool true] w29 else ∃ (a61_2:YB) (l61_2 c61_2:Nat),Al (Instr.sliceAt 55 (.slice a0 l0 c0) (some (.int .i64 32)) none none) (.slice a61_2 l61_2 c61_2)/\YC F_num_Zero #[.slice a61_2 l61_2 c61_2] w29 fun r62_2 w30=>∃ b62_2:Bool,r62_2=.bool b62_2/\(bif !b62_2 then k_4 [.bool true] w30 else ∃ g66_2:Array Value,YD 51 q4_2 w30 (.agg g66_2)/\YC F_inode_Right #[.agg g66_2] w30 fun r67_2 w31=>∃ b67_2:Bool,r67_2=.bool b67_2/\k_4 [.bool (!b67_2)] w31))) fun x_4 w32 =>
 ∃ b69_2:Bool,nth x_4 0=.bool b69_2/\(bif b69_2 then
 ∃ g70_2:Array Value,Al (Instr.build 51 #[]) (.agg g70_2)/\∃ w33:World,YE 51 q2 (.agg g70_2) w32 w33/\∃ gR2_4:Array Value,YD 51 q2 w33 (.agg gR2_4)/\K (.tuple #[.agg gR2_4,.int .i64 8]) w33
 else
 ∃ g71_2:Array Value,YD 51 q4_2 w32 (.agg g71_2)/\∃ w34:World,YE 51 q2 (.agg g71_2) w32 w34/\∃ gR2_5:Array Value,YD 51 q2 w34 (.agg gR2_5)/\K (.tuple #[.agg gR2_5,.int .i64 0]) w34))) [.int .i64 0] w23))/\(∃ q4_3:Addr,∃ w35:World,Ru (Instr.alloc 51 true (.tuple #[])) w3 (.pointer (some q4_3)) w35/\YD 5 q12 w35 (.int .u8 n13)/\YC F_num_Get #[.slice a20 l20 c20] w35 fun r21_2 w36=>∃ n21_2:Int,r21_2=.int .u64 n21_2/\YD 5 q12 w36 (.int .u8 n13)/\YC F_num_Get #[.slice a24 l24 c24] w36 fun r25_3 w37=>∃ n25_3:Int,r25_3=.int .u64 n25_3/\YD 5 q12 w37 (.int .u8 n13)/\∃ g27_3:Array Value,Al (Instr.build 51 #[(0,.int .i64 (IntKind.i64.wrap n13)),(1,.int .i64 (IntKind.i64.wrap n17)),(2,.int .i64 (IntKind.i64.wrap n21_2)),(3,.int .i64 (IntKind.i64.wrap n25_3))]) (.agg g27_3)/\∃ w38:World,YE 51 q4_3 (.agg g27_3) w37 w38/\∃ q5_3:Addr,∃ w39:World,Ru (Instr.alloc 249 true (.tuple #[])) w38 (.pointer (some q5_3)) w39/\LoopC (fun k_5 x_5 w40 =>
 ∃ n28_3:Int,nth x_5 0=.int .i64 n28_3/\(bif decide (n28_3<8) then
 ∃ (a40_3:YB) (l40_3 c40_3:Nat),Al (Instr.sliceAt 55 (.slice a0 l0 c0) (some (.int .i64 (IntKind.i64.wrap (16+(IntKind.i64.wrap (n28_3*2)))))) (some (.int .i64 (IntKind.i64.wrap (16+(IntKind.i64.wrap ((IntKind.i64.wrap (n28_3+1))*2)))))) none) (.slice a40_3 l40_3 c40_3)/\YC F_num_Get #[.slice a40_3 l40_3 c40_3] w40 fun r41_3 w41=>∃ n41_3:Int,r41_3=.int .u64 n41_3/\∃ q43_3:Addr,Al (Instr.indexAt 249 (.pointer (some q5_3)) (.int .i64 n28_3)) (.pointer (some q43_3))/\∃ w42:World,YE 3 q43_3 (.int .i64 (IntKind.i64.wrap n41_3)) w41 w42/\k_5 [.int .i64 (IntKind.i64.wrap (n28_3+1))] w42
 else
 ∃ (a46_3:YB) (l46_3 c46_3:Nat),Al (Instr.sliceAt 49 (.pointer (some (Addr.add q4_3 4))) none none none) (.slice a46_3 l46_3 c46_3)/\∃ (a47_3:YB) (l47_3 c47_3:Nat),Al (Instr.sliceAt 249 (.pointer (some q5_3)) none none none) (.slice a47_3 l47_3 c47_3)/\∃ n48_3:Int,∃ w43:World,Ru (Builtin.copy_ #[64,64] 3 #[.slice a46_3 l46_3 c46_3,.slice a47_3 l47_3 c47_3]) (drew w40) (.int .i64 n48_3) w43/\∃ q49_3:Addr,Al (Instr.indexAt 249 (.pointer (some q5_3)) (.int .i64 6)) (.pointer (some q49_3))/\∃ n50_3:Int,YD 3 q49_3 w43 (.int .i64 n50_3)/\∃ q51_3:Addr,Al (Instr.indexAt 249 (.pointer (some q5_3)) (.int .i64 7)) (.pointer (some q51_3))/\∃ n52_3:Int,YD 3 q51_3 w43 (.int .i64 n52_3)/\∃ w44:World,YE 3 (Addr.add q4_3 10) (.int .i64 n50_3) w43 w44/\∃ w45:World,YE 3 (Addr.add q4_3 11) (.int .i64 n52_3) w44 w45/\Share (fun k_6=>∃ q56_3:Addr,Al (Instr.indexAt 55 (.slice a0 l0 c0) (.int .i64 1)) (.pointer (some q56_3))/\∃ n57_3:Int,YD 5 q56_3 w45 (.int .u8 n57_3)/\(bif n57_3 != 0 then k_6 [.bool true] w45 else ∃ (a61_3:YB) (l61_3 c61_3:Nat),Al (Instr.sliceAt 55 (.slice a0 l0 c0) (some (.int .i64 32)) none none) (.slice a61_3 l61_3 c61_3)/\YC F_num_Zero #[.slice a61_3 l61_3 c61_3] w45 fun r62_3 w46=>∃ b62_3:Bool,r62_3=.bool b62_3/\(bif !b62_3 then k_6 [.bool true] w46 else ∃ g66_3:Array Value,YD 51 q4_3 w46 (.agg g66_3)/\YC F_inode_Right #[.agg g66_3] w46 fun r67_3 w47=>∃ b67_3:Bool,r67_3=.bool b67_3/\k_6 [.bool (!b67_3)] w47))) fun x_6 w48 =>
 ∃ b69_3:Bool,nth x_6 0=.bool b69_3/\(bif b69_3 then
 ∃ g70_3:Array Value,Al (Instr.build 51 #[]) (.agg g70_3)/\∃ w49:World,YE 51 q2 (.agg g70_3) w48 w49/\∃ gR2_6:Array Value,YD 51 q2 w49 (.agg gR2_6)/\K (.tuple #[.agg gR2_6,.int .i64 8]) w49
 else
 ∃ g71_3:Array Value,YD 51 q4_3 w48 (.agg g71_3)/\∃ w50:World,YE 51 q2 (.agg g71_3) w48 w50/\∃ gR2_7:Array Value,YD 51 q2 w50 (.agg gR2_7)/\K (.tuple #[.agg gR2_7,.int .i64 0]) w50))) [.int .i64 0] w39))/\(∃ q4_4:Addr,∃ w51:World,Ru (Instr.alloc 51 true (.tuple #[])) (drew w1) (.pointer (some q4_4)) w51/\YD 5 q12 w51 (.int .u8 n13)/\YC F_num_Get #[.slice a16 l16 c16] w51 fun r17_2 w52=>∃ n17_2:Int,r17_2=.int .u64 n17_2/\YD 5 q12 w52 (.int .u8 n13)/\YC F_num_Get #[.slice a20 l20 c20] w52 fun r21_3 w53=>∃ n21_3:Int,r21_3=.int .u64 n21_3/\YD 5 q12 w53 (.int .u8 n13)/\YC F_num_Get #[.slice a24 l24 c24] w53 fun r25_4 w54=>∃ n25_4:Int,r25_4=.int .u64 n25_4/\YD 5 q12 w54 (.int .u8 n13)/\∃ g27_4:Array Value,Al (Instr.build 51 #[(0,.int .i64 (IntKind.i64.wrap n13)),(1,.int .i64 (IntKind.i64.wrap n17_2)),(2,.int .i64 (IntKind.i64.wrap n21_3)),(3,.int .i64 (IntKind.i64.wrap n25_4))]) (.agg g27_4)/\∃ w55:World,YE 51 q4_4 (.agg g27_4) w54 w55/\∃ q5_4:Addr,∃ w56:World,Ru (Instr.alloc 249 true (.tuple #[])) w55 (.pointer (some q5_4)) w56/\LoopC (fun k_7 x_7 w57 =>
 ∃ n28_4:Int,nth x_7 0=.int .i64 n28_4/\(bif decide (n28_4<8) then
 ∃ (a40_4:YB) (l40_4 c40_4:Nat),Al (Instr.sliceAt 55 (.slice a0 l0 c0) (some (.int .i64 (IntKind.i64.wrap (16+(IntKind.i64.wrap (n28_4*2)))))) (some (.int .i64 (IntKind.i64.wrap (16+(IntKind.i64.wrap ((IntKind.i64.wrap (n28_4+1))*2)))))) none) (.slice a40_4 l40_4 c40_4)/\YC F_num_Get #[.slice a40_4 l40_4 c40_4] w57 fun r41_4 w58=>∃ n41_4:Int,r41_4=.int .u64 n41_4/\∃ q43_4:Addr,Al (Instr.indexAt 249 (.pointer (some q5_4)) (.int .i64 n28_4)) (.pointer (some q43_4))/\∃ w59:World,YE 3 q43_4 (.int .i64 (IntKind.i64.wrap n41_4)) w58 w59/\k_7 [.int .i64 (IntKind.i64.wrap (n28_4+1))] w59
 else
 ∃ (a46_4:YB) (l46_4 c46_4:Nat),Al (Instr.sliceAt 49 (.pointer (some (Addr.add q4_4 4))) none none none) (.slice a46_4 l46_4 c46_4)/\∃ (a47_4:YB) (l47_4 c47_4:Nat),Al (Instr.sliceAt 249 (.pointer (some q5_4)) none none none) (.slice a47_4 l47_4 c47_4)/\∃ n48_4:Int,∃ w60:World,Ru (Builtin.copy_ #[64,64] 3 #[.slice a46_4 l46_4 c46_4,.slice a47_4 l47_4 c47_4]) (drew w57) (.int .i64 n48_4) w60/\∃ q49_4:Addr,Al (Instr.indexAt 249 (.pointer (some q5_4)) (.int .i64 6)) (.pointer (some q49_4))/\∃ n50_4:Int,YD 3 q49_4 w60 (.int .i64 n50_4)/\∃ q51_4:Addr,Al (Instr.indexAt 249 (.pointer (some q5_4)) (.int .i64 7)) (.pointer (some q51_4))/\∃ n52_4:Int,YD 3 q51_4 w60 (.int .i64 n52_4)/\∃ w61:World,YE 3 (Addr.add q4_4 10) (.int .i64 n50_4) w60 w61/\∃ w62:World,YE 3 (Addr.add q4_4 11) (.int .i64 n52_4) w61 w62/\Share (fun k_8=>∃ q56_4:Addr,Al (Instr.indexAt 55 (.slice a0 l0 c0) (.int .i64 1)) (.pointer (some q56_4))/\∃ n57_4:Int,YD 5 q56_4 w62 (.int .u8 n57_4)/\(bif n57_4 != 0 then k_8 [.bool true] w62 else ∃ (a61_4:YB) (l61_4 c61_4:Nat),Al (Instr.sliceAt 55 (.slice a0 l0 c0) (some (.int .i64 32)) none none) (.slice a61_4 l61_4 c61_4)/\YC F_num_Zero #[.slice a61_4 l61_4 c61_4] w62 fun r62_4 w63=>∃ b62_4:Bool,r62_4=.bool b62_4/\(bif !b62_4 then k_8 [.bool true] w63 else ∃ g66_4:Array Value,YD 51 q4_4 w63 (.agg g66_4)/\YC F_inode_Right #[.agg g66_4] w63 fun r67_4 w64=>∃ b67_4:Bool,r67_4=.bool b67_4/\k_8 [.bool (!b67_4)] w64))) fun x_8 w65 =>
 ∃ b69_4:Bool,nth x_8 0=.bool b69_4/\(bif b69_4 then
 ∃ g70_4:Array Value,Al (Instr.build 51 #[]) (.agg g70_4)/\∃ w66:World,YE 51 q2 (.agg g70_4) w65 w66/\∃ gR2_8:Array Value,YD 51 q2 w66 (.agg gR2_8)/\K (.tuple #[.agg gR2_8,.int .i64 8]) w66
 else
 ∃ g71_4:Array Value,YD 51 q4_4 w65 (.agg g71_4)/\∃ w67:World,YE 51 q2 (.agg g71_4) w65 w67/\∃ gR2_9:Array Value,YD 51 q2 w67 (.agg gR2_9)/\K (.tuple #[.agg gR2_9,.int .i64 0]) w67))) [.int .i64 0] w56))
theorem C_inode_Get (a0:YB) (l0 c0:Nat) (w0:World) (K:YA) (h:D_inode_Get a0 l0 c0 w0 K):Cal Tryz.prog F_inode_Get #[.slice a0 l0 c0] w0 K :=
 denF_of (A:=⟨[28,69],[(28,3),(69,4)],[]⟩) Tryz.func165 (by kernel_rfl) (by kernel_rfl) (by kernel_rfl) h
def D_geo_Kind (g0:Array Value) (n1:Int) (w0:World) (K:YA):Prop :=
 ∃ q2:Addr,∃ w1:World,Ru (Instr.box 39 (.agg g0)) w0 (.pointer (some q2)) w1/\Share (fun k=>(bif decide (n1<0) then k [.bool true] w1 else ∃ g13:Array Value,YD 39 q2 w1 (.agg g13)/\YC F_geo_Size #[.agg g13] w1 fun r14 w2=>∃ n14:Int,r14=.int .i64 n14/\k [.bool (decide (n1 >= n14))] w2)) fun x w3 =>
 ∃ b8:Bool,nth x 0=.bool b8/\(bif b8 then
 K (.tuple #[.int .i64 0,.int .i64 ((-1))]) w3
 else
 (bif decide (n1<2) then
 K (.tuple #[.int .i64 1,.int .i64 ((-1))]) w3
 else
 ∃ n23:Int,YD 3 (Addr.add q2 0) (drew w3) (.int .i64 n23)/\∃ n24:Int,Al (eqS .quo 3 (.tmp 21) (.tmp 23) (.int .i64 (IntKind.i64.wrap (n1-2))) (.int .i64 n23)) (.int .i64 n24)/\∃ n28:Int,YD 3 (Addr.add q2 0) (drew w3) (.int .i64 n28)/\∃ n29:Int,Al (eqS .rem 3 (.tmp 26) (.tmp 28) (.int .i64 (IntKind.i64.wrap (n1-2))) (.int .i64 n28)) (.int .i64 n29)/\(bif n29==0 then
 K (.tuple #[.int .i64 2,.int .i64 n24]) (drew w3)
 else
 ∃ g36:Array Value,YD 39 q2 (drew w3) (.agg g36)/\YC F_geo_Tables #[.agg g36] (drew w3) fun r37 w4=>∃ n37:Int,r37=.int .i64 n37/\(bif decide (n29<=n37) then
 K (.tuple #[.int .i64 3,.int .i64 n24]) w4
 else
 K (.tuple #[.int .i64 4,.int .i64 n24]) w4))))
theorem C_geo_Kind (g0:Array Value) (n1:Int) (w0:World) (K:YA) (h:D_geo_Kind g0 n1 w0 K):Cal Tryz.prog F_geo_Kind #[.agg g0,.int .i64 n1] w0 K :=
 denF_of (A:=⟨[8],[(8,4)],[]⟩) Tryz.func167 (by kernel_rfl) (by kernel_rfl) (by kernel_rfl) h
def D_alloc_Alloc_take (p0:YB) (g1:Array Value) (b2:Bool) (g3:Array Value) (w0:World) (K:YA):Prop :=
 ∃ q4:Addr,∃ w1:World,Ru (Instr.box 73 (.pointer p0)) w0 (.pointer (some q4)) w1/\∃ q5:Addr,∃ w2:World,Ru (Instr.box 195 (.agg g1)) w1 (.pointer (some q5)) w2/\∃ q7:Addr,∃ w3:World,Ru (Instr.box 271 (.agg g3)) w2 (.pointer (some q7)) w3/\∃ q8:Addr,∃ w4:World,Ru (Instr.alloc 195 true (.tuple #[])) w3 (.pointer (some q8)) w4/\∃ q9:Addr,∃ w5:World,Ru (Instr.alloc 2 true (.tuple #[])) w4 (.pointer (some q9)) w5/\∃ q10:Addr,∃ w6:World,Ru (Instr.alloc 24 true (.tuple #[])) w5 (.pointer (some q10)) w6/\∃ p18:YB,YD 73 q4 w6 (.pointer p18)/\∃ g19:Array Value,YD 195 q5 w6 (.agg g19)/\YC F_alloc_Alloc_ring #[.pointer p18,.agg g19,.bool b2] w6 fun r21 w7=>∃ v21:Value,r21=v21/\RangeV Tryz.prog v21 2 w7 (fun x bgn fin w8 =>
 ∃ n22:Int,nth x 0=.int .i64 n22/\∃ n23:Int,nth x 1=.int .i64 n23/\bgn (fun w9 =>
 ∃ p25:YB,YD 73 q4 w9 (.pointer p25)/\∃ q26:Addr,(.pointer p25:Value)=.pointer (some q26)/\∃ p28:YB,YD 41 (Addr.add q26 0) w9 (.pointer p28)/\YC F_vol_Vol_Head #[.pointer p28,.int .i64 n22] w9 fun r30 w10=>∃ g30a:Array Value,∃ n30b:Int,r30=.tuple #[.agg g30a,.int .i64 n30b]/\∃ q13:Addr,∃ w11:World,Ru (Instr.alloc 171 true (.tuple #[])) w10 (.pointer (some q13)) w11/\∃ w12:World,YE 171 q13 (.agg g30a) w11 w12/\(bif n30b != 0 then
 ∃ g35:Array Value,Al (Instr.build 195 #[]) (.agg g35)/\∃ w13:World,YE 195 q8 (.agg g35) w12 w13/\∃ w14:World,YE 2 q9 (.int .i64 0) w13 w14/\∃ w15:World,YE 24 q10 (.int .i64 n30b) w14 w15/\fin (some Code.ret) w15
 else
 ∃ v38:Value,YD 268 (Addr.add q7 0) (drew w12) v38/\∃ p39:YB,YD 73 q4 (drew w12) (.pointer p39)/\∃ q40:Addr,(.pointer p39:Value)=.pointer (some q40)/\∃ p42:YB,YD 41 (Addr.add q40 0) (drew w12) (.pointer p42)/\∃ g44:Array Value,YD 171 q13 (drew w12) (.agg g44)/\YC F_vol_Vol_Geo #[.pointer p42] (drew w12) fun r43 w16=>∃ g43:Array Value,r43=.agg g43/\YD 268 (Addr.add q7 0) w16 v38/\YD 171 q13 w16 (.agg g44)/\Dyn Tryz.prog v38 #[.agg g43,.agg g44,.int .i64 n23] w16 fun r46 w17=>∃ n46:Int,r46=.int .i64 n46/\(bif decide (n46 >= 0) then
 ∃ p50:YB,YD 73 q4 w17 (.pointer p50)/\∃ g53:Array Value,Al (Instr.build 195 #[(0,.int .i64 n22),(1,.int .i64 n46)]) (.agg g53)/\∃ g54:Array Value,YD 271 q7 w17 (.agg g54)/\YC F_alloc_Alloc_turn #[.pointer p50,.agg g53,.agg g54,.bool true] w17 fun r55 w18=>∃ n55a:Int,∃ n55b:Int,r55=.tuple #[.int .i64 n55a,.int .i64 n55b]/\∃ g60:Array Value,Al (Instr.build 195 #[(0,.int .i64 n22),(1,.int .i64 n46)]) (.agg g60)/\∃ w19:World,YE 195 q8 (.agg g60) w18 w19/\∃ w20:World,YE 2 q9 (.int .i64 n55a) w19 w20/\∃ w21:World,YE 24 q10 (.int .i64 n55b) w20 w21/\fin (some Code.ret) w21
 else
 fin none w17))) w8)
 (aftR (fun w22 =>
 ∃ g63:Array Value,Al (Instr.build 195 #[]) (.agg g63)/\∃ w23:World,YE 195 q8 (.agg g63) w22 w23/\∃ w24:World,YE 2 q9 (.int .i64 0) w23 w24/\∃ w25:World,YE 24 q10 (.int .i64 26) w24 w25/\(World.heap w25)[(World.heap w7).size]?=some (.deferred (some []))/\∃ gR8:Array Value,YD 195 q8 (World.putObj w25 ((World.heap w7).size) (.deferred none)) (.agg gR8)/\∃ nR9:Int,YD 2 q9 (World.putObj w25 ((World.heap w7).size) (.deferred none)) (.int .i64 nR9)/\∃ nR10:Int,YD 24 q10 (World.putObj w25 ((World.heap w7).size) (.deferred none)) (.int .i64 nR10)/\K (.tuple #[.agg gR8,.int .i64 nR9,.int .i64 nR10]) (World.putObj w25 ((World.heap w7).size) (.deferred none)))
 (fun i w26 =>
 (bif Nat.beq i 0 then
 ∃ g63_2:Array Value,Al (Instr.build 195 #[]) (.agg g63_2)/\∃ w27:World,YE 195 q8 (.agg g63_2) w26 w27/\∃ w28:World,YE 2 q9 (.int .i64 0) w27 w28/\∃ w29:World,YE 24 q10 (.int .i64 26) w28 w29/\(World.heap w29)[(World.heap w7).size]?=some (.deferred (some []))/\∃ gR8_2:Array Value,YD 195 q8 (World.putObj w29 ((World.heap w7).size) (.deferred none)) (.agg gR8_2)/\∃ nR9_2:Int,YD 2 q9 (World.putObj w29 ((World.heap w7).size) (.deferred none)) (.int .i64 nR9_2)/\∃ nR10_2:Int,YD 24 q10 (World.putObj w29 ((World.heap w7).size) (.deferred none)) (.int .i64 nR10_2)/\K (.tuple #[.agg gR8_2,.int .i64 nR9_2,.int .i64 nR10_2]) (World.putObj w29 ((World.heap w7).size) (.deferred none))
 else
 False))
 (fun w30 =>
 (World.heap w30)[(World.heap w7).size]?=some (.deferred (some []))/\∃ gR8_3:Array Value,YD 195 q8 (World.putObj w30 ((World.heap w7).size) (.deferred none)) (.agg gR8_3)/\∃ nR9_3:Int,YD 2 q9 (World.putObj w30 ((World.heap w7).size) (.deferred none)) (.int .i64 nR9_3)/\∃ nR10_3:Int,YD 24 q10 (World.putObj w30 ((World.heap w7).size) (.deferred none)) (.int .i64 nR10_3)/\K (.tuple #[.agg gR8_3,.int .i64 nR9_3,.int .i64 nR10_3]) (World.putObj w30 ((World.heap w7).size) (.deferred none))))
theorem C_alloc_Alloc_take (p0:YB) (g1:Array Value) (b2:Bool) (g3:Array Value) (w0:World) (K:YA) (h:D_alloc_Alloc_take p0 g1 b2 g3 w0 K):Cal Tryz.prog F_alloc_Alloc_take #[.pointer p0,.agg g1,.bool b2,.agg g3] w0 K :=
 denFR_sound (A:={ S:=[],ty:=[(22,3),(23,3)],raw:=[] }) mixed Tryz.func168 (by kernel_rfl) (by kernel_rfl) ((show denFR Tryz.prog _ Tryz.f168 _ w0 K=D_alloc_Alloc_take p0 g1 b2 g3 w0 K by kernel_rfl).mpr h)
def D_alloc_slots (w0:World) (K:YA):Prop :=
 ∃ q0:Addr,∃ w1:World,Ru (Instr.alloc 271 true (.tuple #[])) w0 (.pointer (some q0)) w1/\∃ g1:Array Value,Al (Instr.build 271 #[(0,.func (.func F_group_FindSlot) #[] #[]),(1,.func (.func F_group_UseSlot) #[] #[])]) (.agg g1)/\∃ w2:World,YE 271 q0 (.agg g1) w1 w2/\∃ gR0:Array Value,YD 271 q0 w2 (.agg gR0)/\K (.agg gR0) w2
theorem C_alloc_slots (w0:World) (K:YA) (h:D_alloc_slots  w0 K):Cal Tryz.prog F_alloc_slots #[] w0 K :=
 denF_of (A:=⟨[],[],[]⟩) Tryz.func169 (by kernel_rfl) (by kernel_rfl) (by kernel_rfl) h
def D_alloc_Alloc_ring_1 (v0:Value) (v1:Value) (q2:Addr) (v3:Value) (w0:World) (K:YA):Prop :=
 ∃ p9:YB,Ru (Instr.loadAt 73 v1) w0 (.pointer p9) w0/\∃ q10:Addr,(.pointer p9:Value)=.pointer (some q10)/\∃ p12:YB,YD 41 (Addr.add q10 0) w0 (.pointer p12)/\YC F_vol_Vol_Geo #[.pointer p12] w0 fun r13 w1=>∃ g13:Array Value,r13=.agg g13/\∃ n14:Int,Al (Instr.field 39 (.agg g13) 2) (.int .i64 n14)/\LoopC (fun k x w2 =>
 ∃ n16:Int,nth x 1=.int .i64 n16/\(bif decide (n16<n14) then
 ∃ n20:Int,YD 3 (Addr.add q2 0) w2 (.int .i64 n20)/\∃ n24:Int,Al (eqS .rem 3 (.tmp 22) (.tmp 23) (.int .i64 (IntKind.i64.wrap (n20+n16))) (.int .i64 n14)) (.int .i64 n24)/\Share (fun k_2=>(bif n16==0 then ∃ b28:Bool,Ru (Instr.loadAt 4 v3) w2 (.bool b28) w2/\k_2 [.bool b28] w2 else k_2 [.bool false] w2)) fun x_2 w3 =>
 ∃ b29:Bool,nth x_2 0=.bool b29/\Share (fun k_3=>(bif b29 then
 ∃ n31:Int,YD 3 (Addr.add q2 1) w3 (.int .i64 n31)/\k_3 [.int .i64 (IntKind.i64.wrap (n31+1))] w3
 else
 k_3 [.int .i64 0] w3)) fun x_3 w4 =>
 Share (fun k_4=>∃ p33:YB,Ru (Instr.loadAt 73 v1) w4 (.pointer p33) w4/\∃ q34:Addr,(.pointer p33:Value)=.pointer (some q34)/\∃ m36:Option Nat,YD 174 (Addr.add q34 1) w4 (.map m36)/\∃ b38:Bool,Ru (Instr.lookup 174 (.map m36) (.int .i64 n24) false) w4 (.bool b38) w4/\(bif !b38 then ∃ n8:Int,nth x_3 0=.int .i64 n8/\Dyn Tryz.prog v0 #[.int .i64 n24,.int .i64 n8] w4 fun r44 w5=>∃ b44:Bool,r44=.bool b44/\k_4 [.bool (!b44)] w5 else k_4 [.bool false] w4)) fun x_4 w6 =>
 ∃ b46:Bool,nth x_4 0=.bool b46/\(bif b46 then
 K (.tuple #[]) w6
 else
 k [nth x_3 0,.int .i64 (IntKind.i64.wrap (n16+1)),.bool b29,.bool b46] w6)
 else
 K (.tuple #[]) w2)) [undef,.int .i64 0,undef,undef] w1
theorem C_alloc_Alloc_ring_1 (v0:Value) (v1:Value) (q2:Addr) (v3:Value) (w0:World) (K:YA) (h:D_alloc_Alloc_ring_1 v0 v1 q2 v3 w0 K):Cal Tryz.prog F_alloc_Alloc_ring_1 #[v0,v1,.pointer (some q2),v3] w0 K :=
 denF_of (A:=⟨[8,16,29,46],[(8,3),(16,3),(29,4),(46,4)],[]⟩) Tryz.func170 (by kernel_rfl) (by kernel_rfl) (by kernel_rfl) h
def D_group_Right (g0:Array Value) (g1:Array Value) (w0:World) (K:YA):Prop :=
 ∃ q2:Addr,∃ w1:World,Ru (Instr.box 39 (.agg g0)) w0 (.pointer (some q2)) w1/\∃ q3:Addr,∃ w2:World,Ru (Instr.box 171 (.agg g1)) w1 (.pointer (some q3)) w2/\∃ g14:Array Value,YD 39 q2 w2 (.agg g14)/\∃ n16:Int,YD 3 (Addr.add q3 0) w2 (.int .i64 n16)/\YC F_group_Fresh #[.agg g14,.int .i64 n16] w2 fun r17 w3=>∃ g17a:Array Value,∃ n17b:Int,r17=.tuple #[.agg g17a,.int .i64 n17b]/\∃ q5:Addr,∃ w4:World,Ru (Instr.alloc 171 true (.tuple #[])) w3 (.pointer (some q5)) w4/\∃ w5:World,YE 171 q5 (.agg g17a) w4 w5/\(bif n17b != 0 then
 K (.bool false) w5
 else
 ∃ n23:Int,YD 3 (Addr.add q3 0) w5 (.int .i64 n23)/\∃ g24:Array Value,Al (Instr.build 171 #[(0,.int .i64 n23)]) (.agg g24)/\∃ q7:Addr,∃ w6:World,Ru (Instr.alloc 171 true (.tuple #[])) w5 (.pointer (some q7)) w6/\∃ w7:World,YE 171 q7 (.agg g24) w6 w7/\∃ g26:Array Value,YD 168 (Addr.add q3 1) w7 (.agg g26)/\LoopC (fun k x w8 =>
 ∃ n27:Int,nth x 0=.int .i64 n27/\(bif decide (n27<16) then
 ∃ n30:Int,Al (Instr.index 168 (.agg g26) (.int .i64 n27)) (.int .u8 n30)/\∃ q35:Addr,Al (Instr.indexAt 168 (.pointer (some (Addr.add q5 1))) (.int .i64 n27)) (.pointer (some q35))/\∃ n36:Int,YD 5 q35 w8 (.int .u8 n36)/\∃ q39:Addr,Al (Instr.indexAt 168 (.pointer (some (Addr.add q7 1))) (.int .i64 n27)) (.pointer (some q39))/\∃ w9:World,YE 5 q39 (.int .u8 (IntKind.u8.wrap (bvOr 8 n30 n36))) w8 w9/\k [.int .i64 (IntKind.i64.wrap (n27+1))] w9
 else
 ∃ g42:Array Value,YD 169 (Addr.add q3 17) w8 (.agg g42)/\LoopC (fun k_2 x_2 w10 =>
 ∃ n43:Int,nth x_2 0=.int .i64 n43/\(bif decide (n43<8) then
 ∃ n46:Int,Al (Instr.index 169 (.agg g42) (.int .i64 n43)) (.int .u8 n46)/\∃ q51:Addr,Al (Instr.indexAt 169 (.pointer (some (Addr.add q5 17))) (.int .i64 n43)) (.pointer (some q51))/\∃ n52:Int,YD 5 q51 w10 (.int .u8 n52)/\∃ q55:Addr,Al (Instr.indexAt 169 (.pointer (some (Addr.add q7 17))) (.int .i64 n43)) (.pointer (some q55))/\∃ w11:World,YE 5 q55 (.int .u8 (IntKind.u8.wrap (bvOr 8 n46 n52))) w10 w11/\k_2 [.int .i64 (IntKind.i64.wrap (n43+1))] w11
 else
 Share (fun k_3=>∃ (a58:YB) (l58 c58:Nat),Al (Instr.sliceAt 168 (.pointer (some (Addr.add q3 1))) none none none) (.slice a58 l58 c58)/\∃ n60:Int,YD 3 (Addr.add q2 0) (drew w10) (.int .i64 n60)/\∃ (a63:YB) (l63 c63:Nat),Al (Instr.sliceAt 168 (.pointer (some (Addr.add q3 1))) none none none) (.slice a63 l63 c63)/\YC F_bits_Count #[.slice a58 l58 c58,.int .i64 n60] (drew w10) fun r61 w12=>∃ n61:Int,r61=.int .i64 n61/\YC F_bits_Count #[.slice a63 l63 c63,.int .i64 128] w12 fun r64 w13=>∃ n64:Int,r64=.int .i64 n64/\(bif n61==n64 then ∃ (a68:YB) (l68 c68:Nat),Al (Instr.sliceAt 169 (.pointer (some (Addr.add q3 17))) none none none) (.slice a68 l68 c68)/\∃ n70:Int,YD 3 (Addr.add q2 1) w13 (.int .i64 n70)/\∃ (a73:YB) (l73 c73:Nat),Al (Instr.sliceAt 169 (.pointer (some (Addr.add q3 17))) none none none) (.slice a73 l73 c73)/\YC F_bits_Count #[.slice a68 l68 c68,.int .i64 n70] w13 fun r71 w14=>∃ n71:Int,r71=.int .i64 n71/\YC F_bits_Count #[.slice a73 l73 c73,.int .i64 64] w14 fun r74 w15=>∃ n74:Int,r74=.int .i64 n74/\k_3 [.bool (n71==n74)] w15 else k_3 [.bool false] w13)) fun x_3 w16 =>
 Share (fun k_4=>∃ g78:Array Value,YD 168 (Addr.add q7 1) w16 (.agg g78)/\∃ g80:Array Value,YD 168 (Addr.add q3 1) w16 (.agg g80)/\∃ b81:Bool,Al (eqS .eql 168 (.tmp 78) (.tmp 80) (.agg g78) (.agg g80)) (.bool b81)/\(bif b81 then ∃ g84:Array Value,YD 169 (Addr.add q7 17) w16 (.agg g84)/\∃ g86:Array Value,YD 169 (Addr.add q3 17) w16 (.agg g86)/\∃ b87:Bool,Al (eqS .eql 169 (.tmp 84) (.tmp 86) (.agg g84) (.agg g86)) (.bool b87)/\(bif b87 then ∃ b12:Bool,nth x_3 0=.bool b12/\k_4 [.bool b12] w16 else k_4 [.bool false] w16) else k_4 [.bool false] w16)) fun x_4 w17 =>
 ∃ b4:Bool,nth x_4 0=.bool b4/\K (.bool b4) w17)) [.int .i64 0] w8)) [.int .i64 0] w7)
theorem C_group_Right (g0:Array Value) (g1:Array Value) (w0:World) (K:YA) (h:D_group_Right g0 g1 w0 K):Cal Tryz.prog F_group_Right #[.agg g0,.agg g1] w0 K :=
 denF_of (A:=⟨[4,12,27,43],[(4,4),(12,4),(27,3),(43,3)],[]⟩) Tryz.func171 (by kernel_rfl) (by kernel_rfl) (by kernel_rfl) h
def D_bits_Count (a0:YB) (l0 c0:Nat) (n1:Int) (w0:World) (K:YA):Prop :=
 YC F_bits_most #[.slice a0 l0 c0,.int .i64 n1] w0 fun r9 w1=>∃ n9:Int,r9=.int .i64 n9/\LoopC (fun k x w2 =>
 ∃ n10:Int,nth x 1=.int .i64 n10/\(bif decide (n10<n9) then
 YC F_bits_Get #[.slice a0 l0 c0,.int .i64 n10] w2 fun r15 w3=>∃ b15:Bool,r15=.bool b15/\Share (fun k_2=>(bif b15 then
 ∃ n5:Int,nth x 0=.int .i64 n5/\k_2 [.int .i64 (IntKind.i64.wrap (n5+1))] w3
 else
 k_2 [nth x 0] w3)) fun x_2 w4 =>
 k [nth x_2 0,.int .i64 (IntKind.i64.wrap (n10+1))] w4
 else
 ∃ n5_2:Int,nth x 0=.int .i64 n5_2/\K (.int .i64 n5_2) w2)) [.int .i64 0,.int .i64 0] w1
theorem C_bits_Count (a0:YB) (l0 c0:Nat) (n1:Int) (w0:World) (K:YA) (h:D_bits_Count a0 l0 c0 n1 w0 K):Cal Tryz.prog F_bits_Count #[.slice a0 l0 c0,.int .i64 n1] w0 K :=
 denF_of (A:=⟨[5,10],[(5,3),(10,3)],[]⟩) Tryz.func172 (by kernel_rfl) (by kernel_rfl) (by kernel_rfl) h
def D_alloc_Alloc_Block (p0:YB) (n1:Int) (w0:World) (K:YA):Prop :=
 (bif Option.isNone p0 then
 K (.tuple #[.int .i64 0,.int .i64 0,.int .i64 2]) w0
 else
 YC F_alloc_Alloc_block #[.pointer p0,.int .i64 n1] w0 fun r18 w1=>∃ g18a:Array Value,∃ b18b:Bool,r18=.tuple #[.agg g18a,.bool b18b]/\∃ q7:Addr,∃ w2:World,Ru (Instr.alloc 195 true (.tuple #[])) w1 (.pointer (some q7)) w2/\∃ w3:World,YE 195 q7 (.agg g18a) w2 w3/\∃ g23:Array Value,YD 195 q7 (drew w3) (.agg g23)/\YC F_alloc_blocks #[] (drew w3) fun r25 w4=>∃ g25:Array Value,r25=.agg g25/\YD 195 q7 w4 (.agg g23)/\YC F_alloc_Alloc_take #[.pointer p0,.agg g23,.bool b18b,.agg g25] w4 fun r26 w5=>∃ g26a:Array Value,∃ n26b:Int,∃ n26c:Int,r26=.tuple #[.agg g26a,.int .i64 n26b,.int .i64 n26c]/\∃ w6:World,YE 195 q7 (.agg g26a) w5 w6/\(bif n26c != 0 then
 K (.tuple #[.int .i64 0,.int .i64 0,.int .i64 n26c]) w6
 else
 ∃ q35:Addr,(.pointer p0:Value)=.pointer (some q35)/\∃ p37:YB,YD 41 (Addr.add q35 0) (drew w6) (.pointer p37)/\∃ n40:Int,YD 3 (Addr.add q7 0) (drew w6) (.int .i64 n40)/\YC F_vol_Vol_Geo #[.pointer p37] (drew w6) fun r38 w7=>∃ g38:Array Value,r38=.agg g38/\YD 3 (Addr.add q7 0) w7 (.int .i64 n40)/\YC F_geo_Head #[.agg g38,.int .i64 n40] w7 fun r41 w8=>∃ n41a:Int,∃ n41b:Int,r41=.tuple #[.int .i64 n41a,.int .i64 n41b]/\∃ n46:Int,YD 3 (Addr.add q7 1) w8 (.int .i64 n46)/\K (.tuple #[.int .i64 (IntKind.i64.wrap (n41a+n46)),.int .i64 n26b,.int .i64 0]) w8))
theorem C_alloc_Alloc_Block (p0:YB) (n1:Int) (w0:World) (K:YA) (h:D_alloc_Alloc_Block p0 n1 w0 K):Cal Tryz.prog F_alloc_Alloc_Block #[.pointer p0,.int .i64 n1] w0 K :=
 denF_of (A:=⟨[],[],[]⟩) Tryz.func173 (by kernel_rfl) (by kernel_rfl) (by kernel_rfl) h
def D_geo_Of (g0:Array Value) (n1:Int) (w0:World) (K:YA):Prop :=
 ∃ q2:Addr,∃ w1:World,Ru (Instr.box 39 (.agg g0)) w0 (.pointer (some q2)) w1/\Share (fun k=>(bif decide (n1<0) then k [.bool true] w1 else ∃ g9:Array Value,YD 39 q2 w1 (.agg g9)/\YC F_geo_Slots #[.agg g9] w1 fun r10 w2=>∃ n10:Int,r10=.int .i64 n10/\k [.bool (decide (n1 >= n10))] w2)) fun x w3 =>
 ∃ b12:Bool,nth x 0=.bool b12/\(bif b12 then
 K (.int .i64 ((-1))) w3
 else
 ∃ n15:Int,YD 3 (Addr.add q2 1) w3 (.int .i64 n15)/\∃ n16:Int,Al (eqS .quo 3 (.tmp 13) (.tmp 15) (.int .i64 n1) (.int .i64 n15)) (.int .i64 n16)/\K (.int .i64 n16) w3)
theorem C_geo_Of (g0:Array Value) (n1:Int) (w0:World) (K:YA) (h:D_geo_Of g0 n1 w0 K):Cal Tryz.prog F_geo_Of #[.agg g0,.int .i64 n1] w0 K :=
 denF_of (A:=⟨[12],[(12,4)],[]⟩) Tryz.func190 (by kernel_rfl) (by kernel_rfl) (by kernel_rfl) h
def D_bits_there (a0:YB) (l0 c0:Nat) (n1:Int) (w0:World) (K:YA):Prop :=
 Share (fun k=>(bif decide (n1 >= 0) then k [.bool (decide (n1<(IntKind.i64.wrap (8*(l0:Int)))))] w0 else k [.bool false] w0)) fun x w1 =>
 ∃ b4:Bool,nth x 0=.bool b4/\K (.bool b4) w1
theorem C_bits_there (a0:YB) (l0 c0:Nat) (n1:Int) (w0:World) (K:YA) (h:D_bits_there a0 l0 c0 n1 w0 K):Cal Tryz.prog F_bits_there #[.slice a0 l0 c0,.int .i64 n1] w0 K :=
 denF_of (A:=⟨[4],[(4,4)],[]⟩) Tryz.func191 (by kernel_rfl) (by kernel_rfl) (by kernel_rfl) h
def D_num_Get (a0:YB) (l0 c0:Nat) (w0:World) (K:YA):Prop :=
 LoopC (fun k x w1 =>
 ∃ n8:Int,nth x 1=.int .i64 n8/\(bif decide (n8<(if 8<(l0:Int) then 8 else (l0:Int))) then
 ∃ n3:Int,nth x 0=.int .u64 n3/\∃ q14:Addr,Al (Instr.indexAt 55 (.slice a0 l0 c0) (.int .i64 n8)) (.pointer (some q14))/\∃ n15:Int,YD 5 q14 w1 (.int .u8 n15)/\∃ n19:Int,Al (eqS .shl 144 (.tmp 16) (.tmp 18) (.int .u64 (IntKind.u64.wrap n15)) (.int .i64 (IntKind.i64.wrap (8*n8)))) (.int .u64 n19)/\k [.int .u64 (IntKind.u64.wrap (bvOr 64 n3 n19)),.int .i64 (IntKind.i64.wrap (n8+1))] w1
 else
 ∃ n3_2:Int,nth x 0=.int .u64 n3_2/\K (.int .u64 n3_2) w1)) [.int .u64 0,.int .i64 0] w0
theorem C_num_Get (a0:YB) (l0 c0:Nat) (w0:World) (K:YA) (h:D_num_Get a0 l0 c0 w0 K):Cal Tryz.prog F_num_Get #[.slice a0 l0 c0] w0 K :=
 denF_of (A:=⟨[3,8],[(3,144),(8,3)],[]⟩) Tryz.func192 (by kernel_rfl) (by kernel_rfl) (by kernel_rfl) h
def D_geo_within (n0:Int) (n1:Int) (n2:Int) (w0:World) (K:YA):Prop :=
 Share (fun k=>(bif decide (n0 >= n1) then k [.bool (decide (n0<=n2))] w0 else k [.bool false] w0)) fun x w1 =>
 ∃ b6:Bool,nth x 0=.bool b6/\K (.bool b6) w1
theorem C_geo_within (n0:Int) (n1:Int) (n2:Int) (w0:World) (K:YA) (h:D_geo_within n0 n1 n2 w0 K):Cal Tryz.prog F_geo_within #[.int .i64 n0,.int .i64 n1,.int .i64 n2] w0 K :=
 denF_of (A:=⟨[6],[(6,4)],[]⟩) Tryz.func193 (by kernel_rfl) (by kernel_rfl) (by kernel_rfl) h
def D_group_base (g0:Array Value) (n1:Int) (w0:World) (K:YA):Prop :=
 ∃ q2:Addr,∃ w1:World,Ru (Instr.box 39 (.agg g0)) w0 (.pointer (some q2)) w1/\∃ q4:Addr,∃ w2:World,Ru (Instr.alloc 171 true (.tuple #[])) w1 (.pointer (some q4)) w2/\∃ g8:Array Value,Al (Instr.build 171 #[(0,.int .i64 n1)]) (.agg g8)/\∃ q5:Addr,∃ w3:World,Ru (Instr.alloc 171 true (.tuple #[])) w2 (.pointer (some q5)) w3/\∃ w4:World,YE 171 q5 (.agg g8) w3 w4/\∃ g9:Array Value,YD 39 q2 w4 (.agg g9)/\YC F_geo_Tables #[.agg g9] w4 fun r10 w5=>∃ n10:Int,r10=.int .i64 n10/\LoopC (fun k x w6 =>
 ∃ n12:Int,nth x 0=.int .i64 n12/\(bif decide (n12<(IntKind.i64.wrap (1+n10))) then
 ∃ q18:Addr,Al (Instr.indexAt 168 (.pointer (some (Addr.add q5 1))) (.int .i64 (IntKind.i64.wrap (Int.tdiv n12 8)))) (.pointer (some q18))/\∃ n19:Int,YD 5 q18 (drew w6) (.int .u8 n19)/\∃ n22:Int,Al (eqS .shl 5 (.const (.int .u8 1)) (.tmp 21) (.int .u8 1) (.int .i64 (Int.tmod n12 8))) (.int .u8 n22)/\∃ q25:Addr,Al (Instr.indexAt 168 (.pointer (some (Addr.add q5 1))) (.int .i64 (IntKind.i64.wrap (Int.tdiv n12 8)))) (.pointer (some q25))/\∃ w7:World,YE 5 q25 (.int .u8 (IntKind.u8.wrap (bvOr 8 n19 n22))) (drew w6) w7/\k [.int .i64 (IntKind.i64.wrap (n12+1))] w7
 else
 Share (fun k_2=>(bif n1==0 then
 ∃ q30:Addr,Al (Instr.indexAt 169 (.pointer (some (Addr.add q5 17))) (.int .i64 0)) (.pointer (some q30))/\∃ w8:World,YE 5 q30 (.int .u8 3) w6 w8/\k_2 [] w8
 else
 k_2 [] w6)) fun x_2 w9 =>
 ∃ g31:Array Value,YD 171 q5 w9 (.agg g31)/\∃ w10:World,YE 171 q4 (.agg g31) w9 w10/\∃ gR4:Array Value,YD 171 q4 w10 (.agg gR4)/\K (.agg gR4) w10)) [.int .i64 0] w5
theorem C_group_base (g0:Array Value) (n1:Int) (w0:World) (K:YA) (h:D_group_base g0 n1 w0 K):Cal Tryz.prog F_group_base #[.agg g0,.int .i64 n1] w0 K :=
 denF_of (A:=⟨[12],[(12,3)],[]⟩) Tryz.func194 (by kernel_rfl) (by kernel_rfl) (by kernel_rfl) h
def D_super_Get_1 (n0:Int) (v1:Value) (w0:World) (K:YA):Prop :=
 ∃ (a4:YB) (l4 c4:Nat),Ru (Instr.loadAt 55 v1) w0 (.slice a4 l4 c4) w0/\∃ (a8:YB) (l8 c8:Nat),Al (Instr.sliceAt 55 (.slice a4 l4 c4) (some (.int .i64 n0)) (some (.int .i64 (IntKind.i64.wrap (n0+2)))) none) (.slice a8 l8 c8)/\YC F_num_Get #[.slice a8 l8 c8] w0 fun r9 w1=>∃ n9:Int,r9=.int .u64 n9/\K (.int .i64 (IntKind.i64.wrap n9)) w1
theorem C_super_Get_1 (n0:Int) (v1:Value) (w0:World) (K:YA) (h:D_super_Get_1 n0 v1 w0 K):Cal Tryz.prog F_super_Get_1 #[.int .i64 n0,v1] w0 K :=
 denF_of (A:=⟨[],[],[]⟩) Tryz.func195 (by kernel_rfl) (by kernel_rfl) (by kernel_rfl) h
def D_num_Diff (a0:YB) (l0 c0:Nat) (a1:YB) (l1 c1:Nat) (w0:World) (K:YA):Prop :=
 LoopC (fun k x w1 =>
 ∃ n14:Int,nth x 2=.int .i64 n14/\(bif decide (n14<(if (l1:Int) > (l0:Int) then (l1:Int) else (l0:Int))) then
 Share (fun k_2=>Share (fun k_3=>(bif decide (n14<(if (l1:Int)<(l0:Int) then (l1:Int) else (l0:Int))) then ∃ q27:Addr,Al (Instr.indexAt 55 (.slice a0 l0 c0) (.int .i64 n14)) (.pointer (some q27))/\∃ n28:Int,YD 5 q27 (drew w1) (.int .u8 n28)/\∃ q31:Addr,Al (Instr.indexAt 55 (.slice a1 l1 c1) (.int .i64 n14)) (.pointer (some q31))/\∃ n32:Int,YD 5 q31 (drew w1) (.int .u8 n32)/\k_3 [.bool (n28==n32)] (drew w1) else k_3 [.bool false] (drew w1))) fun x_3 w2 =>
 ∃ b34:Bool,nth x_3 0=.bool b34/\(bif b34 then
 k_2 [nth x 0,nth x 1,.bool b34] w2
 else
 ∃ n6:Int,nth x 0=.int .i64 n6/\Share (fun k_4=>(bif decide (n6<0) then
 k_4 [.int .i64 n14] w2
 else
 k_4 [.int .i64 n6] w2)) fun x_4 w3 =>
 k_2 [nth x_4 0,.int .i64 (IntKind.i64.wrap (n14+1)),.bool b34] w3)) fun x_2 w4 =>
 k [nth x_2 0,nth x_2 1,.int .i64 (IntKind.i64.wrap (n14+1)),nth x_2 2] w4
 else
 ∃ n6_2:Int,nth x 0=.int .i64 n6_2/\∃ n7:Int,nth x 1=.int .i64 n7/\K (.tuple #[.int .i64 n6_2,.int .i64 n7]) w1)) [.int .i64 ((-1)),.int .i64 ((-1)),.int .i64 0,undef] w0
theorem C_num_Diff (a0:YB) (l0 c0:Nat) (a1:YB) (l1 c1:Nat) (w0:World) (K:YA) (h:D_num_Diff a0 l0 c0 a1 l1 c1 w0 K):Cal Tryz.prog F_num_Diff #[.slice a0 l0 c0,.slice a1 l1 c1] w0 K :=
 denF_of (A:=⟨[6,7,14,34],[(6,3),(7,3),(14,3),(34,4)],[]⟩) Tryz.func196 (by kernel_rfl) (by kernel_rfl) (by kernel_rfl) h
def D_inode_sized (g0:Array Value) (w0:World) (K:YA):Prop :=
 ∃ q1:Addr,∃ w1:World,Ru (Instr.box 51 (.agg g0)) w0 (.pointer (some q1)) w1/\Share (fun k=>∃ n4:Int,YD 3 (Addr.add q1 1) w1 (.int .i64 n4)/\(bif decide (n4 >= 0) then ∃ n8:Int,YD 3 (Addr.add q1 1) w1 (.int .i64 n8)/\(bif decide (n8<=1000) then ∃ n13:Int,YD 2 (Addr.add q1 2) w1 (.int .i64 n13)/\(bif decide (n13 >= 0) then ∃ n18:Int,YD 2 (Addr.add q1 2) w1 (.int .i64 n18)/\(bif decide (n18<=1066496) then ∃ n23:Int,YD 2 (Addr.add q1 3) w1 (.int .i64 n23)/\(bif decide (n23 >= 1) then ∃ n28:Int,YD 2 (Addr.add q1 3) w1 (.int .i64 n28)/\k [.bool (decide (n28<=4611686018427387904))] w1 else k [.bool false] w1) else k [.bool false] w1) else k [.bool false] w1) else k [.bool false] w1) else k [.bool false] w1)) fun x w2 =>
 ∃ b2:Bool,nth x 0=.bool b2/\K (.bool b2) w2
theorem C_inode_sized (g0:Array Value) (w0:World) (K:YA) (h:D_inode_sized g0 w0 K):Cal Tryz.prog F_inode_sized #[.agg g0] w0 K :=
 denF_of (A:=⟨[2],[(2,4)],[]⟩) Tryz.func197 (by kernel_rfl) (by kernel_rfl) (by kernel_rfl) h
def D_cache_Cache_may (p0:YB) (n1:Int) (a2:YB) (l2 c2:Nat) (a3:YB) (l3 c3:Nat) (w0:World) (K:YA):Prop :=
 (bif Option.isNone p0 then
 K (.int .i64 2) w0
 else
 Share (fun k=>(bif decide (n1<0) then k [.bool true] w0 else ∃ q18:Addr,(.pointer p0:Value)=.pointer (some q18)/\∃ p20:YB,YD 40 (Addr.add q18 0) w0 (.pointer p20)/\YC F_disk_Disk_Len #[.pointer p20] w0 fun r21 w1=>∃ n21:Int,r21=.int .i64 n21/\k [.bool (decide (n1 >= n21))] w1)) fun x w2 =>
 ∃ b12:Bool,nth x 0=.bool b12/\(bif b12 then
 K (.int .i64 3) w2
 else
 Share (fun k_2=>(bif decide ((l3:Int) > 0) then YC F_slices_Contains_int #[.slice a3 l3 c3,.int .i64 ((l2:Int))] w2 fun r32 w3=>∃ b32:Bool,r32=.bool b32/\k_2 [.bool (!b32)] w3 else k_2 [.bool false] w2)) fun x_2 w4 =>
 ∃ b24:Bool,nth x_2 0=.bool b24/\(bif b24 then
 K (.int .i64 4) w4
 else
 K (.int .i64 0) w4)))
theorem C_cache_Cache_may (p0:YB) (n1:Int) (a2:YB) (l2 c2:Nat) (a3:YB) (l3 c3:Nat) (w0:World) (K:YA) (h:D_cache_Cache_may p0 n1 a2 l2 c2 a3 l3 c3 w0 K):Cal Tryz.prog F_cache_Cache_may #[.pointer p0,.int .i64 n1,.slice a2 l2 c2,.slice a3 l3 c3] w0 K :=
 denF_of (A:=⟨[12,24],[(12,4),(24,4)],[]⟩) Tryz.func198 (by kernel_rfl) (by kernel_rfl) (by kernel_rfl) h
def D_cache_Cache_ask (p0:YB) (n1:Int) (w0:World) (K:YA):Prop :=
 ∃ q3:Addr,∃ w1:World,Ru (Instr.box 3 (.int .i64 n1)) w0 (.pointer (some q3)) w1/\∃ q14:Addr,(.pointer p0:Value)=.pointer (some q14)/\∃ m16:Option Nat,YD 297 (Addr.add q14 2) (drew w1) (.map m16)/\∃ n17:Int,YD 3 q3 (drew w1) (.int .i64 n17)/\∃ p18a:YB,∃ b18b:Bool,Ru (Instr.lookup 297 (.map m16) (.int .i64 n17) true) (drew w1) (.tuple #[.pointer p18a,.bool b18b]) (drew w1)/\(bif b18b then
 ∃ q24:Addr,(.pointer p0:Value)=.pointer (some q24)/\∃ (a26:YB) (l26 c26:Nat),YD 64 (Addr.add q24 3) (drew (drew w1)) (.slice a26 l26 c26)/\∃ n29:Int,YD 3 q3 (drew (drew w1)) (.int .i64 n29)/\(YC F_slices_DeleteFunc_int #[.slice a26 l26 c26,.func (.func F_cache_Cache_ask_1) #[] #[.pointer (some q3)]] (drew (drew w1)) fun r28 w2=>∃ (a28:YB) (l28 c28:Nat),r28=.slice a28 l28 c28/\YD 3 q3 w2 (.int .i64 n29)/\∃ (a30:YB) (l30 c30:Nat),∃ w3:World,Ru (Instr.buildSlice 64 1 #[(0,.int .i64 n29)]) w2 (.slice a30 l30 c30) w3/\YD 64 (Addr.add q24 3) w3 (.slice a26 l26 c26)/\∃ (a31:YB) (l31 c31:Nat),∃ w4:World,Ru (Builtin.append_ #[64,64] 64 #[.slice a28 l28 c28,.slice a30 l30 c30]) w3 (.slice a31 l31 c31) w4/\∃ q32:Addr,(.pointer p0:Value)=.pointer (some q32)/\∃ w5:World,YE 64 (Addr.add q32 3) (.slice a31 l31 c31) w4 w5/\K (.tuple #[.pointer p18a,.int .i64 0]) w5)/\(∃ (a30_2:YB) (l30_2 c30_2:Nat),∃ w6:World,Ru (Instr.buildSlice 64 1 #[(0,.int .i64 n29)]) (drew (drew w1)) (.slice a30_2 l30_2 c30_2) w6/\YD 64 (Addr.add q24 3) w6 (.slice a26 l26 c26)/\YC F_slices_DeleteFunc_int #[.slice a26 l26 c26,.func (.func F_cache_Cache_ask_1) #[] #[.pointer (some q3)]] w6 fun r28_2 w7=>∃ (a28_2:YB) (l28_2 c28_2:Nat),r28_2=.slice a28_2 l28_2 c28_2/\YD 3 q3 w7 (.int .i64 n29)/\∃ (a31_2:YB) (l31_2 c31_2:Nat),∃ w8:World,Ru (Builtin.append_ #[64,64] 64 #[.slice a28_2 l28_2 c28_2,.slice a30_2 l30_2 c30_2]) w7 (.slice a31_2 l31_2 c31_2) w8/\∃ q32_2:Addr,(.pointer p0:Value)=.pointer (some q32_2)/\∃ w9:World,YE 64 (Addr.add q32_2 3) (.slice a31_2 l31_2 c31_2) w8 w9/\K (.tuple #[.pointer p18a,.int .i64 0]) w9)
 else
 YC F_cache_Cache_room #[.pointer p0] (drew w1) fun r36 w10=>∃ n36:Int,r36=.int .i64 n36/\(bif n36 != 0 then
 K (.tuple #[.pointer none,.int .i64 n36]) w10
 else
 ∃ q42:Addr,(.pointer p0:Value)=.pointer (some q42)/\∃ p44:YB,YD 40 (Addr.add q42 0) (drew w10) (.pointer p44)/\∃ n45:Int,YD 3 q3 (drew w10) (.int .i64 n45)/\YC F_disk_Disk_Read #[.pointer p44,.int .i64 n45] (drew w10) fun r46 w11=>∃ (a46a:YB) (l46a c46a:Nat),∃ n46b:Int,r46=.tuple #[.slice a46a l46a c46a,.int .i64 n46b]/\(bif n46b != 0 then
 K (.tuple #[.pointer none,.int .i64 n46b]) w11
 else
 ∃ g53:Array Value,Al (Instr.build 307 #[(0,.slice a46a l46a c46a)]) (.agg g53)/\∃ g54:Array Value,Al (Instr.build 309 #[(0,.agg g53)]) (.agg g54)/\∃ q55:Addr,∃ w12:World,Ru (Instr.box 309 (.agg g54)) w11 (.pointer (some q55)) w12/\∃ q57:Addr,(.pointer p0:Value)=.pointer (some q57)/\∃ m59:Option Nat,YD 297 (Addr.add q57 2) (drew w12) (.map m59)/\∃ n60:Int,YD 3 q3 (drew w12) (.int .i64 n60)/\∃ w13:World,RuU (Instr.mapUpdate 297 (.map m59) (.int .i64 n60) (.pointer (some q55))) (drew w12) w13/\∃ q64:Addr,(.pointer p0:Value)=.pointer (some q64)/\∃ (a66:YB) (l66 c66:Nat),YD 64 (Addr.add q64 3) (drew w13) (.slice a66 l66 c66)/\∃ n67:Int,YD 3 q3 (drew w13) (.int .i64 n67)/\∃ (a68:YB) (l68 c68:Nat),∃ w14:World,Ru (Instr.buildSlice 64 1 #[(0,.int .i64 n67)]) (drew w13) (.slice a68 l68 c68) w14/\YD 64 (Addr.add q64 3) w14 (.slice a66 l66 c66)/\∃ (a69:YB) (l69 c69:Nat),∃ w15:World,Ru (Builtin.append_ #[64,64] 64 #[.slice a66 l66 c66,.slice a68 l68 c68]) w14 (.slice a69 l69 c69) w15/\∃ q70:Addr,(.pointer p0:Value)=.pointer (some q70)/\∃ w16:World,YE 64 (Addr.add q70 3) (.slice a69 l69 c69) w15 w16/\K (.tuple #[.pointer (some q55),.int .i64 0]) w16)))
theorem C_cache_Cache_ask (p0:YB) (n1:Int) (w0:World) (K:YA) (h:D_cache_Cache_ask p0 n1 w0 K):Cal Tryz.prog F_cache_Cache_ask #[.pointer p0,.int .i64 n1] w0 K :=
 denF_of (A:=⟨[],[],[]⟩) Tryz.func199 (by kernel_rfl) (by kernel_rfl) (by kernel_rfl) h
def D_cache_Cache_held (p0:YB) (n1:Int) (w0:World) (K:YA):Prop :=
 (bif Option.isNone p0 then
 K (.tuple #[.pointer none,.int .i64 2]) w0
 else
 ∃ q12:Addr,(.pointer p0:Value)=.pointer (some q12)/\∃ m14:Option Nat,YD 297 (Addr.add q12 2) w0 (.map m14)/\∃ p16a:YB,∃ b16b:Bool,Ru (Instr.lookup 297 (.map m14) (.int .i64 n1) true) w0 (.tuple #[.pointer p16a,.bool b16b]) w0/\(bif !b16b then
 K (.tuple #[.pointer none,.int .i64 20]) w0
 else
 K (.tuple #[.pointer p16a,.int .i64 0]) w0))
theorem C_cache_Cache_held (p0:YB) (n1:Int) (w0:World) (K:YA) (h:D_cache_Cache_held p0 n1 w0 K):Cal Tryz.prog F_cache_Cache_held #[.pointer p0,.int .i64 n1] w0 K :=
 denF_of (A:=⟨[],[],[]⟩) Tryz.func200 (by kernel_rfl) (by kernel_rfl) (by kernel_rfl) h
def D_num_within (a0:YB) (l0 c0:Nat) (n1:Int) (n2:Int) (w0:World) (K:YA):Prop :=
 Share (fun k=>(bif decide (n1 >= 0) then (bif decide (n2 >= 0) then (bif decide (n1<=(l0:Int)) then k [.bool (decide (n2<=(IntKind.i64.wrap ((l0:Int)-n1))))] w0 else k [.bool false] w0) else k [.bool false] w0) else k [.bool false] w0)) fun x w1 =>
 ∃ b6:Bool,nth x 0=.bool b6/\K (.bool b6) w1
theorem C_num_within (a0:YB) (l0 c0:Nat) (n1:Int) (n2:Int) (w0:World) (K:YA) (h:D_num_within a0 l0 c0 n1 n2 w0 K):Cal Tryz.prog F_num_within #[.slice a0 l0 c0,.int .i64 n1,.int .i64 n2] w0 K :=
 denF_of (A:=⟨[6],[(6,4)],[]⟩) Tryz.func201 (by kernel_rfl) (by kernel_rfl) (by kernel_rfl) h
def D_alloc_Alloc_turn (p0:YB) (g1:Array Value) (g2:Array Value) (b3:Bool) (w0:World) (K:YA):Prop :=
 ∃ q5:Addr,∃ w1:World,Ru (Instr.box 195 (.agg g1)) w0 (.pointer (some q5)) w1/\∃ q6:Addr,∃ w2:World,Ru (Instr.box 271 (.agg g2)) w1 (.pointer (some q6)) w2/\∃ q14:Addr,(.pointer p0:Value)=.pointer (some q14)/\∃ p16:YB,YD 41 (Addr.add q14 0) (drew w2) (.pointer p16)/\∃ n18:Int,YD 3 (Addr.add q5 0) (drew w2) (.int .i64 n18)/\(YC F_vol_Vol_Head #[.pointer p16,.int .i64 n18] (drew w2) fun r19 w3=>∃ g19a:Array Value,∃ n19b:Int,r19=.tuple #[.agg g19a,.int .i64 n19b]/\∃ q10:Addr,∃ w4:World,Ru (Instr.alloc 171 true (.tuple #[])) w3 (.pointer (some q10)) w4/\YD 41 (Addr.add q14 0) w4 (.pointer p16)/\YD 3 (Addr.add q5 0) w4 (.int .i64 n18)/\∃ w5:World,YE 171 q10 (.agg g19a) w4 w5/\Share (fun k=>(bif n19b==0 then
 ∃ v26:Value,YD 269 (Addr.add q6 1) (drew w5) v26/\∃ q28:Addr,(.pointer p0:Value)=.pointer (some q28)/\∃ p30:YB,YD 41 (Addr.add q28 0) (drew w5) (.pointer p30)/\∃ g32:Array Value,YD 171 q10 (drew w5) (.agg g32)/\∃ n34:Int,YD 3 (Addr.add q5 1) (drew w5) (.int .i64 n34)/\YC F_vol_Vol_Geo #[.pointer p30] (drew w5) fun r31 w6=>∃ g31:Array Value,r31=.agg g31/\YD 269 (Addr.add q6 1) w6 v26/\YD 171 q10 w6 (.agg g32)/\YD 3 (Addr.add q5 1) w6 (.int .i64 n34)/\Dyn Tryz.prog v26 #[.agg g31,.agg g32,.int .i64 n34,.bool b3] w6 fun r36 w7=>∃ g36a:Array Value,∃ n36b:Int,r36=.tuple #[.agg g36a,.int .i64 n36b]/\∃ w8:World,YE 171 q10 (.agg g36a) w7 w8/\k [.int .i64 n36b] w8
 else
 k [.int .i64 n19b] w5)) fun x w9 =>
 ∃ n11:Int,nth x 0=.int .i64 n11/\(bif n11 != 0 then
 K (.tuple #[.int .i64 0,.int .i64 n11]) w9
 else
 ∃ q43:Addr,(.pointer p0:Value)=.pointer (some q43)/\∃ p45:YB,YD 41 (Addr.add q43 0) (drew w9) (.pointer p45)/\∃ n47:Int,YD 3 (Addr.add q5 0) (drew w9) (.int .i64 n47)/\∃ g48:Array Value,YD 171 q10 (drew w9) (.agg g48)/\YC F_vol_Vol_SetHead #[.pointer p45,.int .i64 n47,.agg g48,.slice none 0 0] (drew w9) fun r49 w10=>∃ n49a:Int,∃ n49b:Int,r49=.tuple #[.int .i64 n49a,.int .i64 n49b]/\K (.tuple #[.int .i64 n49a,.int .i64 n49b]) w10))/\(∃ q10_2:Addr,∃ w11:World,Ru (Instr.alloc 171 true (.tuple #[])) (drew w2) (.pointer (some q10_2)) w11/\YD 41 (Addr.add q14 0) w11 (.pointer p16)/\YD 3 (Addr.add q5 0) w11 (.int .i64 n18)/\YC F_vol_Vol_Head #[.pointer p16,.int .i64 n18] w11 fun r19_2 w12=>∃ g19a_2:Array Value,∃ n19b_2:Int,r19_2=.tuple #[.agg g19a_2,.int .i64 n19b_2]/\∃ w13:World,YE 171 q10_2 (.agg g19a_2) w12 w13/\Share (fun k_2=>(bif n19b_2==0 then
 ∃ v26_2:Value,YD 269 (Addr.add q6 1) (drew w13) v26_2/\∃ q28_2:Addr,(.pointer p0:Value)=.pointer (some q28_2)/\∃ p30_2:YB,YD 41 (Addr.add q28_2 0) (drew w13) (.pointer p30_2)/\∃ g32_2:Array Value,YD 171 q10_2 (drew w13) (.agg g32_2)/\∃ n34_2:Int,YD 3 (Addr.add q5 1) (drew w13) (.int .i64 n34_2)/\YC F_vol_Vol_Geo #[.pointer p30_2] (drew w13) fun r31_2 w14=>∃ g31_2:Array Value,r31_2=.agg g31_2/\YD 269 (Addr.add q6 1) w14 v26_2/\YD 171 q10_2 w14 (.agg g32_2)/\YD 3 (Addr.add q5 1) w14 (.int .i64 n34_2)/\Dyn Tryz.prog v26_2 #[.agg g31_2,.agg g32_2,.int .i64 n34_2,.bool b3] w14 fun r36_2 w15=>∃ g36a_2:Array Value,∃ n36b_2:Int,r36_2=.tuple #[.agg g36a_2,.int .i64 n36b_2]/\∃ w16:World,YE 171 q10_2 (.agg g36a_2) w15 w16/\k_2 [.int .i64 n36b_2] w16
 else
 k_2 [.int .i64 n19b_2] w13)) fun x_2 w17 =>
 ∃ n11_2:Int,nth x_2 0=.int .i64 n11_2/\(bif n11_2 != 0 then
 K (.tuple #[.int .i64 0,.int .i64 n11_2]) w17
 else
 ∃ q43_2:Addr,(.pointer p0:Value)=.pointer (some q43_2)/\∃ p45_2:YB,YD 41 (Addr.add q43_2 0) (drew w17) (.pointer p45_2)/\∃ n47_2:Int,YD 3 (Addr.add q5 0) (drew w17) (.int .i64 n47_2)/\∃ g48_2:Array Value,YD 171 q10_2 (drew w17) (.agg g48_2)/\YC F_vol_Vol_SetHead #[.pointer p45_2,.int .i64 n47_2,.agg g48_2,.slice none 0 0] (drew w17) fun r49_2 w18=>∃ n49a_2:Int,∃ n49b_2:Int,r49_2=.tuple #[.int .i64 n49a_2,.int .i64 n49b_2]/\K (.tuple #[.int .i64 n49a_2,.int .i64 n49b_2]) w18))
theorem C_alloc_Alloc_turn (p0:YB) (g1:Array Value) (g2:Array Value) (b3:Bool) (w0:World) (K:YA) (h:D_alloc_Alloc_turn p0 g1 g2 b3 w0 K):Cal Tryz.prog F_alloc_Alloc_turn #[.pointer p0,.agg g1,.agg g2,.bool b3] w0 K :=
 denF_of (A:=⟨[11],[(11,24)],[]⟩) Tryz.func202 (by kernel_rfl) (by kernel_rfl) (by kernel_rfl) h
def D_group_FindSlot (g0:Array Value) (g1:Array Value) (n2:Int) (w0:World) (K:YA):Prop :=
 ∃ q3:Addr,∃ w1:World,Ru (Instr.box 39 (.agg g0)) w0 (.pointer (some q3)) w1/\∃ q4:Addr,∃ w2:World,Ru (Instr.box 171 (.agg g1)) w1 (.pointer (some q4)) w2/\∃ g7:Array Value,YD 39 q3 w2 (.agg g7)/\∃ g8:Array Value,YD 171 q4 w2 (.agg g8)/\YC F_group_Right #[.agg g7,.agg g8] w2 fun r9 w3=>∃ b9:Bool,r9=.bool b9/\(bif !b9 then
 K (.int .i64 ((-1))) w3
 else
 ∃ (a12:YB) (l12 c12:Nat),Al (Instr.sliceAt 169 (.pointer (some (Addr.add q4 17))) none none none) (.slice a12 l12 c12)/\∃ n14:Int,YD 3 (Addr.add q3 1) (drew w3) (.int .i64 n14)/\YC F_bits_First #[.slice a12 l12 c12,.int .i64 n14,.int .i64 n2] (drew w3) fun r16 w4=>∃ n16:Int,r16=.int .i64 n16/\K (.int .i64 n16) w4)
theorem C_group_FindSlot (g0:Array Value) (g1:Array Value) (n2:Int) (w0:World) (K:YA) (h:D_group_FindSlot g0 g1 n2 w0 K):Cal Tryz.prog F_group_FindSlot #[.agg g0,.agg g1,.int .i64 n2] w0 K :=
 denF_of (A:=⟨[],[],[]⟩) Tryz.func203 (by kernel_rfl) (by kernel_rfl) (by kernel_rfl) h
def D_group_UseSlot (g0:Array Value) (g1:Array Value) (n2:Int) (b3:Bool) (w0:World) (K:YA):Prop :=
 ∃ q4:Addr,∃ w1:World,Ru (Instr.box 39 (.agg g0)) w0 (.pointer (some q4)) w1/\∃ q5:Addr,∃ w2:World,Ru (Instr.box 171 (.agg g1)) w1 (.pointer (some q5)) w2/\∃ q8:Addr,∃ w3:World,Ru (Instr.alloc 171 true (.tuple #[])) w2 (.pointer (some q8)) w3/\∃ n13:Int,YD 3 (Addr.add q5 0) w3 (.int .i64 n13)/\Share (fun k=>(bif n13==0 then
 k [.int .i64 2] w3
 else
 k [.int .i64 0] w3)) fun x w4 =>
 ∃ g15:Array Value,YD 39 q4 w4 (.agg g15)/\∃ g16:Array Value,YD 171 q5 w4 (.agg g16)/\∃ n10:Int,nth x 0=.int .i64 n10/\∃ n20:Int,YD 3 (Addr.add q4 1) w4 (.int .i64 n20)/\YC F_group_may #[.agg g15,.agg g16,.int .i64 n2,.int .i64 n10,.int .i64 n20] w4 fun r21 w5=>∃ n21:Int,r21=.int .i64 n21/\Share (fun k_2=>(bif n21==0 then
 ∃ (a25:YB) (l25 c25:Nat),Al (Instr.sliceAt 169 (.pointer (some (Addr.add q5 17))) none none none) (.slice a25 l25 c25)/\YC F_group_use #[.slice a25 l25 c25,.int .i64 n2,.bool b3] w5 fun r28 w6=>∃ n28:Int,r28=.int .i64 n28/\k_2 [.int .i64 n28] w6
 else
 k_2 [.int .i64 n21] w5)) fun x_2 w7 =>
 ∃ n11:Int,nth x_2 0=.int .i64 n11/\(bif n11 != 0 then
 ∃ g31:Array Value,Al (Instr.build 171 #[]) (.agg g31)/\∃ w8:World,YE 171 q8 (.agg g31) w7 w8/\∃ gR8:Array Value,YD 171 q8 w8 (.agg gR8)/\K (.tuple #[.agg gR8,.int .i64 n11]) w8
 else
 ∃ g33:Array Value,YD 171 q5 w7 (.agg g33)/\∃ w9:World,YE 171 q8 (.agg g33) w7 w9/\∃ gR8_2:Array Value,YD 171 q8 w9 (.agg gR8_2)/\K (.tuple #[.agg gR8_2,.int .i64 0]) w9)
theorem C_group_UseSlot (g0:Array Value) (g1:Array Value) (n2:Int) (b3:Bool) (w0:World) (K:YA) (h:D_group_UseSlot g0 g1 n2 b3 w0 K):Cal Tryz.prog F_group_UseSlot #[.agg g0,.agg g1,.int .i64 n2,.bool b3] w0 K :=
 denF_of (A:=⟨[10,11],[(10,3),(11,24)],[]⟩) Tryz.func204 (by kernel_rfl) (by kernel_rfl) (by kernel_rfl) h
def D_bits_most (a0:YB) (l0 c0:Nat) (n1:Int) (w0:World) (K:YA):Prop :=
 K (.int .i64 (if (IntKind.i64.wrap (8*(l0:Int)))<(if 0 > n1 then 0 else n1) then (IntKind.i64.wrap (8*(l0:Int))) else (if 0 > n1 then 0 else n1))) w0
theorem C_bits_most (a0:YB) (l0 c0:Nat) (n1:Int) (w0:World) (K:YA) (h:D_bits_most a0 l0 c0 n1 w0 K):Cal Tryz.prog F_bits_most #[.slice a0 l0 c0,.int .i64 n1] w0 K :=
 denF_of (A:=⟨[],[],[]⟩) Tryz.func205 (by kernel_rfl) (by kernel_rfl) (by kernel_rfl) h
def D_alloc_blocks (w0:World) (K:YA):Prop :=
 ∃ q0:Addr,∃ w1:World,Ru (Instr.alloc 271 true (.tuple #[])) w0 (.pointer (some q0)) w1/\∃ g1:Array Value,Al (Instr.build 271 #[(0,.func (.func F_group_FindBlock) #[] #[]),(1,.func (.func F_group_UseBlock) #[] #[])]) (.agg g1)/\∃ w2:World,YE 271 q0 (.agg g1) w1 w2/\∃ gR0:Array Value,YD 271 q0 w2 (.agg gR0)/\K (.agg gR0) w2
theorem C_alloc_blocks (w0:World) (K:YA) (h:D_alloc_blocks  w0 K):Cal Tryz.prog F_alloc_blocks #[] w0 K :=
 denF_of (A:=⟨[],[],[]⟩) Tryz.func206 (by kernel_rfl) (by kernel_rfl) (by kernel_rfl) h
def D_slices_Contains_int (a0:YB) (l0 c0:Nat) (n1:Int) (w0:World) (K:YA):Prop :=
 YC F_slices_Index_int #[.slice a0 l0 c0,.int .i64 n1] w0 fun r7 w1=>∃ n7:Int,r7=.int .i64 n7/\K (.bool (decide (n7 >= 0))) w1
theorem C_slices_Contains_int (a0:YB) (l0 c0:Nat) (n1:Int) (w0:World) (K:YA) (h:D_slices_Contains_int a0 l0 c0 n1 w0 K):Cal Tryz.prog F_slices_Contains_int #[.slice a0 l0 c0,.int .i64 n1] w0 K :=
 denF_of (A:=⟨[],[],[]⟩) Tryz.func216 (by kernel_rfl) (by kernel_rfl) (by kernel_rfl) h
def D_slices_DeleteFunc_int (a0:YB) (l0 c0:Nat) (v1:Value) (w0:World) (K:YA):Prop :=
 YC F_slices_IndexFunc_int #[.slice a0 l0 c0,v1] w0 fun r10 w1=>∃ n10:Int,r10=.int .i64 n10/\(bif n10==(-1) then
 K (.slice a0 l0 c0) w1
 else
 LoopC (fun k x w2 =>
 ∃ n6:Int,nth x 1=.int .i64 n6/\(bif decide (n6<(l0:Int)) then
 ∃ q24:Addr,Al (Instr.indexAt 64 (.slice a0 l0 c0) (.int .i64 n6)) (.pointer (some q24))/\∃ n25:Int,YD 3 q24 w2 (.int .i64 n25)/\Dyn Tryz.prog v1 #[.int .i64 n25] w2 fun r28 w3=>∃ b28:Bool,r28=.bool b28/\Share (fun k_2=>(bif !b28 then
 ∃ n5:Int,nth x 0=.int .i64 n5/\∃ q33:Addr,Al (Instr.indexAt 64 (.slice a0 l0 c0) (.int .i64 n5)) (.pointer (some q33))/\∃ w4:World,YE 3 q33 (.int .i64 n25) w3 w4/\k_2 [.int .i64 (IntKind.i64.wrap (n5+1))] w4
 else
 k_2 [nth x 0] w3)) fun x_2 w5 =>
 k [nth x_2 0,.int .i64 (IntKind.i64.wrap (n6+1))] w5
 else
 ∃ n5_2:Int,nth x 0=.int .i64 n5_2/\∃ (a38:YB) (l38 c38:Nat),Al (Instr.sliceAt 64 (.slice a0 l0 c0) (some (.int .i64 n5_2)) none none) (.slice a38 l38 c38)/\∃ w6:World,Ru (Builtin.clear_ #[64] 0 #[.slice a38 l38 c38]) w2 (.tuple #[]) w6/\∃ (a41:YB) (l41 c41:Nat),Al (Instr.sliceAt 64 (.slice a0 l0 c0) none (some (.int .i64 n5_2)) none) (.slice a41 l41 c41)/\K (.slice a41 l41 c41) w6)) [.int .i64 n10,.int .i64 (IntKind.i64.wrap (n10+1))] w1)
theorem C_slices_DeleteFunc_int (a0:YB) (l0 c0:Nat) (v1:Value) (w0:World) (K:YA) (h:D_slices_DeleteFunc_int a0 l0 c0 v1 w0 K):Cal Tryz.prog F_slices_DeleteFunc_int #[.slice a0 l0 c0,v1] w0 K :=
 denF_of (A:=⟨[5,6],[(5,3),(6,3)],[]⟩) Tryz.func217 (by kernel_rfl) (by kernel_rfl) (by kernel_rfl) h
def D_cache_Cache_ask_1 (n0:Int) (v1:Value) (w0:World) (K:YA):Prop :=
 ∃ n5:Int,Ru (Instr.loadAt 3 v1) w0 (.int .i64 n5) w0/\K (.bool (n0==n5)) w0
theorem C_cache_Cache_ask_1 (n0:Int) (v1:Value) (w0:World) (K:YA) (h:D_cache_Cache_ask_1 n0 v1 w0 K):Cal Tryz.prog F_cache_Cache_ask_1 #[.int .i64 n0,v1] w0 K :=
 denF_of (A:=⟨[],[],[]⟩) Tryz.func218 (by kernel_rfl) (by kernel_rfl) (by kernel_rfl) h
def D_cache_Cache_room (p0:YB) (w0:World) (K:YA):Prop :=
 ∃ q1:Addr,∃ w1:World,Ru (Instr.box 233 (.pointer p0)) w0 (.pointer (some q1)) w1/\∃ p4:YB,YD 233 q1 (drew w1) (.pointer p4)/\∃ q5:Addr,(.pointer p4:Value)=.pointer (some q5)/\∃ (a7:YB) (l7 c7:Nat),YD 64 (Addr.add q5 3) (drew w1) (.slice a7 l7 c7)/\∃ p9:YB,YD 233 q1 (drew w1) (.pointer p9)/\∃ q10:Addr,(.pointer p9:Value)=.pointer (some q10)/\∃ n12:Int,YD 3 (Addr.add q10 1) (drew w1) (.int .i64 n12)/\(bif decide ((l7:Int)<n12) then
 K (.int .i64 0) (drew w1)
 else
 ∃ p14:YB,YD 233 q1 (drew w1) (.pointer p14)/\∃ q15:Addr,(.pointer p14:Value)=.pointer (some q15)/\∃ (a17:YB) (l17 c17:Nat),YD 64 (Addr.add q15 3) (drew w1) (.slice a17 l17 c17)/\YC F_slices_IndexFunc_int #[.slice a17 l17 c17,.func (.func F_cache_Cache_room_1) #[] #[.pointer (some q1)]] (drew w1) fun r19 w2=>∃ n19:Int,r19=.int .i64 n19/\(bif decide (n19<0) then
 K (.int .i64 5) w2
 else
 ∃ p22:YB,YD 233 q1 (drew w2) (.pointer p22)/\∃ p23:YB,YD 233 q1 (drew w2) (.pointer p23)/\∃ q24:Addr,(.pointer p23:Value)=.pointer (some q24)/\∃ (a26:YB) (l26 c26:Nat),YD 64 (Addr.add q24 3) (drew w2) (.slice a26 l26 c26)/\∃ q28:Addr,Al (Instr.indexAt 64 (.slice a26 l26 c26) (.int .i64 n19)) (.pointer (some q28))/\∃ n29:Int,YD 3 q28 (drew w2) (.int .i64 n29)/\YC F_cache_Cache_out #[.pointer p22,.int .i64 n29] (drew w2) fun r30 w3=>r30=.tuple #[]/\K (.int .i64 0) w3))
theorem C_cache_Cache_room (p0:YB) (w0:World) (K:YA) (h:D_cache_Cache_room p0 w0 K):Cal Tryz.prog F_cache_Cache_room #[.pointer p0] w0 K :=
 denF_of (A:=⟨[],[],[]⟩) Tryz.func219 (by kernel_rfl) (by kernel_rfl) (by kernel_rfl) h
def D_vol_Vol_SetHead (p0:YB) (n1:Int) (g2:Array Value) (a3:YB) (l3 c3:Nat) (w0:World) (K:YA):Prop :=
 ∃ q6:Addr,∃ w1:World,Ru (Instr.box 171 (.agg g2)) w0 (.pointer (some q6)) w1/\YC F_vol_Vol_head #[.pointer p0,.int .i64 n1] w1 fun r16 w2=>∃ n16a:Int,∃ n16b:Int,r16=.tuple #[.int .i64 n16a,.int .i64 n16b]/\(bif n16b != 0 then
 K (.tuple #[.int .i64 0,.int .i64 n16b]) w2
 else
 ∃ q24:Addr,(.pointer p0:Value)=.pointer (some q24)/\∃ g27:Array Value,YD 39 (Addr.add (Addr.add q24 0) 1) (drew w2) (.agg g27)/\∃ g28:Array Value,YD 171 q6 (drew w2) (.agg g28)/\YC F_group_Put #[.agg g27,.agg g28] (drew w2) fun r29 w3=>∃ (a29a:YB) (l29a c29a:Nat),∃ n29b:Int,r29=.tuple #[.slice a29a l29a c29a,.int .i64 n29b]/\Share (fun k=>(bif n29b != 0 then k [.bool true] w3 else ∃ n36:Int,YD 3 (Addr.add q6 0) w3 (.int .i64 n36)/\k [.bool (n36 != n1)] w3)) fun x w4 =>
 ∃ b39:Bool,nth x 0=.bool b39/\(bif b39 then
 K (.tuple #[.int .i64 0,.int .i64 1]) w4
 else
 ∃ q41:Addr,(.pointer p0:Value)=.pointer (some q41)/\∃ p43:YB,YD 159 (Addr.add q41 4) (drew w4) (.pointer p43)/\∃ (a46:YB) (l46 c46:Nat),Al (Instr.sliceAt 55 (.slice a29a l29a c29a) none (some (.int .i64 64)) none) (.slice a46 l46 c46)/\YC F_patch_Store_Patch #[.pointer p43,.int .i64 n16a,.int .i64 0,.slice a46 l46 c46,.slice a3 l3 c3] (drew w4) fun r48 w5=>∃ n48a:Int,∃ n48b:Int,r48=.tuple #[.int .i64 n48a,.int .i64 n48b]/\K (.tuple #[.int .i64 n48a,.int .i64 n48b]) w5))
theorem C_vol_Vol_SetHead (p0:YB) (n1:Int) (g2:Array Value) (a3:YB) (l3 c3:Nat) (w0:World) (K:YA) (h:D_vol_Vol_SetHead p0 n1 g2 a3 l3 c3 w0 K):Cal Tryz.prog F_vol_Vol_SetHead #[.pointer p0,.int .i64 n1,.agg g2,.slice a3 l3 c3] w0 K :=
 denF_of (A:=⟨[39],[(39,4)],[]⟩) Tryz.func220 (by kernel_rfl) (by kernel_rfl) (by kernel_rfl) h
def D_bits_First (a0:YB) (l0 c0:Nat) (n1:Int) (n2:Int) (w0:World) (K:YA):Prop :=
 Share (fun k=>(bif decide (n2<0) then k [.bool true] w0 else k [.bool (decide (n2 > n1))] w0)) fun x w1 =>
 ∃ b16:Bool,nth x 0=.bool b16/\Share (fun k_2=>(bif b16 then
 k_2 [.int .i64 0] w1
 else
 k_2 [.int .i64 n2] w1)) fun x_2 w2 =>
 YC F_bits_most #[.slice a0 l0 c0,.int .i64 n1] w2 fun r19 w3=>∃ n19:Int,r19=.int .i64 n19/\LoopC (fun k_3 x_3 w4 =>
 ∃ n21:Int,nth x_3 1=.int .i64 n21/\(bif decide (n21<n19) then
 Share (fun k_4=>YC F_bits_Get #[.slice a0 l0 c0,.int .i64 n21] w4 fun r26 w5=>∃ b26:Bool,r26=.bool b26/\(bif b26 then
 k_4 [nth x_3 0] w5
 else
 ∃ n2_2:Int,nth x_2 0=.int .i64 n2_2/\(bif decide (n21 >= n2_2) then
 K (.int .i64 n21) w5
 else
 ∃ n8:Int,nth x_3 0=.int .i64 n8/\Share (fun k_5=>(bif decide (n8<0) then
 k_5 [.int .i64 n21] w5
 else
 k_5 [.int .i64 n8] w5)) fun x_5 w6 =>
 k_4 [nth x_5 0] w6))) fun x_4 w7 =>
 k_3 [nth x_4 0,.int .i64 (IntKind.i64.wrap (n21+1))] w7
 else
 ∃ n8_2:Int,nth x_3 0=.int .i64 n8_2/\K (.int .i64 n8_2) w4)) [.int .i64 ((-1)),.int .i64 0] w3
theorem C_bits_First (a0:YB) (l0 c0:Nat) (n1:Int) (n2:Int) (w0:World) (K:YA) (h:D_bits_First a0 l0 c0 n1 n2 w0 K):Cal Tryz.prog F_bits_First #[.slice a0 l0 c0,.int .i64 n1,.int .i64 n2] w0 K :=
 denF_of (A:=⟨[2,8,16,21],[(2,3),(8,3),(16,4),(21,3)],[]⟩) Tryz.func221 (by kernel_rfl) (by kernel_rfl) (by kernel_rfl) h
def D_group_may (g0:Array Value) (g1:Array Value) (n2:Int) (n3:Int) (n4:Int) (w0:World) (K:YA):Prop :=
 ∃ q5:Addr,∃ w1:World,Ru (Instr.box 39 (.agg g0)) w0 (.pointer (some q5)) w1/\∃ q6:Addr,∃ w2:World,Ru (Instr.box 171 (.agg g1)) w1 (.pointer (some q6)) w2/\∃ g12:Array Value,YD 39 q5 w2 (.agg g12)/\∃ g13:Array Value,YD 171 q6 w2 (.agg g13)/\YC F_group_Right #[.agg g12,.agg g13] w2 fun r14 w3=>∃ b14:Bool,r14=.bool b14/\(bif !b14 then
 K (.int .i64 1) w3
 else
 Share (fun k=>(bif decide (n2<n3) then k [.bool true] w3 else k [.bool (decide (n2 >= n4))] w3)) fun x w4 =>
 ∃ b16:Bool,nth x 0=.bool b16/\(bif b16 then
 K (.int .i64 3) w4
 else
 K (.int .i64 0) w4))
theorem C_group_may (g0:Array Value) (g1:Array Value) (n2:Int) (n3:Int) (n4:Int) (w0:World) (K:YA) (h:D_group_may g0 g1 n2 n3 n4 w0 K):Cal Tryz.prog F_group_may #[.agg g0,.agg g1,.int .i64 n2,.int .i64 n3,.int .i64 n4] w0 K :=
 denF_of (A:=⟨[16],[(16,4)],[]⟩) Tryz.func222 (by kernel_rfl) (by kernel_rfl) (by kernel_rfl) h
def D_group_use (a0:YB) (l0 c0:Nat) (n1:Int) (b2:Bool) (w0:World) (K:YA):Prop :=
 YC F_bits_Get #[.slice a0 l0 c0,.int .i64 n1] w0 fun r11 w1=>∃ b11:Bool,r11=.bool b11/\(bif b11==b2 then
 K (.int .i64 6) w1
 else
 YC F_bits_Set #[.slice a0 l0 c0,.int .i64 n1,.bool b2] w1 fun r18 w2=>∃ (a18a:YB) (l18a c18a:Nat),∃ n18b:Int,r18=.tuple #[.slice a18a l18a c18a,.int .i64 n18b]/\∃ n23:Int,∃ w3:World,Ru (Builtin.copy_ #[55,55] 3 #[.slice a0 l0 c0,.slice a18a l18a c18a]) w2 (.int .i64 n23) w3/\K (.int .i64 0) w3)
theorem C_group_use (a0:YB) (l0 c0:Nat) (n1:Int) (b2:Bool) (w0:World) (K:YA) (h:D_group_use a0 l0 c0 n1 b2 w0 K):Cal Tryz.prog F_group_use #[.slice a0 l0 c0,.int .i64 n1,.bool b2] w0 K :=
 denF_of (A:=⟨[],[],[]⟩) Tryz.func223 (by kernel_rfl) (by kernel_rfl) (by kernel_rfl) h
def D_group_FindBlock (g0:Array Value) (g1:Array Value) (n2:Int) (w0:World) (K:YA):Prop :=
 ∃ q3:Addr,∃ w1:World,Ru (Instr.box 39 (.agg g0)) w0 (.pointer (some q3)) w1/\∃ q4:Addr,∃ w2:World,Ru (Instr.box 171 (.agg g1)) w1 (.pointer (some q4)) w2/\∃ g7:Array Value,YD 39 q3 w2 (.agg g7)/\∃ g8:Array Value,YD 171 q4 w2 (.agg g8)/\YC F_group_Right #[.agg g7,.agg g8] w2 fun r9 w3=>∃ b9:Bool,r9=.bool b9/\(bif !b9 then
 K (.int .i64 ((-1))) w3
 else
 ∃ (a12:YB) (l12 c12:Nat),Al (Instr.sliceAt 168 (.pointer (some (Addr.add q4 1))) none none none) (.slice a12 l12 c12)/\∃ n14:Int,YD 3 (Addr.add q3 0) (drew w3) (.int .i64 n14)/\YC F_bits_First #[.slice a12 l12 c12,.int .i64 n14,.int .i64 n2] (drew w3) fun r16 w4=>∃ n16:Int,r16=.int .i64 n16/\K (.int .i64 n16) w4)
theorem C_group_FindBlock (g0:Array Value) (g1:Array Value) (n2:Int) (w0:World) (K:YA) (h:D_group_FindBlock g0 g1 n2 w0 K):Cal Tryz.prog F_group_FindBlock #[.agg g0,.agg g1,.int .i64 n2] w0 K :=
 denF_of (A:=⟨[],[],[]⟩) Tryz.func224 (by kernel_rfl) (by kernel_rfl) (by kernel_rfl) h
def D_group_UseBlock (g0:Array Value) (g1:Array Value) (n2:Int) (b3:Bool) (w0:World) (K:YA):Prop :=
 ∃ q4:Addr,∃ w1:World,Ru (Instr.box 39 (.agg g0)) w0 (.pointer (some q4)) w1/\∃ q5:Addr,∃ w2:World,Ru (Instr.box 171 (.agg g1)) w1 (.pointer (some q5)) w2/\∃ q8:Addr,∃ w3:World,Ru (Instr.alloc 171 true (.tuple #[])) w2 (.pointer (some q8)) w3/\∃ g11:Array Value,YD 39 q4 (drew w3) (.agg g11)/\∃ g12:Array Value,YD 171 q5 (drew w3) (.agg g12)/\∃ g14:Array Value,YD 39 q4 (drew w3) (.agg g14)/\∃ n18:Int,YD 3 (Addr.add q4 0) (drew w3) (.int .i64 n18)/\YC F_geo_Tables #[.agg g14] (drew w3) fun r15 w4=>∃ n15:Int,r15=.int .i64 n15/\YD 39 q4 w4 (.agg g11)/\YD 171 q5 w4 (.agg g12)/\YD 3 (Addr.add q4 0) w4 (.int .i64 n18)/\YC F_group_may #[.agg g11,.agg g12,.int .i64 n2,.int .i64 (IntKind.i64.wrap (1+n15)),.int .i64 n18] w4 fun r19 w5=>∃ n19:Int,r19=.int .i64 n19/\Share (fun k=>(bif n19==0 then
 ∃ (a23:YB) (l23 c23:Nat),Al (Instr.sliceAt 168 (.pointer (some (Addr.add q5 1))) none none none) (.slice a23 l23 c23)/\YC F_group_use #[.slice a23 l23 c23,.int .i64 n2,.bool b3] w5 fun r26 w6=>∃ n26:Int,r26=.int .i64 n26/\k [.int .i64 n26] w6
 else
 k [.int .i64 n19] w5)) fun x w7 =>
 ∃ n10:Int,nth x 0=.int .i64 n10/\(bif n10 != 0 then
 ∃ g29:Array Value,Al (Instr.build 171 #[]) (.agg g29)/\∃ w8:World,YE 171 q8 (.agg g29) w7 w8/\∃ gR8:Array Value,YD 171 q8 w8 (.agg gR8)/\K (.tuple #[.agg gR8,.int .i64 n10]) w8
 else
 ∃ g31:Array Value,YD 171 q5 w7 (.agg g31)/\∃ w9:World,YE 171 q8 (.agg g31) w7 w9/\∃ gR8_2:Array Value,YD 171 q8 w9 (.agg gR8_2)/\K (.tuple #[.agg gR8_2,.int .i64 0]) w9)
theorem C_group_UseBlock (g0:Array Value) (g1:Array Value) (n2:Int) (b3:Bool) (w0:World) (K:YA) (h:D_group_UseBlock g0 g1 n2 b3 w0 K):Cal Tryz.prog F_group_UseBlock #[.agg g0,.agg g1,.int .i64 n2,.bool b3] w0 K :=
 denF_of (A:=⟨[10],[(10,24)],[]⟩) Tryz.func225 (by kernel_rfl) (by kernel_rfl) (by kernel_rfl) h
def D_slices_Index_int (a0:YB) (l0 c0:Nat) (n1:Int) (w0:World) (K:YA):Prop :=
 LoopC (fun k x w1 =>
 ∃ n8:Int,nth x 0=.int .i64 n8/\(bif decide (n8<(l0:Int)) then
 ∃ q14:Addr,Al (Instr.indexAt 64 (.slice a0 l0 c0) (.int .i64 n8)) (.pointer (some q14))/\∃ n15:Int,YD 3 q14 w1 (.int .i64 n15)/\(bif n1==n15 then
 K (.int .i64 n8) w1
 else
 k [.int .i64 (IntKind.i64.wrap (n8+1))] w1)
 else
 K (.int .i64 ((-1))) w1)) [.int .i64 0] w0
theorem C_slices_Index_int (a0:YB) (l0 c0:Nat) (n1:Int) (w0:World) (K:YA) (h:D_slices_Index_int a0 l0 c0 n1 w0 K):Cal Tryz.prog F_slices_Index_int #[.slice a0 l0 c0,.int .i64 n1] w0 K :=
 denF_of (A:=⟨[8],[(8,3)],[]⟩) Tryz.func229 (by kernel_rfl) (by kernel_rfl) (by kernel_rfl) h
def D_slices_IndexFunc_int (a0:YB) (l0 c0:Nat) (v1:Value) (w0:World) (K:YA):Prop :=
 LoopC (fun k x w1 =>
 ∃ n8:Int,nth x 0=.int .i64 n8/\(bif decide (n8<(l0:Int)) then
 ∃ q14:Addr,Al (Instr.indexAt 64 (.slice a0 l0 c0) (.int .i64 n8)) (.pointer (some q14))/\∃ n15:Int,YD 3 q14 w1 (.int .i64 n15)/\Dyn Tryz.prog v1 #[.int .i64 n15] w1 fun r16 w2=>∃ b16:Bool,r16=.bool b16/\(bif b16 then
 K (.int .i64 n8) w2
 else
 k [.int .i64 (IntKind.i64.wrap (n8+1))] w2)
 else
 K (.int .i64 ((-1))) w1)) [.int .i64 0] w0
theorem C_slices_IndexFunc_int (a0:YB) (l0 c0:Nat) (v1:Value) (w0:World) (K:YA) (h:D_slices_IndexFunc_int a0 l0 c0 v1 w0 K):Cal Tryz.prog F_slices_IndexFunc_int #[.slice a0 l0 c0,v1] w0 K :=
 denF_of (A:=⟨[8],[(8,3)],[]⟩) Tryz.func230 (by kernel_rfl) (by kernel_rfl) (by kernel_rfl) h
def D_cache_Cache_room_1 (n0:Int) (v1:Value) (w0:World) (K:YA):Prop :=
 Share (fun k=>∃ p4:YB,Ru (Instr.loadAt 233 v1) w0 (.pointer p4) w0/\∃ q5:Addr,(.pointer p4:Value)=.pointer (some q5)/\∃ m7:Option Nat,YD 297 (Addr.add q5 2) w0 (.map m7)/\∃ p9:YB,Ru (Instr.lookup 297 (.map m7) (.int .i64 n0) false) w0 (.pointer p9) w0/\∃ q10:Addr,(.pointer p9:Value)=.pointer (some q10)/\∃ n12:Int,YD 3 (Addr.add q10 1) w0 (.int .i64 n12)/\(bif n12==0 then ∃ p15:YB,Ru (Instr.loadAt 233 v1) w0 (.pointer p15) w0/\YC F_cache_Cache_dirty #[.pointer p15,.int .i64 n0] w0 fun r17 w1=>∃ b17:Bool,r17=.bool b17/\k [.bool (!b17)] w1 else k [.bool false] w0)) fun x w2 =>
 ∃ b3:Bool,nth x 0=.bool b3/\K (.bool b3) w2
theorem C_cache_Cache_room_1 (n0:Int) (v1:Value) (w0:World) (K:YA) (h:D_cache_Cache_room_1 n0 v1 w0 K):Cal Tryz.prog F_cache_Cache_room_1 #[.int .i64 n0,v1] w0 K :=
 denF_of (A:=⟨[3],[(3,4)],[]⟩) Tryz.func231 (by kernel_rfl) (by kernel_rfl) (by kernel_rfl) h
def D_cache_Cache_dirty (p0:YB) (n1:Int) (w0:World) (K:YA):Prop :=
 ∃ q11:Addr,(.pointer p0:Value)=.pointer (some q11)/\∃ p13:YB,YD 40 (Addr.add q11 0) w0 (.pointer p13)/\YC F_disk_Disk_Read #[.pointer p13,.int .i64 n1] w0 fun r15 w1=>∃ (a15a:YB) (l15a c15a:Nat),∃ n15b:Int,r15=.tuple #[.slice a15a l15a c15a,.int .i64 n15b]/\∃ q21:Addr,(.pointer p0:Value)=.pointer (some q21)/\∃ m23:Option Nat,YD 297 (Addr.add q21 2) w1 (.map m23)/\∃ p25:YB,Ru (Instr.lookup 297 (.map m23) (.int .i64 n1) false) w1 (.pointer p25) w1/\∃ q26:Addr,(.pointer p25:Value)=.pointer (some q26)/\∃ (a29:YB) (l29 c29:Nat),YD 55 (Addr.add (Addr.add q26 0) 0) w1 (.slice a29 l29 c29)/\YC F_num_Diff #[.slice a15a l15a c15a,.slice a29 l29 c29] w1 fun r30 w2=>∃ n30a:Int,∃ n30b:Int,r30=.tuple #[.int .i64 n30a,.int .i64 n30b]/\K (.bool (decide (n30a >= 0))) w2
theorem C_cache_Cache_dirty (p0:YB) (n1:Int) (w0:World) (K:YA) (h:D_cache_Cache_dirty p0 n1 w0 K):Cal Tryz.prog F_cache_Cache_dirty #[.pointer p0,.int .i64 n1] w0 K :=
 denF_of (A:=⟨[],[],[]⟩) Tryz.func232 (by kernel_rfl) (by kernel_rfl) (by kernel_rfl) h
def D_cache_Cache_out (p0:YB) (n1:Int) (w0:World) (K:YA):Prop :=
 ∃ q3:Addr,∃ w1:World,Ru (Instr.box 3 (.int .i64 n1)) w0 (.pointer (some q3)) w1/\∃ q5:Addr,(.pointer p0:Value)=.pointer (some q5)/\∃ m7:Option Nat,YD 297 (Addr.add q5 2) (drew w1) (.map m7)/\∃ n8:Int,YD 3 q3 (drew w1) (.int .i64 n8)/\∃ w2:World,Ru (Builtin.delete_ #[297,325] 0 #[.map m7,.int .i64 n8]) (drew w1) (.tuple #[]) w2/\∃ q11:Addr,(.pointer p0:Value)=.pointer (some q11)/\∃ (a13:YB) (l13 c13:Nat),YD 64 (Addr.add q11 3) w2 (.slice a13 l13 c13)/\YC F_slices_DeleteFunc_int #[.slice a13 l13 c13,.func (.func F_cache_Cache_out_1) #[] #[.pointer (some q3)]] w2 fun r15 w3=>∃ (a15:YB) (l15 c15:Nat),r15=.slice a15 l15 c15/\∃ q16:Addr,(.pointer p0:Value)=.pointer (some q16)/\∃ w4:World,YE 64 (Addr.add q16 3) (.slice a15 l15 c15) w3 w4/\K (.tuple #[]) w4
theorem C_cache_Cache_out (p0:YB) (n1:Int) (w0:World) (K:YA) (h:D_cache_Cache_out p0 n1 w0 K):Cal Tryz.prog F_cache_Cache_out #[.pointer p0,.int .i64 n1] w0 K :=
 denF_of (A:=⟨[],[],[]⟩) Tryz.func233 (by kernel_rfl) (by kernel_rfl) (by kernel_rfl) h
def D_bits_Set (a0:YB) (l0 c0:Nat) (n1:Int) (b2:Bool) (w0:World) (K:YA):Prop :=
 YC F_bits_there #[.slice a0 l0 c0,.int .i64 n1] w0 fun r11 w1=>∃ b11:Bool,r11=.bool b11/\(bif !b11 then
 K (.tuple #[.slice none 0 0,.int .i64 3]) w1
 else
 ∃ (a15:YB) (l15 c15:Nat),∃ w2:World,Ru (Instr.makeSlice 55 (.int .i64 ((l0:Int))) (.int .i64 ((l0:Int)))) w1 (.slice a15 l15 c15) w2/\∃ n18:Int,∃ w3:World,Ru (Builtin.copy_ #[55,55] 3 #[.slice a15 l15 c15,.slice a0 l0 c0]) w2 (.int .i64 n18) w3/\∃ q22:Addr,Al (Instr.indexAt 55 (.slice a15 l15 c15) (.int .i64 (IntKind.i64.wrap (Int.tdiv n1 8)))) (.pointer (some q22))/\∃ n23:Int,YD 5 q22 (drew w3) (.int .u8 n23)/\∃ n26:Int,Al (eqS .shl 5 (.const (.int .u8 1)) (.tmp 25) (.int .u8 1) (.int .i64 (Int.tmod n1 8))) (.int .u8 n26)/\∃ q28:Addr,Al (Instr.indexAt 55 (.slice a15 l15 c15) (.int .i64 (IntKind.i64.wrap (Int.tdiv n1 8)))) (.pointer (some q28))/\∃ w4:World,YE 5 q28 (.int .u8 (IntKind.u8.wrap (bvAndNot 8 n23 n26))) (drew w3) w4/\Share (fun k=>(bif b2 then
 ∃ q33:Addr,Al (Instr.indexAt 55 (.slice a15 l15 c15) (.int .i64 (IntKind.i64.wrap (Int.tdiv n1 8)))) (.pointer (some q33))/\∃ n34:Int,YD 5 q33 (drew w4) (.int .u8 n34)/\∃ n37:Int,Al (eqS .shl 5 (.const (.int .u8 1)) (.tmp 36) (.int .u8 1) (.int .i64 (Int.tmod n1 8))) (.int .u8 n37)/\∃ q39:Addr,Al (Instr.indexAt 55 (.slice a15 l15 c15) (.int .i64 (IntKind.i64.wrap (Int.tdiv n1 8)))) (.pointer (some q39))/\∃ w5:World,YE 5 q39 (.int .u8 (IntKind.u8.wrap (bvOr 8 n34 n37))) (drew w4) w5/\k [] w5
 else
 k [] w4)) fun x w6 =>
 K (.tuple #[.slice a15 l15 c15,.int .i64 0]) w6)
theorem C_bits_Set (a0:YB) (l0 c0:Nat) (n1:Int) (b2:Bool) (w0:World) (K:YA) (h:D_bits_Set a0 l0 c0 n1 b2 w0 K):Cal Tryz.prog F_bits_Set #[.slice a0 l0 c0,.int .i64 n1,.bool b2] w0 K :=
 denF_of (A:=⟨[],[],[]⟩) Tryz.func234 (by kernel_rfl) (by kernel_rfl) (by kernel_rfl) h
def D_cache_Cache_out_1 (n0:Int) (v1:Value) (w0:World) (K:YA):Prop :=
 ∃ n5:Int,Ru (Instr.loadAt 3 v1) w0 (.int .i64 n5) w0/\K (.bool (n0==n5)) w0
theorem C_cache_Cache_out_1 (n0:Int) (v1:Value) (w0:World) (K:YA) (h:D_cache_Cache_out_1 n0 v1 w0 K):Cal Tryz.prog F_cache_Cache_out_1 #[.int .i64 n0,v1] w0 K :=
 denF_of (A:=⟨[],[],[]⟩) Tryz.func235 (by kernel_rfl) (by kernel_rfl) (by kernel_rfl) h
end Go.Proofs.YtandmpcjjaabmaaGreat
end
section
open Go Go.Den Go.Proofs
namespace Go.Proofs.YtandmpcjjaabmaaGreat
structure Wy where
 d:Int
 a:Int
 b:Int
 c:Int
 deriving DecidableEq
def Wy.l (x:Wy):List Value:=[.int .i64 x.d,.int .i64 x.a,.int .i64 x.b,.int .i64 x.c]
def ofS (n:Int):Wy×Int :=
 if n<0\/n >= 4166 then (⟨0,0,0,0⟩,28) else if n<6 then (⟨0,n,0,0⟩,0) else if n<70 then (⟨1,0,n-6,0⟩,0) else (⟨2,0,(n-70) / 64,(n-70) % 64⟩,0)
theorem alloc_Way (w:World):(Instr.alloc 116 true (.tuple #[])).run Tryz.prog w=.ok (.pointer (some ⟨w.heap.size,0,none⟩)) (w.alloc (.cells ⟨(Wy.l ⟨0,0,0,0⟩)⟩ 116)):=by kernel_rfl
theorem one_Wy (x:Wy):∀ v∈x.l,v.oneCell'=true:=by
 intro v hv
 simp [Wy.l] at hv
 rcases hv with rfl | rfl | rfl | rfl <;> rfl
theorem leaf (T:TypeId) (hT:aggN Tryz.prog T=some 4) {t:TypeId} (x z:Wy) (e:Int) (s:Sem Value) (hs:Al s (.agg ⟨x.l⟩)) {w:World} {K:Value->World->Prop} (hk:K (.tuple #[.agg ⟨x.l⟩,.int .i64 e]) (w.alloc (.cells ⟨x.l⟩ t))) :
  ∃ g:Array Value,Al s (.agg g)/\∃ w3:World,RuU (Instr.storeAt T (.pointer (some ⟨w.heap.size,0,none⟩)) (.agg g)) (w.alloc (.cells ⟨z.l⟩ t)) w3 /\
   ∃ gR:Array Value,Ru (Instr.loadAt T (.pointer (some ⟨w.heap.size,0,none⟩))) w3 (.agg gR) w3/\K (.tuple #[.agg gR,.int .i64 e]) w3 :=
 ⟨⟨x.l⟩,hs,_,store_new hT rfl rfl (one_Wy x),_,load_new hT rfl,hk⟩
theorem Of_c {n:Int} (h0:-9223372036854775808<=n) (h1:n<=9223372036854775807) {w:World} {K:Value->World->Prop}
  (h:∀ w',Mod No w w'->K (.tuple #[.agg ⟨(ofS n).1.l⟩,.int .i64 (ofS n).2]) w'):Cal Tryz.prog F_ptr_Of #[.int .i64 n] w K:=by
 apply C_ptr_Of
 unfold D_ptr_Of
 refine ⟨_,_,alloc_Way w,Share.or ?_⟩
 refine ⟨_,rfl,cond_of (fun hb=>?_) (fun hb=>?_)⟩
 ·have hc:n<0\/n >= 4166:=by simpa using hb
  refine leaf _ (by kernel_rfl) ⟨0,0,0,0⟩ _ 28 _ (fun _=>by kernel_rfl) ?_
  have:=h _ ((Mod.refl No w).alloc (.cells ⟨Wy.l ⟨0,0,0,0⟩⟩ 116))
  simpa [ofS,if_pos hc] using this
 ·have hc:¬ (n<0\/n >= 4166):=by simpa using hb
  refine cond_of (fun hb=>?_) (fun hb=>?_)
  ·have h6:n<6:=by simpa using hb
   refine leaf _ (by kernel_rfl) ⟨0,n,0,0⟩ _ 0 _ (fun _=>by kernel_rfl) ?_
   have:=h _ ((Mod.refl No w).alloc (.cells ⟨Wy.l ⟨0,n,0,0⟩⟩ 116))
   simpa [ofS,if_neg hc,if_pos h6] using this
  ·have h6:¬ n<6:=by simpa using hb
   rw [wrap64 (x:=n-6) (by omega) (by omega)]
   refine cond_of (fun hb=>?_) (fun hb=>?_)
   ·have h70:n<70:=by have:=of_decide_eq_true hb; omega
    refine leaf _ (by kernel_rfl) ⟨1,0,n-6,0⟩ _ 0 _ (fun _=>by kernel_rfl) ?_
    have:=h _ ((Mod.refl No w).alloc (.cells ⟨Wy.l ⟨1,0,n-6,0⟩⟩ 116))
    simpa [ofS,if_neg hc,if_neg h6,if_pos h70] using this
   ·have h70:¬ n<70:=by have:=of_decide_eq_false hb; omega
    rw [wrap64 (x:=n-6-64) (by omega) (by omega),show n-6-64=n-70 by omega,Int.tdiv_eq_ediv_of_nonneg (by omega),Int.tmod_eq_emod_of_nonneg (by omega),
     wrap64 (x:=(n-70) / 64) (by omega) (by omega)]
    refine leaf _ (by kernel_rfl) ⟨2,0,(n-70) / 64,(n-70) % 64⟩ _ 0 _ (fun _=>by kernel_rfl) ?_
    have:=h _ ((Mod.refl No w).alloc (.cells ⟨Wy.l ⟨2,0,(n-70) / 64,(n-70) % 64⟩⟩ 116))
    simpa [ofS,if_neg hc,if_neg h6,if_neg h70] using this
end Go.Proofs.YtandmpcjjaabmaaGreat
end
section
open Go Go.Den Go.Proofs
namespace Go.Den
def u8 (x:UInt8):Value:=.int .u8 (x.toNat:Int)
def u8L (xs:List UInt8):List Value:=xs.map u8
@[simp] theorem length_u8L (xs:List UInt8):(u8L xs).length=xs.length:=by simp [u8L]
theorem u8_ofNat (q:Nat):(((UInt8.ofNat (q % 256)).toNat:Nat):Int)=(q:Int) % 256:=by
 have:(UInt8.ofNat (q % 256)).toNat=q % 256:=by rw [UInt8.toNat_ofNat']; omega
 rw [this]; omega
theorem u8L_get {xs:List UInt8} {i:Nat} (hi:i<xs.length):(u8L xs)[i]?=some (.int .u8 (xs[i].toNat:Int)):=by simp [u8L,hi,u8]
def leN:List UInt8->Nat
 | []=>0
 | x::r=>x.toNat+256*leN r
theorem leN_lt:∀ xs:List UInt8,leN xs<256 ^ xs.length
 | []=>by simp [leN]
 | x::r=>by
  have:=leN_lt r
  have hx:=x.toNat_lt
  simp only [leN,List.length_cons,Nat.pow_succ]
  omega
theorem leN_append:∀ (xs ys:List UInt8),leN (xs++ys)=leN xs+256 ^ xs.length*leN ys
 | [],ys=>by simp [leN]
 | x::r,ys=>by
  simp only [List.cons_append,leN,leN_append r ys,List.length_cons,Nat.pow_succ]
  rw [Nat.mul_add,<- Nat.mul_assoc,Nat.mul_comm 256 (256 ^ r.length),Nat.add_assoc]
theorem leN_snoc (xs:List UInt8) (i:Nat) (hi:i<xs.length):leN (xs.take (i+1))=leN (xs.take i)+256 ^ i*xs[i].toNat:=by
 rw [List.take_succ_eq_append_getElem hi,leN_append]
 simp [leN,Nat.min_eq_left (Nat.le_of_lt hi)]
theorem or_add {a x i:Nat} (ha:a<256 ^ i):a ||| (x*256 ^ i)=a+256 ^ i*x:=by
 have e:(256:Nat) ^ i=2 ^ (8*i):=by rw [Nat.pow_mul]
 rw [e] at ha |-
 rw [Nat.or_comm,Nat.mul_comm x,<- Nat.two_pow_add_eq_or_of_lt ha,Nat.add_comm]
theorem shl_run {P:Program} {T:TypeId} {x y:Operand} {a b:Int} (hb:0<=b) (w:World):(eqS .shl T x y (.int .u64 a) (.int .i64 b)).run P w=.ok (.int .u64 (IntKind.u64.wrap (a*2 ^ (min b.toNat 64)))) w:=by
 rw [eqS_run (fun w=>guard_int _ _ _ _ _ _ _ _ w)]
 have:¬ b<0:=by omega
 simp [binOp,Op.shift,this,IntKind.bits]
def lastI:List Value->Int
 | [.int _ n]=>n
 | [_,.int _ n]=>n
 | [_,_,.int _ n]=>n
 | [_,_,_,.int _ n]=>n
 | _=>0
def Row (w:World) (a:Option Addr) (cs:List Value):Prop:=cs=[]\/∃ b o,a=some ⟨b,o,none⟩/\At w b o cs
def RowU (w:World) (a:Option Addr) (cs:List Value):Prop:=cs=[]\/∃ b o,a=some ⟨b,o,none⟩/\AtU w b o cs
end Go.Den
namespace Go.Proofs.YtandmpcjjaabmaaGreat
theorem or_nat {a b:Nat} (ha:a<18446744073709551616) (hb:b<18446744073709551616):bvOr 64 (a:Int) (b:Int)=((a ||| b:Nat):Int):=by
 show (((_:BitVec 64).toNat:Nat):Int)=_
 rw [BitVec.ofInt_natCast,BitVec.ofInt_natCast,BitVec.toNat_or,BitVec.toNat_ofNat,BitVec.toNat_ofNat,Nat.mod_eq_of_lt ha,Nat.mod_eq_of_lt hb]
theorem pow_le_64 {i:Nat} (h:i<8):256 ^ (i+1)<=18446744073709551616:=by
 have:256 ^ (i+1)<=256 ^ 8:=Nat.pow_le_pow_right (by omega) (by omega)
 simpa using this
theorem Get_c {a:Option Addr} {l c:Nat} {xs:List UInt8} {w:World} {K:Value->World->Prop} (hl:xs.length=l) (hr:Row w a (u8L xs)) (h63:l<=9223372036854775807)
  (h:K (.int .u64 (leN (xs.take 8):Int)) w):Cal Tryz.prog F_num_Get #[.slice a l c] w K:=by
 apply C_num_Get
 unfold D_num_Get
 refine ⟨fun x w1=>w1=w/\∃ i:Nat,i<=8/\i<=l/\x=[.int .u64 (leN (xs.take i):Int),.int .i64 i],fun x _=>(8-lastI x).toNat,⟨rfl,0,by omega,by omega,rfl⟩,?_⟩
 rintro x w1 ⟨rfl,i,hi8,hil,rfl⟩
 refine ⟨_,rfl,cond_of (fun hb=>?_) (fun hb=>?_)⟩
 ·have hb:=of_decide_eq_true hb
  have hi:i<8/\i<l:=by split at hb <;> omega
  have hix:i<xs.length:=by omega
  obtain ⟨b,o,rfl,hat⟩:=hr.resolve_left (by intro e; have:=congrArg List.length e; simp at this; rw [this] at hix; simp at hix)
  have hx:=xs[i].toNat_lt
  have hlt:leN (xs.take i)<256 ^ i:=by have:=leN_lt (xs.take i); rwa [List.length_take_of_le (by omega)] at this
  have hp:=pow_le_64 hi.1
  have hpi:256 ^ i*xs[i].toNat+256 ^ i<=256 ^ (i+1):=by rw [Nat.pow_succ,<- Nat.mul_succ]; exact Nat.mul_le_mul_left _ (by omega)
  refine ⟨_,rfl,_,index_slice (k:=1) (by kernel_rfl) (by omega) (by omega),?_⟩
  rw [add_none,show (i:Int).toNat*1=i by omega]
  refine ⟨_,hat.load (by kernel_rfl) (u8L_get hix),?_⟩
  rw [wrapU64 (by omega) (by omega),wrap64 (x:=8*(i:Int)) (by omega) (by omega)]
  refine ⟨_,shl_run (by omega),?_⟩
  have e1:((xs[i].toNat:Int)*2 ^ (min (8*(i:Int)).toNat 64))=((xs[i].toNat*256 ^ i:Nat):Int):=by
   rw [show min (8*(i:Int)).toNat 64=8*i by omega]
   have:(256:Nat) ^ i=2 ^ (8*i):=by rw [Nat.pow_mul]
   rw [this]; push_cast; rfl
  have hmul:xs[i].toNat*256 ^ i=256 ^ i*xs[i].toNat:=Nat.mul_comm _ _
  rw [e1,wrapU64 (x:=((xs[i].toNat*256 ^ i:Nat):Int)) (by omega) (by omega),or_nat (by omega) (by omega),or_add hlt,<- leN_snoc xs i hix,
   wrapU64 (x:=((leN (xs.take (i+1)):Nat):Int)) (by omega) (by rw [leN_snoc xs i hix]; omega),wrap64 (x:=(i:Int)+1) (by omega) (by omega)]
  exact ⟨⟨rfl,i+1,by omega,by omega,rfl⟩,by simp [lastI]; omega⟩
 ·have hb:=of_decide_eq_false hb
  have hi:i=8\/i=l:=by split at hb <;> omega
  refine ⟨_,rfl,?_⟩
  have e:xs.take i=xs.take 8:=by
   rcases hi with rfl | rfl
   ·rfl
   ·rw [List.take_of_length_le (by omega),List.take_of_length_le (by omega)]
  rw [e]; exact h
def toLe:Nat->Nat->List UInt8
 | 0,_=>[]
 | k+1,n=>UInt8.ofNat (n % 256)::toLe k (n / 256)
@[simp] theorem length_toLe:∀ k n,(toLe k n).length=k
 | 0,_=>rfl
 | k+1,n=>by simp [toLe,length_toLe k]
theorem toLe_snoc:∀ (k n:Nat),toLe (k+1) n=toLe k n++[UInt8.ofNat (n / 256 ^ k % 256)]
 | 0,n=>by simp [toLe]
 | k+1,n=>by
  rw [toLe,toLe_snoc k (n / 256)]
  simp only [toLe,List.cons_append]
  rw [Nat.div_div_eq_div_mul,Nat.pow_succ,Nat.mul_comm 256]
theorem Put_c {b o i l c:Nat} {cs:List Value} {n:Nat} {w:World} {K:Value->World->Prop} (hat:AtU w b o cs) (hil:i+l<=cs.length) (h63:l<=9223372036854775807)
  (h:∀ w',Mod (fun x=>x=b) w w'->AtU w' b o (splice cs i (u8L (toLe l n)))->w'.heap.size=w.heap.size->K (.tuple #[]) w'):Cal Tryz.prog F_num_Put #[.slice (some ⟨b,o+i,none⟩) l c,.int .u64 n] w K:=by
 apply C_num_Put
 unfold D_num_Put
 refine ⟨fun x w1=>∃ j:Nat,j<=l/\x=[.int .u64 ((n / 256 ^ j:Nat):Int),.int .i64 j]/\AtU w1 b o (splice cs i (u8L (toLe j n)))/\Mod (fun x=>x=b) w w1/\w1.heap.size=w.heap.size,
  fun x _=>(l-lastI x).toNat,⟨0,by omega,by simp,by simpa [toLe,u8L,splice] using hat,Mod.refl _ _,rfl⟩,?_⟩
 rintro x w1 ⟨j,hjl,rfl,hat1,hm,hsz⟩
 refine ⟨_,rfl,cond_of (fun hb=>?_) (fun hb=>?_)⟩
 ·have hb:=of_decide_eq_true hb
  have hj:j<l:=by omega
  refine ⟨_,rfl,_,index_slice (k:=1) (by kernel_rfl) (by omega) (by omega),?_⟩
  rw [add_none,show (j:Int).toNat*1=j by omega,Nat.add_assoc]
  obtain ⟨w2,h1,h2,h3,h4⟩:=hat1.store (P:=Tryz.prog) (T:=5) (i:=i+j) (v:=.int .u8 (IntKind.u8.wrap ((n / 256 ^ j:Nat):Int))) (by kernel_rfl) (by rw [length_splice (by simp; omega)]; omega) rfl
  refine ⟨w2,h1,?_⟩
  rw [wrap64 (x:=(j:Int)+1) (by omega) (by omega)]
  have e1:Int.fdiv ((n / 256 ^ j:Nat):Int) 256=((n / 256 ^ (j+1):Nat):Int):=by
   rw [Nat.pow_succ,<- Nat.div_div_eq_div_mul,Int.fdiv_eq_ediv_of_nonneg _ (by omega)]
   exact (Int.natCast_ediv _ _).symm
  rw [e1]
  refine ⟨⟨j+1,by omega,by simp,?_,hm.trans h3 (fun _ _ h=>h),by omega⟩,by simp [lastI]; omega⟩
  have ev:(Value.int .u8 (IntKind.u8.wrap ((n / 256 ^ j:Nat):Int)))=u8 (UInt8.ofNat (n / 256 ^ j % 256)):=by
   rw [wrapU8]; unfold u8; rw [u8_ofNat]
  have e2:(splice cs i (u8L (toLe j n))).set (i+j) (u8 (UInt8.ofNat (n / 256 ^ j % 256)))=splice cs i (u8L (toLe (j+1) n)):=by
   have:=splice_snoc (cs:=cs) (vs:=u8L (toLe j n)) (i:=i) (v:=u8 (UInt8.ofNat (n / 256 ^ j % 256))) (by simp; omega)
   rw [length_u8L,length_toLe] at this
   rw [this,toLe_snoc]; simp [u8L]
  rw [ev,e2] at h2
  exact h2
 ·have hb:=of_decide_eq_false hb
  have hj:j=l:=by omega
  subst hj
  exact h w1 hm hat1 hsz
end Go.Proofs.YtandmpcjjaabmaaGreat
end
