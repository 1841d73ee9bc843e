/- Parts of the proof, in order: what the statement leans on. -/
import Derived.Test.YtelhlihjihklbaaGreatBa
open Go.Proofs Go.Proofs.YtelhlihjihklbaaGreat
section
open Go Go.Den Go.Proofs
namespace Go.Z
set_option maxRecDepth 100000
theorem Af {A:An} {f:FuncId} {fn:Func} {args:List Value} {w:World} {K:Value->World->Prop} {Q:Prop} (hf:Tryz.prog.funcs[f]?=some fn) (h:Q) (hok:okF args.length fn=true:=by kernel_rfl) (hn:(fn.name=="runtime.NumGoroutine")=false:=by kernel_rfl) (e:AdE Tryz.prog A fn args w K=Q:=by kernel_rfl):A8 Tryz.prog f args.toArray w K:=fZ (A:=A) tX hf hok hn (e.mpr h)
def Gs(n5:Array Value)(n3:YB)(f4 n4:Nat)(s3:World)(K:YA):Prop :=
 ∃ j9 b4,Yb 40 (.agg n5) s3 j9 b4/\∃ e3,Yg 40 j9 b4 e3/\YC E5 #[.agg e3] b4 fun r8 w=>∃ b j3 d9,r8=.tuple #[.pointer b,.pointer j3,.bool d9]/\(bif !d9 then
 K (.bool false) w
 else
 ∃ l0,(.pointer j3:Value)=.pointer (some l0)/\∃ j4,Yp 79 (Addr.add l0 0) w j4/\∃ l1,(.pointer j4:Value)=.pointer (some l1)/\∃ e4,Yg 40 (Addr.add l1 3) w e4/\YC Bu #[.agg e4] w fun r9 t0=>∃ n,r9=.int .i64 n/\∃ h j i m3,Ru (Instr.makeSlice 83 (.int .i64 n) (.int .i64 n)) t0 (.slice h j i) m3/\A6 (fun n6 c m7 =>
 Ac (fun e7=>∃ b1,Ap c 0=.int .i64 b1/\(bif decide (b1<(f4:Int))then e7 [.bool (decide (b1<60))] m7 else e7 [.bool false] m7)) fun v3 c7 =>
 ∃ a5,Ap v3 0=.bool a5/\(bif a5 then
 ∃ b2,Ap c 0=.int .i64 b2/\∃ l2,Yx 70 (.slice n3 f4 n4) (.int .i64 b2) l2/\∃ e5,Yg 85 l2 c7 e5/\∃ a n0,Yq 85 c7 a n0/\∃ n1,YE 85 a (.agg e5) n0 n1/\YC BH #[.pointer b] n1 fun s0 x=>∃ o o4,s0=.tuple #[.int .i64 o,.int .i64 o4]/\∃ e,Yi (Addr.add a 0) x e/\Ac (fun e8=>(bif e==0 then
 e8 [.bool (e==0)] x
 else
 Ac (fun e9=>(bif e==1 then
 e9 [.bool (e==1)] x
 else
 e9 [.bool (e==2)] x)) fun v5 s4 =>
 e8 [Ap v5 0] s4)) fun v4 u =>
 ∃ a6,Ap v4 0=.bool a6/\Ac (fun f0=>(bif a6 then
 ∃ i1,Yi (Addr.add a 1) u i1/\YC CD #[.pointer b,.int .i64 i1] u fun s1 s5=>∃ l o5 b3,s1=.tuple #[.int .i64 l,.int .i64 o5,.int .i64 b3]/\YC BH #[.pointer b] s5 fun s2 f=>∃ i2 o6,s2=.tuple #[.int .i64 i2,.int .i64 o6]/\(bif !((b3==0)==(decide (o > 0)))then
 K (.bool false) f
 else
 Ac (fun f1=>(bif b3==0 then
 Ac (fun m=>(bif decide (l<0)then m [.bool true] f else(bif decide (l >= n)then m [.bool true] f else ∃ l3,Yx 83 (.slice h j i) (.int .i64 l) l3/\∃ e0,YD 4 l3 f (.bool e0)/\(bif e0 then m [.bool true] f else(bif i2 != (IntKind.i64.wrap (o-1))then m [.bool true] f else YC AR #[.pointer b,.int .i64 l] f fun o7 s6=>∃ d1,o7=.bool d1/\m [.bool (!d1)] s6))))) fun v7 l4 =>
 ∃ y,Ap v7 0=.bool y/\(bif y then
 K (.bool false) l4
 else
 ∃ j5,Yx 83 (.slice h j i) (.int .i64 l) j5/\∃ l5,YE 4 j5 (.bool true) l4 l5/\f1 [.bool y] l5)
 else
 f1 [Ap c 3] f)) fun v6 s7 =>
 f0 [Ap v6 0,Ap c 4,Ap c 5,Ap c 6,Ap c 7] s7)
 else
 Ac (fun f2=>(bif e==4 then
 f2 [.bool (e==4)] u
 else
 f2 [.bool (e==5)] u)) fun v8 d =>
 ∃ z,Ap v8 0=.bool z/\Ac (fun f3=>(bif z then
 Ac (fun a7=>∃ f7,Yi (Addr.add a 1) d f7/\(bif decide (f7 >= 0)then ∃ f8,Yi (Addr.add a 1) d f8/\(bif decide (f8<n)then ∃ f9,Yi (Addr.add a 1) d f9/\∃ j6,Yx 83 (.slice h j i) (.int .i64 f9) j6/\∃ d2,YD 4 j6 d (.bool d2)/\a7 [.bool d2] d else a7 [.bool false] d)else a7 [.bool false] d)) fun u7 v =>
 ∃ a0,Ap u7 0=.bool a0/\Ac (fun a8=>(bif a0 then
 ∃ g,Yi (Addr.add a 1) (Ah v) g/\(YC Bt #[.pointer b] (Ah v) fun o8 l6=>∃ i3,o8=.pointer i3/\YD 3 (Addr.add a 1) l6 (.int .i64 g)/\∃ c9 f5 e1 b5,Ru (Instr.buildSlice 88 1 #[(0,.int .u8 1)]) l6 (.slice c9 f5 e1) b5/\YD 3 (Addr.add a 1) b5 (.int .i64 g)/\YC E9 #[.pointer i3,.int .i64 g,.int .i64 0,.slice c9 f5 e1,.slice none 0 0] b5 fun p0 b6=>∃ g0 g2,p0=.tuple #[.int .i64 g0,.int .i64 g2]/\Ac (fun q=>(bif g2 != 0 then q [.bool true] b6 else ∃ g4,Yi (Addr.add a 1) b6 g4/\YC C7 #[.pointer b,.int .i64 g4,.int .i64 g0] b6 fun p2 l7=>∃ g6,p2=.int .i64 g6/\(bif g6 != 0 then q [.bool true] l7 else YC BM #[.pointer b] l7 fun p4 b7=>∃ g8,p4=.int .i64 g8/\(bif g8 != 0 then q [.bool true] b7 else ∃ h0,Yi (Addr.add a 1) b7 h0/\YC AR #[.pointer b,.int .i64 h0] b7 fun p6 s8=>∃ d3,p6=.bool d3/\q [.bool (!d3)] s8)))) fun u9 b8 =>
 ∃ a1,Ap u9 0=.bool a1/\(bif a1 then
 K (.bool false) b8
 else
 ∃ s,Yi (Addr.add a 1) (Ah b8) s/\YC Bt #[.pointer b] (Ah b8) fun p8 l8=>∃ i5,p8=.pointer i5/\YD 3 (Addr.add a 1) l8 (.int .i64 s)/\YC CC #[.pointer i5] l8 fun q0 l9=>∃ i7,q0=.pointer i7/\YD 3 (Addr.add a 1) l9 (.int .i64 s)/\YC CH #[.pointer i7,.int .i64 s] l9 fun q2 s9=>∃ n7,q2=.int .i64 n7/\YC Bt #[.pointer b] s9 fun q4 t1=>∃ i9,q4=.pointer i9/\YC CC #[.pointer i9] t1 fun q6 t2=>∃ j1,q6=.pointer j1/\YC CF #[.pointer j1] t2 fun q8 t3=>∃ n9,q8=.int .i64 n9/\YC BH #[.pointer b] t3 fun r0 t4=>∃ h2 o1,r0=.tuple #[.int .i64 h2,.int .i64 o1]/\Ac (fun a9=>YC BM #[.pointer b] t4 fun r2 b9=>∃ h4,r2=.int .i64 h4/\(bif h4 != 1 then a9 [.bool true] b9 else ∃ h6,Yi (Addr.add a 1) b9 h6/\YC AR #[.pointer b,.int .i64 h6] b9 fun r4 m0=>∃ d5,r4=.bool d5/\(bif d5 then a9 [.bool true] m0 else a9 [.bool (h2 != o)] m0))) fun v0 c0 =>
 ∃ a3,Ap v0 0=.bool a3/\(bif a3 then
 K (.bool false) c0
 else
 ∃ h8,Yi (Addr.add a 1) c0 h8/\∃ j7,Yx 83 (.slice h j i) (.int .i64 h8) j7/\∃ m1,YE 4 j7 (.bool false) c0 m1/\a8 [.bool a1,.bool a3] m1)))/\(∃ d0 f6 e2 c1,Ru (Instr.buildSlice 88 1 #[(0,.int .u8 1)]) (Ah v) (.slice d0 f6 e2) c1/\YD 3 (Addr.add a 1) c1 (.int .i64 g)/\YC Bt #[.pointer b] c1 fun o9 m2=>∃ i4,o9=.pointer i4/\YD 3 (Addr.add a 1) m2 (.int .i64 g)/\YC E9 #[.pointer i4,.int .i64 g,.int .i64 0,.slice d0 f6 e2,.slice none 0 0] m2 fun p1 c2=>∃ g1 g3,p1=.tuple #[.int .i64 g1,.int .i64 g3]/\Ac (fun r=>(bif g3 != 0 then r [.bool true] c2 else ∃ g5,Yi (Addr.add a 1) c2 g5/\YC C7 #[.pointer b,.int .i64 g5,.int .i64 g1] c2 fun p3 m4=>∃ g7,p3=.int .i64 g7/\(bif g7 != 0 then r [.bool true] m4 else YC BM #[.pointer b] m4 fun p5 c3=>∃ g9,p5=.int .i64 g9/\(bif g9 != 0 then r [.bool true] c3 else ∃ h1,Yi (Addr.add a 1) c3 h1/\YC AR #[.pointer b,.int .i64 h1] c3 fun p7 t5=>∃ d4,p7=.bool d4/\r [.bool (!d4)] t5)))) fun v1 c4 =>
 ∃ a2,Ap v1 0=.bool a2/\(bif a2 then
 K (.bool false) c4
 else
 ∃ t,Yi (Addr.add a 1) (Ah c4) t/\YC Bt #[.pointer b] (Ah c4) fun p9 m5=>∃ i6,p9=.pointer i6/\YD 3 (Addr.add a 1) m5 (.int .i64 t)/\YC CC #[.pointer i6] m5 fun q1 m6=>∃ i8,q1=.pointer i8/\YD 3 (Addr.add a 1) m6 (.int .i64 t)/\YC CH #[.pointer i8,.int .i64 t] m6 fun q3 t6=>∃ n8,q3=.int .i64 n8/\YC Bt #[.pointer b] t6 fun q5 t7=>∃ j0,q5=.pointer j0/\YC CC #[.pointer j0] t7 fun q7 t8=>∃ j2,q7=.pointer j2/\YC CF #[.pointer j2] t8 fun q9 t9=>∃ o0,q9=.int .i64 o0/\YC BH #[.pointer b] t9 fun r1 u0=>∃ h3 o2,r1=.tuple #[.int .i64 h3,.int .i64 o2]/\Ac (fun b0=>YC BM #[.pointer b] u0 fun r3 c5=>∃ h5,r3=.int .i64 h5/\(bif h5 != 1 then b0 [.bool true] c5 else ∃ h7,Yi (Addr.add a 1) c5 h7/\YC AR #[.pointer b,.int .i64 h7] c5 fun r5 m8=>∃ d6,r5=.bool d6/\(bif d6 then b0 [.bool true] m8 else b0 [.bool (h3 != o)] m8))) fun v2 c6 =>
 ∃ a4,Ap v2 0=.bool a4/\(bif a4 then
 K (.bool false) c6
 else
 ∃ h9,Yi (Addr.add a 1) c6 h9/\∃ j8,Yx 83 (.slice h j i) (.int .i64 h9) j8/\∃ m9,YE 4 j8 (.bool false) c6 m9/\a8 [.bool a2,.bool a4] m9)))
 else
 a8 [Ap c 6,Ap c 7] v)) fun n2 u1 =>
 f3 [.bool a0,Ap n2 0,Ap n2 1] u1
 else
 Ac (fun e6=>(bif e==8 then
 ∃ i0,Yi (Addr.add a 1) d i0/\∃ d7,YD 4 (Addr.add a 4) d (.bool d7)/\YC EC #[.pointer b,.int .i64 i0,.bool d7] d fun r6 u2=>∃ o3,r6=.int .i64 o3/\e6 [] u2
 else
 e6 [] d)) fun v9 u3 =>
 f3 [Ap c 5,Ap c 6,Ap c 7] u3)) fun c8 u4 =>
 f0 [Ap c 3,.bool z,Ap c8 0,Ap c8 1,Ap c8 2] u4)) fun p u5 =>
 n6 [.int .i64 (IntKind.i64.wrap (b2+1)),.bool a5,.bool a6,Ap p 0,Ap p 1,Ap p 2,Ap p 3,Ap p 4] u5
 else
 YC FF #[] c7 fun r7 u6=>∃ d8,r7=.bool d8/\K (.bool d8) u6)) [.int .i64 0,undef,undef,undef,undef,undef,undef,undef] m3)
theorem LH(g0:Array Value)(a1:YB)(l1 c1:Nat):Yz G0 #[.agg g0,.slice a1 l1 c1] (Gs g0 a1 l1 c1):=fun _ _ h=>Af (A:=⟨[10,48,62,110,114,132,163,192],[(10,3),(48,4),(62,4),(110,4),(114,4),(132,4),(163,4),(192,4)],[]⟩) Tryz.func9 h
def Tb(c:YB)(e:World)(K:YA):Prop :=
 (bif Option.isNone c then
 K (.pointer none) e
 else
 ∃ b f,Ru (Instr.makeMap 97 none) e (.map b) f/\∃ a,Al (Instr.build 99 #[(0,.pointer c),(1,.map b)]) (.agg a)/\∃ d g,Yb 99 (.agg a) f d g/\K (.pointer (some d)) g)
theorem Zu(p0:YB):Yz Ng #[.pointer p0] (Tb p0):=fun _ _ h=>Af (A:=⟨[],[],[]⟩) Tryz.func11 h
def Id(c:YB)(x:Int)(s:World)(K:YA):Prop :=
 (bif Option.isNone c then
 K (.tuple #[.int .i64 0,.int .i64 0,.int .i64 2]) s
 else
 YC Ci #[.pointer c,.int .i64 x] s fun z a4=>∃ i h,z=.tuple #[.agg i,.bool h]/\∃ a t,Yq 101 a4 a t/\∃ g,YE 101 a (.agg i) t g/\∃ d,Yg 101 a (Ah g) d/\YC Gw #[] (Ah g) fun a0 u=>∃ j,a0=.agg j/\YD 101 a u (.agg d)/\YC Ec #[.pointer c,.agg d,.bool h,.agg j] u fun a1 a5=>∃ l n e,a1=.tuple #[.agg l,.int .i64 n,.int .i64 e]/\∃ b,YE 101 a (.agg l) a5 b/\(bif e != 0 then
 K (.tuple #[.int .i64 0,.int .i64 0,.int .i64 e]) b
 else
 ∃ r,(.pointer c:Value)=.pointer (some r)/\∃ q,Yp 31 (Addr.add r 0) (Ah b) q/\∃ f,Yi (Addr.add a 0) (Ah b) f/\YC AY #[.pointer q] (Ah b) fun a2 v=>∃ m,a2=.agg m/\YD 3 (Addr.add a 0) v (.int .i64 f)/\YC ED #[.agg m,.int .i64 f] v fun a3 w=>∃ o y,a3=.tuple #[.int .i64 o,.int .i64 y]/\∃ p,Yi (Addr.add a 1) w p/\K (.tuple #[.int .i64 (IntKind.i64.wrap (o+p)),.int .i64 n,.int .i64 0]) w))
theorem O3(p0:YB)(n1:Int):Yz CD #[.pointer p0,.int .i64 n1] (Id p0 n1):=fun _ _ h=>Af (A:=⟨[],[],[]⟩) Tryz.func12 h
def IJ(c:YB)(w:Int)(t:World)(K:YA):Prop :=
 (bif Option.isNone c then
 K (.tuple #[.int .i64 0,.int .i64 0,.int .i64 2]) t
 else
 YC Eb #[.pointer c,.int .i64 w] t fun x a1=>∃ l j,x=.tuple #[.agg l,.bool j]/\∃ a u,Yq 101 a1 a u/\∃ h,YE 101 a (.agg l) u h/\∃ d,Yg 101 a (Ah h) d/\YC Hy #[] (Ah h) fun y v=>∃ m,y=.agg m/\YD 101 a v (.agg d)/\YC Ec #[.pointer c,.agg d,.bool j,.agg m] v fun z a2=>∃ n p e,z=.tuple #[.agg n,.int .i64 p,.int .i64 e]/\∃ b,YE 101 a (.agg n) a2 b/\(bif e != 0 then
 K (.tuple #[.int .i64 0,.int .i64 0,.int .i64 e]) b
 else
 ∃ f,Yi (Addr.add a 0) (Ah b) f/\∃ s,(.pointer c:Value)=.pointer (some s)/\∃ r,Yp 31 (Addr.add s 0) (Ah b) r/\∃ g,Yi (Addr.add a 1) (Ah b) g/\YC AY #[.pointer r] (Ah b) fun a0 i=>∃ o,a0=.agg o/\YD 3 (Addr.add a 0) i (.int .i64 f)/\YD 3 (Addr.add a 1) i (.int .i64 g)/\∃ q,Al (Instr.field 40 (.agg o) 1) (.int .i64 q)/\K (.tuple #[.int .i64 (IntKind.i64.wrap ((IntKind.i64.wrap (f*q))+g)),.int .i64 p,.int .i64 0]) i))
theorem Py(p0:YB)(n1:Int):Yz FC #[.pointer p0,.int .i64 n1] (IJ p0 n1):=fun _ _ h=>Af (A:=⟨[],[],[]⟩) Tryz.func13 h
def F9(c3:YB)(c8:World)(K:YA):Prop :=
 ∃ e b1,Yb 22 (.pointer c3) c8 e b1/\∃ b b6,Yq 3 b1 b b6/\∃ a b7,Yq 3 b6 a b7/\∃ b8,YE 3 b (.int .i64 0) b7 b8/\∃ c,YE 3 a (.int .i64 0) b8 c/\∃ a2,Yp 22 e c a2/\(bif Option.isNone a2 then
 ∃ s,Yi b (Ah c) s/\∃ t,Yi a (Ah c) t/\K (.tuple #[.int .i64 s,.int .i64 t]) (Ah c)
 else
 ∃ a3,Yp 22 e c a3/\∃ p,Al (Instr.build 101 #[]) (.agg p)/\YC Ea #[.pointer a3,.agg p,.bool false] c fun c4 d=>∃ b0:Value,c4=b0/\Y0 Tryz.prog b0 2 d (fun d1 b9 c0 c9 =>
 ∃ u,Ap d1 0=.int .i64 u/\b9 (fun o =>
 ∃ a4,Yp 22 e o a4/\∃ a8,(.pointer a4:Value)=.pointer (some a8)/\∃ a5,Yp 31 (Addr.add a8 0) o a5/\YC B1 #[.pointer a5,.int .i64 u] o fun c5 d0=>∃ q c2,c5=.tuple #[.agg q,.int .i64 c2]/\∃ g b2,Yq 119 d0 g b2/\∃ f,YE 119 g (.agg q) b2 f/\∃ a6,Yp 22 e (Ah f) a6/\∃ a9,(.pointer a6:Value)=.pointer (some a9)/\∃ a7,Yp 31 (Addr.add a9 0) (Ah f) a7/\∃ j,Yg 119 g (Ah f) j/\YC AY #[.pointer a7] (Ah f) fun c6 b3=>∃ r,c6=.agg r/\YD 119 g b3 (.agg j)/\YC I3 #[.agg r,.agg j] b3 fun c7 m=>∃ v w,c7=.tuple #[.int .i64 v,.int .i64 w]/\∃ x,Yi b (Ah m) x/\∃ l,Yi a (Ah m) l/\∃ n,YE 3 b (.int .i64 (IntKind.i64.wrap (x+v))) (Ah m) n/\YD 3 a n (.int .i64 l)/\∃ b4,YE 3 a (.int .i64 (IntKind.i64.wrap (l+w))) n b4/\c0 none b4) c9)
 (yG (fun h =>
 ∃ y,Yi b (Ah h) y/\∃ a0,Yi a (Ah h) a0/\(World.heap (Ah h))[(World.heap d).size]?=some (.deferred (some []))/\K (.tuple #[.int .i64 y,.int .i64 a0]) (World.putObj (Ah h) ((World.heap d).size) (.deferred none)))
 (fun c1 i =>
 (bif Nat.beq c1 0 then
 ∃ z,Yi b (Ah i) z/\∃ a1,Yi a (Ah i) a1/\(World.heap (Ah i))[(World.heap d).size]?=some (.deferred (some []))/\K (.tuple #[.int .i64 z,.int .i64 a1]) (World.putObj (Ah i) ((World.heap d).size) (.deferred none))
 else
 False))
 (fun b5 =>
 (World.heap b5)[(World.heap d).size]?=some (.deferred (some []))/\K (.tuple #[.int .i64 0,.int .i64 0]) (World.putObj b5 ((World.heap d).size) (.deferred none)))))
theorem Pw(p0:YB)(w0:World)(K:YA)(h:F9 p0 w0 K):A8 Tryz.prog BH #[.pointer p0] w0 K :=
 T0 (A:={ S:=[],ty:=[(18,3)],raw:=[] }) tX Tryz.func14 (by kernel_rfl) (by kernel_rfl) ((show jY Tryz.prog _ Tryz.f14 _ w0 K=F9 p0 w0 K by kernel_rfl).mpr h)
def Jx(b:YB)(a:World)(K:YA):Prop :=
 (bif Option.isNone b then
 K (.pointer none) a
 else
 ∃ d,(.pointer b:Value)=.pointer (some d)/\∃ c,Yp 31 (Addr.add d 0) a c/\K (.pointer c) a)
theorem Qj(p0:YB):Yz Bt #[.pointer p0] (Jx p0):=fun _ _ h=>Af (A:=⟨[],[],[]⟩) Tryz.func16 h
def FV(a:YB)(b:Int)(m:Int)(i:World)(K:YA):Prop :=
 (bif Option.isNone a then
 K (.int .i64 2) i
 else
 YC Ci #[.pointer a,.int .i64 b] i fun n q=>∃ e c,n=.tuple #[.agg e,.bool c]/\∃ h j,Yq 101 q h j/\∃ l,YE 101 h (.agg e) j l/\∃ f,Al (Instr.build 126 #[(0,.int .i64 1),(1,.int .i64 b)]) (.agg f)/\YC AR #[.pointer a,.int .i64 b] l fun o r=>∃ d,o=.bool d/\YC Ff #[.pointer a,.agg f,.bool c,.bool d,.int .i64 m] r fun p s=>∃ g,p=.int .i64 g/\K (.int .i64 g) s)
theorem Kq(p0:YB)(n1:Int)(n2:Int):Yz C7 #[.pointer p0,.int .i64 n1,.int .i64 n2] (FV p0 n1 n2):=fun _ _ h=>Af (A:=⟨[],[],[]⟩) Tryz.func17 h
def H7(a:YB)(h:World)(K:YA):Prop :=
 (bif Option.isNone a then
 K (.int .i64 0) h
 else
 ∃ a5,(.pointer a:Value)=.pointer (some a5)/\∃ a2,Yp 31 (Addr.add a5 0) (Ah h) a2/\∃ n,(.pointer a:Value)=.pointer (some n)/\∃ m,Yp 31 (Addr.add n 0) (Ah h) m/\YC EG #[.pointer a2] (Ah h) fun c0 a7=>∃ a3,c0=.pointer a3/\YD 31 (Addr.add n 0) a7 (.pointer m)/\YC CC #[.pointer m] a7 fun c1 d4=>∃ a4,c1=.pointer a4/\YC Hg #[.pointer a3,.pointer a4] d4 fun c2 d5=>∃ r d s,c2=.slice r d s/\A6 (fun b5 d7 p =>
 ∃ e,Ap d7 0=.int .i64 e/\(bif decide (e<(d:Int))then
 ∃ a6,Yx 128 (.slice r d s) (.int .i64 e) a6/\∃ t,Yg 126 a6 p t/\∃ c b1,Yq 126 p c b1/\∃ b,YE 126 c (.agg t) b1 b/\∃ l,Yi (Addr.add c 0) b l/\Ac (fun y=>(bif l==1 then
 ∃ a0,Yi (Addr.add c 1) b a0/\YC Ci #[.pointer a,.int .i64 a0] b fun c3 d6=>∃ u b3,c3=.tuple #[.agg u,.bool b3]/\∃ f b2,Yq 101 d6 f b2/\∃ q,YE 101 f (.agg u) b2 q/\∃ i,Yg 101 f (Ah q) i/\YC Gw #[] (Ah q) fun c4 a8=>∃ v,c4=.agg v/\YD 101 f a8 (.agg i)/\YC CV #[.pointer a,.agg i,.agg v,.bool false] a8 fun c5 c9=>∃ b6 b7,c5=.tuple #[.int .i64 b6,.int .i64 b7]/\y [] c9
 else
 Ac (fun z=>(bif l==2 then
 ∃ a1,Yi (Addr.add c 1) b a1/\YC Eb #[.pointer a,.int .i64 a1] b fun c6 d0=>∃ w b4,c6=.tuple #[.agg w,.bool b4]/\∃ g a9,Yq 101 d0 g a9/\∃ o,YE 101 g (.agg w) a9 o/\∃ j,Yg 101 g (Ah o) j/\YC Hy #[] (Ah o) fun c7 b0=>∃ x,c7=.agg x/\YD 101 g b0 (.agg j)/\YC CV #[.pointer a,.agg j,.agg x,.bool false] b0 fun c8 d1=>∃ b8 b9,c8=.tuple #[.int .i64 b8,.int .i64 b9]/\z [] d1
 else
 z [] b)) fun d9 d2 =>
 y [] d2)) fun d8 d3 =>
 b5 [.int .i64 (IntKind.i64.wrap (e+1))] d3
 else
 K (.int .i64 ((d:Int))) p)) [.int .i64 0] d5)
theorem MR(p0:YB):Yz BM #[.pointer p0] (H7 p0):=fun _ _ h=>Af (A:=⟨[25],[(25,3)],[]⟩) Tryz.func19 h
def H6(c:YB)(b:Int)(o:Bool)(a:World)(K:YA):Prop :=
 (bif Option.isNone c then
 K (.int .i64 2) a
 else
 Ac (fun g=>(bif decide (b<0)then g [.bool true] a else ∃ l,(.pointer c:Value)=.pointer (some l)/\∃ j,Yp 31 (Addr.add l 0) a j/\YC AY #[.pointer j] a fun p q=>∃ f,p=.agg f/\∃ i,Al (Instr.field 40 (.agg f) 2) (.int .i64 i)/\g [.bool (decide (b >= i))] q)) fun r d =>
 ∃ e,Ap r 0=.bool e/\(bif e then
 K (.int .i64 3) d
 else
 ∃ m,(.pointer c:Value)=.pointer (some m)/\∃ h,YD 97 (Addr.add m 1) d (.map h)/\∃ n,Eh (Instr.mapUpdate 97 (.map h) (.int .i64 b) (.bool o)) d n/\K (.int .i64 0) n))
theorem MQ(p0:YB)(n1:Int)(b2:Bool):Yz EC #[.pointer p0,.int .i64 n1,.bool b2] (H6 p0 n1 b2):=fun _ _ h=>Af (A:=⟨[10],[(10,4)],[]⟩) Tryz.func20 h
def Ie(n:YB)(a9:Int)(a7:World)(K:YA):Prop :=
 (bif Option.isNone n then
 K (.bool false) a7
 else
 YC Ci #[.pointer n,.int .i64 a9] a7 fun b0 b5=>∃ y j,b0=.tuple #[.agg y,.bool j]/\∃ a a8,Yq 101 b5 a a8/\∃ e,YE 101 a (.agg y) a8 e/\∃ g,(.pointer n:Value)=.pointer (some g)/\∃ c,Yp 31 (Addr.add g 0) (Ah e) c/\∃ b,Yi (Addr.add a 0) (Ah e) b/\(YC B1 #[.pointer c,.int .i64 b] (Ah e) fun b1 b9=>∃ z a3,b1=.tuple #[.agg z,.int .i64 a3]/\∃ o h,Yq 119 b9 o h/\YD 31 (Addr.add g 0) h (.pointer c)/\YD 3 (Addr.add a 0) h (.int .i64 b)/\∃ f,YE 119 o (.agg z) h f/\Ac (fun l=>(bif j then(bif a3==0 then ∃ q a1 w,Al (Instr.sliceAt 116 (.pointer (some (Addr.add o 1))) none none none) (.slice q a1 w)/\∃ a5,Yi (Addr.add a 1) (Ah f) a5/\YC FD #[.slice q a1 w,.int .i64 a5] (Ah f) fun b3 c0=>∃ s,b3=.bool s/\l [.bool s] c0 else l [.bool false] (Ah f))else l [.bool false] (Ah f))) fun c2 c1 =>
 ∃ u,Ap c2 0=.bool u/\K (.bool u) c1)/\(∃ p i,Yq 119 (Ah e) p i/\YD 31 (Addr.add g 0) i (.pointer c)/\YD 3 (Addr.add a 0) i (.int .i64 b)/\YC B1 #[.pointer c,.int .i64 b] i fun b2 b6=>∃ a0 a4,b2=.tuple #[.agg a0,.int .i64 a4]/\∃ d,YE 119 p (.agg a0) b6 d/\Ac (fun m=>(bif j then(bif a4==0 then ∃ r a2 x,Al (Instr.sliceAt 116 (.pointer (some (Addr.add p 1))) none none none) (.slice r a2 x)/\∃ a6,Yi (Addr.add a 1) (Ah d) a6/\YC FD #[.slice r a2 x,.int .i64 a6] (Ah d) fun b4 b7=>∃ t,b4=.bool t/\m [.bool t] b7 else m [.bool false] (Ah d))else m [.bool false] (Ah d))) fun c3 b8 =>
 ∃ v,Ap c3 0=.bool v/\K (.bool v) b8))
theorem O4(p0:YB)(n1:Int):Yz AR #[.pointer p0,.int .i64 n1] (Ie p0 n1):=fun _ _ h=>Af (A:=⟨[4],[(4,4)],[]⟩) Tryz.func22 h
def IQ(a4:World)(K:YA):Prop :=
 ∃ i,Al (Instr.build 40 #[(0,.int .i64 16),(1,.int .i64 8),(2,.int .i64 2)]) (.agg i)/\YC E5 #[.agg i] a4 fun x u=>∃ c w f,x=.tuple #[.pointer c,.pointer w,.bool f]/\(bif !f then
 K (.bool false) u
 else
 YC CD #[.pointer c,.int .i64 0] u fun y a5=>∃ d j l,y=.tuple #[.int .i64 d,.int .i64 j,.int .i64 l]/\YC CD #[.pointer c,.int .i64 d] a5 fun z a6=>∃ m n o,z=.tuple #[.int .i64 m,.int .i64 n,.int .i64 o]/\YC FC #[.pointer c,.int .i64 1] a6 fun a0 a7=>∃ p q r,a0=.tuple #[.int .i64 p,.int .i64 q,.int .i64 r]/\YC BH #[.pointer c] a7 fun a1 b=>∃ s t,a1=.tuple #[.int .i64 s,.int .i64 t]/\Ac (fun a=>(bif d==5 then(bif j==1 then(bif l==0 then(bif m==6 then(bif n==2 then(bif o==0 then(bif p==2 then(bif q==3 then(bif r==0 then(bif s==24 then(bif t==13 then YC AR #[.pointer c,.int .i64 5] b fun a2 v=>∃ g,a2=.bool g/\(bif g then YC AR #[.pointer c,.int .i64 7] v fun a3 a8=>∃ h,a3=.bool h/\a [.bool (!h)] a8 else a [.bool false] v)else a [.bool false] b)else a [.bool false] b)else a [.bool false] b)else a [.bool false] b)else a [.bool false] b)else a [.bool false] b)else a [.bool false] b)else a [.bool false] b)else a [.bool false] b)else a [.bool false] b)else a [.bool false] b)) fun b0 a9 =>
 ∃ e,Ap b0 0=.bool e/\K (.bool e) a9)
theorem P8(w0:World)(K:YA)(h:IQ  w0 K):A8 Tryz.prog FF #[] w0 K :=
 Af (A:=⟨[0],[(0,4)],[]⟩) Tryz.func23 h
def Ph(i:YB)(l:World)(K:YA):Prop :=
 ∃ a b,Yq 40 l a b/\(bif Option.isNone i then
 ∃ f,Al (Instr.build 40 #[]) (.agg f)/\∃ c,YE 40 a (.agg f) b c/\∃ g,Yg 40 a c g/\K (.agg g) c
 else
 ∃ j,(.pointer i:Value)=.pointer (some j)/\∃ e,Yg 40 (Addr.add (Addr.add j 0) 1) b e/\∃ d,YE 40 a (.agg e) b d/\∃ h,Yg 40 a d h/\K (.agg h) d)
theorem W6(p0:YB):Yz AY #[.pointer p0] (Ph p0):=fun _ _ h=>Af (A:=⟨[],[],[]⟩) Tryz.func30 h
def J6(b9:Array Value)(d7:World)(K:YA):Prop :=
 ∃ a g,Yb 40 (.agg b9) d7 a g/\Ac (fun x=>∃ q,Yg 40 a g q/\YC A0 #[.agg q] g fun c4 i=>∃ l,c4=.bool l/\(bif !l then x [.bool true] i else ∃ r,Yg 40 a i r/\YC Bu #[.agg r] i fun c5 e2=>∃ a1,c5=.int .i64 a1/\x [.bool (decide (a1 > 200))] e2)) fun e5 b5 =>
 ∃ m,Ap e5 0=.bool m/\Ac (fun y=>(bif m then
 ∃ s,Al (Instr.build 40 #[(0,.int .i64 16),(1,.int .i64 8),(2,.int .i64 2)]) (.agg s)/\∃ b6,YE 40 a (.agg s) b5 b6/\y [] b6
 else
 y [] b5)) fun e7 b7 =>
 ∃ t,Yg 40 a b7 t/\YC Bu #[.agg t] b7 fun c6 e3=>∃ a2,c6=.int .i64 a2/\YC PP #[.int .i64 a2] e3 fun c7 b8=>∃ c c0,c7=.tuple #[.pointer c,.int .i64 c0]/\∃ u,Yg 40 a b8 u/\YC Bu #[.agg u] b8 fun c8 e4=>∃ a3,c8=.int .i64 a3/\YC Ha #[.int .i64 a3] e4 fun c9 b0=>∃ d c1,c9=.tuple #[.pointer d,.int .i64 c1]/\∃ v,Yg 40 a b0 v/\YC LS #[.pointer c,.agg v] b0 fun d0 b1=>∃ c2,d0=.int .i64 c2/\∃ w,Yg 40 a b1 w/\YC Fm #[.pointer d,.agg w] b1 fun d1 d8=>∃ c3,d1=.int .i64 c3/\YC Nq #[.pointer c] d8 fun d2 d9=>∃ e a4,d2=.tuple #[.pointer e,.int .i64 a4]/\YC FK #[.pointer d] d9 fun d3 b2=>∃ a8 a5,d3=.tuple #[.pointer a8,.int .i64 a5]/\Ac (fun z=>(bif a4 != 0 then z [.bool true] b2 else z [.bool (a5 != 0)] b2)) fun e6 b3 =>
 ∃ o,Ap e6 0=.bool o/\(bif o then
 K (.tuple #[.pointer none,.pointer none,.bool false]) b3
 else
 YC Ng #[.pointer e] b3 fun d4 e0=>∃ b,d4=.pointer b/\Ac (fun a0=>YC KJ #[.pointer a8] e0 fun d5 b4=>∃ f,d5=.pointer f/\(bif !(Option.isNone b)then YC Bt #[.pointer b] b4 fun d6 h=>∃ a9,d6=.pointer a9/\∃ p,Ru (Gp .eql 31 (.tmp 66) (.tmp 67) (.pointer a9) (.pointer e)) h (.bool p) h/\a0 [.pointer b,.pointer f,.bool p] h else a0 [.pointer b,.pointer f,.bool false] b4)) fun j e1 =>
 ∃ a6,Ap j 0=.pointer a6/\∃ a7,Ap j 1=.pointer a7/\∃ n,Ap j 2=.bool n/\K (.tuple #[.pointer a6,.pointer a7,.bool n]) e1)
theorem Qt(g0:Array Value):Yz E5 #[.agg g0] (J6 g0):=fun _ _ h=>Af (A:=⟨[2,3,4,21,56],[(2,22),(3,71),(4,4),(21,4),(56,4)],[]⟩) Tryz.func45 h
def JA(h:Array Value)(j:World)(K:YA):Prop :=
 ∃ a c,Yb 40 (.agg h) j a c/\∃ e,Yg 40 a c e/\YC A0 #[.agg e] c fun i b=>∃ d,i=.bool d/\(bif !d then
 K (.int .i64 0) b
 else
 ∃ f,Yi (Addr.add a 2) b f/\∃ g,Yi (Addr.add a 0) b g/\K (.int .i64 (IntKind.i64.wrap (2+(IntKind.i64.wrap (f*g))))) b)
theorem Qx(g0:Array Value):Yz Bu #[.agg g0] (JA g0):=fun _ _ h=>Af (A:=⟨[],[],[]⟩) Tryz.func46 h
def JJ(f:YB)(c:Int)(p:Int)(i:YB)(n l:Nat)(j:YB)(o m:Nat)(s:World)(K:YA):Prop :=
 YC Ji #[.pointer f,.int .i64 c] s fun q b=>∃ a,q=.int .i64 a/\(bif a != 0 then
 K (.tuple #[.int .i64 0,.int .i64 a]) b
 else
 ∃ h,(.pointer f:Value)=.pointer (some h)/\∃ g,Yp 89 (Addr.add h 4) b g/\YC CG #[.pointer g,.int .i64 c,.int .i64 p,.slice i n l,.slice j o m] b fun r t=>∃ d e,r=.tuple #[.int .i64 d,.int .i64 e]/\K (.tuple #[.int .i64 d,.int .i64 e]) t)
theorem Q6(p0:YB)(n1:Int)(n2:Int)(a3:YB)(l3 c3:Nat)(a4:YB)(l4 c4:Nat):Yz E9 #[.pointer p0,.int .i64 n1,.int .i64 n2,.slice a3 l3 c3,.slice a4 l4 c4] (JJ p0 n1 n2 a3 l3 c3 a4 l4 c4):=fun _ _ h=>Af (A:=⟨[],[],[]⟩) Tryz.func47 h
def Mw(b:YB)(a:World)(K:YA):Prop :=
 (bif Option.isNone b then
 K (.pointer none) a
 else
 ∃ d,(.pointer b:Value)=.pointer (some d)/\∃ c,Yp 89 (Addr.add d 4) a c/\K (.pointer c) a)
theorem TS(p0:YB):Yz CC #[.pointer p0] (Mw p0):=fun _ _ h=>Af (A:=⟨[],[],[]⟩) Tryz.func48 h
def Is(a:YB)(c:Int)(i:World)(K:YA):Prop :=
 (bif Option.isNone a then
 K (.int .i64 2) i
 else
 Ac (fun v=>(bif decide (c<0)then v [.bool true] i else ∃ b0,(.pointer a:Value)=.pointer (some b0)/\∃ a3,Yi (Addr.add b0 1) i a3/\v [.bool (decide (c >= a3))] i)) fun c9 d =>
 ∃ q,Ap c9 0=.bool q/\(bif q then
 K (.int .i64 3) d
 else
 ∃ b1,(.pointer a:Value)=.pointer (some b1)/\∃ z,YD 162 (Addr.add b1 4) d (.map z)/\∃ a6,Ru (Instr.lookup 162 (.map z) (.int .i64 c) false) d (.pointer a6) d/\(bif Option.isNone a6 then
 K (.int .i64 20) d
 else
 YC Fp #[.pointer a,.int .i64 c] d fun c4 n=>∃ o y t l,c4=.tuple #[.slice o y t,.int .i64 l]/\Ac (fun w=>(bif l==0 then
 ∃ b2,(.pointer a:Value)=.pointer (some b2)/\∃ a7,Yp 160 (Addr.add b2 0) n a7/\YC Fi #[.pointer a7,.int .i64 c,.slice o y t] n fun c5 c7=>∃ a4,c5=.int .i64 a4/\w [.int .i64 a4] c7
 else
 w [.int .i64 l] n)) fun d0 f =>
 ∃ m,Ap d0 0=.int .i64 m/\(bif m != 0 then
 K (.int .i64 m) f
 else
 ∃ b3,(.pointer a:Value)=.pointer (some b3)/\∃ a0,YD 162 (Addr.add b3 4) f (.map a0)/\∃ a8,Ru (Instr.lookup 162 (.map a0) (.int .i64 c) false) f (.pointer a8) f/\YC E8 #[.pointer a,.pointer a8] f fun c6 g=>∃ a1,c6=.map a1/\∃ b4,(.pointer a:Value)=.pointer (some b4)/\∃ a2,YD 162 (Addr.add b4 4) g (.map a2)/\∃ a9,Ru (Instr.lookup 162 (.map a2) (.int .i64 c) false) g (.pointer a9) g/\∃ b5,(.pointer a9:Value)=.pointer (some b5)/\∃(p:YB)(j u:Nat),YD 169 (Addr.add b5 1) g (.slice p j u)/\A6 (fun c3 d1 b =>
 ∃ h,Ap d1 0=.int .i64 h/\(bif decide (h<(j:Int))then
 ∃ b6,Yx 169 (.slice p j u) (.int .i64 h) b6/\∃ e,Yp 172 b6 b e/\Ac (fun x=>∃ b7,(.pointer e:Value)=.pointer (some b7)/\∃ r,YD 4 (Addr.add b7 5) b (.bool r)/\(bif r then ∃ b9,(.pointer e:Value)=.pointer (some b9)/\∃ c1,YE 4 (Addr.add b9 5) (.bool true) b c1/\x [] c1 else ∃ b8,(.pointer e:Value)=.pointer (some b8)/\∃ a5,YD 2 (Addr.add b8 0) b (.int .i64 a5)/\∃ s,Ru (Instr.lookup 167 (.map a1) (.int .i64 a5) false) b (.bool s) b/\∃ c0,(.pointer e:Value)=.pointer (some c0)/\∃ c2,YE 4 (Addr.add c0 5) (.bool s) b c2/\x [] c2)) fun d2 c8 =>
 c3 [.int .i64 (IntKind.i64.wrap (h+1))] c8
 else
 K (.int .i64 0) b)) [.int .i64 0] g))))
theorem OK(p0:YB)(n1:Int):Yz CH #[.pointer p0,.int .i64 n1] (Is p0 n1):=fun _ _ h=>Af (A:=⟨[6,13,68],[(6,24),(13,4),(68,3)],[]⟩) Tryz.func49 h
def Ip(c:YB)(n:World)(K:YA):Prop :=
 (bif Option.isNone c then
 K (.int .i64 2) n
 else
 ∃ b3,(.pointer c:Value)=.pointer (some b3)/\∃ b1,Yp 160 (Addr.add b3 0) n b1/\YC Fg #[.pointer b1] n fun d4 o=>∃ h,d4=.int .i64 h/\(bif h != 0 then
 K (.int .i64 h) o
 else
 ∃ b4,(.pointer c:Value)=.pointer (some b4)/\∃ a7,YD 162 (Addr.add b4 4) o (.map a7)/\∃ l c7,Ru (Instr.range 162 (.map a7)) o (.pointer (some l)) c7/\A6 (fun d1 e5 e1 =>
 ∃ c6:Value,∃ f,Ru (Instr.next (.pointer (some l)) false 0) e1 c6 f/\∃ v,Al (Instr.extract c6 0) (.bool v)/\(bif v then
 ∃ m:Value,Ru (Instr.entry (.pointer (some l))) f m f/\∃ i,Al (Instr.extract m 0) (.int .i64 i)/\∃ b,Al (Instr.extract m 1) (.pointer b)/\YC F3 #[.pointer b,.func (.func GS) #[] #[]] f fun d5 e2=>∃ r a3 x,d5=.slice r a3 x/\∃ b5,(.pointer b:Value)=.pointer (some b5)/\∃ q,YE 88 (Addr.add b5 0) (.slice r a3 x) e2 q/\∃ b6,(.pointer b:Value)=.pointer (some b6)/\∃(s:YB)(g y:Nat),YD 169 (Addr.add b6 1) q (.slice s g y)/\A6 (fun d2 e4 a =>
 ∃ d,Ap e4 0=.int .i64 d/\(bif decide (d<(g:Int))then
 ∃ b7,Yx 169 (.slice s g y) (.int .i64 d) b7/\∃ j,Yp 172 b7 a j/\∃ b8,(.pointer j:Value)=.pointer (some b8)/\∃ w,YD 4 (Addr.add b8 5) a (.bool w)/\Ac (fun a1=>(bif w then
 ∃ b9,(.pointer c:Value)=.pointer (some b9)/\∃ a8,YD 161 (Addr.add b9 3) (Ah a) (.map a8)/\∃ c0,(.pointer j:Value)=.pointer (some c0)/\∃ b0,YD 2 (Addr.add c0 0) (Ah a) (.int .i64 b0)/\∃ c8,Ru (Builtin.delete_ #[161,2] 0 #[.map a8,.int .i64 b0]) (Ah a) (.tuple #[]) c8/\a1 [] c8
 else
 a1 [] a)) fun e6 e3 =>
 d2 [.int .i64 (IntKind.i64.wrap (d+1))] e3
 else
 ∃ c1,(.pointer b:Value)=.pointer (some c1)/\∃(t:YB)(a4 z:Nat),YD 169 (Addr.add c1 1) a (.slice t a4 z)/\YC BZ #[.slice t a4 z,.func (.func Df) #[] #[]] a fun d6 d8=>∃ u a5 a0,d6=.slice u a5 a0/\∃ c2,(.pointer b:Value)=.pointer (some c2)/\∃ e,YE 169 (Addr.add c2 1) (.slice u a5 a0) d8 e/\∃ c3,(.pointer b:Value)=.pointer (some c3)/\∃(c9:YB)(a6 d0:Nat),YD 169 (Addr.add c3 1) e (.slice c9 a6 d0)/\Ac (fun a2=>(bif (a6:Int)==0 then
 ∃ c4,(.pointer c:Value)=.pointer (some c4)/\∃ a9,YD 162 (Addr.add c4 4) e (.map a9)/\∃ p,Ru (Builtin.delete_ #[162,3] 0 #[.map a9,.int .i64 i]) e (.tuple #[]) p/\∃ c5,(.pointer c:Value)=.pointer (some c5)/\∃ b2,Yp 160 (Addr.add c5 0) p b2/\YC Fh #[.pointer b2,.int .i64 i] p fun d7 d9=>∃ d3,d7=.int .i64 d3/\a2 [] d9
 else
 a2 [] e)) fun e7 e0 =>
 d1 [.int .i64 d] e0)) [.int .i64 0] q
 else
 K (.int .i64 0) f)) [undef] c7))
theorem OH(p0:YB):Yz CF #[.pointer p0] (Ip p0):=fun _ _ h=>Af (A:=⟨[38],[(38,3)],[23,25]⟩) Tryz.func50 h
def Jb(f:YB)(i:Int)(a:World)(K:YA):Prop :=
 (bif Option.isNone f then
 K (.tuple #[.slice none 0 0,.int .i64 2]) a
 else
 ∃ h,(.pointer f:Value)=.pointer (some h)/\∃ g,Yp 160 (Addr.add h 0) a g/\YC Ed #[.pointer g,.int .i64 i] a fun j l=>∃ b d c e,j=.tuple #[.slice b d c,.int .i64 e]/\K (.tuple #[.slice b d c,.int .i64 e]) l)
theorem PK(p0:YB)(n1:Int):Yz B0 #[.pointer p0,.int .i64 n1] (Jb p0 n1):=fun _ _ h=>Af (A:=⟨[],[],[]⟩) Tryz.func56 h
def FZ(c:YB)(f:Int)(c1:World)(K:YA):Prop :=
 YC Dz #[.pointer c,.int .i64 f] c1 fun b9 d=>∃ o,b9=.bool o/\(bif !o then
 K (.tuple #[.slice none 0 0,.int .i64 3]) d
 else
 ∃ a7,(.pointer c:Value)=.pointer (some a7)/\∃(g:YB)(y p:Nat),YD 178 (Addr.add a7 1) d (.slice g y p)/\∃ a8,Yx 178 (.slice g y p) (.int .i64 f) a8/\∃ b4:ByteArray,YD 9 a8 d (.string b4)/\∃ h z q b5,Ru (convert 9 88 (.string b4)) d (.slice h z q) b5/\A6 (fun b8 e a =>
 ∃ b,Ap e 1=.int .i64 b/\∃ a9,(.pointer c:Value)=.pointer (some a9)/\∃(b6:YB)(a0 b7:Nat),YD 179 (Addr.add a9 2) a (.slice b6 a0 b7)/\(bif decide (b<(a0:Int))then
 ∃ b0,(.pointer c:Value)=.pointer (some b0)/\∃(i:YB)(a1 r:Nat),YD 179 (Addr.add b0 2) a (.slice i a1 r)/\∃ b1,Yx 179 (.slice i a1 r) (.int .i64 b) b1/\∃ a6,Yi (Addr.add b1 1) a a6/\Ac (fun x=>(bif a6==f then
 ∃ m a4 u,Ap e 0=.slice m a4 u/\∃ b2,(.pointer c:Value)=.pointer (some b2)/\∃(j:YB)(a2 s:Nat),YD 179 (Addr.add b2 2) a (.slice j a2 s)/\∃ b3,Yx 179 (.slice j a2 s) (.int .i64 b) b3/\∃ w,Yg 189 b3 a w/\YC G5 #[.slice m a4 u,.agg w] a fun c0 c2=>∃ l a3 t,c0=.slice l a3 t/\x [.slice l a3 t] c2
 else
 x [Ap e 0] a)) fun c4 c3 =>
 b8 [Ap c4 0,.int .i64 (IntKind.i64.wrap (b+1))] c3
 else
 ∃ n a5 v,Ap e 0=.slice n a5 v/\K (.tuple #[.slice n a5 v,.int .i64 0]) a)) [.slice h z q,.int .i64 0] b5)
theorem Kv(p0:YB)(n1:Int):Yz BP #[.pointer p0,.int .i64 n1] (FZ p0 n1):=fun _ _ h=>Af (A:=⟨[6,7],[(6,88),(7,3)],[]⟩) Tryz.func57 h
def If(q:YB)(n:Int)(a0:World)(K:YA):Prop :=
 ∃ a c,Yq 101 a0 a c/\∃ t,(.pointer q:Value)=.pointer (some t)/\∃ r,Yp 31 (Addr.add t 0) c r/\YC AY #[.pointer r] c fun w a1=>∃ g,w=.agg g/\YC LN #[.agg g,.int .i64 n] a1 fun x d=>∃ o b,x=.tuple #[.int .i64 o,.int .i64 b]/\(bif o != 4 then
 ∃ h,Al (Instr.build 101 #[]) (.agg h)/\∃ e,YE 101 a (.agg h) d e/\∃ l,Yg 101 a e l/\K (.tuple #[.agg l,.bool false]) e
 else
 ∃ u,(.pointer q:Value)=.pointer (some u)/\∃ s,Yp 31 (Addr.add u 0) d s/\YC AY #[.pointer s] d fun y a2=>∃ i,y=.agg i/\YC ED #[.agg i,.int .i64 b] a2 fun z a3=>∃ p v,z=.tuple #[.int .i64 p,.int .i64 v]/\∃ j,Al (Instr.build 101 #[(0,.int .i64 b),(1,.int .i64 (IntKind.i64.wrap (n-p)))]) (.agg j)/\∃ f,YE 101 a (.agg j) a3 f/\∃ m,Yg 101 a f m/\K (.tuple #[.agg m,.bool true]) f)
theorem O5(p0:YB)(n1:Int):Yz Ci #[.pointer p0,.int .i64 n1] (If p0 n1):=fun _ _ h=>Af (A:=⟨[],[],[]⟩) Tryz.func58 h
def FA(e9:YB)(e6:Array Value)(e4:Bool)(e7:Array Value)(f5:World)(K:YA):Prop :=
 ∃ h c7,Yb 22 (.pointer e9) f5 h c7/\∃ c5 d3,Yb 101 (.agg e6) c7 c5 d3/\∃ n e0,Yb 109 (.agg e7) d3 n e0/\∃ c e1,Yq 101 e0 c e1/\∃ d e2,Yq 2 e1 d e2/\∃ b p,Yq 24 e2 b p/\∃ b7,Yp 22 h p b7/\∃ w,Yg 101 c5 p w/\YC Ea #[.pointer b7,.agg w,.bool e4] p fun f0 a=>∃ c6:Value,f0=c6/\Y0 Tryz.prog c6 2 a (fun e3 e5 q g0 =>
 ∃ j,Ap e3 0=.int .i64 j/\∃ a8,Ap e3 1=.int .i64 a8/\e5 (fun v =>
 ∃ b8,Yp 22 h v b8/\∃ c3,(.pointer b8:Value)=.pointer (some c3)/\∃ b9,Yp 31 (Addr.add c3 0) v b9/\YC B1 #[.pointer b9,.int .i64 j] v fun f1 f6=>∃ x s,f1=.tuple #[.agg x,.int .i64 s]/\∃ m c8,Yq 119 f6 m c8/\∃ e,YE 119 m (.agg x) c8 e/\(bif s != 0 then
 ∃ y,Al (Instr.build 101 #[]) (.agg y)/\∃ c9,YE 101 c (.agg y) e c9/\∃ d0,YE 2 d (.int .i64 0) c9 d0/\∃ d1,YE 24 b (.int .i64 s) d0 d1/\q (some Code.ret) d1
 else
 ∃ t:Value,YD 106 (Addr.add n 0) (Ah e) t/\∃ c0,Yp 22 h (Ah e) c0/\∃ c4,(.pointer c0:Value)=.pointer (some c4)/\∃ c1,Yp 31 (Addr.add c4 0) (Ah e) c1/\∃ r,Yg 119 m (Ah e) r/\YC AY #[.pointer c1] (Ah e) fun f2 u=>∃ z,f2=.agg z/\YD 106 (Addr.add n 0) u t/\YD 119 m u (.agg r)/\WN Tryz.prog t #[.agg z,.agg r,.int .i64 a8] u fun f3 o=>∃ l,f3=.int .i64 l/\(bif decide (l >= 0)then
 ∃ c2,Yp 22 h o c2/\∃ a0,Al (Instr.build 101 #[(0,.int .i64 j),(1,.int .i64 l)]) (.agg a0)/\∃ a1,Yg 109 n o a1/\YC CV #[.pointer c2,.agg a0,.agg a1,.bool true] o fun f4 f7=>∃ a9 b0,f4=.tuple #[.int .i64 a9,.int .i64 b0]/\∃ a2,Al (Instr.build 101 #[(0,.int .i64 j),(1,.int .i64 l)]) (.agg a2)/\∃ d2,YE 101 c (.agg a2) f7 d2/\∃ d4,YE 2 d (.int .i64 a9) d2 d4/\∃ d5,YE 24 b (.int .i64 b0) d4 d5/\q (some Code.ret) d5
 else
 q none o))) g0)
 (yG (fun f8 =>
 ∃ a3,Al (Instr.build 101 #[]) (.agg a3)/\∃ d6,YE 101 c (.agg a3) f8 d6/\∃ d7,YE 2 d (.int .i64 0) d6 d7/\∃ f,YE 24 b (.int .i64 26) d7 f/\(World.heap f)[(World.heap a).size]?=some (.deferred (some []))/\∃ a5,YD 101 c (World.putObj f ((World.heap a).size) (.deferred none)) (.agg a5)/\∃ b4,YD 2 d (World.putObj f ((World.heap a).size) (.deferred none)) (.int .i64 b4)/\∃ b1,YD 24 b (World.putObj f ((World.heap a).size) (.deferred none)) (.int .i64 b1)/\K (.tuple #[.agg a5,.int .i64 b4,.int .i64 b1]) (World.putObj f ((World.heap a).size) (.deferred none)))
 (fun e8 f9 =>
 (bif Nat.beq e8 0 then
 ∃ a4,Al (Instr.build 101 #[]) (.agg a4)/\∃ d8,YE 101 c (.agg a4) f9 d8/\∃ d9,YE 2 d (.int .i64 0) d8 d9/\∃ g,YE 24 b (.int .i64 26) d9 g/\(World.heap g)[(World.heap a).size]?=some (.deferred (some []))/\∃ a6,YD 101 c (World.putObj g ((World.heap a).size) (.deferred none)) (.agg a6)/\∃ b5,YD 2 d (World.putObj g ((World.heap a).size) (.deferred none)) (.int .i64 b5)/\∃ b2,YD 24 b (World.putObj g ((World.heap a).size) (.deferred none)) (.int .i64 b2)/\K (.tuple #[.agg a6,.int .i64 b5,.int .i64 b2]) (World.putObj g ((World.heap a).size) (.deferred none))
 else
 False))
 (fun i =>
 (World.heap i)[(World.heap a).size]?=some (.deferred (some []))/\∃ a7,YD 101 c (World.putObj i ((World.heap a).size) (.deferred none)) (.agg a7)/\∃ b6,YD 2 d (World.putObj i ((World.heap a).size) (.deferred none)) (.int .i64 b6)/\∃ b3,YD 24 b (World.putObj i ((World.heap a).size) (.deferred none)) (.int .i64 b3)/\K (.tuple #[.agg a7,.int .i64 b6,.int .i64 b3]) (World.putObj i ((World.heap a).size) (.deferred none))))
theorem P4(p0:YB)(g1:Array Value)(b2:Bool)(g3:Array Value)(w0:World)(K:YA)(h:FA p0 g1 b2 g3 w0 K):A8 Tryz.prog Ec #[.pointer p0,.agg g1,.bool b2,.agg g3] w0 K :=
 T0 (A:={ S:=[],ty:=[(22,3),(23,3)],raw:=[] }) tX Tryz.func59 (by kernel_rfl) (by kernel_rfl) ((show jY Tryz.prog _ Tryz.f59 _ w0 K=FA p0 g1 b2 g3 w0 K by kernel_rfl).mpr h)
def MX(f:World)(K:YA):Prop :=
 ∃ a e,Yq 109 f a e/\∃ c,Al (Instr.build 109 #[(0,.func (.func E4) #[] #[]),(1,.func (.func ET) #[] #[])]) (.agg c)/\∃ b,YE 109 a (.agg c) e b/\∃ d,Yg 109 a b d/\K (.agg d) b
theorem U8(w0:World)(K:YA)(h:MX  w0 K):A8 Tryz.prog Gw #[] w0 K :=
 Af (A:=⟨[],[],[]⟩) Tryz.func60 h
def UG(m:Array Value)(c:Int)(o:World)(K:YA):Prop :=
 ∃ a d,Yb 40 (.agg m) o a d/\∃ h,Yg 40 a d h/\YC DS #[.agg h] d fun n b=>∃ g,n=.bool g/\(bif !g then
 K (.tuple #[.int .i64 0,.int .i64 1]) b
 else
 Ac (fun i=>(bif decide (c<0)then i [.bool true] b else ∃ j,Yi (Addr.add a 2) b j/\i [.bool (decide (c >= j))] b)) fun p e =>
 ∃ f,Ap p 0=.bool f/\(bif f then
 K (.tuple #[.int .i64 0,.int .i64 3]) e
 else
 ∃ l,Yi (Addr.add a 0) e l/\K (.tuple #[.int .i64 (IntKind.i64.wrap (2+(IntKind.i64.wrap (c*l)))),.int .i64 0]) e))
theorem eP(g0:Array Value)(n1:Int):Yz ED #[.agg g0,.int .i64 n1] (UG g0 n1):=fun _ _ h=>Af (A:=⟨[10],[(10,4)],[]⟩) Tryz.func61 h
def IL(q:YB)(n:Int)(y:World)(K:YA):Prop :=
 ∃ a c,Yq 101 y a c/\∃ u,(.pointer q:Value)=.pointer (some u)/\∃ r,Yp 31 (Addr.add u 0) c r/\YC AY #[.pointer r] c fun v z=>∃ g,v=.agg g/\YC UM #[.agg g,.int .i64 n] z fun w d=>∃ b,w=.int .i64 b/\(bif decide (b<0)then
 ∃ h,Al (Instr.build 101 #[]) (.agg h)/\∃ e,YE 101 a (.agg h) d e/\∃ l,Yg 101 a e l/\K (.tuple #[.agg l,.bool false]) e
 else
 ∃ t,(.pointer q:Value)=.pointer (some t)/\∃ s,Yp 31 (Addr.add t 0) d s/\YC AY #[.pointer s] d fun x a0=>∃ i,x=.agg i/\∃ o,Al (Instr.field 40 (.agg i) 1) (.int .i64 o)/\∃ p,Al (Gp .rem 3 (.tmp 18) (.tmp 24) (.int .i64 n) (.int .i64 o)) (.int .i64 p)/\∃ j,Al (Instr.build 101 #[(0,.int .i64 b),(1,.int .i64 p)]) (.agg j)/\∃ f,YE 101 a (.agg j) a0 f/\∃ m,Yg 101 a f m/\K (.tuple #[.agg m,.bool true]) f)
theorem P3(p0:YB)(n1:Int):Yz Eb #[.pointer p0,.int .i64 n1] (IL p0 n1):=fun _ _ h=>Af (A:=⟨[],[],[]⟩) Tryz.func62 h
def Pb(f:World)(K:YA):Prop :=
 ∃ a e,Yq 109 f a e/\∃ c,Al (Instr.build 109 #[(0,.func (.func ES) #[] #[]),(1,.func (.func F2) #[] #[])]) (.agg c)/\∃ b,YE 109 a (.agg c) e b/\∃ d,Yg 109 a b d/\K (.agg d) b
theorem Wx(w0:World)(K:YA)(h:Pb  w0 K):A8 Tryz.prog Hy #[] w0 K :=
 Af (A:=⟨[],[],[]⟩) Tryz.func63 h
def IK(i:YB)(h:Array Value)(g:Bool)(j:World)(K:YA):Prop :=
 ∃ a d,Yb 22 (.pointer i) j a d/\∃ b e,Yb 101 (.agg h) d b e/\∃ c f,Yb 4 (.bool g) e c f/\K (.func (.func Dn) #[] #[.pointer (some a),.pointer (some b),.pointer (some c)]) f
theorem P0(p0:YB)(g1:Array Value)(b2:Bool):Yz Ea #[.pointer p0,.agg g1,.bool b2] (IK p0 g1 b2):=fun _ _ h=>Af (A:=⟨[],[],[]⟩) Tryz.func64 h
def Je(d:YB)(a0:Int)(a4:World)(K:YA):Prop :=
 ∃ a z,Yq 119 a4 a z/\YC EH #[.pointer d,.int .i64 a0] z fun a1 e=>∃ u b,a1=.tuple #[.int .i64 u,.int .i64 b]/\(bif b != 0 then
 ∃ m,Al (Instr.build 119 #[]) (.agg m)/\∃ f,YE 119 a (.agg m) e f/\∃ q,Yg 119 a f q/\K (.tuple #[.agg q,.int .i64 b]) f
 else
 ∃ x,(.pointer d:Value)=.pointer (some x)/\∃ w,Yp 89 (Addr.add x 4) e w/\YC B0 #[.pointer w,.int .i64 u] e fun a2 g=>∃ j t l c,a2=.tuple #[.slice j t l,.int .i64 c]/\(bif c != 0 then
 ∃ n,Al (Instr.build 119 #[]) (.agg n)/\∃ h,YE 119 a (.agg n) g h/\∃ r,Yg 119 a h r/\K (.tuple #[.agg r,.int .i64 c]) h
 else
 ∃ y,(.pointer d:Value)=.pointer (some y)/\∃ o,Yg 40 (Addr.add (Addr.add y 0) 1) g o/\YC Nk #[.agg o,.slice j t l] g fun a3 a5=>∃ p v,a3=.tuple #[.agg p,.int .i64 v]/\∃ i,YE 119 a (.agg p) a5 i/\∃ s,Yg 119 a i s/\K (.tuple #[.agg s,.int .i64 v]) i))
theorem MV(p0:YB)(n1:Int):Yz B1 #[.pointer p0,.int .i64 n1] (Je p0 n1):=fun _ _ h=>Af (A:=⟨[],[],[]⟩) Tryz.func65 h
def QE(x:Array Value)(y:Array Value)(a2:World)(K:YA):Prop :=
 ∃ a w,Yb 40 (.agg x) a2 a w/\∃ e f,Yb 119 (.agg y) w e f/\∃ p,Yg 40 a f p/\∃ q,Yg 119 e f q/\YC Dy #[.agg p,.agg q] f fun a1 b=>∃ m,a1=.bool m/\(bif !m then
 K (.tuple #[.int .i64 0,.int .i64 0]) b
 else
 ∃ c,Yi (Addr.add a 0) (Ah b) c/\∃ j r n,Al (Instr.sliceAt 116 (.pointer (some (Addr.add e 1))) none none none) (.slice j r n)/\∃ t,Yi (Addr.add a 0) (Ah b) t/\∃ d,Yi (Addr.add a 1) (Ah b) d/\∃ l s o,Al (Instr.sliceAt 117 (.pointer (some (Addr.add e 17))) none none none) (.slice l s o)/\∃ h,Yi (Addr.add a 1) (Ah b) h/\YC Do #[.slice j r n,.int .i64 t] (Ah b) fun z g=>∃ u,z=.int .i64 u/\YD 3 (Addr.add a 0) g (.int .i64 c)/\YD 3 (Addr.add a 1) g (.int .i64 d)/\YD 3 (Addr.add a 1) g (.int .i64 h)/\YC Do #[.slice l s o,.int .i64 h] g fun a0 i=>∃ v,a0=.int .i64 v/\YD 3 (Addr.add a 0) i (.int .i64 c)/\YD 3 (Addr.add a 1) i (.int .i64 d)/\K (.tuple #[.int .i64 (IntKind.i64.wrap (c-u)),.int .i64 (IntKind.i64.wrap (d-v))]) i)
theorem Yk(g0:Array Value)(g1:Array Value):Yz I3 #[.agg g0,.agg g1] (QE g0 g1):=fun _ _ h=>Af (A:=⟨[],[],[]⟩) Tryz.func66 h
def Ig(j:YB)(v:Array Value)(t:Bool)(u:Bool)(w:Int)(a1:World)(K:YA):Prop :=
 ∃ b a,Yb 126 (.agg v) a1 b a/\(bif !t then
 K (.int .i64 3) a
 else
 Ac (fun h=>(bif !u then h [.bool true] (Ah a)else ∃ p,(.pointer j:Value)=.pointer (some p)/\∃ l,Yp 31 (Addr.add p 0) (Ah a) l/\∃ d,Yg 126 b (Ah a) d/\YC EG #[.pointer l] (Ah a) fun x r=>∃ m,x=.pointer m/\YD 126 b r (.agg d)/\YC G7 #[.pointer m,.agg d] r fun y a2=>∃ g,y=.bool g/\h [.bool g] a2)) fun a4 c =>
 ∃ f,Ap a4 0=.bool f/\(bif f then
 K (.int .i64 6) c
 else
 ∃ q,(.pointer j:Value)=.pointer (some q)/\∃ n,Yp 31 (Addr.add q 0) (Ah c) n/\∃ e,Yg 126 b (Ah c) e/\YC EG #[.pointer n] (Ah c) fun z s=>∃ o,z=.pointer o/\YD 126 b s (.agg e)/\YC G6 #[.pointer o,.int .i64 w,.agg e] s fun a0 a3=>∃ i,a0=.int .i64 i/\K (.int .i64 i) a3))
theorem O6(p0:YB)(g1:Array Value)(b2:Bool)(b3:Bool)(n4:Int):Yz Ff #[.pointer p0,.agg g1,.bool b2,.bool b3,.int .i64 n4] (Ig p0 g1 b2 b3 n4):=fun _ _ h=>Af (A:=⟨[14],[(14,4)],[]⟩) Tryz.func68 h
def UD(c:YB)(h f:Nat)(a:Int)(n:World)(K:YA):Prop :=
 Ac (fun g=>YC LM #[.slice c h f,.int .i64 a] (Ah n) fun m b=>∃ e,m=.bool e/\(bif e then ∃ l,Yx 88 (.slice c h f) (.int .i64 (IntKind.i64.wrap (Int.tdiv a 8))) l/\∃ i,YD 5 l b (.int .u8 i)/\∃ j,Al (Gp .shl 5 (.const (.int .u8 1)) (.tmp 15) (.int .u8 1) (.int .i64 (Int.tmod a 8))) (.int .u8 j)/\g [.bool ((IntKind.u8.wrap (JT 8 i j)) != 0)] b else g [.bool false] b)) fun p o =>
 ∃ d,Ap p 0=.bool d/\K (.bool d) o
theorem eJ(a0:YB)(l0 c0:Nat)(n1:Int):Yz FD #[.slice a0 l0 c0,.int .i64 n1] (UD a0 l0 c0 n1):=fun _ _ h=>Af (A:=⟨[4],[(4,4)],[]⟩) Tryz.func69 h
def Nb(b:YB)(a:World)(K:YA):Prop :=
 (bif Option.isNone b then
 K (.pointer none) a
 else
 ∃ d,(.pointer b:Value)=.pointer (some d)/\∃ c,Yp 129 (Addr.add d 5) a c/\K (.pointer c) a)
theorem UB(p0:YB):Yz EG #[.pointer p0] (Nb p0):=fun _ _ h=>Af (A:=⟨[],[],[]⟩) Tryz.func70 h
def KI(h:YB)(d0:YB)(i:World)(K:YA):Prop :=
 (bif Option.isNone h then
 K (.slice none 0 0) i
 else
 ∃ c0,(.pointer h:Value)=.pointer (some c0)/\∃(m:YB)(g w:Nat),YD 199 (Addr.add c0 0) i (.slice m g w)/\A6 (fun c9 a j =>
 ∃ e,Ap a 2=.int .i64 e/\(bif decide (e<(g:Int))then
 Ac (fun a8=>∃ c1,Yx 199 (.slice m g w) (.int .i64 e) c1/\∃ a5,Yg 203 c1 j a5/\∃ b c4,Yq 203 j b c4/\∃ c,YE 203 b (.agg a5) c4 c/\Ac (fun a9=>∃ b8,YD 2 (Addr.add b 0) c (.int .i64 b8)/\(bif decide (b8<1)then a9 [.bool true] c else ∃ b9,YD 2 (Addr.add b 0) c (.int .i64 b9)/\YC FL #[.pointer d0,.int .i64 b9] c fun d1 d3=>∃ v,d1=.bool v/\a9 [.bool v] d3)) fun d4 f =>
 ∃ d,Ap d4 0=.bool d/\(bif d then
 ∃ r b4 a1,Ap a 0=.slice r b4 a1/\∃ a6,Yg 126 (Addr.add b 1) f a6/\∃ n b0 x c5,Ru (Instr.buildSlice 128 1 #[(0,.agg a6)]) f (.slice n b0 x) c5/\∃ o b1 y c6,Ru (Builtin.append_ #[128,128] 128 #[.slice r b4 a1,.slice n b0 x]) c5 (.slice o b1 y) c6/\a8 [.slice o b1 y,Ap a 1,.bool d] c6
 else
 ∃ t b6 a3,Ap a 1=.slice t b6 a3/\∃ a7,Yg 203 b f a7/\∃ p b2 z c7,Ru (Instr.buildSlice 199 1 #[(0,.agg a7)]) f (.slice p b2 z) c7/\∃ q b3 a0 c8,Ru (Builtin.append_ #[199,199] 199 #[.slice t b6 a3,.slice p b2 z]) c7 (.slice q b3 a0) c8/\a8 [Ap a 0,.slice q b3 a0,.bool d] c8)) fun l d2 =>
 c9 [Ap l 0,Ap l 1,.int .i64 (IntKind.i64.wrap (e+1)),Ap l 2] d2
 else
 ∃ u b7 a4,Ap a 1=.slice u b7 a4/\∃ c2,(.pointer h:Value)=.pointer (some c2)/\∃ c3,YE 199 (Addr.add c2 0) (.slice u b7 a4) j c3/\∃ s b5 a2,Ap a 0=.slice s b5 a2/\K (.slice s b5 a2) c3)) [.slice none 0 0,.slice none 0 0,.int .i64 0,undef] i)
theorem Sy(p0:YB)(p1:YB):Yz Hg #[.pointer p0,.pointer p1] (KI p0 p1):=fun _ _ h=>Af (A:=⟨[5,6,16,28],[(5,128),(6,199),(16,3),(28,4)],[]⟩) Tryz.func71 h
def IM(g:YB)(d2:Array Value)(d3:Array Value)(a2:Bool)(e2:World)(K:YA):Prop :=
 ∃ a c9,Yb 101 (.agg d2) e2 a c9/\∃ i l,Yb 109 (.agg d3) c9 i l/\∃ n,(.pointer g:Value)=.pointer (some n)/\∃ h,Yp 31 (Addr.add n 0) (Ah l) h/\∃ f,Yi (Addr.add a 0) (Ah l) f/\(YC B1 #[.pointer h,.int .i64 f] (Ah l) fun d4 e7=>∃ a3 w,d4=.tuple #[.agg a3,.int .i64 w]/\∃ d q,Yq 119 e7 d q/\YD 31 (Addr.add n 0) q (.pointer h)/\YD 3 (Addr.add a 0) q (.int .i64 f)/\∃ c,YE 119 d (.agg a3) q c/\Ac (fun b1=>(bif w==0 then
 ∃ a0:Value,YD 107 (Addr.add i 1) (Ah c) a0/\∃ c5,(.pointer g:Value)=.pointer (some c5)/\∃ c1,Yp 31 (Addr.add c5 0) (Ah c) c1/\∃ s,Yg 119 d (Ah c) s/\∃ y,Yi (Addr.add a 1) (Ah c) y/\YC AY #[.pointer c1] (Ah c) fun d6 r=>∃ a5,d6=.agg a5/\YD 107 (Addr.add i 1) r a0/\YD 119 d r (.agg s)/\YD 3 (Addr.add a 1) r (.int .i64 y)/\WN Tryz.prog a0 #[.agg a5,.agg s,.int .i64 y,.bool a2] r fun d8 e8=>∃ a7 b3,d8=.tuple #[.agg a7,.int .i64 b3]/\∃ d1,YE 119 d (.agg a7) e8 d1/\b1 [.int .i64 b3] d1
 else
 b1 [.int .i64 w] c)) fun e9 m =>
 ∃ u,Ap e9 0=.int .i64 u/\(bif u != 0 then
 K (.tuple #[.int .i64 0,.int .i64 u]) m
 else
 ∃ c7,(.pointer g:Value)=.pointer (some c7)/\∃ c3,Yp 31 (Addr.add c7 0) (Ah m) c3/\∃ b5,Yi (Addr.add a 0) (Ah m) b5/\∃ a9,Yg 119 d (Ah m) a9/\YC Dt #[.pointer c3,.int .i64 b5,.agg a9,.slice none 0 0] (Ah m) fun e0 e3=>∃ b7 b9,e0=.tuple #[.int .i64 b7,.int .i64 b9]/\K (.tuple #[.int .i64 b7,.int .i64 b9]) e3))/\(∃ e o,Yq 119 (Ah l) e o/\YD 31 (Addr.add n 0) o (.pointer h)/\YD 3 (Addr.add a 0) o (.int .i64 f)/\YC B1 #[.pointer h,.int .i64 f] o fun d5 e4=>∃ a4 x,d5=.tuple #[.agg a4,.int .i64 x]/\∃ b,YE 119 e (.agg a4) e4 b/\Ac (fun b2=>(bif x==0 then
 ∃ a1:Value,YD 107 (Addr.add i 1) (Ah b) a1/\∃ c6,(.pointer g:Value)=.pointer (some c6)/\∃ c2,Yp 31 (Addr.add c6 0) (Ah b) c2/\∃ t,Yg 119 e (Ah b) t/\∃ z,Yi (Addr.add a 1) (Ah b) z/\YC AY #[.pointer c2] (Ah b) fun d7 p=>∃ a6,d7=.agg a6/\YD 107 (Addr.add i 1) p a1/\YD 119 e p (.agg t)/\YD 3 (Addr.add a 1) p (.int .i64 z)/\WN Tryz.prog a1 #[.agg a6,.agg t,.int .i64 z,.bool a2] p fun d9 e5=>∃ a8 b4,d9=.tuple #[.agg a8,.int .i64 b4]/\∃ d0,YE 119 e (.agg a8) e5 d0/\b2 [.int .i64 b4] d0
 else
 b2 [.int .i64 x] b)) fun f0 j =>
 ∃ v,Ap f0 0=.int .i64 v/\(bif v != 0 then
 K (.tuple #[.int .i64 0,.int .i64 v]) j
 else
 ∃ c8,(.pointer g:Value)=.pointer (some c8)/\∃ c4,Yp 31 (Addr.add c8 0) (Ah j) c4/\∃ b6,Yi (Addr.add a 0) (Ah j) b6/\∃ b0,Yg 119 e (Ah j) b0/\YC Dt #[.pointer c4,.int .i64 b6,.agg b0,.slice none 0 0] (Ah j) fun e1 e6=>∃ b8 c0,e1=.tuple #[.int .i64 b8,.int .i64 c0]/\K (.tuple #[.int .i64 b8,.int .i64 c0]) e6))
theorem P5(p0:YB)(g1:Array Value)(g2:Array Value)(b3:Bool):Yz CV #[.pointer p0,.agg g1,.agg g2,.bool b3] (IM p0 g1 g2 b3):=fun _ _ h=>Af (A:=⟨[11],[(11,24)],[]⟩) Tryz.func72 h
def IT(t:Array Value)(u:World)(K:YA):Prop :=
 ∃ b a,Yb 40 (.agg t) u b a/\Ac (fun c=>∃ o,Yi (Addr.add b 0) a o/\(bif decide (o<16)then c [.bool true] a else ∃ s,Yi (Addr.add b 0) a s/\(bif decide (s > 128)then c [.bool true] a else ∃ h,Yi (Addr.add b 1) a h/\(bif decide (h<4)then c [.bool true] a else ∃ i,Yi (Addr.add b 1) a i/\(bif decide (i > 64)then c [.bool true] a else ∃ j,Yi (Addr.add b 1) a j/\(bif (Int.tmod j 4) != 0 then c [.bool true] a else ∃ l,Yi (Addr.add b 2) a l/\(bif decide (l<1)then c [.bool true] a else ∃ m,Yi (Addr.add b 2) a m/\c [.bool (decide (m > 16))] a))))))) fun w d =>
 ∃ f,Ap w 0=.bool f/\(bif f then
 K (.bool false) d
 else
 Ac (fun g=>∃ n,Yi (Addr.add b 0) d n/\∃ p,Yi (Addr.add b 1) d p/\(bif decide ((IntKind.i64.wrap ((IntKind.i64.wrap (n-1))-(IntKind.i64.wrap (Int.tdiv p 4)))) >= 4)then ∃ q,Yi (Addr.add b 2) d q/\∃ r,Yi (Addr.add b 0) d r/\g [.bool (decide ((IntKind.i64.wrap (2+(IntKind.i64.wrap (q*r))))<=4096))] d else g [.bool false] d)) fun x v =>
 ∃ e,Ap x 0=.bool e/\K (.bool e) v)
theorem PB(g0:Array Value):Yz A0 #[.agg g0] (IT g0):=fun _ _ h=>Af (A:=⟨[2,36],[(2,4),(36,4)],[]⟩) Tryz.func73 h
def UF(a:Int)(j:World)(K:YA):Prop :=
 Ac (fun f=>(bif decide (a<1)then f [.bool true] j else f [.bool (decide (a > 4096))] j)) fun p l =>
 ∃ c,Ap p 0=.bool c/\(bif c then
 K (.tuple #[.pointer none,.int .i64 1]) l
 else
 ∃ b g d m,Ru (Instr.makeSlice 206 (.int .i64 a) (.int .i64 a)) l (.slice b g d) m/\∃ h n,Ru (Instr.makeMap 207 none) m (.map h) n/\∃ e,Al (Instr.build 209 #[(0,.slice b g d),(1,.map h),(2,.int .i64 ((-1)))]) (.agg e)/\∃ i o,Yb 209 (.agg e) n i o/\K (.tuple #[.pointer (some i),.int .i64 0]) o)
theorem eO(n0:Int):Yz PP #[.int .i64 n0] (UF n0):=fun _ _ h=>Af (A:=⟨[9],[(9,4)],[]⟩) Tryz.func74 h
def QI(a:YB)(a1:Array Value)(b9:World)(K:YA):Prop :=
 ∃ b d,Yb 40 (.agg a1) b9 b d/\(bif Option.isNone a then
 K (.int .i64 2) d
 else
 ∃ m,Yg 40 b d m/\YC DS #[.agg m] d fun a9 f=>∃ i,a9=.bool i/\(bif !i then
 K (.int .i64 1) f
 else
 ∃ e,Yg 40 b (Ah f) e/\YC Ck #[.pointer a] (Ah f) fun b0 w=>∃ s,b0=.int .i64 s/\YD 40 b w (.agg e)/\YC GZ #[.agg e] w fun b1 x=>∃ t,b1=.int .i64 t/\(bif decide (s<t)then
 K (.int .i64 4) x
 else
 A6 (fun a2 c5 y =>
 ∃ c,Ap c5 0=.int .i64 c/\(bif decide (c<2)then
 ∃ g q j z,Ru (Instr.makeSlice 88 (.int .i64 256) (.int .i64 256)) y (.slice g q j) z/\YC Bo #[.pointer a,.int .i64 c,.slice g q j] z fun b2 c3=>∃ a3,b2=.int .i64 a3/\a2 [.int .i64 (IntKind.i64.wrap (c+1))] c3
 else
 YC BX #[.pointer a] y fun b3 a0=>∃ a4,b3=.int .i64 a4/\∃ n,Yg 40 b a0 n/\YC PQ #[.agg n,.int .i64 0,.func (.func Bo) #[.pointer a] #[]] a0 fun b4 c4=>∃ a5,b4=.int .i64 a5/\YC BX #[.pointer a] c4 fun b5 v=>∃ a6,b5=.int .i64 a6/\∃ o,Yg 40 b v o/\∃ p,Al (Instr.build 143 #[(0,.int .i64 1),(1,.agg o)]) (.agg p)/\YC Np #[.agg p] v fun b6 c0=>∃ h r l a7,b6=.tuple #[.slice h r l,.int .i64 a7]/\YC Bo #[.pointer a,.int .i64 1,.slice h r l] c0 fun b7 c1=>∃ a8,b7=.int .i64 a8/\YC BX #[.pointer a] c1 fun b8 c2=>∃ u,b8=.int .i64 u/\K (.int .i64 u) c2)) [.int .i64 0] x)))
theorem Yr(p0:YB)(g1:Array Value):Yz LS #[.pointer p0,.agg g1] (QI p0 g1):=fun _ _ h=>Af (A:=⟨[21],[(21,3)],[]⟩) Tryz.func75 h
def Tu(d:YB)(f3:World)(K:YA):Prop :=
 YC Ck #[.pointer d] f3 fun e3 f4=>∃ o,e3=.int .i64 o/\YC LR #[.pointer d,.int .i64 (if 1 > o then 1 else o)] f4 fun e4 d0=>∃ c0 p,e4=.tuple #[.pointer c0,.int .i64 p]/\(bif p != 0 then
 K (.tuple #[.pointer none,.int .i64 p]) d0
 else
 YC Cs #[.pointer d,.int .i64 0] d0 fun e5 f9=>∃ x b0 a0 d9,e5=.tuple #[.slice x b0 a0,.int .i64 d9]/\YC Cs #[.pointer d,.int .i64 1] f9 fun e6 g0=>∃ y b1 a1 e0,e6=.tuple #[.slice y b1 a1,.int .i64 e0]/\YC Ck #[.pointer d] g0 fun e7 g1=>∃ b3,e7=.int .i64 b3/\YC Jh #[.slice x b0 a0,.slice y b1 a1,.int .i64 b3] g1 fun e8 g2=>∃ a3 e1 q,e8=.tuple #[.agg a3,.int .i64 e1,.int .i64 q]/\∃ b d4,Yq 143 g2 b d4/\∃ i,YE 143 b (.agg a3) d4 i/\(bif q != 0 then
 K (.tuple #[.pointer none,.int .i64 q]) i
 else
 ∃ l,Yg 143 b (Ah i) l/\YC UN #[] (Ah i) fun e9 d5=>∃ c1,e9=.pointer c1/\YD 143 b d5 (.agg l)/\∃ a4,Al (Instr.build 145 #[(0,.agg l),(1,.pointer c0),(2,.pointer c1),(3,.int .i64 0)]) (.agg a4)/\∃ a u,Yb 145 (.agg a4) d5 a u/\∃ b4,Yi (Addr.add (Addr.add b 1) 2) u b4/\A6 (fun d6 g3 c6 =>
 ∃ c,Ap g3 0=.int .i64 c/\(bif decide (c<b4)then
 YC B1 #[.pointer (some a),.int .i64 c] c6 fun f0 f5=>∃ a5 b5,f0=.tuple #[.agg a5,.int .i64 b5]/\∃ r c7,Yq 119 f5 r c7/\∃ f,YE 119 r (.agg a5) c7 f/\Ac (fun a8=>(bif b5 != 0 then a8 [.bool true] f else ∃ b6,Yi (Addr.add r 0) f b6/\a8 [.bool (b6 != c)] f)) fun g4 c8 =>
 ∃ j,Ap g4 0=.bool j/\(bif j then
 K (.tuple #[.pointer none,.int .i64 8]) c8
 else
 d6 [.int .i64 (IntKind.i64.wrap (c+1)),.bool j] c8)
 else
 YC F4 #[.pointer (some a),.int .i64 1] c6 fun f1 f6=>∃ a6 b7,f1=.tuple #[.agg a6,.int .i64 b7]/\∃ s c9,Yq 218 f6 s c9/\∃ g,YE 218 s (.agg a6) c9 g/\Ac (fun a9=>(bif b7 != 0 then a9 [.bool true] g else ∃ b8,Yi (Addr.add s 0) g b8/\a9 [.bool (b8 != 2)] g)) fun g5 v =>
 ∃ z,Ap g5 0=.bool z/\(bif z then
 K (.tuple #[.pointer none,.int .i64 8]) v
 else
 ∃ a7,Yg 40 (Addr.add b 1) v a7/\YC HB #[.agg a7] v fun f2 f7=>∃ b9,f2=.int .i64 b9/\A6 (fun d7 g6 w =>
 ∃ e,Ap g6 0=.int .i64 e/\(bif decide (e<b9)then
 YC F4 #[.pointer (some a),.int .i64 e] w fun e2 f8=>∃ a2 d8,e2=.tuple #[.agg a2,.int .i64 d8]/\∃ t d1,Yq 218 f8 t d1/\∃ h,YE 218 t (.agg a2) d1 h/\∃ c2,(.pointer (some a):Value)=.pointer (some c2)/\∃ m,YD 2 (Addr.add c2 6) (Ah h) (.int .i64 m)/\∃ n,YD 2 (Addr.add t 3) (Ah h) (.int .i64 n)/\∃ c3,(.pointer (some a):Value)=.pointer (some c3)/\∃ d2,YE 2 (Addr.add c3 6) (.int .i64 (if n > m then n else m)) (Ah h) d2/\d7 [.int .i64 (IntKind.i64.wrap (e+1))] d2
 else
 ∃ c4,(.pointer (some a):Value)=.pointer (some c4)/\∃ b2,YD 2 (Addr.add c4 6) w (.int .i64 b2)/\∃ c5,(.pointer (some a):Value)=.pointer (some c5)/\∃ d3,YE 2 (Addr.add c5 6) (.int .i64 (IntKind.i64.wrap (b2+1))) w d3/\K (.tuple #[.pointer (some a),.int .i64 0]) d3)) [.int .i64 0] f7))) [.int .i64 0,undef] u))
theorem ZB(p0:YB):Yz Nq #[.pointer p0] (Tu p0):=fun _ _ h=>Af (A:=⟨[62,78,91,95],[(62,3),(78,4),(91,4),(95,3)],[]⟩) Tryz.func76 h
def K6(f:Int)(a0:World)(K:YA):Prop :=
 Ac (fun u=>(bif decide (f<1)then u [.bool true] a0 else u [.bool (decide (f > 4096))] a0)) fun a8 a1 =>
 ∃ o,Ap a8 0=.bool o/\(bif o then
 K (.tuple #[.pointer none,.int .i64 1]) a1
 else
 ∃ s,Al (Instr.build 223 #[]) (.agg s)/\∃ e a2,Yb 223 (.agg s) a1 e a2/\A6 (fun a6 a9 h =>
 ∃ g,Ap a9 0=.int .i64 g/\(bif decide (g<f)then
 ∃ d,(.pointer (some e):Value)=.pointer (some d)/\∃(a:YB)(c b:Nat),YD 221 (Addr.add d 0) (Ah h) (.slice a c b)/\YC G1 #[] (Ah h) fun a7 a3=>∃ z:ByteArray,a7=.string z/\YD 221 (Addr.add d 0) a3 (.slice a c b)/\∃ l v p i,Ru (Instr.buildSlice 178 1 #[(0,.string z)]) a3 (.slice l v p) i/\YD 221 (Addr.add d 0) i (.slice a c b)/\∃ t,Al (Instr.build 226 #[(0,.slice l v p)]) (.agg t)/\∃ m w q j,Ru (Instr.buildSlice 221 1 #[(0,.agg t)]) i (.slice m w q) j/\YD 221 (Addr.add d 0) j (.slice a c b)/\∃ n x r a4,Ru (Builtin.append_ #[221,221] 221 #[.slice a c b,.slice m w q]) j (.slice n x r) a4/\∃ y,(.pointer (some e):Value)=.pointer (some y)/\∃ a5,YE 221 (Addr.add y 0) (.slice n x r) a4 a5/\a6 [.int .i64 (IntKind.i64.wrap (g+1))] a5
 else
 K (.tuple #[.pointer (some e),.int .i64 0]) h)) [.int .i64 0] a2)
theorem Sk(n0:Int):Yz Ha #[.int .i64 n0] (K6 n0):=fun _ _ h=>Af (A:=⟨[5,11],[(5,3),(11,4)],[]⟩) Tryz.func82 h
def In(a:YB)(b6:Array Value)(d6:World)(K:YA):Prop :=
 ∃ c l,Yb 40 (.agg b6) d6 c l/\∃ a2,Yg 40 c l a2/\YC A0 #[.agg a2] l fun c5 f=>∃ s,c5=.bool s/\(bif !s then
 K (.int .i64 1) f
 else
 ∃ j,(.pointer a:Value)=.pointer (some j)/\∃(n:YB)(i t:Nat),YD 221 (Addr.add j 0) (Ah f) (.slice n i t)/\∃ y,Yg 40 c (Ah f) y/\YC Bu #[.agg y] (Ah f) fun c6 m=>∃ a7,c6=.int .i64 a7/\YD 221 (Addr.add j 0) m (.slice n i t)/\(bif decide ((i:Int)<a7)then
 K (.int .i64 4) m
 else
 ∃ o a3 u b3,Ru (Instr.makeSlice 88 (.int .i64 256) (.int .i64 256)) m (.slice o a3 u) b3/\YC Bh #[.pointer a,.int .i64 0,.slice o a3 u] b3 fun c7 e1=>∃ b8,c7=.int .i64 b8/\∃ p a4 v b4,Ru (Instr.makeSlice 88 (.int .i64 256) (.int .i64 256)) e1 (.slice p a4 v) b4/\YC Bh #[.pointer a,.int .i64 1,.slice p a4 v] b4 fun c8 e2=>∃ b9,c8=.int .i64 b9/\YC Bv #[.pointer a] e2 fun c9 b5=>∃ c0,c9=.int .i64 c0/\∃ z,Yg 40 c b5 z/\YC Fo #[.agg z,.int .i64 0] b5 fun d0 e3=>∃ g d h,d0=.slice g d h/\A6 (fun b7 e4 e =>
 ∃ b,Ap e4 0=.int .i64 b/\(bif decide (b<(d:Int))then
 ∃ b0,Yx 227 (.slice g d h) (.int .i64 b) b0/\∃ a8,Yi (Addr.add b0 0) (Ah e) a8/\∃ b1,Yx 227 (.slice g d h) (.int .i64 b) b1/\∃(q:YB)(a5 w:Nat),YD 88 (Addr.add b1 1) (Ah e) (.slice q a5 w)/\YC Bh #[.pointer a,.int .i64 a8,.slice q a5 w] (Ah e) fun d1 d7=>∃ c1,d1=.int .i64 c1/\b7 [.int .i64 (IntKind.i64.wrap (b+1))] d7
 else
 YC Bv #[.pointer a] e fun d2 b2=>∃ c2,d2=.int .i64 c2/\∃ a0,Yg 40 c b2 a0/\∃ a1,Al (Instr.build 232 #[(0,.int .i64 1),(1,.agg a0)]) (.agg a1)/\YC B4 #[.agg a1] b2 fun d3 d8=>∃ r a6 x c3,d3=.tuple #[.slice r a6 x,.int .i64 c3]/\YC Bh #[.pointer a,.int .i64 1,.slice r a6 x] d8 fun d4 d9=>∃ c4,d4=.int .i64 c4/\YC Bv #[.pointer a] d9 fun d5 e0=>∃ a9,d5=.int .i64 a9/\K (.int .i64 a9) e0)) [.int .i64 0] e3))
theorem OF(p0:YB)(g1:Array Value):Yz Fm #[.pointer p0,.agg g1] (In p0 g1):=fun _ _ h=>Af (A:=⟨[6],[(6,3)],[]⟩) Tryz.func83 h
def Ja(l:YB)(m3:World)(K:YA):Prop :=
 YC B3 #[.pointer l,.int .i64 0] m3 fun l2 m4=>∃ b8 d7 c0 j9,l2=.tuple #[.slice b8 d7 c0,.int .i64 j9]/\YC B3 #[.pointer l,.int .i64 1] m4 fun l3 h9=>∃ b9 d8 c1 l0,l3=.tuple #[.slice b9 d8 c1,.int .i64 l0]/\∃ g6,(.pointer l:Value)=.pointer (some g6)/\∃(j3:YB)(d9 j4:Nat),YD 221 (Addr.add g6 0) h9 (.slice j3 d9 j4)/\YC Fl #[.slice b8 d7 c0,.slice b9 d8 c1,.int .i64 ((d9:Int))] h9 fun l4 m8=>∃ c2 l1 a5,l4=.tuple #[.agg c2,.int .i64 l1,.int .i64 a5]/\∃ a i9,Yq 232 m8 a i9/\∃ f,YE 232 a (.agg c2) i9 f/\(bif a5 != 0 then
 K (.tuple #[.pointer none,.int .i64 a5]) f
 else
 ∃ a2,Al (Instr.build 238 #[]) (.agg a2)/\∃ e,YD 2 (Addr.add a 0) (Ah f) (.int .i64 e)/\∃ d,Yg 40 (Addr.add a 1) (Ah f) d/\(YC E7 #[.pointer l] (Ah f) fun l5 b6=>∃ f8,l5=.pointer f8/\YD 2 (Addr.add a 0) b6 (.int .i64 e)/\YD 40 (Addr.add a 1) b6 (.agg d)/\∃ g7 v,Yb 238 (.agg a2) b6 g7 v/\YD 2 (Addr.add a 0) v (.int .i64 e)/\YD 40 (Addr.add a 1) v (.agg d)/\∃ c3,Al (Instr.build 78 #[(0,.pointer f8),(1,.pointer (some g7)),(2,.int .i64 e),(3,.agg d)]) (.agg c3)/\∃ b j2,Yb 78 (.agg c3) v b j2/\A6 (fun j5 n0 b7 =>
 ∃ g,Ap n0 0=.int .i64 g/\∃ g9,(.pointer (some b):Value)=.pointer (some g9)/\∃ e6,Yi (Addr.add (Addr.add g9 3) 2) b7 e6/\(bif decide (g<e6)then
 YC Cr #[.pointer (some b),.int .i64 g] b7 fun l7 m5=>∃ c5 e8,l7=.tuple #[.agg c5,.int .i64 e8]/\∃ a8 h5,Yq 183 m5 a8 h5/\∃ q,YE 183 a8 (.agg c5) h5 q/\Ac (fun d3=>(bif e8 != 0 then d3 [.bool true] q else ∃ f0,Yi (Addr.add a8 0) q f0/\d3 [.bool (f0 != g)] q)) fun n3 h6 =>
 ∃ a0,Ap n3 0=.bool a0/\(bif a0 then
 K (.tuple #[.pointer none,.int .i64 8]) h6
 else
 j5 [.int .i64 (IntKind.i64.wrap (g+1)),.bool a0] h6)
 else
 A6 (fun j6 n4 h7 =>
 ∃ i,Ap n4 0=.int .i64 i/\∃ h1,(.pointer (some b):Value)=.pointer (some h1)/\∃ c7,Yg 40 (Addr.add h1 3) h7 c7/\YC Ct #[.agg c7] h7 fun l9 b0=>∃ f2,l9=.int .i64 f2/\(bif decide (i<f2)then
 YC BY #[.pointer (some b),.int .i64 i] b0 fun m1 m6=>∃ c9 a6,m1=.tuple #[.agg c9,.int .i64 a6]/\∃ m h8,Yq 218 m6 m h8/\∃ o,YE 218 m (.agg c9) h8 o/\Ac (fun d4=>(bif a6==0 then ∃ f4,YD 2 (Addr.add m 3) (Ah o) (.int .i64 f4)/\∃ h3,(.pointer (some b):Value)=.pointer (some h3)/\∃ f6,YD 2 (Addr.add h3 6) (Ah o) (.int .i64 f6)/\d4 [.bool (decide (f4 > f6))] (Ah o)else d4 [.bool false] (Ah o))) fun n5 b1 =>
 ∃ w,Ap n5 0=.bool w/\Ac (fun d5=>(bif w then
 ∃ e0,YD 2 (Addr.add m 3) b1 (.int .i64 e0)/\∃ g0,(.pointer (some b):Value)=.pointer (some g0)/\∃ i0,YE 2 (Addr.add g0 6) (.int .i64 e0) b1 i0/\d5 [] i0
 else
 d5 [] b1)) fun o1 r =>
 Ac (fun a4=>(bif i==1 then(bif a6 != 0 then a4 [.bool true] r else ∃ e2,Yi (Addr.add m 0) r e2/\a4 [.bool (e2 != 2)] r)else a4 [.bool false] r)) fun n6 i1 =>
 ∃ y,Ap n6 0=.bool y/\(bif y then
 K (.tuple #[.pointer none,.int .i64 8]) i1
 else
 j6 [.int .i64 (IntKind.i64.wrap (i+1)),.bool w,.bool y] i1)
 else
 ∃ g2,(.pointer (some b):Value)=.pointer (some g2)/\∃ e4,YD 2 (Addr.add g2 6) b0 (.int .i64 e4)/\∃ g4,(.pointer (some b):Value)=.pointer (some g4)/\∃ i2,YE 2 (Addr.add g4 6) (.int .i64 (IntKind.i64.wrap (e4+1))) b0 i2/\K (.tuple #[.pointer (some b),.int .i64 0]) i2)) [.int .i64 0,undef,undef] b7)) [.int .i64 0,undef] j2)/\(∃ g8 s,Yb 238 (.agg a2) (Ah f) g8 s/\YD 2 (Addr.add a 0) s (.int .i64 e)/\YD 40 (Addr.add a 1) s (.agg d)/\YC E7 #[.pointer l] s fun l6 b2=>∃ f9,l6=.pointer f9/\YD 2 (Addr.add a 0) b2 (.int .i64 e)/\YD 40 (Addr.add a 1) b2 (.agg d)/\∃ c4,Al (Instr.build 78 #[(0,.pointer f9),(1,.pointer (some g8)),(2,.int .i64 e),(3,.agg d)]) (.agg c4)/\∃ c i3,Yb 78 (.agg c4) b2 c i3/\A6 (fun j7 n7 b3 =>
 ∃ h,Ap n7 0=.int .i64 h/\∃ h0,(.pointer (some c):Value)=.pointer (some h0)/\∃ e7,Yi (Addr.add (Addr.add h0 3) 2) b3 e7/\(bif decide (h<e7)then
 YC Cr #[.pointer (some c),.int .i64 h] b3 fun l8 m7=>∃ c6 e9,l8=.tuple #[.agg c6,.int .i64 e9]/\∃ a9 i4,Yq 183 m7 a9 i4/\∃ t,YE 183 a9 (.agg c6) i4 t/\Ac (fun d6=>(bif e9 != 0 then d6 [.bool true] t else ∃ f1,Yi (Addr.add a9 0) t f1/\d6 [.bool (f1 != h)] t)) fun n8 i5 =>
 ∃ a1,Ap n8 0=.bool a1/\(bif a1 then
 K (.tuple #[.pointer none,.int .i64 8]) i5
 else
 j7 [.int .i64 (IntKind.i64.wrap (h+1)),.bool a1] i5)
 else
 A6 (fun j8 n9 i6 =>
 ∃ j,Ap n9 0=.int .i64 j/\∃ h2,(.pointer (some c):Value)=.pointer (some h2)/\∃ c8,Yg 40 (Addr.add h2 3) i6 c8/\YC Ct #[.agg c8] i6 fun m0 b4=>∃ f3,m0=.int .i64 f3/\(bif decide (j<f3)then
 YC BY #[.pointer (some c),.int .i64 j] b4 fun m2 m9=>∃ d0 a7,m2=.tuple #[.agg d0,.int .i64 a7]/\∃ n i7,Yq 218 m9 n i7/\∃ p,YE 218 n (.agg d0) i7 p/\Ac (fun d1=>(bif a7==0 then ∃ f5,YD 2 (Addr.add n 3) (Ah p) (.int .i64 f5)/\∃ h4,(.pointer (some c):Value)=.pointer (some h4)/\∃ f7,YD 2 (Addr.add h4 6) (Ah p) (.int .i64 f7)/\d1 [.bool (decide (f5 > f7))] (Ah p)else d1 [.bool false] (Ah p))) fun n1 b5 =>
 ∃ x,Ap n1 0=.bool x/\Ac (fun d2=>(bif x then
 ∃ e1,YD 2 (Addr.add n 3) b5 (.int .i64 e1)/\∃ g1,(.pointer (some c):Value)=.pointer (some g1)/\∃ i8,YE 2 (Addr.add g1 6) (.int .i64 e1) b5 i8/\d2 [] i8
 else
 d2 [] b5)) fun o0 u =>
 Ac (fun a3=>(bif j==1 then(bif a7 != 0 then a3 [.bool true] u else ∃ e3,Yi (Addr.add n 0) u e3/\a3 [.bool (e3 != 2)] u)else a3 [.bool false] u)) fun n2 j0 =>
 ∃ z,Ap n2 0=.bool z/\(bif z then
 K (.tuple #[.pointer none,.int .i64 8]) j0
 else
 j8 [.int .i64 (IntKind.i64.wrap (j+1)),.bool x,.bool z] j0)
 else
 ∃ g3,(.pointer (some c):Value)=.pointer (some g3)/\∃ e5,YD 2 (Addr.add g3 6) b4 (.int .i64 e5)/\∃ g5,(.pointer (some c):Value)=.pointer (some g5)/\∃ j1,YE 2 (Addr.add g5 6) (.int .i64 (IntKind.i64.wrap (e5+1))) b4 j1/\K (.tuple #[.pointer (some c),.int .i64 0]) j1)) [.int .i64 0,undef,undef] b3)) [.int .i64 0,undef] i3))
theorem PJ(p0:YB):Yz FK #[.pointer p0] (Ja p0):=fun _ _ h=>Af (A:=⟨[12,15,75,101,117],[(12,3),(15,3),(75,4),(101,4),(117,4)],[]⟩) Tryz.func84 h
def KG(d:YB)(e:World)(K:YA):Prop :=
 ∃ a,Al (Instr.build 82 #[(0,.pointer d)]) (.agg a)/\∃ b c,Yb 82 (.agg a) e b c/\K (.pointer (some b)) c
theorem Sw(p0:YB):Yz KJ #[.pointer p0] (KG p0):=fun _ _ h=>Af (A:=⟨[],[],[]⟩) Tryz.func85 h
def Nf(d:YB)(g:Int)(a:World)(K:YA):Prop :=
 (bif Option.isNone d then
 K (.int .i64 2) a
 else
 ∃ e,(.pointer d:Value)=.pointer (some e)/\∃ b,Yg 40 (Addr.add (Addr.add e 0) 1) a b/\YC LN #[.agg b,.int .i64 g] a fun i f=>∃ c h,i=.tuple #[.int .i64 c,.int .i64 h]/\(bif c != 4 then
 K (.int .i64 3) f
 else
 K (.int .i64 0) f))
theorem UC(p0:YB)(n1:Int):Yz Ji #[.pointer p0,.int .i64 n1] (Nf p0 n1):=fun _ _ h=>Af (A:=⟨[],[],[]⟩) Tryz.func86 h
def Ir(j3:YB)(c:Int)(g:Int)(b5:YB)(j c8:Nat)(b6:YB)(s c9:Nat)(l0:World)(K:YA):Prop :=
 ∃ a e,Yb 89 (.pointer j3) l0 a e/\∃ f6,Yp 89 a e f6/\(bif Option.isNone f6 then
 K (.tuple #[.int .i64 0,.int .i64 2]) e
 else
 Ac (fun d3=>(bif decide (c<0)then d3 [.bool true] e else ∃ f7,Yp 89 a e f7/\∃ h7,(.pointer f7:Value)=.pointer (some h7)/\∃ f1,Yi (Addr.add h7 1) e f1/\d3 [.bool (decide (c >= f1))] e)) fun l4 h =>
 ∃ b8,Ap l4 0=.bool b8/\(bif b8 then
 K (.tuple #[.int .i64 0,.int .i64 3]) h
 else
 Ac (fun i=>(bif (j:Int)==0 then i [.bool true] h else(bif decide (g<0)then i [.bool true] h else(bif decide (g > 256)then i [.bool true] h else i [.bool (decide ((j:Int) > (IntKind.i64.wrap (256-g))))] h)))) fun l5 i8 =>
 ∃ b9,Ap l5 0=.bool b9/\(bif b9 then
 K (.tuple #[.int .i64 0,.int .i64 4]) i8
 else
 YC BS #[.slice b6 s c9,.func (.func Dh) #[] #[.pointer (some a)]] i8 fun j6 n=>∃ c0,j6=.bool c0/\(bif c0 then
 K (.tuple #[.int .i64 0,.int .i64 1]) n
 else
 ∃ f8,Yp 89 a n f8/\∃ h8,(.pointer f8:Value)=.pointer (some h8)/\∃ f9,Yp 160 (Addr.add h8 0) n f9/\YC Ed #[.pointer f9,.int .i64 c] n fun j7 f=>∃ q t r w,j7=.tuple #[.slice q t r,.int .i64 w]/\(bif w != 0 then
 K (.tuple #[.int .i64 0,.int .i64 w]) f
 else
 ∃ g0,Yp 89 a f g0/\∃ h9,(.pointer g0:Value)=.pointer (some h9)/\∃ e6,YD 162 (Addr.add h9 4) f (.map e6)/\∃ a0,Ru (Instr.lookup 162 (.map e6) (.int .i64 c) false) f (.pointer a0) f/\Ac (fun d4=>(bif Option.isNone a0 then
 ∃ d2,Al (Instr.build 171 #[(0,.slice q t r)]) (.agg d2)/\∃ a2 o,Yb 171 (.agg d2) f a2 o/\∃ g1,Yp 89 a o g1/\∃ i0,(.pointer g1:Value)=.pointer (some i0)/\∃ e7,YD 162 (Addr.add i0 4) o (.map e7)/\∃ p,Eh (Instr.mapUpdate 162 (.map e7) (.int .i64 c) (.pointer (some a2))) o p/\∃ g2,Yp 89 a p g2/\∃ i1,(.pointer g2:Value)=.pointer (some i1)/\∃ g3,Yp 160 (Addr.add i1 0) p g3/\YC E3 #[.pointer g3,.int .i64 c] p fun j8 l2=>∃ j1,j8=.int .i64 j1/\d4 [.pointer (some a2)] l2
 else
 d4 [.pointer a0] f)) fun l6 l3 =>
 YC NN #[.slice q t r,.int .i64 g,.slice b5 j c8] l3 fun j9 a3=>∃ b7 e3 d0 j2,j9=.tuple #[.slice b7 e3 d0,.int .i64 j2]/\∃ g4,Yp 89 a a3 g4/\∃ g5,(.pointer g4:Value)=.pointer (some g5)/\∃ f2,Yp 160 (Addr.add g5 0) a3 f2/\YC Gx #[.pointer f2,.int .i64 c,.slice b7 e3 d0] a3 fun j4 a4=>∃ j0,j4=.int .i64 j0/\∃ x,Yp 89 a a4 x/\∃ g6,(.pointer x:Value)=.pointer (some g6)/\∃ e8,YD 2 (Addr.add g6 2) a4 (.int .i64 e8)/\∃ g7,(.pointer x:Value)=.pointer (some g7)/\∃ m,YE 2 (Addr.add g7 2) (.int .i64 (IntKind.i64.wrap (e8+1))) a4 m/\∃ y,Yp 89 a (Ah m) y/\∃ a1,(.pointer y:Value)=.pointer (some a1)/\∃ u,YD 2 (Addr.add a1 2) (Ah m) (.int .i64 u)/\YC Cj #[.slice b5 j c8] (Ah m) fun j5 a5=>∃ a8 d6 c1,j5=.slice a8 d6 c1/\YD 89 a a5 (.pointer y)/\YD 2 (Addr.add a1 2) a5 (.int .i64 u)/\∃ d1,Al (Instr.build 174 #[(0,.int .i64 u),(1,.int .i64 c),(2,.int .i64 g),(3,.slice a8 d6 c1)]) (.agg d1)/\∃ d i2,Yb 174 (.agg d1) a5 d i2/\A6 (fun i9 l7 b =>
 ∃ l,Ap l7 0=.int .i64 l/\(bif decide (l<(s:Int))then
 ∃ g8,Yx 159 (.slice b6 s c9) (.int .i64 l) g8/\∃ v,YD 2 g8 b (.int .i64 v)/\∃ f3,Yp 89 a b f3/\∃ g9,(.pointer f3:Value)=.pointer (some g9)/\∃ e4,YD 161 (Addr.add g9 3) b (.map e4)/\∃ f4,Ru (Instr.lookup 161 (.map e4) (.int .i64 v) false) b (.pointer f4) b/\Ac (fun d5=>(bif !(Option.isNone f4)then
 ∃ h0,(.pointer (some d):Value)=.pointer (some h0)/\∃(a9:YB)(d7 c2:Nat),YD 159 (Addr.add h0 4) b (.slice a9 d7 c2)/\∃ b0 d8 c3 i3,Ru (Instr.buildSlice 159 1 #[(0,.int .i64 v)]) b (.slice b0 d8 c3) i3/\∃ b1 d9 c4 i4,Ru (Builtin.append_ #[159,159] 159 #[.slice a9 d7 c2,.slice b0 d8 c3]) i3 (.slice b1 d9 c4) i4/\∃ h1,(.pointer (some d):Value)=.pointer (some h1)/\∃ i5,YE 159 (Addr.add h1 4) (.slice b1 d9 c4) i4 i5/\d5 [] i5
 else
 d5 [] b)) fun l8 l1 =>
 i9 [.int .i64 (IntKind.i64.wrap (l+1))] l1
 else
 ∃ f5,Yp 89 a (Ah b) f5/\∃ h2,(.pointer f5:Value)=.pointer (some h2)/\∃ e5,YD 161 (Addr.add h2 3) (Ah b) (.map e5)/\∃ h3,(.pointer (some d):Value)=.pointer (some h3)/\∃ e9,YD 2 (Addr.add h3 0) (Ah b) (.int .i64 e9)/\∃ a6,Eh (Instr.mapUpdate 161 (.map e5) (.int .i64 e9) (.pointer (some d))) (Ah b) a6/\∃ z,Ap l6 0=.pointer z/\∃ h4,(.pointer z:Value)=.pointer (some h4)/\∃(b2:YB)(e0 c5:Nat),YD 169 (Addr.add h4 1) a6 (.slice b2 e0 c5)/\∃ b3 e1 c6 i6,Ru (Instr.buildSlice 169 1 #[(0,.pointer (some d))]) a6 (.slice b3 e1 c6) i6/\∃ b4 e2 c7 i7,Ru (Builtin.append_ #[169,169] 169 #[.slice b2 e0 c5,.slice b3 e1 c6]) i6 (.slice b4 e2 c7) i7/\∃ h5,(.pointer z:Value)=.pointer (some h5)/\∃ a7,YE 169 (Addr.add h5 1) (.slice b4 e2 c7) i7 a7/\∃ h6,(.pointer (some d):Value)=.pointer (some h6)/\∃ f0,YD 2 (Addr.add h6 0) a7 (.int .i64 f0)/\K (.tuple #[.int .i64 f0,.int .i64 0]) a7)) [.int .i64 0] i2)))))
theorem OJ(p0:YB)(n1:Int)(n2:Int)(a3:YB)(l3 c3:Nat)(a4:YB)(l4 c4:Nat):Yz CG #[.pointer p0,.int .i64 n1,.int .i64 n2,.slice a3 l3 c3,.slice a4 l4 c4] (Ir p0 n1 n2 a3 l3 c3 a4 l4 c4):=fun _ _ h=>Af (A:=⟨[14,23,34,125],[(14,165),(23,4),(34,4),(125,3)],[]⟩) Tryz.func87 h
def Iq(c:YB)(d:Int)(a1:World)(K:YA):Prop :=
 YC B0 #[.pointer c,.int .i64 d] a1 fun y a=>∃ h o l e,y=.tuple #[.slice h o l,.int .i64 e]/\Ac (fun n=>(bif e != 0 then n [.bool true] a else ∃ u,(.pointer c:Value)=.pointer (some u)/\∃ q,YD 162 (Addr.add u 4) a (.map q)/\∃ t,Ru (Instr.lookup 162 (.map q) (.int .i64 d) false) a (.pointer t) a/\n [.bool (Option.isNone t)] a)) fun a4 b =>
 ∃ j,Ap a4 0=.bool j/\(bif j then
 K (.tuple #[.slice h o l,.int .i64 e]) b
 else
 ∃ v,(.pointer c:Value)=.pointer (some v)/\∃ r,YD 162 (Addr.add v 4) b (.map r)/\∃ f,Ru (Instr.lookup 162 (.map r) (.int .i64 d) false) b (.pointer f) b/\YC E8 #[.pointer c,.pointer f] b fun z a2=>∃ s,z=.map s/\∃ g w,Yq 167 a2 g w/\∃ x,YE 167 g (.map s) w x/\YC F3 #[.pointer f,.func (.func Dg) #[] #[.pointer (some g)]] x fun a0 a3=>∃ i p m,a0=.slice i p m/\K (.tuple #[.slice i p m,.int .i64 0]) a3)
theorem OI(p0:YB)(n1:Int):Yz Fp #[.pointer p0,.int .i64 n1] (Iq p0 n1):=fun _ _ h=>Af (A:=⟨[26],[(26,4)],[]⟩) Tryz.func88 h
def Ij(f:YB)(c:Int)(h:YB)(b m:Nat)(a4:World)(K:YA):Prop :=
 ∃ g q l y,Ru (Instr.buildSlice 80 2 #[(0,.int .i64 0),(1,.int .i64 256)]) a4 (.slice g q l) y/\YC Dq #[.pointer f,.int .i64 c,.slice h b m,.slice g q l] y fun a1 z=>∃ d,a1=.int .i64 d/\(bif d != 0 then
 K (.int .i64 d) z
 else
 YC Dp #[.pointer f,.int .i64 c] z fun a2 a=>∃ u e,a2=.tuple #[.pointer u,.int .i64 e]/\(bif e != 0 then
 K (.int .i64 e) a
 else
 Ac (fun p=>(bif (b:Int)==0 then
 ∃ w,(.pointer u:Value)=.pointer (some w)/\∃(j:YB)(s o:Nat),YD 88 (Addr.add (Addr.add w 0) 0) a (.slice j s o)/\p [.slice j s o] a
 else
 p [.slice h b m] a)) fun a6 a0 =>
 ∃ x,(.pointer f:Value)=.pointer (some x)/\∃ v,Yp 134 (Addr.add x 0) a0 v/\∃ i r n,Ap a6 0=.slice i r n/\YC Bo #[.pointer v,.int .i64 c,.slice i r n] a0 fun a3 a5=>∃ t,a3=.int .i64 t/\K (.int .i64 t) a5))
theorem O9(p0:YB)(n1:Int)(a2:YB)(l2 c2:Nat):Yz Fi #[.pointer p0,.int .i64 n1,.slice a2 l2 c2] (Ij p0 n1 a2 l2 c2):=fun _ _ h=>Af (A:=⟨[2],[(2,88)],[]⟩) Tryz.func89 h
def JG(c0:YB)(a4:YB)(c3:World)(K:YA):Prop :=
 ∃ b0 b4,Yb 89 (.pointer c0) c3 b0 b4/\∃ a2 b6,Ru (Instr.makeMap 167 none) b4 (.map a2) b6/\∃ a b7,Yq 167 b6 a b7/\∃ i,YE 167 a (.map a2) b7 i/\∃ a8,(.pointer a4:Value)=.pointer (some a8)/\∃(l:YB)(h r:Nat),YD 169 (Addr.add a8 1) i (.slice l h r)/\A6 (fun b9 c6 e =>
 ∃ b,Ap c6 1=.int .i64 b/\(bif decide (b<(h:Int))then
 ∃ a9,Yx 169 (.slice l h r) (.int .i64 b) a9/\∃ a5,Yp 172 a9 e a5/\∃ c b8,Yq 172 e c b8/\∃ f,YE 172 c (.pointer a5) b8 f/\∃ a6,Yp 172 c f a6/\∃ b1,(.pointer a6:Value)=.pointer (some b1)/\∃(m:YB)(x s:Nat),YD 159 (Addr.add b1 4) f (.slice m x s)/\YC BS #[.slice m x s,.func (.func D9) #[] #[.pointer (some b0),.pointer (some a)]] f fun c1 j=>∃ p,c1=.bool p/\Ac (fun v=>(bif p then v [.bool true] j else ∃ b2,(.pointer a4:Value)=.pointer (some b2)/\∃(n:YB)(y t:Nat),YD 169 (Addr.add b2 1) j (.slice n y t)/\∃ o z u,Al (Instr.sliceAt 169 (.slice n y t) none (some (.int .i64 b)) none) (.slice o z u)/\YC BI #[.slice o z u,.func (.func DA) #[] #[.pointer (some c),.pointer (some a)]] j fun c2 c5=>∃ q,c2=.bool q/\v [.bool q] c5)) fun c7 d =>
 ∃ g,Ap c7 0=.bool g/\Ac (fun w=>(bif !g then
 ∃ a0,YD 167 a (Ah d) (.map a0)/\∃ a7,Yp 172 c (Ah d) a7/\∃ b3,(.pointer a7:Value)=.pointer (some b3)/\∃ a3,YD 2 (Addr.add b3 0) (Ah d) (.int .i64 a3)/\∃ b5,Eh (Instr.mapUpdate 167 (.map a0) (.int .i64 a3) (.bool true)) (Ah d) b5/\w [] b5
 else
 w [] d)) fun c8 c4 =>
 b9 [.bool g,.int .i64 (IntKind.i64.wrap (b+1))] c4
 else
 ∃ a1,YD 167 a e (.map a1)/\K (.map a1) e)) [undef,.int .i64 0] i
theorem Q3(p0:YB)(p1:YB):Yz E8 #[.pointer p0,.pointer p1] (JG p0 p1):=fun _ _ h=>Af (A:=⟨[8,15],[(8,4),(15,3)],[]⟩) Tryz.func90 h
def Ih(c:YB)(a:World)(K:YA):Prop :=
 (bif Option.isNone c then
 K (.int .i64 2) a
 else
 ∃ e,(.pointer c:Value)=.pointer (some e)/\∃ d,Yp 134 (Addr.add e 0) a d/\YC BX #[.pointer d] a fun f g=>∃ b,f=.int .i64 b/\K (.int .i64 b) g)
theorem O7(p0:YB):Yz Fg #[.pointer p0] (Ih p0):=fun _ _ h=>Af (A:=⟨[],[],[]⟩) Tryz.func91 h
def Mt(x:YB)(b0:Value)(a3:World)(K:YA):Prop :=
 ∃ a2,(.pointer x:Value)=.pointer (some a2)/\∃(i:YB)(t o:Nat),YD 88 (Addr.add a2 0) a3 (.slice i t o)/\YC Cj #[.slice i t o] a3 fun a8 a4=>∃ d f e,a8=.slice d f e/\∃ y,(.pointer x:Value)=.pointer (some y)/\∃(j:YB)(g p:Nat),YD 169 (Addr.add y 1) a4 (.slice j g p)/\A6 (fun a6 b2 h =>
 ∃ a,Ap b2 0=.int .i64 a/\(bif decide (a<(g:Int))then
 ∃ z,Yx 169 (.slice j g p) (.int .i64 a) z/\∃ b,Yp 172 z h b/\WN Tryz.prog b0 #[.pointer b] h fun a9 c=>∃ n,a9=.bool n/\Ac (fun s=>(bif n then
 ∃ a0,(.pointer b:Value)=.pointer (some a0)/\∃ w,Yi (Addr.add a0 2) (Ah c) w/\∃ l u q,Al (Instr.sliceAt 88 (.slice d f e) (some (.int .i64 w)) none none) (.slice l u q)/\∃ a1,(.pointer b:Value)=.pointer (some a1)/\∃(m:YB)(v r:Nat),YD 88 (Addr.add a1 3) (Ah c) (.slice m v r)/\∃ a7 a5,Ru (Builtin.copy_ #[88,88] 3 #[.slice l u q,.slice m v r]) (Ah c) (.int .i64 a7) a5/\s [] a5
 else
 s [] c)) fun b3 b1 =>
 a6 [.int .i64 (IntKind.i64.wrap (a+1))] b1
 else
 K (.slice d f e) h)) [.int .i64 0] a4
theorem TP(p0:YB)(v1:Value):Yz F3 #[.pointer p0,v1] (Mt p0 v1):=fun _ _ h=>Af (A:=⟨[18],[(18,3)],[]⟩) Tryz.func92 h
def MI(d:YB)(c:World)(K:YA):Prop :=
 ∃ b,(.pointer d:Value)=.pointer (some b)/\∃ a,YD 4 (Addr.add b 5) c (.bool a)/\K (.bool a) c
theorem MD(p0:YB):Yz GS #[.pointer p0] (MI p0):=fun _ _ h=>Af (A:=⟨[],[],[]⟩) Tryz.func93 h
def Dm(b:YB)(a c:Nat)(v:Value)(a3:World)(K:YA):Prop :=
 YC Bz #[.slice b a c,v] a3 fun a1 w=>∃ d,a1=.int .i64 d/\(bif d==(-1)then
 K (.slice b a c) w
 else
 A6 (fun a0 f j =>
 ∃ e,Ap f 1=.int .i64 e/\(bif decide (e<(a:Int))then
 ∃ t,Yx 169 (.slice b a c) (.int .i64 e) t/\∃ i,Yp 172 t j i/\WN Tryz.prog v #[.pointer i] j fun a2 x=>∃ n,a2=.bool n/\Ac (fun q=>(bif !n then
 ∃ g,Ap f 0=.int .i64 g/\∃ u,Yx 169 (.slice b a c) (.int .i64 g) u/\∃ y,YE 172 u (.pointer i) x y/\q [.int .i64 (IntKind.i64.wrap (g+1))] y
 else
 q [Ap f 0] x)) fun a5 a4 =>
 a0 [Ap a5 0,.int .i64 (IntKind.i64.wrap (e+1))] a4
 else
 ∃ h,Ap f 0=.int .i64 h/\∃ l r o,Al (Instr.sliceAt 169 (.slice b a c) (some (.int .i64 h)) none none) (.slice l r o)/\∃ z,Ru (Builtin.clear_ #[169] 0 #[.slice l r o]) j (.tuple #[]) z/\∃ m s p,Al (Instr.sliceAt 169 (.slice b a c) none (some (.int .i64 h)) none) (.slice m s p)/\K (.slice m s p) z)) [.int .i64 d,.int .i64 (IntKind.i64.wrap (d+1))] w)
theorem Gr(a0:YB)(l0 c0:Nat)(v1:Value):Yz BZ #[.slice a0 l0 c0,v1] (Dm a0 l0 c0 v1):=fun _ _ h=>Af (A:=⟨[5,6],[(5,3),(6,3)],[]⟩) Tryz.func94 h
def MJ(d:YB)(c:World)(K:YA):Prop :=
 ∃ b,(.pointer d:Value)=.pointer (some b)/\∃ a,YD 4 (Addr.add b 5) c (.bool a)/\K (.bool a) c
theorem ME(p0:YB):Yz Df #[.pointer p0] (MJ p0):=fun _ _ h=>Af (A:=⟨[],[],[]⟩) Tryz.func95 h
def Ii(l:YB)(j:Int)(n:World)(K:YA):Prop :=
 YC Ee #[.pointer l,.int .i64 j] n fun m a=>∃ b c,m=.tuple #[.pointer b,.int .i64 c]/\(bif c != 0 then
 K (.int .i64 c) a
 else
 ∃ f,(.pointer b:Value)=.pointer (some f)/\∃ d,Yi (Addr.add f 1) a d/\(bif d==0 then
 K (.int .i64 6) a
 else
 ∃ g,(.pointer b:Value)=.pointer (some g)/\∃ e,Yi (Addr.add g 1) a e/\∃ h,(.pointer b:Value)=.pointer (some h)/\∃ i,YE 3 (Addr.add h 1) (.int .i64 (IntKind.i64.wrap (e-1))) a i/\K (.int .i64 0) i))
theorem O8(p0:YB)(n1:Int):Yz Fh #[.pointer p0,.int .i64 n1] (Ii p0 n1):=fun _ _ h=>Af (A:=⟨[],[],[]⟩) Tryz.func96 h
def GQ(c:YB)(y:Int)(a3:World)(K:YA):Prop :=
 ∃ a d,Yq 183 a3 a d/\∃ u,(.pointer c:Value)=.pointer (some u)/\∃ j,Yg 40 (Addr.add u 3) d j/\YC E6 #[.agg j,.int .i64 y] d fun a0 e=>∃ r b,a0=.tuple #[.int .i64 r,.int .i64 b]/\(bif b != 0 then
 ∃ l,Al (Instr.build 183 #[]) (.agg l)/\∃ f,YE 183 a (.agg l) e f/\∃ o,Yg 183 a f o/\K (.tuple #[.agg o,.int .i64 b]) f
 else
 ∃ v,(.pointer c:Value)=.pointer (some v)/\∃ t,Yp 75 (Addr.add v 0) e t/\YC BP #[.pointer t,.int .i64 r] e fun a1 x=>∃ h q i z,a1=.tuple #[.slice h q i,.int .i64 z]/\∃ w,(.pointer c:Value)=.pointer (some w)/\∃ m,Yg 40 (Addr.add w 3) x m/\YC Hb #[.agg m,.slice h q i] x fun a2 a4=>∃ n s,a2=.tuple #[.agg n,.int .i64 s]/\∃ g,YE 183 a (.agg n) a4 g/\∃ p,Yg 183 a g p/\K (.tuple #[.agg p,.int .i64 s]) g)
theorem MC(p0:YB)(n1:Int):Yz Cr #[.pointer p0,.int .i64 n1] (GQ p0 n1):=fun _ _ h=>Af (A:=⟨[],[],[]⟩) Tryz.func105 h
def JC(x:Array Value)(y:Array Value)(a2:World)(K:YA):Prop :=
 ∃ a w,Yb 40 (.agg x) a2 a w/\∃ c g,Yb 183 (.agg y) w c g/\∃ q,Yg 40 a g q/\∃ r,Yg 183 c g r/\YC Eg #[.agg q,.agg r] g fun a1 b=>∃ o,a1=.bool o/\(bif !o then
 K (.tuple #[.int .i64 0,.int .i64 0]) b
 else
 ∃ e,Yi (Addr.add a 0) (Ah b) e/\∃(n:YB)(s p:Nat),YD 88 (Addr.add c 1) (Ah b) (.slice n s p)/\∃ t,Yi (Addr.add a 0) (Ah b) t/\∃ f,Yi (Addr.add a 1) (Ah b) f/\∃(h:YB)(j i:Nat),YD 88 (Addr.add c 2) (Ah b) (.slice h j i)/\∃ l,Yi (Addr.add a 1) (Ah b) l/\YC Ef #[.slice n s p,.int .i64 t] (Ah b) fun z d=>∃ u,z=.int .i64 u/\YD 3 (Addr.add a 0) d (.int .i64 e)/\YD 3 (Addr.add a 1) d (.int .i64 f)/\YD 88 (Addr.add c 2) d (.slice h j i)/\YD 3 (Addr.add a 1) d (.int .i64 l)/\YC Ef #[.slice h j i,.int .i64 l] d fun a0 m=>∃ v,a0=.int .i64 v/\YD 3 (Addr.add a 0) m (.int .i64 e)/\YD 3 (Addr.add a 1) m (.int .i64 f)/\K (.tuple #[.int .i64 (IntKind.i64.wrap (e-u)),.int .i64 (IntKind.i64.wrap (f-v))]) m)
theorem Qz(g0:Array Value)(g1:Array Value):Yz G3 #[.agg g0,.agg g1] (JC g0 g1):=fun _ _ h=>Af (A:=⟨[],[],[]⟩) Tryz.func106 h
def Il(g:Array Value)(i:World)(K:YA):Prop :=
 ∃ a b,Yb 40 (.agg g) i a b/\∃ e,Yg 40 a b e/\YC A0 #[.agg e] b fun h c=>∃ d,h=.bool d/\(bif !d then
 K (.int .i64 0) c
 else
 ∃ f,Yi (Addr.add a 1) c f/\K (.int .i64 (IntKind.i64.wrap (Int.tdiv f 4))) c)
theorem OD(g0:Array Value):Yz Fk #[.agg g0] (Il g0):=fun _ _ h=>Af (A:=⟨[],[],[]⟩) Tryz.func107 h
def K9(i:YB)(e j:Nat)(a:Int)(b:World)(K:YA):Prop :=
 Ac (fun c=>(bif decide (a >= 0)then(bif decide ((IntKind.i64.wrap (Int.tdiv a 8))<(e:Int))then ∃ h,Yx 88 (.slice i e j) (.int .i64 (IntKind.i64.wrap (Int.tdiv a 8))) h/\∃ f,YD 5 h b (.int .u8 f)/\∃ g,Al (Gp .shr 5 (.tmp 19) (.tmp 22) (.int .u8 f) (.int .u64 (IntKind.u64.wrap (Int.tmod a 8)))) (.int .u8 g)/\c [.bool ((IntKind.u8.wrap (JT 8 g 1))==1)] b else c [.bool false] b)else c [.bool false] b)) fun m l =>
 ∃ d,Ap m 0=.bool d/\K (.bool d) l
theorem Sn(a0:YB)(l0 c0:Nat)(n1:Int):Yz Bi #[.slice a0 l0 c0,.int .i64 n1] (K9 a0 l0 c0 n1):=fun _ _ h=>Af (A:=⟨[4],[(4,4)],[]⟩) Tryz.func109 h
def IN(l:YB)(j:Int)(s:World)(K:YA):Prop :=
 YC Dq #[.pointer l,.int .i64 j,.slice none 0 0,.slice none 0 0] s fun p o=>∃ a,p=.int .i64 a/\(bif a != 0 then
 K (.tuple #[.slice none 0 0,.int .i64 a]) o
 else
 YC Dp #[.pointer l,.int .i64 j] o fun q c=>∃ m b,q=.tuple #[.pointer m,.int .i64 b]/\(bif b != 0 then
 K (.tuple #[.slice none 0 0,.int .i64 b]) c
 else
 ∃ n,(.pointer m:Value)=.pointer (some n)/\∃(d:YB)(h f:Nat),YD 88 (Addr.add (Addr.add n 0) 0) c (.slice d h f)/\YC Cj #[.slice d h f] c fun r t=>∃ e i g,r=.slice e i g/\K (.tuple #[.slice e i g,.int .i64 0]) t))
theorem IH(p0:YB)(n1:Int):Yz Ed #[.pointer p0,.int .i64 n1] (IN p0 n1):=fun _ _ h=>Af (A:=⟨[],[],[]⟩) Tryz.func110 h
def Fu(i:YB)(e:Int)(a:World)(K:YA):Prop :=
 Ac (fun c=>(bif decide (e >= 0)then ∃ f,(.pointer i:Value)=.pointer (some f)/\∃(g:YB)(d h:Nat),YD 178 (Addr.add f 1) a (.slice g d h)/\c [.bool (decide (e<(d:Int)))] a else c [.bool false] a)) fun l j =>
 ∃ b,Ap l 0=.bool b/\K (.bool b) j
theorem Kg(p0:YB)(n1:Int):Yz Dz #[.pointer p0,.int .i64 n1] (Fu p0 n1):=fun _ _ h=>Af (A:=⟨[4],[(4,4)],[]⟩) Tryz.func111 h
def JF(m:YB)(p n:Nat)(o:Array Value)(s:World)(K:YA):Prop :=
 ∃ b a,Yb 189 (.agg o) s b a/\∃ i,Yi (Addr.add b 2) a i/\∃ j:ByteArray,YD 9 (Addr.add b 3) a (.string j)/\∃ c g e l,Ru (convert 9 88 (.string j)) a (.slice c g e) l/\YC EU #[.slice m p n,.int .i64 i,.slice c g e] l fun r t=>∃ d h f q,r=.tuple #[.slice d h f,.int .i64 q]/\K (.slice d h f) t
theorem Q2(a0:YB)(l0 c0:Nat)(g1:Array Value):Yz G5 #[.slice a0 l0 c0,.agg g1] (JF a0 l0 c0 g1):=fun _ _ h=>Af (A:=⟨[],[],[]⟩) Tryz.func112 h
def UH(q:Array Value)(b:Int)(t:World)(K:YA):Prop :=
 ∃ c e,Yb 40 (.agg q) t c e/\Ac (fun j=>(bif decide (b<0)then j [.bool true] e else ∃ h,Yg 40 c e h/\YC GZ #[.agg h] e fun r u=>∃ l,r=.int .i64 l/\j [.bool (decide (b >= l))] u)) fun v a =>
 ∃ g,Ap v 0=.bool g/\(bif g then
 K (.tuple #[.int .i64 0,.int .i64 ((-1))]) a
 else
 (bif decide (b<2)then
 K (.tuple #[.int .i64 1,.int .i64 ((-1))]) a
 else
 ∃ m,Yi (Addr.add c 0) (Ah a) m/\∃ d,Al (Gp .quo 3 (.tmp 21) (.tmp 23) (.int .i64 (IntKind.i64.wrap (b-2))) (.int .i64 m)) (.int .i64 d)/\∃ n,Yi (Addr.add c 0) (Ah a) n/\∃ f,Al (Gp .rem 3 (.tmp 26) (.tmp 28) (.int .i64 (IntKind.i64.wrap (b-2))) (.int .i64 n)) (.int .i64 f)/\(bif f==0 then
 K (.tuple #[.int .i64 2,.int .i64 d]) (Ah a)
 else
 ∃ i,Yg 40 c (Ah a) i/\YC ER #[.agg i] (Ah a) fun s p=>∃ o,s=.int .i64 o/\(bif decide (f<=o)then
 K (.tuple #[.int .i64 3,.int .i64 d]) p
 else
 K (.tuple #[.int .i64 4,.int .i64 d]) p))))
theorem eU(g0:Array Value)(n1:Int):Yz LN #[.agg g0,.int .i64 n1] (UH g0 n1):=fun _ _ h=>Af (A:=⟨[8],[(8,4)],[]⟩) Tryz.func113 h
def J5(o:Array Value)(p:Array Value)(q:Int)(t:World)(K:YA):Prop :=
 ∃ b n,Yb 40 (.agg o) t b n/\∃ c a,Yb 119 (.agg p) n c a/\∃ h,Yg 40 b a h/\∃ i,Yg 119 c a i/\YC Dy #[.agg h,.agg i] a fun s d=>∃ f,s=.bool f/\(bif !f then
 K (.int .i64 ((-1))) d
 else
 ∃ e j g,Al (Instr.sliceAt 116 (.pointer (some (Addr.add c 1))) none none none) (.slice e j g)/\∃ l,Yi (Addr.add b 0) (Ah d) l/\YC I2 #[.slice e j g,.int .i64 l,.int .i64 q] (Ah d) fun r u=>∃ m,r=.int .i64 m/\K (.int .i64 m) u)
theorem Qs(g0:Array Value)(g1:Array Value)(n2:Int):Yz E4 #[.agg g0,.agg g1,.int .i64 n2] (J5 g0 g1 n2):=fun _ _ h=>Af (A:=⟨[],[],[]⟩) Tryz.func114 h
def K2(a4:Array Value)(a5:Array Value)(y:Int)(a3:Bool)(a9:World)(K:YA):Prop :=
 ∃ a a0,Yb 40 (.agg a4) a9 a a0/\∃ c a1,Yb 119 (.agg a5) a0 c a1/\∃ d b,Yq 119 a1 d b/\∃ f,Yg 40 a (Ah b) f/\∃ g,Yg 119 c (Ah b) g/\∃ q,Yg 40 a (Ah b) q/\∃ i,Yi (Addr.add a 0) (Ah b) i/\YC ER #[.agg q] (Ah b) fun a6 e=>∃ x,a6=.int .i64 x/\YD 40 a e (.agg f)/\YD 119 c e (.agg g)/\YD 3 (Addr.add a 0) e (.int .i64 i)/\YC JL #[.agg f,.agg g,.int .i64 y,.int .i64 (IntKind.i64.wrap (1+x)),.int .i64 i] e fun a7 a2=>∃ j,a7=.int .i64 j/\Ac (fun v=>(bif j==0 then
 ∃ o w p,Al (Instr.sliceAt 116 (.pointer (some (Addr.add c 1))) none none none) (.slice o w p)/\YC JM #[.slice o w p,.int .i64 y,.bool a3] a2 fun a8 b0=>∃ z,a8=.int .i64 z/\v [.int .i64 z] b0
 else
 v [.int .i64 j] a2)) fun b1 l =>
 ∃ h,Ap b1 0=.int .i64 h/\(bif h != 0 then
 ∃ r,Al (Instr.build 119 #[]) (.agg r)/\∃ m,YE 119 d (.agg r) l m/\∃ t,Yg 119 d m t/\K (.tuple #[.agg t,.int .i64 h]) m
 else
 ∃ s,Yg 119 c l s/\∃ n,YE 119 d (.agg s) l n/\∃ u,Yg 119 d n u/\K (.tuple #[.agg u,.int .i64 0]) n)
theorem Sg(g0:Array Value)(g1:Array Value)(n2:Int)(b3:Bool):Yz ET #[.agg g0,.agg g1,.int .i64 n2,.bool b3] (K2 g0 g1 n2 b3):=fun _ _ h=>Af (A:=⟨[10],[(10,24)],[]⟩) Tryz.func115 h
def Tf(o:Array Value)(q:World)(K:YA):Prop :=
 ∃ c d,Yb 40 (.agg o) q c d/\∃ g,Yg 40 c d g/\YC HC #[.agg g] d fun p r=>∃ h,p=.agg h/\∃ b n,Yq 40 r b n/\∃ a,YE 40 b (.agg h) n a/\Ac (fun l=>∃ i,Yg 40 b a i/\∃ j,Yg 40 c a j/\∃ f,Al (Gp .eql 40 (.tmp 6) (.tmp 7) (.agg i) (.agg j)) (.bool f)/\(bif f then ∃ m,Yi (Addr.add b 2) a m/\l [.bool (decide (m > 0))] a else l [.bool false] a)) fun t s =>
 ∃ e,Ap t 0=.bool e/\K (.bool e) s
theorem Zx(g0:Array Value):Yz DS #[.agg g0] (Tf g0):=fun _ _ h=>Af (A:=⟨[2],[(2,4)],[]⟩) Tryz.func116 h
def ZE(l:Array Value)(b:Int)(n:World)(K:YA):Prop :=
 ∃ c a,Yb 40 (.agg l) n c a/\Ac (fun g=>(bif decide (b<0)then g [.bool true] a else ∃ f,Yg 40 c a f/\YC HB #[.agg f] a fun m o=>∃ h,m=.int .i64 h/\g [.bool (decide (b >= h))] o)) fun p d =>
 ∃ e,Ap p 0=.bool e/\(bif e then
 K (.int .i64 ((-1))) d
 else
 ∃ i,Yi (Addr.add c 1) d i/\∃ j,Al (Gp .quo 3 (.tmp 13) (.tmp 15) (.int .i64 b) (.int .i64 i)) (.int .i64 j)/\K (.int .i64 j) d)
theorem qM(g0:Array Value)(n1:Int):Yz UM #[.agg g0,.int .i64 n1] (ZE g0 n1):=fun _ _ h=>Af (A:=⟨[12],[(12,4)],[]⟩) Tryz.func117 h
def K1(o:Array Value)(p:Array Value)(q:Int)(t:World)(K:YA):Prop :=
 ∃ b n,Yb 40 (.agg o) t b n/\∃ c a,Yb 119 (.agg p) n c a/\∃ h,Yg 40 b a h/\∃ i,Yg 119 c a i/\YC Dy #[.agg h,.agg i] a fun s d=>∃ f,s=.bool f/\(bif !f then
 K (.int .i64 ((-1))) d
 else
 ∃ e j g,Al (Instr.sliceAt 117 (.pointer (some (Addr.add c 17))) none none none) (.slice e j g)/\∃ l,Yi (Addr.add b 1) (Ah d) l/\YC I2 #[.slice e j g,.int .i64 l,.int .i64 q] (Ah d) fun r u=>∃ m,r=.int .i64 m/\K (.int .i64 m) u)
theorem Sf(g0:Array Value)(g1:Array Value)(n2:Int):Yz ES #[.agg g0,.agg g1,.int .i64 n2] (K1 g0 g1 n2):=fun _ _ h=>Af (A:=⟨[],[],[]⟩) Tryz.func118 h
def Ms(a5:Array Value)(a6:Array Value)(y:Int)(a4:Bool)(a9:World)(K:YA):Prop :=
 ∃ g a1,Yb 40 (.agg a5) a9 g a1/\∃ a a2,Yb 119 (.agg a6) a1 a a2/\∃ b c,Yq 119 a2 b c/\∃ x,Yi (Addr.add a 0) c x/\Ac (fun t=>(bif x==0 then
 t [.int .i64 2] c
 else
 t [.int .i64 0] c)) fun b1 d =>
 ∃ n,Yg 40 g d n/\∃ o,Yg 119 a d o/\∃ w,Ap b1 0=.int .i64 w/\∃ z,Yi (Addr.add g 1) d z/\YC JL #[.agg n,.agg o,.int .i64 y,.int .i64 w,.int .i64 z] d fun a7 a3=>∃ f,a7=.int .i64 f/\Ac (fun u=>(bif f==0 then
 ∃ l v m,Al (Instr.sliceAt 117 (.pointer (some (Addr.add a 17))) none none none) (.slice l v m)/\YC JM #[.slice l v m,.int .i64 y,.bool a4] a3 fun a8 b0=>∃ a0,a8=.int .i64 a0/\u [.int .i64 a0] b0
 else
 u [.int .i64 f] a3)) fun b2 h =>
 ∃ e,Ap b2 0=.int .i64 e/\(bif e != 0 then
 ∃ p,Al (Instr.build 119 #[]) (.agg p)/\∃ i,YE 119 b (.agg p) h i/\∃ r,Yg 119 b i r/\K (.tuple #[.agg r,.int .i64 e]) i
 else
 ∃ q,Yg 119 a h q/\∃ j,YE 119 b (.agg q) h j/\∃ s,Yg 119 b j s/\K (.tuple #[.agg s,.int .i64 0]) j)
theorem TO(g0:Array Value)(g1:Array Value)(n2:Int)(b3:Bool):Yz F2 #[.agg g0,.agg g1,.int .i64 n2,.bool b3] (Ms g0 g1 n2 b3):=fun _ _ h=>Af (A:=⟨[10,11],[(10,3),(11,24)],[]⟩) Tryz.func119 h
def H8(a7:Value)(a1:Value)(z:Addr)(a8:Value)(d:World)(K:YA):Prop :=
 ∃ x,Ru (Instr.loadAt 22 a1) d (.pointer x) d/\∃ y,(.pointer x:Value)=.pointer (some y)/\∃ v,Yp 31 (Addr.add y 0) d v/\YC AY #[.pointer v] d fun a5 a9=>∃ n,a5=.agg n/\∃ g,Al (Instr.field 40 (.agg n) 2) (.int .i64 g)/\A6 (fun a4 b1 b =>
 ∃ c,Ap b1 1=.int .i64 c/\(bif decide (c<g)then
 ∃ s,Yi (Addr.add z 0) b s/\∃ h,Al (Gp .rem 3 (.tmp 22) (.tmp 23) (.int .i64 (IntKind.i64.wrap (s+c))) (.int .i64 g)) (.int .i64 h)/\Ac (fun o=>(bif c==0 then ∃ j,Ru (Instr.loadAt 4 a8) b (.bool j) b/\o [.bool j] b else o [.bool false] b)) fun b2 i =>
 ∃ e,Ap b2 0=.bool e/\Ac (fun p=>(bif e then
 ∃ t,Yi (Addr.add z 1) i t/\p [.int .i64 (IntKind.i64.wrap (t+1))] i
 else
 p [.int .i64 0] i)) fun a3 a =>
 Ac (fun q=>∃ w,Ru (Instr.loadAt 22 a1) a (.pointer w) a/\∃ a0,(.pointer w:Value)=.pointer (some a0)/\∃ r,YD 97 (Addr.add a0 1) a (.map r)/\∃ l,Ru (Instr.lookup 97 (.map r) (.int .i64 h) false) a (.bool l) a/\(bif !l then ∃ u,Ap a3 0=.int .i64 u/\WN Tryz.prog a7 #[.int .i64 h,.int .i64 u] a fun a6 b0=>∃ m,a6=.bool m/\q [.bool (!m)] b0 else q [.bool false] a)) fun b3 a2 =>
 ∃ f,Ap b3 0=.bool f/\(bif f then
 K (.tuple #[]) a2
 else
 a4 [Ap a3 0,.int .i64 (IntKind.i64.wrap (c+1)),.bool e,.bool f] a2)
 else
 K (.tuple #[]) b)) [undef,.int .i64 0,undef,undef] a9
theorem MS(v0:Value)(v1:Value)(q2:Addr)(v3:Value):Yz Dn #[v0,v1,.pointer (some q2),v3] (H8 v0 v1 q2 v3):=fun _ _ h=>Af (A:=⟨[8,16,29,46],[(8,3),(16,3),(29,4),(46,4)],[]⟩) Tryz.func120 h
def Jf(e:YB)(g:Int)(a:World)(K:YA):Prop :=
 (bif Option.isNone e then
 K (.tuple #[.int .i64 0,.int .i64 2]) a
 else
 ∃ f,(.pointer e:Value)=.pointer (some f)/\∃ b,Yg 40 (Addr.add (Addr.add f 0) 1) a b/\YC ED #[.agg b,.int .i64 g] a fun h i=>∃ c d,h=.tuple #[.int .i64 c,.int .i64 d]/\K (.tuple #[.int .i64 c,.int .i64 d]) i)
theorem MW(p0:YB)(n1:Int):Yz EH #[.pointer p0,.int .i64 n1] (Jf p0 n1):=fun _ _ h=>Af (A:=⟨[],[],[]⟩) Tryz.func121 h
def Tj(d0:Array Value)(d:YB)(c e:Nat)(d8:World)(K:YA):Prop :=
 ∃ g c5,Yb 40 (.agg d0) d8 g c5/\∃ a l,Yq 119 c5 a l/\∃ a3,Yg 40 g l a3/\YC DS #[.agg a3] l fun d4 m=>∃ v,d4=.bool v/\(bif !v then
 ∃ a4,Al (Instr.build 119 #[]) (.agg a4)/\∃ n,YE 119 a (.agg a4) m n/\∃ b1,Yg 119 a n b1/\K (.tuple #[.agg b1,.int .i64 1]) n
 else
 (bif (c:Int) != 256 then
 ∃ a5,Al (Instr.build 119 #[]) (.agg a5)/\∃ o,YE 119 a (.agg a5) m o/\∃ b2,Yg 119 a o b2/\K (.tuple #[.agg b2,.int .i64 4]) o
 else
 ∃ p b6 x,Al (Instr.sliceAt 88 (.slice d c e) (some (.int .i64 4)) (some (.int .i64 6)) none) (.slice p b6 x)/\YC Bb #[.slice p b6 x] m fun d5 e0=>∃ c2,d5=.int .u64 c2/\∃ a6,Al (Instr.build 119 #[(0,.int .i64 (IntKind.i64.wrap c2))]) (.agg a6)/\∃ b c7,Yq 119 e0 b c7/\∃ c8,YE 119 b (.agg a6) c7 c8/\∃ q b7 y,Al (Instr.sliceAt 116 (.pointer (some (Addr.add b 1))) none none none) (.slice q b7 y)/\∃ r b8 z,Al (Instr.sliceAt 88 (.slice d c e) (some (.int .i64 16)) none none) (.slice r b8 z)/\∃ d1 c9,Ru (Builtin.copy_ #[88,88] 3 #[.slice q b7 y,.slice r b8 z]) (Ah c8) (.int .i64 d1) c9/\∃ s b9 a0,Al (Instr.sliceAt 117 (.pointer (some (Addr.add b 17))) none none none) (.slice s b9 a0)/\∃ t c0 a1,Al (Instr.sliceAt 88 (.slice d c e) (some (.int .i64 32)) none none) (.slice t c0 a1)/\∃ d2 f,Ru (Builtin.copy_ #[88,88] 3 #[.slice s b9 a0,.slice t c0 a1]) (Ah c9) (.int .i64 d2) f/\∃ a7,Yg 40 g f a7/\∃ a8,Yg 119 b f a8/\YC HD #[.agg a7,.agg a8] f fun d6 d9=>∃ u c1 a2 c3,d6=.tuple #[.slice u c1 a2,.int .i64 c3]/\YC Jg #[.slice d c e,.slice u c1 a2] d9 fun d7 c6=>∃ c4 d3,d7=.tuple #[.int .i64 c4,.int .i64 d3]/\Ac (fun b5=>(bif c3 != 0 then b5 [.bool true] c6 else b5 [.bool (decide (c4 >= 0))] c6)) fun e1 h =>
 ∃ w,Ap e1 0=.bool w/\(bif w then
 ∃ a9,Al (Instr.build 119 #[]) (.agg a9)/\∃ i,YE 119 a (.agg a9) h i/\∃ b3,Yg 119 a i b3/\K (.tuple #[.agg b3,.int .i64 8]) i
 else
 ∃ b0,Yg 119 b h b0/\∃ j,YE 119 a (.agg b0) h j/\∃ b4,Yg 119 a j b4/\K (.tuple #[.agg b4,.int .i64 0]) j)))
theorem Z0(g0:Array Value)(a1:YB)(l1 c1:Nat):Yz Nk #[.agg g0,.slice a1 l1 c1] (Tj g0 a1 l1 c1):=fun _ _ h=>Af (A:=⟨[53],[(53,4)],[]⟩) Tryz.func122 h
def Pd(d7:Array Value)(d8:Array Value)(e6:World)(K:YA):Prop :=
 ∃ f d2,Yb 40 (.agg d7) e6 f d2/\∃ a i,Yb 119 (.agg d8) d2 a i/\∃ a1,Yg 40 f i a1/\∃ b5,Yi (Addr.add a 0) i b5/\YC Hz #[.agg a1,.int .i64 b5] i fun e1 f1=>∃ a2 b6,e1=.tuple #[.agg a2,.int .i64 b6]/\∃ g d4,Yq 119 f1 g d4/\∃ j,YE 119 g (.agg a2) d4 j/\(bif b6 != 0 then
 K (.bool false) j
 else
 ∃ b7,Yi (Addr.add a 0) j b7/\∃ a3,Al (Instr.build 119 #[(0,.int .i64 b7)]) (.agg a3)/\∃ e d5,Yq 119 j e d5/\∃ o,YE 119 e (.agg a3) d5 o/\∃ a4,Yg 116 (Addr.add a 1) o a4/\A6 (fun d9 f2 l =>
 ∃ c,Ap f2 0=.int .i64 c/\(bif decide (c<16)then
 ∃ b8,Al (Instr.index 116 (.agg a4) (.int .i64 c)) (.int .u8 b8)/\∃ c8,Yx 116 (.pointer (some (Addr.add g 1))) (.int .i64 c) c8/\∃ b9,YD 5 c8 l (.int .u8 b9)/\∃ c9,Yx 116 (.pointer (some (Addr.add e 1))) (.int .i64 c) c9/\∃ d6,YE 5 c9 (.int .u8 (IntKind.u8.wrap (TY 8 b8 b9))) l d6/\d9 [.int .i64 (IntKind.i64.wrap (c+1))] d6
 else
 ∃ a5,Yg 117 (Addr.add a 17) l a5/\A6 (fun e0 f3 h =>
 ∃ d,Ap f3 0=.int .i64 d/\(bif decide (d<8)then
 ∃ c0,Al (Instr.index 117 (.agg a5) (.int .i64 d)) (.int .u8 c0)/\∃ d0,Yx 117 (.pointer (some (Addr.add g 17))) (.int .i64 d) d0/\∃ c1,YD 5 d0 h (.int .u8 c1)/\∃ d1,Yx 117 (.pointer (some (Addr.add e 17))) (.int .i64 d) d1/\∃ d3,YE 5 d1 (.int .u8 (IntKind.u8.wrap (TY 8 c0 c1))) h d3/\e0 [.int .i64 (IntKind.i64.wrap (d+1))] d3
 else
 Ac (fun b0=>∃ p b1 x,Al (Instr.sliceAt 116 (.pointer (some (Addr.add a 1))) none none none) (.slice p b1 x)/\∃ c2,Yi (Addr.add f 0) (Ah h) c2/\∃ q b2 y,Al (Instr.sliceAt 116 (.pointer (some (Addr.add a 1))) none none none) (.slice q b2 y)/\YC Do #[.slice p b1 x,.int .i64 c2] (Ah h) fun e2 e7=>∃ c3,e2=.int .i64 c3/\YC Do #[.slice q b2 y,.int .i64 128] e7 fun e3 n=>∃ c4,e3=.int .i64 c4/\(bif c3==c4 then ∃ r b3 z,Al (Instr.sliceAt 117 (.pointer (some (Addr.add a 17))) none none none) (.slice r b3 z)/\∃ c5,Yi (Addr.add f 1) n c5/\∃ s b4 a0,Al (Instr.sliceAt 117 (.pointer (some (Addr.add a 17))) none none none) (.slice s b4 a0)/\YC Do #[.slice r b3 z,.int .i64 c5] n fun e4 e8=>∃ c6,e4=.int .i64 c6/\YC Do #[.slice s b4 a0,.int .i64 64] e8 fun e5 e9=>∃ c7,e5=.int .i64 c7/\b0 [.bool (c6==c7)] e9 else b0 [.bool false] n)) fun f4 b =>
 Ac (fun m=>∃ a6,Yg 116 (Addr.add e 1) b a6/\∃ a7,Yg 116 (Addr.add a 1) b a7/\∃ v,Al (Gp .eql 116 (.tmp 78) (.tmp 80) (.agg a6) (.agg a7)) (.bool v)/\(bif v then ∃ a8,Yg 117 (Addr.add e 17) b a8/\∃ a9,Yg 117 (Addr.add a 17) b a9/\∃ w,Al (Gp .eql 117 (.tmp 84) (.tmp 86) (.agg a8) (.agg a9)) (.bool w)/\(bif w then ∃ t,Ap f4 0=.bool t/\m [.bool t] b else m [.bool false] b)else m [.bool false] b)) fun f5 f0 =>
 ∃ u,Ap f5 0=.bool u/\K (.bool u) f0)) [.int .i64 0] l)) [.int .i64 0] o)
theorem Wz(g0:Array Value)(g1:Array Value):Yz Dy #[.agg g0,.agg g1] (Pd g0 g1):=fun _ _ h=>Af (A:=⟨[4,12,27,43],[(4,4),(12,4),(27,3),(43,3)],[]⟩) Tryz.func123 h
def QA(c:YB)(g e:Nat)(o:Int)(r:World)(K:YA):Prop :=
 YC Nh #[.slice c g e,.int .i64 o] r fun q s=>∃ j,q=.int .i64 j/\A6 (fun n b l =>
 ∃ a,Ap b 1=.int .i64 a/\(bif decide (a<j)then
 YC FD #[.slice c g e,.int .i64 a] l fun p m=>∃ d,p=.bool d/\Ac (fun f=>(bif d then
 ∃ h,Ap b 0=.int .i64 h/\f [.int .i64 (IntKind.i64.wrap (h+1))] m
 else
 f [Ap b 0] m)) fun u t =>
 n [Ap u 0,.int .i64 (IntKind.i64.wrap (a+1))] t
 else
 ∃ i,Ap b 0=.int .i64 i/\K (.int .i64 i) l)) [.int .i64 0,.int .i64 0] s
theorem Ye(a0:YB)(l0 c0:Nat)(n1:Int):Yz Do #[.slice a0 l0 c0,.int .i64 n1] (QA a0 l0 c0 n1):=fun _ _ h=>Af (A:=⟨[5,10],[(5,3),(10,3)],[]⟩) Tryz.func124 h
def QC(n:Array Value)(p:World)(K:YA):Prop :=
 ∃ e l,Yb 40 (.agg n) p e l/\∃ g,Al (Instr.build 40 #[]) (.agg g)/\∃ a m,Yq 40 l a m/\∃ b,YE 40 a (.agg g) m b/\∃ h,Yg 40 e (Ah b) h/\∃ d,Yg 40 a (Ah b) d/\YC HC #[.agg h] (Ah b) fun o c=>∃ i,o=.agg i/\YD 40 a c (.agg d)/\∃ f,Al (Gp .eql 40 (.tmp 6) (.tmp 7) (.agg i) (.agg d)) (.bool f)/\(bif f then
 K (.int .i64 0) c
 else
 ∃ j,Yi (Addr.add e 1) c j/\K (.int .i64 (IntKind.i64.wrap (Int.tdiv j 4))) c)
theorem Yh(g0:Array Value):Yz ER #[.agg g0] (QC g0):=fun _ _ h=>Af (A:=⟨[],[],[]⟩) Tryz.func125 h
def JI(j:YB)(i:Array Value)(n:World)(K:YA):Prop :=
 ∃ b c,Yb 126 (.agg i) n b c/\∃ a,Yg 126 b (Ah c) a/\YC Hf #[.pointer j] (Ah c) fun l h=>∃ d g f,l=.slice d g f/\YD 126 b h (.agg a)/\YC CW #[.slice d g f,.agg a] h fun m o=>∃ e,m=.bool e/\K (.bool e) o
theorem Q5(p0:YB)(g1:Array Value):Yz G7 #[.pointer p0,.agg g1] (JI p0 g1):=fun _ _ h=>Af (A:=⟨[],[],[]⟩) Tryz.func126 h
def JH(b:YB)(b5:Int)(b4:Array Value)(b6:World)(K:YA):Prop :=
 ∃ e c,Yb 126 (.agg b4) b6 e c/\(bif Option.isNone b then
 K (.int .i64 2) c
 else
 Ac (fun a1=>∃ a6,Yi (Addr.add e 0) c a6/\(bif decide (a6<1)then a1 [.bool true] c else ∃ a7,Yi (Addr.add e 0) c a7/\a1 [.bool (decide (a7 > 3))] c)) fun b7 a =>
 ∃ t,Ap b7 0=.bool t/\(bif t then
 K (.int .i64 1) a
 else
 ∃ a8,(.pointer b:Value)=.pointer (some a8)/\∃(b2:YB)(a2 b3:Nat),YD 199 (Addr.add a8 0) a (.slice b2 a2 b3)/\(bif decide ((a2:Int) >= 4096)then
 K (.int .i64 5) a
 else
 ∃ l,(.pointer b:Value)=.pointer (some l)/\∃(f:YB)(h g:Nat),YD 199 (Addr.add l 0) (Ah a) (.slice f h g)/\∃ m,(.pointer b:Value)=.pointer (some m)/\∃(o:YB)(i u:Nat),YD 199 (Addr.add m 0) (Ah a) (.slice o i u)/\∃ n,(.pointer b:Value)=.pointer (some n)/\∃(p:YB)(j v:Nat),YD 199 (Addr.add n 0) (Ah a) (.slice p j v)/\∃ q a3 w,Al (Instr.sliceAt 199 (.slice f h g) none (some (.int .i64 ((i:Int)))) (some (.int .i64 ((j:Int))))) (.slice q a3 w)/\∃ z,Yg 126 e (Ah a) z/\∃ a0,Al (Instr.build 203 #[(0,.int .i64 b5),(1,.agg z)]) (.agg a0)/\∃ r a4 x d,Ru (Instr.buildSlice 199 1 #[(0,.agg a0)]) (Ah a) (.slice r a4 x) d/\YD 199 (Addr.add l 0) d (.slice f h g)/\YD 199 (Addr.add m 0) d (.slice o i u)/\YD 199 (Addr.add n 0) d (.slice p j v)/\∃ s a5 y b0,Ru (Builtin.append_ #[199,199] 199 #[.slice q a3 w,.slice r a4 x]) d (.slice s a5 y) b0/\∃ a9,(.pointer b:Value)=.pointer (some a9)/\∃ b1,YE 199 (Addr.add a9 0) (.slice s a5 y) b0 b1/\K (.int .i64 0) b1)))
theorem Q4(p0:YB)(n1:Int)(g2:Array Value):Yz G6 #[.pointer p0,.int .i64 n1,.agg g2] (JH p0 n1 g2):=fun _ _ h=>Af (A:=⟨[10],[(10,4)],[]⟩) Tryz.func127 h
def LL(h:YB)(e i:Nat)(c:Int)(d:World)(K:YA):Prop :=
 Ac (fun b=>(bif decide (c >= 0)then b [.bool (decide (c<(IntKind.i64.wrap (8*(e:Int)))))] d else b [.bool false] d)) fun g f =>
 ∃ a,Ap g 0=.bool a/\K (.bool a) f
theorem Qk(a0:YB)(l0 c0:Nat)(n1:Int):Yz LM #[.slice a0 l0 c0,.int .i64 n1] (LL a0 l0 c0 n1):=fun _ _ h=>Af (A:=⟨[4],[(4,4)],[]⟩) Tryz.func128 h
def Jc(c:YB)(g:Int)(j:World)(K:YA):Prop :=
 Ac (fun b=>(bif !(Option.isNone c)then YC D8 #[.pointer c,.int .i64 g] j fun l a=>∃ d,l=.bool d/\(bif d then ∃ i,(.pointer c:Value)=.pointer (some i)/\∃ f,YD 161 (Addr.add i 3) a (.map f)/\∃ h,Ru (Instr.lookup 161 (.map f) (.int .i64 g) false) a (.pointer h) a/\b [.bool (Option.isNone h)] a else b [.bool false] a)else b [.bool false] j)) fun n m =>
 ∃ e,Ap n 0=.bool e/\K (.bool e) m
theorem PL(p0:YB)(n1:Int):Yz FL #[.pointer p0,.int .i64 n1] (Jc p0 n1):=fun _ _ h=>Af (A:=⟨[4],[(4,4)],[]⟩) Tryz.func129 h
def JK(c:YB)(r:Int)(a3:Array Value)(a1:YB)(a4 a2:Nat)(a8:World)(K:YA):Prop :=
 ∃ d a0,Yb 119 (.agg a3) a8 d a0/\YC EH #[.pointer c,.int .i64 r] a0 fun a5 a=>∃ s b,a5=.tuple #[.int .i64 s,.int .i64 b]/\(bif b != 0 then
 K (.tuple #[.int .i64 0,.int .i64 b]) a
 else
 ∃ y,(.pointer c:Value)=.pointer (some y)/\∃ m,Yg 40 (Addr.add (Addr.add y 0) 1) (Ah a) m/\∃ n,Yg 119 d (Ah a) n/\YC HD #[.agg m,.agg n] (Ah a) fun a6 e=>∃ g p j t,a6=.tuple #[.slice g p j,.int .i64 t]/\Ac (fun o=>(bif t != 0 then o [.bool true] e else ∃ u,Yi (Addr.add d 0) e u/\o [.bool (u != r)] e)) fun b0 f =>
 ∃ i,Ap b0 0=.bool i/\(bif i then
 K (.tuple #[.int .i64 0,.int .i64 1]) f
 else
 ∃ z,(.pointer c:Value)=.pointer (some z)/\∃ x,Yp 89 (Addr.add z 4) (Ah f) x/\∃ h q l,Al (Instr.sliceAt 88 (.slice g p j) none (some (.int .i64 64)) none) (.slice h q l)/\YC CG #[.pointer x,.int .i64 s,.int .i64 0,.slice h q l,.slice a1 a4 a2] (Ah f) fun a7 a9=>∃ v w,a7=.tuple #[.int .i64 v,.int .i64 w]/\K (.tuple #[.int .i64 v,.int .i64 w]) a9))
theorem Q7(p0:YB)(n1:Int)(g2:Array Value)(a3:YB)(l3 c3:Nat):Yz Dt #[.pointer p0,.int .i64 n1,.agg g2,.slice a3 l3 c3] (JK p0 n1 g2 a3 l3 c3):=fun _ _ h=>Af (A:=⟨[39],[(39,4)],[]⟩) Tryz.func130 h
def Mq(c:YB)(a:World)(K:YA):Prop :=
 (bif Option.isNone c then
 K (.int .i64 0) a
 else
 ∃ d,(.pointer c:Value)=.pointer (some d)/\∃(e:YB)(b f:Nat),YD 206 (Addr.add d 0) a (.slice e b f)/\K (.int .i64 ((b:Int))) a)
theorem TM(p0:YB):Yz Ck #[.pointer p0] (Mq p0):=fun _ _ h=>Af (A:=⟨[],[],[]⟩) Tryz.func131 h
def UI(h:Array Value)(j:World)(K:YA):Prop :=
 ∃ a c,Yb 40 (.agg h) j a c/\∃ e,Yg 40 a c e/\YC DS #[.agg e] c fun i b=>∃ d,i=.bool d/\(bif !d then
 K (.int .i64 0) b
 else
 ∃ f,Yi (Addr.add a 2) b f/\∃ g,Yi (Addr.add a 0) b g/\K (.int .i64 (IntKind.i64.wrap (2+(IntKind.i64.wrap (f*g))))) b)
theorem eV(g0:Array Value):Yz GZ #[.agg g0] (UI g0):=fun _ _ h=>Af (A:=⟨[],[],[]⟩) Tryz.func132 h
def J4(d:YB)(g:Int)(a4:YB)(w a5:Nat)(a8:World)(K:YA):Prop :=
 YC F1 #[.pointer d,.int .i64 g] a8 fun a6 a=>∃ h,a6=.int .i64 h/\(bif h != 0 then
 K (.int .i64 h) a
 else
 (bif (w:Int) != 256 then
 K (.int .i64 4) a
 else
 ∃ a1,(.pointer d:Value)=.pointer (some a1)/\∃ a0,YD 207 (Addr.add a1 1) a (.map a0)/\∃ l b q,Ru (Instr.lookup 207 (.map a0) (.int .i64 g) false) a (.slice l b q) a/\YC EP #[.pointer d] a fun a7 f=>∃ p,a7=.bool p/\Ac (fun v=>(bif p then
 ∃ e,(.pointer d:Value)=.pointer (some e)/\∃ c,YD 207 (Addr.add e 1) (Ah f) (.map c)/\∃ m x r,Al (Instr.sliceAt 206 (.slice l b q) none (some (.int .i64 ((b:Int)))) (some (.int .i64 ((b:Int))))) (.slice m x r)/\∃ a2,Al (Instr.arrayAt 278 (.slice a4 w a5)) (.pointer (some a2))/\∃ u,Yg 278 a2 (Ah f) u/\∃ n y s i,Ru (Instr.buildSlice 206 1 #[(0,.agg u)]) (Ah f) (.slice n y s) i/\YD 207 (Addr.add e 1) i (.map c)/\∃ o z t j,Ru (Builtin.append_ #[206,206] 206 #[.slice m x r,.slice n y s]) i (.slice o z t) j/\YD 207 (Addr.add e 1) j (.map c)/\∃ a3,Eh (Instr.mapUpdate 207 (.map c) (.int .i64 g) (.slice o z t)) j a3/\v [] a3
 else
 v [] f)) fun b0 a9 =>
 K (.int .i64 0) a9))
theorem Qr(p0:YB)(n1:Int)(a2:YB)(l2 c2:Nat):Yz Bo #[.pointer p0,.int .i64 n1,.slice a2 l2 c2] (J4 p0 n1 a2 l2 c2):=fun _ _ h=>Af (A:=⟨[],[],[]⟩) Tryz.func133 h
def J3(a:YB)(s:World)(K:YA):Prop :=
 (bif Option.isNone a then
 K (.int .i64 2) s
 else
 YC EP #[.pointer a] s fun y t=>∃ l,y=.bool l/\(bif !l then
 K (.int .i64 0) t
 else
 YC GY #[.pointer a] t fun z a1=>∃ j f m,z=.slice j f m/\A6 (fun x a2 b =>
 ∃ c,Ap a2 0=.int .i64 c/\(bif decide (c<(f:Int))then
 ∃ p,Yx 80 (.slice j f m) (.int .i64 c) p/\∃ h,Yi p b h/\∃ i,(.pointer a:Value)=.pointer (some i)/\∃(d:YB)(g e:Nat),YD 206 (Addr.add i 0) (Ah b) (.slice d g e)/\YC EQ #[.pointer a,.int .i64 h] (Ah b) fun a0 u=>∃ n,a0=.agg n/\YD 206 (Addr.add i 0) u (.slice d g e)/\∃ q,Yx 206 (.slice d g e) (.int .i64 h) q/\∃ v,YE 278 q (.agg n) u v/\x [.int .i64 (IntKind.i64.wrap (c+1))] v
 else
 ∃ r,(.pointer a:Value)=.pointer (some r)/\∃ o,YD 207 (Addr.add r 1) b (.map o)/\∃ w,Ru (Builtin.clear_ #[207] 0 #[.map o]) b (.tuple #[]) w/\K (.int .i64 0) w)) [.int .i64 0] a1))
theorem Qq(p0:YB):Yz BX #[.pointer p0] (J3 p0):=fun _ _ h=>Af (A:=⟨[15],[(15,3)],[]⟩) Tryz.func134 h
def UL(c3:Array Value)(c6:Int)(d7:Value)(d8:World)(K:YA):Prop :=
 ∃ c b3,Yb 40 (.agg c3) d8 c b3/\A6 (fun c4 c1 d =>
 ∃ b,Ap c1 0=.int .i64 b/\∃ b0,Yi (Addr.add c 2) d b0/\(bif decide (b<b0)then
 ∃ w,Yg 40 c d w/\YC Hz #[.agg w,.int .i64 b] d fun d1 e1=>∃ x c7,d1=.tuple #[.agg x,.int .i64 c7]/\∃ m b8,Yq 119 e1 m b8/\∃ e,YE 119 m (.agg x) b8 e/\∃ y,Yg 40 c e y/\∃ z,Yg 119 m e z/\YC HD #[.agg y,.agg z] e fun d2 b9=>∃ p a7 t c8,d2=.tuple #[.slice p a7 t,.int .i64 c8]/\∃ a0,Yg 40 c b9 a0/\YC ED #[.agg a0,.int .i64 b] b9 fun d3 c0=>∃ b1 c9,d3=.tuple #[.int .i64 b1,.int .i64 c9]/\∃ a1,Yg 40 c c0 a1/\YC ER #[.agg a1] c0 fun d4 e2=>∃ b2,d4=.int .i64 b2/\A6 (fun c5 f n =>
 ∃ a,Ap f 1=.int .i64 a/\(bif decide (a<(IntKind.i64.wrap (1+b2)))then
 Ac (fun a3=>(bif decide (a > 0)then
 ∃ q a8 u b4,Ru (Instr.makeSlice 88 (.int .i64 256) (.int .i64 256)) n (.slice q a8 u) b4/\a3 [.slice q a8 u] b4
 else
 a3 [Ap f 0] n)) fun c2 b5 =>
 Ac (fun a4=>(bif b==0 then a4 [.bool (a==1)] b5 else a4 [.bool false] b5)) fun e3 b6 =>
 ∃ h,Ap e3 0=.bool h/\Ac (fun a5=>(bif h then
 ∃ o a6 s,Ap c2 0=.slice o a6 s/\∃ a2,Al (Instr.build 218 #[(0,.int .i64 2),(1,.int .i64 1),(3,.int .i64 1)]) (.agg a2)/\YC Nm #[.slice o a6 s,.int .i64 1,.agg a2] b6 fun d5 d9=>∃ r a9 v d0,d5=.tuple #[.slice r a9 v,.int .i64 d0]/\a5 [.slice r a9 v] d9
 else
 a5 [Ap c2 0] b6)) fun e4 e0 =>
 ∃ g j i,Ap e4 0=.slice g j i/\WN Tryz.prog d7 #[.int .i64 (IntKind.i64.wrap (b1+a)),.slice g j i] e0 fun d6 b7=>∃ l,d6=.int .i64 l/\(bif l != 0 then
 K (.int .i64 l) b7
 else
 c5 [.slice g j i,.int .i64 (IntKind.i64.wrap (a+1)),.bool h] b7)
 else
 c4 [.int .i64 (IntKind.i64.wrap (b+1)),Ap f 0,.int .i64 a,Ap f 2] n)) [.slice p a7 t,.int .i64 0,Ap c1 3] e2
 else
 K (.int .i64 0) d)) [.int .i64 c6,undef,undef,undef] b3
theorem eZ(g0:Array Value)(n1:Int)(v2:Value):Yz PQ #[.agg g0,.int .i64 n1,v2] (UL g0 n1 v2):=fun _ _ h=>Af (A:=⟨[7,10,44,55],[(7,3),(10,88),(44,3),(55,4)],[]⟩) Tryz.func135 h
def Tt(b5:Array Value)(c4:World)(K:YA):Prop :=
 ∃ b c,Yb 143 (.agg b5) c4 b c/\∃ w,Yg 143 b c w/\YC DB #[.agg w] c fun c3 b0=>∃ n,c3=.bool n/\(bif !n then
 K (.tuple #[.slice none 0 0,.int .i64 1]) b0
 else
 ∃ a b1,Yq 277 b0 a b1/\∃ m a4 v,Al (Instr.sliceAt 277 (.pointer (some a)) none none none) (.slice m a4 v)/\∃ b6 d,Ru (Builtin.copy_ #[88,9] 3 #[.slice m a4 v,.string (⟨#[76,86,69,69]⟩)]) b1 (.int .i64 b6) d/\∃ e x o,Al (Instr.sliceAt 277 (.pointer (some a)) (some (.int .i64 4)) (some (.int .i64 12)) none) (.slice e x o)/\∃ a5,YD 2 (Addr.add b 0) (Ah d) (.int .i64 a5)/\YC CA #[.slice e x o,.int .u64 (IntKind.u64.wrap a5)] (Ah d) fun b7 b2=>b7=.tuple #[]/\∃ f y p,Al (Instr.sliceAt 277 (.pointer (some a)) (some (.int .i64 12)) (some (.int .i64 14)) none) (.slice f y p)/\∃ a6,Yi (Addr.add (Addr.add b 1) 0) (Ah b2) a6/\YC CA #[.slice f y p,.int .u64 (IntKind.u64.wrap a6)] (Ah b2) fun b8 b3=>b8=.tuple #[]/\∃ g z q,Al (Instr.sliceAt 277 (.pointer (some a)) (some (.int .i64 14)) (some (.int .i64 16)) none) (.slice g z q)/\∃ a7,Yi (Addr.add (Addr.add b 1) 1) (Ah b3) a7/\YC CA #[.slice g z q,.int .u64 (IntKind.u64.wrap a7)] (Ah b3) fun b9 b4=>b9=.tuple #[]/\∃ h a0 r,Al (Instr.sliceAt 277 (.pointer (some a)) (some (.int .i64 16)) (some (.int .i64 18)) none) (.slice h a0 r)/\∃ a8,Yi (Addr.add (Addr.add b 1) 2) (Ah b4) a8/\YC CA #[.slice h a0 r,.int .u64 (IntKind.u64.wrap a8)] (Ah b4) fun c0 c6=>c0=.tuple #[]/\∃ i a1 s,Al (Instr.sliceAt 277 (.pointer (some a)) (some (.int .i64 252)) none none) (.slice i a1 s)/\∃ j a2 t,Al (Instr.sliceAt 277 (.pointer (some a)) none (some (.int .i64 252)) none) (.slice j a2 t)/\YC NO #[.slice j a2 t] (Ah c6) fun c1 c7=>∃ a9,c1=.int .u32 a9/\YC CA #[.slice i a1 s,.int .u64 (IntKind.u64.wrap a9)] c7 fun c2 c5=>c2=.tuple #[]/\∃ l a3 u,Al (Instr.sliceAt 277 (.pointer (some a)) none none none) (.slice l a3 u)/\K (.tuple #[.slice l a3 u,.int .i64 0]) c5)
theorem ZA(g0:Array Value):Yz Np #[.agg g0] (Tt g0):=fun _ _ h=>Af (A:=⟨[],[],[]⟩) Tryz.func136 h
def QH(f:YB)(n:Int)(q:World)(K:YA):Prop :=
 YC Ni #[.pointer f,.int .i64 n] q fun o i=>∃ g a,o=.tuple #[.pointer g,.int .i64 a]/\(bif a != 0 then
 K (.tuple #[.pointer none,.int .i64 a]) i
 else
 YC Ck #[.pointer f] i fun p r=>∃ e,p=.int .i64 e/\∃ c j,Ru (Instr.makeMap 161 none) r (.map c) j/\∃ d l,Ru (Instr.makeMap 162 none) j (.map d) l/\∃ b,Al (Instr.build 164 #[(0,.pointer g),(1,.int .i64 e),(3,.map c),(4,.map d)]) (.agg b)/\∃ h m,Yb 164 (.agg b) l h m/\K (.tuple #[.pointer (some h),.int .i64 0]) m)
theorem Yo(p0:YB)(n1:Int):Yz LR #[.pointer p0,.int .i64 n1] (QH p0 n1):=fun _ _ h=>Af (A:=⟨[],[],[]⟩) Tryz.func137 h
def GX(h:YB)(g:Int)(o:World)(K:YA):Prop :=
 YC F1 #[.pointer h,.int .i64 g] o fun m i=>∃ a,m=.int .i64 a/\(bif a != 0 then
 K (.tuple #[.slice none 0 0,.int .i64 a]) i
 else
 YC EQ #[.pointer h,.int .i64 g] i fun n p=>∃ e,n=.agg e/\∃ b j,Yq 278 p b j/\∃ l,YE 278 b (.agg e) j l/\∃ c f d,Al (Instr.sliceAt 278 (.pointer (some b)) none none none) (.slice c f d)/\K (.tuple #[.slice c f d,.int .i64 0]) l)
theorem Kr(p0:YB)(n1:Int):Yz Cs #[.pointer p0,.int .i64 n1] (GX p0 n1):=fun _ _ h=>Af (A:=⟨[],[],[]⟩) Tryz.func138 h
def MZ(c2:YB)(c7 c4:Nat)(c3:YB)(c8 c5:Nat)(c9:Int)(d4:World)(K:YA):Prop :=
 ∃ e b4,Yq 143 d4 e b4/\∃ t,Al (Instr.build 143 #[]) (.agg t)/\∃ a b8,Yq 143 b4 a b8/\∃ b9,YE 143 a (.agg t) b8 b9/\∃ u,Al (Instr.build 287 #[(0,.slice c2 c7 c4),(1,.slice c3 c8 c5)]) (.agg u)/\A6 (fun c6 d7 c0 =>
 ∃ d,Ap d7 0=.int .i64 d/\(bif decide (d<2)then
 ∃ q a7 s,Al (Instr.index 287 (.agg u) (.int .i64 d)) (.slice q a7 s)/\YC JQ #[.slice q a7 s] c0 fun d0 d6=>∃ v a8,d0=.tuple #[.agg v,.int .i64 a8]/\∃ c c1,Yq 143 d6 c c1/\∃ g,YE 143 c (.agg v) c1 g/\Ac (fun f=>(bif a8==0 then ∃ w,Yg 143 c g w/\YC CI #[.agg w] g fun d1 p=>∃ a9,d1=.int .i64 a9/\(bif a9==d then ∃ x,Yg 40 (Addr.add c 1) p x/\YC GZ #[.agg x] p fun d2 h=>∃ b0,d2=.int .i64 b0/\(bif decide (b0<=c9)then ∃ b1,YD 2 (Addr.add c 0) h (.int .i64 b1)/\∃ b2,YD 2 (Addr.add a 0) h (.int .i64 b2)/\f [.bool (decide (b1 > b2))] h else f [.bool false] h)else f [.bool false] p)else f [.bool false] g)) fun d8 m =>
 ∃ i,Ap d8 0=.bool i/\Ac (fun a6=>(bif i then
 ∃ y,Yg 143 c m y/\∃ b5,YE 143 a (.agg y) m b5/\a6 [] b5
 else
 a6 [] m)) fun d9 d5 =>
 c6 [.int .i64 (IntKind.i64.wrap (d+1)),.bool i] d5
 else
 ∃ z,Al (Instr.build 143 #[]) (.agg z)/\∃ l b6,Yq 143 c0 l b6/\∃ b,YE 143 l (.agg z) b6 b/\∃ a0,Yg 143 a b a0/\∃ a1,Yg 143 l b a1/\∃ r,Al (Gp .eql 143 (.tmp 53) (.tmp 54) (.agg a0) (.agg a1)) (.bool r)/\(bif r then
 ∃ a2,Yg 143 a b a2/\∃ n,YE 143 e (.agg a2) b n/\∃ a4,Yg 143 e n a4/\K (.tuple #[.agg a4,.int .i64 0,.int .i64 10]) n
 else
 ∃ j,Yg 143 a (Ah b) j/\∃ a3,Yg 143 a (Ah b) a3/\YC CI #[.agg a3] (Ah b) fun d3 b7=>∃ b3,d3=.int .i64 b3/\YD 143 a b7 (.agg j)/\∃ o,YE 143 e (.agg j) b7 o/\∃ a5,Yg 143 e o a5/\K (.tuple #[.agg a5,.int .i64 b3,.int .i64 0]) o))) [.int .i64 0,undef] b9
theorem UA(a0:YB)(l0 c0:Nat)(a1:YB)(l1 c1:Nat)(n2:Int):Yz Jh #[.slice a0 l0 c0,.slice a1 l1 c1,.int .i64 n2] (MZ a0 l0 c0 a1 l1 c1 n2):=fun _ _ h=>Af (A:=⟨[19,49],[(19,3),(49,4)],[]⟩) Tryz.func139 h
def UK(d:World)(K:YA):Prop :=
 ∃ a,Al (Instr.build 201 #[]) (.agg a)/\∃ b c,Yb 201 (.agg a) d b c/\K (.pointer (some b)) c
theorem eY(w0:World)(K:YA)(h:UK  w0 K):A8 Tryz.prog UN #[] w0 K :=
 Af (A:=⟨[],[],[]⟩) Tryz.func140 h
def Mv(u:YB)(z:Int)(a3:World)(K:YA):Prop :=
 ∃ a x,Yq 218 a3 a x/\YC HW #[.pointer u,.int .i64 z] x fun a0 d=>∃ r s b,a0=.tuple #[.int .i64 r,.int .i64 s,.int .i64 b]/\(bif b != 0 then
 ∃ j,Al (Instr.build 218 #[]) (.agg j)/\∃ e,YE 218 a (.agg j) d e/\∃ n,Yg 218 a e n/\K (.tuple #[.agg n,.int .i64 b]) e
 else
 ∃ w,(.pointer u:Value)=.pointer (some w)/\∃ v,Yp 89 (Addr.add w 4) d v/\YC B0 #[.pointer v,.int .i64 r] d fun a1 y=>∃ h q i c,a1=.tuple #[.slice h q i,.int .i64 c]/\(bif c != 0 then
 ∃ l,Al (Instr.build 218 #[]) (.agg l)/\∃ f,YE 218 a (.agg l) y f/\∃ o,Yg 218 a f o/\K (.tuple #[.agg o,.int .i64 c]) f
 else
 YC LP #[.slice h q i,.int .i64 s] y fun a2 a4=>∃ m t,a2=.tuple #[.agg m,.int .i64 t]/\∃ g,YE 218 a (.agg m) a4 g/\∃ p,Yg 218 a g p/\K (.tuple #[.agg p,.int .i64 t]) g))
theorem TR(p0:YB)(n1:Int):Yz F4 #[.pointer p0,.int .i64 n1] (Mv p0 n1):=fun _ _ h=>Af (A:=⟨[],[],[]⟩) Tryz.func141 h
def Tg(j:Array Value)(m:World)(K:YA):Prop :=
 ∃ h c,Yb 40 (.agg j) m h c/\∃ d,Yg 40 h c d/\YC HC #[.agg d] c fun l n=>∃ e,l=.agg e/\∃ a i,Yq 40 n a i/\∃ b,YE 40 a (.agg e) i b/\∃ f,Yi (Addr.add a 2) b f/\∃ g,Yi (Addr.add a 1) b g/\K (.int .i64 (IntKind.i64.wrap (f*g))) b
theorem Zy(g0:Array Value):Yz HB #[.agg g0] (Tg g0):=fun _ _ h=>Af (A:=⟨[],[],[]⟩) Tryz.func142 h
def J8(f:World)(K:YA):Prop :=
 ∃ b d c a,Ru (Instr.makeSlice 88 (.int .i64 256) (.int .i64 256)) f (.slice b d c) a/\∃ e:ByteArray,Ru (convert 88 9 (.slice b d c)) a (.string e) a/\K (.string e) a
theorem Qv(w0:World)(K:YA)(h:J8  w0 K):A8 Tryz.prog G1 #[] w0 K :=
 Af (A:=⟨[],[],[]⟩) Tryz.func143 h
def FX(e:YB)(h:Int)(a9:YB)(y b0:Nat)(b3:World)(K:YA):Prop :=
 YC C8 #[.pointer e,.int .i64 h] b3 fun b1 i=>∃ r,b1=.bool r/\(bif !r then
 K (.int .i64 3) i
 else
 (bif (y:Int) != 256 then
 K (.int .i64 4) i
 else
 YC CN #[.pointer e] i fun b2 g=>∃ s,b2=.bool s/\(bif !s then
 K (.int .i64 0) g
 else
 ∃ a4,(.pointer e:Value)=.pointer (some a4)/\∃(m:YB)(z t:Nat),YD 221 (Addr.add a4 0) g (.slice m z t)/\∃ a5,Yx 221 (.slice m z t) (.int .i64 h) a5/\∃(n:YB)(a0 u:Nat),YD 178 (Addr.add a5 0) g (.slice n a0 u)/\∃ o a1 v a,Ru (Builtin.append_ #[178,178] 178 #[.slice none 0 0,.slice n a0 u]) g (.slice o a1 v) a/\∃ f,(.pointer e:Value)=.pointer (some f)/\∃(b:YB)(d c:Nat),YD 221 (Addr.add f 0) (Ah a) (.slice b d c)/\∃ a7:ByteArray,Ru (convert 88 9 (.slice a9 y b0)) (Ah a) (.string a7) (Ah a)/\∃ p a2 w j,Ru (Instr.buildSlice 178 1 #[(0,.string a7)]) (Ah a) (.slice p a2 w) j/\YD 221 (Addr.add f 0) j (.slice b d c)/\∃ q a3 x l,Ru (Builtin.append_ #[178,178] 178 #[.slice o a1 v,.slice p a2 w]) j (.slice q a3 x) l/\YD 221 (Addr.add f 0) l (.slice b d c)/\∃ a6,Yx 221 (.slice b d c) (.int .i64 h) a6/\∃ a8,YE 178 (Addr.add a6 0) (.slice q a3 x) l a8/\K (.int .i64 0) a8)))
theorem Kt(p0:YB)(n1:Int)(a2:YB)(l2 c2:Nat):Yz Bh #[.pointer p0,.int .i64 n1,.slice a2 l2 c2] (FX p0 n1 a2 l2 c2):=fun _ _ h=>Af (A:=⟨[],[],[]⟩) Tryz.func144 h
def FW(c:YB)(a6:World)(K:YA):Prop :=
 YC CN #[.pointer c] a6 fun a5 a0=>∃ n,a5=.bool n/\(bif !n then
 K (.int .i64 0) a0
 else
 A6 (fun a4 a7 a =>
 ∃ b,Ap a7 0=.int .i64 b/\∃ u,(.pointer c:Value)=.pointer (some u)/\∃(a2:YB)(r a3:Nat),YD 221 (Addr.add u 0) a (.slice a2 r a3)/\(bif decide (b<(r:Int))then
 ∃ v,(.pointer c:Value)=.pointer (some v)/\∃(j:YB)(s o:Nat),YD 221 (Addr.add v 0) a (.slice j s o)/\∃ w,Yx 221 (.slice j s o) (.int .i64 b) w/\∃(l:YB)(f p:Nat),YD 178 (Addr.add w 0) a (.slice l f p)/\∃ h,(.pointer c:Value)=.pointer (some h)/\∃(d:YB)(g e:Nat),YD 221 (Addr.add h 0) (Ah a) (.slice d g e)/\∃ x,Yx 178 (.slice l f p) (.int .i64 (IntKind.i64.wrap ((f:Int)-1))) x/\∃ z:ByteArray,YD 9 x (Ah a) (.string z)/\∃ m t q i,Ru (Instr.buildSlice 178 1 #[(0,.string z)]) (Ah a) (.slice m t q) i/\YD 221 (Addr.add h 0) i (.slice d g e)/\∃ y,Yx 221 (.slice d g e) (.int .i64 b) y/\∃ a1,YE 178 (Addr.add y 0) (.slice m t q) i a1/\a4 [.int .i64 (IntKind.i64.wrap (b+1))] a1
 else
 K (.int .i64 0) a)) [.int .i64 0] a0)
theorem Ks(p0:YB):Yz Bv #[.pointer p0] (FW p0):=fun _ _ h=>Af (A:=⟨[3],[(3,3)],[]⟩) Tryz.func145 h
def Io(e2:Array Value)(e5:Int)(f5:World)(K:YA):Prop :=
 ∃ c d2,Yb 40 (.agg e2) f5 c d2/\A6 (fun e3 d f =>
 ∃ b,Ap d 1=.int .i64 b/\∃ d0,Yi (Addr.add c 2) f d0/\(bif decide (b<d0)then
 ∃ b0,Yg 40 c f b0/\YC FI #[.agg b0,.int .i64 b] f fun f0 f8=>∃ b1 e6,f0=.tuple #[.agg b1,.int .i64 e6]/\∃ q d8,Yq 183 f8 q d8/\∃ g,YE 183 q (.agg b1) d8 g/\∃ b2,Yg 40 c g b2/\∃ b3,Yg 183 q g b3/\YC BN #[.agg b2,.agg b3] g fun f1 d9=>∃ s c1 a1 e7,f1=.tuple #[.slice s c1 a1,.int .i64 e7]/\∃ b4,Yg 40 c d9 b4/\YC E6 #[.agg b4,.int .i64 b] d9 fun f2 f9=>∃ p e8,f2=.tuple #[.int .i64 p,.int .i64 e8]/\∃ v c4 a4,Ap d 0=.slice v c4 a4/\∃ b5,Al (Instr.build 230 #[(0,.int .i64 p),(1,.slice s c1 a1)]) (.agg b5)/\∃ t c2 a2 e0,Ru (Instr.buildSlice 227 1 #[(0,.agg b5)]) f9 (.slice t c2 a2) e0/\∃ u c3 a3 e1,Ru (Builtin.append_ #[227,227] 227 #[.slice v c4 a4,.slice t c2 a2]) e0 (.slice u c3 a3) e1/\A6 (fun e4 e d3 =>
 ∃ a,Ap e 1=.int .i64 a/\∃ b6,Yg 40 c d3 b6/\YC Fk #[.agg b6] d3 fun f3 d4=>∃ d1,f3=.int .i64 d1/\(bif decide (a<d1)then
 ∃ i o m r,Ru (Instr.makeSlice 88 (.int .i64 256) (.int .i64 256)) d4 (.slice i o m) r/\Ac (fun b9=>(bif b==0 then b9 [.bool (a==0)] r else b9 [.bool false] r)) fun g0 d5 =>
 ∃ j,Ap g0 0=.bool j/\Ac (fun c0=>(bif j then
 ∃ b7,Al (Instr.build 218 #[(0,.int .i64 2),(1,.int .i64 1),(3,.int .i64 1)]) (.agg b7)/\YC He #[.slice i o m,.int .i64 1,.agg b7] d5 fun f4 f6=>∃ y c7 a7 e9,f4=.tuple #[.slice y c7 a7,.int .i64 e9]/\c0 [.slice y c7 a7] f6
 else
 c0 [.slice i o m] d5)) fun g1 f7 =>
 ∃ w c5 a5,Ap e 0=.slice w c5 a5/\∃ h n l,Ap g1 0=.slice h n l/\∃ b8,Al (Instr.build 230 #[(0,.int .i64 (IntKind.i64.wrap ((IntKind.i64.wrap (p+1))+a))),(1,.slice h n l)]) (.agg b8)/\∃ z c8 a8 d6,Ru (Instr.buildSlice 227 1 #[(0,.agg b8)]) f7 (.slice z c8 a8) d6/\∃ a0 c9 a9 d7,Ru (Builtin.append_ #[227,227] 227 #[.slice w c5 a5,.slice z c8 a8]) d6 (.slice a0 c9 a9) d7/\e4 [.slice a0 c9 a9,.int .i64 (IntKind.i64.wrap (a+1)),.slice h n l,.bool j] d7
 else
 e3 [Ap e 0,.int .i64 (IntKind.i64.wrap (b+1)),.int .i64 a,Ap e 2,Ap e 3] d4)) [.slice u c3 a3,.int .i64 0,Ap d 3,Ap d 4] e1
 else
 ∃ x c6 a6,Ap d 0=.slice x c6 a6/\K (.slice x c6 a6) f)) [.slice none 0 0,.int .i64 e5,undef,undef,undef] d2
theorem OG(g0:Array Value)(n1:Int):Yz Fo #[.agg g0,.int .i64 n1] (Io g0 n1):=fun _ _ h=>Af (A:=⟨[5,6,13,14,58],[(5,227),(6,3),(13,3),(14,88),(58,4)],[]⟩) Tryz.func146 h
def K8(e0:Array Value)(e9:World)(K:YA):Prop :=
 ∃ a e,Yb 232 (.agg e0) e9 a e/\∃ b3,Yg 232 a e b3/\YC FH #[.agg b3] e fun e8 d8=>∃ y,e8=.bool y/\(bif !y then
 K (.tuple #[.slice none 0 0,.int .i64 1]) d8
 else
 ∃ w c6 b1 d9,Ru (Instr.buildSlice 88 4 #[(0,.int .u8 76),(1,.int .u8 86),(2,.int .u8 69),(3,.int .u8 69)]) d8 (.slice w c6 b1) d9/\∃ x c7 b2 g,Ru (convert 88 88 (.slice w c6 b1)) d9 (.slice x c7 b2) g/\∃ c8,YD 2 (Addr.add a 0) g (.int .i64 c8)/\YC A2 #[.int .u64 (IntKind.u64.wrap c8),.int .i64 8] g fun e2 f3=>∃ j b4 z,e2=.slice j b4 z/\∃ l b5 a0 h,Ru (Builtin.append_ #[88,88] 88 #[.slice x c7 b2,.slice j b4 z]) f3 (.slice l b5 a0) h/\∃ c9,Yi (Addr.add (Addr.add a 1) 0) h c9/\YC A2 #[.int .u64 (IntKind.u64.wrap c9),.int .i64 2] h fun e3 f4=>∃ m b6 a1,e3=.slice m b6 a1/\∃ n b7 a2 i,Ru (Builtin.append_ #[88,88] 88 #[.slice l b5 a0,.slice m b6 a1]) f4 (.slice n b7 a2) i/\∃ d0,Yi (Addr.add (Addr.add a 1) 1) i d0/\YC A2 #[.int .u64 (IntKind.u64.wrap d0),.int .i64 2] i fun e4 f5=>∃ o b8 a3,e4=.slice o b8 a3/\∃ p b9 a4 f,Ru (Builtin.append_ #[88,88] 88 #[.slice n b7 a2,.slice o b8 a3]) f5 (.slice p b9 a4) f/\∃ d1,Yi (Addr.add (Addr.add a 1) 2) f d1/\YC A2 #[.int .u64 (IntKind.u64.wrap d1),.int .i64 2] f fun e5 f0=>∃ q c0 a5,e5=.slice q c0 a5/\∃ r c1 a6 d3,Ru (Builtin.append_ #[88,88] 88 #[.slice p b9 a4,.slice q c0 a5]) f0 (.slice r c1 a6) d3/\A6 (fun e1 f6 d4 =>
 ∃ c b d,Ap f6 0=.slice c b d/\(bif decide ((b:Int)<252)then
 ∃ s c2 a7 d5,Ru (Instr.buildSlice 88 1 #[(0,.int .u8 0)]) d4 (.slice s c2 a7) d5/\∃ t c3 a8 d6,Ru (Builtin.append_ #[88,88] 88 #[.slice c b d,.slice s c2 a7]) d5 (.slice t c3 a8) d6/\e1 [.slice t c3 a8] d6
 else
 YC EV #[.slice c b d] d4 fun e6 f1=>∃ d2,e6=.int .u32 d2/\YC A2 #[.int .u64 (IntKind.u64.wrap d2),.int .i64 4] f1 fun e7 f2=>∃ u c4 a9,e7=.slice u c4 a9/\∃ v c5 b0 d7,Ru (Builtin.append_ #[88,88] 88 #[.slice c b d,.slice u c4 a9]) f2 (.slice v c5 b0) d7/\K (.tuple #[.slice v c5 b0,.int .i64 0]) d7)) [.slice r c1 a6] d3)
theorem Sm(g0:Array Value):Yz B4 #[.agg g0] (K8 g0):=fun _ _ h=>Af (A:=⟨[4],[(4,88)],[]⟩) Tryz.func147 h
def DZ(n:YB)(m:Int)(u:World)(K:YA):Prop :=
 YC C8 #[.pointer n,.int .i64 m] u fun t a=>∃ f,t=.bool f/\(bif !f then
 K (.tuple #[.slice none 0 0,.int .i64 3]) a
 else
 ∃ o,(.pointer n:Value)=.pointer (some o)/\∃(c:YB)(j g:Nat),YD 221 (Addr.add o 0) a (.slice c j g)/\∃ p,Yx 221 (.slice c j g) (.int .i64 m) p/\∃(d:YB)(b h:Nat),YD 178 (Addr.add p 0) a (.slice d b h)/\∃ q,Yx 178 (.slice d b h) (.int .i64 (IntKind.i64.wrap ((b:Int)-1))) q/\∃ r:ByteArray,YD 9 q a (.string r)/\∃ e l i s,Ru (convert 9 88 (.string r)) a (.slice e l i) s/\K (.tuple #[.slice e l i,.int .i64 0]) s)
theorem Gq(p0:YB)(n1:Int):Yz B3 #[.pointer p0,.int .i64 n1] (DZ p0 n1):=fun _ _ h=>Af (A:=⟨[],[],[]⟩) Tryz.func148 h
def Im(b4:YB)(b9 b6:Nat)(b5:YB)(c0 b7:Nat)(c1:Int)(c4:World)(K:YA):Prop :=
 ∃ d a9,Yq 232 c4 d a9/\∃ p a1 r b1,Ru (Instr.buildSlice 295 2 #[(0,.slice b4 b9 b6),(1,.slice b5 c0 b7)]) a9 (.slice p a1 r) b1/\∃ g b2,Yq 232 b1 g b2/\A6 (fun b8 o e =>
 ∃ a,Ap o 1=.int .i64 a/\(bif decide (a<2)then
 ∃ a8,Yx 295 (.slice p a1 r) (.int .i64 a) a8/\∃(q:YB)(a2 s:Nat),YD 88 a8 e (.slice q a2 s)/\YC EW #[.slice q a2 s] e fun c2 c6=>∃ t a3,c2=.tuple #[.agg t,.int .i64 a3]/\∃ b b3,Yq 232 c6 b b3/\∃ c,YE 232 b (.agg t) b3 c/\Ac (fun f=>(bif a3==0 then ∃ a4,YD 2 (Addr.add b 0) c (.int .i64 a4)/\(bif (Int.tmod a4 2)==a then ∃ u,Yg 40 (Addr.add b 1) c u/\YC Bu #[.agg u] c fun c3 h=>∃ a5,c3=.int .i64 a5/\(bif decide (a5<=c1)then ∃ a6,YD 2 (Addr.add b 0) h (.int .i64 a6)/\∃ a7,YD 2 (Addr.add g 0) h (.int .i64 a7)/\f [.bool (decide (a6 > a7))] h else f [.bool false] h)else f [.bool false] c)else f [.bool false] c)) fun c7 n =>
 ∃ i,Ap c7 0=.bool i/\Ac (fun a0=>(bif i then
 ∃ v,Yg 232 b n v/\∃ b0,YE 232 g (.agg v) n b0/\a0 [.int .i64 a] b0
 else
 a0 [Ap o 0] n)) fun c8 c5 =>
 b8 [Ap c8 0,.int .i64 (IntKind.i64.wrap (a+1)),.bool i] c5
 else
 ∃ j,Ap o 0=.int .i64 j/\(bif decide (j<0)then
 ∃ w,Al (Instr.build 232 #[]) (.agg w)/\∃ l,YE 232 d (.agg w) e l/\∃ y,Yg 232 d l y/\K (.tuple #[.agg y,.int .i64 0,.int .i64 10]) l
 else
 ∃ x,Yg 232 g e x/\∃ m,YE 232 d (.agg x) e m/\∃ z,Yg 232 d m z/\K (.tuple #[.agg z,.int .i64 j,.int .i64 0]) m))) [.int .i64 ((-1)),.int .i64 0,undef] b2
theorem OE(a0:YB)(l0 c0:Nat)(a1:YB)(l1 c1:Nat)(n2:Int):Yz Fl #[.slice a0 l0 c0,.slice a1 l1 c1,.int .i64 n2] (Im a0 l0 c0 a1 l1 c1 n2):=fun _ _ h=>Af (A:=⟨[11,12,52],[(11,3),(12,3),(52,4)],[]⟩) Tryz.func149 h
def JE(g:YB)(a7:World)(K:YA):Prop :=
 ∃ r,Al (Instr.build 181 #[(0,.pointer g)]) (.agg r)/\∃ b z,Yb 181 (.agg r) a7 b z/\A6 (fun a4 a8 i =>
 ∃ a,Ap a8 0=.int .i64 a/\∃ w,(.pointer g:Value)=.pointer (some w)/\∃(a2:YB)(s a3:Nat),YD 221 (Addr.add w 0) i (.slice a2 s a3)/\(bif decide (a<(s:Int))then
 YC B3 #[.pointer g,.int .i64 a] i fun a6 c=>∃ l t o a5,a6=.tuple #[.slice l t o,.int .i64 a5]/\∃ h,(.pointer (some b):Value)=.pointer (some h)/\∃(d:YB)(f e:Nat),YD 178 (Addr.add h 1) (Ah c) (.slice d f e)/\∃ y:ByteArray,Ru (convert 88 9 (.slice l t o)) (Ah c) (.string y) (Ah c)/\∃ m u p j,Ru (Instr.buildSlice 178 1 #[(0,.string y)]) (Ah c) (.slice m u p) j/\YD 178 (Addr.add h 1) j (.slice d f e)/\∃ n v q a0,Ru (Builtin.append_ #[178,178] 178 #[.slice d f e,.slice m u p]) j (.slice n v q) a0/\∃ x,(.pointer (some b):Value)=.pointer (some x)/\∃ a1,YE 178 (Addr.add x 1) (.slice n v q) a0 a1/\a4 [.int .i64 (IntKind.i64.wrap (a+1))] a1
 else
 K (.pointer (some b)) i)) [.int .i64 0] z
theorem Q1(p0:YB):Yz E7 #[.pointer p0] (JE p0):=fun _ _ h=>Af (A:=⟨[4],[(4,3)],[]⟩) Tryz.func150 h
def IU(h:Array Value)(j:World)(K:YA):Prop :=
 ∃ a c,Yb 40 (.agg h) j a c/\∃ e,Yg 40 a c e/\YC A0 #[.agg e] c fun i b=>∃ d,i=.bool d/\(bif !d then
 K (.int .i64 0) b
 else
 ∃ f,Yi (Addr.add a 2) b f/\∃ g,Yi (Addr.add a 1) b g/\K (.int .i64 (IntKind.i64.wrap (f*g))) b)
theorem PC(g0:Array Value):Yz Ct #[.agg g0] (IU g0):=fun _ _ h=>Af (A:=⟨[],[],[]⟩) Tryz.func151 h
def Gu(s:YB)(w:Int)(a1:World)(K:YA):Prop :=
 ∃ a c,Yq 218 a1 a c/\∃ u,(.pointer s:Value)=.pointer (some u)/\∃ i,Yg 40 (Addr.add u 3) c i/\YC FG #[.agg i,.int .i64 w] c fun y d=>∃ p q b,y=.tuple #[.int .i64 p,.int .i64 q,.int .i64 b]/\(bif b != 0 then
 ∃ j,Al (Instr.build 218 #[]) (.agg j)/\∃ e,YE 218 a (.agg j) d e/\∃ m,Yg 218 a e m/\K (.tuple #[.agg m,.int .i64 b]) e
 else
 ∃ v,(.pointer s:Value)=.pointer (some v)/\∃ t,Yp 75 (Addr.add v 0) d t/\YC BP #[.pointer t,.int .i64 p] d fun z a2=>∃ g o h x,z=.tuple #[.slice g o h,.int .i64 x]/\YC G4 #[.slice g o h,.int .i64 q] a2 fun a0 a3=>∃ l r,a0=.tuple #[.agg l,.int .i64 r]/\∃ f,YE 218 a (.agg l) a3 f/\∃ n,Yg 218 a f n/\K (.tuple #[.agg n,.int .i64 r]) f)
theorem LJ(p0:YB)(n1:Int):Yz BY #[.pointer p0,.int .i64 n1] (Gu p0 n1):=fun _ _ h=>Af (A:=⟨[],[],[]⟩) Tryz.func152 h
def I1(b:YB)(d c:Nat)(f:Value)(g:World)(K:YA):Prop :=
 YC D0 #[.slice b d c,f] g fun e h=>∃ a,e=.int .i64 a/\K (.bool (decide (a >= 0))) h
theorem I0(a0:YB)(l0 c0:Nat)(v1:Value):Yz BS #[.slice a0 l0 c0,v1] (I1 a0 l0 c0 v1):=fun _ _ h=>Af (A:=⟨[],[],[]⟩) Tryz.func153 h
def ML(d:Int)(f:Value)(a:World)(K:YA):Prop :=
 ∃ c,Ru (Instr.loadAt 89 f) a (.pointer c) a/\YC D8 #[.pointer c,.int .i64 d] a fun e g=>∃ b,e=.bool b/\K (.bool (!b)) g
theorem MG(n0:Int)(v1:Value):Yz Dh #[.int .i64 n0,v1] (ML n0 v1):=fun _ _ h=>Af (A:=⟨[],[],[]⟩) Tryz.func154 h
def It(g:YB)(d:Int)(a:World)(K:YA):Prop :=
 Ac (fun c=>(bif decide (d >= 1)then ∃ f,(.pointer g:Value)=.pointer (some f)/\∃ e,YD 2 (Addr.add f 2) a (.int .i64 e)/\c [.bool (decide (d<=e))] a else c [.bool false] a)) fun i h =>
 ∃ b,Ap i 0=.bool b/\K (.bool b) h
theorem OL(p0:YB)(n1:Int):Yz D8 #[.pointer p0,.int .i64 n1] (It p0 n1):=fun _ _ h=>Af (A:=⟨[4],[(4,4)],[]⟩) Tryz.func155 h
def Jz(j:YB)(i:Int)(m:World)(K:YA):Prop :=
 YC Ee #[.pointer j,.int .i64 i] m fun l c=>∃ b a,l=.tuple #[.pointer b,.int .i64 a]/\Ac (fun d=>(bif a==0 then
 ∃ f,(.pointer b:Value)=.pointer (some f)/\∃ e,Yi (Addr.add f 1) c e/\∃ g,(.pointer b:Value)=.pointer (some g)/\∃ h,YE 3 (Addr.add g 1) (.int .i64 (IntKind.i64.wrap (e+1))) c h/\d [] h
 else
 d [] c)) fun o n =>
 K (.int .i64 a) n
theorem Qm(p0:YB)(n1:Int):Yz E3 #[.pointer p0,.int .i64 n1] (Jz p0 n1):=fun _ _ h=>Af (A:=⟨[],[],[]⟩) Tryz.func156 h
def WK(e:YB)(c h:Nat)(m:Int)(r:YB)(j s:Nat)(w:World)(K:YA):Prop :=
 YC LQ #[.slice e c h,.int .i64 m,.int .i64 ((j:Int))] w fun v n=>∃ g,v=.bool g/\(bif !g then
 K (.tuple #[.slice none 0 0,.int .i64 3]) n
 else
 ∃ a d b o,Ru (Instr.makeSlice 88 (.int .i64 ((c:Int))) (.int .i64 ((c:Int)))) n (.slice a d b) o/\∃ t p,Ru (Builtin.copy_ #[88,88] 3 #[.slice a d b,.slice e c h]) o (.int .i64 t) p/\∃ f l i,Al (Instr.sliceAt 88 (.slice a d b) (some (.int .i64 m)) none none) (.slice f l i)/\∃ u q,Ru (Builtin.copy_ #[88,88] 3 #[.slice f l i,.slice r j s]) p (.int .i64 u) q/\K (.tuple #[.slice a d b,.int .i64 0]) q)
theorem mE(a0:YB)(l0 c0:Nat)(n1:Int)(a2:YB)(l2 c2:Nat):Yz NN #[.slice a0 l0 c0,.int .i64 n1,.slice a2 l2 c2] (WK a0 l0 c0 n1 a2 l2 c2):=fun _ _ h=>Af (A:=⟨[],[],[]⟩) Tryz.func157 h
def Jy(o:YB)(n:Int)(d:YB)(l g:Nat)(y:World)(K:YA):Prop :=
 ∃ c j f r,Ru (Instr.buildSlice 80 1 #[(0,.int .i64 256)]) y (.slice c j f) r/\YC Dq #[.pointer o,.int .i64 n,.slice d l g,.slice c j f] r fun v s=>∃ a,v=.int .i64 a/\(bif a != 0 then
 K (.int .i64 a) s
 else
 YC Dp #[.pointer o,.int .i64 n] s fun w t=>∃ p b,w=.tuple #[.pointer p,.int .i64 b]/\Ac (fun i=>(bif b==0 then
 YC Cj #[.slice d l g] t fun x z=>∃ e m h,x=.slice e m h/\∃ q,(.pointer p:Value)=.pointer (some q)/\∃ u,YE 88 (Addr.add (Addr.add q 0) 0) (.slice e m h) z u/\i [] u
 else
 i [] t)) fun a1 a0 =>
 K (.int .i64 b) a0)
theorem Ql(p0:YB)(n1:Int)(a2:YB)(l2 c2:Nat):Yz Gx #[.pointer p0,.int .i64 n1,.slice a2 l2 c2] (Jy p0 n1 a2 l2 c2):=fun _ _ h=>Af (A:=⟨[],[],[]⟩) Tryz.func158 h
def Iu(a:YB)(h e:Nat)(l:World)(K:YA):Prop :=
 ∃ d,Al (Gp .eql 88 (.tmp 3) (.const (.slice none 0 0)) (.slice a h e) (.slice none 0 0)) (.bool d)/\(bif d then
 K (.slice none 0 0) l
 else
 ∃ b i f m,Ru (Instr.buildSlice 88 0 #[]) l (.slice b i f) m/\∃ c j g n,Ru (Builtin.append_ #[88,88] 88 #[.slice b i f,.slice a h e]) m (.slice c j g) n/\K (.slice c j g) n)
theorem OO(a0:YB)(l0 c0:Nat):Yz Cj #[.slice a0 l0 c0] (Iu a0 l0 c0):=fun _ _ h=>Af (A:=⟨[],[],[]⟩) Tryz.func159 h
def MK(f:YB)(g:Value)(a:World)(K:YA):Prop :=
 ∃ c,Ru (Instr.loadAt 167 g) (Ah a) (.map c) (Ah a)/\∃ e,(.pointer f:Value)=.pointer (some e)/\∃ d,YD 2 (Addr.add e 0) (Ah a) (.int .i64 d)/\∃ b,Ru (Instr.lookup 167 (.map c) (.int .i64 d) false) (Ah a) (.bool b) (Ah a)/\K (.bool b) (Ah a)
theorem MF(p0:YB)(v1:Value):Yz Dg #[.pointer p0,v1] (MK p0 v1):=fun _ _ h=>Af (A:=⟨[],[],[]⟩) Tryz.func160 h
def J1(l:YB)(i:Int)(y:YB)(r z:Nat)(p:YB)(h q:Nat)(a:World)(K:YA):Prop :=
 (bif Option.isNone l then
 K (.int .i64 2) a
 else
 Ac (fun f=>(bif decide (i<0)then f [.bool true] a else ∃ n,(.pointer l:Value)=.pointer (some n)/\∃ m,Yp 134 (Addr.add n 0) a m/\YC Ck #[.pointer m] a fun s u=>∃ j,s=.int .i64 j/\f [.bool (decide (i >= j))] u)) fun w b =>
 ∃ c,Ap w 0=.bool c/\(bif c then
 K (.int .i64 3) b
 else
 Ac (fun g=>(bif decide ((h:Int) > 0)then YC E0 #[.slice p h q,.int .i64 ((r:Int))] b fun t v=>∃ e,t=.bool e/\g [.bool (!e)] v else g [.bool false] b)) fun x o =>
 ∃ d,Ap x 0=.bool d/\(bif d then
 K (.int .i64 4) o
 else
 K (.int .i64 0) o)))
theorem Qo(p0:YB)(n1:Int)(a2:YB)(l2 c2:Nat)(a3:YB)(l3 c3:Nat):Yz Dq #[.pointer p0,.int .i64 n1,.slice a2 l2 c2,.slice a3 l3 c3] (J1 p0 n1 a2 l2 c2 a3 l3 c3):=fun _ _ h=>Af (A:=⟨[12,24],[(12,4),(24,4)],[]⟩) Tryz.func161 h
def J0(c:YB)(e9:Int)(f4:World)(K:YA):Prop :=
 ∃ a b,Yb 3 (.int .i64 e9) f4 a b/\∃ d4,(.pointer c:Value)=.pointer (some d4)/\∃ c7,YD 250 (Addr.add d4 2) (Ah b) (.map c7)/\∃ c9,Yi a (Ah b) c9/\∃ r a6,Ru (Instr.lookup 250 (.map c7) (.int .i64 c9) true) (Ah b) (.tuple #[.pointer r,.bool a6]) (Ah b)/\(bif a6 then
 ∃ h,(.pointer c:Value)=.pointer (some h)/\∃(d:YB)(f e:Nat),YD 80 (Addr.add h 3) (Ah (Ah b)) (.slice d f e)/\∃ g,YD 3 a (Ah (Ah b)) (.int .i64 g)/\(YC Bx #[.slice d f e,.func (.func CE) #[] #[.pointer (some a)]] (Ah (Ah b)) fun f0 e3=>∃ x b8 a7,f0=.slice x b8 a7/\YD 3 a e3 (.int .i64 g)/\∃ z c0 a9 v,Ru (Instr.buildSlice 80 1 #[(0,.int .i64 g)]) e3 (.slice z c0 a9) v/\YD 80 (Addr.add h 3) v (.slice d f e)/\∃ a1 c2 b1 e4,Ru (Builtin.append_ #[80,80] 80 #[.slice x b8 a7,.slice z c0 a9]) v (.slice a1 c2 b1) e4/\∃ d5,(.pointer c:Value)=.pointer (some d5)/\∃ e5,YE 80 (Addr.add d5 3) (.slice a1 c2 b1) e4 e5/\K (.tuple #[.pointer r,.int .i64 0]) e5)/\(∃ a0 c1 b0 w,Ru (Instr.buildSlice 80 1 #[(0,.int .i64 g)]) (Ah (Ah b)) (.slice a0 c1 b0) w/\YD 80 (Addr.add h 3) w (.slice d f e)/\YC Bx #[.slice d f e,.func (.func CE) #[] #[.pointer (some a)]] w fun f1 e6=>∃ y b9 a8,f1=.slice y b9 a8/\YD 3 a e6 (.int .i64 g)/\∃ a2 c3 b2 e7,Ru (Builtin.append_ #[80,80] 80 #[.slice y b9 a8,.slice a0 c1 b0]) e6 (.slice a2 c3 b2) e7/\∃ d6,(.pointer c:Value)=.pointer (some d6)/\∃ e8,YE 80 (Addr.add d6 3) (.slice a2 c3 b2) e7 e8/\K (.tuple #[.pointer r,.int .i64 0]) e8)
 else
 YC FE #[.pointer c] (Ah b) fun f2 i=>∃ p,f2=.int .i64 p/\(bif p != 0 then
 K (.tuple #[.pointer none,.int .i64 p]) i
 else
 ∃ d7,(.pointer c:Value)=.pointer (some d7)/\∃ d3,Yp 134 (Addr.add d7 0) (Ah i) d3/\∃ d0,Yi a (Ah i) d0/\YC Cs #[.pointer d3,.int .i64 d0] (Ah i) fun f3 e0=>∃ a3 c4 b3 q,f3=.tuple #[.slice a3 c4 b3,.int .i64 q]/\(bif q != 0 then
 K (.tuple #[.pointer none,.int .i64 q]) e0
 else
 ∃ b6,Al (Instr.build 247 #[(0,.slice a3 c4 b3)]) (.agg b6)/\∃ b7,Al (Instr.build 249 #[(0,.agg b6)]) (.agg b7)/\∃ s j,Yb 249 (.agg b7) e0 s j/\∃ d8,(.pointer c:Value)=.pointer (some d8)/\∃ c8,YD 250 (Addr.add d8 2) (Ah j) (.map c8)/\∃ d1,Yi a (Ah j) d1/\∃ l,Eh (Instr.mapUpdate 250 (.map c8) (.int .i64 d1) (.pointer (some s))) (Ah j) l/\∃ t,(.pointer c:Value)=.pointer (some t)/\∃(m:YB)(o n:Nat),YD 80 (Addr.add t 3) (Ah l) (.slice m o n)/\∃ d2,Yi a (Ah l) d2/\∃ a4 c5 b4 u,Ru (Instr.buildSlice 80 1 #[(0,.int .i64 d2)]) (Ah l) (.slice a4 c5 b4) u/\YD 80 (Addr.add t 3) u (.slice m o n)/\∃ a5 c6 b5 e1,Ru (Builtin.append_ #[80,80] 80 #[.slice m o n,.slice a4 c5 b4]) u (.slice a5 c6 b5) e1/\∃ d9,(.pointer c:Value)=.pointer (some d9)/\∃ e2,YE 80 (Addr.add d9 3) (.slice a5 c6 b5) e1 e2/\K (.tuple #[.pointer (some s),.int .i64 0]) e2)))
theorem Qn(p0:YB)(n1:Int):Yz Dp #[.pointer p0,.int .i64 n1] (J0 p0 n1):=fun _ _ h=>Af (A:=⟨[],[],[]⟩) Tryz.func162 h
def OT(g:Int)(l:Value)(m:Value)(a:World)(K:YA):Prop :=
 Ac (fun d=>∃ i,Ru (Instr.loadAt 89 l) a (.pointer i) a/\∃ j,(.pointer i:Value)=.pointer (some j)/\∃ f,YD 161 (Addr.add j 3) a (.map f)/\∃ h,Ru (Instr.lookup 161 (.map f) (.int .i64 g) false) a (.pointer h) a/\(bif !(Option.isNone h)then ∃ e,Ru (Instr.loadAt 167 m) a (.map e) a/\∃ b,Ru (Instr.lookup 167 (.map e) (.int .i64 g) false) a (.bool b) a/\d [.bool (!b)] a else d [.bool false] a)) fun o n =>
 ∃ c,Ap o 0=.bool c/\K (.bool c) n
theorem OM(n0:Int)(v1:Value)(v2:Value):Yz D9 #[.int .i64 n0,v1,v2] (OT n0 v1 v2):=fun _ _ h=>Af (A:=⟨[4],[(4,4)],[]⟩) Tryz.func163 h
def FB(b:YB)(d c:Nat)(f:Value)(g:World)(K:YA):Prop :=
 YC Bz #[.slice b d c,f] g fun e h=>∃ a,e=.int .i64 a/\K (.bool (decide (a >= 0))) h
theorem F8(a0:YB)(l0 c0:Nat)(v1:Value):Yz BI #[.slice a0 l0 c0,v1] (FB a0 l0 c0 v1):=fun _ _ h=>Af (A:=⟨[],[],[]⟩) Tryz.func164 h
def OU(i:YB)(n:Value)(o:Value)(b:World)(K:YA):Prop :=
 Ac (fun f=>∃ j,Ru (Instr.loadAt 172 n) (Ah b) (.pointer j) (Ah b)/\YC EF #[.pointer i,.pointer j] (Ah b) fun m a=>∃ e,m=.bool e/\(bif e then ∃ g,Ru (Instr.loadAt 167 o) a (.map g) a/\∃ l,(.pointer i:Value)=.pointer (some l)/\∃ h,YD 2 (Addr.add l 0) a (.int .i64 h)/\∃ c,Ru (Instr.lookup 167 (.map g) (.int .i64 h) false) a (.bool c) a/\f [.bool (!c)] a else f [.bool false] a)) fun q p =>
 ∃ d,Ap q 0=.bool d/\K (.bool d) p
theorem ON(p0:YB)(v1:Value)(v2:Value):Yz DA #[.pointer p0,v1,v2] (OU p0 v1 v2):=fun _ _ h=>Af (A:=⟨[4],[(4,4)],[]⟩) Tryz.func165 h
def HA(b:YB)(c:YB)(a:World)(K:YA):Prop :=
 Ac (fun e=>∃ r,(.pointer b:Value)=.pointer (some r)/\∃ l,Yi (Addr.add r 2) (Ah a) l/\∃ m,(.pointer c:Value)=.pointer (some m)/\∃ h,Yi (Addr.add m 2) (Ah a) h/\∃ n,(.pointer c:Value)=.pointer (some n)/\∃(s:YB)(f u:Nat),YD 88 (Addr.add n 3) (Ah a) (.slice s f u)/\(bif decide (l<(IntKind.i64.wrap (h+(f:Int))))then ∃ o,(.pointer c:Value)=.pointer (some o)/\∃ i,Yi (Addr.add o 2) (Ah a) i/\∃ p,(.pointer b:Value)=.pointer (some p)/\∃ j,Yi (Addr.add p 2) (Ah a) j/\∃ q,(.pointer b:Value)=.pointer (some q)/\∃(t:YB)(g v:Nat),YD 88 (Addr.add q 3) (Ah a) (.slice t g v)/\e [.bool (decide (i<(IntKind.i64.wrap (j+(g:Int)))))] (Ah a)else e [.bool false] (Ah a))) fun x w =>
 ∃ d,Ap x 0=.bool d/\K (.bool d) w
theorem MU(p0:YB)(p1:YB):Yz EF #[.pointer p0,.pointer p1] (HA p0 p1):=fun _ _ h=>Af (A:=⟨[4],[(4,4)],[]⟩) Tryz.func166 h
def D4(h:YB)(d i:Nat)(m:Value)(n:World)(K:YA):Prop :=
 A6 (fun j o b =>
 ∃ a,Ap o 0=.int .i64 a/\(bif decide (a<(d:Int))then
 ∃ f,Yx 169 (.slice h d i) (.int .i64 a) f/\∃ e,Yp 172 f b e/\WN Tryz.prog m #[.pointer e] b fun l g=>∃ c,l=.bool c/\(bif c then
 K (.int .i64 a) g
 else
 j [.int .i64 (IntKind.i64.wrap (a+1))] g)
 else
 K (.int .i64 ((-1))) b)) [.int .i64 0] n
theorem GN(a0:YB)(l0 c0:Nat)(v1:Value):Yz Bz #[.slice a0 l0 c0,v1] (D4 a0 l0 c0 v1):=fun _ _ h=>Af (A:=⟨[8],[(8,3)],[]⟩) Tryz.func167 h
def IO(d:YB)(g:Int)(a:World)(K:YA):Prop :=
 (bif Option.isNone d then
 K (.tuple #[.pointer none,.int .i64 2]) a
 else
 ∃ f,(.pointer d:Value)=.pointer (some f)/\∃ c,YD 250 (Addr.add f 2) a (.map c)/\∃ e b,Ru (Instr.lookup 250 (.map c) (.int .i64 g) true) a (.tuple #[.pointer e,.bool b]) a/\(bif !b then
 K (.tuple #[.pointer none,.int .i64 20]) a
 else
 K (.tuple #[.pointer e,.int .i64 0]) a))
theorem P6(p0:YB)(n1:Int):Yz Ee #[.pointer p0,.int .i64 n1] (IO p0 n1):=fun _ _ h=>Af (A:=⟨[],[],[]⟩) Tryz.func168 h
def J9(m:Array Value)(c:Int)(o:World)(K:YA):Prop :=
 ∃ a d,Yb 40 (.agg m) o a d/\∃ h,Yg 40 a d h/\YC A0 #[.agg h] d fun n b=>∃ g,n=.bool g/\(bif !g then
 K (.tuple #[.int .i64 0,.int .i64 1]) b
 else
 Ac (fun i=>(bif decide (c<0)then i [.bool true] b else ∃ j,Yi (Addr.add a 2) b j/\i [.bool (decide (c >= j))] b)) fun p e =>
 ∃ f,Ap p 0=.bool f/\(bif f then
 K (.tuple #[.int .i64 0,.int .i64 3]) e
 else
 ∃ l,Yi (Addr.add a 0) e l/\K (.tuple #[.int .i64 (IntKind.i64.wrap (2+(IntKind.i64.wrap (c*l)))),.int .i64 0]) e))
theorem Qw(g0:Array Value)(n1:Int):Yz E6 #[.agg g0,.int .i64 n1] (J9 g0 n1):=fun _ _ h=>Af (A:=⟨[16],[(16,4)],[]⟩) Tryz.func172 h
def KB(m3:Array Value)(c:YB)(b d:Nat)(n8:World)(K:YA):Prop :=
 ∃ e l6,Yb 40 (.agg m3) n8 e l6/\∃ a b0,Yq 183 l6 a b0/\∃ g8,Yg 40 e b0 g8/\YC A0 #[.agg g8] b0 fun m4 y=>∃ d1,m4=.bool d1/\(bif !d1 then
 ∃ e6,Al (Instr.build 183 #[]) (.agg e6)/\∃ b9,YE 183 a (.agg e6) y b9/\∃ g9,Yg 183 a b9 g9/\K (.tuple #[.agg g9,.int .i64 1]) b9
 else
 (bif (b:Int) != 256 then
 ∃ e7,Al (Instr.build 183 #[]) (.agg e7)/\∃ c0,YE 183 a (.agg e7) y c0/\∃ h1,Yg 183 a c0 h1/\K (.tuple #[.agg h1,.int .i64 4]) c0
 else
 ∃ a0 a4 a2,Al (Instr.sliceAt 88 (.slice c b d) (some (.int .i64 4)) (some (.int .i64 6)) none) (.slice a0 a4 a2)/\∃ n p o,Al (Instr.sliceAt 88 (.slice c b d) (some (.int .i64 16)) (some (.int .i64 32)) none) (.slice n p o)/\∃ j m l,Al (Instr.sliceAt 88 (.slice c b d) (some (.int .i64 32)) (some (.int .i64 40)) none) (.slice j m l)/\(YC Ai #[.slice a0 a4 a2] (Ah y) fun m5 m0=>∃ q,m5=.int .u64 q/\(YC AT #[.slice n p o] m0 fun m7 m1=>∃ a1 a5 a3,m7=.slice a1 a5 a3/\(YC AT #[.slice j m l] m1 fun n0 o5=>∃ c3 i5 d8,n0=.slice c3 i5 d8/\∃ e8,Al (Instr.build 183 #[(0,.int .i64 (IntKind.i64.wrap q)),(1,.slice a1 a5 a3),(2,.slice c3 i5 d8)]) (.agg e8)/\∃ r m2,Yq 183 o5 r m2/\∃ v,YE 183 r (.agg e8) m2 v/\∃ f2,Yg 40 e v f2/\∃ f6,Yg 183 r v f6/\YC BN #[.agg f2,.agg f6] v fun n4 f=>∃ c7 i9 e2 j4,n4=.tuple #[.slice c7 i9 e2,.int .i64 j4]/\Ac (fun h9=>(bif j4 != 0 then h9 [.bool true] f else ∃ j8:ByteArray,Ru (convert 88 9 (.slice c7 i9 e2)) f (.string j8) f/\∃ l2:ByteArray,Ru (convert 88 9 (.slice c b d)) f (.string l2) f/\h9 [.bool (!((ByteArray.toList j8)==(ByteArray.toList l2)))] f)) fun o6 a6 =>
 ∃ d2,Ap o6 0=.bool d2/\(bif d2 then
 ∃ g0,Al (Instr.build 183 #[]) (.agg g0)/\∃ a7,YE 183 a (.agg g0) a6 a7/\∃ h2,Yg 183 a a7 h2/\K (.tuple #[.agg h2,.int .i64 8]) a7
 else
 ∃ g4,Yg 183 r a6 g4/\∃ a8,YE 183 a (.agg g4) a6 a8/\∃ h3,Yg 183 a a8 h3/\K (.tuple #[.agg h3,.int .i64 0]) a8))/\(∃ s l7,Yq 183 m1 s l7/\YC AT #[.slice j m l] l7 fun n1 n9=>∃ c4 i6 d9,n1=.slice c4 i6 d9/\∃ e9,Al (Instr.build 183 #[(0,.int .i64 (IntKind.i64.wrap q)),(1,.slice a1 a5 a3),(2,.slice c4 i6 d9)]) (.agg e9)/\∃ w,YE 183 s (.agg e9) n9 w/\∃ f3,Yg 40 e w f3/\∃ f7,Yg 183 s w f7/\YC BN #[.agg f3,.agg f7] w fun n5 g=>∃ c8 j0 e3 j5,n5=.tuple #[.slice c8 j0 e3,.int .i64 j5]/\Ac (fun i0=>(bif j5 != 0 then i0 [.bool true] g else ∃ j9:ByteArray,Ru (convert 88 9 (.slice c8 j0 e3)) g (.string j9) g/\∃ l3:ByteArray,Ru (convert 88 9 (.slice c b d)) g (.string l3) g/\i0 [.bool (!((ByteArray.toList j9)==(ByteArray.toList l3)))] g)) fun o7 a9 =>
 ∃ d3,Ap o7 0=.bool d3/\(bif d3 then
 ∃ g1,Al (Instr.build 183 #[]) (.agg g1)/\∃ b1,YE 183 a (.agg g1) a9 b1/\∃ h4,Yg 183 a b1 h4/\K (.tuple #[.agg h4,.int .i64 8]) b1
 else
 ∃ g5,Yg 183 s a9 g5/\∃ b2,YE 183 a (.agg g5) a9 b2/\∃ h5,Yg 183 a b2 h5/\K (.tuple #[.agg h5,.int .i64 0]) b2)))/\(∃ t l8,Yq 183 m0 t l8/\YC AT #[.slice n p o] l8 fun m8 o0=>∃ c1 i3 d6,m8=.slice c1 i3 d6/\YC AT #[.slice j m l] o0 fun n2 o1=>∃ c5 i7 e0,n2=.slice c5 i7 e0/\∃ f0,Al (Instr.build 183 #[(0,.int .i64 (IntKind.i64.wrap q)),(1,.slice c1 i3 d6),(2,.slice c5 i7 e0)]) (.agg f0)/\∃ x,YE 183 t (.agg f0) o1 x/\∃ f4,Yg 40 e x f4/\∃ f8,Yg 183 t x f8/\YC BN #[.agg f4,.agg f8] x fun n6 h=>∃ c9 j1 e4 j6,n6=.tuple #[.slice c9 j1 e4,.int .i64 j6]/\Ac (fun i1=>(bif j6 != 0 then i1 [.bool true] h else ∃ l0:ByteArray,Ru (convert 88 9 (.slice c9 j1 e4)) h (.string l0) h/\∃ l4:ByteArray,Ru (convert 88 9 (.slice c b d)) h (.string l4) h/\i1 [.bool (!((ByteArray.toList l0)==(ByteArray.toList l4)))] h)) fun o8 b3 =>
 ∃ d4,Ap o8 0=.bool d4/\(bif d4 then
 ∃ g2,Al (Instr.build 183 #[]) (.agg g2)/\∃ b4,YE 183 a (.agg g2) b3 b4/\∃ h6,Yg 183 a b4 h6/\K (.tuple #[.agg h6,.int .i64 8]) b4
 else
 ∃ g6,Yg 183 t b3 g6/\∃ b5,YE 183 a (.agg g6) b3 b5/\∃ h7,Yg 183 a b5 h7/\K (.tuple #[.agg h7,.int .i64 0]) b5)))/\(∃ u l9,Yq 183 (Ah y) u l9/\YC Ai #[.slice a0 a4 a2] l9 fun m6 o2=>∃ j3,m6=.int .u64 j3/\YC AT #[.slice n p o] o2 fun m9 o3=>∃ c2 i4 d7,m9=.slice c2 i4 d7/\YC AT #[.slice j m l] o3 fun n3 o4=>∃ c6 i8 e1,n3=.slice c6 i8 e1/\∃ f1,Al (Instr.build 183 #[(0,.int .i64 (IntKind.i64.wrap j3)),(1,.slice c2 i4 d7),(2,.slice c6 i8 e1)]) (.agg f1)/\∃ z,YE 183 u (.agg f1) o4 z/\∃ f5,Yg 40 e z f5/\∃ f9,Yg 183 u z f9/\YC BN #[.agg f5,.agg f9] z fun n7 i=>∃ d0 j2 e5 j7,n7=.tuple #[.slice d0 j2 e5,.int .i64 j7]/\Ac (fun i2=>(bif j7 != 0 then i2 [.bool true] i else ∃ l1:ByteArray,Ru (convert 88 9 (.slice d0 j2 e5)) i (.string l1) i/\∃ l5:ByteArray,Ru (convert 88 9 (.slice c b d)) i (.string l5) i/\i2 [.bool (!((ByteArray.toList l1)==(ByteArray.toList l5)))] i)) fun o9 b6 =>
 ∃ d5,Ap o9 0=.bool d5/\(bif d5 then
 ∃ g3,Al (Instr.build 183 #[]) (.agg g3)/\∃ b7,YE 183 a (.agg g3) b6 b7/\∃ h8,Yg 183 a b7 h8/\K (.tuple #[.agg h8,.int .i64 8]) b7
 else
 ∃ g7,Yg 183 u b6 g7/\∃ b8,YE 183 a (.agg g7) b6 b8/\∃ h0,Yg 183 a b8 h0/\K (.tuple #[.agg h0,.int .i64 0]) b8))))
theorem Sq(g0:Array Value)(a1:YB)(l1 c1:Nat):Yz Hb #[.agg g0,.slice a1 l1 c1] (KB g0 a1 l1 c1):=fun _ _ h=>Af (A:=⟨[42],[(42,4)],[]⟩) Tryz.func182 h
def IY(e1:Array Value)(e2:Array Value)(f2:World)(K:YA):Prop :=
 ∃ h d3,Yb 40 (.agg e1) f2 h d3/\∃ a p,Yb 183 (.agg e2) d3 a p/\Ac (fun j=>∃ b3,Yg 40 h p b3/\YC A0 #[.agg b3] p fun e9 b=>∃ a4,e9=.bool a4/\(bif !a4 then j [.bool true] b else ∃ c4,Yi (Addr.add a 0) b c4/\(bif decide (c4<0)then j [.bool true] b else ∃ c5,Yi (Addr.add a 0) b c5/\∃ c6,Yi (Addr.add h 2) b c6/\(bif decide (c5 >= c6)then j [.bool true] b else ∃(d7:YB)(b6 d9:Nat),YD 88 (Addr.add a 1) b (.slice d7 b6 d9)/\(bif (b6:Int) != 16 then j [.bool true] b else ∃(d8:YB)(b7 e0:Nat),YD 88 (Addr.add a 2) b (.slice d8 b7 e0)/\j [.bool ((b7:Int) != 8)] b))))) fun f9 d5 =>
 ∃ y,Ap f9 0=.bool y/\(bif y then
 K (.bool false) d5
 else
 A6 (fun e3 q f =>
 ∃ c,Ap q 1=.int .i64 c/\(bif decide (c<128)then
 Ac (fun l=>∃ c7,Yi (Addr.add h 1) f c7/\(bif decide (c<(IntKind.i64.wrap (1+(IntKind.i64.wrap (Int.tdiv c7 4)))))then ∃(s:YB)(b8 a7:Nat),YD 88 (Addr.add a 1) f (.slice s b8 a7)/\YC Bi #[.slice s b8 a7,.int .i64 c] f fun e5 m=>∃ z,e5=.bool z/\(bif !z then l [.bool true] m else ∃ c8,Yi (Addr.add h 0) m c8/\(bif decide (c >= c8)then ∃(t:YB)(b9 a8:Nat),YD 88 (Addr.add a 1) m (.slice t b9 a8)/\YC Bi #[.slice t b9 a8,.int .i64 c] m fun e6 f7=>∃ a1,e6=.bool a1/\l [.bool a1] f7 else l [.bool false] m))else ∃ c9,Yi (Addr.add h 0) f c9/\(bif decide (c >= c9)then ∃(u:YB)(c0 a9:Nat),YD 88 (Addr.add a 1) f (.slice u c0 a9)/\YC Bi #[.slice u c0 a9,.int .i64 c] f fun e7 f8=>∃ a2,e7=.bool a2/\l [.bool a2] f8 else l [.bool false] f))) fun g0 d6 =>
 ∃ n,Ap g0 0=.bool n/\Ac (fun b4=>(bif n then
 b4 [.bool false] d6
 else
 b4 [Ap q 0] d6)) fun g1 f3 =>
 e3 [Ap g1 0,.int .i64 (IntKind.i64.wrap (c+1)),.bool n] f3
 else
 A6 (fun e4 r e =>
 ∃ d,Ap r 1=.int .i64 d/\(bif decide (d<64)then
 Ac (fun g=>∃ d0,Yi (Addr.add h 1) e d0/\(bif decide (d >= d0)then ∃(v:YB)(c1 b0:Nat),YD 88 (Addr.add a 2) e (.slice v c1 b0)/\YC Bi #[.slice v c1 b0,.int .i64 d] e fun e8 i=>∃ a3,e8=.bool a3/\(bif a3 then g [.bool true] i else ∃ d1,Yi (Addr.add a 0) i d1/\(bif d1==0 then(bif decide (d<2)then ∃(w:YB)(c2 b1:Nat),YD 88 (Addr.add a 2) i (.slice w c2 b1)/\YC Bi #[.slice w c2 b1,.int .i64 d] i fun f0 f4=>∃ a5,f0=.bool a5/\g [.bool (!a5)] f4 else g [.bool false] i)else g [.bool false] i))else ∃ d2,Yi (Addr.add a 0) e d2/\(bif d2==0 then(bif decide (d<2)then ∃(x:YB)(c3 b2:Nat),YD 88 (Addr.add a 2) e (.slice x c3 b2)/\YC Bi #[.slice x c3 b2,.int .i64 d] e fun f1 f5=>∃ a6,f1=.bool a6/\g [.bool (!a6)] f5 else g [.bool false] e)else g [.bool false] e))) fun g2 d4 =>
 ∃ o,Ap g2 0=.bool o/\Ac (fun b5=>(bif o then
 b5 [.bool false] d4
 else
 b5 [Ap r 0] d4)) fun g3 f6 =>
 e4 [Ap g3 0,.int .i64 (IntKind.i64.wrap (d+1)),.bool o] f6
 else
 ∃ a0,Ap r 0=.bool a0/\K (.bool a0) e)) [Ap q 0,.int .i64 0,undef] f)) [.bool true,.int .i64 0,undef] d5)
theorem PG(g0:Array Value)(g1:Array Value):Yz Eg #[.agg g0,.agg g1] (IY g0 g1):=fun _ _ h=>Af (A:=⟨[5,6,7,34,63,93],[(5,4),(6,3),(7,3),(34,4),(63,4),(93,4)],[]⟩) Tryz.func183 h
def IW(c:YB)(g e:Nat)(o:Int)(r:World)(K:YA):Prop :=
 A6 (fun n b s =>
 ∃ a,Ap b 1=.int .i64 a/\YC G2 #[.slice c g e,.int .i64 o] s fun p l=>∃ h,p=.int .i64 h/\(bif decide (a<h)then
 YC Bi #[.slice c g e,.int .i64 a] l fun q m=>∃ d,q=.bool d/\Ac (fun f=>(bif d then
 ∃ i,Ap b 0=.int .i64 i/\f [.int .i64 (IntKind.i64.wrap (i+1))] m
 else
 f [Ap b 0] m)) fun u t =>
 n [Ap u 0,.int .i64 (IntKind.i64.wrap (a+1))] t
 else
 ∃ j,Ap b 0=.int .i64 j/\K (.int .i64 j) l)) [.int .i64 0,.int .i64 0] r
theorem PE(a0:YB)(l0 c0:Nat)(n1:Int):Yz Ef #[.slice a0 l0 c0,.int .i64 n1] (IW a0 l0 c0 n1):=fun _ _ h=>Af (A:=⟨[5,6],[(5,3),(6,3)],[]⟩) Tryz.func184 h
def K4(f:YB)(b n:Nat)(a:Int)(a2:YB)(d a3:Nat)(e:World)(K:YA):Prop :=
 Ac (fun c=>(bif decide (a<0)then c [.bool true] e else(bif decide (a > (b:Int))then c [.bool true] e else c [.bool (decide ((d:Int) > (IntKind.i64.wrap ((b:Int)-a))))] e))) fun a4 y =>
 ∃ m,Ap a4 0=.bool m/\(bif m then
 K (.tuple #[.slice none 0 0,.int .i64 3]) y
 else
 ∃ g t o,Al (Instr.sliceAt 88 (.slice f b n) none (some (.int .i64 a)) none) (.slice g t o)/\∃ h u p z,Ru (Builtin.append_ #[88,88] 88 #[.slice none 0 0,.slice g t o]) y (.slice h u p) z/\∃ i v q a0,Ru (Builtin.append_ #[88,88] 88 #[.slice h u p,.slice a2 d a3]) z (.slice i v q) a0/\∃ j w r,Al (Instr.sliceAt 88 (.slice f b n) (some (.int .i64 (IntKind.i64.wrap (a+(d:Int))))) none none) (.slice j w r)/\∃ l x s a1,Ru (Builtin.append_ #[88,88] 88 #[.slice i v q,.slice j w r]) a0 (.slice l x s) a1/\K (.tuple #[.slice l x s,.int .i64 0]) a1)
theorem Si(a0:YB)(l0 c0:Nat)(n1:Int)(a2:YB)(l2 c2:Nat):Yz EU #[.slice a0 l0 c0,.int .i64 n1,.slice a2 l2 c2] (K4 a0 l0 c0 n1 a2 l2 c2):=fun _ _ h=>Af (A:=⟨[25],[(25,4)],[]⟩) Tryz.func186 h
def QB(f:YB)(o i:Nat)(p:Int)(d:Int)(t:World)(K:YA):Prop :=
 Ac (fun j=>(bif decide (d<0)then j [.bool true] t else j [.bool (decide (d > p))] t)) fun a3 u =>
 ∃ g,Ap a3 0=.bool g/\Ac (fun l=>(bif g then
 l [.int .i64 0] u
 else
 l [.int .i64 d] u)) fun a4 z =>
 YC Nh #[.slice f o i,.int .i64 p] z fun x a0=>∃ q,x=.int .i64 q/\A6 (fun w c v =>
 ∃ a,Ap c 1=.int .i64 a/\(bif decide (a<q)then
 Ac (fun m=>YC FD #[.slice f o i,.int .i64 a] v fun y b=>∃ h,y=.bool h/\(bif h then
 m [Ap c 0] b
 else
 ∃ r,Ap a4 0=.int .i64 r/\(bif decide (a >= r)then
 K (.int .i64 a) b
 else
 ∃ e,Ap c 0=.int .i64 e/\Ac (fun n=>(bif decide (e<0)then
 n [.int .i64 a] b
 else
 n [.int .i64 e] b)) fun a6 a1 =>
 m [Ap a6 0] a1))) fun a5 a2 =>
 w [Ap a5 0,.int .i64 (IntKind.i64.wrap (a+1))] a2
 else
 ∃ s,Ap c 0=.int .i64 s/\K (.int .i64 s) v)) [.int .i64 ((-1)),.int .i64 0] a0
theorem Yf(a0:YB)(l0 c0:Nat)(n1:Int)(n2:Int):Yz I2 #[.slice a0 l0 c0,.int .i64 n1,.int .i64 n2] (QB a0 l0 c0 n1 n2):=fun _ _ h=>Af (A:=⟨[2,8,16,21],[(2,3),(8,3),(16,4),(21,3)],[]⟩) Tryz.func187 h
def Tl(n:Array Value)(o:Array Value)(h:Int)(p:Int)(q:Int)(s:World)(K:YA):Prop :=
 ∃ i l,Yb 40 (.agg n) s i l/\∃ j a,Yb 119 (.agg o) l j a/\∃ e,Yg 40 i a e/\∃ f,Yg 119 j a f/\YC Dy #[.agg e,.agg f] a fun r b=>∃ c,r=.bool c/\(bif !c then
 K (.int .i64 1) b
 else
 Ac (fun g=>(bif decide (h<p)then g [.bool true] b else g [.bool (decide (h >= q))] b)) fun t m =>
 ∃ d,Ap t 0=.bool d/\(bif d then
 K (.int .i64 3) m
 else
 K (.int .i64 0) m))
theorem Z2(g0:Array Value)(g1:Array Value)(n2:Int)(n3:Int)(n4:Int):Yz JL #[.agg g0,.agg g1,.int .i64 n2,.int .i64 n3,.int .i64 n4] (Tl g0 g1 n2 n3 n4):=fun _ _ h=>Af (A:=⟨[16],[(16,4)],[]⟩) Tryz.func188 h
def Tm(a:YB)(c b:Nat)(i:Int)(f:Bool)(q:World)(K:YA):Prop :=
 YC FD #[.slice a c b,.int .i64 i] q fun o j=>∃ e,o=.bool e/\(bif e==f then
 K (.int .i64 6) j
 else
 YC PO #[.slice a c b,.int .i64 i,.bool f] j fun p r=>∃ d h g m,p=.tuple #[.slice d h g,.int .i64 m]/\∃ n l,Ru (Builtin.copy_ #[88,88] 3 #[.slice a c b,.slice d h g]) r (.int .i64 n) l/\K (.int .i64 0) l)
theorem Z3(a0:YB)(l0 c0:Nat)(n1:Int)(b2:Bool):Yz JM #[.slice a0 l0 c0,.int .i64 n1,.bool b2] (Tm a0 l0 c0 n1 b2):=fun _ _ h=>Af (A:=⟨[],[],[]⟩) Tryz.func189 h
def Th(b3:Array Value)(b7:World)(K:YA):Prop :=
 ∃ a b2,Yb 40 (.agg b3) b7 a b2/\∃ b g,Yq 40 b2 b g/\Ac (fun a1=>∃ b1,Yi (Addr.add a 0) g b1/\YC Gz #[.int .i64 b1,.int .i64 16,.int .i64 128] g fun b6 h=>∃ s,b6=.bool s/\(bif !s then a1 [.bool true] h else ∃ a4,Yi (Addr.add a 2) h a4/\YC Gz #[.int .i64 a4,.int .i64 1,.int .i64 16] h fun b4 b8=>∃ n,b4=.bool n/\a1 [.bool (!n)] b8)) fun b9 i =>
 ∃ r,Ap b9 0=.bool r/\(bif r then
 ∃ t,Al (Instr.build 40 #[]) (.agg t)/\∃ j,YE 40 b (.agg t) i j/\∃ x,Yg 40 b j x/\K (.agg x) j
 else
 Ac (fun a2=>∃ a5,Yi (Addr.add a 1) i a5/\YC Gz #[.int .i64 a5,.int .i64 4,.int .i64 64] i fun b5 l=>∃ p,b5=.bool p/\(bif !p then a2 [.bool true] l else ∃ a6,Yi (Addr.add a 1) l a6/\a2 [.bool ((Int.tmod a6 4) != 0)] l)) fun c0 c =>
 ∃ o,Ap c0 0=.bool o/\(bif o then
 ∃ u,Al (Instr.build 40 #[]) (.agg u)/\∃ m,YE 40 b (.agg u) c m/\∃ y,Yg 40 b m y/\K (.agg y) m
 else
 Ac (fun a3=>∃ a7,Yi (Addr.add a 0) c a7/\∃ a8,Yi (Addr.add a 1) c a8/\(bif decide ((IntKind.i64.wrap ((IntKind.i64.wrap (a7-1))-(IntKind.i64.wrap (Int.tdiv a8 4))))<4)then a3 [.bool true] c else ∃ a9,Yi (Addr.add a 2) c a9/\∃ b0,Yi (Addr.add a 0) c b0/\a3 [.bool (decide ((IntKind.i64.wrap (2+(IntKind.i64.wrap (a9*b0)))) > 4096))] c)) fun c1 d =>
 ∃ q,Ap c1 0=.bool q/\(bif q then
 ∃ v,Al (Instr.build 40 #[]) (.agg v)/\∃ e,YE 40 b (.agg v) d e/\∃ z,Yg 40 b e z/\K (.agg z) e
 else
 ∃ w,Yg 40 a d w/\∃ f,YE 40 b (.agg w) d f/\∃ a0,Yg 40 b f a0/\K (.agg a0) f)))
theorem Zz(g0:Array Value):Yz HC #[.agg g0] (Th g0):=fun _ _ h=>Af (A:=⟨[3,15,27],[(3,4),(15,4),(27,4)],[]⟩) Tryz.func190 h
def WJ(j:YB)(b l:Nat)(n:World)(K:YA):Prop :=
 A6 (fun m d c =>
 ∃ a,Ap d 1=.int .i64 a/\(bif decide (a<(if 8<(b:Int)then 8 else(b:Int)))then
 ∃ g,Ap d 0=.int .u64 g/\∃ i,Yx 88 (.slice j b l) (.int .i64 a) i/\∃ e,YD 5 i c (.int .u8 e)/\∃ f,Al (Gp .shl 270 (.tmp 16) (.tmp 18) (.int .u64 (IntKind.u64.wrap e)) (.int .i64 (IntKind.i64.wrap (8*a)))) (.int .u64 f)/\m [.int .u64 (IntKind.u64.wrap (TY 64 g f)),.int .i64 (IntKind.i64.wrap (a+1))] c
 else
 ∃ h,Ap d 0=.int .u64 h/\K (.int .u64 h) c)) [.int .u64 0,.int .i64 0] n
theorem mD(a0:YB)(l0 c0:Nat):Yz Bb #[.slice a0 l0 c0] (WJ a0 l0 c0):=fun _ _ h=>Af (A:=⟨[3,8],[(3,270),(8,3)],[]⟩) Tryz.func191 h
def Tk(b5:Array Value)(b6:Array Value)(c4:World)(K:YA):Prop :=
 ∃ h a8,Yb 40 (.agg b5) c4 h a8/\∃ e f,Yb 119 (.agg b6) a8 e f/\∃ u,Yg 40 h f u/\∃ v,Yg 119 e f v/\YC Dy #[.agg u,.agg v] f fun c1 b0=>∃ o,c1=.bool o/\(bif !o then
 K (.tuple #[.slice none 0 0,.int .i64 1]) b0
 else
 ∃ a c b b1,Ru (Instr.makeSlice 88 (.int .i64 256) (.int .i64 256)) b0 (.slice a c b) b1/\∃ b8 g,Ru (Builtin.copy_ #[88,9] 3 #[.slice a c b,.string (⟨#[76,71,82,80]⟩)]) b1 (.int .i64 b8) g/\∃ w,Yg 40 h g w/\∃ x,Yg 119 e g x/\YC I3 #[.agg w,.agg x] g fun c2 b2=>∃ a4 a5,c2=.tuple #[.int .i64 a4,.int .i64 a5]/\∃ a6,Yi (Addr.add e 0) b2 a6/\∃ y,Al (Instr.build 312 #[(0,.int .i64 a6),(1,.int .i64 a4),(2,.int .i64 a5)]) (.agg y)/\A6 (fun b7 c6 b3 =>
 ∃ d,Ap c6 0=.int .i64 d/\(bif decide (d<3)then
 ∃ a7,Al (Instr.index 312 (.agg y) (.int .i64 d)) (.int .i64 a7)/\∃ i z p,Al (Instr.sliceAt 88 (.slice a c b) (some (.int .i64 (IntKind.i64.wrap (4+(IntKind.i64.wrap (d*2)))))) (some (.int .i64 (IntKind.i64.wrap (4+(IntKind.i64.wrap ((IntKind.i64.wrap (d+1))*2)))))) none) (.slice i z p)/\YC CA #[.slice i z p,.int .u64 (IntKind.u64.wrap a7)] b3 fun c3 c5=>c3=.tuple #[]/\b7 [.int .i64 (IntKind.i64.wrap (d+1))] c5
 else
 ∃ j a0 q,Al (Instr.sliceAt 88 (.slice a c b) (some (.int .i64 16)) none none) (.slice j a0 q)/\∃ l a1 r,Al (Instr.sliceAt 116 (.pointer (some (Addr.add e 1))) none none none) (.slice l a1 r)/\∃ b9 b4,Ru (Builtin.copy_ #[88,88] 3 #[.slice j a0 q,.slice l a1 r]) (Ah b3) (.int .i64 b9) b4/\∃ m a2 s,Al (Instr.sliceAt 88 (.slice a c b) (some (.int .i64 32)) none none) (.slice m a2 s)/\∃ n a3 t,Al (Instr.sliceAt 117 (.pointer (some (Addr.add e 17))) none none none) (.slice n a3 t)/\∃ c0 a9,Ru (Builtin.copy_ #[88,88] 3 #[.slice m a2 s,.slice n a3 t]) (Ah b4) (.int .i64 c0) a9/\K (.tuple #[.slice a c b,.int .i64 0]) a9)) [.int .i64 0] b2)
theorem Z1(g0:Array Value)(g1:Array Value):Yz HD #[.agg g0,.agg g1] (Tk g0 g1):=fun _ _ h=>Af (A:=⟨[29],[(29,3)],[]⟩) Tryz.func192 h
def PN(t:YB)(c v:Nat)(u:YB)(d w:Nat)(y:World)(K:YA):Prop :=
 A6 (fun x b e =>
 ∃ a,Ap b 2=.int .i64 a/\(bif decide (a<(if (d:Int) > (c:Int)then(d:Int)else(c:Int)))then
 Ac (fun j=>Ac (fun l=>(bif decide (a<(if (d:Int)<(c:Int)then(d:Int)else(c:Int)))then ∃ r,Yx 88 (.slice t c v) (.int .i64 a) r/\∃ n,YD 5 r (Ah e) (.int .u8 n)/\∃ s,Yx 88 (.slice u d w) (.int .i64 a) s/\∃ o,YD 5 s (Ah e) (.int .u8 o)/\l [.bool (n==o)] (Ah e)else l [.bool false] (Ah e))) fun a1 h =>
 ∃ f,Ap a1 0=.bool f/\(bif f then
 j [Ap b 0,Ap b 1,.bool f] h
 else
 ∃ g,Ap b 0=.int .i64 g/\Ac (fun m=>(bif decide (g<0)then
 m [.int .i64 a] h
 else
 m [.int .i64 g] h)) fun a2 z =>
 j [Ap a2 0,.int .i64 (IntKind.i64.wrap (a+1)),.bool f] z)) fun i a0 =>
 x [Ap i 0,Ap i 1,.int .i64 (IntKind.i64.wrap (a+1)),Ap i 2] a0
 else
 ∃ p,Ap b 0=.int .i64 p/\∃ q,Ap b 1=.int .i64 q/\K (.tuple #[.int .i64 p,.int .i64 q]) e)) [.int .i64 ((-1)),.int .i64 ((-1)),.int .i64 0,undef] y
theorem U9(a0:YB)(l0 c0:Nat)(a1:YB)(l1 c1:Nat):Yz Jg #[.slice a0 l0 c0,.slice a1 l1 c1] (PN a0 l0 c0 a1 l1 c1):=fun _ _ h=>Af (A:=⟨[6,7,14,34],[(6,3),(7,3),(14,3),(34,4)],[]⟩) Tryz.func193 h
def Pc(q:Array Value)(n:Int)(u:World)(K:YA):Prop :=
 ∃ b p,Yb 40 (.agg q) u b p/\∃ a c,Yq 119 p a c/\∃ j,Yg 40 b c j/\YC ED #[.agg j,.int .i64 n] c fun s d=>∃ r o,s=.tuple #[.int .i64 r,.int .i64 o]/\(bif o != 0 then
 ∃ g,Al (Instr.build 119 #[]) (.agg g)/\∃ e,YE 119 a (.agg g) d e/\∃ l,Yg 119 a e l/\K (.tuple #[.agg l,.int .i64 1]) e
 else
 ∃ h,Yg 40 b d h/\YC LO #[.agg h,.int .i64 n] d fun t v=>∃ i,t=.agg i/\∃ f,YE 119 a (.agg i) v f/\∃ m,Yg 119 a f m/\K (.tuple #[.agg m,.int .i64 0]) f)
theorem Wy(g0:Array Value)(n1:Int):Yz Hz #[.agg g0,.int .i64 n1] (Pc g0 n1):=fun _ _ h=>Af (A:=⟨[],[],[]⟩) Tryz.func194 h
def MY(d:YB)(b e:Nat)(a:Int)(c:World)(K:YA):Prop :=
 K (.int .i64 (if (IntKind.i64.wrap (8*(b:Int)))<(if 0 > a then 0 else a)then(IntKind.i64.wrap (8*(b:Int)))else(if 0 > a then 0 else a))) c
theorem SZ(a0:YB)(l0 c0:Nat)(n1:Int):Yz Nh #[.slice a0 l0 c0,.int .i64 n1] (MY a0 l0 c0 n1):=fun _ _ h=>Af (A:=⟨[],[],[]⟩) Tryz.func195 h
def EB(e:YB)(h f:Nat)(g:Array Value)(j:World)(K:YA):Prop :=
 ∃ d a,Yb 126 (.agg g) j d a/\∃ b,Yg 126 d a b/\YC Gc #[.slice e h f,.agg b] a fun i l=>∃ c,i=.int .i64 c/\K (.bool (decide (c >= 0))) l
theorem II(a0:YB)(l0 c0:Nat)(g1:Array Value):Yz CW #[.slice a0 l0 c0,.agg g1] (EB a0 l0 c0 g1):=fun _ _ h=>Af (A:=⟨[],[],[]⟩) Tryz.func196 h
def KH(v:YB)(a2:World)(K:YA):Prop :=
 YC HV #[.pointer v] a2 fun a1 a3=>∃ u,a1=.int .i64 u/\A6 (fun a0 c b =>
 ∃ a,Ap c 1=.int .i64 a/\(bif decide (a<u)then
 ∃ g s m,Ap c 0=.slice g s m/\∃ w,(.pointer v:Value)=.pointer (some w)/\∃(d:YB)(p i:Nat),YD 199 (Addr.add w 0) b (.slice d p i)/\∃ x,Yx 199 (.slice d p i) (.int .i64 a) x/\∃ o,Yg 126 (Addr.add x 1) b o/\∃ e q j y,Ru (Instr.buildSlice 128 1 #[(0,.agg o)]) b (.slice e q j) y/\∃ f r l z,Ru (Builtin.append_ #[128,128] 128 #[.slice g s m,.slice e q j]) y (.slice f r l) z/\a0 [.slice f r l,.int .i64 (IntKind.i64.wrap (a+1))] z
 else
 ∃ h t n,Ap c 0=.slice h t n/\K (.slice h t n) b)) [.slice none 0 0,.int .i64 0] a3
theorem Sx(p0:YB):Yz Hf #[.pointer p0] (KH p0):=fun _ _ h=>Af (A:=⟨[3,7],[(3,128),(7,3)],[]⟩) Tryz.func197 h
def Mr(f:YB)(e:Int)(a:World)(K:YA):Prop :=
 (bif Option.isNone f then
 K (.int .i64 2) a
 else
 Ac (fun c=>(bif decide (e<0)then c [.bool true] a else ∃ g,(.pointer f:Value)=.pointer (some g)/\∃(i:YB)(d j:Nat),YD 206 (Addr.add g 0) a (.slice i d j)/\c [.bool (decide (e >= (d:Int)))] a)) fun l h =>
 ∃ b,Ap l 0=.bool b/\(bif b then
 K (.int .i64 3) h
 else
 K (.int .i64 0) h))
theorem TN(p0:YB)(n1:Int):Yz F1 #[.pointer p0,.int .i64 n1] (Mr p0 n1):=fun _ _ h=>Af (A:=⟨[8],[(8,4)],[]⟩) Tryz.func198 h
def Kz(c:YB)(a:World)(K:YA):Prop :=
 ∃ g,(.pointer c:Value)=.pointer (some g)/\∃ d,Yi (Addr.add g 2) a d/\(bif d==0 then
 K (.bool false) a
 else
 ∃ e,(.pointer c:Value)=.pointer (some e)/\∃ b,Yi (Addr.add e 2) a b/\∃ f,(.pointer c:Value)=.pointer (some f)/\∃ h,YE 3 (Addr.add f 2) (.int .i64 (if (-1) > (IntKind.i64.wrap (b-1))then(-1)else(IntKind.i64.wrap (b-1)))) a h/\K (.bool true) h)
theorem Sd(p0:YB):Yz EP #[.pointer p0] (Kz p0):=fun _ _ h=>Af (A:=⟨[],[],[]⟩) Tryz.func199 h
def Ky(t:YB)(f:World)(K:YA):Prop :=
 (bif Option.isNone t then
 K (.slice none 0 0) f
 else
 ∃ u,(.pointer t:Value)=.pointer (some u)/\∃ r,YD 207 (Addr.add u 1) f (.map r)/\∃ e x,Ru (Instr.range 207 (.map r)) f (.pointer (some e)) x/\A6 (fun a1 a0 a3 =>
 ∃ v:Value,∃ a,Ru (Instr.next (.pointer (some e)) false 0) a3 v a/\∃ j,Al (Instr.extract v 0) (.bool j)/\(bif j then
 ∃ w:Value,Ru (Instr.entry (.pointer (some e))) a w a/\∃ s,Al (Instr.extract w 0) (.int .i64 s)/\∃ i q n,Ap a0 0=.slice i q n/\∃ g o l y,Ru (Instr.buildSlice 80 1 #[(0,.int .i64 s)]) a (.slice g o l) y/\∃ h p m z,Ru (Builtin.append_ #[80,80] 80 #[.slice i q n,.slice g o l]) y (.slice h p m) z/\a1 [.slice h p m] z
 else
 ∃ b d c,Ap a0 0=.slice b d c/\YC JP #[.slice b d c] a fun a2 a4=>a2=.tuple #[]/\K (.slice b d c) a4)) [.slice none 0 0] x)
theorem Sc(p0:YB):Yz GY #[.pointer p0] (Ky p0):=fun _ _ h=>Af (A:=⟨[3],[(3,80)],[12,14]⟩) Tryz.func200 h
def K0(r:YB)(q:Int)(w:World)(K:YA):Prop :=
 ∃ b a,Yq 278 w b a/\∃ v,(.pointer r:Value)=.pointer (some v)/\∃ p,YD 207 (Addr.add v 1) a (.map p)/\∃ f c h,Ru (Instr.lookup 207 (.map p) (.int .i64 q) false) a (.slice f c h) a/\(bif decide ((c:Int) > 0)then
 ∃ s,Yx 206 (.slice f c h) (.int .i64 (IntKind.i64.wrap ((c:Int)-1))) s/\∃ j,Yg 278 s a j/\∃ d,YE 278 b (.agg j) a d/\∃ m,Yg 278 b d m/\K (.agg m) d
 else
 ∃ t,(.pointer r:Value)=.pointer (some t)/\∃(g:YB)(o i:Nat),YD 206 (Addr.add t 0) a (.slice g o i)/\∃ u,Yx 206 (.slice g o i) (.int .i64 q) u/\∃ l,Yg 278 u a l/\∃ e,YE 278 b (.agg l) a e/\∃ n,Yg 278 b e n/\K (.agg n) e)
theorem Se(p0:YB)(n1:Int):Yz EQ #[.pointer p0,.int .i64 n1] (K0 p0 n1):=fun _ _ h=>Af (A:=⟨[],[],[]⟩) Tryz.func201 h
def To(d:YB)(l g:Nat)(o:Int)(t:Array Value)(x:World)(K:YA):Prop :=
 ∃ q r,Yb 218 (.agg t) x q r/\YC JO #[.slice d l g,.int .i64 o] r fun u c=>∃ a,u=.int .i64 a/\(bif a != 0 then
 K (.tuple #[.slice none 0 0,.int .i64 a]) c
 else
 ∃ j,Yg 218 q c j/\YC Nn #[.agg j] c fun v s=>∃ e m h b,v=.tuple #[.slice e m h,.int .i64 b]/\(bif b != 0 then
 K (.tuple #[.slice none 0 0,.int .i64 b]) s
 else
 YC NN #[.slice d l g,.int .i64 (IntKind.i64.wrap (o*64)),.slice e m h] s fun w y=>∃ f n i p,w=.tuple #[.slice f n i,.int .i64 p]/\K (.tuple #[.slice f n i,.int .i64 p]) y))
theorem Z5(a0:YB)(l0 c0:Nat)(n1:Int)(g2:Array Value):Yz Nm #[.slice a0 l0 c0,.int .i64 n1,.agg g2] (To a0 l0 c0 n1 g2):=fun _ _ h=>Af (A:=⟨[],[],[]⟩) Tryz.func202 h
def Iw(i:Array Value)(l:World)(K:YA):Prop :=
 ∃ b a,Yb 143 (.agg i) l b a/\Ac (fun c=>∃ g,YD 2 (Addr.add b 0) a (.int .i64 g)/\(bif decide (g >= 1)then ∃ h,YD 2 (Addr.add b 0) a (.int .i64 h)/\(bif decide (h<=4611686018427387904)then ∃ f,Yg 40 (Addr.add b 1) a f/\YC DS #[.agg f] a fun j m=>∃ d,j=.bool d/\c [.bool d] m else c [.bool false] a)else c [.bool false] a)) fun o n =>
 ∃ e,Ap o 0=.bool e/\K (.bool e) n
theorem OQ(g0:Array Value):Yz DB #[.agg g0] (Iw g0):=fun _ _ h=>Af (A:=⟨[2],[(2,4)],[]⟩) Tryz.func203 h
def WL(h:YB)(c i:Nat)(l:Int)(m:World)(K:YA):Prop :=
 A6 (fun j g e =>
 ∃ a,Ap g 1=.int .i64 a/\(bif decide (a<(c:Int))then
 ∃ b,Ap g 0=.int .u64 b/\∃ d,Yx 88 (.slice h c i) (.int .i64 a) d/\∃ f,YE 5 d (.int .u8 (IntKind.u8.wrap b)) e f/\j [.int .u64 (Int.fdiv b 256),.int .i64 (IntKind.i64.wrap (a+1))] f
 else
 K (.tuple #[]) e)) [.int .u64 l,.int .i64 0] m
theorem mF(a0:YB)(l0 c0:Nat)(n1:Int):Yz CA #[.slice a0 l0 c0,.int .u64 n1] (WL a0 l0 c0 n1):=fun _ _ h=>Af (A:=⟨[1,7],[(1,270),(7,3)],[]⟩) Tryz.func204 h
def WM(z:YB)(n a0:Nat)(a4:World)(K:YA):Prop :=
 ∃ g v,Yq 318 a4 g v/\A6 (fun a1 a5 w =>
 ∃ a,Ap a5 1=.int .i64 a/\(bif decide (a<16)then
 A6 (fun a2 l x =>
 ∃ c,Ap l 1=.int .i64 c/\(bif decide (c<4)then
 ∃ i,Ap l 0=.int .u32 i/\a2 [.int .u32 (IntKind.u32.wrap (HI 32 (Int.fdiv i 2) (IntKind.u32.wrap (3988292384*(IntKind.u32.wrap (JT 32 i 1)))))),.int .i64 (IntKind.i64.wrap (c+1))] x
 else
 ∃ j,Ap l 0=.int .u32 j/\∃ r,Yx 318 (.pointer (some g)) (.int .i64 a) r/\∃ y,YE 283 r (.int .u32 j) x y/\a1 [.int .u32 j,.int .i64 (IntKind.i64.wrap (a+1)),.int .i64 c] y)) [.int .u32 (IntKind.u32.wrap a),.int .i64 0] w
 else
 A6 (fun a3 m b =>
 ∃ d,Ap m 1=.int .i64 d/\(bif decide (d<(n:Int))then
 ∃ s,Yx 88 (.slice z n a0) (.int .i64 d) s/\∃ e,YD 5 s b (.int .u8 e)/\∃ f,Ap m 0=.int .u32 f/\∃ t,Al (Instr.indexAt 318 (.pointer (some g)) (.int .u32 (IntKind.u32.wrap (JT 32 (IntKind.u32.wrap (HI 32 f (IntKind.u32.wrap e))) 15)))) (.pointer (some t))/\∃ h,YD 283 t b (.int .u32 h)/\∃ u,Al (Instr.indexAt 318 (.pointer (some g)) (.int .u32 (IntKind.u32.wrap (JT 32 (IntKind.u32.wrap (HI 32 (Int.fdiv (IntKind.u32.wrap (HI 32 f (IntKind.u32.wrap e))) 16) h)) 15)))) (.pointer (some u))/\∃ o,YD 283 u b (.int .u32 o)/\a3 [.int .u32 (IntKind.u32.wrap (HI 32 (Int.fdiv (IntKind.u32.wrap (HI 32 (Int.fdiv (IntKind.u32.wrap (HI 32 f (IntKind.u32.wrap e))) 16) h)) 16) o)),.int .i64 (IntKind.i64.wrap (d+1))] b
 else
 ∃ q,Ap m 0=.int .u32 q/\∃ p,Al (Op.unary .xor (.int .u32 q)) (.int .u32 p)/\K (.int .u32 p) b)) [.int .u32 4294967295,.int .i64 0] w)) [undef,.int .i64 0,undef] v
theorem mG(a0:YB)(l0 c0:Nat):Yz NO #[.slice a0 l0 c0] (WM a0 l0 c0):=fun _ _ h=>Af (A:=⟨[5,6,9,14,29],[(5,283),(6,283),(9,3),(14,3),(29,3)],[]⟩) Tryz.func205 h
def Tc(g:YB)(a:Int)(b:World)(K:YA):Prop :=
 (bif Option.isNone g then
 K (.tuple #[.pointer none,.int .i64 2]) b
 else
 Ac (fun e=>(bif decide (a<1)then e [.bool true] b else e [.bool (decide (a > 4096))] b)) fun m i =>
 ∃ c,Ap m 0=.bool c/\(bif c then
 K (.tuple #[.pointer none,.int .i64 1]) i
 else
 ∃ f j,Ru (Instr.makeMap 250 none) i (.map f) j/\∃ d,Al (Instr.build 252 #[(0,.pointer g),(1,.int .i64 a),(2,.map f)]) (.agg d)/\∃ h l,Yb 252 (.agg d) j h l/\K (.tuple #[.pointer (some h),.int .i64 0]) l))
theorem Zv(p0:YB)(n1:Int):Yz Ni #[.pointer p0,.int .i64 n1] (Tc p0 n1):=fun _ _ h=>Af (A:=⟨[9],[(9,4)],[]⟩) Tryz.func206 h
def Ts(e7:YB)(f1 e9:Nat)(g0:World)(K:YA):Prop :=
 ∃ b e4,Yb 88 (.slice e7 f1 e9) g0 b e4/\∃ a c,Yq 143 e4 a c/\∃(e8:YB)(d6 f0:Nat),YD 88 b c (.slice e8 d6 f0)/\(bif (d6:Int) != 256 then
 ∃ b2,Al (Instr.build 143 #[]) (.agg b2)/\∃ o,YE 143 a (.agg b2) c o/\∃ c1,Yg 143 a o c1/\K (.tuple #[.agg c1,.int .i64 4]) o
 else
 ∃(s:YB)(c7 a3:Nat),YD 88 b c (.slice s c7 a3)/\∃ t c8 a4,Al (Instr.sliceAt 88 (.slice s c7 a3) none (some (.int .i64 4)) none) (.slice t c8 a4)/\∃ e3:ByteArray,Ru (convert 88 9 (.slice t c8 a4)) c (.string e3) c/\(bif !((ByteArray.toList e3)==(ByteArray.toList (⟨#[76,86,69,69]⟩)))then
 ∃ b3,Al (Instr.build 143 #[]) (.agg b3)/\∃ p,YE 143 a (.agg b3) c p/\∃ c2,Yg 143 a p c2/\K (.tuple #[.agg c2,.int .i64 8]) p
 else
 ∃(u:YB)(c9 a5:Nat),YD 88 b (Ah c) (.slice u c9 a5)/\∃ v d0 a6,Al (Instr.sliceAt 88 (.slice u c9 a5) (some (.int .i64 252)) none none) (.slice v d0 a6)/\∃(e:YB)(g f:Nat),YD 88 b (Ah c) (.slice e g f)/\∃ w d1 a7,Al (Instr.sliceAt 88 (.slice e g f) none (some (.int .i64 252)) none) (.slice w d1 a7)/\YC Bb #[.slice v d0 a6] (Ah c) fun f2 e6=>∃ d7,f2=.int .u64 d7/\YD 88 b e6 (.slice e g f)/\YC NO #[.slice w d1 a7] e6 fun f3 q=>∃ d8,f3=.int .u32 d8/\(bif d7 != (IntKind.u64.wrap d8)then
 ∃ b4,Al (Instr.build 143 #[]) (.agg b4)/\∃ r,YE 143 a (.agg b4) q r/\∃ c3,Yg 143 a r c3/\K (.tuple #[.agg c3,.int .i64 7]) r
 else
 ∃(x:YB)(d2 a8:Nat),YD 88 b q (.slice x d2 a8)/\∃ y d3 a9,Al (Instr.sliceAt 88 (.slice x d2 a8) (some (.int .i64 4)) (some (.int .i64 12)) none) (.slice y d3 a9)/\YC Bb #[.slice y d3 a9] q fun f4 g3=>∃ d9,f4=.int .u64 d9/\WN Tryz.prog (.func (.func Eu) #[] #[.pointer (some b)]) #[.int .i64 12] g3 fun f5 g4=>∃ e0,f5=.int .i64 e0/\WN Tryz.prog (.func (.func Eu) #[] #[.pointer (some b)]) #[.int .i64 14] g4 fun f6 g1=>∃ e1,f6=.int .i64 e1/\WN Tryz.prog (.func (.func Eu) #[] #[.pointer (some b)]) #[.int .i64 16] g1 fun f7 g2=>∃ e2,f7=.int .i64 e2/\∃ b5,Al (Instr.build 40 #[(0,.int .i64 e0),(1,.int .i64 e1),(2,.int .i64 e2)]) (.agg b5)/\∃ b6,Al (Instr.build 143 #[(0,.int .i64 (IntKind.i64.wrap d9)),(1,.agg b5)]) (.agg b6)/\∃ d e5,Yq 143 g2 d e5/\∃ h,YE 143 d (.agg b6) e5 h/\∃ b7,Yg 143 d h b7/\YC DB #[.agg b7] h fun f8 i=>∃ a1,f8=.bool a1/\(bif !a1 then
 ∃ b8,Al (Instr.build 143 #[]) (.agg b8)/\∃ j,YE 143 a (.agg b8) i j/\∃ c4,Yg 143 a j c4/\K (.tuple #[.agg c4,.int .i64 1]) j
 else
 ∃(z:YB)(d4 b0:Nat),YD 88 b i (.slice z d4 b0)/\∃ a0 d5 b1,Al (Instr.sliceAt 88 (.slice z d4 b0) (some (.int .i64 18)) (some (.int .i64 252)) none) (.slice a0 d5 b1)/\YC EE #[.slice a0 d5 b1] i fun f9 l=>∃ a2,f9=.bool a2/\(bif !a2 then
 ∃ b9,Al (Instr.build 143 #[]) (.agg b9)/\∃ m,YE 143 a (.agg b9) l m/\∃ c5,Yg 143 a m c5/\K (.tuple #[.agg c5,.int .i64 8]) m
 else
 ∃ c0,Yg 143 d l c0/\∃ n,YE 143 a (.agg c0) l n/\∃ c6,Yg 143 a n c6/\K (.tuple #[.agg c6,.int .i64 0]) n)))))
theorem Z9(a0:YB)(l0 c0:Nat):Yz JQ #[.slice a0 l0 c0] (Ts a0 l0 c0):=fun _ _ h=>Af (A:=⟨[],[],[]⟩) Tryz.func207 h
def Iv(d:Array Value)(e:World)(K:YA):Prop :=
 ∃ c a,Yb 143 (.agg d) e c a/\∃ b,YD 2 (Addr.add c 0) a (.int .i64 b)/\K (.int .i64 (Int.tmod b 2)) a
theorem OP(g0:Array Value):Yz CI #[.agg g0] (Iv g0):=fun _ _ h=>Af (A:=⟨[],[],[]⟩) Tryz.func208 h
def Mx(f:YB)(h:Int)(a:World)(K:YA):Prop :=
 (bif Option.isNone f then
 K (.tuple #[.int .i64 0,.int .i64 0,.int .i64 2]) a
 else
 ∃ g,(.pointer f:Value)=.pointer (some g)/\∃ b,Yg 40 (Addr.add (Addr.add g 0) 1) a b/\YC Nj #[.agg b,.int .i64 h] a fun i j=>∃ c d e,i=.tuple #[.int .i64 c,.int .i64 d,.int .i64 e]/\K (.tuple #[.int .i64 c,.int .i64 d,.int .i64 e]) j)
theorem TT(p0:YB)(n1:Int):Yz HW #[.pointer p0,.int .i64 n1] (Mx p0 n1):=fun _ _ h=>Af (A:=⟨[],[],[]⟩) Tryz.func209 h
def QG(f:YB)(o h:Nat)(b:Int)(v:World)(K:YA):Prop :=
 ∃ a r,Yq 218 v a r/\YC JO #[.slice f o h,.int .i64 b] r fun u s=>∃ c,u=.int .i64 c/\(bif c != 0 then
 ∃ j,Al (Instr.build 218 #[]) (.agg j)/\∃ d,YE 218 a (.agg j) s d/\∃ m,Yg 218 a d m/\K (.tuple #[.agg m,.int .i64 c]) d
 else
 ∃ g p i,Al (Instr.sliceAt 88 (.slice f o h) (some (.int .i64 (IntKind.i64.wrap (b*64)))) (some (.int .i64 (IntKind.i64.wrap ((IntKind.i64.wrap (b+1))*64)))) none) (.slice g p i)/\YC Nl #[.slice g p i] s fun t w=>∃ l q,t=.tuple #[.agg l,.int .i64 q]/\∃ e,YE 218 a (.agg l) w e/\∃ n,Yg 218 a e n/\K (.tuple #[.agg n,.int .i64 q]) e)
theorem Ym(a0:YB)(l0 c0:Nat)(n1:Int):Yz LP #[.slice a0 l0 c0,.int .i64 n1] (QG a0 l0 c0 n1):=fun _ _ h=>Af (A:=⟨[],[],[]⟩) Tryz.func210 h
def FY(i:YB)(e:Int)(a:World)(K:YA):Prop :=
 Ac (fun c=>(bif decide (e >= 0)then ∃ f,(.pointer i:Value)=.pointer (some f)/\∃(g:YB)(d h:Nat),YD 221 (Addr.add f 0) a (.slice g d h)/\c [.bool (decide (e<(d:Int)))] a else c [.bool false] a)) fun l j =>
 ∃ b,Ap l 0=.bool b/\K (.bool b) j
theorem Ku(p0:YB)(n1:Int):Yz C8 #[.pointer p0,.int .i64 n1] (FY p0 n1):=fun _ _ h=>Af (A:=⟨[4],[(4,4)],[]⟩) Tryz.func211 h
def Gt(b:YB)(m:World)(K:YA):Prop :=
 YC Dl #[.pointer b] m fun l a=>∃ c,l=.bool c/\(bif c then
 K (.bool false) a
 else
 ∃ i,(.pointer b:Value)=.pointer (some i)/\∃ d,YD 4 (Addr.add i 1) a (.bool d)/\Ac (fun e=>(bif d then
 ∃ g,(.pointer b:Value)=.pointer (some g)/\∃ f,Yi (Addr.add g 2) a f/\∃ h,(.pointer b:Value)=.pointer (some h)/\∃ j,YE 3 (Addr.add h 2) (.int .i64 (IntKind.i64.wrap (f-1))) a j/\e [] j
 else
 e [] a)) fun o n =>
 K (.bool true) n)
theorem LI(p0:YB):Yz CN #[.pointer p0] (Gt p0):=fun _ _ h=>Af (A:=⟨[],[],[]⟩) Tryz.func212 h
end Go.Z
end
