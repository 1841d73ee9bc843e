/- Parts of the proof, in order: what the statement leans on. -/
import Derived.Test.YtbeejkncceejgaaGreatBb
open Go.Proofs Go.Proofs.YtbeejkncceejgaaGreat
section
open Go Go.Den Go.Proofs
namespace Go.Z
set_option maxRecDepth 100000
def SR(d:YB)(c e:Nat)(x2:World)(K:YA):Prop :=
 ∃ a w,Yq 69 x2 a w/\(bif (c:Int) != 64 then
 ∃ i4,Al (Instr.build 69 #[]) (.agg i4)/\∃ c1,YE 69 a (.agg i4) w c1/\∃ l1,Yg 69 a c1 l1/\K (.tuple #[.agg l1,Yn 4]) c1
 else
 ∃ f,Yx 57 (.slice d c e) (Yn 0) f/\∃ b,YD 5 f (Af w) (.int .u8 b)/\∃ a9 b5 b0,Al (Instr.sliceAt 57 (.slice d c e) (some (Yn 2)) (some (Yn 4)) none) (.slice a9 b5 b0)/\∃ x z y,Al (Instr.sliceAt 57 (.slice d c e) (some (Yn 4)) (some (Yn 8)) none) (.slice x z y)/\∃ p r q,Al (Instr.sliceAt 57 (.slice d c e) (some (Yn 8)) (some (Yn 16)) none) (.slice p r q)/\(YC AF #[.slice a9 b5 b0] (Af w) fun v1 c3=>∃ a0,v1=.int .u64 a0/\YD 5 f c3 (.int .u8 b)/\(YC AF #[.slice x z y] c3 fun v3 c9=>∃ b6,v3=.int .u64 b6/\YD 5 f c9 (.int .u8 b)/\(YC AF #[.slice p r q] c9 fun v6 t0=>∃ n9,v6=.int .u64 n9/\YD 5 f t0 (.int .u8 b)/\∃ i5,Al (Instr.build 69 #[(0,Yn (Yw b)),(1,Yn (Yw a0)),(2,Yn (Yw b6)),(3,Yn (Yw n9))]) (.agg i5)/\∃ g d5,Yq 69 t0 g d5/\YD 5 f d5 (.int .u8 b)/\∃ t9,YE 69 g (.agg i5) d5 t9/\∃ s u0,Yq 54 t9 s u0/\AS (fun u2 y1 u1 =>
 ∃ l,A2 y1 0=Yn l/\(bif decide (l<8)then
 ∃ e0 m0 g8,Al (Instr.sliceAt 57 (.slice d c e) (some (Yn (Yw (16+(Yw (l*2)))))) (some (Yn (Yw (16+(Yw ((Yw (l+1))*2)))))) none) (.slice e0 m0 g8)/\YC AF #[.slice e0 m0 g8] u1 fun w0 x3=>∃ o3,w0=.int .u64 o3/\∃ p9,Yx 54 (.pointer (some s)) (Yn l) p9/\∃ r5,YE 3 p9 (Yn (Yw o3)) x3 r5/\u2 [Yn (Yw (l+1))] r5
 else
 ∃ e4 m4 h2,Al (Instr.sliceAt 67 (.pointer (some (Addr.add g 4))) none none none) (.slice e4 m4 h2)/\∃ e8 m8 h6,Al (Instr.sliceAt 54 (.pointer (some s)) none none none) (.slice e8 m8 h6)/\∃ u6 a1,Ru (Builtin.copy_ #[176,176] 3 #[.slice e4 m4 h2,.slice e8 m8 h6]) (Af u1) (Yn u6) a1/\∃ q3,Yx 54 (.pointer (some s)) (Yn 6) q3/\∃ o7,Yi q3 a1 o7/\∃ q7,Yx 54 (.pointer (some s)) (Yn 7) q7/\∃ p1,Yi q7 a1 p1/\∃ r6,YE 3 (Addr.add g 10) (Yn o7) a1 r6/\∃ a2,YE 3 (Addr.add g 11) (Yn p1) r6 a2/\Ad (fun b1=>∃ r1,Yx 57 (.slice d c e) (Yn 1) r1/\∃ p5,YD 5 r1 a2 (.int .u8 p5)/\(bif p5 != 0 then b1 [.bool true] a2 else ∃ f2 n2 i0,Al (Instr.sliceAt 57 (.slice d c e) (some (Yn 32)) none none) (.slice f2 n2 i0)/\YC CJ #[.slice f2 n2 i0] a2 fun w4 b7=>∃ f6,w4=.bool f6/\(bif !f6 then b1 [.bool true] b7 else ∃ i9,Yg 69 g b7 i9/\YC Cc #[.agg i9] b7 fun w8 x4=>∃ g0,w8=.bool g0/\b1 [.bool (!g0)] x4))) fun y2 b8 =>
 ∃ g4,A2 y2 0=.bool g4/\(bif g4 then
 ∃ j3,Al (Instr.build 69 #[]) (.agg j3)/\∃ b9,YE 69 a (.agg j3) b8 b9/\∃ l2,Yg 69 a b9 l2/\K (.tuple #[.agg l2,Yn 8]) b9
 else
 ∃ j7,Yg 69 g b8 j7/\∃ c0,YE 69 a (.agg j7) b8 c0/\∃ l3,Yg 69 a c0 l3/\K (.tuple #[.agg l3,Yn 0]) c0))) [Yn 0] u0)/\(∃ h c2,Yq 69 c9 h c2/\YD 5 f c2 (.int .u8 b)/\YC AF #[.slice p r q] c2 fun v7 r7=>∃ o0,v7=.int .u64 o0/\YD 5 f r7 (.int .u8 b)/\∃ i6,Al (Instr.build 69 #[(0,Yn (Yw b)),(1,Yn (Yw a0)),(2,Yn (Yw b6)),(3,Yn (Yw o0))]) (.agg i6)/\∃ r8,YE 69 h (.agg i6) r7 r8/\∃ t r9,Yq 54 r8 t r9/\AS (fun u3 y3 s0 =>
 ∃ m,A2 y3 0=Yn m/\(bif decide (m<8)then
 ∃ e1 m1 g9,Al (Instr.sliceAt 57 (.slice d c e) (some (Yn (Yw (16+(Yw (m*2)))))) (some (Yn (Yw (16+(Yw ((Yw (m+1))*2)))))) none) (.slice e1 m1 g9)/\YC AF #[.slice e1 m1 g9] s0 fun w1 x5=>∃ o4,w1=.int .u64 o4/\∃ q0,Yx 54 (.pointer (some t)) (Yn m) q0/\∃ s1,YE 3 q0 (Yn (Yw o4)) x5 s1/\u3 [Yn (Yw (m+1))] s1
 else
 ∃ e5 m5 h3,Al (Instr.sliceAt 67 (.pointer (some (Addr.add h 4))) none none none) (.slice e5 m5 h3)/\∃ e9 m9 h7,Al (Instr.sliceAt 54 (.pointer (some t)) none none none) (.slice e9 m9 h7)/\∃ u7 a3,Ru (Builtin.copy_ #[176,176] 3 #[.slice e5 m5 h3,.slice e9 m9 h7]) (Af s0) (Yn u7) a3/\∃ q4,Yx 54 (.pointer (some t)) (Yn 6) q4/\∃ o8,Yi q4 a3 o8/\∃ q8,Yx 54 (.pointer (some t)) (Yn 7) q8/\∃ p2,Yi q8 a3 p2/\∃ s2,YE 3 (Addr.add h 10) (Yn o8) a3 s2/\∃ a4,YE 3 (Addr.add h 11) (Yn p2) s2 a4/\Ad (fun b2=>∃ r2,Yx 57 (.slice d c e) (Yn 1) r2/\∃ p6,YD 5 r2 a4 (.int .u8 p6)/\(bif p6 != 0 then b2 [.bool true] a4 else ∃ f3 n3 i1,Al (Instr.sliceAt 57 (.slice d c e) (some (Yn 32)) none none) (.slice f3 n3 i1)/\YC CJ #[.slice f3 n3 i1] a4 fun w5 c4=>∃ f7,w5=.bool f7/\(bif !f7 then b2 [.bool true] c4 else ∃ j0,Yg 69 h c4 j0/\YC Cc #[.agg j0] c4 fun w9 x6=>∃ g1,w9=.bool g1/\b2 [.bool (!g1)] x6))) fun y4 c5 =>
 ∃ g5,A2 y4 0=.bool g5/\(bif g5 then
 ∃ j4,Al (Instr.build 69 #[]) (.agg j4)/\∃ c6,YE 69 a (.agg j4) c5 c6/\∃ l4,Yg 69 a c6 l4/\K (.tuple #[.agg l4,Yn 8]) c6
 else
 ∃ j8,Yg 69 h c5 j8/\∃ c7,YE 69 a (.agg j8) c5 c7/\∃ l5,Yg 69 a c7 l5/\K (.tuple #[.agg l5,Yn 0]) c7))) [Yn 0] r9))/\(∃ i c8,Yq 69 c3 i c8/\YD 5 f c8 (.int .u8 b)/\YC AF #[.slice x z y] c8 fun v4 s3=>∃ n7,v4=.int .u64 n7/\YD 5 f s3 (.int .u8 b)/\YC AF #[.slice p r q] s3 fun v8 s4=>∃ o1,v8=.int .u64 o1/\YD 5 f s4 (.int .u8 b)/\∃ i7,Al (Instr.build 69 #[(0,Yn (Yw b)),(1,Yn (Yw a0)),(2,Yn (Yw n7)),(3,Yn (Yw o1))]) (.agg i7)/\∃ s5,YE 69 i (.agg i7) s4 s5/\∃ u s6,Yq 54 s5 u s6/\AS (fun u4 y5 s7 =>
 ∃ n,A2 y5 0=Yn n/\(bif decide (n<8)then
 ∃ e2 m2 h0,Al (Instr.sliceAt 57 (.slice d c e) (some (Yn (Yw (16+(Yw (n*2)))))) (some (Yn (Yw (16+(Yw ((Yw (n+1))*2)))))) none) (.slice e2 m2 h0)/\YC AF #[.slice e2 m2 h0] s7 fun w2 x7=>∃ o5,w2=.int .u64 o5/\∃ q1,Yx 54 (.pointer (some u)) (Yn n) q1/\∃ s8,YE 3 q1 (Yn (Yw o5)) x7 s8/\u4 [Yn (Yw (n+1))] s8
 else
 ∃ e6 m6 h4,Al (Instr.sliceAt 67 (.pointer (some (Addr.add i 4))) none none none) (.slice e6 m6 h4)/\∃ f0 n0 h8,Al (Instr.sliceAt 54 (.pointer (some u)) none none none) (.slice f0 n0 h8)/\∃ u9 a5,Ru (Builtin.copy_ #[176,176] 3 #[.slice e6 m6 h4,.slice f0 n0 h8]) (Af s7) (Yn u9) a5/\∃ q5,Yx 54 (.pointer (some u)) (Yn 6) q5/\∃ o9,Yi q5 a5 o9/\∃ q9,Yx 54 (.pointer (some u)) (Yn 7) q9/\∃ p3,Yi q9 a5 p3/\∃ s9,YE 3 (Addr.add i 10) (Yn o9) a5 s9/\∃ a6,YE 3 (Addr.add i 11) (Yn p3) s9 a6/\Ad (fun b3=>∃ r3,Yx 57 (.slice d c e) (Yn 1) r3/\∃ p7,YD 5 r3 a6 (.int .u8 p7)/\(bif p7 != 0 then b3 [.bool true] a6 else ∃ f4 n4 i2,Al (Instr.sliceAt 57 (.slice d c e) (some (Yn 32)) none none) (.slice f4 n4 i2)/\YC CJ #[.slice f4 n4 i2] a6 fun w6 d0=>∃ f8,w6=.bool f8/\(bif !f8 then b3 [.bool true] d0 else ∃ j1,Yg 69 i d0 j1/\YC Cc #[.agg j1] d0 fun x0 x8=>∃ g2,x0=.bool g2/\b3 [.bool (!g2)] x8))) fun y6 d1 =>
 ∃ g6,A2 y6 0=.bool g6/\(bif g6 then
 ∃ j5,Al (Instr.build 69 #[]) (.agg j5)/\∃ d2,YE 69 a (.agg j5) d1 d2/\∃ l6,Yg 69 a d2 l6/\K (.tuple #[.agg l6,Yn 8]) d2
 else
 ∃ j9,Yg 69 i d1 j9/\∃ d3,YE 69 a (.agg j9) d1 d3/\∃ l7,Yg 69 a d3 l7/\K (.tuple #[.agg l7,Yn 0]) d3))) [Yn 0] s6))/\(∃ j d4,Yq 69 (Af w) j d4/\YD 5 f d4 (.int .u8 b)/\YC AF #[.slice a9 b5 b0] d4 fun v2 t1=>∃ n6,v2=.int .u64 n6/\YD 5 f t1 (.int .u8 b)/\YC AF #[.slice x z y] t1 fun v5 t2=>∃ n8,v5=.int .u64 n8/\YD 5 f t2 (.int .u8 b)/\YC AF #[.slice p r q] t2 fun v9 t3=>∃ o2,v9=.int .u64 o2/\YD 5 f t3 (.int .u8 b)/\∃ i8,Al (Instr.build 69 #[(0,Yn (Yw b)),(1,Yn (Yw n6)),(2,Yn (Yw n8)),(3,Yn (Yw o2))]) (.agg i8)/\∃ t4,YE 69 j (.agg i8) t3 t4/\∃ v t5,Yq 54 t4 v t5/\AS (fun u5 y7 t6 =>
 ∃ o,A2 y7 0=Yn o/\(bif decide (o<8)then
 ∃ e3 m3 h1,Al (Instr.sliceAt 57 (.slice d c e) (some (Yn (Yw (16+(Yw (o*2)))))) (some (Yn (Yw (16+(Yw ((Yw (o+1))*2)))))) none) (.slice e3 m3 h1)/\YC AF #[.slice e3 m3 h1] t6 fun w3 x9=>∃ o6,w3=.int .u64 o6/\∃ q2,Yx 54 (.pointer (some v)) (Yn o) q2/\∃ t7,YE 3 q2 (Yn (Yw o6)) x9 t7/\u5 [Yn (Yw (o+1))] t7
 else
 ∃ e7 m7 h5,Al (Instr.sliceAt 67 (.pointer (some (Addr.add j 4))) none none none) (.slice e7 m7 h5)/\∃ f1 n1 h9,Al (Instr.sliceAt 54 (.pointer (some v)) none none none) (.slice f1 n1 h9)/\∃ v0 a7,Ru (Builtin.copy_ #[176,176] 3 #[.slice e7 m7 h5,.slice f1 n1 h9]) (Af t6) (Yn v0) a7/\∃ q6,Yx 54 (.pointer (some v)) (Yn 6) q6/\∃ p0,Yi q6 a7 p0/\∃ r0,Yx 54 (.pointer (some v)) (Yn 7) r0/\∃ p4,Yi r0 a7 p4/\∃ t8,YE 3 (Addr.add j 10) (Yn p0) a7 t8/\∃ a8,YE 3 (Addr.add j 11) (Yn p4) t8 a8/\Ad (fun b4=>∃ r4,Yx 57 (.slice d c e) (Yn 1) r4/\∃ p8,YD 5 r4 a8 (.int .u8 p8)/\(bif p8 != 0 then b4 [.bool true] a8 else ∃ f5 n5 i3,Al (Instr.sliceAt 57 (.slice d c e) (some (Yn 32)) none none) (.slice f5 n5 i3)/\YC CJ #[.slice f5 n5 i3] a8 fun w7 d6=>∃ f9,w7=.bool f9/\(bif !f9 then b4 [.bool true] d6 else ∃ j2,Yg 69 j d6 j2/\YC Cc #[.agg j2] d6 fun x1 y0=>∃ g3,x1=.bool g3/\b4 [.bool (!g3)] y0))) fun y8 d7 =>
 ∃ g7,A2 y8 0=.bool g7/\(bif g7 then
 ∃ j6,Al (Instr.build 69 #[]) (.agg j6)/\∃ d8,YE 69 a (.agg j6) d7 d8/\∃ l8,Yg 69 a d8 l8/\K (.tuple #[.agg l8,Yn 8]) d8
 else
 ∃ l0,Yg 69 j d7 l0/\∃ d9,YE 69 a (.agg l0) d7 d9/\∃ l9,Yg 69 a d9 l9/\K (.tuple #[.agg l9,Yn 0]) d9))) [Yn 0] t5))
theorem Ze(a0:YB)(l0 c0:Nat):Yz MP #[.slice a0 l0 c0] (SR a0 l0 c0):=fun _ _ h=>Ac (A:=⟨[28,69],[(28,3),(69,4)],[]⟩) Tryz.func176 h
def HJ(b5:Value)(b6:Value)(a2:Value)(b7:Value)(g:World)(K:YA):Prop :=
 ∃ l,Ru (Instr.loadAt 69 b6) g (.agg l) g/\YC FU #[.agg l] g fun a9 b8=>∃ q,a9=Yn q/\AS (fun a8 a6 a =>
 ∃ b,A2 a6 0=Yn b/\(bif decide (b<q)then
 Ad (fun m=>∃ u,Ru (Instr.loadAt 35 a2) (Af a) (.pointer u) (Af a)/\∃ a0,(.pointer u:Value)=.pointer (some a0)/\∃ v,Yp 50 (Addr.add a0 0) (Af a) v/\∃ r,Ru (Instr.loadAt 3 b7) (Af a) (Yn r) (Af a)/\YC Du #[.pointer v,Yn r,Yn b] (Af a) fun b0 a3=>∃ f s,b0=.tuple #[Yn f,Yn s]/\Ad (fun n=>(bif s != 0 then n [.bool true] a3 else n [.bool (f==0)] a3)) fun c3 c =>
 ∃ d,A2 c3 0=.bool d/\(bif d then
 m [.bool d,A2 a6 2] c
 else
 ∃ w,Ru (Instr.loadAt 35 a2) c (.pointer w) c/\∃ a1,(.pointer w:Value)=.pointer (some a1)/\∃ x,Yp 50 (Addr.add a1 0) c x/\YC B8 #[.pointer x] c fun b1 c0=>∃ y,b1=.pointer y/\YC Cz #[.pointer y] c0 fun b2 c1=>∃ z,b2=.pointer z/\YC Ga #[.pointer z,Yn f] c1 fun b3 a4=>∃ h p j t,b3=.tuple #[.slice h p j,Yn t]/\Ad (fun o=>(bif t==0 then TH Yt b5 #[Yn b,.slice h p j] a4 fun b4 c2=>∃ i,b4=.bool i/\o [.bool (!i)] c2 else o [.bool false] a4)) fun c4 a5 =>
 ∃ e,A2 c4 0=.bool e/\(bif e then
 K (.tuple #[]) a5
 else
 m [.bool d,.bool e] a5))) fun a7 b9 =>
 a8 [Yn (Yw (b+1)),A2 a7 0,A2 a7 1] b9
 else
 K (.tuple #[]) a)) [Yn 0,undef,undef] b8
theorem Ol(v0:Value)(v1:Value)(v2:Value)(v3:Value):Yz CN #[v0,v1,v2,v3] (HJ v0 v1 v2 v3):=fun _ _ h=>Ac (A:=⟨[11,29,49],[(11,3),(29,4),(49,4)],[]⟩) Tryz.func177 h
def I2(m:YB)(p:Int)(q:Int)(u:World)(K:YA):Prop :=
 YC Ci #[.pointer m,Yn p] u fun r v=>∃ g b,r=.tuple #[.agg g,Yn b]/\∃ e n,Yq 69 v e n/\∃ f,YE 69 e (.agg g) n f/\(bif b != 0 then
 K (.tuple #[Yn 0,Yn b]) f
 else
 YC MS #[Yn q] f fun s w=>∃ h c,s=.tuple #[.agg h,Yn c]/\∃ d o,Yq 200 w d o/\∃ a,YE 200 d (.agg h) o a/\(bif c != 0 then
 K (.tuple #[Yn 0,Yn c]) a
 else
 ∃ i,Yg 69 e a i/\∃ j,Yg 200 d a j/\YC Dw #[.pointer m,.agg i,.agg j] a fun t x=>∃ l,t=Yn l/\K (.tuple #[Yn l,Yn 0]) x))
theorem Pn(p0:YB)(n1:Int)(n2:Int):Yz Du #[.pointer p0,Yn n1,Yn n2] (I2 p0 n1 n2):=fun _ _ h=>Ac (A:=⟨[],[],[]⟩) Tryz.func178 h
def MG(h:YB)(f:Int)(n:World)(K:YA):Prop :=
 YC Gd #[.pointer h,Yn f] n fun m b=>∃ a,m=Yn a/\(bif a != 0 then
 K (.tuple #[.slice none 0 0,Yn a]) b
 else
 ∃ j,(.pointer h:Value)=.pointer (some j)/\∃ i,Yp 128 (Addr.add j 4) b i/\YC Bd #[.pointer i,Yn f] b fun l o=>∃ c e d g,l=.tuple #[.slice c e d,Yn g]/\K (.tuple #[.slice c e d,Yn g]) o)
theorem Um(p0:YB)(n1:Int):Yz Ga #[.pointer p0,Yn n1] (MG p0 n1):=fun _ _ h=>Ac (A:=⟨[],[],[]⟩) Tryz.func179 h
def Kp(c:YB)(e d:Nat)(f:World)(K:YA):Prop :=
 ∃ a b,Yb 57 (.slice c e d) f a b/\K (.func (.func Ds) #[] #[.pointer (some a)]) b
theorem RK(a0:YB)(l0 c0:Nat):Yz Gz #[.slice a0 l0 c0] (Kp a0 l0 c0):=fun _ _ h=>Ac (A:=⟨[],[],[]⟩) Tryz.func180 h
def SH(j:YB)(g l:Nat)(a:Int)(b:World)(K:YA):Prop :=
 (bif (g:Int) != 256 then
 K (.tuple #[.slice none 0 0,Yn 4]) b
 else
 Ad (fun f=>(bif decide (a<0)then f [.bool true] b else f [.bool (decide (a >= 8))] b)) fun m i =>
 ∃ d,A2 m 0=.bool d/\(bif d then
 K (.tuple #[.slice none 0 0,Yn 3]) i
 else
 ∃ c h e,Al (Instr.sliceAt 57 (.slice j g l) (some (Yn (Yw (a*32)))) (some (Yn (Yw ((Yw (a+1))*32)))) none) (.slice c h e)/\K (.tuple #[.slice c h e,Yn 0]) i))
theorem YU(a0:YB)(l0 c0:Nat)(n1:Int):Yz J1 #[.slice a0 l0 c0,Yn n1] (SH a0 l0 c0 n1):=fun _ _ h=>Ac (A:=⟨[10],[(10,4)],[]⟩) Tryz.func181 h
def Q9(f:YB)(b h:Nat)(e1:World)(K:YA):Prop :=
 ∃ a e,Yq 143 e1 a e/\(bif (b:Int) != 32 then
 ∃ c3,Al (Instr.build 143 #[]) (.agg c3)/\∃ a4,YE 143 a (.agg c3) e a4/\∃ c4,Yg 143 a a4 c4/\K (.tuple #[.agg c4,Yn 4]) a4
 else
 ∃ d4,Yx 57 (.slice f b h) (Yn 3) d4/\∃ p,YD 5 d4 e (.int .u8 p)/\Ad (fun w=>∃ d5,Yx 57 (.slice f b h) (Yn 2) d5/\∃ d1,YD 5 d5 e (.int .u8 d1)/\(bif decide (d1 > 1)then w [.bool true] e else(bif decide ((Yw (4+(Yw p))) > (b:Int))then w [.bool true] e else ∃ a8 d0 b3,Al (Instr.sliceAt 57 (.slice f b h) (some (Yn (Yw (4+(Yw p))))) none none) (.slice a8 d0 b3)/\YC CJ #[.slice a8 d0 b3] e fun d6 e2=>∃ a9,d6=.bool a9/\w [.bool (!a9)] e2))) fun e3 m =>
 ∃ b0,A2 e3 0=.bool b0/\(bif b0 then
 ∃ b4,Al (Instr.build 143 #[]) (.agg b4)/\∃ a5,YE 143 a (.agg b4) m a5/\∃ c5,Yg 143 a a5 c5/\K (.tuple #[.agg c5,Yn 8]) a5
 else
 ∃ u x v,Al (Instr.sliceAt 57 (.slice f b h) none (some (Yn 2)) none) (.slice u x v)/\∃ l,Yx 57 (.slice f b h) (Yn 2) l/\∃ c,YD 5 l (Af m) (.int .u8 c)/\∃ g j i,Al (Instr.sliceAt 57 (.slice f b h) (some (Yn 4)) (some (Yn (Yw (4+(Yw p))))) none) (.slice g j i)/\∃ d:ByteArray,Ru (convert 57 9 (.slice g j i)) (Af m) (.string d) (Af m)/\(YC AF #[.slice u x v] (Af m) fun d7 t=>∃ d2,d7=.int .u64 d2/\YD 5 l t (.int .u8 c)/\Ru (convert 57 9 (.slice g j i)) t (.string d) t/\∃ b5,Al (Instr.build 143 #[(0,Yn (Yw d2)),(1,.bool (c==1)),(2,.string d)]) (.agg b5)/\∃ q o,Yq 143 t q o/\YD 5 l o (.int .u8 c)/\Ru (convert 57 9 (.slice g j i)) o (.string d) o/\∃ a6,YE 143 q (.agg b5) o a6/\∃ b7,Yg 143 q a6 b7/\YC CU #[.agg b7] a6 fun d9 a7=>∃ b1,d9=.bool b1/\(bif !b1 then
 ∃ b9,Al (Instr.build 143 #[]) (.agg b9)/\∃ y,YE 143 a (.agg b9) a7 y/\∃ c6,Yg 143 a y c6/\K (.tuple #[.agg c6,Yn 8]) y
 else
 ∃ c1,Yg 143 q a7 c1/\∃ z,YE 143 a (.agg c1) a7 z/\∃ c7,Yg 143 a z c7/\K (.tuple #[.agg c7,Yn 0]) z))/\(∃ r n,Yq 143 (Af m) r n/\YD 5 l n (.int .u8 c)/\Ru (convert 57 9 (.slice g j i)) n (.string d) n/\YC AF #[.slice u x v] n fun d8 s=>∃ d3,d8=.int .u64 d3/\YD 5 l s (.int .u8 c)/\Ru (convert 57 9 (.slice g j i)) s (.string d) s/\∃ b6,Al (Instr.build 143 #[(0,Yn (Yw d3)),(1,.bool (c==1)),(2,.string d)]) (.agg b6)/\∃ a0,YE 143 r (.agg b6) s a0/\∃ b8,Yg 143 r a0 b8/\YC CU #[.agg b8] a0 fun e0 a1=>∃ b2,e0=.bool b2/\(bif !b2 then
 ∃ c0,Al (Instr.build 143 #[]) (.agg c0)/\∃ a2,YE 143 a (.agg c0) a1 a2/\∃ c8,Yg 143 a a2 c8/\K (.tuple #[.agg c8,Yn 8]) a2
 else
 ∃ c2,Yg 143 r a1 c2/\∃ a3,YE 143 a (.agg c2) a1 a3/\∃ c9,Yg 143 a a3 c9/\K (.tuple #[.agg c9,Yn 0]) a3))))
theorem X8(a0:YB)(l0 c0:Nat):Yz KU #[.slice a0 l0 c0] (Q9 a0 l0 c0):=fun _ _ h=>Ac (A:=⟨[31],[(31,4)],[]⟩) Tryz.func182 h
def Ux(i:YB)(d j:Nat)(m:World)(K:YA):Prop :=
 AS (fun l c b =>
 ∃ a,A2 c 1=Yn a/\(bif decide (a<(d:Int))then
 ∃ h,Yx 57 (.slice i d j) (Yn a) h/\∃ e,YD 5 h b (.int .u8 e)/\∃ f,A2 c 0=.int .u8 f/\l [.int .u8 (IntKind.u8.wrap (UH 8 f e)),Yn (Yw (a+1))] b
 else
 ∃ g,A2 c 0=.int .u8 g/\K (.bool (g==0)) b)) [.int .u8 0,Yn 0] m
theorem cW(a0:YB)(l0 c0:Nat):Yz CJ #[.slice a0 l0 c0] (Ux a0 l0 c0):=fun _ _ h=>Ac (A:=⟨[3,8],[(3,5),(8,3)],[]⟩) Tryz.func183 h
def QC(c:Int)(e:Int)(f:Int)(d:World)(K:YA):Prop :=
 Ad (fun b=>(bif decide (c >= e)then b [.bool (decide (c<=f))] d else b [.bool false] d)) fun h g =>
 ∃ a,A2 h 0=.bool a/\K (.bool a) g
theorem XB(n0:Int)(n1:Int)(n2:Int):Yz FT #[Yn n0,Yn n1,Yn n2] (QC n0 n1 n2):=fun _ _ h=>Ac (A:=⟨[6],[(6,4)],[]⟩) Tryz.func184 h
def QE(a0:Array Value)(m:Int)(a3:World)(K:YA):Prop :=
 ∃ r u,Yb 83 (.agg a0) a3 r u/\∃ d v,Yq 171 u d v/\∃ h,Al (Instr.build 171 #[(0,Yn m)]) (.agg h)/\∃ b w,Yq 171 v b w/\∃ f,YE 171 b (.agg h) w f/\∃ i,Yg 83 r f i/\YC Eu #[.agg i] f fun a2 a4=>∃ n,a2=Yn n/\AS (fun a1 a5 c =>
 ∃ a,A2 a5 0=Yn a/\(bif decide (a<(Yw (1+n)))then
 ∃ q,Yx 168 (.pointer (some (Addr.add b 1))) (Yn (Yw (Int.tdiv a 8))) q/\∃ o,YD 5 q (Af c) (.int .u8 o)/\∃ p,Al (G9 .shl 5 (.const (.int .u8 1)) (.tmp 21) (.int .u8 1) (Yn (Int.tmod a 8))) (.int .u8 p)/\∃ s,Yx 168 (.pointer (some (Addr.add b 1))) (Yn (Yw (Int.tdiv a 8))) s/\∃ x,YE 5 s (.int .u8 (IntKind.u8.wrap (UH 8 o p))) (Af c) x/\a1 [Yn (Yw (a+1))] x
 else
 Ad (fun l=>(bif m==0 then
 ∃ t,Yx 169 (.pointer (some (Addr.add b 17))) (Yn 0) t/\∃ y,YE 5 t (.int .u8 3) c y/\l [] y
 else
 l [] c)) fun a6 z =>
 ∃ g,Yg 171 b z g/\∃ e,YE 171 d (.agg g) z e/\∃ j,Yg 171 d e j/\K (.agg j) e)) [Yn 0] a4
theorem XD(g0:Array Value)(n1:Int):Yz KY #[.agg g0,Yn n1] (QE g0 n1):=fun _ _ h=>Ac (A:=⟨[12],[(12,3)],[]⟩) Tryz.func185 h
def W4(j:YB)(b l:Nat)(n:World)(K:YA):Prop :=
 AS (fun m d c =>
 ∃ a,A2 d 1=Yn a/\(bif decide (a<(if 8<(b:Int)then 8 else(b:Int)))then
 ∃ g,A2 d 0=.int .u64 g/\∃ i,Yx 57 (.slice j b l) (Yn a) i/\∃ e,YD 5 i c (.int .u8 e)/\∃ f,Al (G9 .shl 218 (.tmp 16) (.tmp 18) (.int .u64 (IntKind.u64.wrap e)) (Yn (Yw (8*a)))) (.int .u64 f)/\m [.int .u64 (IntKind.u64.wrap (UH 64 g f)),Yn (Yw (a+1))] c
 else
 ∃ h,A2 d 0=.int .u64 h/\K (.int .u64 h) c)) [.int .u64 0,Yn 0] n
theorem kX(a0:YB)(l0 c0:Nat):Yz AF #[.slice a0 l0 c0] (W4 a0 l0 c0):=fun _ _ h=>Ac (A:=⟨[3,8],[(3,218),(8,3)],[]⟩) Tryz.func186 h
def OJ(h:Int)(l:Value)(a:World)(K:YA):Prop :=
 ∃ b f d,Ru (Instr.loadAt 57 l) a (.slice b f d) a/\∃ c g e,Al (Instr.sliceAt 57 (.slice b f d) (some (Yn h)) (some (Yn (Yw (h+2)))) none) (.slice c g e)/\YC AF #[.slice c g e] a fun j m=>∃ i,j=.int .u64 i/\K (Yn (Yw i)) m
theorem Wj(n0:Int)(v1:Value):Yz DH #[Yn n0,v1] (OJ n0 v1):=fun _ _ h=>Ac (A:=⟨[],[],[]⟩) Tryz.func187 h
def P4(t:YB)(c v:Nat)(u:YB)(d w:Nat)(y:World)(K:YA):Prop :=
 AS (fun x b e =>
 ∃ a,A2 b 2=Yn a/\(bif decide (a<(if (d:Int) > (c:Int)then(d:Int)else(c:Int)))then
 Ad (fun j=>Ad (fun l=>(bif decide (a<(if (d:Int)<(c:Int)then(d:Int)else(c:Int)))then ∃ r,Yx 57 (.slice t c v) (Yn a) r/\∃ n,YD 5 r (Af e) (.int .u8 n)/\∃ s,Yx 57 (.slice u d w) (Yn a) s/\∃ o,YD 5 s (Af e) (.int .u8 o)/\l [.bool (n==o)] (Af e)else l [.bool false] (Af e))) fun a1 h =>
 ∃ f,A2 a1 0=.bool f/\(bif f then
 j [A2 b 0,A2 b 1,.bool f] h
 else
 ∃ g,A2 b 0=Yn g/\Ad (fun m=>(bif decide (g<0)then
 m [Yn a] h
 else
 m [Yn g] h)) fun a2 z =>
 j [A2 a2 0,Yn (Yw (a+1)),.bool f] z)) fun i a0 =>
 x [A2 i 0,A2 i 1,Yn (Yw (a+1)),A2 i 2] a0
 else
 ∃ p,A2 b 0=Yn p/\∃ q,A2 b 1=Yn q/\K (.tuple #[Yn p,Yn q]) e)) [Yn ((-1)),Yn ((-1)),Yn 0,undef] y
theorem Uk(a0:YB)(l0 c0:Nat)(a1:YB)(l1 c1:Nat):Yz IG #[.slice a0 l0 c0,.slice a1 l1 c1] (P4 a0 l0 c0 a1 l1 c1):=fun _ _ h=>Ac (A:=⟨[6,7,14,34],[(6,3),(7,3),(14,3),(34,4)],[]⟩) Tryz.func188 h
def HK(f:Int)(c:Int)(m:Int)(x:Value)(y:Value)(z:Value)(d:World)(K:YA):Prop :=
 (bif f==0 then
 K (.tuple #[]) d
 else
 ∃ r:Value,Ru (Instr.loadAt 250 x) d r d/\TH Yt r #[Yn f,Yn c,Yn m] d fun u g=>u=.tuple #[]/\(bif c==0 then
 K (.tuple #[]) g
 else
 Ad (fun l=>(bif decide (c > 1)then
 l [Yn 64] g
 else
 l [Yn 1] g)) fun a2 h =>
 ∃ p,Ru (Instr.loadAt 50 y) h (.pointer p) h/\YC Dv #[.pointer p,Yn f] h fun v a0=>∃ i e j,v=.slice i e j/\AS (fun t a3 b =>
 ∃ a,A2 a3 0=Yn a/\(bif decide (a<(e:Int))then
 ∃ q,Yx 176 (.slice i e j) (Yn a) q/\∃ n,Yi q b n/\∃ s:Value,Ru (Instr.loadAt 250 z) b s b/\∃ o,A2 a2 0=Yn o/\TH Yt s #[Yn n,Yn (Yw (c-1)),Yn (Yw (m+(Yw (a*o))))] b fun w a1=>w=.tuple #[]/\t [Yn (Yw (a+1))] a1
 else
 K (.tuple #[]) b)) [Yn 0] a0))
theorem Om(n0:Int)(n1:Int)(n2:Int)(v3:Value)(v4:Value)(v5:Value):Yz CO #[Yn n0,Yn n1,Yn n2,v3,v4,v5] (HK n0 n1 n2 v3 v4 v5):=fun _ _ h=>Ac (A:=⟨[9,27],[(9,3),(27,3)],[]⟩) Tryz.func189 h
def Uv(q:Array Value)(b:Int)(t:World)(K:YA):Prop :=
 ∃ c e,Yb 83 (.agg q) t c e/\Ad (fun j=>(bif decide (b<0)then j [.bool true] e else ∃ h,Yg 83 c e h/\YC G1 #[.agg h] e fun r u=>∃ l,r=Yn l/\j [.bool (decide (b >= l))] u)) fun v a =>
 ∃ g,A2 v 0=.bool g/\(bif g then
 K (.tuple #[Yn 0,Yn ((-1))]) a
 else
 (bif decide (b<2)then
 K (.tuple #[Yn 1,Yn ((-1))]) a
 else
 ∃ m,Yi (Addr.add c 0) (Af a) m/\∃ d,Al (G9 .quo 3 (.tmp 21) (.tmp 23) (Yn (Yw (b-2))) (Yn m)) (Yn d)/\∃ n,Yi (Addr.add c 0) (Af a) n/\∃ f,Al (G9 .rem 3 (.tmp 26) (.tmp 28) (Yn (Yw (b-2))) (Yn n)) (Yn f)/\(bif f==0 then
 K (.tuple #[Yn 2,Yn d]) (Af a)
 else
 ∃ i,Yg 83 c (Af a) i/\YC Eu #[.agg i] (Af a) fun s p=>∃ o,s=Yn o/\(bif decide (f<=o)then
 K (.tuple #[Yn 3,Yn d]) p
 else
 K (.tuple #[Yn 4,Yn d]) p))))
theorem cU(g0:Array Value)(n1:Int):Yz KX #[.agg g0,Yn n1] (Uv g0 n1):=fun _ _ h=>Ac (A:=⟨[8],[(8,4)],[]⟩) Tryz.func192 h
def MH(b:YB)(a:World)(K:YA):Prop :=
 (bif Option.isNone b then
 K (.pointer none) a
 else
 ∃ d,(.pointer b:Value)=.pointer (some d)/\∃ c,Yp 129 (Addr.add d 5) a c/\K (.pointer c) a)
theorem Un(p0:YB):Yz Gc #[.pointer p0] (MH p0):=fun _ _ h=>Ac (A:=⟨[],[],[]⟩) Tryz.func193 h
def Jx(j:YB)(i:Array Value)(n:World)(K:YA):Prop :=
 ∃ b c,Yb 254 (.agg i) n b c/\∃ a,Yg 254 b (Af c) a/\YC G3 #[.pointer j] (Af c) fun l h=>∃ d g f,l=.slice d g f/\YD 254 b h (.agg a)/\YC Ck #[.slice d g f,.agg a] h fun m o=>∃ e,m=.bool e/\K (.bool e) o
theorem Q4(p0:YB)(g1:Array Value):Yz FY #[.pointer p0,.agg g1] (Jx p0 g1):=fun _ _ h=>Ac (A:=⟨[],[],[]⟩) Tryz.func194 h
def Jw(b:YB)(b5:Int)(b4:Array Value)(b6:World)(K:YA):Prop :=
 ∃ e c,Yb 254 (.agg b4) b6 e c/\(bif Option.isNone b then
 K (Yn 2) c
 else
 Ad (fun a1=>∃ a6,Yi (Addr.add e 0) c a6/\(bif decide (a6<1)then a1 [.bool true] c else ∃ a7,Yi (Addr.add e 0) c a7/\a1 [.bool (decide (a7 > 3))] c)) fun b7 a =>
 ∃ t,A2 b7 0=.bool t/\(bif t then
 K (Yn 1) a
 else
 ∃ a8,(.pointer b:Value)=.pointer (some a8)/\∃(b2:YB)(a2 b3:Nat),YD 242 (Addr.add a8 0) a (.slice b2 a2 b3)/\(bif decide ((a2:Int) >= 4096)then
 K (Yn 5) a
 else
 ∃ l,(.pointer b:Value)=.pointer (some l)/\∃(f:YB)(h g:Nat),YD 242 (Addr.add l 0) (Af a) (.slice f h g)/\∃ m,(.pointer b:Value)=.pointer (some m)/\∃(o:YB)(i u:Nat),YD 242 (Addr.add m 0) (Af a) (.slice o i u)/\∃ n,(.pointer b:Value)=.pointer (some n)/\∃(p:YB)(j v:Nat),YD 242 (Addr.add n 0) (Af a) (.slice p j v)/\∃ q a3 w,Al (Instr.sliceAt 242 (.slice f h g) none (some (Yn ((i:Int)))) (some (Yn ((j:Int))))) (.slice q a3 w)/\∃ z,Yg 254 e (Af a) z/\∃ a0,Al (Instr.build 331 #[(0,Yn b5),(1,.agg z)]) (.agg a0)/\∃ r a4 x d,Ru (Instr.buildSlice 242 1 #[(0,.agg a0)]) (Af a) (.slice r a4 x) d/\YD 242 (Addr.add l 0) d (.slice f h g)/\YD 242 (Addr.add m 0) d (.slice o i u)/\YD 242 (Addr.add n 0) d (.slice p j v)/\∃ s a5 y b0,Ru (Builtin.append_ #[242,242] 242 #[.slice q a3 w,.slice r a4 x]) d (.slice s a5 y) b0/\∃ a9,(.pointer b:Value)=.pointer (some a9)/\∃ b1,YE 242 (Addr.add a9 0) (.slice s a5 y) b0 b1/\K (Yn 0) b1)))
theorem Q3(p0:YB)(n1:Int)(g2:Array Value):Yz FX #[.pointer p0,Yn n1,.agg g2] (Jw p0 n1 g2):=fun _ _ h=>Ac (A:=⟨[10],[(10,4)],[]⟩) Tryz.func195 h
def KS(h:YB)(e i:Nat)(c:Int)(d:World)(K:YA):Prop :=
 Ad (fun b=>(bif decide (c >= 0)then b [.bool (decide (c<(Yw (8*(e:Int)))))] d else b [.bool false] d)) fun g f =>
 ∃ a,A2 g 0=.bool a/\K (.bool a) f
theorem Qh(a0:YB)(l0 c0:Nat)(n1:Int):Yz KT #[.slice a0 l0 c0,Yn n1] (KS a0 l0 c0 n1):=fun _ _ h=>Ac (A:=⟨[4],[(4,4)],[]⟩) Tryz.func196 h
def MA(d:YB)(b e:Nat)(a:Int)(c:World)(K:YA):Prop :=
 K (Yn (if (Yw (8*(b:Int)))<(if 0 > a then 0 else a)then(Yw (8*(b:Int)))else(if 0 > a then 0 else a))) c
theorem SE(a0:YB)(l0 c0:Nat)(n1:Int):Yz MJ #[.slice a0 l0 c0,Yn n1] (MA a0 l0 c0 n1):=fun _ _ h=>Ac (A:=⟨[],[],[]⟩) Tryz.func197 h
def Ur(h:YB)(e j:Nat)(d:Int)(x:Bool)(a0:World)(K:YA):Prop :=
 YC KT #[.slice h e j,Yn d] a0 fun z u=>∃ i,z=.bool i/\(bif !i then
 K (.tuple #[.slice none 0 0,Yn 3]) u
 else
 ∃ a c b v,Ru (Instr.makeSlice 57 (Yn ((e:Int))) (Yn ((e:Int)))) u (.slice a c b) v/\∃ y g,Ru (Builtin.copy_ #[57,57] 3 #[.slice a c b,.slice h e j]) v (Yn y) g/\∃ q,Yx 57 (.slice a c b) (Yn (Yw (Int.tdiv d 8))) q/\∃ m,YD 5 q (Af g) (.int .u8 m)/\∃ n,Al (G9 .shl 5 (.const (.int .u8 1)) (.tmp 25) (.int .u8 1) (Yn (Int.tmod d 8))) (.int .u8 n)/\∃ r,Yx 57 (.slice a c b) (Yn (Yw (Int.tdiv d 8))) r/\∃ f,YE 5 r (.int .u8 (IntKind.u8.wrap (UG 8 m n))) (Af g) f/\Ad (fun l=>(bif x then
 ∃ s,Yx 57 (.slice a c b) (Yn (Yw (Int.tdiv d 8))) s/\∃ o,YD 5 s (Af f) (.int .u8 o)/\∃ p,Al (G9 .shl 5 (.const (.int .u8 1)) (.tmp 36) (.int .u8 1) (Yn (Int.tmod d 8))) (.int .u8 p)/\∃ t,Yx 57 (.slice a c b) (Yn (Yw (Int.tdiv d 8))) t/\∃ w,YE 5 t (.int .u8 (IntKind.u8.wrap (UH 8 o p))) (Af f) w/\l [] w
 else
 l [] f)) fun a2 a1 =>
 K (.tuple #[.slice a c b,Yn 0]) a1)
theorem cQ(a0:YB)(l0 c0:Nat)(n1:Int)(b2:Bool):Yz P6 #[.slice a0 l0 c0,Yn n1,.bool b2] (Ur a0 l0 c0 n1 b2):=fun _ _ h=>Ac (A:=⟨[],[],[]⟩) Tryz.func198 h
def OI(l:Array Value)(m:World)(K:YA):Prop :=
 ∃ b a,Yb 69 (.agg l) m b a/\Ad (fun c=>∃ i,Yi (Addr.add b 1) a i/\(bif decide (i >= 0)then ∃ j,Yi (Addr.add b 1) a j/\(bif decide (j<=1000)then ∃ e,YD 2 (Addr.add b 2) a (Yn e)/\(bif decide (e >= 0)then ∃ f,YD 2 (Addr.add b 2) a (Yn f)/\(bif decide (f<=1066496)then ∃ g,YD 2 (Addr.add b 3) a (Yn g)/\(bif decide (g >= 1)then ∃ h,YD 2 (Addr.add b 3) a (Yn h)/\c [.bool (decide (h<=4611686018427387904))] a else c [.bool false] a)else c [.bool false] a)else c [.bool false] a)else c [.bool false] a)else c [.bool false] a)) fun o n =>
 ∃ d,A2 o 0=.bool d/\K (.bool d) n
theorem Wi(g0:Array Value):Yz GO #[.agg g0] (OI g0):=fun _ _ h=>Ac (A:=⟨[2],[(2,4)],[]⟩) Tryz.func199 h
def Jd(l:YB)(i:Int)(y:YB)(r z:Nat)(p:YB)(h q:Nat)(a:World)(K:YA):Prop :=
 (bif Option.isNone l then
 K (Yn 2) a
 else
 Ad (fun f=>(bif decide (i<0)then f [.bool true] a else ∃ n,(.pointer l:Value)=.pointer (some n)/\∃ m,Yp 78 (Addr.add n 0) a m/\YC B1 #[.pointer m] a fun s u=>∃ j,s=Yn j/\f [.bool (decide (i >= j))] u)) fun w b =>
 ∃ c,A2 w 0=.bool c/\(bif c then
 K (Yn 3) b
 else
 Ad (fun g=>(bif decide ((h:Int) > 0)then YC DM #[.slice p h q,Yn ((r:Int))] b fun t v=>∃ e,t=.bool e/\g [.bool (!e)] v else g [.bool false] b)) fun x o =>
 ∃ d,A2 x 0=.bool d/\(bif d then
 K (Yn 4) o
 else
 K (Yn 0) o)))
theorem Ql(p0:YB)(n1:Int)(a2:YB)(l2 c2:Nat)(a3:YB)(l3 c3:Nat):Yz DS #[.pointer p0,Yn n1,.slice a2 l2 c2,.slice a3 l3 c3] (Jd p0 n1 a2 l2 c2 a3 l3 c3):=fun _ _ h=>Ac (A:=⟨[12,24],[(12,4),(24,4)],[]⟩) Tryz.func200 h
def Jc(c:YB)(e9:Int)(f4:World)(K:YA):Prop :=
 ∃ a b,Yb 3 (Yn e9) f4 a b/\∃ d4,(.pointer c:Value)=.pointer (some d4)/\∃ c7,YD 294 (Addr.add d4 2) (Af b) (.map c7)/\∃ c9,Yi a (Af b) c9/\∃ r a6,Ru (Instr.lookup 294 (.map c7) (Yn c9) true) (Af b) (.tuple #[.pointer r,.bool a6]) (Af b)/\(bif a6 then
 ∃ h,(.pointer c:Value)=.pointer (some h)/\∃(d:YB)(f e:Nat),YD 176 (Addr.add h 3) (Af (Af b)) (.slice d f e)/\∃ g,YD 3 a (Af (Af b)) (Yn g)/\(YC Ba #[.slice d f e,.func (.func BS) #[] #[.pointer (some a)]] (Af (Af b)) fun f0 e3=>∃ x b8 a7,f0=.slice x b8 a7/\YD 3 a e3 (Yn g)/\∃ z c0 a9 v,Ru (Instr.buildSlice 176 1 #[(0,Yn g)]) e3 (.slice z c0 a9) v/\YD 176 (Addr.add h 3) v (.slice d f e)/\∃ a1 c2 b1 e4,Ru (Builtin.append_ #[176,176] 176 #[.slice x b8 a7,.slice z c0 a9]) v (.slice a1 c2 b1) e4/\∃ d5,(.pointer c:Value)=.pointer (some d5)/\∃ e5,YE 176 (Addr.add d5 3) (.slice a1 c2 b1) e4 e5/\K (.tuple #[.pointer r,Yn 0]) e5)/\(∃ a0 c1 b0 w,Ru (Instr.buildSlice 176 1 #[(0,Yn g)]) (Af (Af b)) (.slice a0 c1 b0) w/\YD 176 (Addr.add h 3) w (.slice d f e)/\YC Ba #[.slice d f e,.func (.func BS) #[] #[.pointer (some a)]] w fun f1 e6=>∃ y b9 a8,f1=.slice y b9 a8/\YD 3 a e6 (Yn g)/\∃ a2 c3 b2 e7,Ru (Builtin.append_ #[176,176] 176 #[.slice y b9 a8,.slice a0 c1 b0]) e6 (.slice a2 c3 b2) e7/\∃ d6,(.pointer c:Value)=.pointer (some d6)/\∃ e8,YE 176 (Addr.add d6 3) (.slice a2 c3 b2) e7 e8/\K (.tuple #[.pointer r,Yn 0]) e8)
 else
 YC Ff #[.pointer c] (Af b) fun f2 i=>∃ p,f2=Yn p/\(bif p != 0 then
 K (.tuple #[.pointer none,Yn p]) i
 else
 ∃ d7,(.pointer c:Value)=.pointer (some d7)/\∃ d3,Yp 78 (Addr.add d7 0) (Af i) d3/\∃ d0,Yi a (Af i) d0/\YC B7 #[.pointer d3,Yn d0] (Af i) fun f3 e0=>∃ a3 c4 b3 q,f3=.tuple #[.slice a3 c4 b3,Yn q]/\(bif q != 0 then
 K (.tuple #[.pointer none,Yn q]) e0
 else
 ∃ b6,Al (Instr.build 310 #[(0,.slice a3 c4 b3)]) (.agg b6)/\∃ b7,Al (Instr.build 312 #[(0,.agg b6)]) (.agg b7)/\∃ s j,Yb 312 (.agg b7) e0 s j/\∃ d8,(.pointer c:Value)=.pointer (some d8)/\∃ c8,YD 294 (Addr.add d8 2) (Af j) (.map c8)/\∃ d1,Yi a (Af j) d1/\∃ l,Gr (Instr.mapUpdate 294 (.map c8) (Yn d1) (.pointer (some s))) (Af j) l/\∃ t,(.pointer c:Value)=.pointer (some t)/\∃(m:YB)(o n:Nat),YD 176 (Addr.add t 3) (Af l) (.slice m o n)/\∃ d2,Yi a (Af l) d2/\∃ a4 c5 b4 u,Ru (Instr.buildSlice 176 1 #[(0,Yn d2)]) (Af l) (.slice a4 c5 b4) u/\YD 176 (Addr.add t 3) u (.slice m o n)/\∃ a5 c6 b5 e1,Ru (Builtin.append_ #[176,176] 176 #[.slice m o n,.slice a4 c5 b4]) u (.slice a5 c6 b5) e1/\∃ d9,(.pointer c:Value)=.pointer (some d9)/\∃ e2,YE 176 (Addr.add d9 3) (.slice a5 c6 b5) e1 e2/\K (.tuple #[.pointer (some s),Yn 0]) e2)))
theorem Qk(p0:YB)(n1:Int):Yz DR #[.pointer p0,Yn n1] (Jc p0 n1):=fun _ _ h=>Ac (A:=⟨[],[],[]⟩) Tryz.func201 h
def Iv(d:YB)(g:Int)(a:World)(K:YA):Prop :=
 (bif Option.isNone d then
 K (.tuple #[.pointer none,Yn 2]) a
 else
 ∃ f,(.pointer d:Value)=.pointer (some f)/\∃ c,YD 294 (Addr.add f 2) a (.map c)/\∃ e b,Ru (Instr.lookup 294 (.map c) (Yn g) true) a (.tuple #[.pointer e,.bool b]) a/\(bif !b then
 K (.tuple #[.pointer none,Yn 20]) a
 else
 K (.tuple #[.pointer e,Yn 0]) a))
theorem Ph(p0:YB)(n1:Int):Yz Fe #[.pointer p0,Yn n1] (Iv p0 n1):=fun _ _ h=>Ac (A:=⟨[],[],[]⟩) Tryz.func202 h
def XJ(i:YB)(e j:Nat)(c:Int)(f:Int)(b:World)(K:YA):Prop :=
 Ad (fun a=>(bif decide (c >= 0)then(bif decide (f >= 0)then(bif decide (c<=(e:Int))then a [.bool (decide (f<=(Yw ((e:Int)-c))))] b else a [.bool false] b)else a [.bool false] b)else a [.bool false] b)) fun h g =>
 ∃ d,A2 h 0=.bool d/\K (.bool d) g
theorem XF(a0:YB)(l0 c0:Nat)(n1:Int)(n2:Int):Yz L0 #[.slice a0 l0 c0,Yn n1,Yn n2] (XJ a0 l0 c0 n1 n2):=fun _ _ h=>Ac (A:=⟨[6],[(6,4)],[]⟩) Tryz.func203 h
def M0(f:World)(K:YA):Prop :=
 ∃ a e,Yq 120 f a e/\∃ c,Al (Instr.build 120 #[(0,.func (.func DV) #[] #[]),(1,.func (.func Ew) #[] #[])]) (.agg c)/\∃ b,YE 120 a (.agg c) e b/\∃ d,Yg 120 a b d/\K (.agg d) b
theorem Ue(w0:World)(K:YA)(h:M0  w0 K):A7 Yt IE #[] w0 K :=
 Ac (A:=⟨[],[],[]⟩) Tryz.func205 h
def Iy(u:Value)(v:Value)(w:World)(K:YA):Prop :=
 AS (fun r z d =>
 ∃ b,A2 z 0=Yn b/\(bif decide (b<8)then
 ∃ g m i,Ru (Instr.loadAt 57 v) d (.slice g m i) d/\YC GM #[.slice g m i,Yn b] d fun s x=>∃ j n,s=.tuple #[.agg j,Yn n]/\∃ c p,Yq 143 x c p/\∃ a,YE 143 c (.agg j) p a/\Ad (fun f=>(bif n==0 then ∃ o,Yi (Addr.add c 0) a o/\(bif o != 0 then ∃ l,Yg 143 c a l/\TH Yt u #[Yn b,.agg l] a fun t y=>∃ h,t=.bool h/\f [.bool (!h)] y else f [.bool false] a)else f [.bool false] a)) fun a0 q =>
 ∃ e,A2 a0 0=.bool e/\(bif e then
 K (.tuple #[]) q
 else
 r [Yn (Yw (b+1)),.bool e] q)
 else
 K (.tuple #[]) d)) [Yn 0,undef] w
theorem Pj(v0:Value)(v1:Value):Yz Ds #[v0,v1] (Iy v0 v1):=fun _ _ h=>Ac (A:=⟨[6,28],[(6,3),(28,4)],[]⟩) Tryz.func207 h
def Ea(e:YB)(h f:Nat)(g:Array Value)(j:World)(K:YA):Prop :=
 ∃ d a,Yb 254 (.agg g) j d a/\∃ b,Yg 254 d a b/\YC F3 #[.slice e h f,.agg b] a fun i l=>∃ c,i=Yn c/\K (.bool (decide (c >= 0))) l
theorem Ip(a0:YB)(l0 c0:Nat)(g1:Array Value):Yz Ck #[.slice a0 l0 c0,.agg g1] (Ea a0 l0 c0 g1):=fun _ _ h=>Ac (A:=⟨[],[],[]⟩) Tryz.func219 h
def K0(v:YB)(a2:World)(K:YA):Prop :=
 YC H1 #[.pointer v] a2 fun a1 a3=>∃ u,a1=Yn u/\AS (fun a0 c b =>
 ∃ a,A2 c 1=Yn a/\(bif decide (a<u)then
 ∃ g s m,A2 c 0=.slice g s m/\∃ w,(.pointer v:Value)=.pointer (some w)/\∃(d:YB)(p i:Nat),YD 242 (Addr.add w 0) b (.slice d p i)/\∃ x,Yx 242 (.slice d p i) (Yn a) x/\∃ o,Yg 254 (Addr.add x 1) b o/\∃ e q j y,Ru (Instr.buildSlice 328 1 #[(0,.agg o)]) b (.slice e q j) y/\∃ f r l z,Ru (Builtin.append_ #[328,328] 328 #[.slice g s m,.slice e q j]) y (.slice f r l) z/\a0 [.slice f r l,Yn (Yw (a+1))] z
 else
 ∃ h t n,A2 c 0=.slice h t n/\K (.slice h t n) b)) [.slice none 0 0,Yn 0] a3
theorem RU(p0:YB):Yz G3 #[.pointer p0] (K0 p0):=fun _ _ h=>Ac (A:=⟨[3,7],[(3,328),(7,3)],[]⟩) Tryz.func220 h
def Gu(b:YB)(d c:Nat)(e:Int)(g:World)(K:YA):Prop :=
 YC Fk #[.slice b d c,Yn e] g fun f h=>∃ a,f=Yn a/\K (.bool (decide (a >= 0))) h
theorem Mm(a0:YB)(l0 c0:Nat)(n1:Int):Yz DM #[.slice a0 l0 c0,Yn n1] (Gu a0 l0 c0 n1):=fun _ _ h=>Ac (A:=⟨[],[],[]⟩) Tryz.func221 h
def F1(b:YB)(a c:Nat)(v:Value)(a3:World)(K:YA):Prop :=
 YC BY #[.slice b a c,v] a3 fun a1 w=>∃ d,a1=Yn d/\(bif d==(-1)then
 K (.slice b a c) w
 else
 AS (fun a0 f j =>
 ∃ e,A2 f 1=Yn e/\(bif decide (e<(a:Int))then
 ∃ t,Yx 176 (.slice b a c) (Yn e) t/\∃ g,Yi t j g/\TH Yt v #[Yn g] j fun a2 x=>∃ n,a2=.bool n/\Ad (fun q=>(bif !n then
 ∃ h,A2 f 0=Yn h/\∃ u,Yx 176 (.slice b a c) (Yn h) u/\∃ y,YE 3 u (Yn g) x y/\q [Yn (Yw (h+1))] y
 else
 q [A2 f 0] x)) fun a5 a4 =>
 a0 [A2 a5 0,Yn (Yw (e+1))] a4
 else
 ∃ i,A2 f 0=Yn i/\∃ l r o,Al (Instr.sliceAt 176 (.slice b a c) (some (Yn i)) none none) (.slice l r o)/\∃ z,Ru (Builtin.clear_ #[176] 0 #[.slice l r o]) j (.tuple #[]) z/\∃ m s p,Al (Instr.sliceAt 176 (.slice b a c) none (some (Yn i)) none) (.slice m s p)/\K (.slice m s p) z)) [Yn d,Yn (Yw (d+1))] w)
theorem Kk(a0:YB)(l0 c0:Nat)(v1:Value):Yz Ba #[.slice a0 l0 c0,v1] (F1 a0 l0 c0 v1):=fun _ _ h=>Ac (A:=⟨[5,6],[(5,3),(6,3)],[]⟩) Tryz.func222 h
def O0(c:Int)(d:Value)(a:World)(K:YA):Prop :=
 ∃ b,Ru (Instr.loadAt 3 d) a (Yn b) a/\K (.bool (c==b)) a
theorem Og(n0:Int)(v1:Value):Yz BS #[Yn n0,v1] (O0 n0 v1):=fun _ _ h=>Ac (A:=⟨[],[],[]⟩) Tryz.func223 h
def Iw(a0:YB)(a3:World)(K:YA):Prop :=
 ∃ b a,Yb 232 (.pointer a0) a3 b a/\∃ r,Yp 232 b (Af a) r/\∃ x,(.pointer r:Value)=.pointer (some x)/\∃(y:YB)(l z:Nat),YD 176 (Addr.add x 3) (Af a) (.slice y l z)/\∃ s,Yp 232 b (Af a) s/\∃ t,(.pointer s:Value)=.pointer (some t)/\∃ m,Yi (Addr.add t 1) (Af a) m/\(bif decide ((l:Int)<m)then
 K (Yn 0) (Af a)
 else
 ∃ o,Yp 232 b (Af a) o/\∃ u,(.pointer o:Value)=.pointer (some u)/\∃(e:YB)(i g:Nat),YD 176 (Addr.add u 3) (Af a) (.slice e i g)/\YC BY #[.slice e i g,.func (.func C4) #[] #[.pointer (some b)]] (Af a) fun a1 c=>∃ d,a1=Yn d/\(bif decide (d<0)then
 K (Yn 5) c
 else
 ∃ p,Yp 232 b (Af c) p/\∃ q,Yp 232 b (Af c) q/\∃ v,(.pointer q:Value)=.pointer (some v)/\∃(f:YB)(j h:Nat),YD 176 (Addr.add v 3) (Af c) (.slice f j h)/\∃ w,Yx 176 (.slice f j h) (Yn d) w/\∃ n,Yi w (Af c) n/\YC FO #[.pointer p,Yn n] (Af c) fun a2 a4=>a2=.tuple #[]/\K (Yn 0) a4))
theorem Pi(p0:YB):Yz Ff #[.pointer p0] (Iw p0):=fun _ _ h=>Ac (A:=⟨[],[],[]⟩) Tryz.func224 h
def Jp(o:Array Value)(p:Array Value)(q:Int)(t:World)(K:YA):Prop :=
 ∃ b n,Yb 83 (.agg o) t b n/\∃ c a,Yb 171 (.agg p) n c a/\∃ h,Yg 83 b a h/\∃ i,Yg 171 c a i/\YC CI #[.agg h,.agg i] a fun s d=>∃ f,s=.bool f/\(bif !f then
 K (Yn ((-1))) d
 else
 ∃ e j g,Al (Instr.sliceAt 168 (.pointer (some (Addr.add c 1))) none none none) (.slice e j g)/\∃ l,Yi (Addr.add b 0) (Af d) l/\YC Ia #[.slice e j g,Yn l,Yn q] (Af d) fun r u=>∃ m,r=Yn m/\K (Yn m) u)
theorem Qw(g0:Array Value)(g1:Array Value)(n2:Int):Yz DV #[.agg g0,.agg g1,Yn n2] (Jp g0 g1 n2):=fun _ _ h=>Ac (A:=⟨[],[],[]⟩) Tryz.func225 h
def Ky(a4:Array Value)(a5:Array Value)(y:Int)(a3:Bool)(a9:World)(K:YA):Prop :=
 ∃ a a0,Yb 83 (.agg a4) a9 a a0/\∃ c a1,Yb 171 (.agg a5) a0 c a1/\∃ d b,Yq 171 a1 d b/\∃ f,Yg 83 a (Af b) f/\∃ g,Yg 171 c (Af b) g/\∃ q,Yg 83 a (Af b) q/\∃ i,Yi (Addr.add a 0) (Af b) i/\YC Eu #[.agg q] (Af b) fun a6 e=>∃ x,a6=Yn x/\YD 83 a e (.agg f)/\YD 171 c e (.agg g)/\YD 3 (Addr.add a 0) e (Yn i)/\YC J4 #[.agg f,.agg g,Yn y,Yn (Yw (1+x)),Yn i] e fun a7 a2=>∃ j,a7=Yn j/\Ad (fun v=>(bif j==0 then
 ∃ o w p,Al (Instr.sliceAt 168 (.pointer (some (Addr.add c 1))) none none none) (.slice o w p)/\YC J5 #[.slice o w p,Yn y,.bool a3] a2 fun a8 b0=>∃ z,a8=Yn z/\v [Yn z] b0
 else
 v [Yn j] a2)) fun b1 l =>
 ∃ h,A2 b1 0=Yn h/\(bif h != 0 then
 ∃ r,Al (Instr.build 171 #[]) (.agg r)/\∃ m,YE 171 d (.agg r) l m/\∃ t,Yg 171 d m t/\K (.tuple #[.agg t,Yn h]) m
 else
 ∃ s,Yg 171 c l s/\∃ n,YE 171 d (.agg s) l n/\∃ u,Yg 171 d n u/\K (.tuple #[.agg u,Yn 0]) n)
theorem RS(g0:Array Value)(g1:Array Value)(n2:Int)(b3:Bool):Yz Ew #[.agg g0,.agg g1,Yn n2,.bool b3] (Ky g0 g1 n2 b3):=fun _ _ h=>Ac (A:=⟨[10],[(10,24)],[]⟩) Tryz.func226 h
def F2(j:YB)(f l:Nat)(m:Array Value)(o:World)(K:YA):Prop :=
 ∃ h i,Yb 254 (.agg m) o h i/\AS (fun n p b =>
 ∃ a,A2 p 0=Yn a/\(bif decide (a<(f:Int))then
 ∃ d,Yg 254 h (Af b) d/\∃ g,Yx 328 (.slice j f l) (Yn a) g/\∃ e,Yg 254 g (Af b) e/\∃ c,Al (G9 .eql 254 (.tmp 11) (.tmp 15) (.agg d) (.agg e)) (.bool c)/\(bif c then
 K (Yn a) (Af b)
 else
 n [Yn (Yw (a+1))] (Af b))
 else
 K (Yn ((-1))) b)) [Yn 0] i
theorem Kl(a0:YB)(l0 c0:Nat)(g1:Array Value):Yz F3 #[.slice a0 l0 c0,.agg g1] (F2 a0 l0 c0 g1):=fun _ _ h=>Ac (A:=⟨[8],[(8,3)],[]⟩) Tryz.func233 h
def LW(c:YB)(a:World)(K:YA):Prop :=
 (bif Option.isNone c then
 K (Yn 0) a
 else
 ∃ d,(.pointer c:Value)=.pointer (some d)/\∃(e:YB)(b f:Nat),YD 242 (Addr.add d 0) a (.slice e b f)/\K (Yn ((b:Int))) a)
theorem TE(p0:YB):Yz H1 #[.pointer p0] (LW p0):=fun _ _ h=>Ac (A:=⟨[],[],[]⟩) Tryz.func234 h
def IA(f:YB)(c g:Nat)(i:Int)(j:World)(K:YA):Prop :=
 AS (fun h l b =>
 ∃ a,A2 l 0=Yn a/\(bif decide (a<(c:Int))then
 ∃ e,Yx 176 (.slice f c g) (Yn a) e/\∃ d,Yi e b d/\(bif i==d then
 K (Yn a) b
 else
 h [Yn (Yw (a+1))] b)
 else
 K (Yn ((-1))) b)) [Yn 0] j
theorem Py(a0:YB)(l0 c0:Nat)(n1:Int):Yz Fk #[.slice a0 l0 c0,Yn n1] (IA a0 l0 c0 n1):=fun _ _ h=>Ac (A:=⟨[8],[(8,3)],[]⟩) Tryz.func235 h
def FM(h:YB)(d i:Nat)(m:Value)(n:World)(K:YA):Prop :=
 AS (fun j o b =>
 ∃ a,A2 o 0=Yn a/\(bif decide (a<(d:Int))then
 ∃ f,Yx 176 (.slice h d i) (Yn a) f/\∃ e,Yi f b e/\TH Yt m #[Yn e] b fun l g=>∃ c,l=.bool c/\(bif c then
 K (Yn a) g
 else
 j [Yn (Yw (a+1))] g)
 else
 K (Yn ((-1))) b)) [Yn 0] n
theorem KR(a0:YB)(l0 c0:Nat)(v1:Value):Yz BY #[.slice a0 l0 c0,v1] (FM a0 l0 c0 v1):=fun _ _ h=>Ac (A:=⟨[8],[(8,3)],[]⟩) Tryz.func236 h
def GR(f:Int)(n:Value)(a:World)(K:YA):Prop :=
 Ad (fun d=>∃ i,Ru (Instr.loadAt 232 n) a (.pointer i) a/\∃ m,(.pointer i:Value)=.pointer (some m)/\∃ e,YD 294 (Addr.add m 2) a (.map e)/\∃ j,Ru (Instr.lookup 294 (.map e) (Yn f) false) a (.pointer j) a/\∃ l,(.pointer j:Value)=.pointer (some l)/\∃ g,Yi (Addr.add l 1) a g/\(bif g==0 then ∃ h,Ru (Instr.loadAt 232 n) a (.pointer h) a/\YC E7 #[.pointer h,Yn f] a fun o p=>∃ b,o=.bool b/\d [.bool (!b)] p else d [.bool false] a)) fun r q =>
 ∃ c,A2 r 0=.bool c/\K (.bool c) q
theorem Ms(n0:Int)(v1:Value):Yz C4 #[Yn n0,v1] (GR n0 v1):=fun _ _ h=>Ac (A:=⟨[3],[(3,4)],[]⟩) Tryz.func237 h
def HH(l:YB)(i:Int)(r:World)(K:YA):Prop :=
 ∃ o,(.pointer l:Value)=.pointer (some o)/\∃ m,Yp 78 (Addr.add o 0) r m/\YC B7 #[.pointer m,Yn i] r fun u a=>∃ b f d s,u=.tuple #[.slice b f d,Yn s]/\∃ p,(.pointer l:Value)=.pointer (some p)/\∃ h,YD 294 (Addr.add p 2) a (.map h)/\∃ n,Ru (Instr.lookup 294 (.map h) (Yn i) false) a (.pointer n) a/\∃ q,(.pointer n:Value)=.pointer (some q)/\∃(c:YB)(g e:Nat),YD 57 (Addr.add (Addr.add q 0) 0) a (.slice c g e)/\YC IG #[.slice b f d,.slice c g e] a fun v w=>∃ j t,v=.tuple #[Yn j,Yn t]/\K (.bool (decide (j >= 0))) w
theorem Oh(p0:YB)(n1:Int):Yz E7 #[.pointer p0,Yn n1] (HH p0 n1):=fun _ _ h=>Ac (A:=⟨[],[],[]⟩) Tryz.func238 h
def Je(b:YB)(r:Int)(t:World)(K:YA):Prop :=
 ∃ c a,Yb 3 (Yn r) t c a/\∃ p,(.pointer b:Value)=.pointer (some p)/\∃ l,YD 294 (Addr.add p 2) (Af a) (.map l)/\∃ m,Yi c (Af a) m/\∃ d,Ru (Builtin.delete_ #[294,334] 0 #[.map l,Yn m]) (Af a) (.tuple #[]) d/\∃ n,(.pointer b:Value)=.pointer (some n)/\∃(e:YB)(i g:Nat),YD 176 (Addr.add n 3) d (.slice e i g)/\YC Ba #[.slice e i g,.func (.func CM) #[] #[.pointer (some c)]] d fun s u=>∃ f j h,s=.slice f j h/\∃ o,(.pointer b:Value)=.pointer (some o)/\∃ q,YE 176 (Addr.add o 3) (.slice f j h) u q/\K (.tuple #[]) q
theorem Qm(p0:YB)(n1:Int):Yz FO #[.pointer p0,Yn n1] (Je p0 n1):=fun _ _ h=>Ac (A:=⟨[],[],[]⟩) Tryz.func239 h
def O1(c:Int)(d:Value)(a:World)(K:YA):Prop :=
 ∃ b,Ru (Instr.loadAt 3 d) a (Yn b) a/\K (.bool (c==b)) a
theorem Oi(n0:Int)(v1:Value):Yz CM #[Yn n0,v1] (O1 n0 v1):=fun _ _ h=>Ac (A:=⟨[],[],[]⟩) Tryz.func241 h
structure Wy where
 d:Int
 a:Int
 b:Int
 c:Int
 deriving DecidableEq
def Wy.l(x:Wy):List Value:=[Yn x.d,Yn x.a,Yn x.b,Yn x.c]
def ofS(n:Int):Wy×Int :=
 if n<0\/n >= 4166 then(⟨0,0,0,0⟩,28)else if n<6 then(⟨0,n,0,0⟩,0)else if n<70 then(⟨1,0,n-6,0⟩,0)else(⟨2,0,(n-70) / 64,(n-70) % 64⟩,0)
theorem lL(w:World):(Instr.alloc 200 true (.tuple #[])).run Yt w=.ok (Yo w.heap.size) (w.alloc (.cells ⟨(Wy.l ⟨0,0,0,0⟩)⟩ 200)):=by kernel_rfl
theorem fL(x:Wy):∀ v∈x.l,v.oneCell'=true:=by
 intro v hv;simp[Wy.l]at hv;rcases hv with rfl | rfl | rfl | rfl<;>rfl
theorem yN(T:TypeId)(hT:D5 Yt T=some 4){t:TypeId}(x z:Wy)(e:Int)(s:Sem Value)(hs:Al s (.agg ⟨x.l⟩)){w:World}{K:Value->World->Prop}(hk:K (.tuple #[.agg ⟨x.l⟩,Yn e]) (w.alloc (.cells ⟨x.l⟩ t))) :
  ∃ g:Array Value,Al s (.agg g)/\∃ w3:World,Gr (Instr.storeAt T (Yo w.heap.size) (.agg g)) (w.alloc (.cells ⟨z.l⟩ t)) w3 /\
   ∃ gR:Array Value,Ru (Instr.loadAt T (Yo w.heap.size)) w3 (.agg gR) w3/\K (.tuple #[.agg gR,Yn e]) w3 :=
 ⟨⟨x.l⟩,hs,_,NY hT rfl rfl (fL x),_,aQ hT rfl,hk⟩
theorem AeX{n:Int}(h0:-9223372036854775808<=n)(h1:n<=9223372036854775807){w:World}{K:Value->World->Prop}
  (h:∀ w',Ab No w w'->K (.tuple #[.agg ⟨(ofS n).1.l⟩,Yn (ofS n).2]) w'):A7 Yt MS #[Yn n] w K:=by
 apply pS;unfold Zp;refine⟨_,_,lL w,Ad.or ?_⟩;refine⟨_,rfl,Aa (fun hb=>?_) (fun hb=>?_)⟩
 ·have hc:n<0\/n >= 4166:=by simpa using hb
  refine yN _ (by kernel_rfl) ⟨0,0,0,0⟩ _ 28 _ (fun _=>by kernel_rfl) ?_
  have:=h _ ((Ab.refl No w).alloc (.cells ⟨Wy.l ⟨0,0,0,0⟩⟩ 200))
  simpa [ofS,if_pos hc] using this
 ·have hc:¬ (n<0\/n >= 4166):=by simpa using hb
  refine Aa (fun hb=>?_) (fun hb=>?_)
  ·have h6:n<6:=by simpa using hb
   refine yN _ (by kernel_rfl) ⟨0,n,0,0⟩ _ 0 _ (fun _=>by kernel_rfl) ?_
   have:=h _ ((Ab.refl No w).alloc (.cells ⟨Wy.l ⟨0,n,0,0⟩⟩ 200))
   simpa [ofS,if_neg hc,if_pos h6] using this
  ·have h6:¬ n<6:=by simpa using hb
   rw[Ag (x:=n-6) (by omega) (by omega)];refine Aa (fun hb=>?_) (fun hb=>?_)
   ·have h70:n<70:=by have:=Ld hb;omega
    refine yN _ (by kernel_rfl) ⟨1,0,n-6,0⟩ _ 0 _ (fun _=>by kernel_rfl) ?_
    have:=h _ ((Ab.refl No w).alloc (.cells ⟨Wy.l ⟨1,0,n-6,0⟩⟩ 200))
    simpa [ofS,if_neg hc,if_neg h6,if_pos h70] using this
   ·have h70:¬ n<70:=by have:=Lc hb;omega
    rw[Ag (x:=n-6-64) (by omega) (by omega),show n-6-64=n-70 by omega,cF (by omega),pJ (by omega),
     Ag (x:=(n-70) / 64) (by omega) (by omega)]
    refine yN _ (by kernel_rfl) ⟨2,0,(n-70) / 64,(n-70) % 64⟩ _ 0 _ (fun _=>by kernel_rfl) ?_
    have:=h _ ((Ab.refl No w).alloc (.cells ⟨Wy.l ⟨2,0,(n-70) / 64,(n-70) % 64⟩⟩ 200))
    simpa [ofS,if_neg hc,if_neg h6,if_neg h70] using this
end Go.Z
end
section
open Go Go.Den Go.Proofs
namespace Go.Den
def u8(x:UInt8):Value:=.int .u8 (x.toNat:Int)
def A6(xs:List UInt8):List Value:=xs.map u8
@[simp] theorem Ai (xs:List UInt8):(A6 xs).length=xs.length:=by simp[A6]
theorem vL(q:Nat):(((UInt8.ofNat (q % 256)).toNat:Nat):Int)=(q:Int) % 256:=by
 have:(UInt8.ofNat (q % 256)).toNat=q % 256:=by rw[Lp2];omega
 rw[this];omega
theorem CR{xs:List UInt8}{i:Nat}(hi:i<xs.length):(A6 xs)[i]?=some (.int .u8 (xs[i].toNat:Int)):=by simp[A6,hi,u8]
def D6:List UInt8->Nat
 | []=>0
 | x::r=>x.toNat+256*D6 r
theorem Yl:∀ xs:List UInt8,D6 xs<256 ^ xs.length
 | []=>by simp[D6]
 | x::r=>by
  have:=Yl r
  have hx:=x.toNat_lt;simp only[D6,pH,Lb4];omega
theorem Vk:∀(xs ys:List UInt8),D6 (xs++ys)=D6 xs+256 ^ xs.length*D6 ys
 | [],ys=>by simp[D6]
 | x::r,ys=>by
  simp only[Lv4,D6,Vk r ys,pH,Lb4];rw[Nat.mul_add,<- Nat.mul_assoc,Lc5 256 (256 ^ r.length),wM]
theorem aO(xs:List UInt8)(i:Nat)(hi:i<xs.length):D6 (xs.take (i+1))=D6 (xs.take i)+256 ^ i*xs[i].toNat:=by
 rw[Lx hi,Vk];simp[D6,Lw2 (Nat.le_of_lt hi)]
theorem AcY{a x i:Nat}(ha:a<256 ^ i):a ||| (x*256 ^ i)=a+256 ^ i*x:=by
 have e:(256:Nat) ^ i=2 ^ (8*i):=by rw[Nat.pow_mul]
 rw[e]at ha |-;rw[Nat.or_comm,Lc5 x,<- Nat.two_pow_add_eq_or_of_lt ha,Nat.add_comm]
theorem zW{P:Program}{T:TypeId}{x y:Operand}{a b:Int}(hb:0<=b)(w:World):(G9 .shl T x y (.int .u64 a) (Yn b)).run P w=.ok (.int .u64 (IntKind.u64.wrap (a*2 ^ (min b.toNat 64)))) w:=by
 rw[ER (fun w=>KD _ _ _ _ _ _ _ _ w)];have:¬ b<0:=by omega
 simp[binOp,Op.shift,this,IntKind.bits]
def jP:List Value->Int
 | [.int _ n]=>n
 | [_,.int _ n]=>n
 | [_,_,.int _ n]=>n
 | [_,_,_,.int _ n]=>n
 | _=>0
def BG(w:World)(a:Option Addr)(cs:List Value):Prop:=cs=[]\/∃ b o,a=some ⟨b,o,none⟩/\At w b o cs
def AbX(w:World)(a:Option Addr)(cs:List Value):Prop:=cs=[]\/∃ b o,a=some ⟨b,o,none⟩/\Av w b o cs
end Go.Den
namespace Go.Z
theorem AcZ{a b:Nat}(ha:a<18446744073709551616)(hb:b<18446744073709551616):UH 64 (a:Int) (b:Int)=((a ||| b:Nat):Int):=by
 show(((_:BitVec 64).toNat:Nat):Int)=_;rw[iD,iD,BitVec.toNat_or,iE,iE,hY ha,hY hb]
theorem nY{i:Nat}(h:i<8):256 ^ (i+1)<=18446744073709551616:=by
 have:256 ^ (i+1)<=256 ^ 8:=Lx2 (by omega) (by omega);simpa using this
theorem Zq{a:Option Addr}{l c:Nat}{xs:List UInt8}{w:World}{K:Value->World->Prop}(hl:xs.length=l)(hr:BG w a (A6 xs))(h63:l<=9223372036854775807)
  (h:K (.int .u64 (D6 (xs.take 8):Int)) w):A7 Yt AF #[.slice a l c] w K:=by
 apply kX;unfold W4;refine⟨fun x w1=>w1=w/\∃ i:Nat,i<=8/\i<=l/\x=[.int .u64 (D6 (xs.take i):Int),Yn i],fun x _=>(8-jP x).toNat,⟨rfl,0,by omega,by omega,rfl⟩,?_⟩;rintro x w1 ⟨rfl,i,hi8,hil,rfl⟩;refine⟨_,rfl,Aa (fun hb=>?_) (fun hb=>?_)⟩
 ·have hb:=Ld hb;have hi:i<8/\i<l:=by split at hb<;>omega
  have hix:i<xs.length:=by omega
  obtain⟨b,o,rfl,hat⟩:=hr.resolve_left (by intro e;have:=QJ List.length e;simp at this;rw[this]at hix;simp at hix);have hx:=xs[i].toNat_lt;have hlt:D6 (xs.take i)<256 ^ i:=by have:=Yl (xs.take i);rwa [List.length_take_of_le (by omega)]at this
  have hp:=nY hi.1;have hpi:256 ^ i*xs[i].toNat+256 ^ i<=256 ^ (i+1):=by rw[Lb4,<- Nat.mul_succ];exact Nat.mul_le_mul_left _ (by omega)
  refine⟨_,rfl,_,A8 (k:=1) (by kernel_rfl) (by omega) (by omega),?_⟩;rw[Ae,show(i:Int).toNat*1=i by omega];refine⟨_,hat.load (by kernel_rfl) (CR hix),?_⟩;rw[RG (by omega) (by omega),Ag (x:=8*(i:Int)) (by omega) (by omega)];refine⟨_,zW (by omega),?_⟩;have e1:((xs[i].toNat:Int)*2 ^ (min (8*(i:Int)).toNat 64))=((xs[i].toNat*256 ^ i:Nat):Int):=by
   rw[show min (8*(i:Int)).toNat 64=8*i by omega];have:(256:Nat) ^ i=2 ^ (8*i):=by rw[Nat.pow_mul]
   rw[this];push_cast;rfl
  have hmul:xs[i].toNat*256 ^ i=256 ^ i*xs[i].toNat:=Lc5 _ _
  rw[e1,RG (x:=((xs[i].toNat*256 ^ i:Nat):Int)) (by omega) (by omega),AcZ (by omega) (by omega),AcY hlt,<- aO xs i hix,
   RG (x:=((D6 (xs.take (i+1)):Nat):Int)) (by omega) (by rw[aO xs i hix];omega),Ag (x:=(i:Int)+1) (by omega) (by omega)]
  exact⟨⟨rfl,i+1,by omega,by omega,rfl⟩,by simp[jP];omega⟩
 ·have hb:=Lc hb;have hi:i=8\/i=l:=by split at hb<;>omega
  refine⟨_,rfl,?_⟩;have e:xs.take i=xs.take 8:=by
   rcases hi with rfl|rfl
   ·rfl
   ·rw[Lf (by omega),Lf (by omega)]
  rw[e];exact h
def AG:Nat->Nat->List UInt8
 | 0,_=>[]
 | k+1,n=>UInt8.ofNat (n % 256)::AG k (n / 256)
@[simp] theorem AL:∀ k n,(AG k n).length=k
 | 0,_=>rfl
 | k+1,n=>by simp[AG,AL k]
theorem X3:∀(k n:Nat),AG (k+1) n=AG k n++[UInt8.ofNat (n / 256 ^ k % 256)]
 | 0,n=>by simp[AG]
 | k+1,n=>by
  rw[AG,X3 k (n / 256)];simp only[AG,Lv4];rw[Nat.div_div_eq_div_mul,Lb4,Lc5 256]
theorem AeY{b o i l c:Nat}{cs:List Value}{n:Nat}{w:World}{K:Value->World->Prop}(hat:Av w b o cs)(hil:i+l<=cs.length)(h63:l<=9223372036854775807)
  (h:∀ w',Ab (fun x=>x=b) w w'->Av w' b o (A9 cs i (A6 (AG l n)))->w'.heap.size=w.heap.size->K (.tuple #[]) w'):A7 Yt BA #[.slice (some ⟨b,o+i,none⟩) l c,.int .u64 n] w K:=by
 apply kZ;unfold W6
 refine⟨fun x w1=>∃ j:Nat,j<=l/\x=[.int .u64 ((n / 256 ^ j:Nat):Int),Yn j]/\Av w1 b o (A9 cs i (A6 (AG j n)))/\Ab (fun x=>x=b) w w1/\w1.heap.size=w.heap.size,
  fun x _=>(l-jP x).toNat,⟨0,by omega,by simp,by simpa [AG,A6,A9] using hat,Ab.refl _ _,rfl⟩,?_⟩
 rintro x w1 ⟨j,hjl,rfl,hat1,hm,hsz⟩;refine⟨_,rfl,Aa (fun hb=>?_) (fun hb=>?_)⟩
 ·have hb:=Ld hb;have hj:j<l:=by omega
  refine⟨_,rfl,_,A8 (k:=1) (by kernel_rfl) (by omega) (by omega),?_⟩;rw[Ae,show(j:Int).toNat*1=j by omega,wM];obtain⟨w2,h1,h2,h3,h4⟩:=hat1.store (P:=Yt) (T:=5) (i:=i+j) (v:=.int .u8 (IntKind.u8.wrap ((n / 256 ^ j:Nat):Int))) (by kernel_rfl) (by rw[Bp (by simp;omega)];omega) rfl;refine⟨w2,h1,?_⟩;rw[Ag (x:=(j:Int)+1) (by omega) (by omega)];have e1:Int.fdiv ((n / 256 ^ j:Nat):Int) 256=((n / 256 ^ (j+1):Nat):Int):=by
   rw[Lb4,<- Nat.div_div_eq_div_mul,Int.fdiv_eq_ediv_of_nonneg _ (by omega)];exact(Int.natCast_ediv _ _).symm
  rw[e1];refine⟨⟨j+1,by omega,by simp,?_,hm.trans h3 (fun _ _ h=>h),by omega⟩,by simp[jP];omega⟩;have ev:(Value.int .u8 (IntKind.u8.wrap ((n / 256 ^ j:Nat):Int)))=u8 (UInt8.ofNat (n / 256 ^ j % 256)):=by
   rw[NC];unfold u8;rw[vL]
  have e2:(A9 cs i (A6 (AG j n))).set (i+j) (u8 (UInt8.ofNat (n / 256 ^ j % 256)))=A9 cs i (A6 (AG (j+1) n)):=by
   have:=bR (cs:=cs) (vs:=A6 (AG j n)) (i:=i) (v:=u8 (UInt8.ofNat (n / 256 ^ j % 256))) (by simp;omega)
   rw[Ai,AL]at this;rw[this,X3];simp[A6]
  rw[ev,e2]at h2;exact h2
 ·have hb:=Lc hb;have hj:j=l:=by omega
  subst hj;exact h w1 hm hat1 hsz
end Go.Z
end
section
open Go Go.Den Go.Proofs
namespace Go.Den
def I(n:Int):Value:=Yn n
def iL(ns:List Int):List Value:=ns.map I
@[simp] theorem Bu (ns:List Int):(iL ns).length=ns.length:=by simp[iL]
theorem Kb{ns:List Int}{i:Nat}(hi:i<ns.length):(iL ns)[i]?=some (Yn ns[i]):=by simp[iL,hi,I]
theorem Cu(xs:List UInt8):∀ v∈A6 xs,v.oneCell'=true:=by
 intro v hv;simp[A6]at hv;obtain⟨x,_,rfl⟩:=hv;rfl
theorem HD(xs:List Int):∀ v∈iL xs,v.oneCell'=true:=by
 intro v hv;simp[iL]at hv;obtain⟨x,_,rfl⟩:=hv;rfl
theorem kR(xs:List UInt8)(i m:Nat):((A6 xs).drop i).take m=A6 ((xs.drop i).take m):=by simp[A6,List.map_drop,Lh4]
theorem BG.sub{w:World}{a:Option Addr}{c i m:Nat}{xs:List UInt8}(h:BG w a (A6 xs))(him:i+m<=xs.length)(hc:xs.length<=c)(hm:0<m):BG w (CL a c i 1) (A6 ((xs.drop i).take m)):=by
 rcases h with h|⟨b,o,rfl,hat⟩
 ·have:=QJ List.length h;simp at this;rw[this]at him;simp at him;omega
 ·refine .inr ⟨b,o+i,?_,?_⟩
  ·unfold CL;rw[if_neg (by omega)];simp[Ae]
  ·rw[<- kR];exact hat.sub (by simpa using him)
theorem LM(xs ys:List UInt8)(i:Nat):A9 (A6 xs) i (A6 ys)=A6 (xs.take i++ys++xs.drop (i+ys.length)):=by
 simp[A9,A6,Lh4,List.map_drop]
end Go.Den
namespace Go.Z
theorem Fq:EG Yt 176 1 (Yn 0) 8:=by unfold EG;kernel_rfl
theorem CF:EG Yt 57 1 (.int .u8 0) 1:=by unfold EG;kernel_rfl
end Go.Z
end
section
open Go Go.Den
namespace Go.Den
section
variable{P:Program}{w:World}
theorem Ab.grown{b:World}{row:Option Nat}(h:w.grownBy b row):Ab (fun x=>row=some x) w b :=
 ⟨h.tape,h.os,h.output,h.size,fun k hk hn=>h.block k hk (fun e=>hn e.symm)⟩
def Ow(P:Program)(w:World)(base:Nat)(T:TypeId)(k:Nat)(a:Option Addr)(l c:Nat)(xs:List Value):Prop :=
 ∃ e,P.underlying T=some (.slice e)/\w.ownsRow base e k (.slice a l c) l xs
theorem Ow.len{base k l c:Nat}{T:TypeId}{a:Option Addr}{xs:List Value}(h:Ow P w base T k a l c xs):xs.length=l*k:=by obtain⟨e,_,h⟩:=h;exact h.1
theorem Ow.nil{base k bytes:Nat}{T:TypeId}{z:Value}(hT:EG P T k z bytes):Ow P w base T k none 0 0 []:=by
 obtain⟨e,i,zv,he,_⟩:=hT.is;exact⟨e,he,World.ownsRow_nil w base e k⟩
theorem Ow.base{base k l c:Nat}{T:TypeId}{a:Option Addr}{xs:List Value}(h:Ow P w base T k a l c xs){q:Addr}(hq:a=some q):base<=q.block/\q.block<w.heap.size:=by
 obtain⟨e,_,h⟩:=h;exact h.lt q.block (by rw[hq];rfl)
theorem Ow.zero{base k l c:Nat}{T:TypeId}{xs:List Value}(h:Ow P w base T k none l c xs):l=0/\c=0:=by
 obtain⟨e,_,h⟩:=h;rcases h.2 with ⟨h1,h2⟩|⟨g,cap,H5,h1,_⟩
 ·simp at h1;exact⟨h2,h1.2⟩
 ·simp at h1
theorem Ow.cap{base k l c:Nat}{T:TypeId}{a:Option Addr}{xs:List Value}(h:Ow P w base T k a l c xs):l<=c/\c<=maxLen:=by
 obtain⟨e,_,h⟩:=h;rcases h.2 with ⟨h1,h2⟩|⟨g,cap,H5,h1,_,_,h3,h4,_⟩
 ·simp at h1;omega
 ·simp at h1;obtain⟨_,rfl⟩:=h1;exact⟨h3,h4⟩
theorem Ow.keep{base k l c:Nat}{T:TypeId}{a:Option Addr}{xs:List Value}{S:Nat->Prop}{w':World}(h:Ow P w base T k a l c xs)(m:Ab S w w')(hs:∀ q,a=some q->¬ S q.block):Ow P w' base T k a l c xs:=by
 obtain⟨e,he,h1,h2⟩:=h;refine⟨e,he,h1,?_⟩;rcases h2 with hn|⟨g,cap,H5,hv,hb,hg,rest⟩
 ·exact .inl hn
 ·refine .inr ⟨g,cap,H5,hv,hb,?_,rest⟩;simp at hv;exact m.keep hg (hs _ hv.1)
theorem Ow.mono{base base' k l c:Nat}{T:TypeId}{a:Option Addr}{xs:List Value}(h:Ow P w base T k a l c xs)(hb:base'<=base):Ow P w base' T k a l c xs:=by
 obtain⟨e,he,h1,h2⟩:=h;refine⟨e,he,h1,?_⟩;rcases h2 with hn|⟨g,cap,H5,hv,hb',rest⟩
 ·exact .inl hn
 ·exact .inr ⟨g,cap,H5,hv,by omega,rest⟩
theorem Ow.rowU{base k l c:Nat}{T:TypeId}{a:Option Addr}{xs:List Value}(h:Ow P w base T k a l c xs):AbX w a xs:=by
 obtain⟨e,he,h1,h2⟩:=h;rcases h2 with ⟨hn,hz⟩|⟨g,cap,H5,hv,hb,hg,hle,_,hsz,ht⟩
 ·left;exact iA (by rw[h1,hz];omega)
 ·right;simp at hv;have hm:l*k<=cap*k:=pP _ hle;refine⟨g,0,hv.1,H5.toList,e,(0,0),hg,?_,?_,fun j _ _=>by simp⟩
  ·rw[h1];simp[hsz];exact hm
  ·rw[h1];simpa using ht
theorem AbX.row{a:Option Addr}{xs:List Value}(h:AbX w a xs):BG w a xs:=by
 rcases h with h|⟨b,o,e,h⟩
 ·exact .inl h
 ·exact .inr ⟨b,o,e,h.at⟩
theorem BG.keep{a:Option Addr}{xs:List Value}{S:Nat->Prop}{w':World}(h:BG w a xs)(m:Ab S w w')(hs:∀ q,a=some q->¬ S q.block):BG w' a xs:=by
 rcases h with h|⟨b,o,e,h⟩
 ·exact .inl h
 ·exact .inr ⟨b,o,e,h.keep m (hs _ e)⟩
theorem BG.nos{a:Option Addr}{xs:List Value}{w':World}(h:BG w a xs)(m:Ab No w w'):BG w' a xs:=h.keep m fun _ _=>id
theorem Ow.nos{base k l c:Nat}{T:TypeId}{a:Option Addr}{xs:List Value}{w':World}(h:Ow P w base T k a l c xs)(m:Ab No w w'):Ow P w' base T k a l c xs:=h.keep m fun _ _=>id
theorem At.cell{b o j:Nat}{xs:List Value}{v:Value}(h:At w b o xs)(hj:xs[j]?=some v):w.cell? (Addr.add ⟨b,o,none⟩ j)=some v:=by
 obtain⟨l,t,fz,h1,h2,h3⟩:=h;have hjn:j<xs.length:=(Lq.1 hj).1;rw[Ae,QU h1,Kh h3 j hjn,<- hj];simp[hjn]
theorem Ow.append{base k bytes l c m c2:Nat}{T ty:TypeId}{z:Value}{a a2:Option Addr}{xs ys:List Value}(hT:EG P T k z bytes)(hk:0<k)(h:Ow P w base T k a l c xs)
  (hr:BG w a2 ys) (hl:ys.length=m*k) (h0:a2=none->m=0/\c2=0) (h1:∀ v∈ys,v.oneCell'=true) (h63:(l+m)*bytes<=140737488355328) (hb:0<bytes) (hbase:base<=w.heap.size) :
  ∃ a' c' w',(Builtin.append_ #[T,T] ty #[.slice a l c,.slice a2 m c2]).run P w=.ok (.slice a' (l+m) c') w'/\Ow P w' base T k a' (l+m) c' (xs++ys)/\Ab (fun x=>base<=x) w w':=by
 obtain⟨e,i,zv,he,hi,hsz,hz,hzc,hby⟩:=hT.is;obtain⟨e',he',how⟩:=h;have:e'=e:=by rw[he]at he';simpa using he'.symm
 subst this;have h63':l+m<=maxLen:=by
  have:l+m<=(l+m)*bytes:=Lh2 _ hb;simp[maxLen];omega
 cases a2 with
 | none =>
  obtain⟨rfl,rfl⟩:=h0 rfl;have hy:ys=[]:=iA (by omega);subst hy;refine⟨a,c,w,?_,⟨e',he,by simpa using how⟩,Ab.refl _ _⟩;exact run_append_owned_none w base T ty e' i k he hi _ l xs how
 | some ad =>
  have hcell:∀ j u,ys[j]?=some u->w.cell? (ad.add j)=some u:=by
   intro j u hj;rcases hr with hr | ⟨b,o,e,hat⟩
   ·subst hr;simp at hj
   ·simp at e;subst e;exact hat.cell hj
  obtain⟨v',w',hrun,how',hgr,_⟩:=run_append_own w base T ty e' i zv k bytes he hi hz hsz hby (by rw[hzc];simp) hk (.slice a l c) l xs how ad m c2 ys hl hcell h1 h63' h63 hbase;have hv:∃ a' c',v'=.slice a' (l+m) c':=by
   rcases how'.2 with ⟨hn,hz⟩|⟨g,cap,H5,hv,_⟩
   ·exact⟨none,0,by rw[hn,hz]⟩
   ·exact⟨_,cap,hv⟩
  obtain⟨a',c',rfl⟩:=hv;refine⟨a',c',w',hrun,⟨e',he,how'⟩,(Ab.grown hgr).mono fun x hx e=>?_⟩;exact(how.lt x e).1
theorem Ow.append'{base k bytes l c m c2:Nat}{T ty:TypeId}{z:Value}{a a2:Option Addr}{xs ys:List Value}(hT:EG P T k z bytes)(hk:0<k)(h:Ow P w base T k a l c xs)
  (hr:BG w a2 ys) (hl:ys.length=m*k) (h0:a2≠none) (h1:∀ v∈ys,v.oneCell'=true) (h63:(l+m)*bytes<=140737488355328) (hb:0<bytes) (hbase:base<=w.heap.size) :
  ∃ a' c' w',(Builtin.append_ #[T,T] ty #[.slice a l c,.slice a2 m c2]).run P w=.ok (.slice a' (l+m) c') w'/\Ow P w' base T k a' (l+m) c' (xs++ys)/\Ab (fun x=>∃ q,a=some q/\x=q.block) w w':=by
 obtain⟨e,i,zv,he,hi,hsz,hz,hzc,hby⟩:=hT.is;obtain⟨e',he',how⟩:=h;have:e'=e:=by rw[he]at he';simpa using he'.symm
 subst this;have h63':l+m<=maxLen:=by
  have:l+m<=(l+m)*bytes:=Lh2 _ hb;simp[maxLen];omega
 cases a2 with
 | none=>exact absurd rfl h0
 | some ad =>
  have hcell:∀ j u,ys[j]?=some u->w.cell? (ad.add j)=some u:=by
   intro j u hj;rcases hr with hr | ⟨b,o,e,hat⟩
   ·subst hr;simp at hj
   ·simp at e;subst e;exact hat.cell hj
  obtain⟨v',w',hrun,how',hgr,_⟩:=run_append_own w base T ty e' i zv k bytes he hi hz hsz hby (by rw[hzc];simp) hk (.slice a l c) l xs how ad m c2 ys hl hcell h1 h63' h63 hbase;have hv:∃ a' c',v'=.slice a' (l+m) c':=by
   rcases how'.2 with ⟨hn,hz⟩|⟨g,cap,H5,hv,_⟩
   ·exact⟨none,0,by rw[hn,hz]⟩
   ·exact⟨_,cap,hv⟩
  obtain⟨a',c',rfl⟩:=hv;refine⟨a',c',w',hrun,⟨e',he,how'⟩,(Ab.grown hgr).mono fun x hx e=>?_⟩;cases a with
  | none=>cases e
  | some q=>exact⟨q,rfl,by simpa [Value.ownBlock] using e.symm⟩
theorem UY:∀(xs:List UInt8)(r:List UInt8),(xs.map fun x=>(x.toNat:Int)).foldl (fun r n=>r.push (UInt8.ofNat n.toNat)) (⟨r.toArray⟩:ByteArray)=⟨(r++xs).toArray⟩
 | [],r=>by simp
 | x::xs,r=>by
  have:=UY xs (r++[x])
  simp only[Zr,List.foldl_cons];have e:ByteArray.push (⟨r.toArray⟩:ByteArray) (UInt8.ofNat ((x.toNat:Int)).toNat)=⟨(r++[x]).toArray⟩:=by
   simp[ByteArray.push]
  rw[e,this];simp
def dZ(P:Program)(S T:TypeId):Bool :=
 match P.underlying S with
 | some (.slice e)=>match P.underlying e with
  | some (.int .u8)=>match P.underlying T with | some .string=>true | _=>false
  | _=>false
 | _=>false
theorem kP{S T:TypeId}{a:Option Addr}{l c:Nat}{xs:List UInt8}(hT:dZ P S T=true)(hr:BG w a (A6 xs))(hl:xs.length=l):(convert S T (.slice a l c)).run P w=.ok (.string ⟨xs.toArray⟩) w:=by
 have hT':∃ e,P.underlying S=some (.slice e)/\P.underlying e=some (.int .u8)/\P.underlying T=some .string:=by
  unfold dZ at hT
  split at hT
  ·rename_i e he
   split at hT
   ·rename_i h1
    split at hT
    ·rename_i h2;exact⟨e,he,h1,h2⟩
    ·cases hT
   ·cases hT
  ·cases hT
 obtain⟨e,h1,h2,h3⟩:=hT';rw[run_convert_bytes_string w S T e a l c h1 h2 h3];have hmap:A6 xs=(xs.map fun x=>(x.toNat:Int)).map (Value.int .u8):=by simp[A6,u8]
 cases a with
 | none =>
  rcases hr with hr|⟨b,o,e,_⟩
  ·have:xs=[]:=by simpa [A6] using hr
   subst this;rfl
  ·cases e
 | some ad =>
  have hload:(loadCells ad l).run P w=.ok ((xs.map fun x=>(x.toNat:Int)).map (Value.int .u8)).toArray w:=by
   rcases hr with hr|⟨b,o,e,hat⟩
   ·have:xs=[]:=by simpa [A6] using hr
    subst this;subst hl;rfl
   ·simp at e;subst e
    have:=hat.cells (P:=P) (n:=l) (by simp;omega)
    rw[this,<- hmap]
    congr 1
    have:(A6 xs).take l=A6 xs:=Lf (by simp;omega);rw[this]
  rw[run_bytesToString w ad l c _ hload]
  have:=UY xs []
  simp only[Ly]at this;rw[<- this];rfl
end
end Go.Den
end
section
open Go Go.Den Go.Proofs
namespace Go.Den
def nI(x:List Value)(i:Nat):Int:=match A2 x i with | .int _ n=>n | _=>0
section
variable{P:Program}{w:World}
theorem Ow.sm{base k l c:Nat}{T:TypeId}{a:Option Addr}{xs:List Value}(h:Ow P w base T k a l c xs)(hl:0<l):∃ g,a=some ⟨g,0,none⟩/\base<=g/\Av w g 0 xs:=by
 obtain⟨e,he,h1,h2⟩:=h;rcases h2 with ⟨hn,hz⟩|⟨g,cap,H5,hv,hb,hg,hle,_,hsz,ht⟩
 ·omega
 ·simp at hv;have hm:l*k<=cap*k:=pP _ hle;refine⟨g,hv.1,hb,H5.toList,e,(0,0),hg,?_,?_,fun j _ _=>by simp⟩
  ·rw[h1];simp[hsz];exact hm
  ·rw[h1];simpa using ht
theorem Ow.snoc{base k bytes l c:Nat}{T ty:TypeId}{t:TypeId}{z:Value}{a:Option Addr}{xs ys:List Value}(hT:EG P T k z bytes)(hk:0<k)(h:Ow P w base T k a l c xs)
  (hl:ys.length=k) (h1:∀ v∈ys,v.oneCell'=true) (h63:(l+1)*bytes<=140737488355328) (hb:0<bytes) (hbase:base<=w.heap.size) :
  ∃ a' c' w',(Builtin.append_ #[T,T] ty #[.slice a l c,.slice (some ⟨w.heap.size,0,none⟩) 1 1]).run P (w.alloc (.cells ⟨ys⟩ t))=.ok (.slice a' (l+1) c') w'/\Ow P w' base T k a' (l+1) c' (xs++ys)/\Ab (fun x=>base<=x) w w':=by
 have hm:Ab No w (w.alloc (.cells ⟨ys⟩ t)):=(Ab.refl No w).alloc _;obtain⟨a',c',w',h2,h3,h4⟩:=(h.nos hm).append (ty:=ty) hT hk (a2:=some ⟨w.heap.size,0,none⟩) (m:=1) (c2:=1) (ys:=ys) (.inr ⟨_,_,rfl,Av.new.at⟩) (by omega) (fun e=>by cases e) h1 h63 hb (QK hbase hm.size);exact⟨a',c',w',h2,h3,(hm.mono fun _ _ h=>h.elim).trans h4 fun _ _ h=>h⟩
theorem Ab.up{base:Nat}{a b c:World}(h:Ab No a b)(m:Ab (fun x=>base<=x) b c)(hb:a.heap.size<=base):Ab No a c:=h.trans m fun x hx e=>by omega
theorem VN(xs ys:List UInt8):A6 (xs++ys)=A6 xs++A6 ys:=by simp[A6]
end
end Go.Den
namespace Go.Z
theorem Sd(w:World)(v:Int):(Instr.buildSlice 176 1 #[(0,Yn v)]).run Yt w=.ok (.slice (some ⟨w.heap.size,0,none⟩) 1 1) (w.alloc (.cells ⟨[Yn v]⟩ 3)):=by kernel_rfl
def a5:List UInt8:=[165,165,165,165,165,165,165,165]
end Go.Z
end
section
namespace Go.Den
def Nv(s:Nat):Nat:=(s / 2) ^^^ (if s % 2=1 then 3988292384 else 0)
def AQ:Nat->Nat->Nat
 | 0,s=>s
 | n+1,s=>AQ n (Nv s)
def bK(s:Nat)(c:UInt8):Nat:=AQ 8 (s ^^^ c.toNat)
def G8(xs:List UInt8)(s:Nat):Nat:=xs.foldl bK s
def cJ(xs:List UInt8):Nat:=G8 xs 4294967295 ^^^ 4294967295
theorem Tt:∀(n s:Nat),AQ (n+1) s=Nv (AQ n s)
 | 0,_=>rfl
 | n+1,s=>by rw[AQ,Tt n];rfl
theorem VA:∀(m n s:Nat),AQ (m+n) s=AQ n (AQ m s)
 | 0,n,s=>by rw[Tc];rfl
 | m+1,n,s=>by rw[show m+1+n=(m+n)+1 by omega,AQ,VA m n];rfl
theorem vY(a b:Nat):(a ^^^ b) / 2=a / 2 ^^^ b / 2:=by
 have:=Nat.shiftRight_xor_distrib (a:=a) (b:=b) (i:=1)
 simpa [Nat.shiftRight_succ] using this
theorem vZ(a b:Nat):(a ^^^ b) % 2=1↔¬ (a % 2=1↔b % 2=1):=by
 rw[Nat.xor_mod_two_eq_one]
theorem oE(a b:Nat):Nv (a ^^^ b)=Nv a ^^^ Nv b:=by
 unfold Nv;rw[vY];have h:=vZ a b;by_cases ha:a % 2=1
 ·by_cases hb:b % 2=1
  ·rw[if_neg (by rw[h];simp[ha,hb]),if_pos ha,if_pos hb,Ll3];rw[Li4,<- Li4 3988292384,Nat.xor_comm 3988292384,Li4,Nat.xor_self,Ll3]
  ·rw[if_pos (by rw[h];simp[ha,hb]),if_pos ha,if_neg hb,Ll3,Li4,Li4,Nat.xor_comm 3988292384]
 ·by_cases hb:b % 2=1
  ·rw[if_pos (by rw[h];simp[ha,hb]),if_neg ha,if_pos hb,Ll3,Li4]
  ·rw[if_neg (by rw[h];simp[ha,hb]),if_neg ha,if_neg hb,Ll3,Ll3,Ll3]
theorem VB:∀(n a b:Nat),AQ n (a ^^^ b)=AQ n a ^^^ AQ n b
 | 0,_,_=>rfl
 | n+1,a,b=>by rw[AQ,AQ,AQ,oE,VB n]
theorem fX(m:Nat):Nv (2*m)=m:=by
 unfold Nv;rw[if_neg (by omega),Ll3];omega
theorem Ts:∀(n m:Nat),AQ n (2 ^ n*m)=m
 | 0,m=>by simp[AQ]
 | n+1,m=>by rw[AQ,Lb4,Lc5 (2 ^ n) 2,Nat.mul_assoc,fX,Ts n m]
theorem AaA(s:Nat):16*(s / 16) ^^^ (s % 16)=s:=by
 apply Lg4;intro i;rw[Nat.testBit_xor];have e:s=2 ^ 4*(s / 16)+s % 16:=by omega
 have hlt:s % 16<2 ^ 4:=by omega
 by_cases hi:i<4
 ·have h1:(16*(s / 16)).testBit i=false:=by
   rw[show 16*(s / 16)=2 ^ 4*(s / 16) by omega,Nat.testBit_two_pow_mul];simp;omega
  rw[h1,Bool.false_xor,show s % 16=s % 2 ^ 4 by rfl,Nat.testBit_mod_two_pow];simp[hi]
 ·have h2:(s % 16).testBit i=false:=Nat.testBit_lt_two_pow (pF hlt (Lx2 (by omega) (by omega)));rw[h2,Bool.xor_false,show 16*(s / 16)=2 ^ 4*(s / 16) by omega,Nat.testBit_two_pow_mul];rw[show s / 16=s / 2 ^ 4 by rfl,Nat.testBit_div_two_pow,show i-4+4=i by omega,Li (show i >= 4 by omega),lE]
theorem mZ(s:Nat):s / 16 ^^^ AQ 4 (s % 16)=AQ 4 s:=by
 have h:=VB 4 (16*(s / 16)) (s % 16);rw[AaA]at h;rw[h,show 16*(s / 16)=2 ^ 4*(s / 16) by omega,Ts]
theorem uP{s:Nat}(h:s<4294967296):Nv s<4294967296:=by
 unfold Nv;refine Lc3 (n:=32) (by omega) ?_;split<;>omega
theorem KJ:∀{n s:Nat},s<4294967296->AQ n s<4294967296
 | 0,_,h=>h
 | n+1,s,h=>by rw[AQ];exact KJ (uP h)
theorem uN{s:Nat}{c:UInt8}(h:s<4294967296):bK s c<4294967296:=KJ (Lc3 (n:=32) (by omega) (by have:=c.toNat_lt;omega))
theorem NO:∀{xs:List UInt8}{s:Nat},s<4294967296->G8 xs s<4294967296
 | [],_,h=>h
 | c::r,s,h=>by unfold G8;rw[List.foldl_cons];exact NO (xs:=r) (uN h)
theorem eJ(xs:List UInt8):cJ xs<4294967296:=Lc3 (n:=32) (NO (by omega)) (by omega)
theorem ZJ(xs:List UInt8)(c:UInt8)(s:Nat):G8 (xs++[c]) s=bK (G8 xs s) c:=by
 unfold G8;rw[Ly3];rfl
theorem ZK{xs:List UInt8}{i:Nat}(h:i<xs.length)(s:Nat):G8 (xs.take (i+1)) s=bK (G8 (xs.take i) s) xs[i]:=by
 rw[Lx h,ZJ]
theorem fV(s:Nat)(c:UInt8):bK s c=(let a:=s ^^^ c.toNat;let b:=a / 16 ^^^ AQ 4 (a % 16);b / 16 ^^^ AQ 4 (b % 16)):=by
 show _=_;simp only[mZ];exact VA 4 4 _
end Go.Den
end
section
open Go Go.Den Go.Proofs
namespace Go.Z
theorem pC{a b:Nat}(ha:a<4294967296)(hb:b<4294967296):MX 32 (a:Int) (b:Int)=((a ^^^ b:Nat):Int):=by
 show(((_:BitVec 32).toNat:Nat):Int)=_;rw[iD,iD,BitVec.toNat_xor,iE,iE,hY ha,hY hb]
theorem WB{a b:Nat}(ha:a<4294967296)(hb:b<4294967296):MW 32 (a:Int) (b:Int)=((a &&& b:Nat):Int):=by
 show(((_:BitVec 32).toNat:Nat):Int)=_;rw[iD,iD,BitVec.toNat_and,iE,iE,hY ha,hY hb]
theorem RF{x:Int}(h0:0<=x)(h1:x<=4294967295):IntKind.u32.wrap x=x:=by
 simp only[IntKind.wrap,IntKind.bits,IntKind.signed]at *;simp at *;omega
theorem oZ{a b:Nat}(ha:a<4294967296)(hb:b<4294967296):IntKind.u32.wrap (MX 32 (a:Int) (b:Int))=((a ^^^ b:Nat):Int):=by
 have h:=Lc3 (n:=32) ha hb;rw[pC ha hb,RF (by omega) (by omega)]
theorem AhJ(a:Nat):a &&& 1=a % 2:=Nat.and_one_is_mod a
theorem AhK(a:Nat):a &&& 15=a % 16:=Nat.and_two_pow_sub_one_eq_mod a 4
theorem AfV{a:Nat}(ha:a<4294967296):IntKind.u32.wrap (MW 32 (a:Int) 1)=((a % 2:Nat):Int):=by
 have:=WB (b:=1) ha (by omega)
 rw[AhJ]at this;rw[show((1:Nat):Int)=1 from rfl]at this;rw[this,RF (by omega) (by omega)]
theorem AbJ{a:Nat}(ha:a<4294967296):IntKind.u32.wrap (MW 32 (a:Int) 15)=((a % 16:Nat):Int):=by
 have:=WB (b:=15) ha (by omega)
 rw[AhK]at this;rw[show((15:Nat):Int)=15 from rfl]at this;rw[this,RF (by omega) (by omega)]
theorem Aa4(a:Nat)(k:Nat):Int.fdiv (a:Int) (k:Int)=((a / k:Nat):Int):=by
 rw[Int.fdiv_eq_ediv_of_nonneg _ (by omega)];exact(Int.natCast_ediv _ _).symm
theorem AcL(a:Nat):Int.fdiv (a:Int) 2=((a / 2:Nat):Int):=Aa4 a 2
theorem iX(a:Nat):Int.fdiv (a:Int) 16=((a / 16:Nat):Int):=Aa4 a 16
def Rk(i:Nat):List Value:=(List.range 16).map fun k=>.int .u32 (if k<i then(AQ 4 k:Int)else 0)
theorem Xb(i:Nat):(Rk i).length=16:=by simp[Rk]
theorem Sr{i k:Nat}(hk:k<i)(h16:k<16):(Rk i)[k]?=some (.int .u32 (AQ 4 k:Int)):=by
 simp[Rk,h16,hk]
theorem mY{i:Nat}(hi:i<16):(Rk i).set i (.int .u32 (AQ 4 i:Int))=Rk (i+1):=by
 apply Lf3;intro k;by_cases hk:i=k
 ·subst hk;rw[wO (by rw[Xb];exact hi),Sr (by omega) hi]
 ·rw[wR hk];unfold Rk;by_cases h16:k<16
  ·simp only[qC,List.getElem?_range h16,Lt3]
   congr 3
   exact propext ⟨fun _=>by omega,fun _=>by omega⟩
  ·rw[Ln2 (by simp;omega),Ln2 (by simp;omega)]
theorem PV{w:World}{a:Option Addr}{xs:List UInt8}(hr:BG w a (A6 xs)){i:Nat}(hi:i<xs.length):∃ b o,a=some ⟨b,o,none⟩/\At w b o (A6 xs) :=
 hr.resolve_left (by intro e;have:=QJ List.length e;simp at this;rw[this]at hi;simp at hi)
section
variable{w:World}{K:Value->World->Prop}
theorem tL{a:Option Addr}{l c:Nat}{xs:List UInt8}(hl:xs.length=l)(hr:BG w a (A6 xs))(h63:l<=9223372036854775807)
  (hk:∀ w',Ab No w w'->K (.int .u32 (cJ xs:Int)) w'):A7 Yt NG #[.slice a l c] w K:=by
 apply lA;unfold W7;obtain⟨w1,n1,n2,n3,n4⟩:=Aw (P:=Yt) (w:=w) (T:=293) (cs:=Rk 0) (by kernel_rfl);have hA:MV Yt 293=some (16,1):=by kernel_rfl
 have hS:Cw Yt 230=true:=by kernel_rfl
 refine⟨_,w1,n1,?_⟩;refine⟨fun x w2=>∃(i:Nat)(y z:Value),i<=16/\x=[y,Yn i,z]/\Av w2 w.heap.size 0 (Rk i)/\Ab No w w2,fun x _=>(16-nI x 1).toNat,⟨0,_,_,by omega,rfl,n2,n3⟩,?_⟩;rintro x w2 ⟨i,y,z,hi,rfl,hat,hm⟩;refine⟨_,rfl,Aa (fun hb=>?_) (fun hb=>?_)⟩
 ·have hb:=Ld hb;have hi16:i<16:=by omega
  rw[RF (x:=(i:Int)) (by omega) (by omega)];refine⟨fun x w3=>∃ j:Nat,j<=4/\x=[.int .u32 (AQ j i:Int),Yn j]/\w3=w2,fun x _=>(4-nI x 1).toNat,⟨0,by omega,rfl,rfl⟩,?_⟩;rintro x w3 ⟨j,hj,rfl,rfl⟩;refine⟨_,rfl,Aa (fun hb=>?_) (fun hb=>?_)⟩
  ·have hb:=Ld hb;have hs:AQ j i<4294967296:=KJ (by omega);refine⟨_,rfl,?_⟩;have e:IntKind.u32.wrap (MX 32 (Int.fdiv (AQ j i:Int) 2) (IntKind.u32.wrap (3988292384*(IntKind.u32.wrap (MW 32 (AQ j i:Int) 1)))))=(AQ (j+1) i:Int):=by
    rw[AfV hs,AcL,Tt];unfold Nv;by_cases h2:AQ j i % 2=1
    ·rw[h2,if_pos rfl];exact oZ (b:=3988292384) (by omega) (by omega)
    ·rw[show AQ j i % 2=0 by omega,if_neg (by omega)];exact oZ (b:=0) (by omega) (by omega)
   rw[e,Ag (x:=(j:Int)+1) (by omega) (by omega)];exact⟨⟨j+1,by omega,by simp,rfl⟩,by simp[nI,A2];omega⟩
  ·have hb:=Lc hb;have hj4:j=4:=by omega
   subst hj4;refine⟨_,rfl,_,Bo hA (by omega) (by omega),?_⟩;rw[Ae,show(i:Int).toNat*1=i by omega];obtain⟨w4,p1,p2,p3,p4⟩:=hat.store (P:=Yt) (T:=230) (i:=i) (v:=.int .u32 (AQ 4 i:Int)) hS (by rw[Xb];exact hi16) rfl;refine⟨w4,p1,?_⟩;rw[mY hi16]at p2;rw[Ag (x:=(i:Int)+1) (by omega) (by omega)];exact⟨⟨i+1,.int .u32 (AQ 4 i:Int),Yn ((4:Nat):Int),by omega,by simp,p2,hm.own p3 (Le _)⟩,by simp[nI,A2];omega⟩
 ·have hb:=Lc hb;have hi16:i=16:=by omega
  subst hi16;have hr2:=hr.nos hm;refine⟨fun x w3=>∃ j:Nat,j<=l/\x=[.int .u32 (G8 (xs.take j) 4294967295:Int),Yn j]/\w3=w2,fun x _=>(l-nI x 1).toNat,⟨0,by omega,rfl,rfl⟩,?_⟩;rintro x w3 ⟨j,hj,rfl,rfl⟩;refine⟨_,rfl,Aa (fun hb=>?_) (fun hb=>?_)⟩
  ·have hb:=Ld hb;have hjl:j<xs.length:=by omega
   obtain⟨b,o,rfl,hx⟩:=PV hr2 hjl;have hs:G8 (xs.take j) 4294967295<4294967296:=NO (by omega);have hc:=xs[j].toNat_lt;refine⟨_,A8 (k:=1) (by kernel_rfl) (by omega) (by omega),(xs[j].toNat:Int),?_,_,rfl,?_⟩
   ·rw[Ae,show(j:Int).toNat*1=j by omega];exact hx.load (by kernel_rfl) (CR hjl)
   have key:=ZK hjl 4294967295;rw[fV]at key;generalize G8 (xs.take j) 4294967295=s at hs key |-;rw[RF (x:=(xs[j].toNat:Int)) (by omega) (by omega),oZ hs (by omega)];have ha:s ^^^ xs[j].toNat<4294967296:=Lc3 (n:=32) hs (by omega);generalize s ^^^ xs[j].toNat=A at ha key |-;rw[AbJ ha,iX];refine⟨_,Bo hA (by omega) (by omega),(AQ 4 (A % 16):Int),?_,?_⟩
   ·rw[Ae,show((A % 16:Nat):Int).toNat*1=A % 16 by omega];exact hat.at.load (b:=w.heap.size) (o:=0) hS (Sr (by omega) (by omega))
   have hs4:AQ 4 (A % 16)<4294967296:=KJ (by omega);rw[oZ (by omega) hs4];have hB:A / 16 ^^^ AQ 4 (A % 16)<4294967296:=Lc3 (n:=32) (by omega) hs4;simp only at key;generalize A / 16 ^^^ AQ 4 (A % 16)=B at hB key |-;rw[AbJ hB,iX];refine⟨_,Bo hA (by omega) (by omega),(AQ 4 (B % 16):Int),?_,?_⟩
   ·rw[Ae,show((B % 16:Nat):Int).toNat*1=B % 16 by omega];exact hat.at.load (b:=w.heap.size) (o:=0) hS (Sr (by omega) (by omega))
   rw[oZ (by omega) (KJ (by omega)),Ag (x:=(j:Int)+1) (by omega) (by omega)];exact⟨⟨j+1,by omega,by rw[key];simp,rfl⟩,by simp[nI,A2];omega⟩
  ·have hb:=Lc hb;have hjl:j=l:=by omega
   subst hjl;have hs:G8 xs 4294967295<4294967296:=NO (by omega);have e:IntKind.u32.wrap (MX 32 4294967295 (G8 xs 4294967295:Int))=(cJ xs:Int):=by
    rw[show(4294967295:Int)=((4294967295:Nat):Int)from rfl,oZ (by omega) hs,Nat.xor_comm];rfl
   refine⟨_,rfl,(cJ xs:Int),fun w=>?_,hk _ hm⟩;rw[Lf (by omega),<- e];simp only[Op.unary,Op.intBits];rfl
theorem TU{a:Option Addr}{l c:Nat}{xs:List UInt8}(hl:xs.length=l)(hr:BG w a (A6 xs))(h63:l<=9223372036854775807)
  (hk:K (.bool (xs.all (·==0))) w):A7 Yt CJ #[.slice a l c] w K:=by
 apply cW;unfold Ux;refine⟨fun x w2=>∃(j n:Nat),j<=l/\n<256/\(n=0↔(xs.take j).all (·==0)=true)/\x=[.int .u8 (n:Int),Yn j]/\w2=w,fun x _=>(l-nI x 1).toNat,⟨0,0,by omega,by omega,by simp,rfl,rfl⟩,?_⟩;rintro x w2 ⟨j,n,hj,hn,hz,rfl,rfl⟩;refine⟨_,rfl,Aa (fun hb=>?_) (fun hb=>?_)⟩
 ·have hb:=Ld hb;have hjl:j<xs.length:=by omega
  obtain⟨b,o,rfl,hx⟩:=PV hr hjl;have hc:=xs[j].toNat_lt;refine⟨_,A8 (k:=1) (by kernel_rfl) (by omega) (by omega),(xs[j].toNat:Int),?_,_,rfl,?_⟩
  ·rw[Ae,show(j:Int).toNat*1=j by omega];exact hx.load (by kernel_rfl) (CR hjl)
  have hor:n ||| xs[j].toNat<256:=Li2 (n:=8) hn (by omega);have e:IntKind.u8.wrap (UH 8 (n:Int) (xs[j].toNat:Int))=((n ||| xs[j].toNat:Nat):Int):=by
   have:UH 8 (n:Int) (xs[j].toNat:Int)=((n ||| xs[j].toNat:Nat):Int):=by
    show(((_:BitVec 8).toNat:Nat):Int)=_;rw[iD,iD,BitVec.toNat_or,iE,iE,hY hn,hY hc]
   rw[this,NC];omega
  rw[e,Ag (x:=(j:Int)+1) (by omega) (by omega)];refine⟨⟨j+1,n ||| xs[j].toNat,by omega,hor,?_,by simp,rfl⟩,by simp[nI,A2];omega⟩;rw[Lx hjl,List.all_append,Lr,<- hz,Nat.or_eq_zero_iff];simp[<- Lu3]
 ·have hb:=Lc hb;have hjl:j=l:=by omega
  subst hjl;refine⟨_,rfl,?_⟩;rw[Lf (by omega)]at hz;have e:((n:Int)==0)=xs.all (·==0):=by
   rw[RH,pO,<- hz];omega
  rw[e];exact hk
end
end Go.Z
end
section
open Go Go.Den Go.Proofs
namespace Go.Den
def Bw(xs:List UInt8)(i:Nat):Bool:=(xs.getD (i / 8) 0).toNat.testBit (i % 8)
def CE(xs:List UInt8):Nat->Nat
 | 0=>0
 | j+1=>CE xs j+(if Bw xs j=true then 1 else 0)
theorem Z3{xs:List UInt8}{i:Nat}(h:8*xs.length<=i):Bw xs i=false:=by
 unfold Bw;rw[Lp,Ln2 (by omega)];show(0:UInt8).toNat.testBit _=false;exact Nat.zero_testBit _
theorem NN(xs:List UInt8):∀ m,CE xs m<=m
 | 0=>Le _
 | j+1=>by have:=NN xs j;unfold CE;split<;>omega
theorem WG(xs:List UInt8)(m:Nat):∀ k,CE xs m<=CE xs (m+k)
 | 0=>Le _
 | k+1=>by have:=WG xs m k;exact QK this (Nat.le_add_right _ _)
theorem Hc{xs:List UInt8}{m:Nat}:∀{k:Nat},CE xs m=CE xs (m+k)↔∀ i,m<=i->i<m+k->Bw xs i=false
 | 0=>by simp;omega
 | k+1=>by
  have h:=WG xs m k;rw[<- wM,show CE xs (m+k+1)=CE xs (m+k)+(if Bw xs (m+k)=true then 1 else 0)from rfl];constructor
  ·intro e i h1 h2;cases hb:Bw xs (m+k)with
   | true=>rw[hb,if_pos rfl]at e;omega
   | false =>
    rw[hb,if_neg (by simp)]at e;by_cases hi:i=m+k
    ·rw[hi];exact hb
    ·exact(Hc.1 e) i h1 (by omega)
  ·intro e;rw[e (m+k) (by omega) (by omega),if_neg (by simp)];exact Hc.2 fun i h1 h2=>e i h1 (by omega)
theorem rL{xs:List UInt8}{m:Nat}(h:8*xs.length<=m):CE xs (8*xs.length)=CE xs m:=by
 have:=(Hc (xs:=xs) (m:=8*xs.length) (k:=m-8*xs.length)).2 fun i h1 _=>Z3 h1
 rwa [show 8*xs.length+(m-8*xs.length)=m by omega]at this
theorem rM{xs:List UInt8}{n:Int}:CE xs (min (max n 0) (8*xs.length)).toNat=CE xs n.toNat:=by
 by_cases h:n.toNat<=8*xs.length
 ·congr 1;omega
 ·rw[<- rL (m:=n.toNat) (by omega)];congr 1;omega
end Go.Den
namespace Go.Z
theorem zV{T:TypeId}{o1 o2:Operand}{k:IntKind}{a b:Int}(hb:0<=b):Al (G9 .shl T o1 o2 (.int .u8 a) (.int k b)) (.int .u8 (IntKind.u8.wrap (a*2 ^ (min b.toNat 8)))):=fun w=>by
 rw[ER (fun w=>KD _ _ _ _ _ _ _ _ w)];have:¬ b<0:=by omega
 simp[binOp,Op.shift,this,IntKind.bits]
theorem qS{a b:Nat}(ha:a<256)(hb:b<256):IntKind.u8.wrap (MW 8 (a:Int) (b:Int))=((a &&& b:Nat):Int):=by
 have:MW 8 (a:Int) (b:Int)=((a &&& b:Nat):Int):=by
  show(((_:BitVec 8).toNat:Nat):Int)=_;rw[iD,iD,BitVec.toNat_and,iE,iE,hY ha,hY hb]
 have hlt:a &&& b<256:=Nat.and_lt_two_pow (n:=8) a hb;rw[this,NC];omega
theorem TW{a b:Nat}(ha:a<256)(hb:b<256):IntKind.u8.wrap (UH 8 (a:Int) (b:Int))=((a ||| b:Nat):Int):=by
 have:UH 8 (a:Int) (b:Int)=((a ||| b:Nat):Int):=by
  show(((_:BitVec 8).toNat:Nat):Int)=_;rw[iD,iD,BitVec.toNat_or,iE,iE,hY ha,hY hb]
 have hlt:a ||| b<256:=Li2 (n:=8) ha hb;rw[this,NC];omega
theorem uE{k:Nat}(h:k<8):(2:Nat) ^ k<256:=by
 have:(2:Nat) ^ k<=2 ^ 7:=Lx2 (by omega) (by omega);omega
theorem TV{k:Nat}(h:k<8):IntKind.u8.wrap (1*2 ^ (min (k:Int).toNat 8))=((2 ^ k:Nat):Int):=by
 have hp:=uE h;have hk:min (k:Int).toNat 8=k:=by omega
 rw[hk,Lg5,NC];have e:((2:Int) ^ k)=((2 ^ k:Nat):Int):=by push_cast;rfl
 rw[e];generalize (2:Nat) ^ k=p at hp;omega
theorem xG{c:UInt8}{k:Nat}(h:k<8):((IntKind.u8.wrap (MW 8 (c.toNat:Int) ((2 ^ k:Nat):Int))) != 0)=c.toNat.testBit k:=by
 rw[qS c.toNat_lt (uE h),DN];have key:c.toNat &&& 2 ^ k=0↔c.toNat.testBit k=false:=by
  constructor
  ·intro e
   have:=QJ (·.testBit k) e
   simpa [Ls3,Lb3] using this
  ·intro e;apply Lg4;intro i;rw[Ls3,Lb3,Nat.zero_testBit];by_cases hi:k=i
   ·subst hi;rw[e];rfl
   ·rw[Lh hi,Bool.and_false]
 cases hb:c.toNat.testBit k with
 | true =>
  refine Li fun e=>?_
  have:=key.1 (by omega)
  rw[hb]at this;cases this
 | false =>
  refine Lh fun e=>e ?_;rw[key.2 hb];rfl
section
variable{w:World}{K:Value->World->Prop}
theorem QS{a:Option Addr}{l c i:Nat}{xs:List UInt8}(hl:xs.length=l)(hr:BG w a (A6 xs))(h63:l<=1048576)(hi:i<=9223372036854775807)(hk:∀ w',Ab No w w'->K (.bool (Bw xs i)) w'):A7 Yt Fd #[.slice a l c,Yn i] w K:=by
 apply cP;unfold Uq;refine Ad.dup ?_;apply Qh;unfold KS;refine Ad.dup (tt (Li (by omega)) ⟨_,rfl,_,rfl,?_⟩);rw[Ag (x:=8*(l:Int)) (by omega) (by omega)];refine Aa (fun h=>?_) (fun h=>⟨_,rfl,?_⟩)
 ·have h:=Ld h;have hil:i / 8<xs.length:=by omega
  rw[cF (by omega),pJ (by omega),Ag (x:=(i:Int) / 8) (by omega) (by omega),show(i:Int) / 8=((i / 8:Nat):Int) by omega,show(i:Int) % 8=((i % 8:Nat):Int) by omega];obtain⟨b,o,rfl,hx⟩:=PV hr hil;refine⟨_,A8 (k:=1) (by kernel_rfl) (by omega) (by omega),(xs[i / 8].toNat:Int),?_,_,zV (by omega),?_⟩
  ·rw[Ae,show((i / 8:Nat):Int).toNat*1=i / 8 by omega];exact hx.drew.load (by kernel_rfl) (CR hil)
  rw[TV (wQ _ (by omega)),xG (wQ _ (by omega))];have e:xs[i / 8].toNat.testBit (i % 8)=Bw xs i:=by unfold Bw;rw[Lp,XM hil];rfl
  rw[e];exact⟨_,rfl,hk _ (Ab.refl _ _).drew⟩
 ·have h:=Lc h;rw[<- Z3 (xs:=xs) (i:=i) (by omega)];exact hk _ (Ab.refl _ _).drew
theorem G6{a:Option Addr}{l c:Nat}{n:Int}{xs:List UInt8}(hl:xs.length=l)(hr:BG w a (A6 xs))(h63:l<=1048576)(hk:∀ w',Ab No w w'->K (Yn (CE xs n.toNat)) w'):A7 Yt C2 #[.slice a l c,Yn n] w K:=by
 apply X6;unfold Q7;apply SE;unfold MA;refine⟨_,rfl,?_⟩;rw[Ag (x:=8*(l:Int)) (by omega) (by omega)];have em:(if 8*(l:Int)<(if 0 > n then 0 else n)then 8*(l:Int)else(if 0 > n then 0 else n))=min (max n 0) (8*xs.length):=by
  rw[hl];split<;>split<;>omega
 rw[em,<- rM]at *;obtain⟨m,hm⟩:∃ m:Nat,min (max n 0) (8*(xs.length:Int))=m:=⟨(min (max n 0) (8*(xs.length:Int))).toNat,by omega⟩;rw[hm]at hk |-;rw[show(m:Int).toNat=m by omega]at hk;have hml:m<=8*l:=by omega
 refine⟨fun x w2=>∃ j:Nat,j<=m/\x=[Yn (CE xs j:Int),Yn j]/\Ab No w w2,fun x _=>(m-nI x 1).toNat,⟨0,by omega,rfl,Ab.refl _ _⟩,?_⟩;rintro x w2 ⟨j,hj,rfl,hm2⟩;refine⟨_,rfl,Aa (fun h=>?_) (fun h=>⟨_,rfl,?_⟩)⟩
 ·have h:=Ld h;have hcl:=NN xs j;refine QS (xs:=xs) hl (hr.nos hm2) h63 (by omega) fun w3 m3=>⟨_,rfl,Ad.cut (fun z w4=>w4=w3/\z=[Yn (CE xs (j+1):Int)]) (Aa (fun h2=>⟨_,rfl,rfl,?_⟩) (fun h2=>⟨rfl,?_⟩)) ?_⟩
  ·rw[Ag (by omega) (by omega),show CE xs (j+1)=CE xs j+(if Bw xs j=true then 1 else 0)from rfl,if_pos h2];simp
  ·rw[show CE xs (j+1)=CE xs j+(if Bw xs j=true then 1 else 0)from rfl,if_neg (by rw[h2];simp)];rfl
  ·rintro z w4 ⟨rfl,rfl⟩;rw[Ag (x:=(j:Int)+1) (by omega) (by omega)];exact⟨⟨j+1,by omega,by simp[A2],hm2.no m3⟩,by simp[nI,A2];omega⟩
 ·have h:=Lc h;have hjm:j=m:=by omega
  subst hjm;exact hk _ hm2
end
end Go.Z
end
section
open Go Go.Den
namespace Go.Den
section
variable{P:Program}{w:World}
def ZF(P : Program) : List Field → Nat → Option (List Nat)
  | [], _ => some []
  | f :: r, i => if f.offset = i ∧ (f.name == "_") = false then
      match P.underlying f.type, ZF P r (i + 1)with
      | some (.int .i64), some cs => some (0 :: cs)
      | some .string, some cs => some (1 :: cs)
      | some .bool, some cs => some (2 :: cs)
      | _, _ => none
    else none
def AcR(P:Program)(T:TypeId):Option (List Nat):=if P.stoodInHeld T=false/\P.eqGuardType P.depth T=false then(match P.underlying T with | some (.struct fs)=>ZF P fs.toList 0 | _=>none)else none
def UJ:List Nat->List Value->Prop
 | [],[]=>True
 | 0::cs,.int .i64 _::vs=>UJ cs vs
 | 1::cs,.string _::vs=>UJ cs vs
 | 2::cs,.bool _::vs=>UJ cs vs
 | _,_=>False
theorem NU{T:TypeId}{d:TypeDesc}(h:P.underlying T=some d)(h1:∀ fs,d≠.struct fs)(h2:∀ n e,d≠.array n e){cs:Array Value}{o:Nat}{v:Value}(hv:cs[o]?=some v):(part T cs o).run P w=.ok v w:=by
 have hu:(underlying T).run P w=.ok d w:=AJ h w;cases d<;>first | exact absurd rfl (h1 _) | exact absurd rfl (h2 _ _) | simp[part,isAgg,hu,hv]
theorem Rb{d : Nat} : ∀(fs : List Field)(i : Nat)(cs : List Nat)(px py xs ys : List Value), ZF P fs i = some cs → UJ cs xs → UJ cs ys → px.length = i → py.length = i → ∀ w : World,
    ∃ b, (b = true ↔ xs = ys) ∧ (Op.eqFields (d + 1) ⟨px ++ xs⟩ ⟨py ++ ys⟩ fs).run P w = .ok b w
  | [], i, cs, px, py, xs, ys, h, hx, hy, _, _, w => by
    cases h;cases xs with
    | cons a r => exact hx.elim
    | nil => cases ys with
      | cons a r => exact hy.elim
      | nil => exact⟨true, by simp, by simp[Op.eqFields]⟩
  | f :: r, i, cs, px, py, xs, ys, h, hx, hy, hpx, hpy, w => by
    unfold ZF at h
    split at h
    · rename_i hf
      obtain ⟨ho, hn⟩ := hf;have hn : f.name ≠ "_" := by simpa using hn
      have step : ∀(x y : Value)(xs ys : List Value)(cs' : List Nat)(b0 : Bool)(dd : TypeDesc), P.underlying f.type = some dd → (∀ fs, dd ≠ .struct fs) → (∀ n e, dd ≠ .array n e) → ZF P r (i + 1) = some cs' → UJ cs' xs → UJ cs' ys →
          (b0 = true ↔ x = y) → (Op.equalIn (d + 1) f.type x y).run P w = .ok b0 w → ∃ b, (b = true ↔ x :: xs = y :: ys) ∧ (Op.eqFields (d + 1) ⟨px ++ x :: xs⟩ ⟨py ++ y :: ys⟩ (f :: r)).run P w = .ok b w := by
        intro x y xs ys cs' b0 dd hu n1 n2 hcs hxs hys hb0 heq;have e1 : (part f.type ⟨px ++ x :: xs⟩ f.offset).run P w = .ok x w := NU hu n1 n2 (by rw[ho, ← hpx];simp);have e2 : (part f.type ⟨py ++ y :: ys⟩ f.offset).run P w = .ok y w := NU hu n1 n2 (by rw[ho, ← hpy];simp);obtain⟨b, h1, h2⟩ := Rb (d := d) r (i + 1) cs' (px ++ [x]) (py ++ [y]) xs ys hcs hxs hys (by simp[hpx]) (by simp[hpy]) w
        simp only[VV, List.singleton_append]at h2;simp only[Op.eqFields, if_pos hn, Sem.run_bind, e1, Result.andThen_ok, e2, heq];cases b0 with
        | true =>
          refine⟨b, ?_, by simpa using h2⟩
          have := hb0.1 rfl
          rw[h1, this];simp
        | false =>
          refine⟨false, ?_, by simp⟩;constructor
          · intro e;cases e
          · intro e
            have := hb0.2 (Li5 e).1
            cases this
      split at h
      · rename_i cs' hu hcs
        cases h;cases xs with
        | nil => exact hx.elim
        | cons x xs => cases ys with
          | nil => exact hy.elim
          | cons y ys =>
            cases x<;>first | exact hx.elim | skip;cases y<;>first | exact hy.elim | skip;rename_i k1 a k2 b;cases k1<;>first | exact hx.elim | skip;cases k2<;>first | exact hy.elim | skip;exact step _ _ _ _ cs' (a == b) _ hu (by simp) (by simp) hcs hx hy (by simp) (run_equalIn_int w d f.type .i64 .i64 a b hu)
      · rename_i cs' hu hcs
        cases h;cases xs with
        | nil => exact hx.elim
        | cons x xs => cases ys with
          | nil => exact hy.elim
          | cons y ys =>
            cases x<;>first | exact hx.elim | skip;cases y<;>first | exact hy.elim | skip;rename_i a b;refine step _ _ _ _ cs' (a.toList == b.toList) _ hu (by simp) (by simp) hcs hx hy ?_ (run_equalIn_string w d f.type a b hu);rw[pO, ByteArray.toList_eq, ByteArray.toList_eq];constructor
            · intro e
              obtain⟨⟨a⟩⟩ := a;obtain⟨⟨b⟩⟩ := b;have : a = b := e;rw[this]
            · intro e;cases e;rfl
      · rename_i cs' hu hcs
        cases h;cases xs with
        | nil => exact hx.elim
        | cons x xs => cases ys with
          | nil => exact hy.elim
          | cons y ys =>
            cases x<;>first | exact hx.elim | skip;cases y<;>first | exact hy.elim | skip;rename_i a b;exact step _ _ _ _ cs' (a == b) _ hu (by simp) (by simp) hcs hx hy (by simp) (run_equalIn_bool w d f.type a b hu)
      · cases h
    · cases h
theorem AcJ{T:TypeId}{cs:List Nat}(h:AcR P T=some cs){o1 o2:Operand}{xs ys:List Value}(hx:UJ cs xs)(hy:UJ cs ys)(w:World) :
  ∃ b,(b=true↔xs=ys)/\(G9 .eql T o1 o2 (.agg ⟨xs⟩) (.agg ⟨ys⟩)).run P w=.ok (.bool b) w/\(G9 .neq T o1 o2 (.agg ⟨xs⟩) (.agg ⟨ys⟩)).run P w=.ok (.bool (!b)) w:=by
 unfold AcR at h
 split at h
 ·rename_i hg;obtain⟨h2,h3⟩:=hg
  split at h
  ·rename_i fs hu;have hf:P.fieldsOf T=fs:=by unfold Program.fieldsOf;rw[hu]
   obtain⟨b,hb,hr⟩:=Rb (d:=9998) fs.toList 0 cs [] [] xs ys h hx hy rfl rfl w;have key:(Op.equalIn 10000 T (.agg ⟨xs⟩) (.agg ⟨ys⟩)).run P w=.ok b w:=by
    rw[run_equalIn_struct w 9999 T _ _ (by rw[hf];exact hu) h2,hf];exact hr
   refine⟨b,hb,?_,?_⟩
   ·rw[ER (fun w=>run_eqGuard_agg w _ T _ _ _ _ h3),run_eql_struct,key];rfl
   ·rw[ER (fun w=>run_eqGuard_agg w _ T _ _ _ _ h3),run_neq_struct,key];rfl
  ·cases h
 ·cases h
end
end Go.Den
end
section
open Go Go.Den Go.Proofs
namespace Go.Den
structure Gm where
 gr:Int
 no:Int
 gs:Int
deriving DecidableEq
def gZ:Gm:=⟨0,0,0⟩
def gV(g:Gm):List Value:=[Yn g.gr,Yn g.no,Yn g.gs]
def Df(g:Gm):Bool:=decide (16<=g.gr/\g.gr<=128/\1<=g.gs/\g.gs<=16/\4<=g.no/\g.no<=64/\g.no % 4=0/\4<=g.gr-1-g.no / 4/\2+g.gs*g.gr<=4096)
def Ej(g:Gm):Gm:=if Df g=true then g else gZ
def Bb(g:Gm):Int:=if Df g=true then 2+g.gs*g.gr else 0
def AZ(g:Gm):Int:=if Df g=true then g.gs*g.no else 0
def AV(g:Gm):Int:=if Df g=true then g.no / 4 else 0
theorem Ax{g:Gm}:Df g=true↔(16<=g.gr/\g.gr<=128/\1<=g.gs/\g.gs<=16/\4<=g.no/\g.no<=64/\g.no % 4=0/\4<=g.gr-1-g.no / 4/\2+g.gs*g.gr<=4096):=by unfold Df;exact cH
theorem OV{a b m n:Int}(h1:0<=a)(h2:a<=m)(h3:0<=b)(h4:b<=n):0<=a*b/\a*b<=m*n:=⟨iC h1 h3,Int.mul_le_mul h2 h4 h3 (by omega)⟩
theorem jB{g:Gm}:0<=Bb g/\Bb g<=4096:=by
 unfold Bb;split
 ·rename_i h;have h:=Ax.1 h
  have:=OV (a:=g.gs) (b:=g.gr) (m:=16) (n:=128) (by omega) (by omega) (by omega) (by omega)
  omega
 ·omega
theorem aC{g:Gm}:0<=AZ g/\AZ g<=1024:=by
 unfold AZ;split
 ·rename_i h;have h:=Ax.1 h
  have:=OV (a:=g.gs) (b:=g.no) (m:=16) (n:=64) (by omega) (by omega) (by omega) (by omega)
  omega
 ·omega
theorem Vy(g:Gm):∀ v∈gV g,v.oneCell'=true:=by
 intro v hv;simp only[gV,Lv,List.not_mem_nil,or_false]at hv;rcases hv with rfl | rfl | rfl<;>rfl
end Go.Den
namespace Go.Z
theorem A5:D5 Yt 83=some 3:=by kernel_rfl
theorem Ah:Cw Yt 3=true:=by kernel_rfl
theorem Bq:Cw Yt 2=true:=by kernel_rfl
theorem ND:Hs Yt 83=some (gV gZ):=by kernel_rfl
theorem NM:Al (Instr.build 83 #[]) (.agg ⟨gV gZ⟩):=fun w=>by kernel_rfl
theorem yU:AcR Yt 83=some [0,0,0]:=by kernel_rfl
section
variable{w:World}{K:Value->World->Prop}
theorem Sq{n lo hi:Int}(hk:K (.bool (decide (lo<=n/\n<=hi))) w):A7 Yt FT #[Yn n,Yn lo,Yn hi] w K:=by
 apply XB;unfold QC;refine Ad.dup (Aa (fun h=>?_) (fun h=>?_))
 ·have h:=Ld h;refine⟨_,rfl,?_⟩;have e:decide (n<=hi)=decide (lo<=n/\n<=hi):=qF.2 ⟨fun x=>⟨h,x⟩,fun x=>x.2⟩;rw[e];exact hk
 ·have h:=Lc h;refine⟨_,rfl,?_⟩;have e:false=decide (lo<=n/\n<=hi):=(Lh fun x=>h x.1).symm;rw[e];exact hk
theorem geq(g h:Gm){o1 o2:Operand}:∃ b,(b=true↔g=h)/\Al (G9 .eql 83 o1 o2 (.agg ⟨gV g⟩) (.agg ⟨gV h⟩)) (.bool b):=by
 refine⟨decide (g=h),cH,fun w=>?_⟩;obtain⟨b,hb,h1,_⟩:=AcJ yU (xs:=gV g) (ys:=gV h) (o1:=o1) (o2:=o2) (by simp[UJ,gV]) (by simp[UJ,gV]) w;rw[h1];have:b=decide (g=h):=by
  rw[RH,hb,cH];cases g;cases h;simp[gV]
 rw[this]
theorem YO{g:Gm}(hk:∀ w',Ab No w w'->K (.agg ⟨gV (Ej g)⟩) w'):A7 Yt GW #[.agg ⟨gV g⟩] w K:=by
 apply YZ;unfold SM;obtain⟨w1,a1,a2,a3,a4⟩:=AB (P:=Yt) (w:=w) (T:=83) (cs:=gV g);obtain⟨w2,b1,b2,b3,b4⟩:=Aw (P:=Yt) (w:=w1) (T:=83) ND;refine⟨_,w1,a1,_,w2,b1,?_⟩;have hat:=a2.at.keep b3 id;have m2:=a3.no b3;have l0:Ru (Instr.loadAt 3 (.pointer (some (Addr.add ⟨w.heap.size,0,none⟩ 0)))) w2 (Yn g.gr) w2:=hat.fld Ah rfl;have l1:Ru (Instr.loadAt 3 (.pointer (some (Addr.add ⟨w.heap.size,0,none⟩ 1)))) w2 (Yn g.no) w2:=hat.fld Ah rfl
 have l2:Ru (Instr.loadAt 3 (.pointer (some (Addr.add ⟨w.heap.size,0,none⟩ 2)))) w2 (Yn g.gs) w2:=hat.fld Ah rfl;have hend:∀(h:Gm),h=Ej g->∃ w6:World,Gr (Instr.storeAt 83 (Yo w1.heap.size) (.agg ⟨gV h⟩)) w2 w6/\∃ gR2:Array Value,Ru (Instr.loadAt 83 (Yo w1.heap.size)) w6 (.agg gR2) w6/\K (.agg gR2) w6:=fun h e=>by
  obtain⟨w6,c1,c2,c3,c4⟩:=b2.put (T:=83) (vs:=gV h) A5 rfl rfl (Vy h);refine⟨w6,c1,_,c2.at.all A5 rfl,?_⟩;subst e;exact hk _ (m2.own c3 (by omega))
 have hno:Df g≠true->gZ=Ej g:=fun h=>by unfold Ej;rw[if_neg h]
 refine Ad.cut (fun z w5=>w5=w2/\z=[.bool (!(decide (16<=g.gr/\g.gr<=128)&&decide (1<=g.gs/\g.gs<=16)))]) ⟨_,l0,Sq ⟨_,rfl,Aa (fun h=>⟨rfl,?_⟩) (fun h=>⟨_,l2,Sq ⟨_,rfl,rfl,?_⟩⟩)⟩⟩ ?_
 ·rw[lC]at h;rw[h];rfl
 ·rw[Lf2]at h;rw[h];rfl
 rintro z w5 ⟨rfl,rfl⟩;refine⟨_,rfl,Aa (fun h=>⟨_,NM,?_⟩) (fun h=>?_)⟩
 ·refine hend gZ (hno fun e=>?_);have e:=Ax.1 e;simp only[lC,Ld2,Lq1]at h;omega
 simp only[Lf2,Lr,RV]at h;refine Ad.cut (fun z w8=>w8=w5/\z=[.bool (!(decide (4<=g.no/\g.no<=64)&&decide (g.no % 4=0)))]) ⟨_,l1,Sq ⟨_,rfl,Aa (fun h=>⟨rfl,?_⟩) (fun h2=>⟨_,l1,rfl,?_⟩)⟩⟩ ?_
 ·rw[lC]at h;rw[h];rfl
 ·rw[Lf2]at h2;have h3:=Ld h2;rw[h2,lE,pJ (by omega)];rw[DN,Ll5]
 rintro z w8 ⟨rfl,rfl⟩;refine⟨_,rfl,Aa (fun h2=>⟨_,NM,?_⟩) (fun h2=>?_)⟩
 ·refine hend gZ (hno fun e=>?_);have e:=Ax.1 e;simp only[lC,Ld2,Lq1]at h2;omega
 simp only[Lf2,Lr,RV]at h2;have hp:=OV (a:=g.gs) (b:=g.gr) (m:=16) (n:=128) (by omega) (by omega) (by omega) (by omega);refine Ad.cut (fun z w10=>w10=w8/\z=[.bool (!(decide (4<=g.gr-1-g.no / 4)&&decide (2+g.gs*g.gr<=4096)))]) ⟨_,l0,_,l1,?_⟩ ?_
 ·rw[cF (by omega),Ag (x:=g.gr-1) (by omega) (by omega),Ag (x:=g.no / 4) (by omega) (by omega),Ag (x:=g.gr-1-g.no / 4) (by omega) (by omega)];refine Aa (fun h3=>⟨rfl,?_⟩) (fun h3=>⟨_,l2,_,l0,rfl,?_⟩)
  ·have h3:=Ld h3;rw[Lh (show ¬ (4<=g.gr-1-g.no / 4) by omega)];rfl
  ·have h3:=Lc h3;rw[Li (show 4<=g.gr-1-g.no / 4 by omega),lE,Ag (x:=g.gs*g.gr) (by omega) (by omega),Ag (by omega) (by omega),<- Ll5];have e:decide (2+g.gs*g.gr > 4096)=decide (¬ (2+g.gs*g.gr<=4096)):=by
    by_cases h:2+g.gs*g.gr<=4096
    ·rw[Lh (show ¬ (2+g.gs*g.gr > 4096) by omega),Lh (show ¬ ¬ (2+g.gs*g.gr<=4096)from fun k=>k h)]
    ·rw[Li (show 2+g.gs*g.gr > 4096 by omega),Li h]
   rw[e]
 rintro z w10 ⟨rfl,rfl⟩;refine⟨_,rfl,Aa (fun h3=>⟨_,NM,?_⟩) (fun h3=>⟨_,hat.all A5 rfl,?_⟩)⟩
 ·refine hend gZ (hno fun e=>?_);have e:=Ax.1 e;simp only[lC,Ld2,Lq1]at h3;omega
 ·simp only[Lf2,Lr,RV]at h3;refine hend g ?_;unfold Ej;rw[if_pos (Ax.2 (by omega))]
theorem WV(g:Gm):(decide (Ej g=g)&&decide ((Ej g).gs > 0))=Df g:=by
 unfold Ej;cases h:Df g with
 | true=>have:=Ax.1 h;rw[if_pos rfl];simp;omega
 | false=>rw[if_neg (by simp)];simp[gZ]
theorem GF{g:Gm}(hk:∀ w',Ab No w w'->K (.bool (Df g)) w'):A7 Yt Dh #[.agg ⟨gV g⟩] w K:=by
 apply YX;unfold SK;obtain⟨w1,a1,a2,a3,a4⟩:=AB (P:=Yt) (w:=w) (T:=83) (cs:=gV g);refine⟨_,w1,a1,_,a2.at.all A5 rfl,YO fun w2 m2=>⟨_,rfl,?_⟩⟩;obtain⟨w3,b1,b2,b3,b4⟩:=Aw (P:=Yt) (w:=w2) (T:=83) ND;obtain⟨w4,c1,c2,c3,c4⟩:=b2.put (T:=83) (vs:=gV (Ej g)) A5 rfl rfl (Vy _);have m13:=m2.no b3;have m4:=m13.own c3 m2.size;have hq:=a2.at.keep m4 id
 obtain⟨b,hb,he⟩:=geq (Ej g) g (o1:=.tmp 6) (o2:=.tmp 7);have hb':b=decide (Ej g=g):=by rw[RH,hb,cH]
 refine⟨_,w3,b1,w4,c1,Ad.dup ⟨_,c2.at.all A5 rfl,_,hq.all A5 rfl,b,he,Aa (fun h=>⟨_,c2.at.fld Ah rfl,_,rfl,?_⟩) (fun h=>⟨_,rfl,?_⟩)⟩⟩
 ·have:=WV g
  rw[<- hb',h,lE]at this;rw[this];exact hk _ (a3.no m4)
 ·have:=WV g
  rw[<- hb',h,Le5]at this;rw[this];exact hk _ (a3.no m4)
theorem So{g:Gm}(hk:∀ w',Ab No w w'->K (Yn (Bb g)) w'):A7 Yt G1 #[.agg ⟨gV g⟩] w K:=by
 apply cV;unfold Uw;obtain⟨w1,a1,a2,a3,a4⟩:=AB (P:=Yt) (w:=w) (T:=83) (cs:=gV g);refine⟨_,w1,a1,_,a2.at.all A5 rfl,GF fun w2 m2=>⟨_,rfl,Aa (fun h=>?_) (fun h=>?_)⟩⟩
 ·have e:Bb g=0:=by unfold Bb;rw[if_neg (by simpa using h)]
  rw[<- e];exact hk _ (a3.no m2)
 ·have h:Df g=true:=by simpa using h
  have hg:=Ax.1 h;have hq:=a2.at.keep m2 id;refine⟨_,hq.fld Ah rfl,_,hq.fld Ah rfl,?_⟩;have hp:=OV (a:=g.gs) (b:=g.gr) (m:=16) (n:=128) (by omega) (by omega) (by omega) (by omega);have e:Bb g=2+g.gs*g.gr:=by unfold Bb;rw[if_pos h]
  rw[Ag (x:=g.gs*g.gr) (by omega) (by omega),Ag (by omega) (by omega),<- e];exact hk _ (a3.no m2)
theorem PL{g:Gm}(hk:∀ w',Ab No w w'->K (Yn (AZ g)) w'):A7 Yt GV #[.agg ⟨gV g⟩] w K:=by
 apply YY;unfold SL;obtain⟨w1,a1,a2,a3,a4⟩:=AB (P:=Yt) (w:=w) (T:=83) (cs:=gV g);refine⟨_,w1,a1,_,a2.at.all A5 rfl,YO fun w2 m2=>⟨_,rfl,?_⟩⟩;obtain⟨w3,b1,b2,b3,b4⟩:=Aw (P:=Yt) (w:=w2) (T:=83) ND;obtain⟨w4,c1,c2,c3,c4⟩:=b2.put (T:=83) (vs:=gV (Ej g)) A5 rfl rfl (Vy _);have m4:=(m2.no b3).own c3 m2.size;refine⟨_,w3,b1,w4,c1,_,c2.at.fld Ah rfl,_,c2.at.fld Ah rfl,?_⟩
 have e:(Ej g).gs*(Ej g).no=AZ g:=by
  unfold Ej AZ;split<;>simp[gZ]
 have hb:=aC (g:=g);rw[e,Ag (by omega) (by omega)];exact hk _ (a3.no m4)
theorem NS{g:Gm}(hk:∀ w',Ab No w w'->K (Yn (AV g)) w'):A7 Yt Eu #[.agg ⟨gV g⟩] w K:=by
 apply XA;unfold QB;obtain⟨w1,a1,a2,a3,a4⟩:=AB (P:=Yt) (w:=w) (T:=83) (cs:=gV g);obtain⟨w2,b1,b2,b3,b4⟩:=Aw (P:=Yt) (w:=w1) (T:=83) ND;obtain⟨w3,c1,c2,c3,c4⟩:=b2.put (T:=83) (vs:=gV gZ) A5 rfl rfl (Vy _);have m3:Ab No w1 (Go.Den.Af w3):=(b3.own c3 (Le _)).drew;have hq:=a2.at.keep m3 id;refine⟨_,w1,a1,_,NM,_,w2,b1,w3,c1,_,hq.all A5 rfl,_,c2.at.drew.all A5 rfl,YO fun w4 m4=>⟨_,rfl,(c2.at.drew.keep m4 id).all A5 rfl,?_⟩⟩
 obtain⟨b,hb,he⟩:=geq (Ej g) gZ (o1:=.tmp 6) (o2:=.tmp 7);have hz:b=!Df g:=by
  rw[RH,hb];unfold Ej;cases h:Df g with
  | true =>
   have:=Ax.1 h
   rw[if_pos rfl];constructor
   ·intro e;rw[e]at this;simp[gZ]at this
   ·intro e;cases e
  | false=>rw[if_neg (by simp)];simp
 have M:=a3.no (m3.no m4);refine⟨b,he,Aa (fun h=>?_) (fun h=>⟨_,(hq.keep m4 id).fld Ah rfl,?_⟩)⟩
 ·have e:AV g=0:=by unfold AV;rw[if_neg (by rw[hz]at h;simpa using h)]
  rw[<- e];exact hk _ M
 ·have h:Df g=true:=by rw[hz]at h;simpa using h
  have hg:=Ax.1 h;have e:AV g=g.no / 4:=by unfold AV;rw[if_pos h]
  rw[cF (by omega),Ag (by omega) (by omega),<- e];exact hk _ M
end
end Go.Z
end
section
open Go Go.Den Go.Proofs
namespace Go.Den
def Bn(g:Gm)(k:Int):Int×Int:=if Df g=true then(if 0<=k/\k<g.gs then(2+k*g.gr,0)else(0,3))else(0,1)
def Au(g:Gm)(s:Int):Int×Int×Int:=if Df g=true then(if 0<=s/\s<AZ g then(2+s / g.no*g.gr+1+s % g.no / 4,s % g.no % 4,0)else(0,0,3))else(0,0,1)
theorem TY{g:Gm}(h:Df g=true){s:Int}(h0:0<=s)(h1:s<AZ g):0<=s / g.no/\s / g.no<g.gs/\0<=s % g.no/\s % g.no<g.no:=by
 have hg:=Ax.1 h;unfold AZ at h1;rw[if_pos h]at h1;exact⟨Int.ediv_nonneg h0 (by omega),Int.ediv_lt_of_lt_mul (by omega) h1,Ly4 _ (by omega),Int.emod_lt_of_pos _ (by omega)⟩
theorem EI{g:Gm}{s b p:Int}(h:Au g s=(b,p,0)):Df g=true/\0<=s/\s<AZ g/\2<=b/\b<Bb g/\0<=p/\p<4:=by
 unfold Au at h;by_cases hg:Df g=true
 ·rw[if_pos hg]at h;by_cases hs:0<=s/\s<AZ g
  ·rw[if_pos hs]at h;have hi:=TY hg hs.1 hs.2;have hq:=Ax.1 hg;have e1:b=2+s / g.no*g.gr+1+s % g.no / 4:=(QJ (·.1) h).symm;have e2:p=s % g.no % 4:=(QJ (·.2.1) h).symm;have hp:=OV (a:=s / g.no) (b:=g.gr) (m:=g.gs-1) (n:=g.gr) (by omega) (by omega) (by omega) (by omega);have hm:(g.gs-1)*g.gr=g.gs*g.gr-g.gr:=by rw[Int.sub_mul,Lg5]
   refine⟨hg,hs.1,hs.2,by omega,?_,by omega,by omega⟩;unfold Bb;rw[if_pos hg,e1];omega
  ·rw[if_neg hs]at h;have:=QJ (·.2.2) h;simp at this
 ·rw[if_neg hg]at h;have:=QJ (·.2.2) h;simp at this
end Go.Den
namespace Go.Z
theorem zQ{T:TypeId}{o1 o2:Operand}{a b:Int}(h0:0<=a)(h1:0<b)(_h2:a<=9223372036854775807):Al (G9 .rem T o1 o2 (Yn a) (Yn b)) (Yn (a % b)):=fun w=>by
 have:b≠0:=by omega
 rw[ER (fun w=>KD _ _ _ _ _ _ _ _ w)];simp[binOp,Op.intDiv,this,pJ h0]
theorem Ac2{T:TypeId}{o1 o2:Operand}{a b:Int}(h0:0<=a)(h1:0<b)(h2:a<=9223372036854775807):Al (G9 .quo T o1 o2 (Yn a) (Yn b)) (Yn (a / b)):=fun w=>by
 have:b≠0:=by omega
 have e:a / b<=a:=Int.ediv_le_self b h0;have e0:=Int.ediv_nonneg h0 (Int.le_of_lt h1);have ew:Yw (a / b)=a / b:=Ag (by omega) (by omega);rw[ER (fun w=>KD _ _ _ _ _ _ _ _ w)];simp[binOp,Op.intDiv,this,cF h0,ew]
section
variable{w:World}{K:Value->World->Prop}
theorem GE{g:Gm}{k:Int}(hk:∀ w',Ab No w w'->K (.tuple #[Yn (Bn g k).1,Yn (Bn g k).2]) w'):A7 Yt Ec #[.agg ⟨gV g⟩,Yn k] w K:=by
 apply cT;unfold Uu;obtain⟨w1,a1,a2,a3,a4⟩:=AB (P:=Yt) (w:=w) (T:=83) (cs:=gV g);refine⟨_,w1,a1,_,a2.at.all A5 rfl,GF fun w2 m2=>⟨_,rfl,Aa (fun h=>?_) (fun h=>?_)⟩⟩
 ·have e:Bn g k=(0,1):=by unfold Bn;rw[if_neg (by simpa using h)]
  rw[e]at hk;exact hk _ (a3.no m2)
 have h:Df g=true:=by simpa using h
 have hg:=Ax.1 h;have hq:=a2.at.keep m2 id;refine Ad.cut (fun z w3=>w3=w2/\z=[.bool (!decide (0<=k/\k<g.gs))]) (Aa (fun h2=>⟨rfl,?_⟩) (fun h2=>⟨_,hq.fld Ah rfl,rfl,?_⟩)) ?_
 ·have h2:=Ld h2;rw[Lh (by omega)];rfl
 ·have h2:=Lc h2;rw[<- Ll5];have e:decide (k >= g.gs)=decide (¬ (0<=k/\k<g.gs)):=qF.2 ⟨fun _=>by omega,fun _=>by omega⟩;rw[e]
 rintro z w3 ⟨rfl,rfl⟩;refine⟨_,rfl,Aa (fun h2=>?_) (fun h2=>⟨_,hq.fld Ah rfl,?_⟩)⟩
 ·have e:Bn g k=(0,3):=by unfold Bn;rw[if_pos h,if_neg (Lc (by simpa only [lC] using h2))]
  rw[e]at hk;exact hk _ (a3.no m2)
 ·have h2:0<=k/\k<g.gs:=by simpa using h2
  have e:Bn g k=(2+k*g.gr,0):=by unfold Bn;rw[if_pos h,if_pos h2]
  rw[e]at hk;have hp:=OV (a:=k) (b:=g.gr) (m:=16) (n:=128) (by omega) (by omega) (by omega) (by omega);rw[Ag (x:=k*g.gr) (by omega) (by omega),Ag (by omega) (by omega)];exact hk _ (a3.no m2)
theorem Vc{g:Gm}{s:Int}(h63:s<=9223372036854775807)(hk:∀ w',Ab No w w'->K (.tuple #[Yn (Au g s).1,Yn (Au g s).2.1,Yn (Au g s).2.2]) w'):A7 Yt MN #[.agg ⟨gV g⟩,Yn s] w K:=by
 apply YW;unfold SJ;obtain⟨w1,a1,a2,a3,a4⟩:=AB (P:=Yt) (w:=w) (T:=83) (cs:=gV g);refine⟨_,w1,a1,_,a2.at.all A5 rfl,GF fun w2 m2=>⟨_,rfl,Aa (fun h=>?_) (fun h=>?_)⟩⟩
 ·have e:Au g s=(0,0,1):=by unfold Au;rw[if_neg (by simpa using h)]
  rw[e]at hk;exact hk _ (a3.no m2)
 have h:Df g=true:=by simpa using h
 have hg:=Ax.1 h;have hq:=a2.at.keep m2 id;refine Ad.cut (fun z w3=>Ab No w2 w3/\z=[.bool (!decide (0<=s/\s<AZ g))]) (Aa (fun h2=>⟨Ab.refl _ _,?_⟩) (fun h2=>⟨_,hq.all A5 rfl,PL fun w3 m3=>⟨_,rfl,m3,?_⟩⟩)) ?_
 ·have h2:=Ld h2;rw[Lh (by omega)];rfl
 ·have h2:=Lc h2;rw[<- Ll5];have e:decide (s >= AZ g)=decide (¬ (0<=s/\s<AZ g)):=qF.2 ⟨fun _=>by omega,fun _=>by omega⟩;rw[e]
 rintro z w3 ⟨m3,rfl⟩;have hq3:=hq.keep m3 id;refine⟨_,rfl,Aa (fun h2=>?_) (fun h2=>?_)⟩
 ·have e:Au g s=(0,0,3):=by unfold Au;rw[if_pos h,if_neg (Lc (by simpa only [lC] using h2))]
  rw[e]at hk;exact hk _ (a3.no (m2.no m3))
 ·have h2:0<=s/\s<AZ g:=by simpa using h2
  have hi:=TY h h2.1 h2.2;refine⟨_,hq3.fld Ah rfl,_,zQ h2.1 (by omega) h63,_,hq3.drew.all A5 rfl,_,hq3.drew.fld Ah rfl,_,Ac2 h2.1 (by omega) h63,GE fun w5 m5=>⟨_,_,rfl,?_⟩⟩;have e1:Bn g (s / g.no)=(2+s / g.no*g.gr,0):=by unfold Bn;rw[if_pos h,if_pos ⟨hi.1,hi.2.1⟩]
  have e:Au g s=(2+s / g.no*g.gr+1+s % g.no / 4,s % g.no % 4,0):=by unfold Au;rw[if_pos h,if_pos h2]
  rw[e]at hk;have hp:=OV (a:=s / g.no) (b:=g.gr) (m:=16) (n:=128) (by omega) (by omega) (by omega) (by omega);rw[e1,cF (by omega),pJ (by omega),Ag (x:=2+s / g.no*g.gr+1) (by omega) (by omega),Ag (x:=s % g.no / 4) (by omega) (by omega),Ag (by omega) (by omega)];exact hk _ (a3.no (m2.no (m3.drew.no m5)))
-- the document's
end
def near(n lo hi:Int):Int:=if hi<(if lo > n then lo else n)then hi else(if lo > n then lo else n)
theorem gP{n lo hi:Int}{w:World}{K:Value->World->Prop}(h:K (Yn (near n lo hi)) w):A7 Yt Fj #[Yn n,Yn lo,Yn hi] w K:=by
 apply Pw;exact h
theorem jW{n lo hi:Int}(h:lo<=hi):near n lo hi=n↔lo<=n/\n<=hi:=by unfold near;split<;>split<;>omega
def lN(off n:Int):Bool:=decide (n<1) || decide (off<0) || decide (off > 1066496) || decide (n > 1066496-off)
def Ho(off n:Int):Int×Int:=if lN off n=true then(0,-1)else(off / 256,(off+n-1) / 256)
theorem AbY{off n:Int}{w:World}{K:Value->World->Prop}(h:K (.tuple #[Yn (Ho off n).1,Yn (Ho off n).2]) w):A7 Yt P9 #[Yn off,Yn n] w K:=by
 apply cY;unfold Uz;refine Ad.cut (fun xs w'=>xs=[.bool (lN off n)]/\w'=w) (Aa (fun hb=>?_) (fun hb=>?_)) ?_
 ·have h1:n<1:=by simpa using hb
  exact⟨by simp[lN,h1],rfl⟩
 ·have h1:¬ n<1:=by simpa using hb
  refine gP ⟨_,rfl,Aa (fun hb=>?_) (fun hb=>?_)⟩
  ·have hne:¬ (0<=off/\off<=1066496):=fun hc=>by
    rw[(jW (by omega)).2 hc]at hb;simp at hb
   refine⟨?_,rfl⟩;have:lN off n=true:=by unfold lN;simp;omega
   rw[this]
  ·have hin:0<=off/\off<=1066496:=(jW (by omega)).1 (by simpa using hb:off=near off 0 1066496).symm;refine⟨?_,rfl⟩;rw[Ag (x:=1066496-off) (by omega) (by omega)];have:lN off n=decide (n > 1066496-off):=by
    have e1:decide (n<1)=false:=by simpa using h1
    have e2:decide (off<0)=false:=by simp;omega
    have e3:decide (off > 1066496)=false:=by simp;omega
    unfold lN;rw[e1,e2,e3];rfl
   rw[this]
 ·rintro xs w1 ⟨rfl,rfl⟩;refine⟨_,rfl,Aa (fun hb=>?_) (fun hb=>?_)⟩
  ·have:=h;rw[Ho,if_pos hb]at this;exact this
  ·have hc:¬ (n<1\/off<0\/off > 1066496\/n > 1066496-off):=by unfold lN at hb;simp at hb;omega
   rw[Ag (x:=n-1) (by omega) (by omega),Ag (x:=off+(n-1)) (by omega) (by omega),cF (by omega),cF (by omega),Ag (by omega) (by omega),Ag (by omega) (by omega)]
   have:=h
   rw[Ho,if_neg (by simp[hb])]at this;rw[show off+(n-1)=off+n-1 by omega];exact this
theorem vB(off n:Int):(Ho off n=(0,-1))\/(0<=(Ho off n).1/\(Ho off n).1<=(Ho off n).2/\(Ho off n).2<=4166):=by
 unfold Ho;split
 ·exact .inl rfl
 ·rename_i hb;have hc:¬ (n<1\/off<0\/off > 1066496\/n > 1066496-off):=by unfold lN at hb;simp at hb;omega
  right;simp only;omega
def Rq(off n:Int):Int:=if (Ho off n).2<(Ho off n).1 then 0 else(Ho off n).2-(Ho off n).1+1+((Ho off n).2-(Ho off n).1+1) / 64+3
theorem dJ{off n:Int}{w:World}{K:Value->World->Prop}(h:K (Yn (Rq off n)) w):A7 Yt IH #[Yn off,Yn n] w K:=by
 apply cX;unfold Uy;refine AbY ⟨_,_,rfl,Aa (fun hb=>?_) (fun hb=>?_)⟩
 ·have hb:=Ld hb;rw[Rq,if_pos hb]at h;exact h
 ·have hb:=Lc hb;rw[Rq,if_neg hb]at h;have hin:=(vB off n).resolve_left (fun e=>by rw[e]at hb;exact hb (by decide));generalize Ho off n=s at *
  rw[Ag (x:=s.2-s.1) (by omega) (by omega),Ag (x:=s.2-s.1+1) (by omega) (by omega),cF (by omega),Ag (x:=(s.2-s.1+1) / 64) (by omega) (by omega),
   Ag (x:=s.2-s.1+1+(s.2-s.1+1) / 64) (by omega) (by omega),Ag (by omega) (by omega)]
  exact h
end Go.Z
end
section
open Go Go.Den Go.Proofs
namespace Go.Den
theorem BG.cut{w:World}{a:Option Addr}{c i m:Nat}{xs:List UInt8}(h:BG w a (A6 xs))(him:i+m<=xs.length)(hc:xs.length<=c):BG w (CL a c i 1) (A6 ((xs.drop i).take m)):=by
 by_cases hm:m=0
 ·left;subst hm;simp[A6]
 ·exact h.sub him hc (by omega)
end Go.Den
namespace Go.Z
theorem Hj:∀ k n,n<256 ^ k->D6 (AG k n)=n
 | 0,n,h=>by simp at h;simp[AG,D6,h]
 | k+1,n,h=>by
  simp only[AG,D6];rw[Hj k (n / 256) (by rw[Lb4]at h;omega)];have:(UInt8.ofNat (n % 256)).toNat=n % 256:=by rw[Lp2];omega
  rw[this];omega
theorem VK:∀(xs:List UInt8){k:Nat},xs.length=k->AG k (D6 xs)=xs
 | [],0,_=>rfl
 | c::r,k+1,h=>by
  have hc:=c.toNat_lt;have e:D6 (c::r)=c.toNat+256*D6 r:=rfl;rw[AG,e,show(c.toNat+256*D6 r) % 256=c.toNat by omega,show(c.toNat+256*D6 r) / 256=D6 r by omega,VK r (by simpa using h),UInt8.ofNat_toNat]
structure Sp where
 gen:Int
 geo:Gm
deriving DecidableEq
def sZ:Sp:=⟨0,gZ⟩
def sV(s:Sp):List Value:=Yn s.gen::gV s.geo
def Wx(s:Sp):Bool:=decide (1<=s.gen/\s.gen<=4611686018427387904)&&Df s.geo
theorem JP{s:Sp}:Wx s=true↔(1<=s.gen/\s.gen<=4611686018427387904)/\Df s.geo=true:=by
 unfold Wx;rw[Lr,cH]
def E4:List UInt8:=[76,86,69,69]
def PW(s:Sp):List UInt8:=E4++AG 8 s.gen.toNat++AG 2 s.geo.gr.toNat++AG 2 s.geo.no.toNat++AG 2 s.geo.gs.toNat
def Em(s:Sp):List UInt8:=PW s++List.replicate 234 0
def Eo(s:Sp):List UInt8:=Em s++AG 4 (cJ (Em s))
theorem PX(s:Sp):(PW s).length=18:=by simp[PW,E4]
theorem DL(s:Sp):(Em s).length=252:=by rw[Em,Lj,PX,Lw]
theorem KL(s:Sp):(Eo s).length=256:=by simp[Eo,DL]
def JO(xs:List UInt8):Sp:=⟨Yw (D6 ((xs.drop 4).take 8)),⟨D6 ((xs.drop 12).take 2),D6 ((xs.drop 14).take 2),D6 ((xs.drop 16).take 2)⟩⟩
def FF(xs:List UInt8):Sp×Int :=
 if xs.length≠256 then(sZ,4)else if xs.take 4≠E4 then(sZ,8)else if D6 (xs.drop 252)≠cJ (xs.take 252)then(sZ,7)
 else if Wx (JO xs)=false then(sZ,1)else if ((xs.drop 18).take 234).all (·==0)=false then(sZ,8)else(JO xs,0)
theorem kQ{xs:List UInt8}(h:(FF xs).2=0):Wx (FF xs).1=true/\(FF xs).1=JO xs:=by
 unfold FF at h |-
 split at h
 ·cases h
 split at h
 ·cases h
 split at h
 ·cases h
 split at h
 ·cases h
 split at h
 ·cases h
 rename_i h1 h2 h3 h4 h5;rw[if_neg h1,if_neg h2,if_neg h3,if_neg h4,if_neg h5];exact⟨by simpa using h4,rfl⟩
theorem sL{n:Nat}(h1:n<18446744073709551616)(h0:1<=Yw (n:Int)):Yw (n:Int)=n:=by
 by_cases h:n<=9223372036854775807
 ·exact Ag (by omega) (by omega)
 ·exfalso;simp only[IntKind.wrap,IntKind.bits,IntKind.signed]at h0;simp at h0;omega
theorem JK{xs:List UInt8}{i m:Nat}(h:i+m<=xs.length):D6 ((xs.drop i).take m)<256 ^ m:=by
 have:=Yl ((xs.drop i).take m)
 rwa [List.length_take_of_le (by simp;omega)]at this
theorem Hq{xs:List UInt8}{i m:Nat}(h:i+m<=xs.length):AG m (D6 ((xs.drop i).take m))=(xs.drop i).take m:=VK _ (by simp;omega)
theorem sH{xs:List UInt8}(hl:xs.length=256)(h1:xs.take 4=E4)(hs:Wx (JO xs)=true):PW (JO xs)=xs.take 18:=by
 have hg:=(JP.1 hs).1.1;have hw:=sL (n:=D6 ((xs.drop 4).take 8)) (by have:=JK (xs:=xs) (i:=4) (m:=8) (by omega);omega) hg;unfold PW;rw[<- h1];have e1:(JO xs).gen.toNat=D6 ((xs.drop 4).take 8):=by
  show(Yw _).toNat=_;rw[hw];omega
 rw[e1];show _++_++AG 2 (D6 ((xs.drop 12).take 2))++AG 2 (D6 ((xs.drop 14).take 2))++AG 2 (D6 ((xs.drop 16).take 2))=_;rw[Hq (by omega),Hq (by omega),Hq (by omega),Hq (by omega)];rw[show xs.take 18=xs.take (4+(8+(2+(2+2))))from rfl,Lt4,Lt4,Lt4,Lt4];simp only[Tb,VV]
theorem vH{xs:List UInt8}(hl:xs.length=256)(h1:xs.take 4=E4)(h2:D6 (xs.drop 252)=cJ (xs.take 252))(hs:Wx (JO xs)=true) :
  Eo (JO xs)=xs↔((xs.drop 18).take 234).all (·==0)=true:=by
 have hf:=sH hl h1 hs;have e252:xs.take 252=xs.take 18++(xs.drop 18).take 234:=by rw[show xs.take 252=xs.take (18+234)from rfl,Lt4]
 constructor
 ·intro e;have:(xs.drop 18).take 234=List.replicate 234 0:=by
   rw[<- e];unfold Eo Em;rw[VV,UB,Ls (pG (PX _)),PX,dI,VW,Ly,Lu (pG List.length_replicate.symm),Lf (pG Lw)]
  rw[this];exact cI.2 fun b hb=>by rw[(List.mem_replicate.1 hb).2];rfl
 ·intro hz;have hz:(xs.drop 18).take 234=List.replicate 234 0:=by
   apply List.eq_replicate_iff.2;refine⟨by simp;omega,fun b hb=>?_⟩
   have:=cI.1 hz b hb
   simpa using this
  have hh:Em (JO xs)=xs.take 252:=by unfold Em;rw[hf,e252,hz]
  unfold Eo;rw[hh,<- h2,VK _ (by simp;omega),wC]
def Cv(i:Int)(xs:List UInt8)(n:Int)(best:Sp):Sp :=
 if (FF xs).2=0/\(FF xs).1.gen % 2=i/\Bb (FF xs).1.geo<=n/\(FF xs).1.gen > best.gen then(FF xs).1 else best
def EU(xs ys:List UInt8)(n:Int):Sp:=Cv 1 ys n (Cv 0 xs n sZ)
def Cy(xs ys:List UInt8)(n:Int):Sp×Int×Int:=if EU xs ys n=sZ then(sZ,0,10)else(EU xs ys n,(EU xs ys n).gen % 2,0)
theorem zs{pre ys:List UInt8}{n i:Nat}(hi:pre.length=i)(_hn:ys.length<=n):A9 (A6 (pre++List.replicate n 0)) i (A6 ys)=A6 ((pre++ys)++List.replicate (n-ys.length) 0):=by
 subst hi;rw[LM]
 congr 1
 rw[List.take_left' rfl,UB,Ls (by omega),Ly,show pre.length+ys.length-pre.length=ys.length by omega,List.drop_replicate]
theorem LF(s:Sp):∀ v∈sV s,v.oneCell'=true:=by
 intro v hv;simp only[sV,gV,Lv,List.not_mem_nil,or_false]at hv;rcases hv with rfl | rfl | rfl | rfl<;>rfl
theorem UK{w:World}{T S ty:TypeId}{b o i n c:Nat}{cs:List Value}{xs:List UInt8}(hT:Hf Yt T=some 1)(hd:Av w b o cs)(hin:i+n<=cs.length)(hn:xs.length<=n) :
  ∃ w',(Builtin.copy_ #[T,S] ty #[.slice (some ⟨b,o+i,none⟩) n c,.string ⟨xs.toArray⟩]).run Yt w=.ok (Yn (xs.length:Nat)) w' /\
   Av w' b o (A9 cs i (A6 xs))/\Ab (fun x=>x=b) w w'/\w'.heap.size=w.heap.size:=by
 obtain⟨e,inf,he,hi,hk⟩:=JI hT;obtain⟨w',h1,h2,h3,h4⟩:=hd.stores (P:=Yt) (i:=i) (vs:=A6 xs) (by simp;omega) (Cu xs);refine⟨w',?_,h2,h3,h4⟩;have hm:Nat.min (ByteArray.size ⟨xs.toArray⟩) n=xs.length:=by
  have:(ByteArray.size ⟨xs.toArray⟩)=xs.length:=by simp[ByteArray.size]
  rw[this];exact Lw2 hn
 have hc:(Builtin.firstCells 1 xs.length (.string ⟨xs.toArray⟩)).run Yt w=.ok ⟨A6 xs⟩ w:=by
  have e:((ByteArray.extract ⟨xs.toArray⟩ 0 xs.length).data.map fun b:UInt8=>(Value.int .u8 b.toNat))=⟨A6 xs⟩:=by
   rw[ByteArray.extract_mk];simp[A6,u8]
  simp only[Builtin.firstCells,Sem.run_pure,e]
 simp[Builtin.copy_,AJ he,Builtin.lenOf,sizeOf,typeInfo,hi,hk,hm,hc,h1,goInt]
end Go.Z
end
section
open Go Go.Den Go.Proofs
namespace Go.Den
theorem jC{xs:List UInt8}{k:Nat}:(xs.getD k 0).toNat<256:=(xs.getD k 0).toNat_lt
def YH(xs:List UInt8)(i:Nat):List UInt8:=xs.set (i / 8) (UInt8.ofNat ((xs.getD (i / 8) 0).toNat ||| 2 ^ (i % 8)))
theorem VD(xs:List UInt8)(i:Nat):(YH xs i).length=xs.length:=by simp[YH]
theorem p8{k:Nat}:(2:Nat) ^ (k % 8)<256:=by
 have:(2:Nat) ^ (k % 8)<=2 ^ 7:=Lx2 (by omega) (by omega);omega
theorem oJ(xs:List UInt8)(i:Nat):(UInt8.ofNat ((xs.getD (i / 8) 0).toNat ||| 2 ^ (i % 8))).toNat=(xs.getD (i / 8) 0).toNat ||| 2 ^ (i % 8):=by
 have:=Li2 (n:=8) (jC (xs:=xs) (k:=i / 8)) (p8 (k:=i))
 rw[Lp2];omega
theorem NL{xs:List UInt8}{i j:Nat}(hi:i<8*xs.length):Bw (YH xs i) j=(Bw xs j || decide (i=j)):=by
 unfold Bw YH;by_cases hj:i / 8=j / 8
 ·rw[<- hj,Lp,wO (by omega)];show(UInt8.ofNat _).toNat.testBit _=_;rw[oJ,Lc4,Lb3]
  congr 1
  exact qF.2 ⟨fun h=>by omega,fun h=>by rw[h]⟩
 ·rw[Lp,wR hj,<- Lp,Lh (fun h=>hj (by rw[h])),Ls4]
theorem Sc{k j:Nat}:Bw (List.replicate k 0) j=false:=by
 unfold Bw;have:(List.replicate k (0:UInt8)).getD (j / 8) 0=0:=by
  rw[Lp,Lo3];split<;>rfl
 rw[this];exact Nat.zero_testBit _
def Ef:Nat->List UInt8
 | 0=>List.replicate 16 0
 | j+1=>YH (Ef j) j
theorem Ey:∀ m,(Ef m).length=16
 | 0=>by simp[Ef]
 | j+1=>by rw[Ef,VD,Ey j]
theorem NJ:∀{m:Nat},m<=128->∀ j,Bw (Ef m) j=decide (j<m)
 | 0,_,j=>by rw[Ef,Sc];simp
 | m+1,h,j=>by
  rw[Ef,NL (by rw[Ey];omega),NJ (by omega) j,RH];simp;omega
def QR(no:Int):List UInt8:=if no=0 then 3::List.replicate 7 0 else List.replicate 8 0
theorem Sa(no:Int):(QR no).length=8:=by unfold QR;split<;>simp
theorem PD(no:Int)(j:Nat):Bw (QR no) j=(decide (no=0)&&decide (j<2)):=by
 unfold QR;by_cases h:no=0
 ·rw[if_pos h,Li h,lE];have e:(3::List.replicate 7 (0:UInt8))=YH (YH (List.replicate 8 0) 0) 1:=by decide
  rw[e,NL (by rw[VD];simp),NL (by simp),Sc,RH];simp;omega
 ·rw[if_neg h,Lh h,Sc];rfl
structure Hd where
 no:Int
 bs:List UInt8
 ss:List UInt8
deriving DecidableEq
def hZ:Hd:=⟨0,List.replicate 16 0,List.replicate 8 0⟩
def FD(h:Hd):Prop:=h.bs.length=16/\h.ss.length=8
def hV(h:Hd):List Value:=Yn h.no::(A6 h.bs++A6 h.ss)
theorem Ap{h:Hd}(w:FD h):(hV h).length=25:=by
 obtain⟨h1,h2⟩:=w;simp[hV,h1,h2]
def AE(g:Gm)(no:Int):Hd:=⟨no,Ef (1+(AV g).toNat),QR no⟩
theorem EJ(g:Gm)(no:Int):FD (AE g no):=⟨Ey _,Sa _⟩
def Mg(g:Gm)(h:Hd):Bool:=Df g&&decide (0<=h.no/\h.no<g.gs) &&
 ((List.range 128).all fun i=>(!decide ((i:Int)<1+g.no / 4) || Bw h.bs i)&&(!decide (g.gr<=(i:Int)) || !Bw h.bs i)) &&
 ((List.range 64).all fun i=>(!decide (g.no<=(i:Int)) || !Bw h.ss i)&&(!decide (h.no=0/\i<2) || Bw h.ss i))
theorem BZ{g:Gm}{h:Hd}:Mg g h=true↔Df g=true/\(0<=h.no/\h.no<g.gs)/\(∀ i:Nat,i<128->((i:Int)<1+g.no / 4->Bw h.bs i=true)/\(g.gr<=(i:Int)->Bw h.bs i=false)) /\
  (∀ i:Nat,i<64->(g.no<=(i:Int)->Bw h.ss i=false)/\(h.no=0->i<2->Bw h.ss i=true)):=by
 unfold Mg;simp only[Lr,cI,W9,wP,lC,RV,Lq1,and_assoc];refine Ld5 fun _=>Ld5 fun _=>Ld5 fun _=>Lh5 ?_ ?_
 ·refine Lk5 fun i=>Lk5 fun _=>Lh5 ?_ ?_
  ·by_cases h1:(i:Int)<1+g.no / 4<;>simp[h1]
  ·by_cases h1:g.gr<=(i:Int)<;>simp[h1]
 ·refine Lk5 fun i=>Lk5 fun _=>Lh5 ?_ ?_
  ·by_cases h1:g.no<=(i:Int)<;>simp[h1]
  ·by_cases h1:h.no=0<;>by_cases h2:i<2<;>simp[h1,h2]
def Tq(xs ys:List UInt8):List UInt8:=xs.zipWith (fun a b=>UInt8.ofNat (a.toNat ||| b.toNat)) ys
theorem kA(a b:UInt8):(UInt8.ofNat (a.toNat ||| b.toNat)).toNat=a.toNat ||| b.toNat:=by
 have:=Li2 (n:=8) a.toNat_lt b.toNat_lt
 rw[Lp2];omega
theorem Y4:∀{xs ys:List UInt8},xs.length=ys.length->(Tq xs ys=xs↔∀ i,i<8*xs.length->Bw ys i=true->Bw xs i=true)
 | [],[],_=>by simp[Tq]
 | a::xs,b::ys,h=>by
  have ih:=Y4 (xs:=xs) (ys:=ys) (by simpa using h);have e:Tq (a::xs) (b::ys)=UInt8.ofNat (a.toNat ||| b.toNat)::Tq xs ys:=rfl;rw[e,List.cons.injEq,ih];have hb:∀(c:UInt8)(zs:List UInt8)(i:Nat),Bw (c::zs) i=if i<8 then c.toNat.testBit i else Bw zs (i-8):=fun c zs i=>by
   unfold Bw;by_cases hi:i<8
   ·rw[if_pos hi,show i / 8=0 by omega,show i % 8=i by omega];rfl
   ·rw[if_neg hi,show i / 8=(i-8) / 8+1 by omega,show i % 8=(i-8) % 8 by omega];rfl
  constructor
  ·rintro⟨h1,h2⟩ i hi;rw[hb,hb];by_cases h8:i<8
   ·rw[if_pos h8,if_pos h8];intro ht;rw[<- h1,kA,Lc4,ht,Bool.or_true]
   ·rw[if_neg h8,if_neg h8];simp at hi;exact h2 (i-8) (by omega)
  ·intro hh;constructor
   ·apply Lu3.1;rw[kA];apply Lg4;intro i;rw[Lc4];by_cases h8:i<8
    ·have:=hh i (by simp;omega)
     rw[hb,hb,if_pos h8,if_pos h8]at this;cases ht:b.toNat.testBit i with
     | true=>rw[this ht];rfl
     | false=>simp
    ·have:b.toNat.testBit i=false:=Nat.testBit_lt_two_pow (pF b.toNat_lt (Lx2 (n:=2) (by omega) (by omega:8<=i)));rw[this,Ls4]
   ·intro i hi
    have:=hh (i+8) (by simp;omega)
    rw[hb,hb,if_neg (by omega),if_neg (by omega),Nat.add_sub_cancel]at this;exact this
 | [],_::_,h=>by cases h
 | _::_,[],h=>by cases h
theorem sP{g:Gm}{h:Hd}(hw:FD h)(hg:Df g=true)(hn:0<=h.no/\h.no<g.gs) :
  ((Tq h.bs (AE g h.no).bs=h.bs/\Tq h.ss (AE g h.no).ss=h.ss)/\CE h.bs g.gr.toNat=CE h.bs 128/\CE h.ss g.no.toNat=CE h.ss 64)↔Mg g h=true:=by
 have hq:=Ax.1 hg;rw[Y4 (by rw[hw.1];exact(Ey _).symm),Y4 (by rw[hw.2];exact(Sa _).symm),hw.1,hw.2,BZ];have c1:=Hc (xs:=h.bs) (m:=g.gr.toNat) (k:=128-g.gr.toNat);have c2:=Hc (xs:=h.ss) (m:=g.no.toNat) (k:=64-g.no.toNat);rw[show g.gr.toNat+(128-g.gr.toNat)=128 by omega]at c1;rw[show g.no.toNat+(64-g.no.toNat)=64 by omega]at c2;rw[c1,c2]
 have e1:∀ i,Bw (AE g h.no).bs i=decide (i<1+(AV g).toNat):=fun i=>NJ (by unfold AV;rw[if_pos hg];omega) i;have e2:∀ i,Bw (AE g h.no).ss i=(decide (h.no=0)&&decide (i<2)):=PD _;have et:AV g=g.no / 4:=by unfold AV;rw[if_pos hg]
 constructor
 ·rintro⟨⟨h1,h2⟩,h3,h4⟩;refine⟨hg,hn,fun i hi=>⟨fun ht=>h1 i (by omega) (by rw[e1,et];exact Li (by omega)),fun ht=>h3 i (by omega) hi⟩,fun i hi=>⟨fun ht=>h4 i (by omega) hi,fun hz h2'=>h2 i (by omega) (by rw[e2,Li hz,Li h2'];rfl)⟩⟩
 ·rintro⟨_,_,h1,h2⟩;refine⟨⟨fun i hi hb=>(h1 i (by omega)).1 ?_,fun i hi hb=>?_⟩,fun i h3 h4=>(h1 i h4).2 (by omega),fun i h3 h4=>(h2 i h4).1 (by omega)⟩
  ·rw[e1,et]at hb
   have:=Ld hb
   omega
  ·rw[e2,Lr,RV,RV]at hb;exact(h2 i (by omega)).2 hb.1 hb.2
end Go.Den
end
section
open Go Go.Den
namespace Go.Den
inductive Kc where
 | i (k:IntKind)
 | s
 | b
deriving DecidableEq
def nN:Kc->Value->Prop
 | .i k,.int k' _=>k'=k
 | .s,.string _=>True
 | .b,.bool _=>True
 | _,_=>False
def F4(ks:List Kc)(xs:List Value):Prop:=ks.length=xs.length/\∀(j:Nat) k v,ks[j]?=some k->xs[j]?=some v->nN k v
theorem F4.left{ks js:List Kc}{xs:List Value}(h:F4 (ks++js) xs):F4 ks (xs.take ks.length):=by
 obtain⟨h1,h2⟩:=h;rw[Lj]at h1;refine⟨by rw[pK];omega,fun j k v hk hv=>?_⟩;have hj:=(Lq.1 hk).1;rw[Ln4,if_pos hj]at hv;exact h2 j k v (by rw[Lc2 hj];exact hk) hv
theorem F4.right{ks js:List Kc}{xs:List Value}(h:F4 (ks++js) xs):F4 js (xs.drop ks.length):=by
 obtain⟨h1,h2⟩:=h;rw[Lj]at h1;refine⟨by rw[Lf4];omega,fun j k v hk hv=>?_⟩;rw[Lm4]at hv;exact h2 (ks.length+j) k v (by rw[Lr1 (by omega)];simpa using hk) hv
section
variable{P:Program}
def eqF(f : TypeId → Option (List Kc)) : List Field → Nat → Option (List Kc)
  | [], _ => some []
  | g :: r, o => if g.offset = o ∧ (g.name == "_") = false then (match f g.type with
      | some ks => (match eqF f r (o + ks.length)with | some js => some (ks ++ js) | none => none)
      | none => none)else none
def wF(P:Program):Nat->TypeId->Option (List Kc)
 | 0,_=>none
 | d+1,t=>match P.underlying t with
  | some .bool=>some [.b]
  | some (.int k)=>some [.i k]
  | some .string=>some [.s]
  | some (.array n e)=>(match wF P d e with
   | some ks=>if D5 P t=some (n*ks.length)/\(P.info? e).isSome=true/\P.cellsOf e=ks.length then some (List.replicate n ks).flatten else none
   | none=>none)
  | some (.struct fs)=>(match eqF (wF P d) fs.toList 0 with
   | some ks=>if D5 P t=some ks.length/\P.stoodInHeld t=false then some ks else none
   | none=>none)
  | _=>none
def aS(P:Program)(T:TypeId)(xs:List Value):Value:=if (D5 P T).isSome=true then .agg ⟨xs⟩else xs.headD undef
theorem Xs{w:World}{T n:Nat}(h:D5 P T=some n){cs:List Value}{o:Nat}:(part T ⟨cs⟩ o).run P w=.ok (.agg ⟨(cs.drop o).take n⟩) w:=by
 obtain⟨h1,i,hi,hin⟩:=dM h;have e:(⟨cs⟩:Array Value).extract o (o+n)=⟨(cs.drop o).take n⟩:=by
  rw[List.extract_toArray,List.extract_eq_take_drop];simp
 simp[part,h1,sizeOf,typeInfo,hi,hin,e]
theorem WA{T:TypeId}{d:TypeDesc}(h:P.underlying T=some d)(h1:∀ fs,d≠.struct fs)(h2:∀ n e,d≠.array n e):D5 P T=none:=by
 unfold D5;rw[h];cases d<;>first | exact absurd rfl (h1 _) | exact absurd rfl (h2 _ _) | rfl
theorem Rc{w:World}{m:Nat}{t:TypeId}{ks:List Kc}(h:wF P m t=some ks){xs:List Value}{o:Nat}(hc:F4 ks ((xs.drop o).take ks.length)):(part t ⟨xs⟩ o).run P w=.ok (aS P t ((xs.drop o).take ks.length)) w:=by
 cases m with
 | zero=>cases h
 | succ m =>
  unfold wF at h;have Vx:∀(dd:TypeDesc)(k:Kc),P.underlying t=some dd->(∀ fs,dd≠.struct fs)->(∀ n e,dd≠.array n e)->ks=[k]->(part t ⟨xs⟩ o).run P w=.ok (aS P t ((xs.drop o).take ks.length)) w:=fun dd k hu n1 n2 e=>by
   subst e;have ho:o<xs.length:=by have h1:1=((xs.drop o).take 1).length:=hc.1;rw[pK,Lf4]at h1;omega
   have hv:xs[o]?=some xs[o]:=XM ho;generalize xs[o]=v at hv;have e1:(xs.drop o).take [k].length=[v]:=by
    have:(xs.drop o).take 1=[v]:=by
     rw[List.take_one];simp[List.head?_drop,hv]
    exact this
   rw[NU hu n1 n2 (by simpa using hv),e1];unfold aS;rw[WA hu n1 n2];rfl
  split at h
  ·rename_i hu;exact Vx _ _ hu (by simp) (by simp) (Lk h).symm
  ·rename_i hu;exact Vx _ _ hu (by simp) (by simp) (Lk h).symm
  ·rename_i hu;exact Vx _ _ hu (by simp) (by simp) (Lk h).symm
  ·rename_i n e hu
   split at h
   ·rename_i js hj
    split at h
    ·rename_i hh;have e:(List.replicate n js).flatten.length=n*js.length:=by simp
     have h:=Lk h;subst h;rw[Xs hh.1,e];unfold aS;rw[hh.1];rfl
    ·cases h
   ·cases h
  ·rename_i fs hu
   split at h
   ·rename_i js hj
    split at h
    ·rename_i hh;have h:=Lk h;subst h;rw[Xs hh.1];unfold aS;rw[hh.1];rfl
    ·cases h
   ·cases h
  ·cases h
theorem iQ{n:Nat}{a b:List Value}:(a.take n=b.take n/\a.drop n=b.drop n)↔a=b :=
 ⟨fun h=>by rw[<- wC n a,<- wC n b,h.1,h.2],fun h=>by rw[h];exact⟨rfl,rfl⟩⟩
def EqK(P:Program)(dd:Nat)(t:TypeId)(ks:List Kc):Prop:=∀(w:World)(xs ys:List Value),F4 ks xs->F4 ks ys->∃ r,(Op.equalIn dd t (aS P t xs) (aS P t ys)).run P w=.ok r w/\(r=true↔xs=ys)
theorem Tm{m dd : Nat}(ih : ∀ t ks, wF P m t = some ks → EqK P dd t ks)(w : World) : ∀(fs : List Field)(o : Nat)(ks : List Kc)(xs ys : List Value), eqF (wF P m) fs o = some ks → F4 ks (xs.drop o) → F4 ks (ys.drop o) →
    ∃ r, (Op.eqFields dd ⟨xs⟩ ⟨ys⟩ fs).run P w = .ok r w ∧ (r = true ↔ xs.drop o = ys.drop o)
  | [], o, ks, xs, ys, h, hx, hy => by
    have h := Lk h;subst h;have e1 : xs.drop o = [] := iA hx.1.symm;have e2 : ys.drop o = [] := iA hy.1.symm;exact⟨true, by simp[Op.eqFields], by rw[e1, e2];simp⟩
  | f :: r, o, ks, xs, ys, h, hx, hy => by
    unfold eqF at h
    split at h
    · rename_i hf
      obtain ⟨ho, hn⟩ := hf;have hn : f.name ≠ "_" := by simpa using hn
      split at h
      · rename_i k1 hk1
        split at h
        · rename_i k2 hk2
          have h := Lk h;subst h;have p1 := Rc (w := w) hk1 (xs := xs) (o := o) hx.left;have p2 := Rc (w := w) hk1 (xs := ys) (o := o) hy.left;obtain⟨b, hb, hbi⟩ := ih _ _ hk1 w _ _ hx.left hy.left;obtain⟨b2, hb2, hbi2⟩ := Tm ih w r (o + k1.length) k2 xs ys hk2 (by rw[← Tb];exact hx.right) (by rw[← Tb];exact hy.right);rw[← Tb, ← Tb]at hbi2
          have key := iQ (n := k1.length) (a := xs.drop o) (b := ys.drop o);rw[← ho]at p1 p2 hb;simp only[Op.eqFields, if_pos hn, Sem.run_bind, p1, p2, Result.andThen_ok, hb];cases b with
          | true => exact⟨b2, by simpa using hb2, by rw[hbi2, ← key];simp[hbi.1 rfl]⟩
          | false =>
            refine⟨false, by simp, ?_⟩;constructor
            · intro e;cases e
            · intro e
              have := hbi.2 (key.2 e).1
              cases this
        · cases h
      · cases h
    · cases h
theorem UO{m dd:Nat}{e:TypeId}{ks:List Kc}(hk:wF P m e=some ks)(ih:EqK P dd e ks)(w:World):∀(n i:Nat)(xs ys:List Value),F4 (List.replicate n ks).flatten (xs.drop (i*ks.length))->F4 (List.replicate n ks).flatten (ys.drop (i*ks.length)) ->
  ∃ r,(Op.eqItems dd e ks.length ⟨xs⟩ ⟨ys⟩ (List.range' i n)).run P w=.ok r w/\(r=true↔xs.drop (i*ks.length)=ys.drop (i*ks.length))
 | 0,i,xs,ys,hx,hy=>by
  have e1:xs.drop (i*ks.length)=[]:=iA hx.1.symm;have e2:ys.drop (i*ks.length)=[]:=iA hy.1.symm;exact⟨true,by simp[Op.eqItems],by rw[e1,e2];simp⟩
 | n+1,i,xs,ys,hx,hy=>by
  rw[List.replicate_succ,qB]at hx hy;have p1:=Rc (w:=w) hk (xs:=xs) (o:=i*ks.length) hx.left;have p2:=Rc (w:=w) hk (xs:=ys) (o:=i*ks.length) hy.left;obtain⟨b,hb,hbi⟩:=ih w _ _ hx.left hy.left;have e1:∀ zs:List Value,(zs.drop (i*ks.length)).drop ks.length=zs.drop ((i+1)*ks.length):=fun zs=>by rw[Tb,Lj4,Nat.one_mul]
  obtain⟨b2,hb2,hbi2⟩:=UO hk ih w n (i+1) xs ys (by rw[<- e1];exact hx.right) (by rw[<- e1];exact hy.right);rw[<- e1,<- e1]at hbi2;have key:=iQ (n:=ks.length) (a:=xs.drop (i*ks.length)) (b:=ys.drop (i*ks.length));simp only[List.range'_succ,Op.eqItems,Sem.run_bind,p1,p2,Result.andThen_ok,hb];cases b with
  | true=>exact⟨b2,by simpa using hb2,by rw[hbi2,<- key];simp[hbi.1 rfl]⟩
  | false =>
   refine⟨false,by simp,?_⟩;constructor
   ·intro e;cases e
   ·intro e
    have:=hbi.2 (key.2 e).1
    cases this
theorem rS:∀(m:Nat)(t:TypeId)(ks:List Kc),wF P m t=some ks->∀ d,EqK P (d+m) t ks
 | 0,_,_,h,_=>by cases h
 | m+1,t,ks,h,d=>by
  intro w xs ys hx hy;have h0:=h;unfold wF at h;have Vx:∀(dd:TypeDesc)(k:Kc),P.underlying t=some dd->(∀ fs,dd≠.struct fs)->(∀ n e,dd≠.array n e)->ks=[k]->(∀ u v,nN k u->nN k v->∃ r,(Op.equalIn (d+m+1) t u v).run P w=.ok r w/\(r=true↔u=v))->∃ r,(Op.equalIn (d+(m+1)) t (aS P t xs) (aS P t ys)).run P w=.ok r w/\(r=true↔xs=ys):=fun dd k hu n1 n2 e hk=>by
   subst e
   match xs,ys,hx,hy with
   | [u],[v],hx,hy =>
    have eu:∀ u,aS P t [u]=u:=fun u=>by unfold aS;rw[WA hu n1 n2];rfl
    rw[eu,eu];obtain⟨r,h1,h2⟩:=hk u v (hx.2 0 k u rfl rfl) (hy.2 0 k v rfl rfl);exact⟨r,h1,by rw[h2];simp⟩
   | [],_,hx,_=>cases hx.1
   | _::_::_,_,hx,_=>have:=hx.1;simp at this
   | [_],[],_,hy=>cases hy.1
   | [_],_::_::_,_,hy=>have:=hy.1;simp at this
  split at h
  ·rename_i hu;refine Vx _ _ hu (by simp) (by simp) (Lk h).symm fun u v hu' hv'=>?_;cases u<;>first | exact hu'.elim | skip;cases v<;>first | exact hv'.elim | skip;exact⟨_,run_equalIn_bool w (d+m) t _ _ hu,by simp⟩
  ·rename_i k hu;refine Vx _ _ hu (by simp) (by simp) (Lk h).symm fun u v hu' hv'=>?_;cases u<;>first | exact hu'.elim | skip;cases v<;>first | exact hv'.elim | skip;have e1:_=k:=hu';have e2:_=k:=hv';subst e1;subst e2;exact⟨_,run_equalIn_int w (d+m) t _ _ _ _ hu,by simp⟩
  ·rename_i hu;refine Vx _ _ hu (by simp) (by simp) (Lk h).symm fun u v hu' hv'=>?_;cases u<;>first | exact hu'.elim | skip;cases v<;>first | exact hv'.elim | skip;refine⟨_,run_equalIn_string w (d+m) t _ _ hu,?_⟩;rw[pO];exact⟨fun e=>by rw[ByteArray.toList_eq,ByteArray.toList_eq]at e;exact QJ Value.string (ByteArray.ext (Array.toList_inj.1 e)),fun e=>by rw[Value.string.inj e]⟩
  ·rename_i n e hu
   split at h
   ·rename_i js hj
    split at h
    ·rename_i hh;have h:=Lk h;subst h;have ew:∀ zs,aS P t zs=.agg ⟨zs⟩:=fun zs=>by unfold aS;rw[hh.1];rfl
     obtain⟨i,hi⟩:=Option.isSome_iff_exists.1 hh.2.1;rw[ew,ew,show d+(m+1)=(d+m)+1 from rfl,run_equalIn_array w (d+m) ⟨xs⟩ ⟨ys⟩ hu hi,hh.2.2,List.range_eq_range']
     have:=UO hj (rS m e js hj d) w n 0 xs ys (by simpa using hx) (by simpa using hy)
     simpa using this
    ·cases h
   ·cases h
  ·rename_i fs hu
   split at h
   ·rename_i js hj
    split at h
    ·rename_i hh;have h:=Lk h;subst h;have ew:∀ zs,aS P t zs=.agg ⟨zs⟩:=fun zs=>by unfold aS;rw[hh.1];rfl
     have hf:P.fieldsOf t=fs:=by unfold Program.fieldsOf;rw[hu]
     rw[ew,ew,show d+(m+1)=(d+m)+1 from rfl,run_equalIn_struct w (d+m) t ⟨xs⟩ ⟨ys⟩ (by rw[hf];exact hu) hh.2,hf]
     have:=Tm (fun t ks hk=>rS m t ks hk d) w fs.toList 0 js xs ys hj (by simpa using hx) (by simpa using hy)
     simpa using this
    ·cases h
   ·cases h
  ·cases h
theorem Rd{T:TypeId}{ks:List Kc}{n:Nat}(h:wF P 6 T=some ks)(hg:P.eqGuardType P.depth T=false)(hn:D5 P T=some n){o1 o2:Operand}{xs ys:List Value}(hx:F4 ks xs)(hy:F4 ks ys)(w:World) :
  ∃ b,(b=true↔xs=ys)/\(G9 .eql T o1 o2 (.agg ⟨xs⟩) (.agg ⟨ys⟩)).run P w=.ok (.bool b) w/\(G9 .neq T o1 o2 (.agg ⟨xs⟩) (.agg ⟨ys⟩)).run P w=.ok (.bool (!b)) w:=by
 obtain⟨b,h1,h2⟩:=rS 6 T ks h 9994 w xs ys hx hy;have ew:∀ zs,aS P T zs=.agg ⟨zs⟩:=fun zs=>by unfold aS;rw[hn];rfl
 rw[ew,ew]at h1;refine⟨b,h2,?_,?_⟩
 ·rw[ER (fun w=>run_eqGuard_agg w _ T _ _ _ _ hg),run_eql_struct,h1];rfl
 ·rw[ER (fun w=>run_eqGuard_agg w _ T _ _ _ _ hg),run_neq_struct,h1];rfl
end
end Go.Den
end
section
open Go Go.Den Go.Proofs
namespace Go.Den
section
variable{P:Program}{w:World}
theorem At.elt{T:TypeId}{b j i:Nat}{cs:List Value}{v:Value}(h:At w b 0 cs)(hT:Cw P T=true)(hv:cs[j+i]?=some v):(Instr.loadAt T (.pointer (some (Addr.add (Addr.add ⟨b,0,none⟩ j) ((i:Int).toNat*1))))).run P w=.ok v w:=by
 rw[show(i:Int).toNat*1=i by omega];exact h.fld2 hT hv
theorem Av.putE{T:TypeId}{b j i:Nat}{cs:List Value}{v:Value}(h:Av w b 0 cs)(hT:Cw P T=true)(hj:j+i<cs.length)(hv:v.oneCell'=true) :
  ∃ w',(Instr.storeAt T (.pointer (some (Addr.add (Addr.add ⟨b,0,none⟩ j) ((i:Int).toNat*1)))) v).run P w=.ok () w'/\Av w' b 0 (cs.set (j+i) v)/\Ab (fun x=>x=b) w w'/\w'.heap.size=w.heap.size:=by
 rw[show(i:Int).toNat*1=i by omega,Ae,Ae,wM];exact h.store hT hj hv
end
theorem Ae8{h:Hd}{i:Nat}(hi:i<h.bs.length):(hV h)[1+i]?=some (.int .u8 (h.bs[i].toNat:Int)):=by
 unfold hV;rw[Nat.add_comm,List.getElem?_cons_succ,Lc2 (by simpa using hi)];exact CR hi
theorem AhF{h:Hd}{i:Nat}(hb:h.bs.length=16)(hi:i<h.ss.length):(hV h)[17+i]?=some (.int .u8 (h.ss[i].toNat:Int)):=by
 unfold hV;rw[show 17+i=(16+i)+1 by omega,List.getElem?_cons_succ,Lr1 (by simp[hb]),Ai,hb,show 16+i-16=i by omega];exact CR hi
theorem LN(xs:List UInt8)(i n:Nat)(hn:n<256):(A6 xs).set i (.int .u8 (n:Int))=A6 (xs.set i (UInt8.ofNat n)):=by
 unfold A6;rw[Lp4]
 congr 1
 have:(UInt8.ofNat n).toNat=n:=by rw[Lp2];omega
 simp[u8,this]
theorem jK{h:Hd}{i n:Nat}(hi:i<h.bs.length)(hn:n<256):(hV h).set (1+i) (.int .u8 (n:Int))=hV ⟨h.no,h.bs.set i (UInt8.ofNat n),h.ss⟩:=by
 unfold hV;rw[Nat.add_comm,List.set_cons_succ,List.set_append_left _ _ (by simpa using hi),LN _ _ _ hn]
theorem jL{h:Hd}{i n:Nat}(hb:h.bs.length=16)(hn:n<256):(hV h).set (17+i) (.int .u8 (n:Int))=hV ⟨h.no,h.bs,h.ss.set i (UInt8.ofNat n)⟩:=by
 unfold hV;rw[show 17+i=(16+i)+1 by omega,List.set_cons_succ,Le2 _ _ (by simp[hb]),Ai,hb,show 16+i-16=i by omega,LN _ _ _ hn]
theorem Co(h:Hd):∀ v∈hV h,v.oneCell'=true:=by
 intro v hv;unfold hV at hv;rcases Lv.1 hv with rfl | hv
 ·rfl
 ·rcases Ln.1 hv with hv|hv
  ·exact Cu _ v hv
  ·exact Cu _ v hv
end Go.Den
namespace Go.Z
theorem Aq:D5 Yt 171=some 25:=by kernel_rfl
theorem Bh:Hs Yt 171=some (hV hZ):=by kernel_rfl
theorem Di:Al (Instr.build 171 #[]) (.agg ⟨hV hZ⟩):=fun w=>by kernel_rfl
theorem PE(n:Int):Al (Instr.build 171 #[(0,Yn n)]) (.agg ⟨hV ⟨n,List.replicate 16 0,List.replicate 8 0⟩⟩):=fun w=>by kernel_rfl
theorem Mc:MV Yt 168=some (16,1):=by kernel_rfl
theorem TI:MV Yt 169=some (8,1):=by kernel_rfl
theorem iM:D5 Yt 168=some 16:=by kernel_rfl
theorem xA:D5 Yt 169=some 8:=by kernel_rfl
theorem JR:Cw Yt 5=true:=by kernel_rfl
theorem CW:FD hZ:=⟨rfl,rfl⟩
section
variable{w:World}{K:Value->World->Prop}
theorem Ab4{g:Gm}{no:Int}(hk:∀ w',Ab No w w'->K (.agg ⟨hV (AE g no)⟩) w'):A7 Yt KY #[.agg ⟨gV g⟩,Yn no] w K:=by
 apply XD;unfold QE;obtain⟨w1,a1,a2,a3,a4⟩:=AB (P:=Yt) (w:=w) (T:=83) (cs:=gV g);obtain⟨w2,b1,b2,b3,b4⟩:=Aw (P:=Yt) (w:=w1) (T:=171) Bh;obtain⟨w3,c1,c2,c3,c4⟩:=Aw (P:=Yt) (w:=w2) (T:=171) Bh;obtain⟨w4,d1,d2,d3,d4⟩:=c2.put (T:=171) (vs:=hV ⟨no,List.replicate 16 0,List.replicate 8 0⟩) Aq (Ap CW) (Ap ⟨rfl,rfl⟩) (Co _)
 have m24:Ab No w2 w4:=c3.own d3 (Le _);refine⟨_,w1,a1,_,w2,b1,_,PE no,_,w3,c1,w4,d1,_,(a2.at.keep (b3.no m24) id).all A5 rfl,NS fun w5 m5=>⟨_,rfl,?_⟩⟩;have m25:Ab No w2 w5:=m24.no m5;have ht:0<=AV g/\AV g<=16:=by
  unfold AV;split
  ·rename_i h;have:=Ax.1 h;omega
  ·omega
 rw[Ag (x:=1+AV g) (by omega) (by omega)];refine⟨fun x w6=>∃ i:Nat,i<=1+(AV g).toNat/\x=[Yn i]/\Av w6 w2.heap.size 0 (hV ⟨no,Ef i,List.replicate 8 0⟩)/\Ab No w2 w6,fun x _=>(1+(AV g).toNat-nI x 0).toNat,⟨0,by omega,rfl,d2.keep m5 id,m25⟩,?_⟩;rintro x w6 ⟨i,hi,rfl,hat,m6⟩;refine⟨_,rfl,Aa (fun h=>?_) (fun h=>?_)⟩
 ·have h:=Ld h;have hbl:(Ef i).length=16:=Ey i;have hi8:i / 8<(Ef i).length:=by omega
  rw[cF (by omega),pJ (by omega),Ag (x:=(i:Int) / 8) (by omega) (by omega),show(i:Int) / 8=((i / 8:Nat):Int) by omega,show(i:Int) % 8=((i % 8:Nat):Int) by omega];refine⟨_,Bo Mc (by omega) (by omega),((Ef i)[i / 8].toNat:Int),hat.at.drew.elt (j:=1) JR (Ae8 hi8),_,zV (by omega),_,Bo Mc (by omega) (by omega),?_⟩;rw[TV (wQ _ (by omega)),TW ((Ef i)[i / 8].toNat_lt) (uE (wQ _ (by omega)))]
  have hlt:=Li2 (n:=8) ((Ef i)[i / 8].toNat_lt) (uE (k:=i % 8) (wQ _ (by omega)));obtain⟨w7,p1,p2,p3,p4⟩:=hat.drew.putE (P:=Yt) (T:=5) (j:=1) (i:=i / 8) (v:=.int .u8 (((Ef i)[i / 8].toNat ||| 2 ^ (i % 8):Nat):Int)) JR (by rw[Ap ⟨hbl,rfl⟩];omega) rfl;refine⟨w7,p1,?_⟩;rw[jK hi8 hlt]at p2;have e:(Ef i).set (i / 8) (UInt8.ofNat ((Ef i)[i / 8].toNat ||| 2 ^ (i % 8)))=Ef (i+1):=by
   rw[Ef,YH,Lp,XM hi8];rfl
  rw[e]at p2;rw[Ag (x:=(i:Int)+1) (by omega) (by omega)];exact⟨⟨i+1,by omega,by simp,p2,m6.drew.own p3 (Le _)⟩,by simp[nI,A2];omega⟩
 ·have h:=Lc h;have hi2:i=1+(AV g).toNat:=by omega
  subst hi2;refine Ad.cut (fun z w9=>Av w9 w2.heap.size 0 (hV (AE g no))/\Ab No w2 w9) ?_ ?_
  ·rw[Fm];refine Aa (fun h0=>?_) (fun h0=>⟨?_,m6⟩)
   ·have h0:=Ld h0;obtain⟨w8,p1,p2,p3,p4⟩:=hat.putE (P:=Yt) (T:=5) (j:=17) (i:=0) (v:=.int .u8 ((3:Nat):Int)) JR (by rw[Ap ⟨Ey _,rfl⟩];omega) rfl;refine⟨_,Bo TI (by omega) (by omega),w8,p1,?_,m6.own p3 (Le _)⟩;rw[jL (Ey _) (by omega)]at p2;have e:AE g no=⟨no,Ef (1+(AV g).toNat),(List.replicate 8 (0:UInt8)).set 0 (UInt8.ofNat 3)⟩:=by
     unfold AE QR;rw[if_pos h0];rfl
    rw[e];exact p2
   ·have h0:=Lc h0;have e:AE g no=⟨no,Ef (1+(AV g).toNat),List.replicate 8 0⟩:=by
     unfold AE QR;rw[if_neg h0]
    rw[e];exact hat
  ·rintro z w9 ⟨h9,m9⟩;have q4:=b2.keep m9 id;obtain⟨w10,e1,e2,e3,e4⟩:=q4.put (T:=171) (vs:=hV (AE g no)) Aq (Ap CW) (Ap (EJ g no)) (Co _);refine⟨_,h9.at.all Aq (Ap (EJ g no)),w10,e1,_,e2.at.all Aq (Ap (EJ g no)),hk w10 (a3.no ((b3.no m9).own e3 (Le _)))⟩
def Gi(g:Gm)(no:Int):Hd×Int:=if Df g=true/\0<=no/\no<g.gs then(AE g no,0)else(hZ,1)
theorem WY(g:Gm)(no:Int):FD (Gi g no).1:=by unfold Gi;split;exact EJ g no;exact CW
theorem WU(g:Gm)(k:Int):(Bn g k).2=0↔Df g=true/\0<=k/\k<g.gs:=by
 unfold Bn;by_cases h:Df g=true
 ·rw[if_pos h];by_cases h2:0<=k/\k<g.gs
  ·rw[if_pos h2];exact⟨fun _=>⟨h,h2⟩,fun _=>rfl⟩
  ·rw[if_neg h2];exact⟨fun e=>(by cases e),fun e=>absurd e.2 h2⟩
 ·rw[if_neg h];exact⟨fun e=>(by cases e),fun e=>absurd e.1 h⟩
theorem jA{g:Gm}{no:Int}(hk:∀ w',Ab No w w'->K (.tuple #[.agg ⟨hV (Gi g no).1⟩,Yn (Gi g no).2]) w'):A7 Yt GN #[.agg ⟨gV g⟩,Yn no] w K:=by
 apply Wf;unfold OF;obtain⟨w1,a1,a2,a3,a4⟩:=AB (P:=Yt) (w:=w) (T:=83) (cs:=gV g);obtain⟨w2,b1,b2,b3,b4⟩:=Aw (P:=Yt) (w:=w1) (T:=171) Bh;have fin:∀(w':World)(h:Hd)(e:Int),Ab No w2 w'->(h,e)=Gi g no->∃ w3:World,Gr (Instr.storeAt 171 (Yo w1.heap.size) (.agg ⟨hV h⟩)) w' w3/\∃ gR2:Array Value,Ru (Instr.loadAt 171 (Yo w1.heap.size)) w3 (.agg gR2) w3/\K (.tuple #[.agg gR2,Yn e]) w3:=fun w' h e m he=>by
  have hw:FD h:=by have:=WY g no;rw[<- he]at this;exact this
  obtain⟨w3,c1,c2,c3,c4⟩:=(b2.keep m id).put (T:=171) (vs:=hV h) Aq (Ap CW) (Ap hw) (Co _);refine⟨w3,c1,_,c2.at.all Aq (Ap hw),?_⟩
  have:=hk w3 ((a3.no (b3.no m)).own c3 a3.size)
  rw[<- he]at this;exact this
 have hq:=a2.at.keep b3 id;refine⟨_,w1,a1,_,w2,b1,_,hq.all A5 rfl,GE fun w3 m3=>⟨_,_,rfl,?_⟩⟩;rw[DN];refine Aa (fun h=>⟨_,Di,?_⟩) (fun h=>⟨_,(hq.keep m3 id).all A5 rfl,Ab4 fun w5 m5=>⟨_,rfl,?_⟩⟩)
 ·have h:=Ld h;exact fin w3 hZ 1 m3 (by unfold Gi;rw[if_neg fun e=>h ((WU g no).2 e)])
 ·have h:=Lc h;exact fin w5 _ 0 (m3.no m5) (by unfold Gi;rw[if_pos ((WU g no).1 (by omega))])
end
end Go.Z
end
section
open Go Go.Den Go.Proofs
namespace Go.Den
theorem YL:∀{x y:List UInt8},A6 x=A6 y->x=y
 | [],[],_=>rfl
 | [],_::_,h=>by cases h
 | _::_,[],h=>by cases h
 | a::x,b::y,h=>by
  have h1:u8 a::A6 x=u8 b::A6 y:=h;obtain⟨h2,h3⟩:=Li5 h1;have h4:(a.toNat:Int)=b.toNat:=by simpa [u8] using h2
  rw[YL h3,Lu3.1 (by omega:a.toNat=b.toNat)]
theorem Ig{P:Program}{T e n:Nat}{d:TypeDesc}{k:IntKind}{cs:List Value}{i:Nat}{v:Value}(hT:P.underlying T=some (.array n e))(hs:MV P T=some (n,1))(he:P.underlying e=some d)(h1:∀ fs,d≠.struct fs)(h2:∀ n e,d≠.array n e)(hi:i<n)(hv:cs[i]?=some v)(w:World) :
  (Instr.index T (.agg ⟨cs⟩) (.int k i)).run P w=.ok v w:=by
 obtain⟨e',inf,he',hinf,hk⟩:=RX hs;have:e'=e:=by rw[hT]at he';simpa using he'.symm
 subst this;have hp:(part e' ⟨cs⟩ i).run P w=.ok v w:=NU he h1 h2 (by simpa using hv);simp only[Instr.index,asIntOf,Sem.run_bind,Sem.run_pure,Result.andThen_ok,AJ hT];rw[if_pos ⟨by omega,by omega⟩];simp only[Sem.run_bind,Bx hinf,Result.andThen_ok,hk];rw[show(i:Int).toNat*1=i by omega];exact hp
theorem NT(xs ys:List UInt8)(h:xs.length=ys.length):(Tq xs ys).length=xs.length:=by simp[Tq,h]
def Nr(xs ys:List UInt8)(i:Nat):List UInt8:=(Tq xs ys).take i++List.replicate (xs.length-i) 0
theorem Vz{xs ys:List UInt8}{i:Nat}(h:xs.length=ys.length)(hi:i<=xs.length):(Nr xs ys i).length=xs.length:=by
 unfold Nr;rw[Lj,pK,NT _ _ h,Lw];omega
theorem bD{xs ys:List UInt8}{i:Nat}(h:xs.length=ys.length)(hi:i<xs.length):(Nr xs ys i).set i (UInt8.ofNat (xs[i].toNat ||| (ys[i]'(by omega)).toNat))=Nr xs ys (i+1):=by
 unfold Nr;have hl:=NT xs ys h;have e:(Tq xs ys)[i]'(by omega)=UInt8.ofNat (xs[i].toNat ||| (ys[i]'(by omega)).toNat):=by simp[Tq]
 rw[Le2 _ _ (by rw[pK];omega),pK,hl,Lw2 (by omega),dI,show xs.length-i=(xs.length-(i+1))+1 by omega,List.replicate_succ,List.set_cons_zero,
  Lx (by omega),e,VV];rfl
theorem bC{xs ys:List UInt8}(h:xs.length=ys.length):Nr xs ys xs.length=Tq xs ys:=by
 unfold Nr;rw[Lf (by rw[NT _ _ h];omega),dI];simp
def Dk(g:Gm)(h:Hd):Int×Int:=if Mg g h=true then(g.gr-CE h.bs g.gr.toNat,g.no-CE h.ss g.no.toNat)else(0,0)
end Go.Den
namespace Go.Z
theorem Ae3(xs ys:List UInt8)(hx:xs.length=16)(hy:ys.length=16){o1 o2:Operand}:Al (G9 .eql 168 o1 o2 (.agg ⟨A6 xs⟩) (.agg ⟨A6 ys⟩)) (.bool (decide (xs=ys))):=fun w=>by
 have hc:∀ xs:List UInt8,xs.length=16->F4 (List.replicate 16 (.i .u8)) (A6 xs):=fun xs hx=>⟨by simp[hx],fun j k v hk hv=>by
  have e1:k=.i .u8:=by
   rw[Lo3]at hk
   split at hk
   ·exact(Lk hk).symm
   ·cases hk
  subst e1;unfold A6 at hv;rw[qC]at hv;cases hx2:xs[j]? with
  | none=>rw[hx2]at hv;cases hv
  | some c=>rw[hx2]at hv;cases hv;rfl⟩
 obtain⟨b,hb,h1,_⟩:=Rd (P:=Yt) (T:=168) (ks:=List.replicate 16 (.i .u8)) (by kernel_rfl) (by kernel_rfl) iM (o1:=o1) (o2:=o2) (hc xs hx) (hc ys hy) w;rw[h1];have:b=decide (xs=ys):=by
  rw[RH,hb,cH];exact⟨fun e=>YL e,fun e=>by rw[e]⟩
 rw[this]
theorem Ag6(xs ys:List UInt8)(hx:xs.length=8)(hy:ys.length=8){o1 o2:Operand}:Al (G9 .eql 169 o1 o2 (.agg ⟨A6 xs⟩) (.agg ⟨A6 ys⟩)) (.bool (decide (xs=ys))):=fun w=>by
 have hc:∀ xs:List UInt8,xs.length=8->F4 (List.replicate 8 (.i .u8)) (A6 xs):=fun xs hx=>⟨by simp[hx],fun j k v hk hv=>by
  have e1:k=.i .u8:=by
   rw[Lo3]at hk
   split at hk
   ·exact(Lk hk).symm
   ·cases hk
  subst e1;unfold A6 at hv;rw[qC]at hv;cases hx2:xs[j]? with
  | none=>rw[hx2]at hv;cases hv
  | some c=>rw[hx2]at hv;cases hv;rfl⟩
 obtain⟨b,hb,h1,_⟩:=Rd (P:=Yt) (T:=169) (ks:=List.replicate 8 (.i .u8)) (by kernel_rfl) (by kernel_rfl) xA (o1:=o1) (o2:=o2) (hc xs hx) (hc ys hy) w;rw[h1];have:b=decide (xs=ys):=by
  rw[RH,hb,cH];exact⟨fun e=>YL e,fun e=>by rw[e]⟩
 rw[this]
theorem AhI{xs:List UInt8}{i:Nat}(hx:xs.length=16)(hi:i<xs.length):Al (Instr.index 168 (.agg ⟨A6 xs⟩) (Yn i)) (.int .u8 (xs[i].toNat:Int)):=Ig Tryz.underlying168 Mc Tryz.underlying5 (by simp) (by simp) (by omega) (CR hi)
theorem ix8{xs:List UInt8}{i:Nat}(hx:xs.length=8)(hi:i<xs.length):Al (Instr.index 169 (.agg ⟨A6 xs⟩) (Yn i)) (.int .u8 (xs[i].toNat:Int)):=Ig Tryz.underlying169 TI Tryz.underlying5 (by simp) (by simp) (by omega) (CR hi)
section
variable{w:World}{K:Value->World->Prop}
theorem At.bs{b:Nat}{h:Hd}(hw:FD h)(hat:At w b 0 (hV h)):At w b 1 (A6 h.bs):=by
 have:=hat.sub (i:=1) (m:=16) (by rw[Ap hw];omega)
 have e:((hV h).drop 1).take 16=A6 h.bs:=by
  unfold hV;rw[pZ,VW,Lu (by rw[Ai,hw.1];omega),Lf (by rw[Ai,hw.1];omega)]
 rw[e]at this;exact this
theorem At.ss{b:Nat}{h:Hd}(hw:FD h)(hat:At w b 0 (hV h)):At w b 17 (A6 h.ss):=by
 have:=hat.sub (i:=17) (m:=8) (by rw[Ap hw];omega)
 have e:((hV h).drop 17).take 8=A6 h.ss:=by
  unfold hV;rw[show 17=16+1 from rfl,pZ,UB,Ls (by rw[Ai,hw.1];omega),Ly,Ai,hw.1,dI,VW,Lf (by rw[Ai,hw.2];omega)]
 rw[e]at this;exact this
theorem Ni{g:Gm}{h:Hd}(hw:FD h)(hk:∀ w',Ab No w w'->K (.bool (Mg g h)) w'):A7 Yt CI #[.agg ⟨gV g⟩,.agg ⟨hV h⟩] w K:=by
 apply Wg;unfold OG;obtain⟨w1,a1,a2,a3,a4⟩:=AB (P:=Yt) (w:=w) (T:=83) (cs:=gV g);obtain⟨w2,b1,b2,b3,b4⟩:=AB (P:=Yt) (w:=w1) (T:=171) (cs:=hV h);have m2:=a3.no b3;refine⟨_,w1,a1,_,w2,b1,_,(a2.at.keep b3 id).all A5 rfl,_,b2.at.fld Ah rfl,jA fun w3 m3=>⟨_,_,rfl,?_⟩⟩;obtain⟨w4,c1,c2,c3,c4⟩:=Aw (P:=Yt) (w:=w3) (T:=171) Bh;obtain⟨w5,d1,d2,d3,d4⟩:=c2.put (T:=171) (vs:=hV (Gi g h.no).1) Aq (Ap CW) (Ap (WY _ _)) (Co _)
 have m5:Ab No w2 w5:=m3.no (c3.own d3 (Le _));refine⟨_,w4,c1,w5,d1,?_⟩;rw[DN];refine Aa (fun hh=>?_) (fun hh=>?_)
 ·have hh:=Ld hh;have e:Mg g h=false:=by
   cases ho:Mg g h with
   | false=>rfl
   | true =>
    obtain⟨h1,h2,_⟩:=BZ.1 ho;exact absurd (by unfold Gi;rw[if_pos ⟨h1,h2⟩]) hh
  rw[<- e];exact hk _ (m2.no m5)
 have hh:=Lc hh;have hg:Df g=true/\0<=h.no/\h.no<g.gs:=by
  by_cases hc:Df g=true/\0<=h.no/\h.no<g.gs
  ·exact hc
  ·exfalso;apply hh;unfold Gi;rw[if_neg hc];decide
 have ef:(Gi g h.no).1=AE g h.no:=by unfold Gi;rw[if_pos hg]
 rw[ef]at d2;have q2:=(a2.keep b3 id).keep m5 id;have q3:=b2.keep m5 id;obtain⟨w6,e1,e2,e3,e4⟩:=Aw (P:=Yt) (w:=w5) (T:=171) Bh;obtain⟨w7,f1,f2,f3,f4⟩:=e2.put (T:=171) (vs:=hV ⟨h.no,List.replicate 16 0,List.replicate 8 0⟩) Aq (Ap CW) (Ap ⟨rfl,rfl⟩) (Co _);have m7:Ab No w5 w7:=e3.own f3 (Le _);have q3':=q3.keep m7 id;have hb16:((hV h).drop 1).take 16=A6 h.bs:=by
  unfold hV;rw[pZ,VW,Lu (by rw[Ai,hw.1];omega),Lf (by rw[Ai,hw.1];omega)]
 have hs8:((hV h).drop 17).take 8=A6 h.ss:=by
  unfold hV;rw[show 17=16+1 from rfl,pZ,UB,Ls (by rw[Ai,hw.1];omega),Ly,Ai,hw.1,dI,VW,Lf (by rw[Ai,hw.2];omega)]
 refine⟨_,q3.at.fld Ah rfl,_,PE _,_,w6,e1,w7,f1,_,q3'.at.fldA iM (by rw[Ap hw];omega) hb16,?_⟩;have lb:h.bs.length=(AE g h.no).bs.length:=by rw[hw.1];exact(Ey _).symm
 have ls:h.ss.length=(AE g h.no).ss.length:=by rw[hw.2];exact(Sa _).symm
 have hw1:=hw.1;have hw2:=hw.2;have wf1:∀ i,i<=16->FD ⟨h.no,Nr h.bs (AE g h.no).bs i,List.replicate 8 0⟩:=fun i hi=>⟨by rw[Vz lb (by omega)];exact hw.1,rfl⟩;refine⟨fun x w8=>∃ i:Nat,i<=16/\x=[Yn i]/\Av w8 w5.heap.size 0 (hV ⟨h.no,Nr h.bs (AE g h.no).bs i,List.replicate 8 0⟩)/\Ab No w5 w8,fun x _=>(16-nI x 0).toNat,⟨0,by omega,rfl,?_,m7⟩,?_⟩
 ·have:Nr h.bs (AE g h.no).bs 0=List.replicate 16 0:=by unfold Nr;rw[pX,Ly,Lo5,hw.1]
  rw[this];exact f2
 rintro x w8 ⟨i,hi,rfl,hat,m8⟩;refine⟨_,rfl,Aa (fun hl=>?_) (fun hl=>?_)⟩
 ·have hl:=Ld hl;have hi1:i<h.bs.length:=by omega
  have hi2:i<(AE g h.no).bs.length:=by omega
  have hx:=(d2.keep m8 id);obtain⟨w9,p1,p2,p3,p4⟩:=hat.putE (P:=Yt) (T:=5) (j:=1) (i:=i) (v:=.int .u8 ((h.bs[i].toNat ||| (AE g h.no).bs[i].toNat:Nat):Int)) JR (by rw[Ap (wf1 i hi)];omega) rfl;refine⟨_,AhI hw.1 hi1,_,Bo Mc (by omega) (by omega),((AE g h.no).bs[i].toNat:Int),hx.at.elt (j:=1) JR (Ae8 hi2),_,Bo Mc (by omega) (by omega),w9,?_,?_⟩
  ·rw[TW (h.bs[i].toNat_lt) ((AE g h.no).bs[i].toNat_lt)];exact p1
  ·rw[jK (by rw[Vz lb (by omega)];exact hi1) (Li2 (n:=8) (h.bs[i].toNat_lt) ((AE g h.no).bs[i].toNat_lt)),bD lb hi1]at p2;rw[Ag (x:=(i:Int)+1) (by omega) (by omega)];exact⟨⟨i+1,by omega,by simp,p2,m8.own p3 (Le _)⟩,by simp[nI,A2];omega⟩
 have hl:=Lc hl;have hi16:i=16:=by omega
 subst hi16;have eb:Nr h.bs (AE g h.no).bs 16=Tq h.bs (AE g h.no).bs:=by rw[<- hw.1];exact bC lb
 rw[eb]at hat;have wf2:∀ i,i<=8->FD ⟨h.no,Tq h.bs (AE g h.no).bs,Nr h.ss (AE g h.no).ss i⟩:=fun i hi=>⟨by rw[NT _ _ lb];exact hw.1,by rw[Vz ls (by omega)];exact hw.2⟩;refine⟨_,(q3.keep m8 id).at.fldA xA (by rw[Ap hw];omega) hs8,?_⟩;refine⟨fun x w10=>∃ i:Nat,i<=8/\x=[Yn i]/\Av w10 w5.heap.size 0 (hV ⟨h.no,Tq h.bs (AE g h.no).bs,Nr h.ss (AE g h.no).ss i⟩)/\Ab No w5 w10,fun x _=>(8-nI x 0).toNat,⟨0,by omega,rfl,?_,m8⟩,?_⟩
 ·have:Nr h.ss (AE g h.no).ss 0=List.replicate 8 0:=by unfold Nr;rw[pX,Ly,Lo5,hw.2]
  rw[this];exact hat
 rintro x w10 ⟨i,hi,rfl,hat,m10⟩;refine⟨_,rfl,Aa (fun hl=>?_) (fun hl=>?_)⟩
 ·have hl:=Ld hl;have hi1:i<h.ss.length:=by omega
  have hi2:i<(AE g h.no).ss.length:=by omega
  have hx:=(d2.keep m10 id);obtain⟨w9,p1,p2,p3,p4⟩:=hat.putE (P:=Yt) (T:=5) (j:=17) (i:=i) (v:=.int .u8 ((h.ss[i].toNat ||| (AE g h.no).ss[i].toNat:Nat):Int)) JR (by rw[Ap (wf2 i hi)];omega) rfl;refine⟨_,ix8 hw.2 hi1,_,Bo TI (by omega) (by omega),((AE g h.no).ss[i].toNat:Int),hx.at.elt (j:=17) JR (AhF (Ey _) hi2),_,Bo TI (by omega) (by omega),w9,?_,?_⟩
  ·rw[TW (h.ss[i].toNat_lt) ((AE g h.no).ss[i].toNat_lt)];exact p1
  ·rw[jL (wf2 i hi).1 (Li2 (n:=8) (h.ss[i].toNat_lt) ((AE g h.no).ss[i].toNat_lt)),bD ls hi1]at p2;rw[Ag (x:=(i:Int)+1) (by omega) (by omega)];exact⟨⟨i+1,by omega,by simp,p2,m10.own p3 (Le _)⟩,by simp[nI,A2];omega⟩
 have hl:=Lc hl;have hi8:i=8:=by omega
 subst hi8;have es:Nr h.ss (AE g h.no).ss 8=Tq h.ss (AE g h.no).ss:=by rw[<- hw.2];exact bC ls
 rw[es]at hat;have wf3:FD ⟨h.no,Tq h.bs (AE g h.no).bs,Tq h.ss (AE g h.no).ss⟩:=⟨by rw[NT _ _ lb];exact hw.1,by rw[NT _ _ ls];exact hw.2⟩;have r2:=q2.keep m10 id;have r3:=q3.keep m10 id;have rowb:∀ w',Ab No w10 w'->BG w' (some ⟨w1.heap.size,1,none⟩) (A6 h.bs):=fun w' m=>.inr ⟨_,_,rfl,At.bs hw (r3.at.keep m id)⟩;have rows:∀ w',Ab No w10 w'->BG w' (some ⟨w1.heap.size,17,none⟩) (A6 h.ss):=fun w' m=>.inr ⟨_,_,rfl,At.ss hw (r3.at.keep m id)⟩
 have ad1:Addr.add ⟨w1.heap.size,0,none⟩ 1=⟨w1.heap.size,1,none⟩:=by rw[Ae]
 have ad17:Addr.add ⟨w1.heap.size,0,none⟩ 17=⟨w1.heap.size,17,none⟩:=by rw[Ae]
 have md:Ab No w10 (Go.Den.Af w10):=(Ab.refl No w10).drew;refine Ad.cut (fun z w16=>Ab No w10 w16/\z=[.bool (decide (CE h.bs g.gr.toNat=CE h.bs 128/\CE h.ss g.no.toNat=CE h.ss 64))]) ?_ ?_
 ·rw[ad1,ad17];refine⟨_,_,_,AN Mc,_,r2.at.drew.fld Ah rfl,_,_,_,AN Mc,?_⟩;refine G6 (xs:=h.bs) hw.1 (rowb _ md) (by omega) fun w12 m12=>⟨_,rfl,?_⟩;have M12:=md.no m12;refine G6 (xs:=h.bs) (n:=128) hw.1 (rowb _ M12) (by omega) fun w13 m13=>⟨_,rfl,?_⟩;have M13:=M12.no m13;rw[show Int.toNat 128=128 from rfl,Fm];refine Aa (fun hc=>⟨_,_,_,AN TI,_,(r2.keep M13 id).at.fld Ah rfl,_,_,_,AN TI,?_⟩) (fun hc=>⟨M13,?_⟩)
  ·have hc:=Ld hc;refine G6 (xs:=h.ss) hw.2 (rows _ M13) (by omega) fun w14 m14=>⟨_,rfl,?_⟩;refine G6 (xs:=h.ss) (n:=64) hw.2 (rows _ (M13.no m14)) (by omega) fun w15 m15=>⟨_,rfl,M13.no (m14.no m15),?_⟩;rw[show Int.toNat 64=64 from rfl,Fm];have hc':CE h.bs g.gr.toNat=CE h.bs 128:=by omega
   by_cases hE:CE h.ss g.no.toNat=CE h.ss 64
   ·rw[Li (show((CE h.ss g.no.toNat:Nat):Int)=((CE h.ss 64:Nat):Int) by rw[hE]),Li (show _/\_ from⟨hc',hE⟩)]
   ·rw[Lh (show ¬ ((CE h.ss g.no.toNat:Nat):Int)=((CE h.ss 64:Nat):Int) by omega),Lh fun e=>hE e.2]
  ·have hc:=Lc hc;rw[Lh fun e=>hc (by have:=e.1;omega)]
 rintro z w16 ⟨m16,rfl⟩;have s2:=r3.keep m16 id;have s7:=hat.keep m16 id;have hb16':((hV ⟨h.no,Tq h.bs (AE g h.no).bs,Tq h.ss (AE g h.no).ss⟩).drop 1).take 16=A6 (Tq h.bs (AE g h.no).bs):=by
  unfold hV;rw[pZ,VW,Lu (by rw[Ai];exact pG wf3.1.symm),Lf (by rw[Ai];exact pG wf3.1)]
 have hs8':((hV ⟨h.no,Tq h.bs (AE g h.no).bs,Tq h.ss (AE g h.no).ss⟩).drop 17).take 8=A6 (Tq h.ss (AE g h.no).ss):=by
  unfold hV;rw[show 17=16+1 from rfl,pZ,UB,Ls (by rw[Ai];exact pG wf3.1),Ly,Ai,wf3.1,dI,VW,Lf (by rw[Ai];exact pG wf3.2)]
 have M:=(m2.no m5).no (m10.no m16);have fin:∀ b:Bool,(b=true↔(Tq h.bs (AE g h.no).bs=h.bs/\Tq h.ss (AE g h.no).ss=h.ss)/\CE h.bs g.gr.toNat=CE h.bs 128/\CE h.ss g.no.toNat=CE h.ss 64)->K (.bool b) w16:=fun b hb=>by
  have e:b=Mg g h:=by rw[RH,hb];exact sP hw hg.1 hg.2
  rw[e];exact hk _ M
 refine Ad.dup ⟨_,s7.at.fldA iM (by rw[Ap wf3];omega) hb16',_,s2.at.fldA iM (by rw[Ap hw];omega) hb16,_,Ae3 _ _ wf3.1 hw.1,Aa (fun h1=>⟨_,s7.at.fldA xA (by rw[Ap wf3];omega) hs8',_,s2.at.fldA xA (by rw[Ap hw];omega) hs8,_,Ag6 _ _ wf3.2 hw.2,Aa (fun h2=>⟨_,rfl,_,rfl,fin _ ?_⟩) (fun h2=>⟨_,rfl,fin _ ?_⟩)⟩) (fun h1=>⟨_,rfl,fin _ ?_⟩)⟩
 ·have h1:=Ld h1;have h2:=Ld h2;rw[cH];exact⟨fun e=>⟨⟨h1,h2⟩,e⟩,fun e=>e.2⟩
 ·have h2:=Lc h2;exact⟨fun e=>(by cases e),fun e=>absurd e.1.2 h2⟩
 ·have h1:=Lc h1;exact⟨fun e=>(by cases e),fun e=>absurd e.1.1 h1⟩
end
theorem Bm:D5 Yt 127=some 4:=by kernel_rfl
theorem IT:Hs Yt 127=some (sV sZ):=by kernel_rfl
theorem Fp:Al (Instr.build 127 #[]) (.agg ⟨sV sZ⟩):=fun w=>by kernel_rfl
theorem WD(n:Int)(g:Gm):Al (Instr.build 127 #[(0,Yn n),(1,.agg ⟨gV g⟩)]) (.agg ⟨sV ⟨n,g⟩⟩):=fun w=>by kernel_rfl
theorem UF(a b c:Int):Al (Instr.build 83 #[(0,Yn a),(1,Yn b),(2,Yn c)]) (.agg ⟨gV ⟨a,b,c⟩⟩):=fun w=>by kernel_rfl
theorem jT:dZ Yt 57 9=true:=by kernel_rfl
section
variable{w:World}{K:Value->World->Prop}
theorem VH{s:Sp}(hk:∀ w',Ab No w w'->K (.bool (Wx s)) w'):A7 Yt CQ #[.agg ⟨sV s⟩] w K:=by
 apply Oz;unfold HS;obtain⟨w1,a1,a2,a3,a4⟩:=AB (P:=Yt) (w:=w) (T:=127) (cs:=sV s);have l0:Ru (Instr.loadAt 2 (.pointer (some (Addr.add ⟨w.heap.size,0,none⟩ 0)))) w1 (Yn s.gen) w1:=a2.at.fld Bq rfl;have no:¬ (1<=s.gen/\s.gen<=4611686018427387904)->false=Wx s:=fun h=>by unfold Wx;rw[Lh h];rfl
 refine⟨_,w1,a1,Ad.dup ⟨_,l0,Aa (fun h=>⟨_,l0,Aa (fun h2=>⟨_,a2.at.fldA (n:=3) (vs:=gV s.geo) A5 (by simp[sV,gV]) rfl,GF fun w2 m2=>⟨_,rfl,_,rfl,?_⟩⟩) (fun h2=>⟨_,rfl,?_⟩)⟩) (fun h=>⟨_,rfl,?_⟩)⟩⟩
 ·have h:=Ld h;have h2:=Ld h2;have e:Df s.geo=Wx s:=by unfold Wx;rw[Li ⟨h,h2⟩];rfl
  rw[e];exact hk _ (a3.no m2)
 ·rw[no fun e=>Lc h2 e.2];exact hk _ a3
 ·rw[no fun e=>Lc h e.1];exact hk _ a3
theorem VG{s:Sp}(h0:0<=s.gen)(hk:∀ w',Ab No w w'->K (Yn (s.gen % 2)) w'):A7 Yt BU #[.agg ⟨sV s⟩] w K:=by
 apply Oy;unfold HR;obtain⟨w1,a1,a2,a3,a4⟩:=AB (P:=Yt) (w:=w) (T:=127) (cs:=sV s);refine⟨_,w1,a1,_,a2.at.fld Bq rfl,?_⟩;rw[pJ h0];exact hk _ a3
theorem V5{b n i m l c:Nat}{pre:List UInt8}{v:Int}{K:Value->World->Prop}(hat:Av w b 0 (A6 (pre++List.replicate n 0)))(hi:pre.length=i)(hm:m<=n)(hl:l=m)(hv0:0<=v)(hv:v<=18446744073709551615)(h63:m<=9223372036854775807)
  (hk:∀ w',Ab (fun x=>x=b) w w'->w'.heap.size=w.heap.size->Av w' b 0 (A6 ((pre++AG m v.toNat)++List.replicate (n-m) 0))->K (.tuple #[]) w') :
  A7 Yt BA #[.slice (some ⟨b,0+i*1,none⟩) l c,.int .u64 (IntKind.u64.wrap v)] w K:=by
 obtain⟨k,rfl⟩:∃ k:Nat,v=k:=⟨v.toNat,by omega⟩;subst hl;rw[RG hv0 hv,Lk4];refine AeY hat (by simp;omega) h63 fun w' h1 h2 h3=>hk w' h1 h3 ?_
 have:=zs (pre:=pre) (ys:=AG l k) (n:=n) hi (by simp;omega)
 rw[AL]at this;rw[this]at h2;exact h2
theorem vG{s:Sp}(h1:Wx s=false->∀ w',Ab No w w'->K (.tuple #[.slice none 0 0,Yn 1]) w')
  (h2:Wx s=true->∀ w' q,Ab No w w'->w.heap.size<=q->Av w' q 0 (A6 (Eo s))->K (.tuple #[.slice (some ⟨q,0,none⟩) 256 256,Yn 0]) w'):A7 Yt MT #[.agg ⟨sV s⟩] w K:=by
 apply Zk;unfold SX;obtain⟨w1,a1,a2,a3,a4⟩:=AB (P:=Yt) (w:=w) (T:=127) (cs:=sV s);refine⟨_,w1,a1,_,a2.at.all Bm rfl,VH fun w2 m2=>⟨_,rfl,Aa (fun h=>h1 (by simpa using h) _ (a3.no m2)) (fun h=>?_)⟩⟩;have hs:Wx s=true:=by simpa using h
 obtain⟨⟨hg1,hg2⟩,hgeo⟩:=JP.1 hs;have hg:=Ax.1 hgeo;have hA:MV Yt 222=some (256,1):=by kernel_rfl
 obtain⟨w3,b1,b2,b3,b4⟩:=Aw (P:=Yt) (w:=w2) (T:=222) (cs:=A6 ([]++List.replicate 256 0)) (by kernel_rfl);obtain⟨w4,c1,c2,c3,c4⟩:=UK (T:=57) (S:=9) (ty:=3) (i:=0) (n:=256) (c:=256) (xs:=E4) (by kernel_rfl) b2 (by rw[Ai,Lj,Lw];exact Le _) (by simp[E4]);rw[zs (pre:=[]) (i:=0) rfl (by simp[E4])]at c2;refine⟨_,w3,b1,_,_,_,AN hA,_,w4,c1,?_⟩
 have hq0:=(a2.at.keep (m2.no b3) id);have ne:¬ (w.heap.size=w2.heap.size):=by have:=m2.size;omega
 have q4:=hq0.keep c3 (fun e=>ne e);have M4:Ab No w2 w4:=b3.own c3 (Le _);refine⟨_,_,_,NW hA (by omega) (by omega) (by omega) (by omega),_,q4.drew.fld Bq rfl,?_⟩;refine V5 (m:=8) c2.drew rfl (by simp[E4]) rfl (by omega) (by omega) (by omega) fun w5 m5 z5 d5=>⟨rfl,?_⟩;have q5:=q4.drew.keep m5 (fun e=>ne e);have M5:=M4.drew.own m5 (Le _);refine⟨_,_,_,NW hA (by omega) (by omega) (by omega) (by omega),_,q5.drew.fld2 Ah rfl,?_⟩
 refine V5 (m:=2) d5.drew (by simp[E4]) (by simp[E4]) rfl (by omega) (by omega) (by omega) fun w6 m6 z6 d6=>⟨rfl,?_⟩;have q6:=q5.drew.keep m6 (fun e=>ne e);have M6:=M5.drew.own m6 (Le _);refine⟨_,_,_,NW hA (by omega) (by omega) (by omega) (by omega),_,q6.drew.fld2 Ah rfl,?_⟩;refine V5 (m:=2) d6.drew (by simp[E4]) (by simp[E4]) rfl (by omega) (by omega) (by omega) fun w7 m7 z7 d7=>⟨rfl,?_⟩
 have q7:=q6.drew.keep m7 (fun e=>ne e);have M7:=M6.drew.own m7 (Le _);refine⟨_,_,_,NW hA (by omega) (by omega) (by omega) (by omega),_,q7.drew.fld2 Ah rfl,?_⟩;refine V5 (m:=2) d7.drew (by simp[E4]) (by simp[E4]) rfl (by omega) (by omega) (by omega) fun w8 m8 z8 d8=>⟨rfl,?_⟩;have M8:=M7.drew.own m8 (Le _);have e8:(E4++AG 8 s.gen.toNat++AG 2 s.geo.gr.toNat++AG 2 s.geo.no.toNat++AG 2 s.geo.gs.toNat)++List.replicate (256-E4.length-8-2-2-2) 0=Em s++List.replicate 4 (0:UInt8):=by
  unfold Em PW;rw[VV _ (List.replicate 234 0),List.replicate_append_replicate];rfl
 have d8':Av w8 w2.heap.size 0 (A6 (Em s++List.replicate 4 0)):=by rw[<- e8];exact d8
 refine⟨_,_,_,uX hA (by omega) (by omega),_,_,_,uW hA (by omega) (by omega),?_⟩
 have hrow:BG (Go.Den.Af w8) (some ⟨w2.heap.size,0,none⟩) (A6 (Em s)):=.inr ⟨_,_,rfl,by
  have:=d8'.at.drew.sub (i:=0) (m:=252) (by rw[Ai,Lj,DL];simp)
  rw[VW,VN,Lu (pG ((Ai _).trans (DL s)).symm),Lf (pG ((Ai _).trans (DL s)))]at this
  exact this⟩
 refine tL (xs:=Em s) (DL s) hrow (by omega) fun w9 m9=>⟨_,rfl,?_⟩;have hc:=eJ (Em s);refine V5 (m:=4) (d8'.drew.keep m9 id) (DL s) (by omega) rfl (by omega) (by omega) (by omega) fun w10 m10 z10 d10=>⟨rfl,_,_,_,AN hA,?_⟩;have M10:=(M8.drew.no m9).own m10 (Le _);refine h2 hs _ _ (a3.no (m2.no M10)) (QK (by omega) m2.size) ?_;have e:Eo s=Em s++AG 4 ((cJ (Em s):Nat):Int).toNat++List.replicate (4-4) 0:=by simp[Eo]
 rw[e];exact d10
end
theorem uO:(⟨#[76,86,69,69]⟩:ByteArray)=⟨E4.toArray⟩:=rfl
theorem dP(x y:List UInt8):(ByteArray.toList ⟨x.toArray⟩==ByteArray.toList ⟨y.toArray⟩)=decide (x=y):=by
 rw[ByteArray.toList_mk,ByteArray.toList_mk,RH,pO,cH]
theorem Aj:Hf Yt 57=some 1:=by kernel_rfl
theorem Hn:Cw Yt 57=true:=by kernel_rfl
section
variable{w:World}{K:Value->World->Prop}
theorem YJ{a:Option Addr}{l c q:Nat}{xs:List UInt8}{at':Nat}{v:Value}(hl:xs.length=l)(hc:l<=c)(hr:BG w a (A6 xs))(hb:Av w q 0 [.slice a l c])(hi:at'+2<=l)(h63:l<=1048576)
  (hv:v=.func (.func DH) #[] #[Yo q]) (hk:K (Yn (D6 ((xs.drop at').take 2):Int)) w):TH Yt v #[Yn at'] w K:=by
 refine⟨_,_,_,hv,?_⟩;show A7 Yt DH #[Yn at',Yo q] w K;apply Wj;unfold OJ;rw[Ag (x:=(at':Int)+2) (by omega) (by omega)];refine⟨_,_,_,hb.at.one Hn,_,_,_,BH Aj (by omega) (by omega) (by omega),?_⟩;have e1:(at':Int).toNat=at':=by omega
 have e2:((at':Int)+2).toNat-at'=2:=by omega
 rw[e1,e2];have hn:D6 ((xs.drop at').take 2)<256 ^ 2:=JK (by omega);refine Zq (xs:=(xs.drop at').take 2) (by simp;omega) (hr.cut (by omega) (by omega)) (by omega) ⟨_,rfl,?_⟩;rw[Lf (by simp;omega),Ag (by omega) (by omega)];exact hk
theorem vF{a:Option Addr}{l c:Nat}{xs:List UInt8}(hl:xs.length=l)(hc:l<=c)(hr:BG w a (A6 xs))(h63:l<=1048576)
  (hk:∀ w',Ab No w w'->K (.tuple #[.agg ⟨sV (FF xs).1⟩,Yn (FF xs).2]) w'):A7 Yt JB #[.slice a l c] w K:=by
 apply Zj;unfold SW;obtain⟨w1,a1,a2,a3,a4⟩:=Md (P:=Yt) (w:=w) (T:=57) (v:=.slice a l c) rfl;obtain⟨w2,b1,b2,b3,b4⟩:=Aw (P:=Yt) (w:=w1) (T:=127) IT;have m2:=a3.no b3;have q2:=a2.keep b3 id;have fin:∀(w':World)(s:Sp)(e:Int),Ab No w2 w'->(s,e)=FF xs->∃ w3:World,Gr (Instr.storeAt 127 (Yo w1.heap.size) (.agg ⟨sV s⟩)) w' w3/\∃ gR2:Array Value,Ru (Instr.loadAt 127 (Yo w1.heap.size)) w3 (.agg gR2) w3/\K (.tuple #[.agg gR2,Yn e]) w3:=fun w' s e m he=>by
  obtain⟨w3,c1,c2,c3,c4⟩:=(b2.keep m id).put (T:=127) (vs:=sV s) Bm rfl rfl (LF s);refine⟨w3,c1,_,c2.at.all Bm rfl,?_⟩
  have:=hk w3 ((m2.no m).own c3 a3.size)
  rw[<- he]at this;exact this
 refine⟨_,w1,a1,_,w2,b1,_,_,_,q2.at.one Hn,Aa (fun h=>⟨_,Fp,?_⟩) (fun h=>?_)⟩
 ·rw[DN]at h;have h:=Ld h;exact fin w2 sZ 4 (Ab.refl _ _) (by unfold FF;rw[if_pos (by omega)])
 rw[DN]at h;have hl2:xs.length=256:=by have:=Lc h;omega
 have hl':l=256:=by omega
 subst hl';have hr2:=hr.nos m2;refine⟨_,_,_,q2.at.one Hn,_,_,_,NX Aj (by omega) (by omega),_,kP (xs:=(xs.drop 0).take 4) jT (hr2.cut (by omega) (by omega)) (by simp;omega),?_⟩;rw[VW,uO,dP];refine Aa (fun h=>⟨_,Fp,?_⟩) (fun h=>?_)
 ·have h:xs.take 4≠E4:=by simpa using h
  exact fin w2 sZ 8 (Ab.refl _ _) (by unfold FF;rw[if_neg (by omega),if_pos h])
 have h4:xs.take 4=E4:=by simpa using h
 refine⟨_,_,_,q2.drew.at.one Hn,_,_,_,Gq Aj (by omega) (by omega),_,_,_,q2.drew.at.one Hn,_,_,_,NX Aj (by omega) (by omega),?_⟩;have hs4:D6 ((xs.drop 252).take 4)<256 ^ 4:=JK (by omega);have e252:(xs.drop 252).take 4=xs.drop 252:=Lf (by simp;omega);have hr2d:BG (Go.Den.Af w2) a (A6 xs):=hr.nos m2.drew;refine Zq (xs:=(xs.drop 252).take 4) (by simp;omega) (hr2d.cut (by omega) (by omega)) (by omega) ⟨_,rfl,q2.drew.at.one Hn,?_⟩
 refine tL (xs:=(xs.drop 0).take 252) (by simp;omega) (hr2d.cut (by omega) (by omega)) (by omega) fun w6 m6=>⟨_,rfl,?_⟩;have m6':Ab No w2 w6:=(Ab.refl No w2).drew.no m6;have q6:=q2.keep m6' id;have hc0:=eJ ((xs.drop 0).take 252);rw[RG (by omega) (by omega),Lf (i:=8) (by simp;omega),e252,VW,DN];rw[VW]at hc0;rw[e252]at hs4;refine Aa (fun h=>⟨_,Fp,?_⟩) (fun h=>?_)
 ·have h:=Ld h;exact fin w6 sZ 7 m6' (by unfold FF;rw[if_neg (by omega),if_neg (by simpa using h4),if_pos (by omega)])
 have hsum:D6 (xs.drop 252)=cJ (xs.take 252):=by have:=Lc h;omega
 have hr6:=hr2.nos m6';refine⟨_,_,_,q6.at.one Hn,_,_,_,BH Aj (by omega) (by omega) (by omega),?_⟩;refine Zq (xs:=(xs.drop 4).take 8) (by simp;omega) (hr6.cut (by omega) (by omega)) (by omega) ⟨_,rfl,?_⟩;rw[Lf (i:=8) (by simp;omega)];refine YJ (at':=12) (xs:=xs) (by omega) hc hr6 q6 (by omega) (by omega) rfl ⟨_,rfl,?_⟩;refine YJ (at':=14) (xs:=xs) (by omega) hc hr6 q6 (by omega) (by omega) rfl ⟨_,rfl,?_⟩
 refine YJ (at':=16) (xs:=xs) (by omega) hc hr6 q6 (by omega) (by omega) rfl ⟨_,rfl,?_⟩;refine⟨_,UF _ _ _,_,WD _ _,?_⟩;obtain⟨w12,d1,d2,d3,d4⟩:=Aw (P:=Yt) (w:=w6) (T:=127) IT;obtain⟨w13,e1,e2,e3,e4⟩:=d2.put (T:=127) (vs:=sV (JO xs)) Bm rfl rfl (LF _);have m13:Ab No w6 w13:=d3.own e3 (Le _);refine⟨_,w12,d1,w13,e1,_,e2.at.all Bm rfl,VH fun w14 m14=>⟨_,rfl,Aa (fun h=>⟨_,Fp,?_⟩) (fun h=>?_)⟩⟩
 ·exact fin w14 sZ 1 (m6'.no (m13.no m14)) (by unfold FF;rw[if_neg (by omega),if_neg (by simpa using h4),if_neg (by omega),if_pos (by simpa using h)])
 have hok:Wx (JO xs)=true:=by simpa using h
 have m14':Ab No w2 w14:=m6'.no (m13.no m14);refine⟨_,_,_,(q2.keep m14' id).at.one Hn,_,_,_,BH Aj (by omega) (by omega) (by omega),?_⟩;refine TU (xs:=(xs.drop 18).take 234) (by simp;omega) ((hr2.nos m14').cut (by omega) (by omega)) (by omega) ⟨_,rfl,Aa (fun h=>⟨_,Fp,?_⟩) (fun h=>⟨_,(e2.keep m14 id).at.all Bm rfl,?_⟩)⟩
 ·exact fin w14 sZ 8 m14' (by unfold FF;rw[if_neg (by omega),if_neg (by simpa using h4),if_neg (by omega),if_neg (by rw[hok];simp),if_pos (by simpa using h)])
 ·exact fin w14 (JO xs) 0 m14' (by unfold FF;rw[if_neg (by omega),if_neg (by simpa using h4),if_neg (by omega),if_neg (by rw[hok];simp),if_neg (by simpa using h)])
theorem lU(a a':Option Addr)(l c l' c':Nat):Al (Instr.build 239 #[(0,.slice a l c),(1,.slice a' l' c')]) (.agg ⟨[.slice a l c,.slice a' l' c']⟩):=fun w=>by kernel_rfl
theorem AfR(a a':Option Addr)(l c l' c':Nat):Al (Instr.index 239 (.agg ⟨[.slice a l c,.slice a' l' c']⟩) (Yn 0)) (.slice a l c):=fun w=>by kernel_rfl
theorem AfS(a a':Option Addr)(l c l' c':Nat):Al (Instr.index 239 (.agg ⟨[.slice a l c,.slice a' l' c']⟩) (Yn 1)) (.slice a' l' c'):=fun w=>by kernel_rfl
theorem seq(s t:Sp){o1 o2:Operand}:∃ b,(b=true↔s=t)/\Al (G9 .eql 127 o1 o2 (.agg ⟨sV s⟩) (.agg ⟨sV t⟩)) (.bool b):=by
 refine⟨decide (s=t),cH,fun w=>?_⟩
 have hc:∀ s:Sp,F4 [.i .i64,.i .i64,.i .i64,.i .i64] (sV s):=fun s=>⟨rfl,fun j k v hk hv=>by
  match j with
  | 0=>cases hk;cases hv;rfl
  | 1=>cases hk;cases hv;rfl
  | 2=>cases hk;cases hv;rfl
  | 3=>cases hk;cases hv;rfl
  | j+4=>cases hk⟩
 obtain⟨b,hb,h1,_⟩:=Rd (P:=Yt) (T:=127) (by kernel_rfl) (by kernel_rfl) Bm (o1:=o1) (o2:=o2) (hc s) (hc t) w;rw[h1];have:b=decide (s=t):=by
  rw[RH,hb,cH];obtain⟨g,a,b,c⟩:=s;obtain⟨g',a',b',c'⟩:=t;simp[sV,gV]
 rw[this]
theorem V3{i n:Int}{xs:List UInt8}{b:Sp}(hb:0<=b.gen):0<=(Cv i xs n b).gen:=by
 unfold Cv;split
 ·rename_i h;omega
 ·exact hb
def Ab6(xs ys:List UInt8)(n:Int):Nat->Sp
 | 0=>sZ
 | 1=>Cv 0 xs n sZ
 | _=>EU xs ys n
theorem bT{a1 a2:Option Addr}{l1 l2 c1 c2:Nat}{xs ys:List UInt8}{n:Int}(hl1:xs.length=l1)(hc1:l1<=c1)(hr1:BG w a1 (A6 xs))(h631:l1<=1048576)(hl2:ys.length=l2)(hc2:l2<=c2)(hr2:BG w a2 (A6 ys))(h632:l2<=1048576)
  (hk:∀ w',Ab No w w'->K (.tuple #[.agg ⟨sV (Cy xs ys n).1⟩,Yn (Cy xs ys n).2.1,Yn (Cy xs ys n).2.2]) w'):A7 Yt II #[.slice a1 l1 c1,.slice a2 l2 c2,Yn n] w K:=by
 apply Ul;unfold MF;obtain⟨w1,x1,x2,x3,x4⟩:=Aw (P:=Yt) (w:=w) (T:=127) IT;obtain⟨w2,y1,y2,y3,y4⟩:=Aw (P:=Yt) (w:=w1) (T:=127) IT;obtain⟨w3,z1,z2,z3,z4⟩:=y2.put (T:=127) (vs:=sV sZ) Bm rfl rfl (LF _);have m3:Ab No w1 w3:=y3.own z3 (Le _);have m03:Ab No w w3:=x3.no m3;have ne:w.heap.size<w1.heap.size:=by omega
 refine⟨_,w1,x1,_,Fp,_,w2,y1,w3,z1,_,lU _ _ _ _ _ _,?_⟩;have round:∀(i:Nat)(a:Option Addr)(l c:Nat)(xs:List UInt8)(b:Sp)(w4:World)(R:List Value->World->Prop),i<2->xs.length=l->l<=c->BG w a (A6 xs)->l<=1048576->0<=b.gen->Av w4 w1.heap.size 0 (sV b)->Ab No w1 w4 ->
   (∀ w' y,Av w' w1.heap.size 0 (sV (Cv i xs n b))->Ab No w1 w'->R [Yn ((i+1:Nat):Int),y] w')->A7 Yt JB #[.slice a l c] w4 fun r25 w5=>∃ g25a:Array Value,∃ n25b:Int,r25=.tuple #[.agg g25a,Yn n25b]/\∃ q12:Addr,∃ w6:World,Ru (Instr.alloc 127 true (.tuple #[])) w5 (.pointer (some q12)) w6/\∃ w7:World,Gr (Instr.storeAt 127 (.pointer (some q12)) (.agg g25a)) w6 w7/\Ad (fun k_2=>(bif n25b==0 then ∃ g31:Array Value,Ru (Instr.loadAt 127 (.pointer (some q12))) w7 (.agg g31) w7/\A7 Yt BU #[.agg g31] w7 fun r32 w8=>∃ n32:Int,r32=Yn n32/\(bif n32==(i:Int)then ∃ g38:Array Value,Ru (Instr.loadAt 83 (.pointer (some (Addr.add q12 1)))) w8 (.agg g38) w8/\A7 Yt G1 #[.agg g38] w8 fun r39 w9=>∃ n39:Int,r39=Yn n39/\(bif decide (n39<=n)then ∃ n45:Int,Ru (Instr.loadAt 2 (.pointer (some (Addr.add q12 0)))) w9 (Yn n45) w9/\∃ n47:Int,Ru (Instr.loadAt 2 (.pointer (some (Addr.add ⟨w1.heap.size,0,none⟩ 0)))) w9 (Yn n47) w9/\k_2 [.bool (decide (n45 > n47))] w9 else k_2 [.bool false] w9)else k_2 [.bool false] w8)else k_2 [.bool false] w7)) fun x_2 w10 =>
     ∃ b49:Bool,A2 x_2 0=.bool b49/\Ad (fun k_3=>(bif b49 then
      ∃ g50:Array Value,Ru (Instr.loadAt 127 (.pointer (some q12))) w10 (.agg g50) w10/\∃ w11:World,Gr (Instr.storeAt 127 (Yo w1.heap.size) (.agg g50)) w10 w11/\k_3 [] w11
      else k_3 [] w10)) fun x_3 w12=>R [Yn (Yw ((i:Int)+1)),.bool b49] w12:=by
  intro i a l c xs b w4 R hi hl hc hr h63 hb hat m4 hend;refine vF (xs:=xs) hl hc (hr.nos (x3.no m4)) h63 fun w5 m5=>⟨_,_,rfl,?_⟩;obtain⟨w6,d1,d2,d3,d4⟩:=Aw (P:=Yt) (w:=w5) (T:=127) IT;obtain⟨w7,e1,e2,e3,e4⟩:=d2.put (T:=127) (vs:=sV (FF xs).1) Bm rfl rfl (LF _);have m7:Ab No w5 w7:=d3.own e3 (Le _);have m47:Ab No w4 w7:=m5.no m7;have hb7:=hat.keep m47 id
  refine⟨_,w6,d1,w7,e1,Ad.cut (fun z w10=>Ab No w7 w10/\z=[.bool (decide ((FF xs).2=0/\(FF xs).1.gen % 2=(i:Int)/\Bb (FF xs).1.geo<=n/\(FF xs).1.gen > b.gen))]) ?_ ?_⟩
  ·have no:∀{p:Prop} [Decidable p],¬ p->[Value.bool false]=[.bool (decide p)]:=fun h=>by rw[Lh h]
   rw[Fm];refine Aa (fun h=>⟨_,e2.at.all Bm rfl,?_⟩) (fun h=>⟨Ab.refl _ _,no fun e=>Lc h e.1⟩);have h:=Ld h;have hok:=(kQ h).1;have hg:=(JP.1 hok).1.1;refine VG (by omega) fun w8 m8=>⟨_,rfl,?_⟩;have q8:=e2.keep m8 id;rw[Fm];refine Aa (fun h2=>⟨_,q8.at.fldA (n:=3) (vs:=gV (FF xs).1.geo) A5 (by simp[sV,gV]) rfl,So fun w9 m9=>⟨_,rfl,?_⟩⟩) (fun h2=>⟨m8,no fun e=>Lc h2 e.2.1⟩)
   have h2:=Ld h2;have m79:=m8.no m9;refine Aa (fun h3=>⟨_,(q8.keep m9 id).at.fld Bq rfl,_,(hb7.keep m79 id).at.fld Bq rfl,m79,?_⟩) (fun h3=>⟨m79,no fun e=>Lc h3 e.2.2.1⟩);have h3:=Ld h3;by_cases h4:(FF xs).1.gen > b.gen
   ·rw[Li h4,Li (show _/\_/\_/\_ from⟨h,h2,h3,h4⟩)]
   ·rw[Lh h4];exact no fun e=>h4 e.2.2.2
  rintro z w10 ⟨m10,rfl⟩;have M10:Ab No w1 w10:=m4.no (m47.no m10);rw[Ag (x:=(i:Int)+1) (by omega) (by omega)];refine⟨_,rfl,Ad.dup (Aa (fun h=>⟨_,(e2.keep m10 id).at.all Bm rfl,?_⟩) (fun h=>?_))⟩
  ·have h:=Ld h;obtain⟨w11,f1,f2,f3,f4⟩:=((hb7.keep m10 id)).put (T:=127) (vs:=sV (FF xs).1) Bm rfl rfl (LF _);have e:Cv i xs n b=(FF xs).1:=by unfold Cv;rw[if_pos h]
   refine⟨w11,f1,?_⟩
   have:=hend w11 (.bool true) (by rw[e];exact f2) (M10.own f3 (Le _))
   rwa [Li h]
  ·have h:=Lc h;have e:Cv i xs n b=b:=by unfold Cv;rw[if_neg h]
   have:=hend w10 (.bool false) (by rw[e];exact hb7.keep m10 id) M10
   rwa [Lh h]
 obtain⟨I,hI⟩:∃ I:List Value->World->Prop,I=fun x w4=>∃(i:Nat)(y:Value),i<=2/\x=[Yn i,y]/\Av w4 w1.heap.size 0 (sV (Ab6 xs ys n i))/\Ab No w1 w4:=⟨_,rfl⟩;refine⟨I,fun x _=>(2-nI x 0).toNat,by rw[hI];exact⟨0,_,by omega,rfl,z2,m3⟩,?_⟩;intro x w4 hx;have hx':=hx;rw[hI]at hx';obtain⟨i,y,hi,rfl,hat,m4⟩:=hx';refine⟨_,rfl,Aa (fun h=>?_) (fun h=>?_)⟩
 ·have h:=Ld h;rcases(by omega:i=0\/i=1)with rfl | rfl
  ·refine⟨_,_,_,AfR _ _ _ _ _ _,round 0 a1 l1 c1 xs sZ w4 (fun x' w'=>I x' w'/\(2-nI x' 0).toNat<(2-nI [Yn ((0:Nat):Int),y] 0).toNat) (by omega) hl1 hc1 hr1 h631 (by decide) hat m4 fun w' y f1 f2=>⟨?_,by simp[nI,A2]⟩⟩;rw[hI];exact⟨1,y,by omega,rfl,f1,f2⟩
  ·refine⟨_,_,_,AfS _ _ _ _ _ _,round 1 a2 l2 c2 ys (Cv 0 xs n sZ) w4 (fun x' w'=>I x' w'/\(2-nI x' 0).toNat<(2-nI [Yn ((1:Nat):Int),y] 0).toNat) (by omega) hl2 hc2 hr2 h632 (V3 (by decide)) hat m4 fun w' y f1 f2=>⟨?_,by simp[nI,A2]⟩⟩;rw[hI];exact⟨2,y,by omega,rfl,f1,f2⟩
 ·have h:=Lc h;have hi2:i=2:=by omega
  subst hi2;have hat:Av w4 w1.heap.size 0 (sV (EU xs ys n)):=hat;obtain⟨w13,d1,d2,d3,d4⟩:=Aw (P:=Yt) (w:=w4) (T:=127) IT;obtain⟨w14,e1,e2,e3,e4⟩:=d2.put (T:=127) (vs:=sV sZ) Bm rfl rfl (LF _);have m14:Ab No w4 w14:=d3.own e3 (Le _);have M14:Ab No w1 w14:=m4.no m14;have q9:=hat.keep m14 id;have q6:=x2.keep M14 id;obtain⟨b,hb,he⟩:=seq (EU xs ys n) sZ (o1:=.tmp 53) (o2:=.tmp 54)
  refine⟨_,Fp,_,w13,d1,w14,e1,_,q9.at.all Bm rfl,_,e2.at.all Bm rfl,b,he,Aa (fun h=>⟨_,q9.at.all Bm rfl,?_⟩) (fun h=>⟨_,q9.drew.at.all Bm rfl,_,q9.drew.at.all Bm rfl,?_⟩)⟩
  ·have hz:=hb.1 h;obtain⟨w15,f1,f2,f3,f4⟩:=q6.put (T:=127) (vs:=sV (EU xs ys n)) Bm rfl rfl (LF _);refine⟨w15,f1,_,f2.at.all Bm rfl,?_⟩;have hr:=hk w15 ((x3.no M14).own f3 (Le _));unfold Cy at hr;rw[if_pos hz]at hr;rw[hz];exact hr
  ·have hz:EU xs ys n≠sZ:=fun e=>by rw[hb.2 e]at h;cases h
   refine VG (V3 (V3 (by decide))) fun w16 m16=>⟨_,rfl,(q9.drew.keep m16 id).at.all Bm rfl,?_⟩;have m16':Ab No w14 w16:=(Ab.refl No w14).drew.no m16;obtain⟨w17,f1,f2,f3,f4⟩:=(q6.keep m16' id).put (T:=127) (vs:=sV (EU xs ys n)) Bm rfl rfl (LF _);refine⟨w17,f1,_,f2.at.all Bm rfl,?_⟩;have hr:=hk w17 ((x3.no (M14.no m16')).own f3 (Le _));unfold Cy at hr
   rw[if_neg hz]at hr;exact hr
end
end Go.Z
end
section
open Go Go.Den Go.Proofs
namespace Go.Den
section
variable{P:Program}{w:World}
theorem Ow.set{base l c g i:Nat}{T T':TypeId}{ys:List Value}{v:Value}(h:Ow P w base T 1 (some ⟨g,0,none⟩) l c ys)(hT:Cw P T'=true)(hi:i<l)(hv:v.oneCell'=true) :
  ∃ w',(Instr.storeAt T' (.pointer (some ⟨g,i,none⟩)) v).run P w=.ok () w'/\Ow P w' base T 1 (some ⟨g,0,none⟩) l c (ys.set i v)/\Ab (fun x=>x=g) w w':=by
 have hlen:=h.len;obtain⟨e,he,h1,h2⟩:=h;rcases h2 with ⟨hn,_⟩ | ⟨g',cap,H5,hw,hb,hg,hle,hm,hsz,ht⟩
 ·cases hn
 ·simp at hw;obtain⟨rfl,rfl⟩:=hw;have hcur:w.heap[g]?=some (.cells ⟨H5.toList⟩ e (0,0)):=hg;have hci:i<H5.toList.length:=by simp[hsz];omega
  refine⟨_,VF hT hcur hci (by simp) hv,⟨e,he,by simpa using h1,.inr ⟨g,c,⟨H5.toList.set i v⟩,rfl,hb,AX (AM hg),hle,hm,by simp[hsz],?_⟩⟩,(Ab.refl (fun x=>x=g) w).put (.inr rfl) _⟩;show(H5.toList.set i v).take (l*1)=ys.set i v;rw[List.take_set,ht]
theorem Ow.shrink{base l c i:Nat}{T:TypeId}{a:Option Addr}{ys:List Value}(h:Ow P w base T 1 a l c ys)(hi:i<=l)(ha:a≠none):Ow P w base T 1 a i c (ys.take i):=by
 have hlen:=h.len;obtain⟨e,he,h1,h2⟩:=h;rcases h2 with ⟨hn,_⟩ | ⟨g',cap,H5,hw,hb,hg,hle,hm,hsz,ht⟩
 ·simp at hn;exact absurd hn.1 ha
 ·simp at hw;obtain⟨rfl,rfl⟩:=hw;refine⟨e,he,by simp;omega,.inr ⟨g',c,H5,rfl,hb,hg,by omega,hm,hsz,?_⟩⟩;rw[<- ht,La4,Lw2 (by omega)];simp
theorem Ow.clear{base bytes l c g i:Nat}{T ty:TypeId}{z:Value}{ys:List Value}(hT:EG P T 1 z bytes)(h:Ow P w base T 1 (some ⟨g,0,none⟩) l c ys)(hi:i<=l)(hz:z.oneCell'=true) :
  ∃ w' zs,(Builtin.clear_ #[T] ty #[.slice (CL (some ⟨g,0,none⟩) c i 1) (l-i) (c-i)]).run P w=.ok (.tuple #[]) w'/\Ow P w' base T 1 (some ⟨g,0,none⟩) l c (ys.take i++zs)/\Ab (fun x=>x=g) w w':=by
 have hlen:=h.len;have hcap:=h.cap;obtain⟨e0,inf,zv,he0,hinf,hsz0,hz0,hzc,hby⟩:=hT.is;by_cases h0:l-i=0
 ·refine⟨w,[],?_,?_,Ab.refl _ _⟩
  ·rw[h0];unfold CL;split<;>simp[Builtin.clear_,AJ he0]
  ·have:ys.take i=ys:=Lf (by omega);rw[this,iB];exact h
 ·obtain⟨e,he,h1,h2⟩:=h;have hee:e=e0:=by rw[he0]at he;simpa using he.symm
  subst hee;rcases h2 with ⟨hn,_⟩ | ⟨g',cap,H5,hw,hb,hg,hle,hm,hsz,ht⟩
  ·cases hn
  ·simp at hw;obtain⟨rfl,rfl⟩:=hw;have hcur:w.heap[g]?=some (.cells ⟨H5.toList⟩ e (0,0)):=hg;have hcut:CL (some ⟨g,0,none⟩) c i 1=some ⟨g,i,none⟩:=by
    unfold CL;rw[if_neg (by omega)];simp[Ae]
   have hzl:(Builtin.zeroCells zv.cells (l-i)).toList.length=l-i:=by
    rw[Array.length_toList,size_zeroCells,hzc];simp
   have hzone:∀ v∈(Builtin.zeroCells zv.cells (l-i)).toList,v.oneCell'=true:=by
    intro v hv;have:v=z:=by
     unfold Builtin.zeroCells at hv;rw[hzc]at hv;simp at hv;obtain⟨_,_,rfl⟩:=hv;rw[Nat.mod_one];rfl
    rw[this];exact hz
   have hs:=Hp (P:=P) (Builtin.zeroCells zv.cells (l-i)).toList (o:=i) (i:=0) hcur (by rw[hzl];simp[hsz];omega) (fun j _ _=>by simp) hzone;refine⟨_,(Builtin.zeroCells zv.cells (l-i)).toList,?_,⟨e,he,by simp[hzl];omega,.inr ⟨g,c,⟨A9 H5.toList i (Builtin.zeroCells zv.cells (l-i)).toList⟩,rfl,hb,AX (AM hg),hle,hm,?_,?_⟩⟩,(Ab.refl (fun x=>x=g) w).put (.inr rfl) _⟩
   ·rw[hcut];obtain⟨k,hk⟩:∃ k,l-i=k+1:=⟨l-i-1,by omega⟩;rw[hk]at hs |-;have hund:(underlying T).run P w=.ok (.slice e) w:=AJ he w;simp[Builtin.clear_,hund,zeroValue,typeInfo,hinf,hz0,hs]
   ·show(A9 H5.toList i _).length=c*1;rw[Bp (by rw[hzl];simp[hsz];omega)];simp[hsz]
   ·show(A9 H5.toList i _).take (l*1)=_;unfold A9;rw[Lk4]at ht |-;have e1:ys.take i=H5.toList.take i:=by rw[<- ht,La4,Lw2 hi]
    have hl2:(H5.toList.take i++(Builtin.zeroCells zv.cells (l-i)).toList).length=l:=by rw[Lj,hzl];simp[hsz];omega
    rw[e1,Lu (by omega),Lf (by omega)]
end
end Go.Den
end
section
open Go Go.Den Go.Proofs
namespace Go.Den
def Gk{α:Type}(p:α->Bool):List α->Nat->Int
 | [],_=>-1
 | x::r,i=>if p x=true then i else Gk p r (i+1)
theorem GG{α:Type}(p:α->Bool):∀(xs:List α)(i:Nat),(Gk p xs i=-1/\∀ x∈xs,p x=false)\/∃ j x,Gk p xs i=((i+j:Nat):Int)/\xs[j]?=some x/\p x=true/\∀ y∈xs.take j,p y=false
 | [],_=>.inl ⟨rfl,by simp⟩
 | x::r,i=>by
  simp only[Gk];by_cases hp:p x=true
  ·rw[if_pos hp];exact .inr ⟨0,x,by simp,rfl,hp,by simp⟩
  ·rw[if_neg hp];have hp:p x=false:=by simpa using hp
   rcases GG p r (i+1)with ⟨h1,h2⟩|⟨j,y,h1,h2,h3,h4⟩
   ·refine .inl ⟨h1,fun y hy=>?_⟩;rcases Lv.1 hy with rfl | hy
    ·exact hp
    ·exact h2 y hy
   ·refine .inr ⟨j+1,y,by rw[h1];congr 1;omega,by simpa using h2,h3,fun z hz=>?_⟩;rw[List.take_succ_cons]at hz;rcases Lv.1 hz with rfl | hz
    ·exact hp
    ·exact h4 z hz
theorem He{α:Type}{xs:List α}{i:Nat}(hi:i<xs.length):xs.drop i=xs[i]::xs.drop (i+1):=Li3 hi
theorem KI{w:World}{a:Option Addr}{xs:List Int}{i:Nat}(h:BG w a (iL xs))(hi:i<xs.length):∃ b o,a=some ⟨b,o,none⟩/\At w b o (iL xs):=by
 refine h.resolve_left fun e=>?_
 have:=QJ List.length e
 simp at this;rw[this]at hi;simp at hi
end Go.Den
namespace Go.Z
def OO(v:Value)(w0:World)(S:Nat->Prop)(p:Int->Bool)(xs:List Int):Prop :=
 ∀ w',Ab S w0 w'->∀ x∈xs,∀ K:Value->World->Prop,(∀ w'',Ab No w' w''->K (.bool (p x)) w'')->TH Yt v #[Yn x] w' K
section
variable{w:World}{K:Value->World->Prop}
theorem SZ{a:Option Addr}{l c:Nat}{xs:List Int}{v:Value}{p:Int->Bool}{S:Nat->Prop}(hl:xs.length=l)(h63:l<=9223372036854775806)(hr:BG w a (iL xs))(ht:OO v w S p xs)
  (hk:∀ w',Ab No w w'->K (Yn (Gk p xs 0)) w'):A7 Yt BY #[.slice a l c,v] w K:=by
 apply KR;unfold FM;refine⟨fun x w1=>∃ i:Nat,i<=l/\x=[Yn i]/\Ab No w w1/\Gk p xs 0=Gk p (xs.drop i) i,fun x _=>(l-nI x 0).toNat,⟨0,by omega,rfl,Ab.refl _ _,rfl⟩,?_⟩;rintro x w1 ⟨i,hi,rfl,hm,hidx⟩;refine⟨_,rfl,Aa (fun hb=>?_) (fun hb=>?_)⟩
 ·have hi:i<l:=by have:=Ld hb;omega
  have hix:i<xs.length:=by omega
  obtain⟨b,o,rfl,hat⟩:=KI hr hix;refine⟨_,A8 (k:=1) (by kernel_rfl) (by omega) (by omega),?_⟩;rw[Ae,show(i:Int).toNat*1=i by omega];refine⟨_,(hat.keep hm id).load (by kernel_rfl) (Kb hix),ht w1 (hm.mono fun _ _ h=>h.elim) _ (Lm2 hix) _ fun w2 m2=>⟨_,rfl,Aa (fun hp=>?_) (fun hp=>?_)⟩⟩
  ·have e:Gk p xs 0=i:=by rw[hidx,He hix];simp only[Gk];rw[if_pos hp]
   rw[<- e];exact hk w2 (hm.no m2)
  ·rw[Ag (x:=(i:Int)+1) (by omega) (by omega)];refine⟨⟨i+1,by omega,rfl,hm.no m2,?_⟩,by simp[nI,A2];omega⟩;rw[hidx,He hix];simp only[Gk];rw[if_neg (by rw[hp];simp)]
 ·have hil:i=l:=by have:=Lc hb;omega
  have e:Gk p xs 0=-1:=by rw[hidx,Ls (by omega)];rfl
  rw[<- e];exact hk w1 hm
def Of(a:Option Addr):Nat->Prop:=fun x=>∃ q,a=some q/\x=q.block
theorem nC{α:Type}{p:α->Bool}{xs ys:List α}{i j:Nat}(h1:ys.take i=(xs.take j).filter fun x=>!p x)(h2:ys.drop j=xs.drop j)(h3:ys.length=xs.length)(hij:i<j)(hj:j<xs.length)(hp:p xs[j]=false) :
  (ys.set i xs[j]).take (i+1)=(xs.take (j+1)).filter (fun x=>!p x)/\(ys.set i xs[j]).drop (j+1)=xs.drop (j+1):=by
 constructor
 ·rw[Lx (by simp;omega),List.take_set_of_le (by omega),h1,Lx hj,Lq3];simp[hp]
 ·rw[List.drop_set_of_lt (by omega),<- Tb,h2,Tb]
theorem QI{base:Nat}{a:Option Addr}{l c:Nat}{xs:List Int}{v:Value}{p:Int->Bool}(h:Ow Yt w base 176 1 a l c (iL xs))(h63:l<=1000000000)(ht:OO v w (Of a) p xs)
  (hk:∀ w' l',Ow Yt w' base 176 1 a l' c (iL (xs.filter fun x=>!p x))->l'=(xs.filter fun x=>!p x).length->Ab (Of a) w w'->K (.slice a l' c) w'):A7 Yt Ba #[.slice a l c,v] w K:=by
 have hlen:xs.length=l:=by have:=h.len;simpa using this
 apply Kk;unfold F1;refine SZ hlen (by omega) h.rowU.row ht fun w1 m1=>⟨_,rfl,?_⟩;rcases GG p xs 0 with ⟨e,hno⟩ | ⟨i0,x0,e,hx0,hp0,hbef⟩
 ·rw[e];refine tt rfl ?_;have hf:xs.filter (fun x=>!p x)=xs:=Lm3.2 fun x hx=>by simp[hno x hx]
  exact hk w1 l (by rw[hf];exact h.nos m1) (by rw[hf];exact hlen.symm) (m1.mono fun _ _ h=>h.elim)
 rw[e,Tc];obtain⟨hi0,hx0'⟩:=Lq.1 hx0;have hla:0<l:=by omega
 obtain⟨g,rfl,hg,_⟩:=h.sm hla;have hcap:=h.cap
 refine ff (by simp<;>omega) ⟨fun x w2=>∃(i j:Nat)(ys:List Int),x=[Yn i,Yn j]/\i<j/\j<=l/\Ow Yt w2 base 176 1 (some ⟨g,0,none⟩) l c (iL ys)/\ys.take i=((xs.take j).filter fun x=>!p x)/\ys.drop j=xs.drop j/\Ab (Of (some ⟨g,0,none⟩)) w w2,
  fun x _=>(l-nI x 1).toNat,⟨i0,i0+1,xs,?_,by omega,by omega,h.nos m1,?_,rfl,m1.mono fun _ _ h=>h.elim⟩,?_⟩
 ·rw[Ag (x:=(i0:Int)+1) (by omega) (by omega)];rfl
 ·rw[Lx hi0,Lq3,hx0'];have e1:(xs.take i0).filter (fun x=>!p x)=xs.take i0:=Lm3.2 fun x hx=>by simp[hbef x hx]
  rw[e1];simp[hp0]
 rintro x w2 ⟨i,j,ys,rfl,hij,hjl,o2,h1,h2,M2⟩;have hyl:ys.length=l:=by have:=o2.len;simpa using this
 refine⟨_,rfl,Aa (fun hb=>?_) (fun hb=>?_)⟩
 ·have hj:j<l:=by have:=Ld hb;omega
  have hjx:j<xs.length:=by omega
  have hjy:j<ys.length:=by omega
  have hyx:ys[j]=xs[j]:=by
   have e1:=(He hjy).symm.trans (h2.trans (He hjx));exact(Li5 e1).1
  obtain⟨b2,o,e2,hat⟩:=KI o2.rowU.row hjy;simp at e2;obtain⟨rfl,rfl⟩:=e2;refine⟨_,A8 (k:=1) (by kernel_rfl) (by omega) (by omega),?_⟩;rw[Ae,show(j:Int).toNat*1=j by omega];refine⟨_,hat.load (by kernel_rfl) (Kb hjy),ht w2 M2 _ (by rw[hyx];exact Lm2 hjx) _ fun w3 m3=>⟨_,rfl,?_⟩⟩;rw[hyx];refine Ad.cut (fun z w4=>∃(i':Nat)(ys':List Int),z=[Yn i']/\i'<j+1/\Ow Yt w4 base 176 1 (some ⟨g,0,none⟩) l c (iL ys')/\ys'.take i'=((xs.take (j+1)).filter fun x=>!p x)/\ys'.drop (j+1)=xs.drop (j+1)/\Ab (Of (some ⟨g,0,none⟩)) w w4)
   (Aa (fun hp=>?_) (fun hp=>?_)) ?_
  ·have hp:p xs[j]=false:=by simpa using hp
   refine⟨_,rfl,_,A8 (k:=1) (by kernel_rfl) (by omega) (by omega),?_⟩;rw[Ae,show 0+(i:Int).toNat*1=i by omega];obtain⟨w4,s1,s2,s3⟩:=(o2.nos m3).set (T':=3) (i:=i) (v:=Yn xs[j]) (by kernel_rfl) (by omega) rfl;refine⟨w4,s1,?_⟩;obtain⟨k1,k2⟩:=nC h1 h2 (by omega) hij hjx hp;rw[Ag (x:=(i:Int)+1) (by omega) (by omega)];refine⟨i+1,ys.set i xs[j],rfl,by omega,?_,k1,k2,(M2.no m3).trans s3 fun x _ e=>⟨_,rfl,e⟩⟩
   have e3:(iL ys).set i (Yn xs[j])=iL (ys.set i xs[j]):=by simp[iL,Lp4,I]
   rw[e3]at s2;exact s2
  ·have hp:p xs[j]=true:=by simpa using hp
   refine⟨i,ys,rfl,by omega,o2.nos m3,?_,?_,M2.no m3⟩
   ·rw[h1,Lx hjx,Lq3];simp[hp]
   ·rw[<- Tb,h2,Tb]
  ·rintro z w4 ⟨i',ys',rfl,hij',o4,k1,k2,M4⟩;rw[Ag (x:=(j:Int)+1) (by omega) (by omega)];exact⟨⟨i',j+1,ys',rfl,hij',by omega,o4,k1,k2,M4⟩,by simp[nI,A2];omega⟩
 ·have hjl:j=l:=by have:=Lc hb;omega
  subst hjl;refine⟨_,rfl,_,_,_,Gq (k:=1) (by kernel_rfl) (by omega) (by omega),?_⟩;rw[Lz];obtain⟨w3,zs,s1,s2,s3⟩:=o2.clear (ty:=0) Fq (i:=i) (by omega) rfl;refine⟨w3,s1,_,_,_,NX (k:=1) (by kernel_rfl) (by omega) (by omega),?_⟩;have hcut:CL (some ⟨g,0,none⟩) c 0 1=some ⟨g,0,none⟩:=by
   unfold CL;rw[if_neg (by omega)];simp[Ae]
  rw[hcut,Lz];have hxall:xs.take j=xs:=Lf (by omega);rw[hxall]at h1;have hsh:=s2.shrink (i:=i) (by omega) (by simp);have e5:((iL ys).take i++zs).take i=iL (xs.filter fun x=>!p x):=by
   rw[<- h1];have:((iL ys).take i).length=i:=by simp;omega
   rw[Lu (by omega),Lf (by omega)];simp[iL,Lh4]
  rw[e5]at hsh;refine hk w3 i hsh ?_ (M2.trans s3 fun x _ e=>⟨_,rfl,e⟩);rw[<- h1];simp;omega
end
section
variable{w:World}{K:Value->World->Prop}
theorem nL:Al (G9 .eql 57 (.tmp 3) (.const (.slice none 0 0)) (.slice none 0 0) (.slice none 0 0)) (.bool true):=fun _=>by kernel_rfl
theorem gH(a:Addr)(l c:Nat):Al (G9 .eql 57 (.tmp 3) (.const (.slice none 0 0)) (.slice (some a) l c) (.slice none 0 0)) (.bool false):=fun _=>by kernel_rfl
theorem xK(w:World):(Instr.buildSlice 57 0 #[]).run Yt w=.ok (.slice (some ⟨w.heap.size,0,none⟩) 0 0) (w.alloc (.cells #[] 5)):=by kernel_rfl
theorem Xr{T e:TypeId}{k:Nat}(hu:Yt.underlying T=some (.slice e)):Ow Yt (w.alloc (.cells #[] e)) w.heap.size T k (some ⟨w.heap.size,0,none⟩) 0 0 [] :=
 ⟨_,hu,by simp,.inr ⟨w.heap.size,0,#[],rfl,Le _,BV w _,Le _,qE _,by simp,by simp⟩⟩
theorem Up{a:Option Addr}{l c:Nat}{xs:List UInt8}(hr:BG w a (A6 xs))(hl:xs.length=l)(h0:a=none->l=0/\c=0)(h63:l<=1000000000)
  (hk:∀ w' a' c',Ow Yt w' w.heap.size 57 1 a' l c' (A6 xs)->Ab No w w'->K (.slice a' l c') w'):A7 Yt BT #[.slice a l c] w K:=by
 apply Ox;unfold HQ;cases a with
 | none =>
  obtain⟨rfl,rfl⟩:=h0 rfl;have hx:xs=[]:=iA hl;subst hx;exact⟨_,nL,tt rfl (hk w none 0 (Ow.nil CF) (Ab.refl _ _))⟩
 | some q =>
  refine⟨_,gH _ _ _,ff rfl ⟨_,_,_,_,xK w,?_⟩⟩;have m1:Ab No w (w.alloc (.cells #[] 5)):=(Ab.refl No w).alloc _;have hu:Yt.underlying 57=some (.slice 5):=by kernel_rfl
  obtain⟨a',c',w2,h2,o2,m2⟩:=(Xr (w:=w) (k:=1) hu).append (ty:=57) CF (by omega) (a2:=some q) (m:=l) (c2:=c) (ys:=A6 xs) (hr.nos m1) (by simp[hl]) (fun e=>by cases e) (Cu xs) (by omega) (by omega) (by simp);rw[Tc,Ly]at *;exact⟨_,_,_,w2,h2,hk w2 a' c' o2 (m1.up m2 (Le _))⟩
theorem wL{a:Option Addr}{l c:Nat}{xs:List Int}{n:Int}(hl:xs.length=l)(h63:l<=9223372036854775806)(hr:BG w a (iL xs))
  (hk:K (Yn (Gk (fun x=>n==x) xs 0)) w):A7 Yt Fk #[.slice a l c,Yn n] w K:=by
 apply Py;unfold IA;refine⟨fun x w1=>w1=w/\∃ i:Nat,i<=l/\x=[Yn i]/\Gk (fun x=>n==x) xs 0=Gk (fun x=>n==x) (xs.drop i) i,fun x _=>(l-nI x 0).toNat,⟨rfl,0,by omega,rfl,rfl⟩,?_⟩;rintro x w1 ⟨rfl,i,hi,rfl,hidx⟩;refine⟨_,rfl,Aa (fun hb=>?_) (fun hb=>?_)⟩
 ·have hi:i<l:=by have:=Ld hb;omega
  have hix:i<xs.length:=by omega
  obtain⟨b,o,rfl,hat⟩:=KI hr hix;refine⟨_,A8 (k:=1) (by kernel_rfl) (by omega) (by omega),?_⟩;rw[Ae,show(i:Int).toNat*1=i by omega];refine⟨_,hat.load (by kernel_rfl) (Kb hix),Aa (fun hp=>?_) (fun hp=>?_)⟩
  ·have e:Gk (fun x=>n==x) xs 0=i:=by rw[hidx,He hix];simp only[Gk];rw[if_pos hp]
   rw[<- e];exact hk
  ·rw[Ag (x:=(i:Int)+1) (by omega) (by omega)];refine⟨⟨rfl,i+1,by omega,rfl,?_⟩,by simp[nI,A2];omega⟩;rw[hidx,He hix];simp only[Gk];rw[if_neg (by rw[hp];simp)]
 ·have hil:i=l:=by have:=Lc hb;omega
  have e:Gk (fun x=>n==x) xs 0=-1:=by rw[hidx,Ls (by omega)];rfl
  rw[<- e];exact hk
theorem dC{a:Option Addr}{l c:Nat}{xs:List Int}{n:Int}(hl:xs.length=l)(h63:l<=9223372036854775806)(hr:BG w a (iL xs))
  (hk:K (.bool (decide (n∈xs))) w):A7 Yt DM #[.slice a l c,Yn n] w K:=by
 apply Mm;unfold Gu;refine wL hl h63 hr ⟨_,rfl,?_⟩;have e:decide (Gk (fun x=>n==x) xs 0 >= 0)=decide (n∈xs):=by
  rcases GG (fun x=>n==x) xs 0 with ⟨h1,h2⟩|⟨j,x,h1,h2,h3,_⟩
  ·have:n ∉ xs:=fun h=>by have:=h2 n h;simp at this
   simp[h1,this]
  ·have:n=x:=by simpa using h3
   subst this;have hm:=XN h2;simp[h1,hm]
 rw[e];exact hk
theorem pU{a0 a1:Option Addr}{l c0 c1:Nat}{xs ys:List UInt8}(hx:xs.length=l)(hy:ys.length=l)(h63:l<=1000000000)(h0:BG w a0 (A6 xs))(h1:BG w a1 (A6 ys))
  (hk:∀ w' (f la:Int),Ab No w w'->(0<=f↔xs≠ys)->K (.tuple #[Yn f,Yn la]) w'):A7 Yt IG #[.slice a0 l c0,.slice a1 l c1] w K:=by
 apply Uk;unfold P4;refine⟨fun x w1=>∃(i:Nat)(f la:Int)(y:Value),i<=l/\x=[Yn f,Yn la,Yn i,y]/\Ab No w w1/\(0<=f↔xs.take i≠ys.take i),fun x _=>(l-nI x 2).toNat,⟨0,-1,-1,_,by omega,rfl,Ab.refl _ _,by simp⟩,?_⟩;rintro x w1 ⟨i,f,la,y,hi,rfl,hm,hf⟩;have hself:(if (l:Int) > (l:Int)then(l:Int)else(l:Int))=l:=by simp
 have hself2:(if (l:Int)<(l:Int)then(l:Int)else(l:Int))=l:=by simp
 refine⟨_,rfl,Aa (fun hb=>?_) (fun hb=>?_)⟩
 ·rw[hself]at hb;have hi:i<l:=by have:=Ld hb;omega
  have hix:i<xs.length:=by omega
  have hiy:i<ys.length:=by omega
  obtain⟨b0,o0,rfl,hat0⟩:=h0.resolve_left (by intro e;have:=QJ List.length e;simp at this;rw[this]at hix;simp at hix);obtain⟨b1,o1,rfl,hat1⟩:=h1.resolve_left (by intro e;have:=QJ List.length e;simp at this;rw[this]at hiy;simp at hiy);have hm':Ab No w (Af w1):=hm.drew;have tk:(xs.take (i+1)≠ys.take (i+1))↔(xs.take i≠ys.take i\/xs[i]≠ys[i]):=by
   rw[Lx hix,Lx hiy];constructor
   ·intro h;by_cases e:xs.take i=ys.take i
    ·right;intro e2;exact h (by rw[e,e2])
    ·exact .inl e
   ·intro h e
    have:=List.append_inj e (by simp;omega)
    simp at this;rcases h with h | h
    ·exact h this.1
    ·exact h this.2
  refine Ad.cut (fun z w3=>∃(f' la':Int)(y':Value),z=[Yn f',Yn la',y']/\Ab No w w3/\(0<=f'↔xs.take (i+1)≠ys.take (i+1))) ?_ ?_
  ·refine Ad.cut (fun z w3=>z=[.bool (decide (xs[i]=ys[i]))]/\w3=Af w1) (tt (by rw[hself2];exact Li (by omega)) ?_) ?_
   ·refine⟨_,A8 (k:=1) (by kernel_rfl) (by omega) (by omega),?_⟩;rw[Ae,show(i:Int).toNat*1=i by omega];refine⟨_,(hat0.keep hm' id).load (by kernel_rfl) (CR hix),_,A8 (k:=1) (by kernel_rfl) (by omega) (by omega),?_⟩;rw[Ae,show(i:Int).toNat*1=i by omega];refine⟨_,(hat1.keep hm' id).load (by kernel_rfl) (CR hiy),?_,rfl⟩
    congr 2
    rw[RH];simp only[pO,RV];constructor
    ·intro e;exact Lu3.1 (by omega)
    ·intro e;rw[e]
   rintro z w3 ⟨rfl,rfl⟩;refine⟨_,rfl,Aa (fun hb=>?_) (fun hb=>?_)⟩
   ·have he:xs[i]=ys[i]:=Ld hb;refine⟨f,la,_,rfl,hm',?_⟩;rw[hf,tk];exact⟨fun h=>.inl h,fun h=>h.resolve_right fun h=>h he⟩
   ·have he:xs[i]≠ys[i]:=Lc hb;refine⟨_,rfl,Ad.cut (fun z w4=>∃ f':Int,z=[Yn f']/\0<=f'/\w4=Af w1) (Aa (fun hb=>⟨_,rfl,by omega,rfl⟩) (fun hb=>⟨_,rfl,by have:=Lc hb;omega,rfl⟩)) ?_⟩;rintro z w4 ⟨f',rfl,hf',rfl⟩;refine⟨f',_,_,rfl,hm',?_⟩;rw[tk];exact⟨fun _=>.inr he,fun _=>hf'⟩
  ·rintro z w3 ⟨f',la',y',rfl,hm3,hf3⟩;rw[Ag (x:=(i:Int)+1) (by omega) (by omega)];exact⟨⟨i+1,f',la',y',by omega,rfl,hm3,hf3⟩,by simp[nI,A2];omega⟩
 ·rw[hself]at hb;have hil:i=l:=by have:=Lc hb;omega
  subst hil;refine⟨_,rfl,_,rfl,hk w1 f la hm ?_⟩;rw[hf,Lf (by omega),Lf (by omega)]
end
end Go.Z
end
section
open Go Go.Den Go.Proofs
namespace Go.Den
theorem Ge{b o c l k:Nat}(h:l≠c):CL (some ⟨b,o,none⟩) c l k=some ⟨b,o+l*k,none⟩:=by
 unfold CL;rw[if_neg (fun e=>h e.symm)];simp[Ae]
end Go.Den
namespace Go.Z
def Ng:List UInt8:=[76,71,82,80]
def Ka(g:Gm)(h:Hd):List UInt8:=Ng++AG 2 h.no.toNat++AG 2 (Dk g h).1.toNat++AG 2 (Dk g h).2.toNat
def H9(g:Gm)(h:Hd):List UInt8:=Ka g h++List.replicate 6 0++h.bs++h.ss++List.replicate 216 0
theorem Ei(g:Gm)(h:Hd):(Ka g h).length=10:=by simp[Ka,Ng]
theorem KC{g:Gm}{h:Hd}(hw:FD h):(H9 g h).length=256:=by
 unfold H9;rw[Lj,Lj,Lj,Lj,Ei,hw.1,hw.2,Lw,Lw]
theorem Yk{g:Gm}{h:Hd}:0<=(Dk g h).1/\(Dk g h).1<=128/\0<=(Dk g h).2/\(Dk g h).2<=64:=by
 unfold Dk;split
 ·rename_i ho;have hq:=Ax.1 (BZ.1 ho).1;have h1:=NN h.bs g.gr.toNat;have h2:=NN h.ss g.no.toNat;exact⟨by omega,by omega,by omega,by omega⟩
 ·exact⟨by decide,by decide,by decide,by decide⟩
section
variable{w:World}{K:Value->World->Prop}
theorem jI{g:Gm}{h:Hd}(hw:FD h)(hk:∀ w',Ab No w w'->K (.tuple #[Yn (Dk g h).1,Yn (Dk g h).2]) w'):A7 Yt Ic #[.agg ⟨gV g⟩,.agg ⟨hV h⟩] w K:=by
 apply XC;unfold QD;obtain⟨w1,a1,a2,a3,a4⟩:=AB (P:=Yt) (w:=w) (T:=83) (cs:=gV g);obtain⟨w2,b1,b2,b3,b4⟩:=AB (P:=Yt) (w:=w1) (T:=171) (cs:=hV h);have m2:=a3.no b3;refine⟨_,w1,a1,_,w2,b1,_,(a2.at.keep b3 id).all A5 rfl,_,b2.at.all Aq (Ap hw),Ni hw fun w3 m3=>⟨_,rfl,Aa (fun ho=>?_) (fun ho=>?_)⟩⟩
 ·have e:Dk g h=(0,0):=by unfold Dk;rw[if_neg (by simpa using ho)]
  rw[e]at hk;exact hk _ (m2.no m3)
 have ho:Mg g h=true:=by simpa using ho
 have hq:=Ax.1 (BZ.1 ho).1;have q2:=(a2.keep b3 id).keep m3 id;have q3:=b2.keep m3 id;have h1:=NN h.bs g.gr.toNat;have h2:=NN h.ss g.no.toNat;have md:Ab No w3 (Go.Den.Af w3):=(Ab.refl No w3).drew;have ad1:Addr.add ⟨w1.heap.size,0,none⟩ 1=⟨w1.heap.size,1,none⟩:=by rw[Ae]
 have ad17:Addr.add ⟨w1.heap.size,0,none⟩ 17=⟨w1.heap.size,17,none⟩:=by rw[Ae]
 rw[ad1,ad17];refine⟨_,q2.at.drew.fld Ah rfl,_,_,_,AN Mc,_,q2.at.drew.fld Ah rfl,_,q2.at.drew.fld Ah rfl,_,_,_,AN TI,_,q2.at.drew.fld Ah rfl,?_⟩;refine G6 (xs:=h.bs) hw.1 (.inr ⟨_,_,rfl,At.bs hw q3.at.drew⟩) (by omega) fun w4 m4=>⟨_,rfl,?_⟩;have M4:=md.no m4;have r2:=q2.keep M4 id;refine⟨r2.at.fld Ah rfl,r2.at.fld Ah rfl,r2.at.fld Ah rfl,?_⟩
 refine G6 (xs:=h.ss) hw.2 (.inr ⟨_,_,rfl,At.ss hw (q3.keep M4 id).at⟩) (by omega) fun w5 m5=>⟨_,rfl,?_⟩;have M5:=M4.no m5;have s2:=q2.keep M5 id;refine⟨s2.at.fld Ah rfl,s2.at.fld Ah rfl,?_⟩;have e:Dk g h=(g.gr-CE h.bs g.gr.toNat,g.no-CE h.ss g.no.toNat):=by unfold Dk;rw[if_pos ho]
 rw[e]at hk;rw[Ag (by omega) (by omega),Ag (by omega) (by omega)];exact hk _ (m2.no (m3.no M5))
theorem ZC(a b c:Int):Al (Instr.build 292 #[(0,Yn a),(1,Yn b),(2,Yn c)]) (.agg ⟨[Yn a,Yn b,Yn c]⟩):=fun w=>by kernel_rfl
theorem Ag5:MV Yt 292=some (3,1):=by kernel_rfl
def fC(g:Gm)(h:Hd):Nat->List UInt8
 | 0=>Ng
 | 1=>Ng++AG 2 h.no.toNat
 | 2=>Ng++AG 2 h.no.toNat++AG 2 (Dk g h).1.toNat
 | _=>Ka g h
theorem sK(g:Gm)(h:Hd){i:Nat}(hi:i<=3):(fC g h i).length=4+2*i:=by
 match i,hi with
 | 0,_=>rfl
 | 1,_=>simp[fC,Ng]
 | 2,_=>simp[fC,Ng]
 | 3,_=>exact Ei g h
set_option maxRecDepth 4000 in
theorem fE{g:Gm}{h:Hd}(hw:FD h)(h1:Mg g h=false->∀ w',Ab No w w'->K (.tuple #[.slice none 0 0,Yn 1]) w')
  (h2:Mg g h=true->∀ w' q,Ab No w w'->w.heap.size<=q->Av w' q 0 (A6 (H9 g h))->K (.tuple #[.slice (some ⟨q,0,none⟩) 256 256,Yn 0]) w'):A7 Yt GX #[.agg ⟨gV g⟩,.agg ⟨hV h⟩] w K:=by
 apply Zb;unfold SO;obtain⟨w1,a1,a2,a3,a4⟩:=AB (P:=Yt) (w:=w) (T:=83) (cs:=gV g);obtain⟨w2,b1,b2,b3,b4⟩:=AB (P:=Yt) (w:=w1) (T:=171) (cs:=hV h);have m2:=a3.no b3;refine⟨_,w1,a1,_,w2,b1,_,(a2.at.keep b3 id).all A5 rfl,_,b2.at.all Aq (Ap hw),Ni hw fun w3 m3=>⟨_,rfl,Aa (fun ho=>h1 (by simpa using ho) _ (m2.no m3)) (fun ho=>?_)⟩⟩;have ho:Mg g h=true:=by simpa using ho
 have hno:=(BZ.1 ho).2.1;have hq:=Ax.1 (BZ.1 ho).1;have hf:=Yk (g:=g) (h:=h);obtain⟨w4,c1,c2,c3,c4⟩:=DK (P:=Yt) (w:=w3) (n:=256) CF (by omega) (by omega) (by omega);have c2':Av w4 w3.heap.size 0 (A6 ([]++List.replicate 256 0)):=by
  have e:List.replicate (256*1) (Value.int .u8 0)=A6 ([]++List.replicate 256 0):=by
   rw[Ly,A6,List.map_replicate];rfl
  rw[<- e];exact c2
 obtain⟨w5,d1,d2,d3,d4⟩:=UK (T:=57) (S:=9) (ty:=3) (i:=0) (n:=256) (c:=256) (xs:=Ng) (by kernel_rfl) c2' (by rw[Ai,Lj,Lw];exact Le _) (by simp[Ng]);rw[zs (pre:=[]) (i:=0) rfl (by simp[Ng])]at d2;have m5:Ab No w3 w5:=c3.own d3 (Le _);have q2:=((a2.keep b3 id).keep m3 id).keep m5 id;have q3:=(b2.keep m3 id).keep m5 id
 refine⟨_,_,_,w4,c1,_,w5,d1,_,q2.at.all A5 rfl,_,q3.at.all Aq (Ap hw),jI hw fun w6 m6=>⟨_,_,rfl,?_⟩⟩;have m36:Ab No w3 w6:=m5.no m6;refine⟨_,(q3.keep m6 id).at.fld Ah rfl,_,ZC _ _ _,?_⟩;refine⟨fun x w7=>∃ i:Nat,i<=3/\x=[Yn i]/\Av w7 w3.heap.size 0 (A6 (fC g h i++List.replicate (252-2*i) 0))/\Ab No w3 w7,fun x _=>(3-nI x 0).toNat,⟨0,by omega,rfl,d2.keep m6 id,m36⟩,?_⟩
 rintro x w7 ⟨i,hi,rfl,hat,m7⟩;refine⟨_,rfl,Aa (fun hl=>?_) (fun hl=>?_)⟩
 ·have hl:=Ld hl;have hi3:i<3:=by omega
  have hlen:=sK g h hi;have step:∀ v:Int,0<=v->v<=4096->([Yn h.no,Yn (Dk g h).1,Yn (Dk g h).2]:List Value)[i]?=some (Yn v)->fC g h (i+1)=fC g h i++AG 2 v.toNat ->
    ∃ n32:Int,Al (Instr.index 292 (.agg ⟨[Yn h.no,Yn (Dk g h).1,Yn (Dk g h).2]⟩) (Yn i)) (Yn n32)/\∃(a41:Option Addr)(l41 c41:Nat),Al (Instr.sliceAt 57 (.slice (some ⟨w3.heap.size,0,none⟩) 256 256) (some (Yn (Yw (4+(Yw ((i:Int)*2)))))) (some (Yn (Yw (4+(Yw ((Yw ((i:Int)+1))*2)))))) none) (.slice a41 l41 c41)/\A7 Yt BA #[.slice a41 l41 c41,.int .u64 (IntKind.u64.wrap n32)] w7 fun r44 w8=>r44=.tuple #[] /\
     ((∃ i':Nat,i'<=3/\[Yn (Yw ((i:Int)+1))]=[Yn i']/\Av w8 w3.heap.size 0 (A6 (fC g h i'++List.replicate (252-2*i') 0))/\Ab No w3 w8)/\(3-nI [Yn (Yw ((i:Int)+1))] 0).toNat<(3-nI [Yn i] 0).toNat):=by
   intro v hv0 hv hg hp;have e1:Yw (4+(Yw ((i:Int)*2)))=((4+2*i:Nat):Int):=by rw[Ag (x:=(i:Int)*2) (by omega) (by omega),Ag (by omega) (by omega)];omega
   have e2:Yw (4+(Yw ((Yw ((i:Int)+1))*2)))=((6+2*i:Nat):Int):=by rw[Ag (x:=(i:Int)+1) (by omega) (by omega),Ag (x:=((i:Int)+1)*2) (by omega) (by omega),Ag (by omega) (by omega)];omega
   rw[e1,e2];refine⟨v,Ig Tryz.underlying292 Ag5 Tryz.underlying3 (by simp) (by simp) hi3 hg,_,_,_,BH Aj (by omega) (by omega) (by omega),?_⟩;rw[show((4+2*i:Nat):Int).toNat=4+2*i by omega,Ge (by omega),show((6+2*i:Nat):Int).toNat-(4+2*i)=2 by omega];refine V5 (m:=2) hat hlen (by omega) rfl hv0 (by omega) (by omega) fun w8 m8 z8 d8=>⟨rfl,?_⟩;rw[Ag (x:=(i:Int)+1) (by omega) (by omega)]
   rw[<- hp,show 252-2*i-2=252-2*(i+1) by omega]at d8;exact⟨⟨i+1,by omega,by simp,d8,m7.own m8 (Le _)⟩,by simp[nI,A2];omega⟩
  match i,hi3 with
  | 0,_=>exact step h.no hno.1 (by omega) rfl rfl
  | 1,_=>exact step (Dk g h).1 (by omega) (by omega) rfl rfl
  | 2,_=>exact step (Dk g h).2 (by omega) (by omega) rfl rfl
 have hl:=Lc hl;have hi3:i=3:=by omega
 subst hi3;have hat:Av w7 w3.heap.size 0 (A6 (Ka g h++List.replicate 246 0)):=hat;have e6:Ka g h++List.replicate 246 (0:UInt8)=(Ka g h++List.replicate 6 0)++List.replicate 240 0:=by
  rw[VV,List.replicate_append_replicate]
 rw[e6]at hat;have m37:Ab No w3 w7:=m7;have q3':=(b2.keep m3 id).keep m37 id;have ad1:Addr.add ⟨w1.heap.size,0,none⟩ 1=⟨w1.heap.size,1,none⟩:=by rw[Ae]
 have ad17:Addr.add ⟨w1.heap.size,0,none⟩ 17=⟨w1.heap.size,17,none⟩:=by rw[Ae]
 rw[ad1,ad17];have hne:w1.heap.size≠w3.heap.size:=by have:=m3.size;omega
 obtain⟨w9,p1,p2,p3,p4⟩:=GP (P:=Yt) (T:=57) (T2:=57) (ty:=3) (i:=16) (n:=240) (c:=240) (n2:=16) (c2:=16) (a2:=some ⟨w1.heap.size,1,none⟩) (src:=A6 h.bs) Aj hat.drew
  (by rw[Ai,Lj,Lj,Ei,Lw,Lw];omega) (.inr ⟨_,_,rfl,At.bs hw q3'.at.drew⟩) (by simp[hw.1]) (Cu _)
 rw[show Nat.min 16 240*1=16 by decide,Lf (by rw[Ai,hw.1];omega),zs (i:=16) (by rw[Lj,Ei,Lw]) (by rw[hw.1];omega),hw.1]at p2;have M9:Ab No w3 w9:=m37.drew.own p3 (Le _);have q9:=q3'.drew.keep p3 (fun e=>hne e);obtain⟨w10,r1,r2,r3,r4⟩:=GP (P:=Yt) (T:=57) (T2:=57) (ty:=3) (i:=32) (n:=224) (c:=224) (n2:=8) (c2:=8) (a2:=some ⟨w1.heap.size,17,none⟩) (src:=A6 h.ss) Aj p2.drew
  (by rw[Ai,Lj,Lj,Lj,Ei,hw.1,Lw,Lw];omega) (.inr ⟨_,_,rfl,At.ss hw q9.at.drew⟩) (by simp[hw.2]) (Cu _)
 rw[show Nat.min 8 224*1=8 by decide,Lf (by rw[Ai,hw.2];omega),zs (i:=32) (by rw[Lj,Lj,Ei,hw.1,Lw]) (by rw[hw.2];omega),hw.2]at r2;have M10:Ab No w3 w10:=M9.drew.own r3 (Le _);refine⟨_,_,_,Gq Aj (by omega) (by omega),_,_,_,AN Mc,?_⟩;rw[show(16:Int).toNat=16 from rfl,Ge (by omega)]
 refine⟨_,w9,p1,_,_,_,Gq Aj (by omega) (by omega),_,_,_,AN TI,?_⟩;rw[show(32:Int).toNat=32 from rfl,Ge (by omega)];exact⟨_,w10,r1,h2 ho w10 _ (m2.no (m3.no M10)) (QK m2.size m3.size) r2⟩
end
end Go.Z
end
