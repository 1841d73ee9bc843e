/- Parts of the proof, in order: what the statement leans on. -/
import Derived.Test.YtelhlihjihklbaaGreatBb
open Go.Proofs Go.Proofs.YtelhlihjihklbaaGreat
section
open Go Go.Den Go.Proofs
namespace Go.Z
set_option maxRecDepth 100000
def IX(a14:Array Value)(b:Int)(a57:World)(K:YA):Prop :=
 ∃ c x1,Yb 40 (.agg a14) a57 c x1/\∃ a r,Yq 183 x1 a r/\(∃ a8 c4 b6 d5,Ru (Instr.makeSlice 88 (.int .i64 16) (.int .i64 16)) (Ah r) (.slice a8 c4 b6) d5/\(∃ f7 s5 l1 y4,Ru (Instr.makeSlice 88 (.int .i64 8) (.int .i64 8)) d5 (.slice f7 s5 l1) y4/\∃ n9,Al (Instr.build 183 #[(0,.int .i64 b),(1,.slice a8 c4 b6),(2,.slice f7 s5 l1)]) (.agg n9)/\∃ e z0,Yq 183 y4 e z0/\∃ e3,YE 183 e (.agg n9) z0 e3/\Ac (fun b8=>∃ o5,Yg 40 c e3 o5/\YC A0 #[.agg o5] e3 fun a39 a3=>∃ i5,a39=.bool i5/\(bif !i5 then b8 [.bool true] a3 else(bif decide (b<0)then b8 [.bool true] a3 else ∃ v3,Yi (Addr.add c 2) a3 v3/\b8 [.bool (decide (b >= v3))] a3))) fun a70 a03 =>
 ∃ j1,Ap a70 0=.bool j1/\(bif j1 then
 ∃ p1,Al (Instr.build 183 #[]) (.agg p1)/\∃ f2,YE 183 a (.agg p1) a03 f2/\∃ q3,Yg 183 a f2 q3/\K (.tuple #[.agg q3,.int .i64 1]) f2
 else
 A6 (fun a21 a78 p =>
 ∃ i,Ap a78 0=.int .i64 i/\∃ v9,Yi (Addr.add c 1) p v9/\(bif decide (i<(IntKind.i64.wrap (1+(IntKind.i64.wrap (Int.tdiv v9 4)))))then
 ∃(g1:YB)(s9 l5:Nat),YD 88 (Addr.add e 1) p (.slice g1 s9 l5)/\YC AB #[.slice g1 s9 l5,.int .i64 i,.bool true] p fun a45 a58=>∃ g7 t5 m1 a27,a45=.tuple #[.slice g7 t5 m1,.int .i64 a27]/\∃ x2,YE 88 (Addr.add e 1) (.slice g7 t5 m1) a58 x2/\a21 [.int .i64 (IntKind.i64.wrap (i+1))] x2
 else
 A6 (fun a24 a12 x3 =>
 Ac (fun r9=>∃ w5,Ap a12 0=.int .i64 w5/\(bif decide (w5<2)then r9 [.bool (b==0)] x3 else r9 [.bool false] x3)) fun a83 q =>
 ∃ b0,Ap a83 0=.bool b0/\(bif b0 then
 ∃(h3:YB)(u1 m7:Nat),YD 88 (Addr.add e 2) q (.slice h3 u1 m7)/\∃ c8,Ap a12 0=.int .i64 c8/\YC AB #[.slice h3 u1 m7,.int .i64 c8,.bool true] q fun a51 a59=>∃ h9 u7 n3 a33,a51=.tuple #[.slice h9 u7 n3,.int .i64 a33]/\∃ x4,YE 88 (Addr.add e 2) (.slice h9 u7 n3) a59 x4/\a24 [.int .i64 (IntKind.i64.wrap (c8+1)),.bool b0] x4
 else
 ∃ p7,Yg 183 e q p7/\∃ d2,YE 183 a (.agg p7) q d2/\∃ q7,Yg 183 a d2 q7/\K (.tuple #[.agg q7,.int .i64 0]) d2)) [.int .i64 0,undef] p)) [.int .i64 0] a03))/\(∃ f x5,Yq 183 d5 f x5/\∃ f8 s6 l2 x6,Ru (Instr.makeSlice 88 (.int .i64 8) (.int .i64 8)) x5 (.slice f8 s6 l2) x6/\∃ o0,Al (Instr.build 183 #[(0,.int .i64 b),(1,.slice a8 c4 b6),(2,.slice f8 s6 l2)]) (.agg o0)/\∃ d3,YE 183 f (.agg o0) x6 d3/\Ac (fun c2=>∃ o6,Yg 40 c d3 o6/\YC A0 #[.agg o6] d3 fun a40 s=>∃ i6,a40=.bool i6/\(bif !i6 then c2 [.bool true] s else(bif decide (b<0)then c2 [.bool true] s else ∃ v4,Yi (Addr.add c 2) s v4/\c2 [.bool (decide (b >= v4))] s))) fun a84 x7 =>
 ∃ j2,Ap a84 0=.bool j2/\(bif j2 then
 ∃ p2,Al (Instr.build 183 #[]) (.agg p2)/\∃ d4,YE 183 a (.agg p2) x7 d4/\∃ q8,Yg 183 a d4 q8/\K (.tuple #[.agg q8,.int .i64 1]) d4
 else
 A6 (fun a25 a85 t =>
 ∃ j,Ap a85 0=.int .i64 j/\∃ w0,Yi (Addr.add c 1) t w0/\(bif decide (j<(IntKind.i64.wrap (1+(IntKind.i64.wrap (Int.tdiv w0 4)))))then
 ∃(g2:YB)(t0 l6:Nat),YD 88 (Addr.add f 1) t (.slice g2 t0 l6)/\YC AB #[.slice g2 t0 l6,.int .i64 j,.bool true] t fun a46 a60=>∃ g8 t6 m2 a28,a46=.tuple #[.slice g8 t6 m2,.int .i64 a28]/\∃ x8,YE 88 (Addr.add f 1) (.slice g8 t6 m2) a60 x8/\a25 [.int .i64 (IntKind.i64.wrap (j+1))] x8
 else
 A6 (fun a26 a13 x9 =>
 Ac (fun s0=>∃ w7,Ap a13 0=.int .i64 w7/\(bif decide (w7<2)then s0 [.bool (b==0)] x9 else s0 [.bool false] x9)) fun a86 u =>
 ∃ b1,Ap a86 0=.bool b1/\(bif b1 then
 ∃(h4:YB)(u2 m8:Nat),YD 88 (Addr.add f 2) u (.slice h4 u2 m8)/\∃ c9,Ap a13 0=.int .i64 c9/\YC AB #[.slice h4 u2 m8,.int .i64 c9,.bool true] u fun a52 a61=>∃ i0 u8 n4 a34,a52=.tuple #[.slice i0 u8 n4,.int .i64 a34]/\∃ y0,YE 88 (Addr.add f 2) (.slice i0 u8 n4) a61 y0/\a26 [.int .i64 (IntKind.i64.wrap (c9+1)),.bool b1] y0
 else
 ∃ p8,Yg 183 f u p8/\∃ d6,YE 183 a (.agg p8) u d6/\∃ q9,Yg 183 a d6 q9/\K (.tuple #[.agg q9,.int .i64 0]) d6)) [.int .i64 0,undef] t)) [.int .i64 0] x7)))/\(∃ a9 c5 b7 d7,Ru (Instr.makeSlice 88 (.int .i64 8) (.int .i64 8)) (Ah r) (.slice a9 c5 b7) d7/\(∃ f3 s1 j7 y1,Ru (Instr.makeSlice 88 (.int .i64 16) (.int .i64 16)) d7 (.slice f3 s1 j7) y1/\∃ o1,Al (Instr.build 183 #[(0,.int .i64 b),(1,.slice f3 s1 j7),(2,.slice a9 c5 b7)]) (.agg o1)/\∃ g y2,Yq 183 y1 g y2/\∃ d8,YE 183 g (.agg o1) y2 d8/\Ac (fun c3=>∃ o7,Yg 40 c d8 o7/\YC A0 #[.agg o7] d8 fun a41 v=>∃ i7,a41=.bool i7/\(bif !i7 then c3 [.bool true] v else(bif decide (b<0)then c3 [.bool true] v else ∃ v5,Yi (Addr.add c 2) v v5/\c3 [.bool (decide (b >= v5))] v))) fun a87 y3 =>
 ∃ j3,Ap a87 0=.bool j3/\(bif j3 then
 ∃ p3,Al (Instr.build 183 #[]) (.agg p3)/\∃ d9,YE 183 a (.agg p3) y3 d9/\∃ r0,Yg 183 a d9 r0/\K (.tuple #[.agg r0,.int .i64 1]) d9
 else
 A6 (fun a15 a71 w =>
 ∃ l,Ap a71 0=.int .i64 l/\∃ w1,Yi (Addr.add c 1) w w1/\(bif decide (l<(IntKind.i64.wrap (1+(IntKind.i64.wrap (Int.tdiv w1 4)))))then
 ∃(g3:YB)(t1 l7:Nat),YD 88 (Addr.add g 1) w (.slice g3 t1 l7)/\YC AB #[.slice g3 t1 l7,.int .i64 l,.bool true] w fun a47 a62=>∃ g9 t7 m3 a29,a47=.tuple #[.slice g9 t7 m3,.int .i64 a29]/\∃ y5,YE 88 (Addr.add g 1) (.slice g9 t7 m3) a62 y5/\a15 [.int .i64 (IntKind.i64.wrap (l+1))] y5
 else
 A6 (fun a16 a08 y6 =>
 Ac (fun r5=>∃ w8,Ap a08 0=.int .i64 w8/\(bif decide (w8<2)then r5 [.bool (b==0)] y6 else r5 [.bool false] y6)) fun a72 x =>
 ∃ b2,Ap a72 0=.bool b2/\(bif b2 then
 ∃(h5:YB)(u3 m9:Nat),YD 88 (Addr.add g 2) x (.slice h5 u3 m9)/\∃ d0,Ap a08 0=.int .i64 d0/\YC AB #[.slice h5 u3 m9,.int .i64 d0,.bool true] x fun a53 a63=>∃ i1 u9 n5 a35,a53=.tuple #[.slice i1 u9 n5,.int .i64 a35]/\∃ y7,YE 88 (Addr.add g 2) (.slice i1 u9 n5) a63 y7/\a16 [.int .i64 (IntKind.i64.wrap (d0+1)),.bool b2] y7
 else
 ∃ p9,Yg 183 g x p9/\∃ e0,YE 183 a (.agg p9) x e0/\∃ r1,Yg 183 a e0 r1/\K (.tuple #[.agg r1,.int .i64 0]) e0)) [.int .i64 0,undef] w)) [.int .i64 0] y3))/\(∃ h y8,Yq 183 d7 h y8/\∃ f4 s2 j8 y9,Ru (Instr.makeSlice 88 (.int .i64 16) (.int .i64 16)) y8 (.slice f4 s2 j8) y9/\∃ o2,Al (Instr.build 183 #[(0,.int .i64 b),(1,.slice f4 s2 j8),(2,.slice a9 c5 b7)]) (.agg o2)/\∃ e1,YE 183 h (.agg o2) y9 e1/\Ac (fun b9=>∃ o8,Yg 40 c e1 o8/\YC A0 #[.agg o8] e1 fun a42 y=>∃ i8,a42=.bool i8/\(bif !i8 then b9 [.bool true] y else(bif decide (b<0)then b9 [.bool true] y else ∃ v6,Yi (Addr.add c 2) y v6/\b9 [.bool (decide (b >= v6))] y))) fun a73 z1 =>
 ∃ j4,Ap a73 0=.bool j4/\(bif j4 then
 ∃ p4,Al (Instr.build 183 #[]) (.agg p4)/\∃ e2,YE 183 a (.agg p4) z1 e2/\∃ r2,Yg 183 a e2 r2/\K (.tuple #[.agg r2,.int .i64 1]) e2
 else
 A6 (fun a17 a74 z =>
 ∃ m,Ap a74 0=.int .i64 m/\∃ w2,Yi (Addr.add c 1) z w2/\(bif decide (m<(IntKind.i64.wrap (1+(IntKind.i64.wrap (Int.tdiv w2 4)))))then
 ∃(g4:YB)(t2 l8:Nat),YD 88 (Addr.add h 1) z (.slice g4 t2 l8)/\YC AB #[.slice g4 t2 l8,.int .i64 m,.bool true] z fun a48 a64=>∃ h0 t8 m4 a30,a48=.tuple #[.slice h0 t8 m4,.int .i64 a30]/\∃ z2,YE 88 (Addr.add h 1) (.slice h0 t8 m4) a64 z2/\a17 [.int .i64 (IntKind.i64.wrap (m+1))] z2
 else
 A6 (fun a18 a09 z3 =>
 Ac (fun r6=>∃ w9,Ap a09 0=.int .i64 w9/\(bif decide (w9<2)then r6 [.bool (b==0)] z3 else r6 [.bool false] z3)) fun a75 a0 =>
 ∃ b3,Ap a75 0=.bool b3/\(bif b3 then
 ∃(h6:YB)(u4 n0:Nat),YD 88 (Addr.add h 2) a0 (.slice h6 u4 n0)/\∃ d1,Ap a09 0=.int .i64 d1/\YC AB #[.slice h6 u4 n0,.int .i64 d1,.bool true] a0 fun a54 a65=>∃ i2 v0 n6 a36,a54=.tuple #[.slice i2 v0 n6,.int .i64 a36]/\∃ z4,YE 88 (Addr.add h 2) (.slice i2 v0 n6) a65 z4/\a18 [.int .i64 (IntKind.i64.wrap (d1+1)),.bool b3] z4
 else
 ∃ q0,Yg 183 h a0 q0/\∃ e4,YE 183 a (.agg q0) a0 e4/\∃ r3,Yg 183 a e4 r3/\K (.tuple #[.agg r3,.int .i64 0]) e4)) [.int .i64 0,undef] z)) [.int .i64 0] z1)))/\(∃ d e5,Yq 183 (Ah r) d e5/\(∃ f5 s3 j9 z5,Ru (Instr.makeSlice 88 (.int .i64 16) (.int .i64 16)) e5 (.slice f5 s3 j9) z5/\∃ f9 s7 l3 z6,Ru (Instr.makeSlice 88 (.int .i64 8) (.int .i64 8)) z5 (.slice f9 s7 l3) z6/\∃ o3,Al (Instr.build 183 #[(0,.int .i64 b),(1,.slice f5 s3 j9),(2,.slice f9 s7 l3)]) (.agg o3)/\∃ e6,YE 183 d (.agg o3) z6 e6/\Ac (fun c0=>∃ o9,Yg 40 c e6 o9/\YC A0 #[.agg o9] e6 fun a43 a1=>∃ i9,a43=.bool i9/\(bif !i9 then c0 [.bool true] a1 else(bif decide (b<0)then c0 [.bool true] a1 else ∃ v7,Yi (Addr.add c 2) a1 v7/\c0 [.bool (decide (b >= v7))] a1))) fun a76 z7 =>
 ∃ j5,Ap a76 0=.bool j5/\(bif j5 then
 ∃ p5,Al (Instr.build 183 #[]) (.agg p5)/\∃ e7,YE 183 a (.agg p5) z7 e7/\∃ r4,Yg 183 a e7 r4/\K (.tuple #[.agg r4,.int .i64 1]) e7
 else
 A6 (fun a19 a77 a2 =>
 ∃ n,Ap a77 0=.int .i64 n/\∃ w3,Yi (Addr.add c 1) a2 w3/\(bif decide (n<(IntKind.i64.wrap (1+(IntKind.i64.wrap (Int.tdiv w3 4)))))then
 ∃(g5:YB)(t3 l9:Nat),YD 88 (Addr.add d 1) a2 (.slice g5 t3 l9)/\YC AB #[.slice g5 t3 l9,.int .i64 n,.bool true] a2 fun a49 a66=>∃ h1 t9 m5 a31,a49=.tuple #[.slice h1 t9 m5,.int .i64 a31]/\∃ z8,YE 88 (Addr.add d 1) (.slice h1 t9 m5) a66 z8/\a19 [.int .i64 (IntKind.i64.wrap (n+1))] z8
 else
 A6 (fun a20 a10 z9 =>
 Ac (fun r7=>∃ x0,Ap a10 0=.int .i64 x0/\(bif decide (x0<2)then r7 [.bool (b==0)] z9 else r7 [.bool false] z9)) fun a79 a4 =>
 ∃ b4,Ap a79 0=.bool b4/\(bif b4 then
 ∃(h7:YB)(u5 n1:Nat),YD 88 (Addr.add d 2) a4 (.slice h7 u5 n1)/\∃ c6,Ap a10 0=.int .i64 c6/\YC AB #[.slice h7 u5 n1,.int .i64 c6,.bool true] a4 fun a55 a67=>∃ i3 v1 n7 a37,a55=.tuple #[.slice i3 v1 n7,.int .i64 a37]/\∃ a00,YE 88 (Addr.add d 2) (.slice i3 v1 n7) a67 a00/\a20 [.int .i64 (IntKind.i64.wrap (c6+1)),.bool b4] a00
 else
 ∃ q1,Yg 183 d a4 q1/\∃ e8,YE 183 a (.agg q1) a4 e8/\∃ q4,Yg 183 a e8 q4/\K (.tuple #[.agg q4,.int .i64 0]) e8)) [.int .i64 0,undef] a2)) [.int .i64 0] z7))/\(∃ g0 s8 l4 a01,Ru (Instr.makeSlice 88 (.int .i64 8) (.int .i64 8)) e5 (.slice g0 s8 l4) a01/\∃ f6 s4 l0 a02,Ru (Instr.makeSlice 88 (.int .i64 16) (.int .i64 16)) a01 (.slice f6 s4 l0) a02/\∃ o4,Al (Instr.build 183 #[(0,.int .i64 b),(1,.slice f6 s4 l0),(2,.slice g0 s8 l4)]) (.agg o4)/\∃ e9,YE 183 d (.agg o4) a02 e9/\Ac (fun c1=>∃ p0,Yg 40 c e9 p0/\YC A0 #[.agg p0] e9 fun a44 a5=>∃ j0,a44=.bool j0/\(bif !j0 then c1 [.bool true] a5 else(bif decide (b<0)then c1 [.bool true] a5 else ∃ v8,Yi (Addr.add c 2) a5 v8/\c1 [.bool (decide (b >= v8))] a5))) fun a80 a04 =>
 ∃ j6,Ap a80 0=.bool j6/\(bif j6 then
 ∃ p6,Al (Instr.build 183 #[]) (.agg p6)/\∃ f0,YE 183 a (.agg p6) a04 f0/\∃ q5,Yg 183 a f0 q5/\K (.tuple #[.agg q5,.int .i64 1]) f0
 else
 A6 (fun a22 a81 a6 =>
 ∃ o,Ap a81 0=.int .i64 o/\∃ w4,Yi (Addr.add c 1) a6 w4/\(bif decide (o<(IntKind.i64.wrap (1+(IntKind.i64.wrap (Int.tdiv w4 4)))))then
 ∃(g6:YB)(t4 m0:Nat),YD 88 (Addr.add d 1) a6 (.slice g6 t4 m0)/\YC AB #[.slice g6 t4 m0,.int .i64 o,.bool true] a6 fun a50 a68=>∃ h2 u0 m6 a32,a50=.tuple #[.slice h2 u0 m6,.int .i64 a32]/\∃ a05,YE 88 (Addr.add d 1) (.slice h2 u0 m6) a68 a05/\a22 [.int .i64 (IntKind.i64.wrap (o+1))] a05
 else
 A6 (fun a23 a11 a06 =>
 Ac (fun r8=>∃ w6,Ap a11 0=.int .i64 w6/\(bif decide (w6<2)then r8 [.bool (b==0)] a06 else r8 [.bool false] a06)) fun a82 a7 =>
 ∃ b5,Ap a82 0=.bool b5/\(bif b5 then
 ∃(h8:YB)(u6 n2:Nat),YD 88 (Addr.add d 2) a7 (.slice h8 u6 n2)/\∃ c7,Ap a11 0=.int .i64 c7/\YC AB #[.slice h8 u6 n2,.int .i64 c7,.bool true] a7 fun a56 a69=>∃ i4 v2 n8 a38,a56=.tuple #[.slice i4 v2 n8,.int .i64 a38]/\∃ a07,YE 88 (Addr.add d 2) (.slice i4 v2 n8) a69 a07/\a23 [.int .i64 (IntKind.i64.wrap (c7+1)),.bool b5] a07
 else
 ∃ q2,Yg 183 d a7 q2/\∃ f1,YE 183 a (.agg q2) a7 f1/\∃ q6,Yg 183 a f1 q6/\K (.tuple #[.agg q6,.int .i64 0]) f1)) [.int .i64 0,undef] a6)) [.int .i64 0] a04)))
theorem PF(g0:Array Value)(n1:Int):Yz FI #[.agg g0,.int .i64 n1] (IX g0 n1):=fun _ _ h=>Af (A:=⟨[7,8,25,48],[(7,3),(8,3),(25,4),(48,4)],[]⟩) Tryz.func213 h
def KC(f5:Array Value)(f6:Array Value)(g4:World)(K:YA):Prop :=
 ∃ j e4,Yb 40 (.agg f5) g4 j e4/\∃ a d,Yb 183 (.agg f6) e4 a d/\∃ c4,Yg 40 j d c4/\∃ c1,Yg 183 a d c1/\YC Eg #[.agg c4,.agg c1] d fun f9 e=>∃ a4,f9=.bool a4/\(bif !a4 then
 K (.tuple #[.slice none 0 0,.int .i64 1]) e
 else
 ∃ c2,Yg 40 j e c2/\∃ c3,Yg 183 a e c3/\YC G3 #[.agg c2,.agg c3] e fun g0 g6=>∃ e1 e2,g0=.tuple #[.int .i64 e1,.int .i64 e2]/\∃ o c5 a5 f3,Ru (Instr.buildSlice 88 4 #[(0,.int .u8 76),(1,.int .u8 71),(2,.int .u8 82),(3,.int .u8 80)]) g6 (.slice o c5 a5) f3/\∃ p c6 a6 n,Ru (convert 88 88 (.slice o c5 a5)) f3 (.slice p c6 a6) n/\∃ e3,Yi (Addr.add a 0) n e3/\YC A2 #[.int .u64 (IntKind.u64.wrap e3),.int .i64 2] n fun g1 g7=>∃ q c7 a7,g1=.slice q c7 a7/\∃ r c8 a8 f4,Ru (Builtin.append_ #[88,88] 88 #[.slice p c6 a6,.slice q c7 a7]) g7 (.slice r c8 a8) f4/\YC A2 #[.int .u64 (IntKind.u64.wrap e1),.int .i64 2] f4 fun g2 g8=>∃ s c9 a9,g2=.slice s c9 a9/\∃ t d0 b0 e5,Ru (Builtin.append_ #[88,88] 88 #[.slice r c8 a8,.slice s c9 a9]) g8 (.slice t d0 b0) e5/\YC A2 #[.int .u64 (IntKind.u64.wrap e2),.int .i64 2] e5 fun g3 g5=>∃ u d1 b1,g3=.slice u d1 b1/\∃ v d2 b2 e6,Ru (Builtin.append_ #[88,88] 88 #[.slice t d0 b0,.slice u d1 b1]) g5 (.slice v d2 b2) e6/\A6 (fun f7 g9 l =>
 ∃ f b h,Ap g9 0=.slice f b h/\(bif decide ((b:Int)<16)then
 ∃ w d3 b3 e7,Ru (Instr.buildSlice 88 1 #[(0,.int .u8 0)]) l (.slice w d3 b3) e7/\∃ x d4 b4 e8,Ru (Builtin.append_ #[88,88] 88 #[.slice f b h,.slice w d3 b3]) e7 (.slice x d4 b4) e8/\f7 [.slice x d4 b4] e8
 else
 ∃(y:YB)(d5 b5:Nat),YD 88 (Addr.add a 1) l (.slice y d5 b5)/\∃ z d6 b6 m,Ru (Builtin.append_ #[88,88] 88 #[.slice f b h,.slice y d5 b5]) l (.slice z d6 b6) m/\∃(a0:YB)(d7 b7:Nat),YD 88 (Addr.add a 2) m (.slice a0 d7 b7)/\∃ a1 d8 b8 e9,Ru (Builtin.append_ #[88,88] 88 #[.slice z d6 b6,.slice a0 d7 b7]) m (.slice a1 d8 b8) e9/\A6 (fun f8 h0 f0 =>
 ∃ g c i,Ap h0 0=.slice g c i/\(bif decide ((c:Int)<256)then
 ∃ a2 d9 b9 f1,Ru (Instr.buildSlice 88 1 #[(0,.int .u8 0)]) f0 (.slice a2 d9 b9) f1/\∃ a3 e0 c0 f2,Ru (Builtin.append_ #[88,88] 88 #[.slice g c i,.slice a2 d9 b9]) f1 (.slice a3 e0 c0) f2/\f8 [.slice a3 e0 c0] f2
 else
 K (.tuple #[.slice g c i,.int .i64 0]) f0)) [.slice a1 d8 b8] e9)) [.slice v d2 b2] e6)
theorem Sr(g0:Array Value)(g1:Array Value):Yz BN #[.agg g0,.agg g1] (KC g0 g1):=fun _ _ h=>Af (A:=⟨[8],[(8,88)],[]⟩) Tryz.func214 h
def KE(s:YB)(m t:Nat)(b:Int)(u:Array Value)(x:World)(K:YA):Prop :=
 ∃ q a,Yb 218 (.agg u) x q a/\(bif (m:Int) != 256 then
 K (.tuple #[.slice none 0 0,.int .i64 4]) a
 else
 Ac (fun l=>(bif decide (b<0)then l [.bool true] a else l [.bool (decide (b > 3))] a)) fun z d =>
 ∃ g,Ap z 0=.bool g/\(bif g then
 K (.tuple #[.slice none 0 0,.int .i64 3]) d
 else
 ∃ j,Yg 218 q d j/\YC BO #[.agg j] d fun v r=>∃ e n h c,v=.tuple #[.slice e n h,.int .i64 c]/\(bif c != 0 then
 K (.tuple #[.slice none 0 0,.int .i64 c]) r
 else
 YC EU #[.slice s m t,.int .i64 (IntKind.i64.wrap (64*b)),.slice e n h] r fun w y=>∃ f o i p,w=.tuple #[.slice f o i,.int .i64 p]/\K (.tuple #[.slice f o i,.int .i64 p]) y)))
theorem Su(a0:YB)(l0 c0:Nat)(n1:Int)(g2:Array Value):Yz He #[.slice a0 l0 c0,.int .i64 n1,.agg g2] (KE a0 l0 c0 n1 g2):=fun _ _ h=>Af (A:=⟨[18],[(18,4)],[]⟩) Tryz.func215 h
def IV(i:Array Value)(l:World)(K:YA):Prop :=
 ∃ b a,Yb 232 (.agg i) l b a/\Ac (fun c=>∃ g,YD 2 (Addr.add b 0) a (.int .i64 g)/\(bif decide (g >= 1)then ∃ h,YD 2 (Addr.add b 0) a (.int .i64 h)/\(bif decide (h<=4611686018427387904)then ∃ f,Yg 40 (Addr.add b 1) a f/\YC A0 #[.agg f] a fun j m=>∃ d,j=.bool d/\c [.bool d] m else c [.bool false] a)else c [.bool false] a)) fun o n =>
 ∃ e,Ap o 0=.bool e/\K (.bool e) n
theorem PD(g0:Array Value):Yz FH #[.agg g0] (IV g0):=fun _ _ h=>Af (A:=⟨[2],[(2,4)],[]⟩) Tryz.func216 h
def IR(a6:Int)(a7:Int)(a8:World)(K:YA):Prop :=
 A6 (fun a5 b c =>
 ∃ a,Ap b 1=.int .i64 a/\(bif decide (a<a7)then
 Ac (fun s=>(bif decide (a<8)then
 ∃ h x p,Ap b 0=.slice h x p/\∃ a0,Al (Gp .shr 270 (.tmp 15) (.tmp 18) (.int .u64 a6) (.int .u64 (IntKind.u64.wrap (IntKind.i64.wrap (8*a))))) (.int .u64 a0)/\∃ d t l a1,Ru (Instr.buildSlice 88 1 #[(0,.int .u8 (IntKind.u8.wrap a0))]) c (.slice d t l) a1/\∃ e u m a2,Ru (Builtin.append_ #[88,88] 88 #[.slice h x p,.slice d t l]) a1 (.slice e u m) a2/\s [.slice e u m] a2
 else
 ∃ i y q,Ap b 0=.slice i y q/\∃ f v n a3,Ru (Instr.buildSlice 88 1 #[(0,.int .u8 0)]) c (.slice f v n) a3/\∃ g w o a4,Ru (Builtin.append_ #[88,88] 88 #[.slice i y q,.slice f v n]) a3 (.slice g w o) a4/\s [.slice g w o] a4)) fun b0 a9 =>
 a5 [Ap b0 0,.int .i64 (IntKind.i64.wrap (a+1))] a9
 else
 ∃ j z r,Ap b 0=.slice j z r/\K (.slice j z r) c)) [.slice none 0 0,.int .i64 0] a8
theorem P9(n0:Int)(n1:Int):Yz A2 #[.int .u64 n0,.int .i64 n1] (IR n0 n1):=fun _ _ h=>Af (A:=⟨[5,6],[(5,88),(6,3)],[]⟩) Tryz.func217 h
def K5(o:YB)(i p:Nat)(s:World)(K:YA):Prop :=
 A6 (fun q f d =>
 ∃ b,Ap f 1=.int .i64 b/\(bif decide (b<(i:Int))then
 ∃ l,Ap f 0=.int .u32 l/\∃ n,Yx 88 (.slice o i p) (.int .i64 b) n/\∃ j,YD 5 n d (.int .u8 j)/\A6 (fun r g e =>
 ∃ c,Ap g 1=.int .i64 c/\(bif decide (c<8)then
 ∃ a,Ap g 0=.int .u32 a/\Ac (fun h=>(bif (IntKind.u32.wrap (JT 32 a 1))==1 then
 h [.int .u32 (IntKind.u32.wrap (HI 32 (Int.fdiv a 2) 3988292384))] e
 else
 h [.int .u32 (Int.fdiv a 2)] e)) fun u t =>
 r [Ap u 0,.int .i64 (IntKind.i64.wrap (c+1))] t
 else
 q [Ap g 0,.int .i64 (IntKind.i64.wrap (b+1)),.int .i64 c] e)) [.int .u32 (IntKind.u32.wrap (HI 32 l (IntKind.u32.wrap j))),.int .i64 0] d
 else
 ∃ m,Ap f 0=.int .u32 m/\K (.int .u32 (IntKind.u32.wrap (HI 32 m 4294967295))) d)) [.int .u32 4294967295,.int .i64 0,undef] s
theorem Sj(a0:YB)(l0 c0:Nat):Yz EV #[.slice a0 l0 c0] (K5 a0 l0 c0):=fun _ _ h=>Af (A:=⟨[3,4,5],[(3,283),(4,3),(5,3)],[]⟩) Tryz.func218 h
def K7(c:YB)(b d:Nat)(r2:World)(K:YA):Prop :=
 ∃ a n,Yq 232 r2 a n/\(bif (b:Int) != 256 then
 ∃ e5,Al (Instr.build 232 #[]) (.agg e5)/\∃ b0,YE 232 a (.agg e5) n b0/\∃ h8,Yg 232 a b0 h8/\K (.tuple #[.agg h8,.int .i64 4]) b0
 else
 ∃ c9 j6 d7,Al (Instr.sliceAt 88 (.slice c b d) none (some (.int .i64 4)) none) (.slice c9 j6 d7)/\∃ n2:ByteArray,Ru (convert 88 9 (.slice c9 j6 d7)) n (.string n2) n/\(bif !((ByteArray.toList n2)==(ByteArray.toList (⟨#[76,86,69,69]⟩)))then
 ∃ e6,Al (Instr.build 232 #[]) (.agg e6)/\∃ b6,YE 232 a (.agg e6) n b6/\∃ i8,Yg 232 a b6 i8/\K (.tuple #[.agg i8,.int .i64 8]) b6
 else
 ∃ d0 j7 d8,Al (Instr.sliceAt 88 (.slice c b d) (some (.int .i64 252)) none none) (.slice d0 j7 d8)/\∃ d1 j8 d9,Al (Instr.sliceAt 88 (.slice c b d) none (some (.int .i64 252)) none) (.slice d1 j8 d9)/\YC Ai #[.slice d0 j7 d8] (Ah n) fun p1 s0=>∃ l4,p1=.int .u64 l4/\YC EV #[.slice d1 j8 d9] s0 fun p2 c6=>∃ l5,p2=.int .u32 l5/\(bif l4 != (IntKind.u64.wrap l5)then
 ∃ e7,Al (Instr.build 232 #[]) (.agg e7)/\∃ c8,YE 232 a (.agg e7) c6 c8/\∃ i9,Yg 232 a c8 i9/\K (.tuple #[.agg i9,.int .i64 7]) c8
 else
 ∃ a1 a3 a2,Al (Instr.sliceAt 88 (.slice c b d) (some (.int .i64 4)) (some (.int .i64 12)) none) (.slice a1 a3 a2)/\∃ s u t,Al (Instr.sliceAt 88 (.slice c b d) (some (.int .i64 12)) (some (.int .i64 14)) none) (.slice s u t)/\∃ o q p,Al (Instr.sliceAt 88 (.slice c b d) (some (.int .i64 14)) (some (.int .i64 16)) none) (.slice o q p)/\∃ j m l,Al (Instr.sliceAt 88 (.slice c b d) (some (.int .i64 16)) (some (.int .i64 18)) none) (.slice j m l)/\(YC Ai #[.slice a1 a3 a2] (Ah c6) fun p3 o8=>∃ r,p3=.int .u64 r/\(YC Ai #[.slice s u t] o8 fun p5 o9=>∃ v,p5=.int .u64 v/\(YC Ai #[.slice o q p] o9 fun p8 p0=>∃ a4,p8=.int .u64 a4/\(YC Ai #[.slice j m l] p0 fun q2 r3=>∃ m2,q2=.int .u64 m2/\∃ e8,Al (Instr.build 40 #[(0,.int .i64 (IntKind.i64.wrap v)),(1,.int .i64 (IntKind.i64.wrap a4)),(2,.int .i64 (IntKind.i64.wrap m2))]) (.agg e8)/\∃ f3,Al (Instr.build 232 #[(0,.int .i64 (IntKind.i64.wrap r)),(1,.agg e8)]) (.agg f3)/\∃ w o3,Yq 232 r3 w o3/\∃ a5,YE 232 w (.agg f3) o3 a5/\∃ f8,Yg 232 w a5 f8/\YC B4 #[.agg f8] a5 fun q7 e=>∃ d2 j9 e0 m7,q7=.tuple #[.slice d2 j9 e0,.int .i64 m7]/\(bif m7 != 0 then
 ∃ g3,Al (Instr.build 232 #[]) (.agg g3)/\∃ a6,YE 232 a (.agg g3) e a6/\∃ j0,Yg 232 a a6 j0/\K (.tuple #[.agg j0,.int .i64 1]) a6
 else
 ∃ n3:ByteArray,Ru (convert 88 9 (.slice d2 j9 e0)) e (.string n3) e/\∃ n8:ByteArray,Ru (convert 88 9 (.slice c b d)) e (.string n8) e/\(bif !((ByteArray.toList n3)==(ByteArray.toList n8))then
 ∃ g8,Al (Instr.build 232 #[]) (.agg g8)/\∃ a7,YE 232 a (.agg g8) e a7/\∃ j1,Yg 232 a a7 j1/\K (.tuple #[.agg j1,.int .i64 8]) a7
 else
 ∃ h3,Yg 232 w e h3/\∃ a8,YE 232 a (.agg h3) e a8/\∃ j2,Yg 232 a a8 j2/\K (.tuple #[.agg j2,.int .i64 0]) a8)))/\(∃ x o4,Yq 232 p0 x o4/\YC Ai #[.slice j m l] o4 fun q3 r4=>∃ m3,q3=.int .u64 m3/\∃ e9,Al (Instr.build 40 #[(0,.int .i64 (IntKind.i64.wrap v)),(1,.int .i64 (IntKind.i64.wrap a4)),(2,.int .i64 (IntKind.i64.wrap m3))]) (.agg e9)/\∃ f4,Al (Instr.build 232 #[(0,.int .i64 (IntKind.i64.wrap r)),(1,.agg e9)]) (.agg f4)/\∃ a9,YE 232 x (.agg f4) r4 a9/\∃ f9,Yg 232 x a9 f9/\YC B4 #[.agg f9] a9 fun q8 f=>∃ d3 l0 e1 m8,q8=.tuple #[.slice d3 l0 e1,.int .i64 m8]/\(bif m8 != 0 then
 ∃ g4,Al (Instr.build 232 #[]) (.agg g4)/\∃ b1,YE 232 a (.agg g4) f b1/\∃ j3,Yg 232 a b1 j3/\K (.tuple #[.agg j3,.int .i64 1]) b1
 else
 ∃ n4:ByteArray,Ru (convert 88 9 (.slice d3 l0 e1)) f (.string n4) f/\∃ n9:ByteArray,Ru (convert 88 9 (.slice c b d)) f (.string n9) f/\(bif !((ByteArray.toList n4)==(ByteArray.toList n9))then
 ∃ g9,Al (Instr.build 232 #[]) (.agg g9)/\∃ b2,YE 232 a (.agg g9) f b2/\∃ j4,Yg 232 a b2 j4/\K (.tuple #[.agg j4,.int .i64 8]) b2
 else
 ∃ h4,Yg 232 x f h4/\∃ b3,YE 232 a (.agg h4) f b3/\∃ j5,Yg 232 a b3 j5/\K (.tuple #[.agg j5,.int .i64 0]) b3))))/\(∃ y o5,Yq 232 o9 y o5/\YC Ai #[.slice o q p] o5 fun p9 r5=>∃ l9,p9=.int .u64 l9/\YC Ai #[.slice j m l] r5 fun q4 r6=>∃ m4,q4=.int .u64 m4/\∃ f0,Al (Instr.build 40 #[(0,.int .i64 (IntKind.i64.wrap v)),(1,.int .i64 (IntKind.i64.wrap l9)),(2,.int .i64 (IntKind.i64.wrap m4))]) (.agg f0)/\∃ f5,Al (Instr.build 232 #[(0,.int .i64 (IntKind.i64.wrap r)),(1,.agg f0)]) (.agg f5)/\∃ b4,YE 232 y (.agg f5) r6 b4/\∃ g0,Yg 232 y b4 g0/\YC B4 #[.agg g0] b4 fun q9 g=>∃ d4 l1 e2 m9,q9=.tuple #[.slice d4 l1 e2,.int .i64 m9]/\(bif m9 != 0 then
 ∃ g5,Al (Instr.build 232 #[]) (.agg g5)/\∃ b5,YE 232 a (.agg g5) g b5/\∃ h9,Yg 232 a b5 h9/\K (.tuple #[.agg h9,.int .i64 1]) b5
 else
 ∃ n5:ByteArray,Ru (convert 88 9 (.slice d4 l1 e2)) g (.string n5) g/\∃ o0:ByteArray,Ru (convert 88 9 (.slice c b d)) g (.string o0) g/\(bif !((ByteArray.toList n5)==(ByteArray.toList o0))then
 ∃ h0,Al (Instr.build 232 #[]) (.agg h0)/\∃ b7,YE 232 a (.agg h0) g b7/\∃ i0,Yg 232 a b7 i0/\K (.tuple #[.agg i0,.int .i64 8]) b7
 else
 ∃ h5,Yg 232 y g h5/\∃ b8,YE 232 a (.agg h5) g b8/\∃ i1,Yg 232 a b8 i1/\K (.tuple #[.agg i1,.int .i64 0]) b8))))/\(∃ z o6,Yq 232 o8 z o6/\YC Ai #[.slice s u t] o6 fun p6 r7=>∃ l7,p6=.int .u64 l7/\YC Ai #[.slice o q p] r7 fun q0 r8=>∃ m0,q0=.int .u64 m0/\YC Ai #[.slice j m l] r8 fun q5 r9=>∃ m5,q5=.int .u64 m5/\∃ f1,Al (Instr.build 40 #[(0,.int .i64 (IntKind.i64.wrap l7)),(1,.int .i64 (IntKind.i64.wrap m0)),(2,.int .i64 (IntKind.i64.wrap m5))]) (.agg f1)/\∃ f6,Al (Instr.build 232 #[(0,.int .i64 (IntKind.i64.wrap r)),(1,.agg f1)]) (.agg f6)/\∃ b9,YE 232 z (.agg f6) r9 b9/\∃ g1,Yg 232 z b9 g1/\YC B4 #[.agg g1] b9 fun r0 h=>∃ d5 l2 e3 n0,r0=.tuple #[.slice d5 l2 e3,.int .i64 n0]/\(bif n0 != 0 then
 ∃ g6,Al (Instr.build 232 #[]) (.agg g6)/\∃ c0,YE 232 a (.agg g6) h c0/\∃ i2,Yg 232 a c0 i2/\K (.tuple #[.agg i2,.int .i64 1]) c0
 else
 ∃ n6:ByteArray,Ru (convert 88 9 (.slice d5 l2 e3)) h (.string n6) h/\∃ o1:ByteArray,Ru (convert 88 9 (.slice c b d)) h (.string o1) h/\(bif !((ByteArray.toList n6)==(ByteArray.toList o1))then
 ∃ h1,Al (Instr.build 232 #[]) (.agg h1)/\∃ c1,YE 232 a (.agg h1) h c1/\∃ i3,Yg 232 a c1 i3/\K (.tuple #[.agg i3,.int .i64 8]) c1
 else
 ∃ h6,Yg 232 z h h6/\∃ c2,YE 232 a (.agg h6) h c2/\∃ i4,Yg 232 a c2 i4/\K (.tuple #[.agg i4,.int .i64 0]) c2))))/\(∃ a0 o7,Yq 232 (Ah c6) a0 o7/\YC Ai #[.slice a1 a3 a2] o7 fun p4 s1=>∃ l6,p4=.int .u64 l6/\YC Ai #[.slice s u t] s1 fun p7 s2=>∃ l8,p7=.int .u64 l8/\YC Ai #[.slice o q p] s2 fun q1 s3=>∃ m1,q1=.int .u64 m1/\YC Ai #[.slice j m l] s3 fun q6 s4=>∃ m6,q6=.int .u64 m6/\∃ f2,Al (Instr.build 40 #[(0,.int .i64 (IntKind.i64.wrap l8)),(1,.int .i64 (IntKind.i64.wrap m1)),(2,.int .i64 (IntKind.i64.wrap m6))]) (.agg f2)/\∃ f7,Al (Instr.build 232 #[(0,.int .i64 (IntKind.i64.wrap l6)),(1,.agg f2)]) (.agg f7)/\∃ c3,YE 232 a0 (.agg f7) s4 c3/\∃ g2,Yg 232 a0 c3 g2/\YC B4 #[.agg g2] c3 fun r1 i=>∃ d6 l3 e4 n1,r1=.tuple #[.slice d6 l3 e4,.int .i64 n1]/\(bif n1 != 0 then
 ∃ g7,Al (Instr.build 232 #[]) (.agg g7)/\∃ c4,YE 232 a (.agg g7) i c4/\∃ i5,Yg 232 a c4 i5/\K (.tuple #[.agg i5,.int .i64 1]) c4
 else
 ∃ n7:ByteArray,Ru (convert 88 9 (.slice d6 l3 e4)) i (.string n7) i/\∃ o2:ByteArray,Ru (convert 88 9 (.slice c b d)) i (.string o2) i/\(bif !((ByteArray.toList n7)==(ByteArray.toList o2))then
 ∃ h2,Al (Instr.build 232 #[]) (.agg h2)/\∃ c5,YE 232 a (.agg h2) i c5/\∃ i6,Yg 232 a c5 i6/\K (.tuple #[.agg i6,.int .i64 8]) c5
 else
 ∃ h7,Yg 232 a0 i h7/\∃ c7,YE 232 a (.agg h7) i c7/\∃ i7,Yg 232 a c7 i7/\K (.tuple #[.agg i7,.int .i64 0]) c7))))))
theorem Sl(a0:YB)(l0 c0:Nat):Yz EW #[.slice a0 l0 c0] (K7 a0 l0 c0):=fun _ _ h=>Af (A:=⟨[],[],[]⟩) Tryz.func219 h
def IS(r:Array Value)(c:Int)(u:World)(K:YA):Prop :=
 ∃ a f,Yb 40 (.agg r) u a f/\∃ j,Yg 40 a f j/\YC A0 #[.agg j] f fun s d=>∃ g,s=.bool g/\(bif !g then
 K (.tuple #[.int .i64 0,.int .i64 0,.int .i64 1]) d
 else
 Ac (fun l=>(bif decide (c<0)then l [.bool true] d else ∃ i,Yg 40 a d i/\YC Ct #[.agg i] d fun t v=>∃ m,t=.int .i64 m/\l [.bool (decide (c >= m))] v)) fun w b =>
 ∃ h,Ap w 0=.bool h/\(bif h then
 K (.tuple #[.int .i64 0,.int .i64 0,.int .i64 3]) b
 else
 ∃ n,Yi (Addr.add a 1) b n/\∃ o,Al (Gp .quo 3 (.tmp 20) (.tmp 22) (.int .i64 c) (.int .i64 n)) (.int .i64 o)/\∃ p,Yi (Addr.add a 1) b p/\∃ e,Al (Gp .rem 3 (.tmp 24) (.tmp 26) (.int .i64 c) (.int .i64 p)) (.int .i64 e)/\∃ q,Yi (Addr.add a 0) b q/\K (.tuple #[.int .i64 (IntKind.i64.wrap ((IntKind.i64.wrap ((IntKind.i64.wrap (2+(IntKind.i64.wrap (o*q))))+1))+(IntKind.i64.wrap (Int.tdiv e 4)))),.int .i64 (Int.tmod e 4),.int .i64 0]) b))
theorem PA(g0:Array Value)(n1:Int):Yz FG #[.agg g0,.int .i64 n1] (IS g0 n1):=fun _ _ h=>Af (A:=⟨[19],[(19,4)],[]⟩) Tryz.func220 h
def JD(v:YB)(r w:Nat)(b:Int)(y:World)(K:YA):Prop :=
 ∃ a c,Yq 218 y a c/\(bif (r:Int) != 256 then
 ∃ m,Al (Instr.build 218 #[]) (.agg m)/\∃ d,YE 218 a (.agg m) c d/\∃ n,Yg 218 a d n/\K (.tuple #[.agg n,.int .i64 4]) d
 else
 Ac (fun q=>(bif decide (b<0)then q [.bool true] c else q [.bool (decide (b > 3))] c)) fun a0 u =>
 ∃ h,Ap a0 0=.bool h/\(bif h then
 ∃ j,Al (Instr.build 218 #[]) (.agg j)/\∃ e,YE 218 a (.agg j) u e/\∃ o,Yg 218 a e o/\K (.tuple #[.agg o,.int .i64 3]) e
 else
 ∃ g s i,Al (Instr.sliceAt 88 (.slice v r w) (some (.int .i64 (IntKind.i64.wrap (64*b)))) (some (.int .i64 (IntKind.i64.wrap ((IntKind.i64.wrap (64*b))+64)))) none) (.slice g s i)/\YC Hc #[.slice g s i] u fun x z=>∃ l t,x=.tuple #[.agg l,.int .i64 t]/\∃ f,YE 218 a (.agg l) z f/\∃ p,Yg 218 a f p/\K (.tuple #[.agg p,.int .i64 t]) f))
theorem Q0(a0:YB)(l0 c0:Nat)(n1:Int):Yz G4 #[.slice a0 l0 c0,.int .i64 n1] (JD a0 l0 c0 n1):=fun _ _ h=>Af (A:=⟨[15],[(15,4)],[]⟩) Tryz.func221 h
def Fv(h:YB)(d i:Nat)(m:Value)(n:World)(K:YA):Prop :=
 A6 (fun j o b =>
 ∃ a,Ap o 0=.int .i64 a/\(bif decide (a<(d:Int))then
 ∃ f,Yx 159 (.slice h d i) (.int .i64 a) f/\∃ e,YD 2 f b (.int .i64 e)/\WN Tryz.prog m #[.int .i64 e] b fun l g=>∃ c,l=.bool c/\(bif c then
 K (.int .i64 a) g
 else
 j [.int .i64 (IntKind.i64.wrap (a+1))] g)
 else
 K (.int .i64 ((-1))) b)) [.int .i64 0] n
theorem Kh(a0:YB)(l0 c0:Nat)(v1:Value):Yz D0 #[.slice a0 l0 c0,v1] (Fv a0 l0 c0 v1):=fun _ _ h=>Af (A:=⟨[8],[(8,3)],[]⟩) Tryz.func222 h
def Ys(i:YB)(e j:Nat)(c:Int)(f:Int)(b:World)(K:YA):Prop :=
 Ac (fun a=>(bif decide (c >= 0)then(bif decide (f >= 0)then(bif decide (c<=(e:Int))then a [.bool (decide (f<=(IntKind.i64.wrap ((e:Int)-c))))] b else a [.bool false] b)else a [.bool false] b)else a [.bool false] b)) fun h g =>
 ∃ d,Ap h 0=.bool d/\K (.bool d) g
theorem Yn(a0:YB)(l0 c0:Nat)(n1:Int)(n2:Int):Yz LQ #[.slice a0 l0 c0,.int .i64 n1,.int .i64 n2] (Ys a0 l0 c0 n1 n2):=fun _ _ h=>Af (A:=⟨[6],[(6,4)],[]⟩) Tryz.func223 h
def GR(b:YB)(d c:Nat)(e:Int)(g:World)(K:YA):Prop :=
 YC FM #[.slice b d c,.int .i64 e] g fun f h=>∃ a,f=.int .i64 a/\K (.bool (decide (a >= 0))) h
theorem MH(a0:YB)(l0 c0:Nat)(n1:Int):Yz E0 #[.slice a0 l0 c0,.int .i64 n1] (GR a0 l0 c0 n1):=fun _ _ h=>Af (A:=⟨[],[],[]⟩) Tryz.func224 h
def Ga(b:YB)(a c:Nat)(v:Value)(a3:World)(K:YA):Prop :=
 YC CO #[.slice b a c,v] a3 fun a1 w=>∃ d,a1=.int .i64 d/\(bif d==(-1)then
 K (.slice b a c) w
 else
 A6 (fun a0 f j =>
 ∃ e,Ap f 1=.int .i64 e/\(bif decide (e<(a:Int))then
 ∃ t,Yx 80 (.slice b a c) (.int .i64 e) t/\∃ g,Yi t j g/\WN Tryz.prog v #[.int .i64 g] j fun a2 x=>∃ n,a2=.bool n/\Ac (fun q=>(bif !n then
 ∃ h,Ap f 0=.int .i64 h/\∃ u,Yx 80 (.slice b a c) (.int .i64 h) u/\∃ y,YE 3 u (.int .i64 g) x y/\q [.int .i64 (IntKind.i64.wrap (h+1))] y
 else
 q [Ap f 0] x)) fun a5 a4 =>
 a0 [Ap a5 0,.int .i64 (IntKind.i64.wrap (e+1))] a4
 else
 ∃ i,Ap f 0=.int .i64 i/\∃ l r o,Al (Instr.sliceAt 80 (.slice b a c) (some (.int .i64 i)) none none) (.slice l r o)/\∃ z,Ru (Builtin.clear_ #[80] 0 #[.slice l r o]) j (.tuple #[]) z/\∃ m s p,Al (Instr.sliceAt 80 (.slice b a c) none (some (.int .i64 i)) none) (.slice m s p)/\K (.slice m s p) z)) [.int .i64 d,.int .i64 (IntKind.i64.wrap (d+1))] w)
theorem Kw(a0:YB)(l0 c0:Nat)(v1:Value):Yz Bx #[.slice a0 l0 c0,v1] (Ga a0 l0 c0 v1):=fun _ _ h=>Af (A:=⟨[5,6],[(5,3),(6,3)],[]⟩) Tryz.func225 h
def OR(c:Int)(d:Value)(a:World)(K:YA):Prop :=
 ∃ b,Ru (Instr.loadAt 3 d) a (.int .i64 b) a/\K (.bool (c==b)) a
theorem OA(n0:Int)(v1:Value):Yz CE #[.int .i64 n0,v1] (OR n0 v1):=fun _ _ h=>Af (A:=⟨[],[],[]⟩) Tryz.func226 h
def IP(a0:YB)(a3:World)(K:YA):Prop :=
 ∃ b a,Yb 160 (.pointer a0) a3 b a/\∃ r,Yp 160 b (Ah a) r/\∃ x,(.pointer r:Value)=.pointer (some x)/\∃(y:YB)(l z:Nat),YD 80 (Addr.add x 3) (Ah a) (.slice y l z)/\∃ s,Yp 160 b (Ah a) s/\∃ t,(.pointer s:Value)=.pointer (some t)/\∃ m,Yi (Addr.add t 1) (Ah a) m/\(bif decide ((l:Int)<m)then
 K (.int .i64 0) (Ah a)
 else
 ∃ o,Yp 160 b (Ah a) o/\∃ u,(.pointer o:Value)=.pointer (some u)/\∃(e:YB)(i g:Nat),YD 80 (Addr.add u 3) (Ah a) (.slice e i g)/\YC CO #[.slice e i g,.func (.func Ds) #[] #[.pointer (some b)]] (Ah a) fun a1 c=>∃ d,a1=.int .i64 d/\(bif decide (d<0)then
 K (.int .i64 5) c
 else
 ∃ p,Yp 160 b (Ah c) p/\∃ q,Yp 160 b (Ah c) q/\∃ v,(.pointer q:Value)=.pointer (some v)/\∃(f:YB)(j h:Nat),YD 80 (Addr.add v 3) (Ah c) (.slice f j h)/\∃ w,Yx 80 (.slice f j h) (.int .i64 d) w/\∃ n,Yi w (Ah c) n/\YC Gy #[.pointer p,.int .i64 n] (Ah c) fun a2 a4=>a2=.tuple #[]/\K (.int .i64 0) a4))
theorem P7(p0:YB):Yz FE #[.pointer p0] (IP p0):=fun _ _ h=>Af (A:=⟨[],[],[]⟩) Tryz.func227 h
def KA(g:YB)(e j:Nat)(a:Int)(v:Bool)(r:World)(K:YA):Prop :=
 Ac (fun l=>(bif decide (a<0)then l [.bool true] r else l [.bool (decide ((IntKind.i64.wrap (Int.tdiv a 8)) >= (e:Int)))] r)) fun y s =>
 ∃ h,Ap y 0=.bool h/\(bif h then
 K (.tuple #[.slice none 0 0,.int .i64 3]) s
 else
 ∃ b d c t,Ru (Builtin.append_ #[88,88] 88 #[.slice none 0 0,.slice g e j]) s (.slice b d c) t/\YC Bi #[.slice g e j,.int .i64 a] t fun w f=>∃ i,w=.bool i/\Ac (fun m=>(bif !(i==v)then
 ∃ p,Yx 88 (.slice b d c) (.int .i64 (IntKind.i64.wrap (Int.tdiv a 8))) p/\∃ n,YD 5 p f (.int .u8 n)/\∃ o,Al (Gp .shl 5 (.const (.int .u8 1)) (.tmp 36) (.int .u8 1) (.int .u64 (IntKind.u64.wrap (Int.tmod a 8)))) (.int .u8 o)/\∃ q,Yx 88 (.slice b d c) (.int .i64 (IntKind.i64.wrap (Int.tdiv a 8))) q/\∃ u,YE 5 q (.int .u8 (IntKind.u8.wrap (HI 8 n o))) f u/\m [] u
 else
 m [] f)) fun z x =>
 K (.tuple #[.slice b d c,.int .i64 0]) x)
theorem So(a0:YB)(l0 c0:Nat)(n1:Int)(b2:Bool):Yz AB #[.slice a0 l0 c0,.int .i64 n1,.bool b2] (KA a0 l0 c0 n1 b2):=fun _ _ h=>Af (A:=⟨[17],[(17,4)],[]⟩) Tryz.func229 h
def K3(o:YB)(g p:Nat)(r:World)(K:YA):Prop :=
 A6 (fun q b n =>
 Ac (fun f=>∃ d,Ap b 1=.int .i64 d/\(bif decide (d<(g:Int))then f [.bool (decide (d<8))] n else f [.bool false] n)) fun s e =>
 ∃ c,Ap s 0=.bool c/\(bif c then
 ∃ j,Ap b 0=.int .u64 j/\∃ a,Ap b 1=.int .i64 a/\∃ m,Yx 88 (.slice o g p) (.int .i64 a) m/\∃ h,YD 5 m e (.int .u8 h)/\∃ i,Al (Gp .shl 270 (.tmp 20) (.tmp 23) (.int .u64 (IntKind.u64.wrap h)) (.int .u64 (IntKind.u64.wrap (IntKind.i64.wrap (8*a))))) (.int .u64 i)/\q [.int .u64 (IntKind.u64.wrap (TY 64 j i)),.int .i64 (IntKind.i64.wrap (a+1)),.bool c] e
 else
 ∃ l,Ap b 0=.int .u64 l/\K (.int .u64 l) e)) [.int .u64 0,.int .i64 0,undef] r
theorem Sh(a0:YB)(l0 c0:Nat):Yz Ai #[.slice a0 l0 c0] (K3 a0 l0 c0):=fun _ _ h=>Af (A:=⟨[3,4,12],[(3,270),(4,3),(12,4)],[]⟩) Tryz.func234 h
def J7(v:YB)(a w:Nat)(x:World)(K:YA):Prop :=
 ∃ f q l r,Ru (Instr.makeSlice 88 (.int .i64 0) (.int .i64 (IntKind.i64.wrap ((a:Int)+8)))) x (.slice f q l) r/\∃ b m g s,Ru (Builtin.append_ #[88,88] 88 #[.slice f q l,.slice v a w]) r (.slice b m g) s/\∃ c n h t,Ru (Instr.buildSlice 88 8 #[(0,.int .u8 165),(1,.int .u8 165),(2,.int .u8 165),(3,.int .u8 165),(4,.int .u8 165),(5,.int .u8 165),(6,.int .u8 165),(7,.int .u8 165)]) s (.slice c n h) t/\∃ d o i u,Ru (Builtin.append_ #[88,88] 88 #[.slice b m g,.slice c n h]) t (.slice d o i) u/\∃ e p j,Al (Instr.sliceAt 88 (.slice d o i) none (some (.int .i64 ((a:Int)))) none) (.slice e p j)/\K (.slice e p j) u
theorem Qu(a0:YB)(l0 c0:Nat):Yz AT #[.slice a0 l0 c0] (J7 a0 l0 c0):=fun _ _ h=>Af (A:=⟨[],[],[]⟩) Tryz.func235 h
def JB(d:YB)(c e:Nat)(a:Int)(b:World)(K:YA):Prop :=
 (bif decide (a<0)then
 K (.int .i64 0) b
 else
 (bif decide (a > (IntKind.i64.wrap (8*(c:Int))))then
 K (.int .i64 (IntKind.i64.wrap (8*(c:Int)))) b
 else
 K (.int .i64 a) b))
theorem Qy(a0:YB)(l0 c0:Nat)(n1:Int):Yz G2 #[.slice a0 l0 c0,.int .i64 n1] (JB a0 l0 c0 n1):=fun _ _ h=>Af (A:=⟨[],[],[]⟩) Tryz.func236 h
def UE(h:YB)(e j:Nat)(d:Int)(x:Bool)(a0:World)(K:YA):Prop :=
 YC LM #[.slice h e j,.int .i64 d] a0 fun z u=>∃ i,z=.bool i/\(bif !i then
 K (.tuple #[.slice none 0 0,.int .i64 3]) u
 else
 ∃ a c b v,Ru (Instr.makeSlice 88 (.int .i64 ((e:Int))) (.int .i64 ((e:Int)))) u (.slice a c b) v/\∃ y g,Ru (Builtin.copy_ #[88,88] 3 #[.slice a c b,.slice h e j]) v (.int .i64 y) g/\∃ q,Yx 88 (.slice a c b) (.int .i64 (IntKind.i64.wrap (Int.tdiv d 8))) q/\∃ m,YD 5 q (Ah g) (.int .u8 m)/\∃ n,Al (Gp .shl 5 (.const (.int .u8 1)) (.tmp 25) (.int .u8 1) (.int .i64 (Int.tmod d 8))) (.int .u8 n)/\∃ r,Yx 88 (.slice a c b) (.int .i64 (IntKind.i64.wrap (Int.tdiv d 8))) r/\∃ f,YE 5 r (.int .u8 (IntKind.u8.wrap (Vd 8 m n))) (Ah g) f/\Ac (fun l=>(bif x then
 ∃ s,Yx 88 (.slice a c b) (.int .i64 (IntKind.i64.wrap (Int.tdiv d 8))) s/\∃ o,YD 5 s (Ah f) (.int .u8 o)/\∃ p,Al (Gp .shl 5 (.const (.int .u8 1)) (.tmp 36) (.int .u8 1) (.int .i64 (Int.tmod d 8))) (.int .u8 p)/\∃ t,Yx 88 (.slice a c b) (.int .i64 (IntKind.i64.wrap (Int.tdiv d 8))) t/\∃ w,YE 5 t (.int .u8 (IntKind.u8.wrap (TY 8 o p))) (Ah f) w/\l [] w
 else
 l [] f)) fun a2 a1 =>
 K (.tuple #[.slice a c b,.int .i64 0]) a1)
theorem eK(a0:YB)(l0 c0:Nat)(n1:Int)(b2:Bool):Yz PO #[.slice a0 l0 c0,.int .i64 n1,.bool b2] (UE a0 l0 c0 n1 b2):=fun _ _ h=>Af (A:=⟨[],[],[]⟩) Tryz.func237 h
def QD(c:Int)(e:Int)(f:Int)(d:World)(K:YA):Prop :=
 Ac (fun b=>(bif decide (c >= e)then b [.bool (decide (c<=f))] d else b [.bool false] d)) fun h g =>
 ∃ a,Ap h 0=.bool a/\K (.bool a) g
theorem Yj(n0:Int)(n1:Int)(n2:Int):Yz Gz #[.int .i64 n0,.int .i64 n1,.int .i64 n2] (QD n0 n1 n2):=fun _ _ h=>Af (A:=⟨[6],[(6,4)],[]⟩) Tryz.func238 h
def QF(a0:Array Value)(m:Int)(a3:World)(K:YA):Prop :=
 ∃ r u,Yb 40 (.agg a0) a3 r u/\∃ d v,Yq 119 u d v/\∃ h,Al (Instr.build 119 #[(0,.int .i64 m)]) (.agg h)/\∃ b w,Yq 119 v b w/\∃ f,YE 119 b (.agg h) w f/\∃ i,Yg 40 r f i/\YC ER #[.agg i] f fun a2 a4=>∃ n,a2=.int .i64 n/\A6 (fun a1 a5 c =>
 ∃ a,Ap a5 0=.int .i64 a/\(bif decide (a<(IntKind.i64.wrap (1+n)))then
 ∃ q,Yx 116 (.pointer (some (Addr.add b 1))) (.int .i64 (IntKind.i64.wrap (Int.tdiv a 8))) q/\∃ o,YD 5 q (Ah c) (.int .u8 o)/\∃ p,Al (Gp .shl 5 (.const (.int .u8 1)) (.tmp 21) (.int .u8 1) (.int .i64 (Int.tmod a 8))) (.int .u8 p)/\∃ s,Yx 116 (.pointer (some (Addr.add b 1))) (.int .i64 (IntKind.i64.wrap (Int.tdiv a 8))) s/\∃ x,YE 5 s (.int .u8 (IntKind.u8.wrap (TY 8 o p))) (Ah c) x/\a1 [.int .i64 (IntKind.i64.wrap (a+1))] x
 else
 Ac (fun l=>(bif m==0 then
 ∃ t,Yx 117 (.pointer (some (Addr.add b 17))) (.int .i64 0) t/\∃ y,YE 5 t (.int .u8 3) c y/\l [] y
 else
 l [] c)) fun a6 z =>
 ∃ g,Yg 119 b z g/\∃ e,YE 119 d (.agg g) z e/\∃ j,Yg 119 d e j/\K (.agg j) e)) [.int .i64 0] a4
theorem Yl(g0:Array Value)(n1:Int):Yz LO #[.agg g0,.int .i64 n1] (QF g0 n1):=fun _ _ h=>Af (A:=⟨[12],[(12,3)],[]⟩) Tryz.func239 h
def Gb(j:YB)(f l:Nat)(m:Array Value)(o:World)(K:YA):Prop :=
 ∃ h i,Yb 126 (.agg m) o h i/\A6 (fun n p b =>
 ∃ a,Ap p 0=.int .i64 a/\(bif decide (a<(f:Int))then
 ∃ d,Yg 126 h (Ah b) d/\∃ g,Yx 128 (.slice j f l) (.int .i64 a) g/\∃ e,Yg 126 g (Ah b) e/\∃ c,Al (Gp .eql 126 (.tmp 11) (.tmp 15) (.agg d) (.agg e)) (.bool c)/\(bif c then
 K (.int .i64 a) (Ah b)
 else
 n [.int .i64 (IntKind.i64.wrap (a+1))] (Ah b))
 else
 K (.int .i64 ((-1))) b)) [.int .i64 0] i
theorem Kx(a0:YB)(l0 c0:Nat)(g1:Array Value):Yz Gc #[.slice a0 l0 c0,.agg g1] (Gb a0 l0 c0 g1):=fun _ _ h=>Af (A:=⟨[8],[(8,3)],[]⟩) Tryz.func240 h
def Mu(c:YB)(a:World)(K:YA):Prop :=
 (bif Option.isNone c then
 K (.int .i64 0) a
 else
 ∃ d,(.pointer c:Value)=.pointer (some d)/\∃(e:YB)(b f:Nat),YD 199 (Addr.add d 0) a (.slice e b f)/\K (.int .i64 ((b:Int))) a)
theorem TQ(p0:YB):Yz HV #[.pointer p0] (Mu p0):=fun _ _ h=>Af (A:=⟨[],[],[]⟩) Tryz.func241 h
def Tr(h:YB)(f i:Nat)(d:Int)(a:World)(K:YA):Prop :=
 (bif (f:Int) != 256 then
 K (.int .i64 4) a
 else
 Ac (fun c=>(bif decide (d<0)then c [.bool true] a else c [.bool (decide (d >= 4))] a)) fun g e =>
 ∃ b,Ap g 0=.bool b/\(bif b then
 K (.int .i64 3) e
 else
 K (.int .i64 0) e))
theorem Z8(a0:YB)(l0 c0:Nat)(n1:Int):Yz JO #[.slice a0 l0 c0,.int .i64 n1] (Tr a0 l0 c0 n1):=fun _ _ h=>Af (A:=⟨[9],[(9,4)],[]⟩) Tryz.func243 h
def Tp(b0:Array Value)(b8:World)(K:YA):Prop :=
 ∃ d f,Yb 218 (.agg b0) b8 d f/\∃ u,Yg 218 d f u/\YC CQ #[.agg u] f fun b7 a5=>∃ n,b7=.bool n/\(bif !n then
 K (.tuple #[.slice none 0 0,.int .i64 1]) a5
 else
 ∃ a c b g,Ru (Instr.makeSlice 88 (.int .i64 64) (.int .i64 64)) a5 (.slice a c b) g/\∃ z,Yi (Addr.add d 0) g z/\∃ a4,Yx 88 (.slice a c b) (.int .i64 0) a4/\∃ h,YE 5 a4 (.int .u8 (IntKind.u8.wrap z)) g h/\∃ i v o,Al (Instr.sliceAt 88 (.slice a c b) (some (.int .i64 2)) (some (.int .i64 4)) none) (.slice i v o)/\∃ a0,Yi (Addr.add d 1) (Ah h) a0/\YC CA #[.slice i v o,.int .u64 (IntKind.u64.wrap a0)] (Ah h) fun b2 a6=>b2=.tuple #[]/\∃ j w p,Al (Instr.sliceAt 88 (.slice a c b) (some (.int .i64 4)) (some (.int .i64 8)) none) (.slice j w p)/\∃ a1,YD 2 (Addr.add d 2) (Ah a6) (.int .i64 a1)/\YC CA #[.slice j w p,.int .u64 (IntKind.u64.wrap a1)] (Ah a6) fun b3 a7=>b3=.tuple #[]/\∃ l x q,Al (Instr.sliceAt 88 (.slice a c b) (some (.int .i64 8)) (some (.int .i64 16)) none) (.slice l x q)/\∃ a2,YD 2 (Addr.add d 3) (Ah a7) (.int .i64 a2)/\YC CA #[.slice l x q,.int .u64 (IntKind.u64.wrap a2)] (Ah a7) fun b4 a8=>b4=.tuple #[]/\∃ s,Yg 218 d a8 s/\YC JN #[.agg s] a8 fun b5 c0=>∃ t,b5=.agg t/\A6 (fun b1 c1 a9 =>
 ∃ e,Ap c1 0=.int .i64 e/\(bif decide (e<8)then
 ∃ a3,Al (Instr.index 64 (.agg t) (.int .i64 e)) (.int .i64 a3)/\∃ m y r,Al (Instr.sliceAt 88 (.slice a c b) (some (.int .i64 (IntKind.i64.wrap (16+(IntKind.i64.wrap (e*2)))))) (some (.int .i64 (IntKind.i64.wrap (16+(IntKind.i64.wrap ((IntKind.i64.wrap (e+1))*2)))))) none) (.slice m y r)/\YC CA #[.slice m y r,.int .u64 (IntKind.u64.wrap a3)] a9 fun b6 b9=>b6=.tuple #[]/\b1 [.int .i64 (IntKind.i64.wrap (e+1))] b9
 else
 K (.tuple #[.slice a c b,.int .i64 0]) a9)) [.int .i64 0] c0)
theorem Z6(g0:Array Value):Yz Nn #[.agg g0] (Tp g0):=fun _ _ h=>Af (A:=⟨[36],[(36,3)],[]⟩) Tryz.func244 h
def Pg(h:Int)(l:Value)(a:World)(K:YA):Prop :=
 ∃ b f d,Ru (Instr.loadAt 88 l) a (.slice b f d) a/\∃ c g e,Al (Instr.sliceAt 88 (.slice b f d) (some (.int .i64 h)) (some (.int .i64 (IntKind.i64.wrap (h+2)))) none) (.slice c g e)/\YC Bb #[.slice c g e] a fun j m=>∃ i,j=.int .u64 i/\K (.int .i64 (IntKind.i64.wrap i)) m
theorem W5(n0:Int)(v1:Value):Yz Eu #[.int .i64 n0,v1] (Pg n0 v1):=fun _ _ h=>Af (A:=⟨[],[],[]⟩) Tryz.func245 h
def UJ(i:YB)(d j:Nat)(m:World)(K:YA):Prop :=
 A6 (fun l c b =>
 ∃ a,Ap c 1=.int .i64 a/\(bif decide (a<(d:Int))then
 ∃ h,Yx 88 (.slice i d j) (.int .i64 a) h/\∃ e,YD 5 h b (.int .u8 e)/\∃ f,Ap c 0=.int .u8 f/\l [.int .u8 (IntKind.u8.wrap (TY 8 f e)),.int .i64 (IntKind.i64.wrap (a+1))] b
 else
 ∃ g,Ap c 0=.int .u8 g/\K (.bool (g==0)) b)) [.int .u8 0,.int .i64 0] m
theorem eX(a0:YB)(l0 c0:Nat):Yz EE #[.slice a0 l0 c0] (UJ a0 l0 c0):=fun _ _ h=>Af (A:=⟨[3,8],[(3,5),(8,3)],[]⟩) Tryz.func246 h
def Td(s:Array Value)(c:Int)(x:World)(K:YA):Prop :=
 ∃ a f,Yb 40 (.agg s) x a f/\∃ i,Yg 40 a f i/\YC DS #[.agg i] f fun u d=>∃ g,u=.bool g/\(bif !g then
 K (.tuple #[.int .i64 0,.int .i64 0,.int .i64 1]) d
 else
 Ac (fun m=>(bif decide (c<0)then m [.bool true] d else ∃ j,Yg 40 a d j/\YC HB #[.agg j] d fun v y=>∃ n,v=.int .i64 n/\m [.bool (decide (c >= n))] y)) fun a0 b =>
 ∃ h,Ap a0 0=.bool h/\(bif h then
 K (.tuple #[.int .i64 0,.int .i64 0,.int .i64 3]) b
 else
 ∃ o,Yi (Addr.add a 1) b o/\∃ e,Al (Gp .rem 3 (.tmp 23) (.tmp 25) (.int .i64 c) (.int .i64 o)) (.int .i64 e)/\∃ l,Yg 40 a (Ah b) l/\∃ p,Yi (Addr.add a 1) (Ah b) p/\∃ q,Al (Gp .quo 3 (.tmp 29) (.tmp 31) (.int .i64 c) (.int .i64 p)) (.int .i64 q)/\YC ED #[.agg l,.int .i64 q] (Ah b) fun w z=>∃ r t,w=.tuple #[.int .i64 r,.int .i64 t]/\K (.tuple #[.int .i64 (IntKind.i64.wrap ((IntKind.i64.wrap (r+1))+(IntKind.i64.wrap (Int.tdiv e 4)))),.int .i64 (Int.tmod e 4),.int .i64 0]) z))
theorem Zw(g0:Array Value)(n1:Int):Yz Nj #[.agg g0,.int .i64 n1] (Td g0 n1):=fun _ _ h=>Af (A:=⟨[14],[(14,4)],[]⟩) Tryz.func247 h
def Tn(d:YB)(c e:Nat)(x2:World)(K:YA):Prop :=
 ∃ a w,Yq 218 x2 a w/\(bif (c:Int) != 64 then
 ∃ i4,Al (Instr.build 218 #[]) (.agg i4)/\∃ c1,YE 218 a (.agg i4) w c1/\∃ l1,Yg 218 a c1 l1/\K (.tuple #[.agg l1,.int .i64 4]) c1
 else
 ∃ f,Yx 88 (.slice d c e) (.int .i64 0) f/\∃ b,YD 5 f (Ah w) (.int .u8 b)/\∃ a9 b5 b0,Al (Instr.sliceAt 88 (.slice d c e) (some (.int .i64 2)) (some (.int .i64 4)) none) (.slice a9 b5 b0)/\∃ x z y,Al (Instr.sliceAt 88 (.slice d c e) (some (.int .i64 4)) (some (.int .i64 8)) none) (.slice x z y)/\∃ p r q,Al (Instr.sliceAt 88 (.slice d c e) (some (.int .i64 8)) (some (.int .i64 16)) none) (.slice p r q)/\(YC Bb #[.slice a9 b5 b0] (Ah w) fun v1 c3=>∃ a0,v1=.int .u64 a0/\YD 5 f c3 (.int .u8 b)/\(YC Bb #[.slice x z y] c3 fun v3 c9=>∃ b6,v3=.int .u64 b6/\YD 5 f c9 (.int .u8 b)/\(YC Bb #[.slice p r q] c9 fun v6 t0=>∃ n9,v6=.int .u64 n9/\YD 5 f t0 (.int .u8 b)/\∃ i5,Al (Instr.build 218 #[(0,.int .i64 (IntKind.i64.wrap b)),(1,.int .i64 (IntKind.i64.wrap a0)),(2,.int .i64 (IntKind.i64.wrap b6)),(3,.int .i64 (IntKind.i64.wrap n9))]) (.agg i5)/\∃ g d5,Yq 218 t0 g d5/\YD 5 f d5 (.int .u8 b)/\∃ t9,YE 218 g (.agg i5) d5 t9/\∃ s u0,Yq 64 t9 s u0/\A6 (fun u2 y1 u1 =>
 ∃ l,Ap y1 0=.int .i64 l/\(bif decide (l<8)then
 ∃ e0 m0 g8,Al (Instr.sliceAt 88 (.slice d c e) (some (.int .i64 (IntKind.i64.wrap (16+(IntKind.i64.wrap (l*2)))))) (some (.int .i64 (IntKind.i64.wrap (16+(IntKind.i64.wrap ((IntKind.i64.wrap (l+1))*2)))))) none) (.slice e0 m0 g8)/\YC Bb #[.slice e0 m0 g8] u1 fun w0 x3=>∃ o3,w0=.int .u64 o3/\∃ p9,Yx 64 (.pointer (some s)) (.int .i64 l) p9/\∃ r5,YE 3 p9 (.int .i64 (IntKind.i64.wrap o3)) x3 r5/\u2 [.int .i64 (IntKind.i64.wrap (l+1))] r5
 else
 ∃ e4 m4 h2,Al (Instr.sliceAt 216 (.pointer (some (Addr.add g 4))) none none none) (.slice e4 m4 h2)/\∃ e8 m8 h6,Al (Instr.sliceAt 64 (.pointer (some s)) none none none) (.slice e8 m8 h6)/\∃ u6 a1,Ru (Builtin.copy_ #[80,80] 3 #[.slice e4 m4 h2,.slice e8 m8 h6]) (Ah u1) (.int .i64 u6) a1/\∃ q3,Yx 64 (.pointer (some s)) (.int .i64 6) q3/\∃ o7,Yi q3 a1 o7/\∃ q7,Yx 64 (.pointer (some s)) (.int .i64 7) q7/\∃ p1,Yi q7 a1 p1/\∃ r6,YE 3 (Addr.add g 10) (.int .i64 o7) a1 r6/\∃ a2,YE 3 (Addr.add g 11) (.int .i64 p1) r6 a2/\Ac (fun b1=>∃ r1,Yx 88 (.slice d c e) (.int .i64 1) r1/\∃ p5,YD 5 r1 a2 (.int .u8 p5)/\(bif p5 != 0 then b1 [.bool true] a2 else ∃ f2 n2 i0,Al (Instr.sliceAt 88 (.slice d c e) (some (.int .i64 32)) none none) (.slice f2 n2 i0)/\YC EE #[.slice f2 n2 i0] a2 fun w4 b7=>∃ f6,w4=.bool f6/\(bif !f6 then b1 [.bool true] b7 else ∃ i9,Yg 218 g b7 i9/\YC CQ #[.agg i9] b7 fun w8 x4=>∃ g0,w8=.bool g0/\b1 [.bool (!g0)] x4))) fun y2 b8 =>
 ∃ g4,Ap y2 0=.bool g4/\(bif g4 then
 ∃ j3,Al (Instr.build 218 #[]) (.agg j3)/\∃ b9,YE 218 a (.agg j3) b8 b9/\∃ l2,Yg 218 a b9 l2/\K (.tuple #[.agg l2,.int .i64 8]) b9
 else
 ∃ j7,Yg 218 g b8 j7/\∃ c0,YE 218 a (.agg j7) b8 c0/\∃ l3,Yg 218 a c0 l3/\K (.tuple #[.agg l3,.int .i64 0]) c0))) [.int .i64 0] u0)/\(∃ h c2,Yq 218 c9 h c2/\YD 5 f c2 (.int .u8 b)/\YC Bb #[.slice p r q] c2 fun v7 r7=>∃ o0,v7=.int .u64 o0/\YD 5 f r7 (.int .u8 b)/\∃ i6,Al (Instr.build 218 #[(0,.int .i64 (IntKind.i64.wrap b)),(1,.int .i64 (IntKind.i64.wrap a0)),(2,.int .i64 (IntKind.i64.wrap b6)),(3,.int .i64 (IntKind.i64.wrap o0))]) (.agg i6)/\∃ r8,YE 218 h (.agg i6) r7 r8/\∃ t r9,Yq 64 r8 t r9/\A6 (fun u3 y3 s0 =>
 ∃ m,Ap y3 0=.int .i64 m/\(bif decide (m<8)then
 ∃ e1 m1 g9,Al (Instr.sliceAt 88 (.slice d c e) (some (.int .i64 (IntKind.i64.wrap (16+(IntKind.i64.wrap (m*2)))))) (some (.int .i64 (IntKind.i64.wrap (16+(IntKind.i64.wrap ((IntKind.i64.wrap (m+1))*2)))))) none) (.slice e1 m1 g9)/\YC Bb #[.slice e1 m1 g9] s0 fun w1 x5=>∃ o4,w1=.int .u64 o4/\∃ q0,Yx 64 (.pointer (some t)) (.int .i64 m) q0/\∃ s1,YE 3 q0 (.int .i64 (IntKind.i64.wrap o4)) x5 s1/\u3 [.int .i64 (IntKind.i64.wrap (m+1))] s1
 else
 ∃ e5 m5 h3,Al (Instr.sliceAt 216 (.pointer (some (Addr.add h 4))) none none none) (.slice e5 m5 h3)/\∃ e9 m9 h7,Al (Instr.sliceAt 64 (.pointer (some t)) none none none) (.slice e9 m9 h7)/\∃ u7 a3,Ru (Builtin.copy_ #[80,80] 3 #[.slice e5 m5 h3,.slice e9 m9 h7]) (Ah s0) (.int .i64 u7) a3/\∃ q4,Yx 64 (.pointer (some t)) (.int .i64 6) q4/\∃ o8,Yi q4 a3 o8/\∃ q8,Yx 64 (.pointer (some t)) (.int .i64 7) q8/\∃ p2,Yi q8 a3 p2/\∃ s2,YE 3 (Addr.add h 10) (.int .i64 o8) a3 s2/\∃ a4,YE 3 (Addr.add h 11) (.int .i64 p2) s2 a4/\Ac (fun b2=>∃ r2,Yx 88 (.slice d c e) (.int .i64 1) r2/\∃ p6,YD 5 r2 a4 (.int .u8 p6)/\(bif p6 != 0 then b2 [.bool true] a4 else ∃ f3 n3 i1,Al (Instr.sliceAt 88 (.slice d c e) (some (.int .i64 32)) none none) (.slice f3 n3 i1)/\YC EE #[.slice f3 n3 i1] a4 fun w5 c4=>∃ f7,w5=.bool f7/\(bif !f7 then b2 [.bool true] c4 else ∃ j0,Yg 218 h c4 j0/\YC CQ #[.agg j0] c4 fun w9 x6=>∃ g1,w9=.bool g1/\b2 [.bool (!g1)] x6))) fun y4 c5 =>
 ∃ g5,Ap y4 0=.bool g5/\(bif g5 then
 ∃ j4,Al (Instr.build 218 #[]) (.agg j4)/\∃ c6,YE 218 a (.agg j4) c5 c6/\∃ l4,Yg 218 a c6 l4/\K (.tuple #[.agg l4,.int .i64 8]) c6
 else
 ∃ j8,Yg 218 h c5 j8/\∃ c7,YE 218 a (.agg j8) c5 c7/\∃ l5,Yg 218 a c7 l5/\K (.tuple #[.agg l5,.int .i64 0]) c7))) [.int .i64 0] r9))/\(∃ i c8,Yq 218 c3 i c8/\YD 5 f c8 (.int .u8 b)/\YC Bb #[.slice x z y] c8 fun v4 s3=>∃ n7,v4=.int .u64 n7/\YD 5 f s3 (.int .u8 b)/\YC Bb #[.slice p r q] s3 fun v8 s4=>∃ o1,v8=.int .u64 o1/\YD 5 f s4 (.int .u8 b)/\∃ i7,Al (Instr.build 218 #[(0,.int .i64 (IntKind.i64.wrap b)),(1,.int .i64 (IntKind.i64.wrap a0)),(2,.int .i64 (IntKind.i64.wrap n7)),(3,.int .i64 (IntKind.i64.wrap o1))]) (.agg i7)/\∃ s5,YE 218 i (.agg i7) s4 s5/\∃ u s6,Yq 64 s5 u s6/\A6 (fun u4 y5 s7 =>
 ∃ n,Ap y5 0=.int .i64 n/\(bif decide (n<8)then
 ∃ e2 m2 h0,Al (Instr.sliceAt 88 (.slice d c e) (some (.int .i64 (IntKind.i64.wrap (16+(IntKind.i64.wrap (n*2)))))) (some (.int .i64 (IntKind.i64.wrap (16+(IntKind.i64.wrap ((IntKind.i64.wrap (n+1))*2)))))) none) (.slice e2 m2 h0)/\YC Bb #[.slice e2 m2 h0] s7 fun w2 x7=>∃ o5,w2=.int .u64 o5/\∃ q1,Yx 64 (.pointer (some u)) (.int .i64 n) q1/\∃ s8,YE 3 q1 (.int .i64 (IntKind.i64.wrap o5)) x7 s8/\u4 [.int .i64 (IntKind.i64.wrap (n+1))] s8
 else
 ∃ e6 m6 h4,Al (Instr.sliceAt 216 (.pointer (some (Addr.add i 4))) none none none) (.slice e6 m6 h4)/\∃ f0 n0 h8,Al (Instr.sliceAt 64 (.pointer (some u)) none none none) (.slice f0 n0 h8)/\∃ u9 a5,Ru (Builtin.copy_ #[80,80] 3 #[.slice e6 m6 h4,.slice f0 n0 h8]) (Ah s7) (.int .i64 u9) a5/\∃ q5,Yx 64 (.pointer (some u)) (.int .i64 6) q5/\∃ o9,Yi q5 a5 o9/\∃ q9,Yx 64 (.pointer (some u)) (.int .i64 7) q9/\∃ p3,Yi q9 a5 p3/\∃ s9,YE 3 (Addr.add i 10) (.int .i64 o9) a5 s9/\∃ a6,YE 3 (Addr.add i 11) (.int .i64 p3) s9 a6/\Ac (fun b3=>∃ r3,Yx 88 (.slice d c e) (.int .i64 1) r3/\∃ p7,YD 5 r3 a6 (.int .u8 p7)/\(bif p7 != 0 then b3 [.bool true] a6 else ∃ f4 n4 i2,Al (Instr.sliceAt 88 (.slice d c e) (some (.int .i64 32)) none none) (.slice f4 n4 i2)/\YC EE #[.slice f4 n4 i2] a6 fun w6 d0=>∃ f8,w6=.bool f8/\(bif !f8 then b3 [.bool true] d0 else ∃ j1,Yg 218 i d0 j1/\YC CQ #[.agg j1] d0 fun x0 x8=>∃ g2,x0=.bool g2/\b3 [.bool (!g2)] x8))) fun y6 d1 =>
 ∃ g6,Ap y6 0=.bool g6/\(bif g6 then
 ∃ j5,Al (Instr.build 218 #[]) (.agg j5)/\∃ d2,YE 218 a (.agg j5) d1 d2/\∃ l6,Yg 218 a d2 l6/\K (.tuple #[.agg l6,.int .i64 8]) d2
 else
 ∃ j9,Yg 218 i d1 j9/\∃ d3,YE 218 a (.agg j9) d1 d3/\∃ l7,Yg 218 a d3 l7/\K (.tuple #[.agg l7,.int .i64 0]) d3))) [.int .i64 0] s6))/\(∃ j d4,Yq 218 (Ah w) j d4/\YD 5 f d4 (.int .u8 b)/\YC Bb #[.slice a9 b5 b0] d4 fun v2 t1=>∃ n6,v2=.int .u64 n6/\YD 5 f t1 (.int .u8 b)/\YC Bb #[.slice x z y] t1 fun v5 t2=>∃ n8,v5=.int .u64 n8/\YD 5 f t2 (.int .u8 b)/\YC Bb #[.slice p r q] t2 fun v9 t3=>∃ o2,v9=.int .u64 o2/\YD 5 f t3 (.int .u8 b)/\∃ i8,Al (Instr.build 218 #[(0,.int .i64 (IntKind.i64.wrap b)),(1,.int .i64 (IntKind.i64.wrap n6)),(2,.int .i64 (IntKind.i64.wrap n8)),(3,.int .i64 (IntKind.i64.wrap o2))]) (.agg i8)/\∃ t4,YE 218 j (.agg i8) t3 t4/\∃ v t5,Yq 64 t4 v t5/\A6 (fun u5 y7 t6 =>
 ∃ o,Ap y7 0=.int .i64 o/\(bif decide (o<8)then
 ∃ e3 m3 h1,Al (Instr.sliceAt 88 (.slice d c e) (some (.int .i64 (IntKind.i64.wrap (16+(IntKind.i64.wrap (o*2)))))) (some (.int .i64 (IntKind.i64.wrap (16+(IntKind.i64.wrap ((IntKind.i64.wrap (o+1))*2)))))) none) (.slice e3 m3 h1)/\YC Bb #[.slice e3 m3 h1] t6 fun w3 x9=>∃ o6,w3=.int .u64 o6/\∃ q2,Yx 64 (.pointer (some v)) (.int .i64 o) q2/\∃ t7,YE 3 q2 (.int .i64 (IntKind.i64.wrap o6)) x9 t7/\u5 [.int .i64 (IntKind.i64.wrap (o+1))] t7
 else
 ∃ e7 m7 h5,Al (Instr.sliceAt 216 (.pointer (some (Addr.add j 4))) none none none) (.slice e7 m7 h5)/\∃ f1 n1 h9,Al (Instr.sliceAt 64 (.pointer (some v)) none none none) (.slice f1 n1 h9)/\∃ v0 a7,Ru (Builtin.copy_ #[80,80] 3 #[.slice e7 m7 h5,.slice f1 n1 h9]) (Ah t6) (.int .i64 v0) a7/\∃ q6,Yx 64 (.pointer (some v)) (.int .i64 6) q6/\∃ p0,Yi q6 a7 p0/\∃ r0,Yx 64 (.pointer (some v)) (.int .i64 7) r0/\∃ p4,Yi r0 a7 p4/\∃ t8,YE 3 (Addr.add j 10) (.int .i64 p0) a7 t8/\∃ a8,YE 3 (Addr.add j 11) (.int .i64 p4) t8 a8/\Ac (fun b4=>∃ r4,Yx 88 (.slice d c e) (.int .i64 1) r4/\∃ p8,YD 5 r4 a8 (.int .u8 p8)/\(bif p8 != 0 then b4 [.bool true] a8 else ∃ f5 n5 i3,Al (Instr.sliceAt 88 (.slice d c e) (some (.int .i64 32)) none none) (.slice f5 n5 i3)/\YC EE #[.slice f5 n5 i3] a8 fun w7 d6=>∃ f9,w7=.bool f9/\(bif !f9 then b4 [.bool true] d6 else ∃ j2,Yg 218 j d6 j2/\YC CQ #[.agg j2] d6 fun x1 y0=>∃ g3,x1=.bool g3/\b4 [.bool (!g3)] y0))) fun y8 d7 =>
 ∃ g7,Ap y8 0=.bool g7/\(bif g7 then
 ∃ j6,Al (Instr.build 218 #[]) (.agg j6)/\∃ d8,YE 218 a (.agg j6) d7 d8/\∃ l8,Yg 218 a d8 l8/\K (.tuple #[.agg l8,.int .i64 8]) d8
 else
 ∃ l0,Yg 218 j d7 l0/\∃ d9,YE 218 a (.agg l0) d7 d9/\∃ l9,Yg 218 a d9 l9/\K (.tuple #[.agg l9,.int .i64 0]) d9))) [.int .i64 0] t5))
theorem Z4(a0:YB)(l0 c0:Nat):Yz Nl #[.slice a0 l0 c0] (Tn a0 l0 c0):=fun _ _ h=>Af (A:=⟨[28,69],[(28,3),(69,4)],[]⟩) Tryz.func248 h
def Fc(f:YB)(a:World)(K:YA):Prop :=
 Ac (fun d=>∃ g,(.pointer f:Value)=.pointer (some g)/\∃ c,YD 4 (Addr.add g 1) a (.bool c)/\(bif c then ∃ h,(.pointer f:Value)=.pointer (some h)/\∃ e,Yi (Addr.add h 2) a e/\d [.bool (e==0)] a else d [.bool false] a)) fun j i =>
 ∃ b,Ap j 0=.bool b/\K (.bool b) i
theorem Ju(p0:YB):Yz Dl #[.pointer p0] (Fc p0):=fun _ _ h=>Af (A:=⟨[2],[(2,4)],[]⟩) Tryz.func249 h
def KF(f5:Array Value)(g5:World)(K:YA):Prop :=
 ∃ a g,Yb 218 (.agg f5) g5 a g/\∃ c3,Yg 218 a g c3/\YC FJ #[.agg c3] g fun g4 i=>∃ a5,g4=.bool a5/\(bif !a5 then
 K (.tuple #[.slice none 0 0,.int .i64 1]) i
 else
 ∃ e1,Yi (Addr.add a 0) i e1/\∃ o c4 a6 j,Ru (Instr.buildSlice 88 2 #[(0,.int .u8 (IntKind.u8.wrap e1)),(1,.int .u8 0)]) i (.slice o c4 a6) j/\∃ e2,Yi (Addr.add a 1) j e2/\YC A2 #[.int .u64 (IntKind.u64.wrap e2),.int .i64 2] j fun f8 g9=>∃ p c5 a7,f8=.slice p c5 a7/\∃ q c6 a8 l,Ru (Builtin.append_ #[88,88] 88 #[.slice o c4 a6,.slice p c5 a7]) g9 (.slice q c6 a8) l/\∃ e3,YD 2 (Addr.add a 2) l (.int .i64 e3)/\YC A2 #[.int .u64 (IntKind.u64.wrap e3),.int .i64 4] l fun f9 h0=>∃ r c7 a9,f9=.slice r c7 a9/\∃ s c8 b0 m,Ru (Builtin.append_ #[88,88] 88 #[.slice q c6 a8,.slice r c7 a9]) h0 (.slice s c8 b0) m/\∃ e4,YD 2 (Addr.add a 3) m (.int .i64 e4)/\YC A2 #[.int .u64 (IntKind.u64.wrap e4),.int .i64 8] m fun g0 h1=>∃ t c9 b1,g0=.slice t c9 b1/\∃ u d0 b2 f4,Ru (Builtin.append_ #[88,88] 88 #[.slice s c8 b0,.slice t c9 b1]) h1 (.slice u d0 b2) f4/\A6 (fun f6 n d =>
 ∃ c,Ap n 1=.int .i64 c/\(bif decide (c<6)then
 ∃ v d1 b3,Ap n 0=.slice v d1 b3/\∃ e8,Yx 216 (.pointer (some (Addr.add a 4))) (.int .i64 c) e8/\∃ e5,Yi e8 d e5/\YC A2 #[.int .u64 (IntKind.u64.wrap e5),.int .i64 2] d fun g1 g6=>∃ w d2 b4,g1=.slice w d2 b4/\∃ x d3 b5 e9,Ru (Builtin.append_ #[88,88] 88 #[.slice v d1 b3,.slice w d2 b4]) g6 (.slice x d3 b5) e9/\f6 [.slice x d3 b5,.int .i64 (IntKind.i64.wrap (c+1))] e9
 else
 ∃ a0 d6 b8,Ap n 0=.slice a0 d6 b8/\∃ e6,Yi (Addr.add a 10) d e6/\YC A2 #[.int .u64 (IntKind.u64.wrap e6),.int .i64 2] d fun g2 g7=>∃ y d4 b6,g2=.slice y d4 b6/\∃ z d5 b7 h,Ru (Builtin.append_ #[88,88] 88 #[.slice a0 d6 b8,.slice y d4 b6]) g7 (.slice z d5 b7) h/\∃ e7,Yi (Addr.add a 11) h e7/\YC A2 #[.int .u64 (IntKind.u64.wrap e7),.int .i64 2] h fun g3 g8=>∃ a1 d7 b9,g3=.slice a1 d7 b9/\∃ a2 d8 c0 f0,Ru (Builtin.append_ #[88,88] 88 #[.slice z d5 b7,.slice a1 d7 b9]) g8 (.slice a2 d8 c0) f0/\A6 (fun f7 h2 f1 =>
 ∃ e b f,Ap h2 0=.slice e b f/\(bif decide ((b:Int)<64)then
 ∃ a3 d9 c1 f2,Ru (Instr.buildSlice 88 1 #[(0,.int .u8 0)]) f1 (.slice a3 d9 c1) f2/\∃ a4 e0 c2 f3,Ru (Builtin.append_ #[88,88] 88 #[.slice e b f,.slice a3 d9 c1]) f2 (.slice a4 e0 c2) f3/\f7 [.slice a4 e0 c2] f3
 else
 K (.tuple #[.slice e b f,.int .i64 0]) f1)) [.slice a2 d8 c0] f0)) [.slice u d0 b2,.int .i64 0] f4)
theorem Sv(g0:Array Value):Yz BO #[.agg g0] (KF g0):=fun _ _ h=>Af (A:=⟨[4,5],[(4,88),(5,3)],[]⟩) Tryz.func250 h
def KD(b:YB)(a c:Nat)(u7:World)(K:YA):Prop :=
 ∃ d w,Yq 218 u7 d w/\(bif (a:Int) != 64 then
 ∃ g4,Al (Instr.build 218 #[]) (.agg g4)/\∃ b0,YE 218 d (.agg g4) w b0/\∃ i1,Yg 218 d b0 i1/\K (.tuple #[.agg i1,.int .i64 4]) b0
 else
 ∃ f,Yx 88 (.slice b a c) (.int .i64 0) f/\∃ e,YD 5 f (Ah w) (.int .u8 e)/\∃ a1 a3 a2,Al (Instr.sliceAt 88 (.slice b a c) (some (.int .i64 2)) (some (.int .i64 4)) none) (.slice a1 a3 a2)/\∃ x z y,Al (Instr.sliceAt 88 (.slice b a c) (some (.int .i64 4)) (some (.int .i64 8)) none) (.slice x z y)/\∃ t v u,Al (Instr.sliceAt 88 (.slice b a c) (some (.int .i64 8)) (some (.int .i64 16)) none) (.slice t v u)/\(YC Ai #[.slice a1 a3 a2] (Ah w) fun s2 b2=>∃ a0,s2=.int .u64 a0/\YD 5 f b2 (.int .u8 e)/\(YC Ai #[.slice x z y] b2 fun s4 b7=>∃ a4,s4=.int .u64 a4/\YD 5 f b7 (.int .u8 e)/\(YC Ai #[.slice t v u] b7 fun s7 q9=>∃ m3,s7=.int .u64 m3/\YD 5 f q9 (.int .u8 e)/\∃ g5,Al (Instr.build 218 #[(0,.int .i64 (IntKind.i64.wrap e)),(1,.int .i64 (IntKind.i64.wrap a0)),(2,.int .i64 (IntKind.i64.wrap a4)),(3,.int .i64 (IntKind.i64.wrap m3))]) (.agg g5)/\∃ g c4,Yq 218 q9 g c4/\YD 5 f c4 (.int .u8 e)/\∃ r6,YE 218 g (.agg g5) c4 r6/\A6 (fun r8 w1 r7 =>
 ∃ l,Ap w1 0=.int .i64 l/\(bif decide (l<6)then
 ∃ c8 j4 e8,Al (Instr.sliceAt 88 (.slice b a c) (some (.int .i64 (IntKind.i64.wrap (16+(IntKind.i64.wrap (2*l)))))) (some (.int .i64 (IntKind.i64.wrap (18+(IntKind.i64.wrap (2*l)))))) none) (.slice c8 j4 e8)/\YC Ai #[.slice c8 j4 e8] r7 fun t1 w0=>∃ m7,t1=.int .u64 m7/\∃ o3,Yx 216 (.pointer (some (Addr.add g 4))) (.int .i64 l) o3/\∃ p5,YE 3 o3 (.int .i64 (IntKind.i64.wrap m7)) w0 p5/\r8 [.int .i64 (IntKind.i64.wrap (l+1))] p5
 else
 ∃ d2 j8 f2,Al (Instr.sliceAt 88 (.slice b a c) (some (.int .i64 28)) (some (.int .i64 30)) none) (.slice d2 j8 f2)/\YC Ai #[.slice d2 j8 f2] r7 fun t5 u9=>∃ n1,t5=.int .u64 n1/\∃ p6,YE 3 (Addr.add g 10) (.int .i64 (IntKind.i64.wrap n1)) u9 p6/\∃ d6 l2 f6,Al (Instr.sliceAt 88 (.slice b a c) (some (.int .i64 30)) (some (.int .i64 32)) none) (.slice d6 l2 f6)/\YC Ai #[.slice d6 l2 f6] p6 fun t9 v0=>∃ n5,t9=.int .u64 n5/\∃ a5,YE 3 (Addr.add g 11) (.int .i64 (IntKind.i64.wrap n5)) v0 a5/\∃ g9,Yg 218 g a5 g9/\YC BO #[.agg g9] a5 fun u3 p=>∃ e0 l6 g0 n9,u3=.tuple #[.slice e0 l6 g0,.int .i64 n9]/\Ac (fun j0=>(bif n9 != 0 then j0 [.bool true] p else ∃ o7:ByteArray,Ru (convert 88 9 (.slice e0 l6 g0)) p (.string o7) p/\∃ p1:ByteArray,Ru (convert 88 9 (.slice b a c)) p (.string p1) p/\j0 [.bool (!((ByteArray.toList o7)==(ByteArray.toList p1)))] p)) fun w2 a6 =>
 ∃ e4,Ap w2 0=.bool e4/\(bif e4 then
 ∃ h3,Al (Instr.build 218 #[]) (.agg h3)/\∃ a7,YE 218 d (.agg h3) a6 a7/\∃ i2,Yg 218 d a7 i2/\K (.tuple #[.agg i2,.int .i64 8]) a7
 else
 ∃ h7,Yg 218 g a6 h7/\∃ a8,YE 218 d (.agg h7) a6 a8/\∃ i3,Yg 218 d a8 i3/\K (.tuple #[.agg i3,.int .i64 0]) a8))) [.int .i64 0] r6)/\(∃ h a9,Yq 218 b7 h a9/\YD 5 f a9 (.int .u8 e)/\YC Ai #[.slice t v u] a9 fun s8 p7=>∃ m4,s8=.int .u64 m4/\YD 5 f p7 (.int .u8 e)/\∃ g6,Al (Instr.build 218 #[(0,.int .i64 (IntKind.i64.wrap e)),(1,.int .i64 (IntKind.i64.wrap a0)),(2,.int .i64 (IntKind.i64.wrap a4)),(3,.int .i64 (IntKind.i64.wrap m4))]) (.agg g6)/\∃ p8,YE 218 h (.agg g6) p7 p8/\A6 (fun r9 w3 p9 =>
 ∃ m,Ap w3 0=.int .i64 m/\(bif decide (m<6)then
 ∃ c9 j5 e9,Al (Instr.sliceAt 88 (.slice b a c) (some (.int .i64 (IntKind.i64.wrap (16+(IntKind.i64.wrap (2*m)))))) (some (.int .i64 (IntKind.i64.wrap (18+(IntKind.i64.wrap (2*m)))))) none) (.slice c9 j5 e9)/\YC Ai #[.slice c9 j5 e9] p9 fun t2 v1=>∃ m8,t2=.int .u64 m8/\∃ o4,Yx 216 (.pointer (some (Addr.add h 4))) (.int .i64 m) o4/\∃ q0,YE 3 o4 (.int .i64 (IntKind.i64.wrap m8)) v1 q0/\r9 [.int .i64 (IntKind.i64.wrap (m+1))] q0
 else
 ∃ d3 j9 f3,Al (Instr.sliceAt 88 (.slice b a c) (some (.int .i64 28)) (some (.int .i64 30)) none) (.slice d3 j9 f3)/\YC Ai #[.slice d3 j9 f3] p9 fun t6 v2=>∃ n2,t6=.int .u64 n2/\∃ q1,YE 3 (Addr.add h 10) (.int .i64 (IntKind.i64.wrap n2)) v2 q1/\∃ d7 l3 f7,Al (Instr.sliceAt 88 (.slice b a c) (some (.int .i64 30)) (some (.int .i64 32)) none) (.slice d7 l3 f7)/\YC Ai #[.slice d7 l3 f7] q1 fun u0 v3=>∃ n6,u0=.int .u64 n6/\∃ b1,YE 3 (Addr.add h 11) (.int .i64 (IntKind.i64.wrap n6)) v3 b1/\∃ h0,Yg 218 h b1 h0/\YC BO #[.agg h0] b1 fun u4 q=>∃ e1 l7 g1 o0,u4=.tuple #[.slice e1 l7 g1,.int .i64 o0]/\Ac (fun j1=>(bif o0 != 0 then j1 [.bool true] q else ∃ o8:ByteArray,Ru (convert 88 9 (.slice e1 l7 g1)) q (.string o8) q/\∃ p2:ByteArray,Ru (convert 88 9 (.slice b a c)) q (.string p2) q/\j1 [.bool (!((ByteArray.toList o8)==(ByteArray.toList p2)))] q)) fun w4 b3 =>
 ∃ e5,Ap w4 0=.bool e5/\(bif e5 then
 ∃ h4,Al (Instr.build 218 #[]) (.agg h4)/\∃ b4,YE 218 d (.agg h4) b3 b4/\∃ i4,Yg 218 d b4 i4/\K (.tuple #[.agg i4,.int .i64 8]) b4
 else
 ∃ h8,Yg 218 h b3 h8/\∃ b5,YE 218 d (.agg h8) b3 b5/\∃ i5,Yg 218 d b5 i5/\K (.tuple #[.agg i5,.int .i64 0]) b5))) [.int .i64 0] p8))/\(∃ i b6,Yq 218 b2 i b6/\YD 5 f b6 (.int .u8 e)/\YC Ai #[.slice x z y] b6 fun s5 q2=>∃ m1,s5=.int .u64 m1/\YD 5 f q2 (.int .u8 e)/\YC Ai #[.slice t v u] q2 fun s9 q3=>∃ m5,s9=.int .u64 m5/\YD 5 f q3 (.int .u8 e)/\∃ g7,Al (Instr.build 218 #[(0,.int .i64 (IntKind.i64.wrap e)),(1,.int .i64 (IntKind.i64.wrap a0)),(2,.int .i64 (IntKind.i64.wrap m1)),(3,.int .i64 (IntKind.i64.wrap m5))]) (.agg g7)/\∃ q4,YE 218 i (.agg g7) q3 q4/\A6 (fun s0 w5 q5 =>
 ∃ n,Ap w5 0=.int .i64 n/\(bif decide (n<6)then
 ∃ d0 j6 f0,Al (Instr.sliceAt 88 (.slice b a c) (some (.int .i64 (IntKind.i64.wrap (16+(IntKind.i64.wrap (2*n)))))) (some (.int .i64 (IntKind.i64.wrap (18+(IntKind.i64.wrap (2*n)))))) none) (.slice d0 j6 f0)/\YC Ai #[.slice d0 j6 f0] q5 fun t3 v4=>∃ m9,t3=.int .u64 m9/\∃ o5,Yx 216 (.pointer (some (Addr.add i 4))) (.int .i64 n) o5/\∃ q6,YE 3 o5 (.int .i64 (IntKind.i64.wrap m9)) v4 q6/\s0 [.int .i64 (IntKind.i64.wrap (n+1))] q6
 else
 ∃ d4 l0 f4,Al (Instr.sliceAt 88 (.slice b a c) (some (.int .i64 28)) (some (.int .i64 30)) none) (.slice d4 l0 f4)/\YC Ai #[.slice d4 l0 f4] q5 fun t7 v5=>∃ n3,t7=.int .u64 n3/\∃ q7,YE 3 (Addr.add i 10) (.int .i64 (IntKind.i64.wrap n3)) v5 q7/\∃ d8 l4 f8,Al (Instr.sliceAt 88 (.slice b a c) (some (.int .i64 30)) (some (.int .i64 32)) none) (.slice d8 l4 f8)/\YC Ai #[.slice d8 l4 f8] q7 fun u1 v6=>∃ n7,u1=.int .u64 n7/\∃ b8,YE 3 (Addr.add i 11) (.int .i64 (IntKind.i64.wrap n7)) v6 b8/\∃ h1,Yg 218 i b8 h1/\YC BO #[.agg h1] b8 fun u5 r=>∃ e2 l8 g2 o1,u5=.tuple #[.slice e2 l8 g2,.int .i64 o1]/\Ac (fun j2=>(bif o1 != 0 then j2 [.bool true] r else ∃ o9:ByteArray,Ru (convert 88 9 (.slice e2 l8 g2)) r (.string o9) r/\∃ p3:ByteArray,Ru (convert 88 9 (.slice b a c)) r (.string p3) r/\j2 [.bool (!((ByteArray.toList o9)==(ByteArray.toList p3)))] r)) fun w6 b9 =>
 ∃ e6,Ap w6 0=.bool e6/\(bif e6 then
 ∃ h5,Al (Instr.build 218 #[]) (.agg h5)/\∃ c0,YE 218 d (.agg h5) b9 c0/\∃ i6,Yg 218 d c0 i6/\K (.tuple #[.agg i6,.int .i64 8]) c0
 else
 ∃ h9,Yg 218 i b9 h9/\∃ c1,YE 218 d (.agg h9) b9 c1/\∃ i7,Yg 218 d c1 i7/\K (.tuple #[.agg i7,.int .i64 0]) c1))) [.int .i64 0] q4))/\(∃ j c2,Yq 218 (Ah w) j c2/\YD 5 f c2 (.int .u8 e)/\YC Ai #[.slice a1 a3 a2] c2 fun s3 q8=>∃ m0,s3=.int .u64 m0/\YD 5 f q8 (.int .u8 e)/\YC Ai #[.slice x z y] q8 fun s6 r0=>∃ m2,s6=.int .u64 m2/\YD 5 f r0 (.int .u8 e)/\YC Ai #[.slice t v u] r0 fun t0 r1=>∃ m6,t0=.int .u64 m6/\YD 5 f r1 (.int .u8 e)/\∃ g8,Al (Instr.build 218 #[(0,.int .i64 (IntKind.i64.wrap e)),(1,.int .i64 (IntKind.i64.wrap m0)),(2,.int .i64 (IntKind.i64.wrap m2)),(3,.int .i64 (IntKind.i64.wrap m6))]) (.agg g8)/\∃ r2,YE 218 j (.agg g8) r1 r2/\A6 (fun s1 w7 r3 =>
 ∃ o,Ap w7 0=.int .i64 o/\(bif decide (o<6)then
 ∃ d1 j7 f1,Al (Instr.sliceAt 88 (.slice b a c) (some (.int .i64 (IntKind.i64.wrap (16+(IntKind.i64.wrap (2*o)))))) (some (.int .i64 (IntKind.i64.wrap (18+(IntKind.i64.wrap (2*o)))))) none) (.slice d1 j7 f1)/\YC Ai #[.slice d1 j7 f1] r3 fun t4 v7=>∃ n0,t4=.int .u64 n0/\∃ o6,Yx 216 (.pointer (some (Addr.add j 4))) (.int .i64 o) o6/\∃ r4,YE 3 o6 (.int .i64 (IntKind.i64.wrap n0)) v7 r4/\s1 [.int .i64 (IntKind.i64.wrap (o+1))] r4
 else
 ∃ d5 l1 f5,Al (Instr.sliceAt 88 (.slice b a c) (some (.int .i64 28)) (some (.int .i64 30)) none) (.slice d5 l1 f5)/\YC Ai #[.slice d5 l1 f5] r3 fun t8 v8=>∃ n4,t8=.int .u64 n4/\∃ r5,YE 3 (Addr.add j 10) (.int .i64 (IntKind.i64.wrap n4)) v8 r5/\∃ d9 l5 f9,Al (Instr.sliceAt 88 (.slice b a c) (some (.int .i64 30)) (some (.int .i64 32)) none) (.slice d9 l5 f9)/\YC Ai #[.slice d9 l5 f9] r5 fun u2 v9=>∃ n8,u2=.int .u64 n8/\∃ c3,YE 3 (Addr.add j 11) (.int .i64 (IntKind.i64.wrap n8)) v9 c3/\∃ h2,Yg 218 j c3 h2/\YC BO #[.agg h2] c3 fun u6 s=>∃ e3 l9 g3 o2,u6=.tuple #[.slice e3 l9 g3,.int .i64 o2]/\Ac (fun j3=>(bif o2 != 0 then j3 [.bool true] s else ∃ p0:ByteArray,Ru (convert 88 9 (.slice e3 l9 g3)) s (.string p0) s/\∃ p4:ByteArray,Ru (convert 88 9 (.slice b a c)) s (.string p4) s/\j3 [.bool (!((ByteArray.toList p0)==(ByteArray.toList p4)))] s)) fun w8 c5 =>
 ∃ e7,Ap w8 0=.bool e7/\(bif e7 then
 ∃ h6,Al (Instr.build 218 #[]) (.agg h6)/\∃ c6,YE 218 d (.agg h6) c5 c6/\∃ i8,Yg 218 d c6 i8/\K (.tuple #[.agg i8,.int .i64 8]) c6
 else
 ∃ i0,Yg 218 j c5 i0/\∃ c7,YE 218 d (.agg i0) c5 c7/\∃ i9,Yg 218 d c7 i9/\K (.tuple #[.agg i9,.int .i64 0]) c7))) [.int .i64 0] r2))
theorem Ss(a0:YB)(l0 c0:Nat):Yz Hc #[.slice a0 l0 c0] (KD a0 l0 c0):=fun _ _ h=>Af (A:=⟨[5,69],[(5,3),(69,4)],[]⟩) Tryz.func251 h
def Jd(f:YB)(c g:Nat)(i:Int)(j:World)(K:YA):Prop :=
 A6 (fun h l b =>
 ∃ a,Ap l 0=.int .i64 a/\(bif decide (a<(c:Int))then
 ∃ e,Yx 80 (.slice f c g) (.int .i64 a) e/\∃ d,Yi e b d/\(bif i==d then
 K (.int .i64 a) b
 else
 h [.int .i64 (IntKind.i64.wrap (a+1))] b)
 else
 K (.int .i64 ((-1))) b)) [.int .i64 0] j
theorem PM(a0:YB)(l0 c0:Nat)(n1:Int):Yz FM #[.slice a0 l0 c0,.int .i64 n1] (Jd a0 l0 c0 n1):=fun _ _ h=>Af (A:=⟨[8],[(8,3)],[]⟩) Tryz.func252 h
def Gv(h:YB)(d i:Nat)(m:Value)(n:World)(K:YA):Prop :=
 A6 (fun j o b =>
 ∃ a,Ap o 0=.int .i64 a/\(bif decide (a<(d:Int))then
 ∃ f,Yx 80 (.slice h d i) (.int .i64 a) f/\∃ e,Yi f b e/\WN Tryz.prog m #[.int .i64 e] b fun l g=>∃ c,l=.bool c/\(bif c then
 K (.int .i64 a) g
 else
 j [.int .i64 (IntKind.i64.wrap (a+1))] g)
 else
 K (.int .i64 ((-1))) b)) [.int .i64 0] n
theorem LK(a0:YB)(l0 c0:Nat)(v1:Value):Yz CO #[.slice a0 l0 c0,v1] (Gv a0 l0 c0 v1):=fun _ _ h=>Af (A:=⟨[8],[(8,3)],[]⟩) Tryz.func253 h
def H9(f:Int)(n:Value)(a:World)(K:YA):Prop :=
 Ac (fun d=>∃ i,Ru (Instr.loadAt 160 n) a (.pointer i) a/\∃ m,(.pointer i:Value)=.pointer (some m)/\∃ e,YD 250 (Addr.add m 2) a (.map e)/\∃ j,Ru (Instr.lookup 250 (.map e) (.int .i64 f) false) a (.pointer j) a/\∃ l,(.pointer j:Value)=.pointer (some l)/\∃ g,Yi (Addr.add l 1) a g/\(bif g==0 then ∃ h,Ru (Instr.loadAt 160 n) a (.pointer h) a/\YC Fj #[.pointer h,.int .i64 f] a fun o p=>∃ b,o=.bool b/\d [.bool (!b)] p else d [.bool false] a)) fun r q =>
 ∃ c,Ap r 0=.bool c/\K (.bool c) q
theorem MT(n0:Int)(v1:Value):Yz Ds #[.int .i64 n0,v1] (H9 n0 v1):=fun _ _ h=>Af (A:=⟨[3],[(3,4)],[]⟩) Tryz.func254 h
def Ik(l:YB)(i:Int)(r:World)(K:YA):Prop :=
 ∃ o,(.pointer l:Value)=.pointer (some o)/\∃ m,Yp 134 (Addr.add o 0) r m/\YC Cs #[.pointer m,.int .i64 i] r fun u a=>∃ b f d s,u=.tuple #[.slice b f d,.int .i64 s]/\∃ p,(.pointer l:Value)=.pointer (some p)/\∃ h,YD 250 (Addr.add p 2) a (.map h)/\∃ n,Ru (Instr.lookup 250 (.map h) (.int .i64 i) false) a (.pointer n) a/\∃ q,(.pointer n:Value)=.pointer (some q)/\∃(c:YB)(g e:Nat),YD 88 (Addr.add (Addr.add q 0) 0) a (.slice c g e)/\YC Jg #[.slice b f d,.slice c g e] a fun v w=>∃ j t,v=.tuple #[.int .i64 j,.int .i64 t]/\K (.bool (decide (j >= 0))) w
theorem OB(p0:YB)(n1:Int):Yz Fj #[.pointer p0,.int .i64 n1] (Ik p0 n1):=fun _ _ h=>Af (A:=⟨[],[],[]⟩) Tryz.func255 h
def J2(b:YB)(r:Int)(t:World)(K:YA):Prop :=
 ∃ c a,Yb 3 (.int .i64 r) t c a/\∃ p,(.pointer b:Value)=.pointer (some p)/\∃ l,YD 250 (Addr.add p 2) (Ah a) (.map l)/\∃ m,Yi c (Ah a) m/\∃ d,Ru (Builtin.delete_ #[250,303] 0 #[.map l,.int .i64 m]) (Ah a) (.tuple #[]) d/\∃ n,(.pointer b:Value)=.pointer (some n)/\∃(e:YB)(i g:Nat),YD 80 (Addr.add n 3) d (.slice e i g)/\YC Bx #[.slice e i g,.func (.func D7) #[] #[.pointer (some c)]] d fun s u=>∃ f j h,s=.slice f j h/\∃ o,(.pointer b:Value)=.pointer (some o)/\∃ q,YE 80 (Addr.add o 3) (.slice f j h) u q/\K (.tuple #[]) q
theorem Qp(p0:YB)(n1:Int):Yz Gy #[.pointer p0,.int .i64 n1] (J2 p0 n1):=fun _ _ h=>Af (A:=⟨[],[],[]⟩) Tryz.func256 h
def Pe(a6:Array Value)(b2:World)(K:YA):Prop :=
 ∃ b m,Yb 218 (.agg a6) b2 b m/\∃ w,Yg 218 b m w/\YC JN #[.agg w] m fun b1 b5=>∃ x,b1=.agg x/\A6 (fun a7 e a =>
 ∃ f,Ap e 1=.int .i64 f/\(bif decide (f<8)then
 ∃ j,Al (Instr.index 64 (.agg x) (.int .i64 f)) (.int .i64 j)/\Ac (fun y=>(bif decide (j<0)then y [.bool true] a else y [.bool (decide (j >= 4096))] a)) fun b7 a3 =>
 ∃ h,Ap b7 0=.bool h/\(bif h then
 K (.bool false) a3
 else
 a7 [Ap e 0,.int .i64 (IntKind.i64.wrap (f+1)),.bool h] a3)
 else
 ∃ c,Yi (Addr.add b 0) a c/\Ac (fun a8=>Ac (fun z=>(bif c==0 then
 ∃ r,Al (Instr.build 218 #[]) (.agg r)/\∃ l a4,Yq 218 a l a4/\∃ g,YE 218 l (.agg r) a4 g/\∃ s,Yg 218 b g s/\∃ t,Yg 218 l g t/\∃ o,Al (Gp .eql 218 (.tmp 29) (.tmp 30) (.agg s) (.agg t)) (.bool o)/\K (.bool o) g
 else
 (bif c==2 then
 ∃ a0,YD 2 (Addr.add b 2) a (.int .i64 a0)/\(bif (Int.tmod a0 256) != 0 then
 K (.bool false) a
 else
 z [Ap e 0] a)
 else
 (bif c==1 then
 z [Ap e 0] a
 else
 (bif c==3 then
 Ac (fun i=>∃ v,Yg 218 b a v/\YC H0 #[.agg v] a fun b0 d=>∃ q,b0=.bool q/\(bif q then ∃ a1,YD 2 (Addr.add b 2) d (.int .i64 a1)/\(bif decide (a1 >= 1)then ∃ a2,YD 2 (Addr.add b 2) d (.int .i64 a2)/\i [.bool (decide (a2<=255))] d else i [.bool false] d)else i [.bool false] d)) fun b8 b6 =>
 ∃ n,Ap b8 0=.bool n/\K (.bool n) b6
 else
 a8 [Ap e 0] a))))) fun c0 a5 =>
 ∃ u,Yg 218 b a5 u/\YC H0 #[.agg u] a5 fun a9 b3=>∃ p,a9=.bool p/\K (.bool p) b3) fun b9 b4 =>
 K (.bool false) b4)) [.bool false,.int .i64 0,undef] b5
theorem W0(g0:Array Value):Yz CQ #[.agg g0] (Pe g0):=fun _ _ h=>Af (A:=⟨[2,8,16],[(2,4),(8,3),(16,4)],[]⟩) Tryz.func259 h
def Tq(x:Array Value)(z:World)(K:YA):Prop :=
 ∃ b t,Yb 218 (.agg x) z b t/\∃ d u,Yq 64 t d u/\∃ a v,Yq 64 u a v/\∃ g n i,Al (Instr.sliceAt 64 (.pointer (some a)) none none none) (.slice g n i)/\∃ h o j,Al (Instr.sliceAt 216 (.pointer (some (Addr.add b 4))) none none none) (.slice h o j)/\∃ y c,Ru (Builtin.copy_ #[80,80] 3 #[.slice g n i,.slice h o j]) (Ah v) (.int .i64 y) c/\∃ q,Yi (Addr.add b 10) c q/\∃ p,Yi (Addr.add b 11) c p/\∃ r,Yx 64 (.pointer (some a)) (.int .i64 6) r/\∃ w,YE 3 r (.int .i64 q) c w/\∃ s,Yx 64 (.pointer (some a)) (.int .i64 7) s/\∃ e,YE 3 s (.int .i64 p) w e/\∃ l,Yg 64 a e l/\∃ f,YE 64 d (.agg l) e f/\∃ m,Yg 64 d f m/\K (.agg m) f
theorem Z7(g0:Array Value):Yz JN #[.agg g0] (Tq g0):=fun _ _ h=>Af (A:=⟨[],[],[]⟩) Tryz.func260 h
def IZ(c1:Array Value)(c3:World)(K:YA):Prop :=
 ∃ a b9,Yb 218 (.agg c1) c3 a b9/\∃ t,Al (Instr.build 218 #[]) (.agg t)/\∃ j c0,Yq 218 b9 j c0/\∃ b,YE 218 j (.agg t) c0 b/\∃ b4,Yi (Addr.add a 0) b b4/\(bif b4==0 then
 ∃ r,Yg 218 a b r/\∃ s,Yg 218 j b s/\∃ m,Al (Gp .eql 218 (.tmp 10) (.tmp 11) (.agg r) (.agg s)) (.bool m)/\K (.bool m) b
 else
 Ac (fun e=>∃ y,Yi (Addr.add a 0) b y/\(bif decide (y >= 1)then ∃ z,Yi (Addr.add a 0) b z/\(bif decide (z<=3)then ∃ a0,Yi (Addr.add a 1) b a0/\(bif decide (a0 >= 0)then ∃ a1,Yi (Addr.add a 1) b a1/\(bif decide (a1<=1000)then ∃ a2,YD 2 (Addr.add a 2) b (.int .i64 a2)/\(bif decide (a2 >= 0)then ∃ a3,YD 2 (Addr.add a 2) b (.int .i64 a3)/\(bif decide (a3<=1066496)then ∃ a4,YD 2 (Addr.add a 3) b (.int .i64 a4)/\(bif decide (a4 >= 1)then ∃ a5,YD 2 (Addr.add a 3) b (.int .i64 a5)/\e [.bool (decide (a5<=4611686018427387904))] b else e [.bool false] b)else e [.bool false] b)else e [.bool false] b)else e [.bool false] b)else e [.bool false] b)else e [.bool false] b)else e [.bool false] b)) fun c7 c =>
 Ac (fun f=>∃ o,Ap c7 0=.bool o/\(bif o then ∃ a6,Yi (Addr.add a 0) c a6/\(bif a6 != 2 then ∃ a8,Yi (Addr.add a 0) c a8/\(bif a8 != 3 then f [.bool true] c else ∃ b0,YD 2 (Addr.add a 2) c (.int .i64 b0)/\(bif decide (b0 >= 1)then ∃ b2,YD 2 (Addr.add a 2) c (.int .i64 b2)/\f [.bool (decide (b2<=255))] c else f [.bool false] c))else ∃ a7,YD 2 (Addr.add a 2) c (.int .i64 a7)/\(bif (Int.tmod a7 256)==0 then ∃ a9,Yi (Addr.add a 0) c a9/\(bif a9 != 3 then f [.bool true] c else ∃ b1,YD 2 (Addr.add a 2) c (.int .i64 b1)/\(bif decide (b1 >= 1)then ∃ b3,YD 2 (Addr.add a 2) c (.int .i64 b3)/\f [.bool (decide (b3<=255))] c else f [.bool false] c))else f [.bool false] c))else f [.bool false] c)) fun c8 c4 =>
 A6 (fun c2 l d =>
 ∃ h,Ap l 1=.int .i64 h/\(bif decide (h<6)then
 Ac (fun i=>∃ p,Ap l 0=.bool p/\(bif p then ∃ b7,Yx 216 (.pointer (some (Addr.add a 4))) (.int .i64 h) b7/\∃ b5,Yi b7 d b5/\(bif decide (b5 >= 0)then ∃ b8,Yx 216 (.pointer (some (Addr.add a 4))) (.int .i64 h) b8/\∃ b6,Yi b8 d b6/\i [.bool (decide (b6<4096))] d else i [.bool false] d)else i [.bool false] d)) fun c9 c5 =>
 c2 [Ap c9 0,.int .i64 (IntKind.i64.wrap (h+1))] c5
 else
 Ac (fun g=>∃ q,Ap l 0=.bool q/\(bif q then ∃ u,Yi (Addr.add a 10) d u/\(bif decide (u >= 0)then ∃ v,Yi (Addr.add a 10) d v/\(bif decide (v<4096)then ∃ w,Yi (Addr.add a 11) d w/\(bif decide (w >= 0)then ∃ x,Yi (Addr.add a 11) d x/\g [.bool (decide (x<4096))] d else g [.bool false] d)else g [.bool false] d)else g [.bool false] d)else g [.bool false] d)) fun d0 c6 =>
 ∃ n,Ap d0 0=.bool n/\K (.bool n) c6)) [Ap c8 0,.int .i64 0] c4)
theorem PH(g0:Array Value):Yz FJ #[.agg g0] (IZ g0):=fun _ _ h=>Af (A:=⟨[2,4,5],[(2,4),(4,4),(5,3)],[]⟩) Tryz.func261 h
def OS(c:Int)(d:Value)(a:World)(K:YA):Prop :=
 ∃ b,Ru (Instr.loadAt 3 d) a (.int .i64 b) a/\K (.bool (c==b)) a
theorem OC(n0:Int)(v1:Value):Yz D7 #[.int .i64 n0,v1] (OS n0 v1):=fun _ _ h=>Af (A:=⟨[],[],[]⟩) Tryz.func262 h
def Pf(l:Array Value)(m:World)(K:YA):Prop :=
 ∃ b a,Yb 218 (.agg l) m b a/\Ac (fun c=>∃ i,Yi (Addr.add b 1) a i/\(bif decide (i >= 0)then ∃ j,Yi (Addr.add b 1) a j/\(bif decide (j<=1000)then ∃ e,YD 2 (Addr.add b 2) a (.int .i64 e)/\(bif decide (e >= 0)then ∃ f,YD 2 (Addr.add b 2) a (.int .i64 f)/\(bif decide (f<=1066496)then ∃ g,YD 2 (Addr.add b 3) a (.int .i64 g)/\(bif decide (g >= 1)then ∃ h,YD 2 (Addr.add b 3) a (.int .i64 h)/\c [.bool (decide (h<=4611686018427387904))] a else c [.bool false] a)else c [.bool false] a)else c [.bool false] a)else c [.bool false] a)else c [.bool false] a)) fun o n =>
 ∃ d,Ap o 0=.bool d/\K (.bool d) n
theorem W4(g0:Array Value):Yz H0 #[.agg g0] (Pf g0):=fun _ _ h=>Af (A:=⟨[2],[(2,4)],[]⟩) Tryz.func274 h
end Go.Z
end
section
open Go Go.Den Go.Proofs
namespace Go.Den
def u8(x:UInt8):Value:=.int .u8 (x.toNat:Int)
def Au(xs:List UInt8):List Value:=xs.map u8
@[simp] theorem Ak (xs:List UInt8):(Au xs).length=xs.length:=by simp[Au]
theorem dM(q:Nat):(((UInt8.ofNat (q % 256)).toNat:Nat):Int)=(q:Int) % 256:=by
 have:(UInt8.ofNat (q % 256)).toNat=q % 256:=by rw[Lr3];omega
 rw[this];omega
theorem CP{xs:List UInt8}{i:Nat}(hi:i<xs.length):(Au xs)[i]?=some (.int .u8 (xs[i].toNat:Int)):=by simp[Au,hi,u8]
def BW:List UInt8->Nat
 | []=>0
 | x::r=>x.toNat+256*BW r
theorem VB:∀ xs:List UInt8,BW xs<256 ^ xs.length
 | []=>by simp[BW]
 | x::r=>by
  have:=VB r
  have hx:=x.toNat_lt;simp only[BW,mO,Lo4];omega
theorem VA:∀(xs ys:List UInt8),BW (xs++ys)=BW xs+256 ^ xs.length*BW ys
 | [],ys=>by simp[BW]
 | x::r,ys=>by
  simp only[Ld6,BW,VA r ys,mO,Lo4];rw[Nat.mul_add,<- Nat.mul_assoc,Lu5 256 (256 ^ r.length),xQ]
theorem Rr(xs:List UInt8)(i:Nat)(hi:i<xs.length):BW (xs.take (i+1))=BW (xs.take i)+256 ^ i*xs[i].toNat:=by
 rw[Ll hi,VA];simp[BW,Le4 (Nat.le_of_lt hi)]
theorem uK{a x i:Nat}(ha:a<256 ^ i):a ||| (x*256 ^ i)=a+256 ^ i*x:=by
 have e:(256:Nat) ^ i=2 ^ (8*i):=by rw[Nat.pow_mul]
 rw[e]at ha |-;rw[Nat.or_comm,Lu5 x,<- Nat.two_pow_add_eq_or_of_lt ha,Nat.add_comm]
theorem Aa1{P:Program}{T:TypeId}{x y:Operand}{a b:Int}(hb:0<=b)(w:World):(Gp .shl T x y (.int .u64 a) (.int .i64 b)).run P w=.ok (.int .u64 (IntKind.u64.wrap (a*2 ^ (min b.toNat 64)))) w:=by
 rw[DE (fun w=>Gg _ _ _ _ _ _ _ _ w)];have:¬ b<0:=by omega
 simp[binOp,Op.shift,this,IntKind.bits]
def kR:List Value->Int
 | [.int _ n]=>n
 | [_,.int _ n]=>n
 | [_,_,.int _ n]=>n
 | [_,_,_,.int _ n]=>n
 | _=>0
def Bl(w:World)(a:Option Addr)(cs:List Value):Prop:=cs=[]\/∃ b o,a=some ⟨b,o,none⟩/\At w b o cs
def AcW(w:World)(a:Option Addr)(cs:List Value):Prop:=cs=[]\/∃ b o,a=some ⟨b,o,none⟩/\A1 w b o cs
end Go.Den
namespace Go.Z
theorem uL{a b:Nat}(ha:a<18446744073709551616)(hb:b<18446744073709551616):TY 64 (a:Int) (b:Int)=((a ||| b:Nat):Int):=by
 show(((_:BitVec 64).toNat:Nat):Int)=_;rw[dU,dU,BitVec.toNat_or,dW,dW,dS ha,dS hb]
theorem XJ{i:Nat}(h:i<8):256 ^ (i+1)<=18446744073709551616:=by
 have:256 ^ (i+1)<=256 ^ 8:=Ld3 (by omega) (by omega);simpa using this
theorem ZF{a:Option Addr}{l c:Nat}{xs:List UInt8}{w:World}{K:Value->World->Prop}(hl:xs.length=l)(hr:Bl w a (Au xs))(h63:l<=9223372036854775807)
  (h:K (.int .u64 (BW (xs.take 8):Int)) w):A8 Tryz.prog Bb #[.slice a l c] w K:=by
 apply mD;unfold WJ;refine⟨fun x w1=>w1=w/\∃ i:Nat,i<=8/\i<=l/\x=[.int .u64 (BW (xs.take i):Int),.int .i64 i],fun x _=>(8-kR x).toNat,⟨rfl,0,by omega,by omega,rfl⟩,?_⟩;rintro x w1 ⟨rfl,i,hi8,hil,rfl⟩;refine⟨_,rfl,Aa (fun hb=>?_) (fun hb=>?_)⟩
 ·have hb:=Lc hb;have hi:i<8/\i<l:=by split at hb<;>omega
  have hix:i<xs.length:=by omega
  obtain⟨b,o,rfl,hat⟩:=hr.resolve_left (by intro e;have:=Pi List.length e;simp at this;rw[this]at hix;simp at hix);have hx:=xs[i].toNat_lt;have hlt:BW (xs.take i)<256 ^ i:=by have:=VB (xs.take i);rwa [List.length_take_of_le (by omega)]at this
  have hp:=XJ hi.1;have hpi:256 ^ i*xs[i].toNat+256 ^ i<=256 ^ (i+1):=by rw[Lo4,<- Nat.mul_succ];exact Nat.mul_le_mul_left _ (by omega)
  refine⟨_,rfl,_,Ar (k:=1) (by kernel_rfl) (by omega) (by omega),?_⟩;rw[Ad,show(i:Int).toNat*1=i by omega];refine⟨_,hat.load (by kernel_rfl) (CP hix),?_⟩;rw[El (by omega) (by omega),Ag (x:=8*(i:Int)) (by omega) (by omega)];refine⟨_,Aa1 (by omega),?_⟩;have e1:((xs[i].toNat:Int)*2 ^ (min (8*(i:Int)).toNat 64))=((xs[i].toNat*256 ^ i:Nat):Int):=by
   rw[show min (8*(i:Int)).toNat 64=8*i by omega];have:(256:Nat) ^ i=2 ^ (8*i):=by rw[Nat.pow_mul]
   rw[this];push_cast;rfl
  have hmul:xs[i].toNat*256 ^ i=256 ^ i*xs[i].toNat:=Lu5 _ _
  rw[e1,El (x:=((xs[i].toNat*256 ^ i:Nat):Int)) (by omega) (by omega),uL (by omega) (by omega),uK hlt,<- Rr xs i hix,
   El (x:=((BW (xs.take (i+1)):Nat):Int)) (by omega) (by rw[Rr xs i hix];omega),Ag (x:=(i:Int)+1) (by omega) (by omega)]
  exact⟨⟨rfl,i+1,by omega,by omega,rfl⟩,by simp[kR];omega⟩
 ·have hb:=Lb hb;have hi:i=8\/i=l:=by split at hb<;>omega
  refine⟨_,rfl,?_⟩;have e:xs.take i=xs.take 8:=by
   rcases hi with rfl|rfl
   ·rfl
   ·rw[Lg (by omega),Lg (by omega)]
  rw[e];exact h
def Bg:Nat->Nat->List UInt8
 | 0,_=>[]
 | k+1,n=>UInt8.ofNat (n % 256)::Bg k (n / 256)
@[simp] theorem Cm:∀ k n,(Bg k n).length=k
 | 0,_=>rfl
 | k+1,n=>by simp[Bg,Cm k]
theorem SU:∀(k n:Nat),Bg (k+1) n=Bg k n++[UInt8.ofNat (n / 256 ^ k % 256)]
 | 0,n=>by simp[Bg]
 | k+1,n=>by
  rw[Bg,SU k (n / 256)];simp only[Bg,Ld6];rw[Nat.div_div_eq_div_mul,Lo4,Lu5 256]
theorem AfP{b o i l c:Nat}{cs:List Value}{n:Nat}{w:World}{K:Value->World->Prop}(hat:A1 w b o cs)(hil:i+l<=cs.length)(h63:l<=9223372036854775807)
  (h:∀ w',Ab (fun x=>x=b) w w'->A1 w' b o (AA cs i (Au (Bg l n)))->w'.heap.size=w.heap.size->K (.tuple #[]) w'):A8 Tryz.prog CA #[.slice (some ⟨b,o+i,none⟩) l c,.int .u64 n] w K:=by
 apply mF;unfold WL
 refine⟨fun x w1=>∃ j:Nat,j<=l/\x=[.int .u64 ((n / 256 ^ j:Nat):Int),.int .i64 j]/\A1 w1 b o (AA cs i (Au (Bg j n)))/\Ab (fun x=>x=b) w w1/\w1.heap.size=w.heap.size,
  fun x _=>(l-kR x).toNat,⟨0,by omega,by simp,by simpa [Bg,Au,AA] using hat,Ab.refl _ _,rfl⟩,?_⟩
 rintro x w1 ⟨j,hjl,rfl,hat1,hm,hsz⟩;refine⟨_,rfl,Aa (fun hb=>?_) (fun hb=>?_)⟩
 ·have hb:=Lc hb;have hj:j<l:=by omega
  refine⟨_,rfl,_,Ar (k:=1) (by kernel_rfl) (by omega) (by omega),?_⟩;rw[Ad,show(j:Int).toNat*1=j by omega,xQ];obtain⟨w2,h1,h2,h3,h4⟩:=hat1.store (P:=Tryz.prog) (T:=5) (i:=i+j) (v:=.int .u8 (IntKind.u8.wrap ((n / 256 ^ j:Nat):Int))) (by kernel_rfl) (by rw[BD (by simp;omega)];omega) rfl;refine⟨w2,h1,?_⟩;rw[Ag (x:=(j:Int)+1) (by omega) (by omega)];have e1:Int.fdiv ((n / 256 ^ j:Nat):Int) 256=((n / 256 ^ (j+1):Nat):Int):=by
   rw[Lo4,<- Nat.div_div_eq_div_mul,Int.fdiv_eq_ediv_of_nonneg _ (by omega)];exact(Int.natCast_ediv _ _).symm
  rw[e1];refine⟨⟨j+1,by omega,by simp,?_,hm.trans h3 (fun _ _ h=>h),by omega⟩,by simp[kR];omega⟩;have ev:(Value.int .u8 (IntKind.u8.wrap ((n / 256 ^ j:Nat):Int)))=u8 (UInt8.ofNat (n / 256 ^ j % 256)):=by
   rw[Ko];unfold u8;rw[dM]
  have e2:(AA cs i (Au (Bg j n))).set (i+j) (u8 (UInt8.ofNat (n / 256 ^ j % 256)))=AA cs i (Au (Bg (j+1) n)):=by
   have:=cZ (cs:=cs) (vs:=Au (Bg j n)) (i:=i) (v:=u8 (UInt8.ofNat (n / 256 ^ j % 256))) (by simp;omega)
   rw[Ak,Cm]at this;rw[this,SU];simp[Au]
  rw[ev,e2]at h2;exact h2
 ·have hb:=Lb hb;have hj:j=l:=by omega
  subst hj;exact h w1 hm hat1 hsz
end Go.Z
end
section
open Go Go.Den Go.Proofs
namespace Go.Den
def I(n:Int):Value:=.int .i64 n
def iL(ns:List Int):List Value:=ns.map I
@[simp] theorem Gh (ns:List Int):(iL ns).length=ns.length:=by simp[iL]
theorem Ma{ns:List Int}{i:Nat}(hi:i<ns.length):(iL ns)[i]?=some (.int .i64 ns[i]):=by simp[iL,hi,I]
theorem BF(xs:List UInt8):∀ v∈Au xs,v.oneCell'=true:=by
 intro v hv;simp[Au]at hv;obtain⟨x,_,rfl⟩:=hv;rfl
theorem YW(xs:List Int):∀ v∈iL xs,v.oneCell'=true:=by
 intro v hv;simp[iL]at hv;obtain⟨x,_,rfl⟩:=hv;rfl
theorem lV(xs:List UInt8)(i m:Nat):((Au xs).drop i).take m=Au ((xs.drop i).take m):=by simp[Au,List.map_drop,Lf4]
theorem Bl.sub{w:World}{a:Option Addr}{c i m:Nat}{xs:List UInt8}(h:Bl w a (Au xs))(him:i+m<=xs.length)(hc:xs.length<=c)(hm:0<m):Bl w (Cb a c i 1) (Au ((xs.drop i).take m)):=by
 rcases h with h|⟨b,o,rfl,hat⟩
 ·have:=Pi List.length h;simp at this;rw[this]at him;simp at him;omega
 ·refine .inr ⟨b,o+i,?_,?_⟩
  ·unfold Cb;rw[if_neg (by omega)];simp[Ad]
  ·rw[<- lV];exact hat.sub (by simpa using him)
theorem Mm(xs ys:List UInt8)(i:Nat):AA (Au xs) i (Au ys)=Au (xs.take i++ys++xs.drop (i+ys.length)):=by
 simp[AA,Au,Lf4,List.map_drop]
end Go.Den
namespace Go.Z
theorem Hn:D5 Tryz.prog 80 1 (.int .i64 0) 8:=by unfold D5;kernel_rfl
theorem AE:D5 Tryz.prog 88 1 (.int .u8 0) 1:=by unfold D5;kernel_rfl
end Go.Z
end
section
open Go Go.Den
namespace Go.Den
section
variable{P:Program}{w:World}
theorem Ab.grown{b:World}{row:Option Nat}(h:w.grownBy b row):Ab (fun x=>row=some x) w b :=
 ⟨h.tape,h.os,h.output,h.size,fun k hk hn=>h.block k hk (fun e=>hn e.symm)⟩
def Ow(P:Program)(w:World)(base:Nat)(T:TypeId)(k:Nat)(a:Option Addr)(l c:Nat)(xs:List Value):Prop :=
 ∃ e,P.underlying T=some (.slice e)/\w.ownsRow base e k (.slice a l c) l xs
theorem Ow.len{base k l c:Nat}{T:TypeId}{a:Option Addr}{xs:List Value}(h:Ow P w base T k a l c xs):xs.length=l*k:=by obtain⟨e,_,h⟩:=h;exact h.1
theorem Ow.nil{base k bytes:Nat}{T:TypeId}{z:Value}(hT:D5 P T k z bytes):Ow P w base T k none 0 0 []:=by
 obtain⟨e,i,zv,he,_⟩:=hT.is;exact⟨e,he,World.ownsRow_nil w base e k⟩
theorem Ow.base{base k l c:Nat}{T:TypeId}{a:Option Addr}{xs:List Value}(h:Ow P w base T k a l c xs){q:Addr}(hq:a=some q):base<=q.block/\q.block<w.heap.size:=by
 obtain⟨e,_,h⟩:=h;exact h.lt q.block (by rw[hq];rfl)
theorem Ow.zero{base k l c:Nat}{T:TypeId}{xs:List Value}(h:Ow P w base T k none l c xs):l=0/\c=0:=by
 obtain⟨e,_,h⟩:=h;rcases h.2 with ⟨h1,h2⟩|⟨g,cap,GT,h1,_⟩
 ·simp at h1;exact⟨h2,h1.2⟩
 ·simp at h1
theorem Ow.cap{base k l c:Nat}{T:TypeId}{a:Option Addr}{xs:List Value}(h:Ow P w base T k a l c xs):l<=c/\c<=maxLen:=by
 obtain⟨e,_,h⟩:=h;rcases h.2 with ⟨h1,h2⟩|⟨g,cap,GT,h1,_,_,h3,h4,_⟩
 ·simp at h1;omega
 ·simp at h1;obtain⟨_,rfl⟩:=h1;exact⟨h3,h4⟩
theorem Ow.keep{base k l c:Nat}{T:TypeId}{a:Option Addr}{xs:List Value}{S:Nat->Prop}{w':World}(h:Ow P w base T k a l c xs)(m:Ab S w w')(hs:∀ q,a=some q->¬ S q.block):Ow P w' base T k a l c xs:=by
 obtain⟨e,he,h1,h2⟩:=h;refine⟨e,he,h1,?_⟩;rcases h2 with hn|⟨g,cap,GT,hv,hb,hg,rest⟩
 ·exact .inl hn
 ·refine .inr ⟨g,cap,GT,hv,hb,?_,rest⟩;simp at hv;exact m.keep hg (hs _ hv.1)
theorem Ow.mono{base base' k l c:Nat}{T:TypeId}{a:Option Addr}{xs:List Value}(h:Ow P w base T k a l c xs)(hb:base'<=base):Ow P w base' T k a l c xs:=by
 obtain⟨e,he,h1,h2⟩:=h;refine⟨e,he,h1,?_⟩;rcases h2 with hn|⟨g,cap,GT,hv,hb',rest⟩
 ·exact .inl hn
 ·exact .inr ⟨g,cap,GT,hv,by omega,rest⟩
theorem Ow.rowU{base k l c:Nat}{T:TypeId}{a:Option Addr}{xs:List Value}(h:Ow P w base T k a l c xs):AcW w a xs:=by
 obtain⟨e,he,h1,h2⟩:=h;rcases h2 with ⟨hn,hz⟩|⟨g,cap,GT,hv,hb,hg,hle,_,hsz,ht⟩
 ·left;exact fE (by rw[h1,hz];omega)
 ·right;simp at hv;have hm:l*k<=cap*k:=mI _ hle;refine⟨g,0,hv.1,GT.toList,e,(0,0),hg,?_,?_,fun j _ _=>by simp⟩
  ·rw[h1];simp[hsz];exact hm
  ·rw[h1];simpa using ht
theorem AcW.row{a:Option Addr}{xs:List Value}(h:AcW w a xs):Bl w a xs:=by
 rcases h with h|⟨b,o,e,h⟩
 ·exact .inl h
 ·exact .inr ⟨b,o,e,h.at⟩
theorem Bl.keep{a:Option Addr}{xs:List Value}{S:Nat->Prop}{w':World}(h:Bl w a xs)(m:Ab S w w')(hs:∀ q,a=some q->¬ S q.block):Bl w' a xs:=by
 rcases h with h|⟨b,o,e,h⟩
 ·exact .inl h
 ·exact .inr ⟨b,o,e,h.keep m (hs _ e)⟩
theorem Bl.nos{a:Option Addr}{xs:List Value}{w':World}(h:Bl w a xs)(m:Ab No w w'):Bl w' a xs:=h.keep m fun _ _=>id
theorem Ow.nos{base k l c:Nat}{T:TypeId}{a:Option Addr}{xs:List Value}{w':World}(h:Ow P w base T k a l c xs)(m:Ab No w w'):Ow P w' base T k a l c xs:=h.keep m fun _ _=>id
theorem At.cell{b o j:Nat}{xs:List Value}{v:Value}(h:At w b o xs)(hj:xs[j]?=some v):w.cell? (Addr.add ⟨b,o,none⟩ j)=some v:=by
 obtain⟨l,t,fz,h1,h2,h3⟩:=h;have hjn:j<xs.length:=(Lh.1 hj).1;rw[Ad,NW h1,F0 h3 j hjn,<- hj];simp[hjn]
theorem Ow.append{base k bytes l c m c2:Nat}{T ty:TypeId}{z:Value}{a a2:Option Addr}{xs ys:List Value}(hT:D5 P T k z bytes)(hk:0<k)(h:Ow P w base T k a l c xs)
  (hr:Bl w a2 ys) (hl:ys.length=m*k) (h0:a2=none->m=0/\c2=0) (h1:∀ v∈ys,v.oneCell'=true) (h63:(l+m)*bytes<=140737488355328) (hb:0<bytes) (hbase:base<=w.heap.size) :
  ∃ a' c' w',(Builtin.append_ #[T,T] ty #[.slice a l c,.slice a2 m c2]).run P w=.ok (.slice a' (l+m) c') w'/\Ow P w' base T k a' (l+m) c' (xs++ys)/\Ab (fun x=>base<=x) w w':=by
 obtain⟨e,i,zv,he,hi,hsz,hz,hzc,hby⟩:=hT.is;obtain⟨e',he',how⟩:=h;have:e'=e:=by rw[he]at he';simpa using he'.symm
 subst this;have h63':l+m<=maxLen:=by
  have:l+m<=(l+m)*bytes:=Lf3 _ hb;simp[maxLen];omega
 cases a2 with
 | none =>
  obtain⟨rfl,rfl⟩:=h0 rfl;have hy:ys=[]:=fE (by omega);subst hy;refine⟨a,c,w,?_,⟨e',he,by simpa using how⟩,Ab.refl _ _⟩;exact run_append_owned_none w base T ty e' i k he hi _ l xs how
 | some ad =>
  have hcell:∀ j u,ys[j]?=some u->w.cell? (ad.add j)=some u:=by
   intro j u hj;rcases hr with hr | ⟨b,o,e,hat⟩
   ·subst hr;simp at hj
   ·simp at e;subst e;exact hat.cell hj
  obtain⟨v',w',hrun,how',hgr,_⟩:=run_append_own w base T ty e' i zv k bytes he hi hz hsz hby (by rw[hzc];simp) hk (.slice a l c) l xs how ad m c2 ys hl hcell h1 h63' h63 hbase;have hv:∃ a' c',v'=.slice a' (l+m) c':=by
   rcases how'.2 with ⟨hn,hz⟩|⟨g,cap,GT,hv,_⟩
   ·exact⟨none,0,by rw[hn,hz]⟩
   ·exact⟨_,cap,hv⟩
  obtain⟨a',c',rfl⟩:=hv;refine⟨a',c',w',hrun,⟨e',he,how'⟩,(Ab.grown hgr).mono fun x hx e=>?_⟩;exact(how.lt x e).1
theorem Ow.append'{base k bytes l c m c2:Nat}{T ty:TypeId}{z:Value}{a a2:Option Addr}{xs ys:List Value}(hT:D5 P T k z bytes)(hk:0<k)(h:Ow P w base T k a l c xs)
  (hr:Bl w a2 ys) (hl:ys.length=m*k) (h0:a2≠none) (h1:∀ v∈ys,v.oneCell'=true) (h63:(l+m)*bytes<=140737488355328) (hb:0<bytes) (hbase:base<=w.heap.size) :
  ∃ a' c' w',(Builtin.append_ #[T,T] ty #[.slice a l c,.slice a2 m c2]).run P w=.ok (.slice a' (l+m) c') w'/\Ow P w' base T k a' (l+m) c' (xs++ys)/\Ab (fun x=>∃ q,a=some q/\x=q.block) w w':=by
 obtain⟨e,i,zv,he,hi,hsz,hz,hzc,hby⟩:=hT.is;obtain⟨e',he',how⟩:=h;have:e'=e:=by rw[he]at he';simpa using he'.symm
 subst this;have h63':l+m<=maxLen:=by
  have:l+m<=(l+m)*bytes:=Lf3 _ hb;simp[maxLen];omega
 cases a2 with
 | none=>exact absurd rfl h0
 | some ad =>
  have hcell:∀ j u,ys[j]?=some u->w.cell? (ad.add j)=some u:=by
   intro j u hj;rcases hr with hr | ⟨b,o,e,hat⟩
   ·subst hr;simp at hj
   ·simp at e;subst e;exact hat.cell hj
  obtain⟨v',w',hrun,how',hgr,_⟩:=run_append_own w base T ty e' i zv k bytes he hi hz hsz hby (by rw[hzc];simp) hk (.slice a l c) l xs how ad m c2 ys hl hcell h1 h63' h63 hbase;have hv:∃ a' c',v'=.slice a' (l+m) c':=by
   rcases how'.2 with ⟨hn,hz⟩|⟨g,cap,GT,hv,_⟩
   ·exact⟨none,0,by rw[hn,hz]⟩
   ·exact⟨_,cap,hv⟩
  obtain⟨a',c',rfl⟩:=hv;refine⟨a',c',w',hrun,⟨e',he,how'⟩,(Ab.grown hgr).mono fun x hx e=>?_⟩;cases a with
  | none=>cases e
  | some q=>exact⟨q,rfl,by simpa [Value.ownBlock] using e.symm⟩
theorem tT{base k bytes n:Nat}{T:TypeId}{z:Value}(hT:D5 P T k z bytes)(hb:bytes*n<=281474976710656)(h63:n<=maxLen)(hbase:base<=w.heap.size) :
  ∃ w',(Instr.makeSlice T (.int .i64 0) (.int .i64 n)).run P w=.ok (.slice (some ⟨w.heap.size,0,none⟩) 0 n) w'/\Ow P w' base T k (some ⟨w.heap.size,0,none⟩) 0 n []/\Ab No w w':=by
 obtain⟨e,i,zv,he,hi,hsz,hz,hzc,hby⟩:=hT.is;obtain⟨w',h1,h2,h3⟩:=run_make_own (P:=P) (w:=w) base T e i zv k he hi hz hsz .i64 .i64 n (by rw[hby];exact hb) h63 hbase;exact⟨w',h1,⟨e,he,h2⟩,(Ab.grown h3).mono fun x _ e=>by cases e⟩
theorem Vy:∀(xs:List UInt8)(r:List UInt8),(xs.map fun x=>(x.toNat:Int)).foldl (fun r n=>r.push (UInt8.ofNat n.toNat)) (⟨r.toArray⟩:ByteArray)=⟨(r++xs).toArray⟩
 | [],r=>by simp
 | x::xs,r=>by
  have:=Vy xs (r++[x])
  simp only[Wu,List.foldl_cons];have e:ByteArray.push (⟨r.toArray⟩:ByteArray) (UInt8.ofNat ((x.toNat:Int)).toNat)=⟨(r++[x]).toArray⟩:=by
   simp[ByteArray.push]
  rw[e,this];simp
def fX(P:Program)(S T:TypeId):Bool :=
 match P.underlying S with
 | some (.slice e)=>match P.underlying e with
  | some (.int .u8)=>match P.underlying T with | some .string=>true | _=>false
  | _=>false
 | _=>false
theorem GL{S T:TypeId}{a:Option Addr}{l c:Nat}{xs:List UInt8}(hT:fX P S T=true)(hr:Bl w a (Au xs))(hl:xs.length=l):(convert S T (.slice a l c)).run P w=.ok (.string ⟨xs.toArray⟩) w:=by
 have hT':∃ e,P.underlying S=some (.slice e)/\P.underlying e=some (.int .u8)/\P.underlying T=some .string:=by
  unfold fX at hT
  split at hT
  ·rename_i e he
   split at hT
   ·rename_i h1
    split at hT
    ·rename_i h2;exact⟨e,he,h1,h2⟩
    ·cases hT
   ·cases hT
  ·cases hT
 obtain⟨e,h1,h2,h3⟩:=hT';rw[run_convert_bytes_string w S T e a l c h1 h2 h3];have hmap:Au xs=(xs.map fun x=>(x.toNat:Int)).map (Value.int .u8):=by simp[Au,u8]
 cases a with
 | none =>
  rcases hr with hr|⟨b,o,e,_⟩
  ·have:xs=[]:=by simpa [Au] using hr
   subst this;rfl
  ·cases e
 | some ad =>
  have hload:(loadCells ad l).run P w=.ok ((xs.map fun x=>(x.toNat:Int)).map (Value.int .u8)).toArray w:=by
   rcases hr with hr|⟨b,o,e,hat⟩
   ·have:xs=[]:=by simpa [Au] using hr
    subst this;subst hl;rfl
   ·simp at e;subst e
    have:=hat.cells (P:=P) (n:=l) (by simp;omega)
    rw[this,<- hmap]
    congr 1
    have:(Au xs).take l=Au xs:=Lg (by simp;omega);rw[this]
  rw[run_bytesToString w ad l c _ hload]
  have:=Vy xs []
  simp only[QN]at this;rw[<- this];rfl
end
end Go.Den
end
section
open Go Go.Den Go.Proofs
namespace Go.Den
def nI(x:List Value)(i:Nat):Int:=match Ap x i with | .int _ n=>n | _=>0
theorem vS{P:Program}{T:TypeId}{x y:Operand}{a b:Int}(hb:0<=b)(w:World):(Gp .shl T x y (.int .u64 a) (.int .u64 b)).run P w=.ok (.int .u64 (IntKind.u64.wrap (a*2 ^ (min b.toNat 64)))) w:=by
 rw[DE (fun w=>Gg _ _ _ _ _ _ _ _ w)];have:¬ b<0:=by omega
 simp[binOp,Op.shift,this,IntKind.bits]
theorem vU{P:Program}{T:TypeId}{x y:Operand}{a b:Int}(hb:0<=b)(w:World):(Gp .shr T x y (.int .u64 a) (.int .u64 b)).run P w=.ok (.int .u64 (a.fdiv (2 ^ (min b.toNat 64)))) w:=by
 rw[DE (fun w=>Gg _ _ _ _ _ _ _ _ w)];have:¬ b<0:=by omega
 simp[binOp,Op.shift,this,IntKind.bits]
section
variable{P:Program}{w:World}
theorem Ow.sm{base k l c:Nat}{T:TypeId}{a:Option Addr}{xs:List Value}(h:Ow P w base T k a l c xs)(hl:0<l):∃ g,a=some ⟨g,0,none⟩/\base<=g/\A1 w g 0 xs:=by
 obtain⟨e,he,h1,h2⟩:=h;rcases h2 with ⟨hn,hz⟩|⟨g,cap,GT,hv,hb,hg,hle,_,hsz,ht⟩
 ·omega
 ·simp at hv;have hm:l*k<=cap*k:=mI _ hle;refine⟨g,hv.1,hb,GT.toList,e,(0,0),hg,?_,?_,fun j _ _=>by simp⟩
  ·rw[h1];simp[hsz];exact hm
  ·rw[h1];simpa using ht
theorem Ow.snoc{base k bytes l c:Nat}{T ty:TypeId}{t:TypeId}{z:Value}{a:Option Addr}{xs ys:List Value}(hT:D5 P T k z bytes)(hk:0<k)(h:Ow P w base T k a l c xs)
  (hl:ys.length=k) (h1:∀ v∈ys,v.oneCell'=true) (h63:(l+1)*bytes<=140737488355328) (hb:0<bytes) (hbase:base<=w.heap.size) :
  ∃ a' c' w',(Builtin.append_ #[T,T] ty #[.slice a l c,.slice (some ⟨w.heap.size,0,none⟩) 1 1]).run P (w.alloc (.cells ⟨ys⟩ t))=.ok (.slice a' (l+1) c') w'/\Ow P w' base T k a' (l+1) c' (xs++ys)/\Ab (fun x=>base<=x) w w':=by
 have hm:Ab No w (w.alloc (.cells ⟨ys⟩ t)):=(Ab.refl No w).alloc _;obtain⟨a',c',w',h2,h3,h4⟩:=(h.nos hm).append (ty:=ty) hT hk (a2:=some ⟨w.heap.size,0,none⟩) (m:=1) (c2:=1) (ys:=ys) (.inr ⟨_,_,rfl,A1.new.at⟩) (by omega) (fun e=>by cases e) h1 h63 hb (Up hbase hm.size);exact⟨a',c',w',h2,h3,(hm.mono fun _ _ h=>h.elim).trans h4 fun _ _ h=>h⟩
theorem Ab.up{base:Nat}{a b c:World}(h:Ab No a b)(m:Ab (fun x=>base<=x) b c)(hb:a.heap.size<=base):Ab No a c:=h.trans m fun x hx e=>by omega
theorem EM(xs ys:List UInt8):Au (xs++ys)=Au xs++Au ys:=by simp[Au]
end
end Go.Den
namespace Go.Z
theorem Y6(w:World)(v:Int):(Instr.buildSlice 88 1 #[(0,.int .u8 v)]).run Tryz.prog w=.ok (.slice (some ⟨w.heap.size,0,none⟩) 1 1) (w.alloc (.cells ⟨[.int .u8 v]⟩ 5)):=by kernel_rfl
theorem Vb(w:World)(v:Int):(Instr.buildSlice 80 1 #[(0,.int .i64 v)]).run Tryz.prog w=.ok (.slice (some ⟨w.heap.size,0,none⟩) 1 1) (w.alloc (.cells ⟨[.int .i64 v]⟩ 3)):=by kernel_rfl
def a5:List UInt8:=[165,165,165,165,165,165,165,165]
theorem Ac8(w:World):(Instr.buildSlice 88 8 #[(0,.int .u8 165),(1,.int .u8 165),(2,.int .u8 165),(3,.int .u8 165),(4,.int .u8 165),(5,.int .u8 165),(6,.int .u8 165),(7,.int .u8 165)]).run Tryz.prog w=.ok (.slice (some ⟨w.heap.size,0,none⟩) 8 8) (w.alloc (.cells ⟨Au a5⟩ 5)):=by kernel_rfl
theorem vD{a:Option Addr}{l c:Nat}{xs:List UInt8}{w:World}{K:Value->World->Prop}(hl:xs.length=l)(hr:Bl w a (Au xs))(h63:l<=9223372036854775807)
  (h:K (.int .u64 (BW (xs.take 8):Int)) w):A8 Tryz.prog Ai #[.slice a l c] w K:=by
 apply Sh;unfold K3;refine⟨fun x w1=>w1=w/\∃(i:Nat)(y:Value),i<=8/\i<=l/\x=[.int .u64 (BW (xs.take i):Int),.int .i64 i,y],fun x _=>(8-nI x 1).toNat,⟨rfl,0,_,by omega,by omega,rfl⟩,?_⟩;rintro x w1 ⟨rfl,i,y,hi8,hil,rfl⟩;refine Ac.cut (fun z w'=>z=[.bool (decide (i<l/\i<8))]/\w'=w1) ⟨_,rfl,Aa (fun hb=>?_) (fun hb=>?_)⟩ ?_
 ·have hb:=Lc hb;refine⟨?_,rfl⟩
  congr 2;rw[Lu];simp only[Lw];omega
 ·have hb:=Lb hb;refine⟨?_,rfl⟩
  congr 2;rw[Lu];simp only[Lw];simp;omega
 rintro z w' ⟨rfl,rfl⟩;refine⟨_,rfl,Aa (fun hb=>?_) (fun hb=>?_)⟩
 ·have hi:=Lc hb;have hix:i<xs.length:=by omega
  obtain⟨b,o,rfl,hat⟩:=hr.resolve_left (by intro e;have:=Pi List.length e;simp at this;rw[this]at hix;simp at hix);have hx:=xs[i].toNat_lt;have hlt:BW (xs.take i)<256 ^ i:=by have:=VB (xs.take i);rwa [List.length_take_of_le (by omega)]at this
  have hp:=XJ hi.2;have hpi:256 ^ i*xs[i].toNat+256 ^ i<=256 ^ (i+1):=by rw[Lo4,<- Nat.mul_succ];exact Nat.mul_le_mul_left _ (by omega)
  refine⟨_,rfl,_,rfl,_,Ar (k:=1) (by kernel_rfl) (by omega) (by omega),?_⟩;rw[Ad,show(i:Int).toNat*1=i by omega];refine⟨_,hat.load (by kernel_rfl) (CP hix),?_⟩;rw[El (x:=(xs[i].toNat:Int)) (by omega) (by omega),Ag (x:=8*(i:Int)) (by omega) (by omega),El (x:=8*(i:Int)) (by omega) (by omega)];refine⟨_,vS (by omega),?_⟩;have e1:((xs[i].toNat:Int)*2 ^ (min (8*(i:Int)).toNat 64))=((xs[i].toNat*256 ^ i:Nat):Int):=by
   rw[show min (8*(i:Int)).toNat 64=8*i by omega];have:(256:Nat) ^ i=2 ^ (8*i):=by rw[Nat.pow_mul]
   rw[this];push_cast;rfl
  have hmul:xs[i].toNat*256 ^ i=256 ^ i*xs[i].toNat:=Lu5 _ _
  rw[e1,El (x:=((xs[i].toNat*256 ^ i:Nat):Int)) (by omega) (by omega),uL (by omega) (by omega),uK hlt,<- Rr xs i hix,
   El (x:=((BW (xs.take (i+1)):Nat):Int)) (by omega) (by rw[Rr xs i hix];omega),Ag (x:=(i:Int)+1) (by omega) (by omega)]
  exact⟨⟨rfl,i+1,_,by omega,by omega,rfl⟩,by simp[nI,Ap];omega⟩
 ·have hb:=Lb hb;refine⟨_,rfl,?_⟩;have e:xs.take i=xs.take 8:=by
   by_cases h8:i=8
   ·rw[h8]
   ·rw[Lg (by omega),Lg (by omega)]
  rw[e];exact h
theorem vT(n:Nat){i:Nat}(h8:i<8):IntKind.u8.wrap ((n:Int).fdiv (2 ^ (min (8*(i:Int)).toNat 64)))=((n / 256 ^ i % 256:Nat):Int):=by
 rw[show min (8*(i:Int)).toNat 64=8*i by omega,Ko,Int.fdiv_eq_ediv_of_nonneg _ (Int.le_of_lt (Int.pow_pos (by omega)))];have:(256:Nat) ^ i=2 ^ (8*i):=by rw[Nat.pow_mul]
 rw[this,Int.natCast_emod,Int.natCast_ediv,Int.natCast_pow];rfl
theorem oK{n i:Nat}(hn:n<18446744073709551616)(h8:¬ i<8):(0:Int)=((n / 256 ^ i % 256:Nat):Int):=by
 have h1:256 ^ 8<=256 ^ i:=Ld3 (by omega) (by omega);have h2:(256:Nat) ^ 8=18446744073709551616:=by decide
 rw[Nat.div_eq_of_lt (by rw[h2]at h1;exact jJ hn h1)];rfl
theorem nG{v:Int}{q:Nat}(hv:v=((q % 256:Nat):Int)):[Value.int .u8 v]=Au [UInt8.ofNat (q % 256)]:=by
 simp only[Au,u8,Wu,List.map_nil];rw[dM,hv];rfl
theorem jD{n l:Nat}{w:World}{K:Value->World->Prop}(hn:n<18446744073709551616)(hl:l<=1048576)
  (h:∀ w' a c,Ab No w w'->Ow Tryz.prog w' w.heap.size 88 1 a l c (Au (Bg l n))->K (.slice a l c) w'):A8 Tryz.prog A2 #[.int .u64 n,.int .i64 l] w K:=by
 apply P9;unfold IR
 refine⟨fun x w1=>∃(i:Nat)(a:Option Addr)(c:Nat),i<=l/\x=[.slice a i c,.int .i64 i]/\Ow Tryz.prog w1 w.heap.size 88 1 a i c (Au (Bg i n))/\Ab No w w1,fun x _=>(l-nI x 1).toNat,
  ⟨0,none,0,by omega,rfl,Ow.nil AE,Ab.refl _ _⟩,?_⟩
 rintro x w1 ⟨i,a,c,hi,rfl,how,hm⟩;refine⟨_,rfl,Aa (fun hb=>?_) (fun hb=>?_)⟩
 ·have hi:i<l:=by have:=Lc hb;omega
  have step:∀ v:Int,v=((n / 256 ^ i % 256:Nat):Int)->∃ a' c' w',(Builtin.append_ #[88,88] 88 #[.slice a i c,.slice (some ⟨w1.heap.size,0,none⟩) 1 1]).run Tryz.prog (w1.alloc (.cells ⟨[.int .u8 v]⟩ 5))=.ok (.slice a' (i+1) c') w' /\
    Ow Tryz.prog w' w.heap.size 88 1 a' (i+1) c' (Au (Bg (i+1) n))/\Ab No w w':=by
   intro v hv';obtain⟨a',c',w',h1,h2,h3⟩:=how.snoc (ty:=88) (t:=5) (ys:=[.int .u8 v]) AE (by omega) rfl (by simp;rfl) (by omega) (by omega) hm.size;rw[nG hv',<- EM,<- SU]at h2;exact⟨a',c',w',h1,h2,hm.up h3 (Ld _)⟩
  refine Ac.cut (fun z w'=>∃ a' c',z=[.slice a' (i+1) c']/\Ow Tryz.prog w' w.heap.size 88 1 a' (i+1) c' (Au (Bg (i+1) n))/\Ab No w w') (Aa (fun hb=>?_) (fun hb=>?_)) ?_
  ·have h8:i<8:=by have:=Lc hb;omega
   refine⟨_,_,_,rfl,?_⟩;rw[Ag (x:=8*(i:Int)) (by omega) (by omega),El (x:=8*(i:Int)) (by omega) (by omega)];refine⟨_,vU (by omega),_,_,_,_,Y6 _ _,?_⟩;have ev:=vT n h8;obtain⟨a',c',w',h1,h2,h3⟩:=step _ ev;exact⟨_,_,_,w',h1,_,_,rfl,h2,h3⟩
  ·have h8:¬ i<8:=by have:=Lb hb;omega
   refine⟨_,_,_,rfl,_,_,_,_,Y6 _ _,?_⟩;have ev:=oK hn h8;obtain⟨a',c',w',h1,h2,h3⟩:=step _ ev;exact⟨_,_,_,w',h1,_,_,rfl,h2,h3⟩
  ·rintro z w' ⟨a',c',rfl,h2,h3⟩;rw[Ag (x:=(i:Int)+1) (by omega) (by omega)];exact⟨⟨i+1,a',c',by omega,by simp[Ap],h2,h3⟩,by simp[nI,Ap];omega⟩
 ·have hi2:i=l:=by have:=Lb hb;omega
  subst hi2;exact⟨_,_,_,rfl,h w1 a c hm how⟩
def fF(w:World)(b l c:Nat)(xs:List UInt8):Prop:=l=xs.length/\l+8<=c/\A1 w b 0 (Au (xs++a5))
theorem fF.row{w:World}{b l c:Nat}{xs:List UInt8}(h:fF w b l c xs):Bl w (some ⟨b,0,none⟩) (Au xs):=by
 obtain⟨h1,h2,h3⟩:=h;refine .inr ⟨b,0,rfl,?_⟩
 have:=h3.at.sub (i:=0) (m:=xs.length) (by simp)
 simpa [Au] using this
theorem qQ{a:Option Addr}{l c:Nat}{xs:List UInt8}{w:World}{K:Value->World->Prop}(hl:xs.length=l)(hr:Bl w a (Au xs))(h0:a=none->l=0/\c=0)(h63:l<=1048576)
  (h:∀ w' b cap,w.heap.size<=b->Ab No w w'->fF w' b l cap xs->K (.slice (some ⟨b,0,none⟩) l cap) w'):A8 Tryz.prog AT #[.slice a l c] w K:=by
 apply Qu;unfold J7;rw[Ag (x:=(l:Int)+8) (by omega) (by omega)];obtain⟨w1,h1,o1,m1⟩:=tT (P:=Tryz.prog) (w:=w) (base:=w.heap.size) (n:=l+8) AE (by omega) (by simp[maxLen];omega) (Ld _);refine⟨_,_,_,w1,h1,?_⟩;obtain⟨a2,c2,w2,h2,o2,m2⟩:=o1.append (ty:=88) AE (by omega) (hr.nos m1) (m:=l) (c2:=c) (by simp[hl]) h0 (BF xs) (by omega) (by omega) m1.size
 have m2':=m1.up m2 (Ld _);refine⟨_,_,_,w2,h2,_,_,_,_,Ac8 w2,?_⟩;have m3:Ab No w2 (w2.alloc (.cells ⟨Au a5⟩ 5)):=(Ab.refl No w2).alloc _;obtain⟨a4,c4,w4,h4,o4,m4⟩:=(o2.nos m3).append (ty:=88) AE (by omega) (a2:=some ⟨w2.heap.size,0,none⟩) (m:=8) (c2:=8) (ys:=Au a5) (.inr ⟨_,_,rfl,A1.new.at⟩) rfl (fun e=>by cases e) (BF a5) (by omega) (by omega) (Up m2'.size m3.size)
 refine⟨_,_,_,w4,h4,?_⟩;obtain⟨g,rfl,hg1,hg2⟩:=o4.sm (by omega);have hcap:=o4.cap;refine⟨_,_,_,H4 (k:=1) (by kernel_rfl) (by omega) (by omega),?_⟩;have hcut:Cb (some ⟨g,0,none⟩) c4 0 1=some ⟨g,0,none⟩:=by
  unfold Cb;rw[if_neg (by omega)];simp[Ad]
 rw[hcut,Lr];refine h w4 g c4 hg1 ((m2'.no m3).up m4 (Ld _)) ⟨hl.symm,by omega,?_⟩;rw[EM];simpa using hg2
end Go.Z
end
section
namespace Go.Den
def MB(s:Nat):Nat:=(s / 2) ^^^ (if s % 2=1 then 3988292384 else 0)
def AP:Nat->Nat->Nat
 | 0,s=>s
 | n+1,s=>AP n (MB s)
def XU(s:Nat)(c:UInt8):Nat:=AP 8 (s ^^^ c.toNat)
def E1(xs:List UInt8)(s:Nat):Nat:=xs.foldl XU s
def Zs(xs:List UInt8):Nat:=E1 xs 4294967295 ^^^ 4294967295
theorem NE:∀(n s:Nat),AP (n+1) s=MB (AP n s)
 | 0,_=>rfl
 | n+1,s=>by rw[AP,NE n];rfl
theorem VW:∀(m n s:Nat),AP (m+n) s=AP n (AP m s)
 | 0,n,s=>by rw[Pj];rfl
 | m+1,n,s=>by rw[show m+1+n=(m+n)+1 by omega,AP,VW m n];rfl
theorem wX(a b:Nat):(a ^^^ b) / 2=a / 2 ^^^ b / 2:=by
 have:=Nat.shiftRight_xor_distrib (a:=a) (b:=b) (i:=1)
 simpa [Nat.shiftRight_succ] using this
theorem wY(a b:Nat):(a ^^^ b) % 2=1↔¬ (a % 2=1↔b % 2=1):=by
 rw[Nat.xor_mod_two_eq_one]
theorem pN(a b:Nat):MB (a ^^^ b)=MB a ^^^ MB b:=by
 unfold MB;rw[wX];have h:=wY a b;by_cases ha:a % 2=1
 ·by_cases hb:b % 2=1
  ·rw[if_neg (by rw[h];simp[ha,hb]),if_pos ha,if_pos hb,xT];rw[Lm5,<- Lm5 3988292384,Nat.xor_comm 3988292384,Lm5,Nat.xor_self,xT]
  ·rw[if_pos (by rw[h];simp[ha,hb]),if_pos ha,if_neg hb,xT,Lm5,Lm5,Nat.xor_comm 3988292384]
 ·by_cases hb:b % 2=1
  ·rw[if_pos (by rw[h];simp[ha,hb]),if_neg ha,if_pos hb,xT,Lm5]
  ·rw[if_neg (by rw[h];simp[ha,hb]),if_neg ha,if_neg hb,xT,xT,xT]
theorem VX:∀(n a b:Nat),AP n (a ^^^ b)=AP n a ^^^ AP n b
 | 0,_,_=>rfl
 | n+1,a,b=>by rw[AP,AP,AP,pN,VX n]
theorem iN(m:Nat):MB (2*m)=m:=by
 unfold MB;rw[if_neg (by omega),xT];omega
theorem TH:∀(n m:Nat),AP n (2 ^ n*m)=m
 | 0,m=>by simp[AP]
 | n+1,m=>by rw[AP,Lo4,Lu5 (2 ^ n) 2,Nat.mul_assoc,iN,TH n m]
theorem Aa2(s:Nat):16*(s / 16) ^^^ (s % 16)=s:=by
 apply Lz3;intro i;rw[Nat.testBit_xor];have e:s=2 ^ 4*(s / 16)+s % 16:=by omega
 have hlt:s % 16<2 ^ 4:=by omega
 by_cases hi:i<4
 ·have h1:(16*(s / 16)).testBit i=false:=by
   rw[show 16*(s / 16)=2 ^ 4*(s / 16) by omega,Nat.testBit_two_pow_mul];simp;omega
  rw[h1,Bool.false_xor,show s % 16=s % 2 ^ 4 by rfl,Nat.testBit_mod_two_pow];simp[hi]
 ·have h2:(s % 16).testBit i=false:=Nat.testBit_lt_two_pow (jJ hlt (Ld3 (by omega) (by omega)));rw[h2,Bool.xor_false,show 16*(s / 16)=2 ^ 4*(s / 16) by omega,Nat.testBit_two_pow_mul];rw[show s / 16=s / 2 ^ 4 by rfl,Nat.testBit_div_two_pow,show i-4+4=i by omega,Le (show i >= 4 by omega),Ws]
theorem oI(s:Nat):s / 16 ^^^ AP 4 (s % 16)=AP 4 s:=by
 have h:=VX 4 (16*(s / 16)) (s % 16);rw[Aa2]at h;rw[h,show 16*(s / 16)=2 ^ 4*(s / 16) by omega,TH]
theorem vN{s:Nat}(h:s<4294967296):MB s<4294967296:=by
 unfold MB;refine Ly2 (n:=32) (by omega) ?_;split<;>omega
theorem IF:∀{n s:Nat},s<4294967296->AP n s<4294967296
 | 0,_,h=>h
 | n+1,s,h=>by rw[AP];exact IF (vN h)
theorem vM{s:Nat}{c:UInt8}(h:s<4294967296):XU s c<4294967296:=IF (Ly2 (n:=32) (by omega) (by have:=c.toNat_lt;omega))
theorem IC:∀{xs:List UInt8}{s:Nat},s<4294967296->E1 xs s<4294967296
 | [],_,h=>h
 | c::r,s,h=>by unfold E1;rw[List.foldl_cons];exact IC (xs:=r) (vM h)
theorem Vh(xs:List UInt8):Zs xs<4294967296:=Ly2 (n:=32) (IC (by omega)) (by omega)
theorem aM(xs:List UInt8)(c:UInt8)(s:Nat):E1 (xs++[c]) s=XU (E1 xs s) c:=by
 unfold E1;rw[Ld5];rfl
theorem Tz{xs:List UInt8}{i:Nat}(h:i<xs.length)(s:Nat):E1 (xs.take (i+1)) s=XU (E1 (xs.take i) s) xs[i]:=by
 rw[Ll h,aM]
theorem iK(s:Nat)(c:UInt8):XU s c=(let a:=s ^^^ c.toNat;let b:=a / 16 ^^^ AP 4 (a % 16);b / 16 ^^^ AP 4 (b % 16)):=by
 show _=_;simp only[oI];exact VW 4 4 _
end Go.Den
end
section
open Go Go.Den Go.Proofs
namespace Go.Z
theorem qE{a b:Nat}(ha:a<4294967296)(hb:b<4294967296):HI 32 (a:Int) (b:Int)=((a ^^^ b:Nat):Int):=by
 show(((_:BitVec 32).toNat:Nat):Int)=_;rw[dU,dU,BitVec.toNat_xor,dW,dW,dS ha,dS hb]
theorem WT{a b:Nat}(ha:a<4294967296)(hb:b<4294967296):JT 32 (a:Int) (b:Int)=((a &&& b:Nat):Int):=by
 show(((_:BitVec 32).toNat:Nat):Int)=_;rw[dU,dU,BitVec.toNat_and,dW,dW,dS ha,dS hb]
theorem O1{x:Int}(h0:0<=x)(h1:x<=4294967295):IntKind.u32.wrap x=x:=by
 simp only[IntKind.wrap,IntKind.bits,IntKind.signed]at *;simp at *;omega
theorem Zo{a b:Nat}(ha:a<4294967296)(hb:b<4294967296):IntKind.u32.wrap (HI 32 (a:Int) (b:Int))=((a ^^^ b:Nat):Int):=by
 have h:=Ly2 (n:=32) ha hb;rw[qE ha hb,O1 (by omega) (by omega)]
theorem AfY(a:Nat):a &&& 1=a % 2:=Nat.and_one_is_mod a
theorem AhU(a:Nat):a &&& 15=a % 16:=Nat.and_two_pow_sub_one_eq_mod a 4
theorem AcG{a:Nat}(ha:a<4294967296):IntKind.u32.wrap (JT 32 (a:Int) 1)=((a % 2:Nat):Int):=by
 have:=WT (b:=1) ha (by omega)
 rw[AfY]at this;rw[show((1:Nat):Int)=1 from rfl]at this;rw[this,O1 (by omega) (by omega)]
theorem AcH{a:Nat}(ha:a<4294967296):IntKind.u32.wrap (JT 32 (a:Int) 15)=((a % 16:Nat):Int):=by
 have:=WT (b:=15) ha (by omega)
 rw[AhU]at this;rw[show((15:Nat):Int)=15 from rfl]at this;rw[this,O1 (by omega) (by omega)]
theorem sH(a:Nat)(k:Nat):Int.fdiv (a:Int) (k:Int)=((a / k:Nat):Int):=by
 rw[Int.fdiv_eq_ediv_of_nonneg _ (by omega)];exact(Int.natCast_ediv _ _).symm
theorem sG(a:Nat):Int.fdiv (a:Int) 2=((a / 2:Nat):Int):=sH a 2
theorem kA(a:Nat):Int.fdiv (a:Int) 16=((a / 16:Nat):Int):=sH a 16
def Rm(i:Nat):List Value:=(List.range 16).map fun k=>.int .u32 (if k<i then(AP 4 k:Int)else 0)
theorem Xw(i:Nat):(Rm i).length=16:=by simp[Rm]
theorem SF{i k:Nat}(hk:k<i)(h16:k<16):(Rm i)[k]?=some (.int .u32 (AP 4 k:Int)):=by
 simp[Rm,h16,hk]
theorem oH{i:Nat}(hi:i<16):(Rm i).set i (.int .u32 (AP 4 i:Int))=Rm (i+1):=by
 apply mM;intro k;by_cases hk:i=k
 ·subst hk;rw[Zp (by rw[Xw];exact hi),SF (by omega) hi]
 ·rw[ZK hk];unfold Rm;by_cases h16:k<16
  ·simp only[jK,List.getElem?_range h16,La4]
   congr 3
   exact propext ⟨fun _=>by omega,fun _=>by omega⟩
  ·rw[xR (by simp;omega),xR (by simp;omega)]
theorem Mi{w:World}{a:Option Addr}{xs:List UInt8}(hr:Bl w a (Au xs)){i:Nat}(hi:i<xs.length):∃ b o,a=some ⟨b,o,none⟩/\At w b o (Au xs) :=
 hr.resolve_left (by intro e;have:=Pi List.length e;simp at this;rw[this]at hi;simp at hi)
section
variable{w:World}{K:Value->World->Prop}
theorem uB{a:Option Addr}{l c:Nat}{xs:List UInt8}(hl:xs.length=l)(hr:Bl w a (Au xs))(h63:l<=9223372036854775807)
  (hk:∀ w',Ab No w w'->K (.int .u32 (Zs xs:Int)) w'):A8 Tryz.prog NO #[.slice a l c] w K:=by
 apply mG;unfold WM;obtain⟨w1,n1,n2,n3,n4⟩:=A9 (P:=Tryz.prog) (w:=w) (T:=318) (cs:=Rm 0) (by kernel_rfl);have hA:PR Tryz.prog 318=some (16,1):=by kernel_rfl
 have hS:DQ Tryz.prog 283=true:=by kernel_rfl
 refine⟨_,w1,n1,?_⟩;refine⟨fun x w2=>∃(i:Nat)(y z:Value),i<=16/\x=[y,.int .i64 i,z]/\A1 w2 w.heap.size 0 (Rm i)/\Ab No w w2,fun x _=>(16-nI x 1).toNat,⟨0,_,_,by omega,rfl,n2,n3⟩,?_⟩;rintro x w2 ⟨i,y,z,hi,rfl,hat,hm⟩;refine⟨_,rfl,Aa (fun hb=>?_) (fun hb=>?_)⟩
 ·have hb:=Lc hb;have hi16:i<16:=by omega
  rw[O1 (x:=(i:Int)) (by omega) (by omega)];refine⟨fun x w3=>∃ j:Nat,j<=4/\x=[.int .u32 (AP j i:Int),.int .i64 j]/\w3=w2,fun x _=>(4-nI x 1).toNat,⟨0,by omega,rfl,rfl⟩,?_⟩;rintro x w3 ⟨j,hj,rfl,rfl⟩;refine⟨_,rfl,Aa (fun hb=>?_) (fun hb=>?_)⟩
  ·have hb:=Lc hb;have hs:AP j i<4294967296:=IF (by omega);refine⟨_,rfl,?_⟩;have e:IntKind.u32.wrap (HI 32 (Int.fdiv (AP j i:Int) 2) (IntKind.u32.wrap (3988292384*(IntKind.u32.wrap (JT 32 (AP j i:Int) 1)))))=(AP (j+1) i:Int):=by
    rw[AcG hs,sG,NE];unfold MB;by_cases h2:AP j i % 2=1
    ·rw[h2,if_pos rfl];exact Zo (b:=3988292384) (by omega) (by omega)
    ·rw[show AP j i % 2=0 by omega,if_neg (by omega)];exact Zo (b:=0) (by omega) (by omega)
   rw[e,Ag (x:=(j:Int)+1) (by omega) (by omega)];exact⟨⟨j+1,by omega,by simp,rfl⟩,by simp[nI,Ap];omega⟩
  ·have hb:=Lb hb;have hj4:j=4:=by omega
   subst hj4;refine⟨_,rfl,_,B5 hA (by omega) (by omega),?_⟩;rw[Ad,show(i:Int).toNat*1=i by omega];obtain⟨w4,p1,p2,p3,p4⟩:=hat.store (P:=Tryz.prog) (T:=283) (i:=i) (v:=.int .u32 (AP 4 i:Int)) hS (by rw[Xw];exact hi16) rfl;refine⟨w4,p1,?_⟩;rw[oH hi16]at p2;rw[Ag (x:=(i:Int)+1) (by omega) (by omega)];exact⟨⟨i+1,.int .u32 (AP 4 i:Int),.int .i64 ((4:Nat):Int),by omega,by simp,p2,hm.own p3 (Ld _)⟩,by simp[nI,Ap];omega⟩
 ·have hb:=Lb hb;have hi16:i=16:=by omega
  subst hi16;have hr2:=hr.nos hm;refine⟨fun x w3=>∃ j:Nat,j<=l/\x=[.int .u32 (E1 (xs.take j) 4294967295:Int),.int .i64 j]/\w3=w2,fun x _=>(l-nI x 1).toNat,⟨0,by omega,rfl,rfl⟩,?_⟩;rintro x w3 ⟨j,hj,rfl,rfl⟩;refine⟨_,rfl,Aa (fun hb=>?_) (fun hb=>?_)⟩
  ·have hb:=Lc hb;have hjl:j<xs.length:=by omega
   obtain⟨b,o,rfl,hx⟩:=Mi hr2 hjl;have hs:E1 (xs.take j) 4294967295<4294967296:=IC (by omega);have hc:=xs[j].toNat_lt;refine⟨_,Ar (k:=1) (by kernel_rfl) (by omega) (by omega),(xs[j].toNat:Int),?_,_,rfl,?_⟩
   ·rw[Ad,show(j:Int).toNat*1=j by omega];exact hx.load (by kernel_rfl) (CP hjl)
   have key:=Tz hjl 4294967295;rw[iK]at key;generalize E1 (xs.take j) 4294967295=s at hs key |-;rw[O1 (x:=(xs[j].toNat:Int)) (by omega) (by omega),Zo hs (by omega)];have ha:s ^^^ xs[j].toNat<4294967296:=Ly2 (n:=32) hs (by omega);generalize s ^^^ xs[j].toNat=A at ha key |-;rw[AcH ha,kA];refine⟨_,B5 hA (by omega) (by omega),(AP 4 (A % 16):Int),?_,?_⟩
   ·rw[Ad,show((A % 16:Nat):Int).toNat*1=A % 16 by omega];exact hat.at.load (b:=w.heap.size) (o:=0) hS (SF (by omega) (by omega))
   have hs4:AP 4 (A % 16)<4294967296:=IF (by omega);rw[Zo (by omega) hs4];have hB:A / 16 ^^^ AP 4 (A % 16)<4294967296:=Ly2 (n:=32) (by omega) hs4;simp only at key;generalize A / 16 ^^^ AP 4 (A % 16)=B at hB key |-;rw[AcH hB,kA];refine⟨_,B5 hA (by omega) (by omega),(AP 4 (B % 16):Int),?_,?_⟩
   ·rw[Ad,show((B % 16:Nat):Int).toNat*1=B % 16 by omega];exact hat.at.load (b:=w.heap.size) (o:=0) hS (SF (by omega) (by omega))
   rw[Zo (by omega) (IF (by omega)),Ag (x:=(j:Int)+1) (by omega) (by omega)];exact⟨⟨j+1,by omega,by rw[key];simp,rfl⟩,by simp[nI,Ap];omega⟩
  ·have hb:=Lb hb;have hjl:j=l:=by omega
   subst hjl;have hs:E1 xs 4294967295<4294967296:=IC (by omega);have e:IntKind.u32.wrap (HI 32 4294967295 (E1 xs 4294967295:Int))=(Zs xs:Int):=by
    rw[show(4294967295:Int)=((4294967295:Nat):Int)from rfl,Zo (by omega) hs,Nat.xor_comm];rfl
   refine⟨_,rfl,(Zs xs:Int),fun w=>?_,hk _ hm⟩;rw[Lg (by omega),<- e];simp only[Op.unary,Op.intBits];rfl
theorem uX{a:Option Addr}{l c:Nat}{xs:List UInt8}(hl:xs.length=l)(hr:Bl w a (Au xs))(h63:l<=9223372036854775807)
  (hk:K (.int .u32 (Zs xs:Int)) w):A8 Tryz.prog EV #[.slice a l c] w K:=by
 apply Sj;unfold K5;refine⟨fun x w2=>∃(j:Nat)(z:Value),j<=l/\x=[.int .u32 (E1 (xs.take j) 4294967295:Int),.int .i64 j,z]/\w2=w,fun x _=>(l-nI x 1).toNat,⟨0,_,by omega,rfl,rfl⟩,?_⟩;rintro x w2 ⟨j,z,hj,rfl,rfl⟩;refine⟨_,rfl,Aa (fun hb=>?_) (fun hb=>?_)⟩
 ·have hb:=Lc hb;have hjl:j<xs.length:=by omega
  obtain⟨b,o,rfl,hx⟩:=Mi hr hjl;have hs:E1 (xs.take j) 4294967295<4294967296:=IC (by omega);have hc:=xs[j].toNat_lt;refine⟨_,rfl,_,Ar (k:=1) (by kernel_rfl) (by omega) (by omega),(xs[j].toNat:Int),?_,?_⟩
  ·rw[Ad,show(j:Int).toNat*1=j by omega];exact hx.load (by kernel_rfl) (CP hjl)
  have key:=Tz hjl 4294967295;unfold XU at key;generalize E1 (xs.take j) 4294967295=s at hs key |-;rw[O1 (x:=(xs[j].toNat:Int)) (by omega) (by omega),Zo hs (by omega)];have ha:s ^^^ xs[j].toNat<4294967296:=Ly2 (n:=32) hs (by omega);generalize s ^^^ xs[j].toNat=A at ha key |-;refine⟨fun x w3=>∃ k:Nat,k<=8/\x=[.int .u32 (AP k A:Int),.int .i64 k]/\w3=w2,fun x _=>(8-nI x 1).toNat,⟨0,by omega,rfl,rfl⟩,?_⟩
  rintro x w3 ⟨k,hk8,rfl,rfl⟩;have hs:AP k A<4294967296:=IF ha;refine⟨_,rfl,Aa (fun hb=>?_) (fun hb=>?_)⟩
  ·have hb:=Lc hb;refine⟨_,rfl,Ac.cut (fun z w4=>z=[.int .u32 (AP (k+1) A:Int)]/\w4=w3) ?_ ?_⟩
   ·rw[NE];unfold MB;rw[AcG hs,sG];by_cases h2:AP k A % 2=1
    ·refine tt (by rw[h2];rfl) ⟨?_,rfl⟩;rw[if_pos h2];have e:=Zo (a:=AP k A / 2) (b:=3988292384) (by omega) (by omega);rw[show((3988292384:Nat):Int)=3988292384 from rfl]at e;rw[e]
    ·refine ff (by rw[show AP k A % 2=0 by omega];rfl) ⟨?_,rfl⟩;rw[if_neg h2,xT]
   ·rintro z w4 ⟨rfl,rfl⟩;rw[Ag (x:=(k:Int)+1) (by omega) (by omega)];exact⟨⟨k+1,by omega,by simp[Ap],rfl⟩,by simp[nI,Ap];omega⟩
  ·have hb:=Lb hb;have hk8':k=8:=by omega
   subst hk8';rw[Ag (x:=(j:Int)+1) (by omega) (by omega)];exact⟨⟨j+1,.int .i64 ((8:Nat):Int),by omega,by rw[key];simp[Ap],rfl⟩,by simp[nI,Ap];omega⟩
 ·have hb:=Lb hb;have hjl:j=l:=by omega
  subst hjl;refine⟨_,rfl,?_⟩;rw[Lg (by omega)];have hs:E1 xs 4294967295<4294967296:=IC (by omega);have e:=Zo (a:=E1 xs 4294967295) (b:=4294967295) hs (by omega);rw[show((4294967295:Nat):Int)=4294967295 from rfl]at e;rw[e];exact hk
theorem kZ{a:Option Addr}{l c:Nat}{xs:List UInt8}(hl:xs.length=l)(hr:Bl w a (Au xs))(h63:l<=9223372036854775807)
  (hk:K (.bool (xs.all (·==0))) w):A8 Tryz.prog EE #[.slice a l c] w K:=by
 apply eX;unfold UJ;refine⟨fun x w2=>∃(j n:Nat),j<=l/\n<256/\(n=0↔(xs.take j).all (·==0)=true)/\x=[.int .u8 (n:Int),.int .i64 j]/\w2=w,fun x _=>(l-nI x 1).toNat,⟨0,0,by omega,by omega,by simp,rfl,rfl⟩,?_⟩;rintro x w2 ⟨j,n,hj,hn,hz,rfl,rfl⟩;refine⟨_,rfl,Aa (fun hb=>?_) (fun hb=>?_)⟩
 ·have hb:=Lc hb;have hjl:j<xs.length:=by omega
  obtain⟨b,o,rfl,hx⟩:=Mi hr hjl;have hc:=xs[j].toNat_lt;refine⟨_,Ar (k:=1) (by kernel_rfl) (by omega) (by omega),(xs[j].toNat:Int),?_,_,rfl,?_⟩
  ·rw[Ad,show(j:Int).toNat*1=j by omega];exact hx.load (by kernel_rfl) (CP hjl)
  have hor:n ||| xs[j].toNat<256:=xX (n:=8) hn (by omega);have e:IntKind.u8.wrap (TY 8 (n:Int) (xs[j].toNat:Int))=((n ||| xs[j].toNat:Nat):Int):=by
   have:TY 8 (n:Int) (xs[j].toNat:Int)=((n ||| xs[j].toNat:Nat):Int):=by
    show(((_:BitVec 8).toNat:Nat):Int)=_;rw[dU,dU,BitVec.toNat_or,dW,dW,dS hn,dS hc]
   rw[this,Ko];omega
  rw[e,Ag (x:=(j:Int)+1) (by omega) (by omega)];refine⟨⟨j+1,n ||| xs[j].toNat,by omega,hor,?_,by simp,rfl⟩,by simp[nI,Ap];omega⟩;rw[Ll hjl,Lv3,Lp,<- hz,Nat.or_eq_zero_iff];simp[<- Ly4]
 ·have hb:=Lb hb;have hjl:j=l:=by omega
  subst hjl;refine⟨_,rfl,?_⟩;rw[Lg (by omega)]at hz;have e:((n:Int)==0)=xs.all (·==0):=by
   rw[Lu,xH,<- hz];omega
  rw[e];exact hk
end
end Go.Z
end
section
open Go Go.Den Go.Proofs
namespace Go.Den
def AN(xs:List UInt8)(i:Nat):Bool:=(xs.getD (i / 8) 0).toNat.testBit (i % 8)
def BK(xs:List UInt8):Nat->Nat
 | 0=>0
 | j+1=>BK xs j+(if AN xs j=true then 1 else 0)
theorem UW{xs:List UInt8}{i:Nat}(h:8*xs.length<=i):AN xs i=false:=by
 unfold AN;rw[Lj,xR (by omega)];show(0:UInt8).toNat.testBit _=false;exact Nat.zero_testBit _
theorem I7(xs:List UInt8):∀ m,BK xs m<=m
 | 0=>Ld _
 | j+1=>by have:=I7 xs j;unfold BK;split<;>omega
theorem Xd(xs:List UInt8)(m:Nat):∀ k,BK xs m<=BK xs (m+k)
 | 0=>Ld _
 | k+1=>by have:=Xd xs m k;exact Up this (Nat.le_add_right _ _)
theorem HJ{xs:List UInt8}{m:Nat}:∀{k:Nat},BK xs m=BK xs (m+k)↔∀ i,m<=i->i<m+k->AN xs i=false
 | 0=>by simp;omega
 | k+1=>by
  have h:=Xd xs m k;rw[<- xQ,show BK xs (m+k+1)=BK xs (m+k)+(if AN xs (m+k)=true then 1 else 0)from rfl];constructor
  ·intro e i h1 h2;cases hb:AN xs (m+k)with
   | true=>rw[hb,if_pos rfl]at e;omega
   | false =>
    rw[hb,if_neg (by simp)]at e;by_cases hi:i=m+k
    ·rw[hi];exact hb
    ·exact(HJ.1 e) i h1 (by omega)
  ·intro e;rw[e (m+k) (by omega) (by omega),if_neg (by simp)];exact HJ.2 fun i h1 h2=>e i h1 (by omega)
theorem rW{xs:List UInt8}{m:Nat}(h:8*xs.length<=m):BK xs (8*xs.length)=BK xs m:=by
 have:=(HJ (xs:=xs) (m:=8*xs.length) (k:=m-8*xs.length)).2 fun i h1 _=>UW h1
 rwa [show 8*xs.length+(m-8*xs.length)=m by omega]at this
theorem aG{xs:List UInt8}{n:Int}:BK xs (min (max n 0) (8*xs.length)).toNat=BK xs n.toNat:=by
 by_cases h:n.toNat<=8*xs.length
 ·congr 1;omega
 ·rw[<- rW (m:=n.toNat) (by omega)];congr 1;omega
end Go.Den
namespace Go.Z
theorem vR{T:TypeId}{o1 o2:Operand}{k:IntKind}{a b:Int}(hb:0<=b):Al (Gp .shl T o1 o2 (.int .u8 a) (.int k b)) (.int .u8 (IntKind.u8.wrap (a*2 ^ (min b.toNat 8)))):=fun w=>by
 rw[DE (fun w=>Gg _ _ _ _ _ _ _ _ w)];have:¬ b<0:=by omega
 simp[binOp,Op.shift,this,IntKind.bits]
theorem AhY{T:TypeId}{o1 o2:Operand}{k:IntKind}{a b:Int}(hb:0<=b):Al (Gp .shr T o1 o2 (.int .u8 a) (.int k b)) (.int .u8 (a.fdiv (2 ^ (min b.toNat 8)))):=fun w=>by
 rw[DE (fun w=>Gg _ _ _ _ _ _ _ _ w)];have:¬ b<0:=by omega
 simp[binOp,Op.shift,this,IntKind.bits]
theorem ZP{a b:Nat}(ha:a<256)(hb:b<256):IntKind.u8.wrap (JT 8 (a:Int) (b:Int))=((a &&& b:Nat):Int):=by
 have:JT 8 (a:Int) (b:Int)=((a &&& b:Nat):Int):=by
  show(((_:BitVec 8).toNat:Nat):Int)=_;rw[dU,dU,BitVec.toNat_and,dW,dW,dS ha,dS hb]
 have hlt:a &&& b<256:=Nat.and_lt_two_pow (n:=8) a hb;rw[this,Ko];omega
theorem Uz{a b:Nat}(ha:a<256)(hb:b<256):IntKind.u8.wrap (TY 8 (a:Int) (b:Int))=((a ||| b:Nat):Int):=by
 have:TY 8 (a:Int) (b:Int)=((a ||| b:Nat):Int):=by
  show(((_:BitVec 8).toNat:Nat):Int)=_;rw[dU,dU,BitVec.toNat_or,dW,dW,dS ha,dS hb]
 have hlt:a ||| b<256:=xX (n:=8) ha hb;rw[this,Ko];omega
theorem wZ{a b:Nat}(ha:a<256)(hb:b<256):IntKind.u8.wrap (HI 8 (a:Int) (b:Int))=((a ^^^ b:Nat):Int):=by
 have:HI 8 (a:Int) (b:Int)=((a ^^^ b:Nat):Int):=by
  show(((_:BitVec 8).toNat:Nat):Int)=_;rw[dU,dU,BitVec.toNat_xor,dW,dW,dS ha,dS hb]
 have hlt:a ^^^ b<256:=Ly2 (n:=8) ha hb;rw[this,Ko];omega
theorem iA{k:Nat}(h:k<8):(2:Nat) ^ k<256:=by
 have:(2:Nat) ^ k<=2 ^ 7:=Ld3 (by omega) (by omega);omega
theorem RH{k:Nat}(h:k<8):IntKind.u8.wrap (1*2 ^ (min (k:Int).toNat 8))=((2 ^ k:Nat):Int):=by
 have hp:=iA h;have hk:min (k:Int).toNat 8=k:=by omega
 rw[hk,Ly5,Ko];have e:((2:Int) ^ k)=((2 ^ k:Nat):Int):=by push_cast;rfl
 rw[e];generalize (2:Nat) ^ k=p at hp;omega
theorem yO{c:UInt8}{k:Nat}(h:k<8):((IntKind.u8.wrap (JT 8 (c.toNat:Int) ((2 ^ k:Nat):Int))) != 0)=c.toNat.testBit k:=by
 rw[ZP c.toNat_lt (iA h),Di];have key:c.toNat &&& 2 ^ k=0↔c.toNat.testBit k=false:=by
  constructor
  ·intro e
   have:=Pi (·.testBit k) e
   simpa [Lx4,Ls2] using this
  ·intro e;apply Lz3;intro i;rw[Lx4,Ls2,Nat.zero_testBit];by_cases hi:k=i
   ·subst hi;rw[e];rfl
   ·rw[Lf hi,qR]
 cases hb:c.toNat.testBit k with
 | true =>
  refine Le fun e=>?_
  have:=key.1 (by omega)
  rw[hb]at this;cases this
 | false =>
  refine Lf fun e=>e ?_;rw[key.2 hb];rfl
theorem yP{c:UInt8}{k:Nat}(h:k<8):((IntKind.u8.wrap (JT 8 ((c.toNat:Int).fdiv (2 ^ (min (k:Int).toNat 8))) 1))==1)=c.toNat.testBit k:=by
 have hk:min (k:Int).toNat 8=k:=by omega
 have e:((2:Int) ^ k)=((2 ^ k:Nat):Int):=by push_cast;rfl
 have hc:=c.toNat_lt;have hlt:c.toNat / 2 ^ k<256:=Nat.lt_of_le_of_lt (Nat.div_le_self _ _) hc;rw[hk,e,sH]
 have:=ZP (a:=c.toNat / 2 ^ k) (b:=1) hlt (by omega)
 rw[show((1:Nat):Int)=1 from rfl]at this;rw[this,AfY,Nat.testBit_eq_decide_div_mod_eq,GO];exact ZH.2 ⟨fun h=>by omega,fun h=>by omega⟩
section
variable{w:World}{K:Value->World->Prop}
theorem QU{a:Option Addr}{l c i:Nat}{xs:List UInt8}(hl:xs.length=l)(hr:Bl w a (Au xs))(h63:l<=1048576)(hi:i<=9223372036854775807)(hk:∀ w',Ab No w w'->K (.bool (AN xs i)) w'):A8 Tryz.prog FD #[.slice a l c,.int .i64 i] w K:=by
 apply eJ;unfold UD;refine Ac.dup ?_;apply Qk;unfold LL;refine Ac.dup (tt (Le (by omega)) ⟨_,rfl,_,rfl,?_⟩);rw[Ag (x:=8*(l:Int)) (by omega) (by omega)];refine Aa (fun h=>?_) (fun h=>⟨_,rfl,?_⟩)
 ·have h:=Lc h;have hil:i / 8<xs.length:=by omega
  rw[jI (by omega),mL (by omega),Ag (x:=(i:Int) / 8) (by omega) (by omega),show(i:Int) / 8=((i / 8:Nat):Int) by omega,show(i:Int) % 8=((i % 8:Nat):Int) by omega];obtain⟨b,o,rfl,hx⟩:=Mi hr hil;refine⟨_,Ar (k:=1) (by kernel_rfl) (by omega) (by omega),(xs[i / 8].toNat:Int),?_,_,vR (by omega),?_⟩
  ·rw[Ad,show((i / 8:Nat):Int).toNat*1=i / 8 by omega];exact hx.drew.load (by kernel_rfl) (CP hil)
  rw[RH (mJ _ (by omega)),yO (mJ _ (by omega))];have e:xs[i / 8].toNat.testBit (i % 8)=AN xs i:=by unfold AN;rw[Lj,Lk hil];rfl
  rw[e];exact⟨_,rfl,hk _ (Ab.refl _ _).drew⟩
 ·have h:=Lb h;rw[<- UW (xs:=xs) (i:=i) (by omega)];exact hk _ (Ab.refl _ _).drew
theorem Hj{a:Option Addr}{l c:Nat}{n:Int}{xs:List UInt8}(hl:xs.length=l)(hr:Bl w a (Au xs))(h63:l<=1048576)(hk:∀ w',Ab No w w'->K (.int .i64 (BK xs n.toNat)) w'):A8 Tryz.prog Do #[.slice a l c,.int .i64 n] w K:=by
 apply Ye;unfold QA;apply SZ;unfold MY;refine⟨_,rfl,?_⟩;rw[Ag (x:=8*(l:Int)) (by omega) (by omega)];have em:(if 8*(l:Int)<(if 0 > n then 0 else n)then 8*(l:Int)else(if 0 > n then 0 else n))=min (max n 0) (8*xs.length):=by
  rw[hl];split<;>split<;>omega
 rw[em,<- aG]at *;obtain⟨m,hm⟩:∃ m:Nat,min (max n 0) (8*(xs.length:Int))=m:=⟨(min (max n 0) (8*(xs.length:Int))).toNat,by omega⟩;rw[hm]at hk |-;rw[show(m:Int).toNat=m by omega]at hk;have hml:m<=8*l:=by omega
 refine⟨fun x w2=>∃ j:Nat,j<=m/\x=[.int .i64 (BK xs j:Int),.int .i64 j]/\Ab No w w2,fun x _=>(m-nI x 1).toNat,⟨0,by omega,rfl,Ab.refl _ _⟩,?_⟩;rintro x w2 ⟨j,hj,rfl,hm2⟩;refine⟨_,rfl,Aa (fun h=>?_) (fun h=>⟨_,rfl,?_⟩)⟩
 ·have h:=Lc h;have hcl:=I7 xs j;refine QU (xs:=xs) hl (hr.nos hm2) h63 (by omega) fun w3 m3=>⟨_,rfl,Ac.cut (fun z w4=>w4=w3/\z=[.int .i64 (BK xs (j+1):Int)]) (Aa (fun h2=>⟨_,rfl,rfl,?_⟩) (fun h2=>⟨rfl,?_⟩)) ?_⟩
  ·rw[Ag (by omega) (by omega),show BK xs (j+1)=BK xs j+(if AN xs j=true then 1 else 0)from rfl,if_pos h2];simp
  ·rw[show BK xs (j+1)=BK xs j+(if AN xs j=true then 1 else 0)from rfl,if_neg (by rw[h2];simp)];rfl
  ·rintro z w4 ⟨rfl,rfl⟩;rw[Ag (x:=(j:Int)+1) (by omega) (by omega)];exact⟨⟨j+1,by omega,by simp[Ap],hm2.no m3⟩,by simp[nI,Ap];omega⟩
 ·have h:=Lb h;have hjm:j=m:=by omega
  subst hjm;exact hk _ hm2
theorem Mg{a:Option Addr}{l c i:Nat}{xs:List UInt8}(hl:xs.length=l)(hr:Bl w a (Au xs))(h63:l<=1048576)(hi:i<=9223372036854775807)(hk:K (.bool (AN xs i)) w):A8 Tryz.prog Bi #[.slice a l c,.int .i64 i] w K:=by
 apply Sn;unfold K9;refine Ac.dup (tt (Le (by omega)) ?_);rw[jI (by omega),mL (by omega),Ag (x:=(i:Int) / 8) (by omega) (by omega),show(i:Int) / 8=((i / 8:Nat):Int) by omega,show(i:Int) % 8=((i % 8:Nat):Int) by omega,El (x:=((i % 8:Nat):Int)) (by omega) (by omega)];refine Aa (fun h=>?_) (fun h=>⟨_,rfl,?_⟩)
 ·have h:=Lc h;have hil:i / 8<xs.length:=by omega
  obtain⟨b,o,rfl,hx⟩:=Mi hr hil;refine⟨_,Ar (k:=1) (by kernel_rfl) (by omega) (by omega),(xs[i / 8].toNat:Int),?_,_,AhY (by omega),?_⟩
  ·rw[Ad,show((i / 8:Nat):Int).toNat*1=i / 8 by omega];exact hx.load (by kernel_rfl) (CP hil)
  rw[yP (mJ _ (by omega))];have e:xs[i / 8].toNat.testBit (i % 8)=AN xs i:=by unfold AN;rw[Lj,Lk hil];rfl
  rw[e];exact⟨_,rfl,hk⟩
 ·have h:=Lb h;rw[<- UW (xs:=xs) (i:=i) (by omega)];exact hk
theorem vB{a:Option Addr}{l c:Nat}{n:Int}(h63:l<=1048576)(hk:K (.int .i64 (min (max n 0) (8*(l:Int)))) w):A8 Tryz.prog G2 #[.slice a l c,.int .i64 n] w K:=by
 apply Qy;unfold JB;rw[Ag (x:=8*(l:Int)) (by omega) (by omega)];refine Aa (fun h=>?_) (fun h=>Aa (fun h2=>?_) (fun h2=>?_))
 ·have h:=Lc h
  rwa [show min (max n 0) (8*(l:Int))=0 by omega]at hk
 ·have h:=Lb h;have h2:=Lc h2
  rwa [show min (max n 0) (8*(l:Int))=8*l by omega]at hk
 ·have h:=Lb h;have h2:=Lb h2
  rwa [show min (max n 0) (8*(l:Int))=n by omega]at hk
theorem XN{a:Option Addr}{l c:Nat}{n:Int}{xs:List UInt8}(hl:xs.length=l)(hr:Bl w a (Au xs))(h63:l<=1048576)(hk:K (.int .i64 (BK xs n.toNat)) w):A8 Tryz.prog Ef #[.slice a l c,.int .i64 n] w K:=by
 apply PE;unfold IW;obtain⟨m,hm⟩:∃ m:Nat,min (max n 0) (8*(l:Int))=m:=⟨(min (max n 0) (8*(l:Int))).toNat,by omega⟩;have hcm:=aG (xs:=xs) (n:=n);rw[hl,hm,show(m:Int).toNat=m by omega]at hcm;rw[<- hcm]at hk;have hml:m<=8*l:=by omega
 refine⟨fun x w2=>∃ j:Nat,j<=m/\x=[.int .i64 (BK xs j:Int),.int .i64 j]/\w2=w,fun x _=>(m-nI x 1).toNat,⟨0,by omega,rfl,rfl⟩,?_⟩;rintro x w2 ⟨j,hj,rfl,rfl⟩;refine⟨_,rfl,vB h63 ⟨_,rfl,?_⟩⟩;rw[hm];refine Aa (fun h=>?_) (fun h=>⟨_,rfl,?_⟩)
 ·have h:=Lc h;have hcl:=I7 xs j;refine Mg (xs:=xs) hl hr h63 (by omega) ⟨_,rfl,Ac.cut (fun z w4=>w4=w2/\z=[.int .i64 (BK xs (j+1):Int)]) (Aa (fun h2=>⟨_,rfl,rfl,?_⟩) (fun h2=>⟨rfl,?_⟩)) ?_⟩
  ·rw[Ag (by omega) (by omega),show BK xs (j+1)=BK xs j+(if AN xs j=true then 1 else 0)from rfl,if_pos h2];simp
  ·rw[show BK xs (j+1)=BK xs j+(if AN xs j=true then 1 else 0)from rfl,if_neg (by rw[h2];simp)];rfl
  ·rintro z w4 ⟨rfl,rfl⟩;rw[Ag (x:=(j:Int)+1) (by omega) (by omega)];exact⟨⟨j+1,by omega,by simp[Ap],rfl⟩,by simp[nI,Ap];omega⟩
 ·have h:=Lb h;have hjm:j=m:=by omega
  subst hjm;exact hk
end
end Go.Z
end
section
open Go Go.Den
namespace Go.Den
section
variable{P:Program}{w:World}
def aH(P : Program) : List Field → Nat → Option (List Nat)
  | [], _ => some []
  | f :: r, i => if f.offset = i ∧ (f.name == "_") = false then
      match P.underlying f.type, aH P r (i + 1)with
      | some (.int .i64), some cs => some (0 :: cs)
      | some .string, some cs => some (1 :: cs)
      | some .bool, some cs => some (2 :: cs)
      | _, _ => none
    else none
def AdS(P:Program)(T:TypeId):Option (List Nat):=if P.stoodInHeld T=false/\P.eqGuardType P.depth T=false then(match P.underlying T with | some (.struct fs)=>aH P fs.toList 0 | _=>none)else none
def Vf:List Nat->List Value->Prop
 | [],[]=>True
 | 0::cs,.int .i64 _::vs=>Vf cs vs
 | 1::cs,.string _::vs=>Vf cs vs
 | 2::cs,.bool _::vs=>Vf cs vs
 | _,_=>False
theorem Ol{T:TypeId}{d:TypeDesc}(h:P.underlying T=some d)(h1:∀ fs,d≠.struct fs)(h2:∀ n e,d≠.array n e){cs:Array Value}{o:Nat}{v:Value}(hv:cs[o]?=some v):(part T cs o).run P w=.ok v w:=by
 have hu:(underlying T).run P w=.ok d w:=AI h w;cases d<;>first | exact absurd rfl (h1 _) | exact absurd rfl (h2 _ _) | simp[part,isAgg,hu,hv]
theorem QY{d : Nat} : ∀(fs : List Field)(i : Nat)(cs : List Nat)(px py xs ys : List Value), aH P fs i = some cs → Vf cs xs → Vf cs ys → px.length = i → py.length = i → ∀ w : World,
    ∃ b, (b = true ↔ xs = ys) ∧ (Op.eqFields (d + 1) ⟨px ++ xs⟩ ⟨py ++ ys⟩ fs).run P w = .ok b w
  | [], i, cs, px, py, xs, ys, h, hx, hy, _, _, w => by
    cases h;cases xs with
    | cons a r => exact hx.elim
    | nil => cases ys with
      | cons a r => exact hy.elim
      | nil => exact⟨true, by simp, by simp[Op.eqFields]⟩
  | f :: r, i, cs, px, py, xs, ys, h, hx, hy, hpx, hpy, w => by
    unfold aH at h
    split at h
    · rename_i hf
      obtain ⟨ho, hn⟩ := hf;have hn : f.name ≠ "_" := by simpa using hn
      have step : ∀(x y : Value)(xs ys : List Value)(cs' : List Nat)(b0 : Bool)(dd : TypeDesc), P.underlying f.type = some dd → (∀ fs, dd ≠ .struct fs) → (∀ n e, dd ≠ .array n e) → aH P r (i + 1) = some cs' → Vf cs' xs → Vf cs' ys →
          (b0 = true ↔ x = y) → (Op.equalIn (d + 1) f.type x y).run P w = .ok b0 w → ∃ b, (b = true ↔ x :: xs = y :: ys) ∧ (Op.eqFields (d + 1) ⟨px ++ x :: xs⟩ ⟨py ++ y :: ys⟩ (f :: r)).run P w = .ok b w := by
        intro x y xs ys cs' b0 dd hu n1 n2 hcs hxs hys hb0 heq;have e1 : (part f.type ⟨px ++ x :: xs⟩ f.offset).run P w = .ok x w := Ol hu n1 n2 (by rw[ho, ← hpx];simp);have e2 : (part f.type ⟨py ++ y :: ys⟩ f.offset).run P w = .ok y w := Ol hu n1 n2 (by rw[ho, ← hpy];simp);obtain⟨b, h1, h2⟩ := QY (d := d) r (i + 1) cs' (px ++ [x]) (py ++ [y]) xs ys hcs hxs hys (by simp[hpx]) (by simp[hpy]) w
        simp only[WB, List.singleton_append]at h2;simp only[Op.eqFields, if_pos hn, Sem.run_bind, e1, Result.andThen_ok, e2, heq];cases b0 with
        | true =>
          refine⟨b, ?_, by simpa using h2⟩
          have := hb0.1 rfl
          rw[h1, this];simp
        | false =>
          refine⟨false, ?_, by simp⟩;constructor
          · intro e;cases e
          · intro e
            have := hb0.2 (La6 e).1
            cases this
      split at h
      · rename_i cs' hu hcs
        cases h;cases xs with
        | nil => exact hx.elim
        | cons x xs => cases ys with
          | nil => exact hy.elim
          | cons y ys =>
            cases x<;>first | exact hx.elim | skip;cases y<;>first | exact hy.elim | skip;rename_i k1 a k2 b;cases k1<;>first | exact hx.elim | skip;cases k2<;>first | exact hy.elim | skip;exact step _ _ _ _ cs' (a == b) _ hu (by simp) (by simp) hcs hx hy (by simp) (run_equalIn_int w d f.type .i64 .i64 a b hu)
      · rename_i cs' hu hcs
        cases h;cases xs with
        | nil => exact hx.elim
        | cons x xs => cases ys with
          | nil => exact hy.elim
          | cons y ys =>
            cases x<;>first | exact hx.elim | skip;cases y<;>first | exact hy.elim | skip;rename_i a b;refine step _ _ _ _ cs' (a.toList == b.toList) _ hu (by simp) (by simp) hcs hx hy ?_ (run_equalIn_string w d f.type a b hu);rw[xH, ByteArray.toList_eq, ByteArray.toList_eq];constructor
            · intro e
              obtain⟨⟨a⟩⟩ := a;obtain⟨⟨b⟩⟩ := b;have : a = b := e;rw[this]
            · intro e;cases e;rfl
      · rename_i cs' hu hcs
        cases h;cases xs with
        | nil => exact hx.elim
        | cons x xs => cases ys with
          | nil => exact hy.elim
          | cons y ys =>
            cases x<;>first | exact hx.elim | skip;cases y<;>first | exact hy.elim | skip;rename_i a b;exact step _ _ _ _ cs' (a == b) _ hu (by simp) (by simp) hcs hx hy (by simp) (run_equalIn_bool w d f.type a b hu)
      · cases h
    · cases h
theorem AdG{T:TypeId}{cs:List Nat}(h:AdS P T=some cs){o1 o2:Operand}{xs ys:List Value}(hx:Vf cs xs)(hy:Vf cs ys)(w:World) :
  ∃ b,(b=true↔xs=ys)/\(Gp .eql T o1 o2 (.agg ⟨xs⟩) (.agg ⟨ys⟩)).run P w=.ok (.bool b) w/\(Gp .neq T o1 o2 (.agg ⟨xs⟩) (.agg ⟨ys⟩)).run P w=.ok (.bool (!b)) w:=by
 unfold AdS at h
 split at h
 ·rename_i hg;obtain⟨h2,h3⟩:=hg
  split at h
  ·rename_i fs hu;have hf:P.fieldsOf T=fs:=by unfold Program.fieldsOf;rw[hu]
   obtain⟨b,hb,hr⟩:=QY (d:=9998) fs.toList 0 cs [] [] xs ys h hx hy rfl rfl w;have key:(Op.equalIn 10000 T (.agg ⟨xs⟩) (.agg ⟨ys⟩)).run P w=.ok b w:=by
    rw[run_equalIn_struct w 9999 T _ _ (by rw[hf];exact hu) h2,hf];exact hr
   refine⟨b,hb,?_,?_⟩
   ·rw[DE (fun w=>run_eqGuard_agg w _ T _ _ _ _ h3),run_eql_struct,key];rfl
   ·rw[DE (fun w=>run_eqGuard_agg w _ T _ _ _ _ h3),run_neq_struct,key];rfl
  ·cases h
 ·cases h
end
end Go.Den
end
section
open Go Go.Den Go.Proofs
namespace Go.Den
structure Gm where
 gr:Int
 no:Int
 gs:Int
deriving DecidableEq
def gZ:Gm:=⟨0,0,0⟩
def gV(g:Gm):List Value:=[.int .i64 g.gr,.int .i64 g.no,.int .i64 g.gs]
def CU(g:Gm):Bool:=decide (16<=g.gr/\g.gr<=128/\1<=g.gs/\g.gs<=16/\4<=g.no/\g.no<=64/\g.no % 4=0/\4<=g.gr-1-g.no / 4/\2+g.gs*g.gr<=4096)
def EK(g:Gm):Gm:=if CU g=true then g else gZ
def AJ(g:Gm):Int:=if CU g=true then 2+g.gs*g.gr else 0
def AO(g:Gm):Int:=if CU g=true then g.gs*g.no else 0
def AM(g:Gm):Int:=if CU g=true then g.no / 4 else 0
theorem Av{g:Gm}:CU g=true↔(16<=g.gr/\g.gr<=128/\1<=g.gs/\g.gs<=16/\4<=g.no/\g.no<=64/\g.no % 4=0/\4<=g.gr-1-g.no / 4/\2+g.gs*g.gr<=4096):=by unfold CU;exact Wv
theorem Kb{a b m n:Int}(h1:0<=a)(h2:a<=m)(h3:0<=b)(h4:b<=n):0<=a*b/\a*b<=m*n:=⟨xC h1 h3,Lj6 h2 h4 h3 (by omega)⟩
theorem Uw{g:Gm}:0<=AJ g/\AJ g<=4096:=by
 unfold AJ;split
 ·rename_i h;have h:=Av.1 h
  have:=Kb (a:=g.gs) (b:=g.gr) (m:=16) (n:=128) (by omega) (by omega) (by omega) (by omega)
  omega
 ·omega
theorem Rj{g:Gm}:0<=AO g/\AO g<=1024:=by
 unfold AO;split
 ·rename_i h;have h:=Av.1 h
  have:=Kb (a:=g.gs) (b:=g.no) (m:=16) (n:=64) (by omega) (by omega) (by omega) (by omega)
  omega
 ·omega
theorem SL(g:Gm):∀ v∈gV g,v.oneCell'=true:=by
 intro v hv;simp only[gV,Lz,Li5,or_false]at hv;rcases hv with rfl | rfl | rfl<;>rfl
end Go.Den
namespace Go.Z
theorem Aq:Ei Tryz.prog 40=some 3:=by kernel_rfl
theorem Aj:DQ Tryz.prog 3=true:=by kernel_rfl
theorem BL:DQ Tryz.prog 2=true:=by kernel_rfl
theorem NM:HT Tryz.prog 40=some (gV gZ):=by kernel_rfl
theorem NT:Al (Instr.build 40 #[]) (.agg ⟨gV gZ⟩):=fun w=>by kernel_rfl
theorem zZ:AdS Tryz.prog 40=some [0,0,0]:=by kernel_rfl
section
variable{w:World}{K:Value->World->Prop}
theorem SE{n lo hi:Int}(hk:K (.bool (decide (lo<=n/\n<=hi))) w):A8 Tryz.prog Gz #[.int .i64 n,.int .i64 lo,.int .i64 hi] w K:=by
 apply Yj;unfold QD;refine Ac.dup (Aa (fun h=>?_) (fun h=>?_))
 ·have h:=Lc h;refine⟨_,rfl,?_⟩;have e:decide (n<=hi)=decide (lo<=n/\n<=hi):=ZH.2 ⟨fun x=>⟨h,x⟩,fun x=>x.2⟩;rw[e];exact hk
 ·have h:=Lb h;refine⟨_,rfl,?_⟩;have e:false=decide (lo<=n/\n<=hi):=(Lf fun x=>h x.1).symm;rw[e];exact hk
theorem geq(g h:Gm){o1 o2:Operand}:∃ b,(b=true↔g=h)/\Al (Gp .eql 40 o1 o2 (.agg ⟨gV g⟩) (.agg ⟨gV h⟩)) (.bool b):=by
 refine⟨decide (g=h),Wv,fun w=>?_⟩;obtain⟨b,hb,h1,_⟩:=AdG zZ (xs:=gV g) (ys:=gV h) (o1:=o1) (o2:=o2) (by simp[Vf,gV]) (by simp[Vf,gV]) w;rw[h1];have:b=decide (g=h):=by
  rw[Lu,hb,Wv];cases g;cases h;simp[gV]
 rw[this]
theorem Zm{g:Gm}(hk:∀ w',Ab No w w'->K (.agg ⟨gV (EK g)⟩) w'):A8 Tryz.prog HC #[.agg ⟨gV g⟩] w K:=by
 apply Zz;unfold Th;obtain⟨w1,a1,a2,a3,a4⟩:=AC (P:=Tryz.prog) (w:=w) (T:=40) (cs:=gV g);obtain⟨w2,b1,b2,b3,b4⟩:=A9 (P:=Tryz.prog) (w:=w1) (T:=40) NM;refine⟨_,w1,a1,_,w2,b1,?_⟩;have hat:=a2.at.keep b3 id;have m2:=a3.no b3;have l0:Ru (Instr.loadAt 3 (.pointer (some (Addr.add ⟨w.heap.size,0,none⟩ 0)))) w2 (.int .i64 g.gr) w2:=hat.fld Aj rfl;have l1:Ru (Instr.loadAt 3 (.pointer (some (Addr.add ⟨w.heap.size,0,none⟩ 1)))) w2 (.int .i64 g.no) w2:=hat.fld Aj rfl
 have l2:Ru (Instr.loadAt 3 (.pointer (some (Addr.add ⟨w.heap.size,0,none⟩ 2)))) w2 (.int .i64 g.gs) w2:=hat.fld Aj rfl;have hend:∀(h:Gm),h=EK g->∃ w6:World,Eh (Instr.storeAt 40 (.pointer (some ⟨w1.heap.size,0,none⟩)) (.agg ⟨gV h⟩)) w2 w6/\∃ gR2:Array Value,Ru (Instr.loadAt 40 (.pointer (some ⟨w1.heap.size,0,none⟩))) w6 (.agg gR2) w6/\K (.agg gR2) w6:=fun h e=>by
  obtain⟨w6,c1,c2,c3,c4⟩:=b2.put (T:=40) (vs:=gV h) Aq rfl rfl (SL h);refine⟨w6,c1,_,c2.at.all Aq rfl,?_⟩;subst e;exact hk _ (m2.own c3 (by omega))
 have hno:CU g≠true->gZ=EK g:=fun h=>by unfold EK;rw[if_neg h]
 refine Ac.cut (fun z w5=>w5=w2/\z=[.bool (!(decide (16<=g.gr/\g.gr<=128)&&decide (1<=g.gs/\g.gs<=16)))]) ⟨_,l0,SE ⟨_,rfl,Aa (fun h=>⟨rfl,?_⟩) (fun h=>⟨_,l2,SE ⟨_,rfl,rfl,?_⟩⟩)⟩⟩ ?_
 ·rw[TW]at h;rw[h];rfl
 ·rw[Zq]at h;rw[h];rfl
 rintro z w5 ⟨rfl,rfl⟩;refine⟨_,rfl,Aa (fun h=>⟨_,NT,?_⟩) (fun h=>?_)⟩
 ·refine hend gZ (hno fun e=>?_);have e:=Av.1 e;simp only[TW,xP,xZ]at h;omega
 simp only[Zq,Lp,Lw]at h;refine Ac.cut (fun z w8=>w8=w5/\z=[.bool (!(decide (4<=g.no/\g.no<=64)&&decide (g.no % 4=0)))]) ⟨_,l1,SE ⟨_,rfl,Aa (fun h=>⟨rfl,?_⟩) (fun h2=>⟨_,l1,rfl,?_⟩)⟩⟩ ?_
 ·rw[TW]at h;rw[h];rfl
 ·rw[Zq]at h2;have h3:=Lc h2;rw[h2,Ws,mL (by omega)];rw[Di,Lj5]
 rintro z w8 ⟨rfl,rfl⟩;refine⟨_,rfl,Aa (fun h2=>⟨_,NT,?_⟩) (fun h2=>?_)⟩
 ·refine hend gZ (hno fun e=>?_);have e:=Av.1 e;simp only[TW,xP,xZ]at h2;omega
 simp only[Zq,Lp,Lw]at h2;have hp:=Kb (a:=g.gs) (b:=g.gr) (m:=16) (n:=128) (by omega) (by omega) (by omega) (by omega);refine Ac.cut (fun z w10=>w10=w8/\z=[.bool (!(decide (4<=g.gr-1-g.no / 4)&&decide (2+g.gs*g.gr<=4096)))]) ⟨_,l0,_,l1,?_⟩ ?_
 ·rw[jI (by omega),Ag (x:=g.gr-1) (by omega) (by omega),Ag (x:=g.no / 4) (by omega) (by omega),Ag (x:=g.gr-1-g.no / 4) (by omega) (by omega)];refine Aa (fun h3=>⟨rfl,?_⟩) (fun h3=>⟨_,l2,_,l0,rfl,?_⟩)
  ·have h3:=Lc h3;rw[Lf (show ¬ (4<=g.gr-1-g.no / 4) by omega)];rfl
  ·have h3:=Lb h3;rw[Le (show 4<=g.gr-1-g.no / 4 by omega),Ws,Ag (x:=g.gs*g.gr) (by omega) (by omega),Ag (by omega) (by omega),<- Lj5];have e:decide (2+g.gs*g.gr > 4096)=decide (¬ (2+g.gs*g.gr<=4096)):=by
    by_cases h:2+g.gs*g.gr<=4096
    ·rw[Lf (show ¬ (2+g.gs*g.gr > 4096) by omega),Lf (show ¬ ¬ (2+g.gs*g.gr<=4096)from fun k=>k h)]
    ·rw[Le (show 2+g.gs*g.gr > 4096 by omega),Le h]
   rw[e]
 rintro z w10 ⟨rfl,rfl⟩;refine⟨_,rfl,Aa (fun h3=>⟨_,NT,?_⟩) (fun h3=>⟨_,hat.all Aq rfl,?_⟩)⟩
 ·refine hend gZ (hno fun e=>?_);have e:=Av.1 e;simp only[TW,xP,xZ]at h3;omega
 ·simp only[Zq,Lp,Lw]at h3;refine hend g ?_;unfold EK;rw[if_pos (Av.2 (by omega))]
theorem Xr(g:Gm):(decide (EK g=g)&&decide ((EK g).gs > 0))=CU g:=by
 unfold EK;cases h:CU g with
 | true=>have:=Av.1 h;rw[if_pos rfl];simp;omega
 | false=>rw[if_neg (by simp)];simp[gZ]
theorem Hr{g:Gm}(hk:∀ w',Ab No w w'->K (.bool (CU g)) w'):A8 Tryz.prog DS #[.agg ⟨gV g⟩] w K:=by
 apply Zx;unfold Tf;obtain⟨w1,a1,a2,a3,a4⟩:=AC (P:=Tryz.prog) (w:=w) (T:=40) (cs:=gV g);refine⟨_,w1,a1,_,a2.at.all Aq rfl,Zm fun w2 m2=>⟨_,rfl,?_⟩⟩;obtain⟨w3,b1,b2,b3,b4⟩:=A9 (P:=Tryz.prog) (w:=w2) (T:=40) NM;obtain⟨w4,c1,c2,c3,c4⟩:=b2.put (T:=40) (vs:=gV (EK g)) Aq rfl rfl (SL _);have m13:=m2.no b3;have m4:=m13.own c3 m2.size;have hq:=a2.at.keep m4 id
 obtain⟨b,hb,he⟩:=geq (EK g) g (o1:=.tmp 6) (o2:=.tmp 7);have hb':b=decide (EK g=g):=by rw[Lu,hb,Wv]
 refine⟨_,w3,b1,w4,c1,Ac.dup ⟨_,c2.at.all Aq rfl,_,hq.all Aq rfl,b,he,Aa (fun h=>⟨_,c2.at.fld Aj rfl,_,rfl,?_⟩) (fun h=>⟨_,rfl,?_⟩)⟩⟩
 ·have:=Xr g
  rw[<- hb',h,Ws]at this;rw[this];exact hk _ (a3.no m4)
 ·have:=Xr g
  rw[<- hb',h,Ln4]at this;rw[this];exact hk _ (a3.no m4)
theorem SC{g:Gm}(hk:∀ w',Ab No w w'->K (.int .i64 (AJ g)) w'):A8 Tryz.prog GZ #[.agg ⟨gV g⟩] w K:=by
 apply eV;unfold UI;obtain⟨w1,a1,a2,a3,a4⟩:=AC (P:=Tryz.prog) (w:=w) (T:=40) (cs:=gV g);refine⟨_,w1,a1,_,a2.at.all Aq rfl,Hr fun w2 m2=>⟨_,rfl,Aa (fun h=>?_) (fun h=>?_)⟩⟩
 ·have e:AJ g=0:=by unfold AJ;rw[if_neg (by simpa using h)]
  rw[<- e];exact hk _ (a3.no m2)
 ·have h:CU g=true:=by simpa using h
  have hg:=Av.1 h;have hq:=a2.at.keep m2 id;refine⟨_,hq.fld Aj rfl,_,hq.fld Aj rfl,?_⟩;have hp:=Kb (a:=g.gs) (b:=g.gr) (m:=16) (n:=128) (by omega) (by omega) (by omega) (by omega);have e:AJ g=2+g.gs*g.gr:=by unfold AJ;rw[if_pos h]
  rw[Ag (x:=g.gs*g.gr) (by omega) (by omega),Ag (by omega) (by omega),<- e];exact hk _ (a3.no m2)
theorem PX{g:Gm}(hk:∀ w',Ab No w w'->K (.int .i64 (AO g)) w'):A8 Tryz.prog HB #[.agg ⟨gV g⟩] w K:=by
 apply Zy;unfold Tg;obtain⟨w1,a1,a2,a3,a4⟩:=AC (P:=Tryz.prog) (w:=w) (T:=40) (cs:=gV g);refine⟨_,w1,a1,_,a2.at.all Aq rfl,Zm fun w2 m2=>⟨_,rfl,?_⟩⟩;obtain⟨w3,b1,b2,b3,b4⟩:=A9 (P:=Tryz.prog) (w:=w2) (T:=40) NM;obtain⟨w4,c1,c2,c3,c4⟩:=b2.put (T:=40) (vs:=gV (EK g)) Aq rfl rfl (SL _);have m4:=(m2.no b3).own c3 m2.size;refine⟨_,w3,b1,w4,c1,_,c2.at.fld Aj rfl,_,c2.at.fld Aj rfl,?_⟩
 have e:(EK g).gs*(EK g).no=AO g:=by
  unfold EK AO;split<;>simp[gZ]
 have hb:=Rj (g:=g);rw[e,Ag (by omega) (by omega)];exact hk _ (a3.no m4)
theorem Oc{g:Gm}(hk:∀ w',Ab No w w'->K (.int .i64 (AM g)) w'):A8 Tryz.prog ER #[.agg ⟨gV g⟩] w K:=by
 apply Yh;unfold QC;obtain⟨w1,a1,a2,a3,a4⟩:=AC (P:=Tryz.prog) (w:=w) (T:=40) (cs:=gV g);obtain⟨w2,b1,b2,b3,b4⟩:=A9 (P:=Tryz.prog) (w:=w1) (T:=40) NM;obtain⟨w3,c1,c2,c3,c4⟩:=b2.put (T:=40) (vs:=gV gZ) Aq rfl rfl (SL _);have m3:Ab No w1 (Go.Den.Ah w3):=(b3.own c3 (Ld _)).drew;have hq:=a2.at.keep m3 id;refine⟨_,w1,a1,_,NT,_,w2,b1,w3,c1,_,hq.all Aq rfl,_,c2.at.drew.all Aq rfl,Zm fun w4 m4=>⟨_,rfl,(c2.at.drew.keep m4 id).all Aq rfl,?_⟩⟩
 obtain⟨b,hb,he⟩:=geq (EK g) gZ (o1:=.tmp 6) (o2:=.tmp 7);have hz:b=!CU g:=by
  rw[Lu,hb];unfold EK;cases h:CU g with
  | true =>
   have:=Av.1 h
   rw[if_pos rfl];constructor
   ·intro e;rw[e]at this;simp[gZ]at this
   ·intro e;cases e
  | false=>rw[if_neg (by simp)];simp
 have M:=a3.no (m3.no m4);refine⟨b,he,Aa (fun h=>?_) (fun h=>⟨_,(hq.keep m4 id).fld Aj rfl,?_⟩)⟩
 ·have e:AM g=0:=by unfold AM;rw[if_neg (by rw[hz]at h;simpa using h)]
  rw[<- e];exact hk _ M
 ·have h:CU g=true:=by rw[hz]at h;simpa using h
  have hg:=Av.1 h;have e:AM g=g.no / 4:=by unfold AM;rw[if_pos h]
  rw[jI (by omega),Ag (by omega) (by omega),<- e];exact hk _ M
end
end Go.Z
end
section
open Go Go.Den Go.Proofs
namespace Go.Den
def Bc(g:Gm)(k:Int):Int×Int:=if CU g=true then(if 0<=k/\k<g.gs then(2+k*g.gr,0)else(0,3))else(0,1)
def B9(g:Gm)(s:Int):Int×Int×Int:=if CU g=true then(if 0<=s/\s<AO g then(2+s / g.no*g.gr+1+s % g.no / 4,s % g.no % 4,0)else(0,0,3))else(0,0,1)
theorem U5{g:Gm}(h:CU g=true){s:Int}(h0:0<=s)(h1:s<AO g):0<=s / g.no/\s / g.no<g.gs/\0<=s % g.no/\s % g.no<g.no:=by
 have hg:=Av.1 h;unfold AO at h1;rw[if_pos h]at h1;exact⟨Int.ediv_nonneg h0 (by omega),Int.ediv_lt_of_lt_mul (by omega) h1,Lp5 _ (by omega),Lr5 _ (by omega)⟩
theorem bA{g:Gm}{s b p:Int}(h:B9 g s=(b,p,0)):CU g=true/\0<=s/\s<AO g/\2<=b/\b<AJ g/\0<=p/\p<4:=by
 unfold B9 at h;by_cases hg:CU g=true
 ·rw[if_pos hg]at h;by_cases hs:0<=s/\s<AO g
  ·rw[if_pos hs]at h;have hi:=U5 hg hs.1 hs.2;have hq:=Av.1 hg;have e1:b=2+s / g.no*g.gr+1+s % g.no / 4:=(Pi (·.1) h).symm;have e2:p=s % g.no % 4:=(Pi (·.2.1) h).symm;have hp:=Kb (a:=s / g.no) (b:=g.gr) (m:=g.gs-1) (n:=g.gr) (by omega) (by omega) (by omega) (by omega);have hm:(g.gs-1)*g.gr=g.gs*g.gr-g.gr:=by rw[Int.sub_mul,Ly5]
   refine⟨hg,hs.1,hs.2,by omega,?_,by omega,by omega⟩;unfold AJ;rw[if_pos hg,e1];omega
  ·rw[if_neg hs]at h;have:=Pi (·.2.2) h;simp at this
 ·rw[if_neg hg]at h;have:=Pi (·.2.2) h;simp at this
end Go.Den
namespace Go.Z
theorem vF{T:TypeId}{o1 o2:Operand}{a b:Int}(h0:0<=a)(h1:0<b)(_h2:a<=9223372036854775807):Al (Gp .rem T o1 o2 (.int .i64 a) (.int .i64 b)) (.int .i64 (a % b)):=fun w=>by
 have:b≠0:=by omega
 rw[DE (fun w=>Gg _ _ _ _ _ _ _ _ w)];simp[binOp,Op.intDiv,this,mL h0]
theorem AaQ{T:TypeId}{o1 o2:Operand}{a b:Int}(h0:0<=a)(h1:0<b)(h2:a<=9223372036854775807):Al (Gp .quo T o1 o2 (.int .i64 a) (.int .i64 b)) (.int .i64 (a / b)):=fun w=>by
 have:b≠0:=by omega
 have e:a / b<=a:=Int.ediv_le_self b h0;have e0:=Int.ediv_nonneg h0 (Int.le_of_lt h1);have ew:IntKind.i64.wrap (a / b)=a / b:=Ag (by omega) (by omega);rw[DE (fun w=>Gg _ _ _ _ _ _ _ _ w)];simp[binOp,Op.intDiv,this,jI h0,ew]
section
variable{w:World}{K:Value->World->Prop}
theorem Hq{g:Gm}{k:Int}(hk:∀ w',Ab No w w'->K (.tuple #[.int .i64 (Bc g k).1,.int .i64 (Bc g k).2]) w'):A8 Tryz.prog ED #[.agg ⟨gV g⟩,.int .i64 k] w K:=by
 apply eP;unfold UG;obtain⟨w1,a1,a2,a3,a4⟩:=AC (P:=Tryz.prog) (w:=w) (T:=40) (cs:=gV g);refine⟨_,w1,a1,_,a2.at.all Aq rfl,Hr fun w2 m2=>⟨_,rfl,Aa (fun h=>?_) (fun h=>?_)⟩⟩
 ·have e:Bc g k=(0,1):=by unfold Bc;rw[if_neg (by simpa using h)]
  rw[e]at hk;exact hk _ (a3.no m2)
 have h:CU g=true:=by simpa using h
 have hg:=Av.1 h;have hq:=a2.at.keep m2 id;refine Ac.cut (fun z w3=>w3=w2/\z=[.bool (!decide (0<=k/\k<g.gs))]) (Aa (fun h2=>⟨rfl,?_⟩) (fun h2=>⟨_,hq.fld Aj rfl,rfl,?_⟩)) ?_
 ·have h2:=Lc h2;rw[Lf (by omega)];rfl
 ·have h2:=Lb h2;rw[<- Lj5];have e:decide (k >= g.gs)=decide (¬ (0<=k/\k<g.gs)):=ZH.2 ⟨fun _=>by omega,fun _=>by omega⟩;rw[e]
 rintro z w3 ⟨rfl,rfl⟩;refine⟨_,rfl,Aa (fun h2=>?_) (fun h2=>⟨_,hq.fld Aj rfl,?_⟩)⟩
 ·have e:Bc g k=(0,3):=by unfold Bc;rw[if_pos h,if_neg (Lb (by simpa only [TW] using h2))]
  rw[e]at hk;exact hk _ (a3.no m2)
 ·have h2:0<=k/\k<g.gs:=by simpa using h2
  have e:Bc g k=(2+k*g.gr,0):=by unfold Bc;rw[if_pos h,if_pos h2]
  rw[e]at hk;have hp:=Kb (a:=k) (b:=g.gr) (m:=16) (n:=128) (by omega) (by omega) (by omega) (by omega);rw[Ag (x:=k*g.gr) (by omega) (by omega),Ag (by omega) (by omega)];exact hk _ (a3.no m2)
theorem gH{g:Gm}{s:Int}(h63:s<=9223372036854775807)(hk:∀ w',Ab No w w'->K (.tuple #[.int .i64 (B9 g s).1,.int .i64 (B9 g s).2.1,.int .i64 (B9 g s).2.2]) w'):A8 Tryz.prog Nj #[.agg ⟨gV g⟩,.int .i64 s] w K:=by
 apply Zw;unfold Td;obtain⟨w1,a1,a2,a3,a4⟩:=AC (P:=Tryz.prog) (w:=w) (T:=40) (cs:=gV g);refine⟨_,w1,a1,_,a2.at.all Aq rfl,Hr fun w2 m2=>⟨_,rfl,Aa (fun h=>?_) (fun h=>?_)⟩⟩
 ·have e:B9 g s=(0,0,1):=by unfold B9;rw[if_neg (by simpa using h)]
  rw[e]at hk;exact hk _ (a3.no m2)
 have h:CU g=true:=by simpa using h
 have hg:=Av.1 h;have hq:=a2.at.keep m2 id;refine Ac.cut (fun z w3=>Ab No w2 w3/\z=[.bool (!decide (0<=s/\s<AO g))]) (Aa (fun h2=>⟨Ab.refl _ _,?_⟩) (fun h2=>⟨_,hq.all Aq rfl,PX fun w3 m3=>⟨_,rfl,m3,?_⟩⟩)) ?_
 ·have h2:=Lc h2;rw[Lf (by omega)];rfl
 ·have h2:=Lb h2;rw[<- Lj5];have e:decide (s >= AO g)=decide (¬ (0<=s/\s<AO g)):=ZH.2 ⟨fun _=>by omega,fun _=>by omega⟩;rw[e]
 rintro z w3 ⟨m3,rfl⟩;have hq3:=hq.keep m3 id;refine⟨_,rfl,Aa (fun h2=>?_) (fun h2=>?_)⟩
 ·have e:B9 g s=(0,0,3):=by unfold B9;rw[if_pos h,if_neg (Lb (by simpa only [TW] using h2))]
  rw[e]at hk;exact hk _ (a3.no (m2.no m3))
 ·have h2:0<=s/\s<AO g:=by simpa using h2
  have hi:=U5 h h2.1 h2.2;refine⟨_,hq3.fld Aj rfl,_,vF h2.1 (by omega) h63,_,hq3.drew.all Aq rfl,_,hq3.drew.fld Aj rfl,_,AaQ h2.1 (by omega) h63,Hq fun w5 m5=>⟨_,_,rfl,?_⟩⟩;have e1:Bc g (s / g.no)=(2+s / g.no*g.gr,0):=by unfold Bc;rw[if_pos h,if_pos ⟨hi.1,hi.2.1⟩]
  have e:B9 g s=(2+s / g.no*g.gr+1+s % g.no / 4,s % g.no % 4,0):=by unfold B9;rw[if_pos h,if_pos h2]
  rw[e]at hk;have hp:=Kb (a:=s / g.no) (b:=g.gr) (m:=16) (n:=128) (by omega) (by omega) (by omega) (by omega);rw[e1,jI (by omega),mL (by omega),Ag (x:=2+s / g.no*g.gr+1) (by omega) (by omega),Ag (x:=s % g.no / 4) (by omega) (by omega),Ag (by omega) (by omega)];exact hk _ (a3.no (m2.no (m3.drew.no m5)))
-- the document's
theorem DN{g:Gm}(hk:∀ w',Ab No w w'->K (.bool (CU g)) w'):A8 Tryz.prog A0 #[.agg ⟨gV g⟩] w K:=by
 apply PB;unfold IT;obtain⟨w1,a1,a2,a3,a4⟩:=AC (P:=Tryz.prog) (w:=w) (T:=40) (cs:=gV g);have l0:Ru (Instr.loadAt 3 (.pointer (some (Addr.add ⟨w.heap.size,0,none⟩ 0)))) w1 (.int .i64 g.gr) w1:=a2.at.fld Aj rfl;have l1:Ru (Instr.loadAt 3 (.pointer (some (Addr.add ⟨w.heap.size,0,none⟩ 1)))) w1 (.int .i64 g.no) w1:=a2.at.fld Aj rfl;have l2:Ru (Instr.loadAt 3 (.pointer (some (Addr.add ⟨w.heap.size,0,none⟩ 2)))) w1 (.int .i64 g.gs) w1:=a2.at.fld Aj rfl
 have dc:∀{p q:Prop} [Decidable p] [Decidable q],(p↔q)->[Value.bool (decide p)]=[.bool (decide q)]:=fun h=>by rw[ZH.2 h]
 have dt:∀{q:Prop} [Decidable q],q->[Value.bool true]=[.bool (decide q)]:=fun h=>by rw[Le h]
 refine⟨_,w1,a1,Ac.cut (fun z w2=>w2=w1/\z=[.bool (decide (¬ (16<=g.gr/\g.gr<=128/\4<=g.no/\g.no<=64/\g.no % 4=0/\1<=g.gs/\g.gs<=16)))])
  ⟨_,l0,Aa (fun h=>⟨rfl,dt (by have:=Lc h;omega)⟩) fun h=>⟨_,l0,Aa (fun h=>⟨rfl,dt (by have:=Lc h;omega)⟩) fun h'=>⟨_,l1,Aa (fun h=>⟨rfl,dt (by have:=Lc h;omega)⟩) fun h2=>⟨_,l1,
   Aa (fun h=>⟨rfl,dt (by have:=Lc h;omega)⟩) fun h3=>⟨_,l1,Aa (fun h=>⟨rfl,dt ?_⟩) fun h4=>⟨_,l2,Aa (fun h=>⟨rfl,dt (by have:=Lc h;omega)⟩) fun h5=>⟨_,l2,rfl,dc ?_⟩⟩⟩⟩⟩⟩⟩ ?_⟩
 ·have h2:=Lb h2;rw[Di,mL (by omega)]at h;have h:=Lc h;omega
 ·have h:=Lb h;have h':=Lb h';have h2:=Lb h2;have h3:=Lb h3;have h5:=Lb h5;rw[Di,mL (by omega)]at h4;have h4:=Lb h4;omega
 rintro z w2 ⟨rfl,rfl⟩;refine⟨_,rfl,Aa (fun h=>?_) (fun h=>?_)⟩
 ·have h:=Lc h;have e:CU g=false:=by rw[Bool.eq_false_iff];exact fun e=>h (by have:=Av.1 e;omega)
  rw[<- e];exact hk _ a3
 have h:16<=g.gr/\g.gr<=128/\4<=g.no/\g.no<=64/\g.no % 4=0/\1<=g.gs/\g.gs<=16:=by simpa using h
 have hp:=Kb (a:=g.gs) (b:=g.gr) (m:=16) (n:=128) (by omega) (by omega) (by omega) (by omega);have hend:∀(b:Bool),(b=true↔4<=g.gr-1-g.no / 4/\2+g.gs*g.gr<=4096)->K (.bool b) w2:=fun b hb=>by
  have e:b=CU g:=by rw[Lu,hb,Av];omega
  rw[e];exact hk _ a3
 refine Ac.dup ⟨_,l0,_,l1,?_⟩;rw[jI (by omega),Ag (x:=g.gr-1) (by omega) (by omega),Ag (x:=g.no / 4) (by omega) (by omega),Ag (x:=g.gr-1-g.no / 4) (by omega) (by omega)];refine Aa (fun h3=>⟨_,l2,_,l0,?_⟩) (fun h3=>⟨_,rfl,hend _ ?_⟩)
 ·have h3:=Lc h3;rw[Ag (x:=g.gs*g.gr) (by omega) (by omega),Ag (by omega) (by omega)];exact⟨_,rfl,hend _ (by rw[Wv];omega)⟩
 ·have h3:=Lb h3;constructor
  ·intro e;cases e
  ·intro e;omega
theorem L7{g:Gm}(hk:∀ w',Ab No w w'->K (.int .i64 (AJ g)) w'):A8 Tryz.prog Bu #[.agg ⟨gV g⟩] w K:=by
 apply Qx;unfold JA;obtain⟨w1,a1,a2,a3,a4⟩:=AC (P:=Tryz.prog) (w:=w) (T:=40) (cs:=gV g);refine⟨_,w1,a1,_,a2.at.all Aq rfl,DN fun w2 m2=>⟨_,rfl,Aa (fun h=>?_) (fun h=>?_)⟩⟩
 ·have e:AJ g=0:=by unfold AJ;rw[if_neg (by simpa using h)]
  rw[<- e];exact hk _ (a3.no m2)
 ·have h:CU g=true:=by simpa using h
  have hg:=Av.1 h;have hq:=a2.at.keep m2 id;refine⟨_,hq.fld Aj rfl,_,hq.fld Aj rfl,?_⟩;have hp:=Kb (a:=g.gs) (b:=g.gr) (m:=16) (n:=128) (by omega) (by omega) (by omega) (by omega);have e:AJ g=2+g.gs*g.gr:=by unfold AJ;rw[if_pos h]
  rw[Ag (x:=g.gs*g.gr) (by omega) (by omega),Ag (by omega) (by omega),<- e];exact hk _ (a3.no m2)
theorem XP{g:Gm}(hk:∀ w',Ab No w w'->K (.int .i64 (AO g)) w'):A8 Tryz.prog Ct #[.agg ⟨gV g⟩] w K:=by
 apply PC;unfold IU;obtain⟨w1,a1,a2,a3,a4⟩:=AC (P:=Tryz.prog) (w:=w) (T:=40) (cs:=gV g);refine⟨_,w1,a1,_,a2.at.all Aq rfl,DN fun w2 m2=>⟨_,rfl,Aa (fun h=>?_) (fun h=>?_)⟩⟩
 ·have e:AO g=0:=by unfold AO;rw[if_neg (by simpa using h)]
  rw[<- e];exact hk _ (a3.no m2)
 ·have h:CU g=true:=by simpa using h
  have hq:=a2.at.keep m2 id;refine⟨_,hq.fld Aj rfl,_,hq.fld Aj rfl,?_⟩;have hb:=Rj (g:=g);have e:AO g=g.gs*g.no:=by unfold AO;rw[if_pos h]
  rw[<- e,Ag (by omega) (by omega)];exact hk _ (a3.no m2)
theorem vH{g:Gm}(hk:∀ w',Ab No w w'->K (.int .i64 (AM g)) w'):A8 Tryz.prog Fk #[.agg ⟨gV g⟩] w K:=by
 apply OD;unfold Il;obtain⟨w1,a1,a2,a3,a4⟩:=AC (P:=Tryz.prog) (w:=w) (T:=40) (cs:=gV g);refine⟨_,w1,a1,_,a2.at.all Aq rfl,DN fun w2 m2=>⟨_,rfl,Aa (fun h=>?_) (fun h=>?_)⟩⟩
 ·have e:AM g=0:=by unfold AM;rw[if_neg (by simpa using h)]
  rw[<- e];exact hk _ (a3.no m2)
 ·have h:CU g=true:=by simpa using h
  have hg:=Av.1 h;have hq:=a2.at.keep m2 id;refine⟨_,hq.fld Aj rfl,?_⟩;have e:AM g=g.no / 4:=by unfold AM;rw[if_pos h]
  rw[jI (by omega),Ag (by omega) (by omega),<- e];exact hk _ (a3.no m2)
theorem cN{g:Gm}{k:Int}(hk:∀ w',Ab No w w'->K (.tuple #[.int .i64 (Bc g k).1,.int .i64 (Bc g k).2]) w'):A8 Tryz.prog E6 #[.agg ⟨gV g⟩,.int .i64 k] w K:=by
 apply Qw;unfold J9;obtain⟨w1,a1,a2,a3,a4⟩:=AC (P:=Tryz.prog) (w:=w) (T:=40) (cs:=gV g);refine⟨_,w1,a1,_,a2.at.all Aq rfl,DN fun w2 m2=>⟨_,rfl,Aa (fun h=>?_) (fun h=>?_)⟩⟩
 ·have e:Bc g k=(0,1):=by unfold Bc;rw[if_neg (by simpa using h)]
  rw[e]at hk;exact hk _ (a3.no m2)
 have h:CU g=true:=by simpa using h
 have hg:=Av.1 h;have hq:=a2.at.keep m2 id;refine Ac.cut (fun z w3=>w3=w2/\z=[.bool (!decide (0<=k/\k<g.gs))]) (Aa (fun h2=>⟨rfl,?_⟩) (fun h2=>⟨_,hq.fld Aj rfl,rfl,?_⟩)) ?_
 ·have h2:=Lc h2;rw[Lf (by omega)];rfl
 ·have h2:=Lb h2;rw[<- Lj5];have e:decide (k >= g.gs)=decide (¬ (0<=k/\k<g.gs)):=ZH.2 ⟨fun _=>by omega,fun _=>by omega⟩;rw[e]
 rintro z w3 ⟨rfl,rfl⟩;refine⟨_,rfl,Aa (fun h2=>?_) (fun h2=>⟨_,hq.fld Aj rfl,?_⟩)⟩
 ·have e:Bc g k=(0,3):=by unfold Bc;rw[if_pos h,if_neg (Lb (by simpa only [TW] using h2))]
  rw[e]at hk;exact hk _ (a3.no m2)
 ·have h2:0<=k/\k<g.gs:=by simpa using h2
  have e:Bc g k=(2+k*g.gr,0):=by unfold Bc;rw[if_pos h,if_pos h2]
  rw[e]at hk;have hp:=Kb (a:=k) (b:=g.gr) (m:=16) (n:=128) (by omega) (by omega) (by omega) (by omega);rw[Ag (x:=k*g.gr) (by omega) (by omega),Ag (by omega) (by omega)];exact hk _ (a3.no m2)
theorem pE{g:Gm}{s:Int}(h63:s<=9223372036854775807)(hk:∀ w',Ab No w w'->K (.tuple #[.int .i64 (B9 g s).1,.int .i64 (B9 g s).2.1,.int .i64 (B9 g s).2.2]) w'):A8 Tryz.prog FG #[.agg ⟨gV g⟩,.int .i64 s] w K:=by
 apply PA;unfold IS;obtain⟨w1,a1,a2,a3,a4⟩:=AC (P:=Tryz.prog) (w:=w) (T:=40) (cs:=gV g);refine⟨_,w1,a1,_,a2.at.all Aq rfl,DN fun w2 m2=>⟨_,rfl,Aa (fun h=>?_) (fun h=>?_)⟩⟩
 ·have e:B9 g s=(0,0,1):=by unfold B9;rw[if_neg (by simpa using h)]
  rw[e]at hk;exact hk _ (a3.no m2)
 have h:CU g=true:=by simpa using h
 have hg:=Av.1 h;have hq:=a2.at.keep m2 id;refine Ac.cut (fun z w3=>Ab No w2 w3/\z=[.bool (!decide (0<=s/\s<AO g))]) (Aa (fun h2=>⟨Ab.refl _ _,?_⟩) (fun h2=>⟨_,hq.all Aq rfl,XP fun w3 m3=>⟨_,rfl,m3,?_⟩⟩)) ?_
 ·have h2:=Lc h2;rw[Lf (by omega)];rfl
 ·have h2:=Lb h2;rw[<- Lj5];have e:decide (s >= AO g)=decide (¬ (0<=s/\s<AO g)):=ZH.2 ⟨fun _=>by omega,fun _=>by omega⟩;rw[e]
 rintro z w3 ⟨m3,rfl⟩;have hq3:=hq.keep m3 id;refine⟨_,rfl,Aa (fun h2=>?_) (fun h2=>?_)⟩
 ·have e:B9 g s=(0,0,3):=by unfold B9;rw[if_pos h,if_neg (Lb (by simpa only [TW] using h2))]
  rw[e]at hk;exact hk _ (a3.no (m2.no m3))
 ·have h2:0<=s/\s<AO g:=by simpa using h2
  have hi:=U5 h h2.1 h2.2;refine⟨_,hq3.fld Aj rfl,_,AaQ h2.1 (by omega) h63,_,hq3.fld Aj rfl,_,vF h2.1 (by omega) h63,_,hq3.fld Aj rfl,?_⟩;have e:B9 g s=(2+s / g.no*g.gr+1+s % g.no / 4,s % g.no % 4,0):=by unfold B9;rw[if_pos h,if_pos h2]
  rw[e]at hk;have hp:=Kb (a:=s / g.no) (b:=g.gr) (m:=16) (n:=128) (by omega) (by omega) (by omega) (by omega);rw[jI (by omega),mL (by omega),Ag (x:=s / g.no*g.gr) (by omega) (by omega),Ag (x:=2+s / g.no*g.gr) (by omega) (by omega),Ag (x:=2+s / g.no*g.gr+1) (by omega) (by omega),Ag (x:=s % g.no / 4) (by omega) (by omega),Ag (by omega) (by omega)]
  exact hk _ (a3.no (m2.no m3))
end
def bad(off n:Int):Bool:=decide (n<1) || decide (off<0) || decide (off > 1066496) || decide (n > 1066496-off)
end Go.Z
end
section
open Go Go.Den Go.Proofs
namespace Go.Den
theorem Xh{a:Option Addr}{c i k:Nat}(h:Cb a c i k=none):a=none:=by
 unfold Cb at h;split at h
 ·exact h
 ·cases a<;>simp_all
theorem Bl.cut{w:World}{a:Option Addr}{c i m:Nat}{xs:List UInt8}(h:Bl w a (Au xs))(him:i+m<=xs.length)(hc:xs.length<=c):Bl w (Cb a c i 1) (Au ((xs.drop i).take m)):=by
 by_cases hm:m=0
 ·left;subst hm;simp[Au]
 ·exact h.sub him hc (by omega)
end Go.Den
namespace Go.Z
theorem Rt:∀ k n,n<256 ^ k->BW (Bg k n)=n
 | 0,n,h=>by simp at h;simp[Bg,BW,h]
 | k+1,n,h=>by
  simp only[Bg,BW];rw[Rt k (n / 256) (by rw[Lo4]at h;omega)];have:(UInt8.ofNat (n % 256)).toNat=n % 256:=by rw[Lr3];omega
  rw[this];omega
theorem Wh:∀(xs:List UInt8){k:Nat},xs.length=k->Bg k (BW xs)=xs
 | [],0,_=>rfl
 | c::r,k+1,h=>by
  have hc:=c.toNat_lt;have e:BW (c::r)=c.toNat+256*BW r:=rfl;rw[Bg,e,show(c.toNat+256*BW r) % 256=c.toNat by omega,show(c.toNat+256*BW r) / 256=BW r by omega,Wh r (by simpa using h),UInt8.ofNat_toNat]
structure Sp where
 gen:Int
 geo:Gm
deriving DecidableEq
def sZ:Sp:=⟨0,gZ⟩
def sV(s:Sp):List Value:=.int .i64 s.gen::gV s.geo
def OZ(s:Sp):Bool:=decide (1<=s.gen/\s.gen<=4611686018427387904)&&CU s.geo
theorem H3{s:Sp}:OZ s=true↔(1<=s.gen/\s.gen<=4611686018427387904)/\CU s.geo=true:=by
 unfold OZ;rw[Lp,Wv]
def DX:List UInt8:=[76,86,69,69]
def Ic(s:Sp):List UInt8:=DX++Bg 8 s.gen.toNat++Bg 2 s.geo.gr.toNat++Bg 2 s.geo.no.toNat++Bg 2 s.geo.gs.toNat
def DW(s:Sp):List UInt8:=Ic s++List.replicate 234 0
def DR(s:Sp):List UInt8:=DW s++Bg 4 (Zs (DW s))
theorem Qc(s:Sp):(Ic s).length=18:=by simp[Ic,DX]
theorem DO(s:Sp):(DW s).length=252:=by rw[DW,Ls,Qc,TV]
theorem HR(s:Sp):(DR s).length=256:=by simp[DR,DO]
def Gl(xs:List UInt8):Sp:=⟨IntKind.i64.wrap (BW ((xs.drop 4).take 8)),⟨BW ((xs.drop 12).take 2),BW ((xs.drop 14).take 2),BW ((xs.drop 16).take 2)⟩⟩
def CT(xs:List UInt8):Sp×Int :=
 if xs.length≠256 then(sZ,4)else if xs.take 4≠DX then(sZ,8)else if BW (xs.drop 252)≠Zs (xs.take 252)then(sZ,7)
 else if OZ (Gl xs)=false then(sZ,1)else if ((xs.drop 18).take 234).all (·==0)=false then(sZ,8)else(Gl xs,0)
theorem U6{xs:List UInt8}(h:(CT xs).2=0):OZ (CT xs).1=true/\(CT xs).1=Gl xs:=by
 unfold CT at h |-
 split at h
 ·cases h
 split at h
 ·cases h
 split at h
 ·cases h
 split at h
 ·cases h
 split at h
 ·cases h
 rename_i h1 h2 h3 h4 h5;rw[if_neg h1,if_neg h2,if_neg h3,if_neg h4,if_neg h5];exact⟨by simpa using h4,rfl⟩
theorem sT{n:Nat}(h1:n<18446744073709551616)(h0:1<=IntKind.i64.wrap (n:Int)):IntKind.i64.wrap (n:Int)=n:=by
 by_cases h:n<=9223372036854775807
 ·exact Ag (by omega) (by omega)
 ·exfalso;simp only[IntKind.wrap,IntKind.bits,IntKind.signed]at h0;simp at h0;omega
theorem Dv{xs:List UInt8}{i m:Nat}(h:i+m<=xs.length):BW ((xs.drop i).take m)<256 ^ m:=by
 have:=VB ((xs.drop i).take m)
 rwa [List.length_take_of_le (by simp;omega)]at this
theorem HS{xs:List UInt8}{i m:Nat}(h:i+m<=xs.length):Bg m (BW ((xs.drop i).take m))=(xs.drop i).take m:=Wh _ (by simp;omega)
theorem sN{xs:List UInt8}(hl:xs.length=256)(h1:xs.take 4=DX)(hs:OZ (Gl xs)=true):Ic (Gl xs)=xs.take 18:=by
 have hg:=(H3.1 hs).1.1;have hw:=sT (n:=BW ((xs.drop 4).take 8)) (by have:=Dv (xs:=xs) (i:=4) (m:=8) (by omega);omega) hg;unfold Ic;rw[<- h1];have e1:(Gl xs).gen.toNat=BW ((xs.drop 4).take 8):=by
  show(IntKind.i64.wrap _).toNat=_;rw[hw];omega
 rw[e1];show _++_++Bg 2 (BW ((xs.drop 12).take 2))++Bg 2 (BW ((xs.drop 14).take 2))++Bg 2 (BW ((xs.drop 16).take 2))=_;rw[HS (by omega),HS (by omega),HS (by omega),HS (by omega)];rw[show xs.take 18=xs.take (4+(8+(2+(2+2))))from rfl,Lb6,Lb6,Lb6,Lb6];simp only[UO,WB]
theorem dD{xs:List UInt8}(hl:xs.length=256)(h1:xs.take 4=DX)(h2:BW (xs.drop 252)=Zs (xs.take 252))(hs:OZ (Gl xs)=true) :
  DR (Gl xs)=xs↔((xs.drop 18).take 234).all (·==0)=true:=by
 have hf:=sN hl h1 hs;have e252:xs.take 252=xs.take 18++(xs.drop 18).take 234:=by rw[show xs.take 252=xs.take (18+234)from rfl,Lb6]
 constructor
 ·intro e;have:(xs.drop 18).take 234=List.replicate 234 0:=by
   rw[<- e];unfold DR DW;rw[WB,WD,Lt (mK (Qc _)),Qc,fG,Uq,QN,Lv (mK List.length_replicate.symm),Lg (mK TV)]
  rw[this];exact dR.2 fun b hb=>by rw[(List.mem_replicate.1 hb).2];rfl
 ·intro hz;have hz:(xs.drop 18).take 234=List.replicate 234 0:=by
   apply List.eq_replicate_iff.2;refine⟨by simp;omega,fun b hb=>?_⟩
   have:=dR.1 hz b hb
   simpa using this
  have hh:DW (Gl xs)=xs.take 252:=by unfold DW;rw[hf,e252,hz]
  unfold DR;rw[hh,<- h2,Wh _ (by simp;omega),Lh2]
def B6(i:Int)(xs:List UInt8)(n:Int)(best:Sp):Sp :=
 if (CT xs).2=0/\(CT xs).1.gen % 2=i/\AJ (CT xs).1.geo<=n/\(CT xs).1.gen > best.gen then(CT xs).1 else best
def Cz(xs ys:List UInt8)(n:Int):Sp:=B6 1 ys n (B6 0 xs n sZ)
def BR(xs ys:List UInt8)(n:Int):Sp×Int×Int:=if Cz xs ys n=sZ then(sZ,0,10)else(Cz xs ys n,(Cz xs ys n).gen % 2,0)
theorem zs{pre ys:List UInt8}{n i:Nat}(hi:pre.length=i)(_hn:ys.length<=n):AA (Au (pre++List.replicate n 0)) i (Au ys)=Au ((pre++ys)++List.replicate (n-ys.length) 0):=by
 subst hi;rw[Mm]
 congr 1
 rw[List.take_left' rfl,WD,Lt (by omega),QN,show pre.length+ys.length-pre.length=ys.length by omega,List.drop_replicate]
theorem Ft(s:Sp):∀ v∈sV s,v.oneCell'=true:=by
 intro v hv;simp only[sV,gV,Lz,Li5,or_false]at hv;rcases hv with rfl | rfl | rfl | rfl<;>rfl
theorem aL{w:World}{T S ty:TypeId}{b o i n c:Nat}{cs:List Value}{xs:List UInt8}(hT:Ge Tryz.prog T=some 1)(hd:A1 w b o cs)(hin:i+n<=cs.length)(hn:xs.length<=n) :
  ∃ w',(Builtin.copy_ #[T,S] ty #[.slice (some ⟨b,o+i,none⟩) n c,.string ⟨xs.toArray⟩]).run Tryz.prog w=.ok (.int .i64 (xs.length:Nat)) w' /\
   A1 w' b o (AA cs i (Au xs))/\Ab (fun x=>x=b) w w'/\w'.heap.size=w.heap.size:=by
 obtain⟨e,inf,he,hi,hk⟩:=JW hT;obtain⟨w',h1,h2,h3,h4⟩:=hd.stores (P:=Tryz.prog) (i:=i) (vs:=Au xs) (by simp;omega) (BF xs);refine⟨w',?_,h2,h3,h4⟩;have hm:Nat.min (ByteArray.size ⟨xs.toArray⟩) n=xs.length:=by
  have:(ByteArray.size ⟨xs.toArray⟩)=xs.length:=by simp[ByteArray.size]
  rw[this];exact Le4 hn
 have hc:(Builtin.firstCells 1 xs.length (.string ⟨xs.toArray⟩)).run Tryz.prog w=.ok ⟨Au xs⟩ w:=by
  have e:((ByteArray.extract ⟨xs.toArray⟩ 0 xs.length).data.map fun b:UInt8=>(Value.int .u8 b.toNat))=⟨Au xs⟩:=by
   rw[ByteArray.extract_mk];simp[Au,u8]
  simp only[Builtin.firstCells,Sem.run_pure,e]
 simp[Builtin.copy_,AI he,Builtin.lenOf,sizeOf,typeInfo,hi,hk,hm,hc,h1,goInt]
end Go.Z
end
section
open Go Go.Den Go.Proofs
namespace Go.Den
theorem kE{xs:List UInt8}{k:Nat}:(xs.getD k 0).toNat<256:=(xs.getD k 0).toNat_lt
def Pa(xs:List UInt8)(i:Nat):List UInt8:=xs.set (i / 8) (UInt8.ofNat ((xs.getD (i / 8) 0).toNat ||| 2 ^ (i % 8)))
theorem RM(xs:List UInt8)(i:Nat):(Pa xs i).length=xs.length:=by simp[Pa]
theorem p8{k:Nat}:(2:Nat) ^ (k % 8)<256:=by
 have:(2:Nat) ^ (k % 8)<=2 ^ 7:=Ld3 (by omega) (by omega);omega
theorem XW(xs:List UInt8)(i:Nat):(UInt8.ofNat ((xs.getD (i / 8) 0).toNat ||| 2 ^ (i % 8))).toNat=(xs.getD (i / 8) 0).toNat ||| 2 ^ (i % 8):=by
 have:=xX (n:=8) (kE (xs:=xs) (k:=i / 8)) (p8 (k:=i))
 rw[Lr3];omega
theorem NS{xs:List UInt8}{i j:Nat}(hi:i<8*xs.length):AN (Pa xs i) j=(AN xs j || decide (i=j)):=by
 unfold AN Pa;by_cases hj:i / 8=j / 8
 ·rw[<- hj,Lj,Zp (by omega)];show(UInt8.ofNat _).toNat.testBit _=_;rw[XW,Lc4,Ls2]
  congr 1
  exact ZH.2 ⟨fun h=>by omega,fun h=>by rw[h]⟩
 ·rw[Lj,ZK hj,<- Lj,Lf (fun h=>hj (by rw[h])),Lt4]
theorem S1{k j:Nat}:AN (List.replicate k 0) j=false:=by
 unfold AN;have:(List.replicate k (0:UInt8)).getD (j / 8) 0=0:=by
  rw[Lj,Ls4];split<;>rfl
 rw[this];exact Nat.zero_testBit _
def DG:Nat->List UInt8
 | 0=>List.replicate 16 0
 | j+1=>Pa (DG j) j
theorem Ev:∀ m,(DG m).length=16
 | 0=>by simp[DG]
 | j+1=>by rw[DG,RM,Ev j]
theorem NR:∀{m:Nat},m<=128->∀ j,AN (DG m) j=decide (j<m)
 | 0,_,j=>by rw[DG,S1];simp
 | m+1,h,j=>by
  rw[DG,NS (by rw[Ev];omega),NR (by omega) j,Lu];simp;omega
def My(no:Int):List UInt8:=if no=0 then 3::List.replicate 7 0 else List.replicate 8 0
theorem S0(no:Int):(My no).length=8:=by unfold My;split<;>simp
theorem PS(no:Int)(j:Nat):AN (My no) j=(decide (no=0)&&decide (j<2)):=by
 unfold My;by_cases h:no=0
 ·rw[if_pos h,Le h,Ws];have e:(3::List.replicate 7 (0:UInt8))=Pa (Pa (List.replicate 8 0) 0) 1:=by decide
  rw[e,NS (by rw[RM];simp),NS (by simp),S1,Lu];simp;omega
 ·rw[if_neg h,Lf h,S1];rfl
structure Hd where
 no:Int
 bs:List UInt8
 ss:List UInt8
deriving DecidableEq
def hZ:Hd:=⟨0,List.replicate 16 0,List.replicate 8 0⟩
def Fq(h:Hd):Prop:=h.bs.length=16/\h.ss.length=8
def hV(h:Hd):List Value:=.int .i64 h.no::(Au h.bs++Au h.ss)
theorem Aw{h:Hd}(w:Fq h):(hV h).length=25:=by
 obtain⟨h1,h2⟩:=w;simp[hV,h1,h2]
def AG(g:Gm)(no:Int):Hd:=⟨no,DG (1+(AM g).toNat),My no⟩
theorem Da(g:Gm)(no:Int):Fq (AG g no):=⟨Ev _,S0 _⟩
def I8(g:Gm)(h:Hd):Bool:=CU g&&decide (0<=h.no/\h.no<g.gs) &&
 ((List.range 128).all fun i=>(!decide ((i:Int)<1+g.no / 4) || AN h.bs i)&&(!decide (g.gr<=(i:Int)) || !AN h.bs i)) &&
 ((List.range 64).all fun i=>(!decide (g.no<=(i:Int)) || !AN h.ss i)&&(!decide (h.no=0/\i<2) || AN h.ss i))
theorem Co{g:Gm}{h:Hd}:I8 g h=true↔CU g=true/\(0<=h.no/\h.no<g.gs)/\(∀ i:Nat,i<128->((i:Int)<1+g.no / 4->AN h.bs i=true)/\(g.gr<=(i:Int)->AN h.bs i=false)) /\
  (∀ i:Nat,i<64->(g.no<=(i:Int)->AN h.ss i=false)/\(h.no=0->i<2->AN h.ss i=true)):=by
 unfold I8;simp only[Lp,dR,Ty,Ls3,TW,Lw,xZ,and_assoc];refine Lh6 fun _=>Lh6 fun _=>Lh6 fun _=>Ll6 ?_ ?_
 ·refine Lm6 fun i=>Lm6 fun _=>Ll6 ?_ ?_
  ·by_cases h1:(i:Int)<1+g.no / 4<;>simp[h1]
  ·by_cases h1:g.gr<=(i:Int)<;>simp[h1]
 ·refine Lm6 fun i=>Lm6 fun _=>Ll6 ?_ ?_
  ·by_cases h1:g.no<=(i:Int)<;>simp[h1]
  ·by_cases h1:h.no=0<;>by_cases h2:i<2<;>simp[h1,h2]
def TF(xs ys:List UInt8):List UInt8:=xs.zipWith (fun a b=>UInt8.ofNat (a.toNat ||| b.toNat)) ys
theorem lC(a b:UInt8):(UInt8.ofNat (a.toNat ||| b.toNat)).toNat=a.toNat ||| b.toNat:=by
 have:=xX (n:=8) a.toNat_lt b.toNat_lt
 rw[Lr3];omega
theorem YY:∀{xs ys:List UInt8},xs.length=ys.length->(TF xs ys=xs↔∀ i,i<8*xs.length->AN ys i=true->AN xs i=true)
 | [],[],_=>by simp[TF]
 | a::xs,b::ys,h=>by
  have ih:=YY (xs:=xs) (ys:=ys) (by simpa using h);have e:TF (a::xs) (b::ys)=UInt8.ofNat (a.toNat ||| b.toNat)::TF xs ys:=rfl;rw[e,List.cons.injEq,ih];have hb:∀(c:UInt8)(zs:List UInt8)(i:Nat),AN (c::zs) i=if i<8 then c.toNat.testBit i else AN zs (i-8):=fun c zs i=>by
   unfold AN;by_cases hi:i<8
   ·rw[if_pos hi,show i / 8=0 by omega,show i % 8=i by omega];rfl
   ·rw[if_neg hi,show i / 8=(i-8) / 8+1 by omega,show i % 8=(i-8) % 8 by omega];rfl
  constructor
  ·rintro⟨h1,h2⟩ i hi;rw[hb,hb];by_cases h8:i<8
   ·rw[if_pos h8,if_pos h8];intro ht;rw[<- h1,lC,Lc4,ht,Bool.or_true]
   ·rw[if_neg h8,if_neg h8];simp at hi;exact h2 (i-8) (by omega)
  ·intro hh;constructor
   ·apply Ly4.1;rw[lC];apply Lz3;intro i;rw[Lc4];by_cases h8:i<8
    ·have:=hh i (by simp;omega)
     rw[hb,hb,if_pos h8,if_pos h8]at this;cases ht:b.toNat.testBit i with
     | true=>rw[this ht];rfl
     | false=>simp
    ·have:b.toNat.testBit i=false:=Nat.testBit_lt_two_pow (jJ b.toNat_lt (Ld3 (n:=2) (by omega) (by omega:8<=i)));rw[this,Lt4]
   ·intro i hi
    have:=hh (i+8) (by simp;omega)
    rw[hb,hb,if_neg (by omega),if_neg (by omega),Nat.add_sub_cancel]at this;exact this
 | [],_::_,h=>by cases h
 | _::_,[],h=>by cases h
theorem tB{g:Gm}{h:Hd}(hw:Fq h)(hg:CU g=true)(hn:0<=h.no/\h.no<g.gs) :
  ((TF h.bs (AG g h.no).bs=h.bs/\TF h.ss (AG g h.no).ss=h.ss)/\BK h.bs g.gr.toNat=BK h.bs 128/\BK h.ss g.no.toNat=BK h.ss 64)↔I8 g h=true:=by
 have hq:=Av.1 hg;rw[YY (by rw[hw.1];exact(Ev _).symm),YY (by rw[hw.2];exact(S0 _).symm),hw.1,hw.2,Co];have c1:=HJ (xs:=h.bs) (m:=g.gr.toNat) (k:=128-g.gr.toNat);have c2:=HJ (xs:=h.ss) (m:=g.no.toNat) (k:=64-g.no.toNat);rw[show g.gr.toNat+(128-g.gr.toNat)=128 by omega]at c1;rw[show g.no.toNat+(64-g.no.toNat)=64 by omega]at c2;rw[c1,c2]
 have e1:∀ i,AN (AG g h.no).bs i=decide (i<1+(AM g).toNat):=fun i=>NR (by unfold AM;rw[if_pos hg];omega) i;have e2:∀ i,AN (AG g h.no).ss i=(decide (h.no=0)&&decide (i<2)):=PS _;have et:AM g=g.no / 4:=by unfold AM;rw[if_pos hg]
 constructor
 ·rintro⟨⟨h1,h2⟩,h3,h4⟩;refine⟨hg,hn,fun i hi=>⟨fun ht=>h1 i (by omega) (by rw[e1,et];exact Le (by omega)),fun ht=>h3 i (by omega) hi⟩,fun i hi=>⟨fun ht=>h4 i (by omega) hi,fun hz h2'=>h2 i (by omega) (by rw[e2,Le hz,Le h2'];rfl)⟩⟩
 ·rintro⟨_,_,h1,h2⟩;refine⟨⟨fun i hi hb=>(h1 i (by omega)).1 ?_,fun i hi hb=>?_⟩,fun i h3 h4=>(h1 i h4).2 (by omega),fun i h3 h4=>(h2 i h4).1 (by omega)⟩
  ·rw[e1,et]at hb
   have:=Lc hb
   omega
  ·rw[e2,Lp,Lw,Lw]at hb;exact(h2 i (by omega)).2 hb.1 hb.2
end Go.Den
end
section
open Go Go.Den
namespace Go.Den
inductive Kc where
 | i (k:IntKind)
 | s
 | b
deriving DecidableEq
def okc:Kc->Value->Prop
 | .i k,.int k' _=>k'=k
 | .s,.string _=>True
 | .b,.bool _=>True
 | _,_=>False
def G9(ks:List Kc)(xs:List Value):Prop:=ks.length=xs.length/\∀(j:Nat) k v,ks[j]?=some k->xs[j]?=some v->okc k v
theorem G9.left{ks js:List Kc}{xs:List Value}(h:G9 (ks++js) xs):G9 ks (xs.take ks.length):=by
 obtain⟨h1,h2⟩:=h;rw[Ls]at h1;refine⟨by rw[xF];omega,fun j k v hk hv=>?_⟩;have hj:=(Lh.1 hk).1;rw[Lp3,if_pos hj]at hv;exact h2 j k v (by rw[xW hj];exact hk) hv
theorem G9.right{ks js:List Kc}{xs:List Value}(h:G9 (ks++js) xs):G9 js (xs.drop ks.length):=by
 obtain⟨h1,h2⟩:=h;rw[Ls]at h1;refine⟨by rw[List.length_drop];omega,fun j k v hk hv=>?_⟩;rw[Lv2]at hv;exact h2 (ks.length+j) k v (by rw[Le2 (by omega)];simpa using hk) hv
section
variable{P:Program}
def eqF(f : TypeId → Option (List Kc)) : List Field → Nat → Option (List Kc)
  | [], _ => some []
  | g :: r, o => if g.offset = o ∧ (g.name == "_") = false then (match f g.type with
      | some ks => (match eqF f r (o + ks.length)with | some js => some (ks ++ js) | none => none)
      | none => none)else none
def xJ(P:Program):Nat->TypeId->Option (List Kc)
 | 0,_=>none
 | d+1,t=>match P.underlying t with
  | some .bool=>some [.b]
  | some (.int k)=>some [.i k]
  | some .string=>some [.s]
  | some (.array n e)=>(match xJ P d e with
   | some ks=>if Ei P t=some (n*ks.length)/\(P.info? e).isSome=true/\P.cellsOf e=ks.length then some (List.replicate n ks).flatten else none
   | none=>none)
  | some (.struct fs)=>(match eqF (xJ P d) fs.toList 0 with
   | some ks=>if Ei P t=some ks.length/\P.stoodInHeld t=false then some ks else none
   | none=>none)
  | _=>none
def bX(P:Program)(T:TypeId)(xs:List Value):Value:=if (Ei P T).isSome=true then .agg ⟨xs⟩else xs.headD undef
theorem XH{w:World}{T n:Nat}(h:Ei P T=some n){cs:List Value}{o:Nat}:(part T ⟨cs⟩ o).run P w=.ok (.agg ⟨(cs.drop o).take n⟩) w:=by
 obtain⟨h1,i,hi,hin⟩:=fL h;have e:(⟨cs⟩:Array Value).extract o (o+n)=⟨(cs.drop o).take n⟩:=by
  rw[List.extract_toArray,List.extract_eq_take_drop];simp
 simp[part,h1,sizeOf,typeInfo,hi,hin,e]
theorem WR{T:TypeId}{d:TypeDesc}(h:P.underlying T=some d)(h1:∀ fs,d≠.struct fs)(h2:∀ n e,d≠.array n e):Ei P T=none:=by
 unfold Ei;rw[h];cases d<;>first | exact absurd rfl (h1 _) | exact absurd rfl (h2 _ _) | rfl
theorem QZ{w:World}{m:Nat}{t:TypeId}{ks:List Kc}(h:xJ P m t=some ks){xs:List Value}{o:Nat}(hc:G9 ks ((xs.drop o).take ks.length)):(part t ⟨xs⟩ o).run P w=.ok (bX P t ((xs.drop o).take ks.length)) w:=by
 cases m with
 | zero=>cases h
 | succ m =>
  unfold xJ at h;have YV:∀(dd:TypeDesc)(k:Kc),P.underlying t=some dd->(∀ fs,dd≠.struct fs)->(∀ n e,dd≠.array n e)->ks=[k]->(part t ⟨xs⟩ o).run P w=.ok (bX P t ((xs.drop o).take ks.length)) w:=fun dd k hu n1 n2 e=>by
   subst e;have ho:o<xs.length:=by have h1:1=((xs.drop o).take 1).length:=hc.1;rw[xF,List.length_drop]at h1;omega
   have hv:xs[o]?=some xs[o]:=Lk ho;generalize xs[o]=v at hv;have e1:(xs.drop o).take [k].length=[v]:=by
    have:(xs.drop o).take 1=[v]:=by
     rw[List.take_one];simp[List.head?_drop,hv]
    exact this
   rw[Ol hu n1 n2 (by simpa using hv),e1];unfold bX;rw[WR hu n1 n2];rfl
  split at h
  ·rename_i hu;exact YV _ _ hu (by simp) (by simp) (Ln h).symm
  ·rename_i hu;exact YV _ _ hu (by simp) (by simp) (Ln h).symm
  ·rename_i hu;exact YV _ _ hu (by simp) (by simp) (Ln h).symm
  ·rename_i n e hu
   split at h
   ·rename_i js hj
    split at h
    ·rename_i hh;have e:(List.replicate n js).flatten.length=n*js.length:=by simp
     have h:=Ln h;subst h;rw[XH hh.1,e];unfold bX;rw[hh.1];rfl
    ·cases h
   ·cases h
  ·rename_i fs hu
   split at h
   ·rename_i js hj
    split at h
    ·rename_i hh;have h:=Ln h;subst h;rw[XH hh.1];unfold bX;rw[hh.1];rfl
    ·cases h
   ·cases h
  ·cases h
theorem jT{n:Nat}{a b:List Value}:(a.take n=b.take n/\a.drop n=b.drop n)↔a=b :=
 ⟨fun h=>by rw[<- Lh2 n a,<- Lh2 n b,h.1,h.2],fun h=>by rw[h];exact⟨rfl,rfl⟩⟩
def EqK(P:Program)(dd:Nat)(t:TypeId)(ks:List Kc):Prop:=∀(w:World)(xs ys:List Value),G9 ks xs->G9 ks ys->∃ r,(Op.equalIn dd t (bX P t xs) (bX P t ys)).run P w=.ok r w/\(r=true↔xs=ys)
theorem T9{m dd : Nat}(ih : ∀ t ks, xJ P m t = some ks → EqK P dd t ks)(w : World) : ∀(fs : List Field)(o : Nat)(ks : List Kc)(xs ys : List Value), eqF (xJ P m) fs o = some ks → G9 ks (xs.drop o) → G9 ks (ys.drop o) →
    ∃ r, (Op.eqFields dd ⟨xs⟩ ⟨ys⟩ fs).run P w = .ok r w ∧ (r = true ↔ xs.drop o = ys.drop o)
  | [], o, ks, xs, ys, h, hx, hy => by
    have h := Ln h;subst h;have e1 : xs.drop o = [] := fE hx.1.symm;have e2 : ys.drop o = [] := fE hy.1.symm;exact⟨true, by simp[Op.eqFields], by rw[e1, e2];simp⟩
  | f :: r, o, ks, xs, ys, h, hx, hy => by
    unfold eqF at h
    split at h
    · rename_i hf
      obtain ⟨ho, hn⟩ := hf;have hn : f.name ≠ "_" := by simpa using hn
      split at h
      · rename_i k1 hk1
        split at h
        · rename_i k2 hk2
          have h := Ln h;subst h;have p1 := QZ (w := w) hk1 (xs := xs) (o := o) hx.left;have p2 := QZ (w := w) hk1 (xs := ys) (o := o) hy.left;obtain⟨b, hb, hbi⟩ := ih _ _ hk1 w _ _ hx.left hy.left;obtain⟨b2, hb2, hbi2⟩ := T9 ih w r (o + k1.length) k2 xs ys hk2 (by rw[← UO];exact hx.right) (by rw[← UO];exact hy.right);rw[← UO, ← UO]at hbi2
          have key := jT (n := k1.length) (a := xs.drop o) (b := ys.drop o);rw[← ho]at p1 p2 hb;simp only[Op.eqFields, if_pos hn, Sem.run_bind, p1, p2, Result.andThen_ok, hb];cases b with
          | true => exact⟨b2, by simpa using hb2, by rw[hbi2, ← key];simp[hbi.1 rfl]⟩
          | false =>
            refine⟨false, by simp, ?_⟩;constructor
            · intro e;cases e
            · intro e
              have := hbi.2 (key.2 e).1
              cases this
        · cases h
      · cases h
    · cases h
theorem Vo{m dd:Nat}{e:TypeId}{ks:List Kc}(hk:xJ P m e=some ks)(ih:EqK P dd e ks)(w:World):∀(n i:Nat)(xs ys:List Value),G9 (List.replicate n ks).flatten (xs.drop (i*ks.length))->G9 (List.replicate n ks).flatten (ys.drop (i*ks.length)) ->
  ∃ r,(Op.eqItems dd e ks.length ⟨xs⟩ ⟨ys⟩ (List.range' i n)).run P w=.ok r w/\(r=true↔xs.drop (i*ks.length)=ys.drop (i*ks.length))
 | 0,i,xs,ys,hx,hy=>by
  have e1:xs.drop (i*ks.length)=[]:=fE hx.1.symm;have e2:ys.drop (i*ks.length)=[]:=fE hy.1.symm;exact⟨true,by simp[Op.eqItems],by rw[e1,e2];simp⟩
 | n+1,i,xs,ys,hx,hy=>by
  rw[List.replicate_succ,mN]at hx hy;have p1:=QZ (w:=w) hk (xs:=xs) (o:=i*ks.length) hx.left;have p2:=QZ (w:=w) hk (xs:=ys) (o:=i*ks.length) hy.left;obtain⟨b,hb,hbi⟩:=ih w _ _ hx.left hy.left;have e1:∀ zs:List Value,(zs.drop (i*ks.length)).drop ks.length=zs.drop ((i+1)*ks.length):=fun zs=>by rw[UO,Ln5,Nat.one_mul]
  obtain⟨b2,hb2,hbi2⟩:=Vo hk ih w n (i+1) xs ys (by rw[<- e1];exact hx.right) (by rw[<- e1];exact hy.right);rw[<- e1,<- e1]at hbi2;have key:=jT (n:=ks.length) (a:=xs.drop (i*ks.length)) (b:=ys.drop (i*ks.length));simp only[List.range'_succ,Op.eqItems,Sem.run_bind,p1,p2,Result.andThen_ok,hb];cases b with
  | true=>exact⟨b2,by simpa using hb2,by rw[hbi2,<- key];simp[hbi.1 rfl]⟩
  | false =>
   refine⟨false,by simp,?_⟩;constructor
   ·intro e;cases e
   ·intro e
    have:=hbi.2 (key.2 e).1
    cases this
theorem sE:∀(m:Nat)(t:TypeId)(ks:List Kc),xJ P m t=some ks->∀ d,EqK P (d+m) t ks
 | 0,_,_,h,_=>by cases h
 | m+1,t,ks,h,d=>by
  intro w xs ys hx hy;have h0:=h;unfold xJ at h;have YV:∀(dd:TypeDesc)(k:Kc),P.underlying t=some dd->(∀ fs,dd≠.struct fs)->(∀ n e,dd≠.array n e)->ks=[k]->(∀ u v,okc k u->okc k v->∃ r,(Op.equalIn (d+m+1) t u v).run P w=.ok r w/\(r=true↔u=v))->∃ r,(Op.equalIn (d+(m+1)) t (bX P t xs) (bX P t ys)).run P w=.ok r w/\(r=true↔xs=ys):=fun dd k hu n1 n2 e hk=>by
   subst e
   match xs,ys,hx,hy with
   | [u],[v],hx,hy =>
    have eu:∀ u,bX P t [u]=u:=fun u=>by unfold bX;rw[WR hu n1 n2];rfl
    rw[eu,eu];obtain⟨r,h1,h2⟩:=hk u v (hx.2 0 k u rfl rfl) (hy.2 0 k v rfl rfl);exact⟨r,h1,by rw[h2];simp⟩
   | [],_,hx,_=>cases hx.1
   | _::_::_,_,hx,_=>have:=hx.1;simp at this
   | [_],[],_,hy=>cases hy.1
   | [_],_::_::_,_,hy=>have:=hy.1;simp at this
  split at h
  ·rename_i hu;refine YV _ _ hu (by simp) (by simp) (Ln h).symm fun u v hu' hv'=>?_;cases u<;>first | exact hu'.elim | skip;cases v<;>first | exact hv'.elim | skip;exact⟨_,run_equalIn_bool w (d+m) t _ _ hu,by simp⟩
  ·rename_i k hu;refine YV _ _ hu (by simp) (by simp) (Ln h).symm fun u v hu' hv'=>?_;cases u<;>first | exact hu'.elim | skip;cases v<;>first | exact hv'.elim | skip;have e1:_=k:=hu';have e2:_=k:=hv';subst e1;subst e2;exact⟨_,run_equalIn_int w (d+m) t _ _ _ _ hu,by simp⟩
  ·rename_i hu;refine YV _ _ hu (by simp) (by simp) (Ln h).symm fun u v hu' hv'=>?_;cases u<;>first | exact hu'.elim | skip;cases v<;>first | exact hv'.elim | skip;refine⟨_,run_equalIn_string w (d+m) t _ _ hu,?_⟩;rw[xH];exact⟨fun e=>by rw[ByteArray.toList_eq,ByteArray.toList_eq]at e;exact Pi Value.string (ByteArray.ext (Array.toList_inj.1 e)),fun e=>by rw[Value.string.inj e]⟩
  ·rename_i n e hu
   split at h
   ·rename_i js hj
    split at h
    ·rename_i hh;have h:=Ln h;subst h;have ew:∀ zs,bX P t zs=.agg ⟨zs⟩:=fun zs=>by unfold bX;rw[hh.1];rfl
     obtain⟨i,hi⟩:=Option.isSome_iff_exists.1 hh.2.1;rw[ew,ew,show d+(m+1)=(d+m)+1 from rfl,run_equalIn_array w (d+m) ⟨xs⟩ ⟨ys⟩ hu hi,hh.2.2,List.range_eq_range']
     have:=Vo hj (sE m e js hj d) w n 0 xs ys (by simpa using hx) (by simpa using hy)
     simpa using this
    ·cases h
   ·cases h
  ·rename_i fs hu
   split at h
   ·rename_i js hj
    split at h
    ·rename_i hh;have h:=Ln h;subst h;have ew:∀ zs,bX P t zs=.agg ⟨zs⟩:=fun zs=>by unfold bX;rw[hh.1];rfl
     have hf:P.fieldsOf t=fs:=by unfold Program.fieldsOf;rw[hu]
     rw[ew,ew,show d+(m+1)=(d+m)+1 from rfl,run_equalIn_struct w (d+m) t ⟨xs⟩ ⟨ys⟩ (by rw[hf];exact hu) hh.2,hf]
     have:=T9 (fun t ks hk=>sE m t ks hk d) w fs.toList 0 js xs ys hj (by simpa using hx) (by simpa using hy)
     simpa using this
    ·cases h
   ·cases h
  ·cases h
theorem Uu{T:TypeId}{ks:List Kc}{n:Nat}(h:xJ P 6 T=some ks)(hg:P.eqGuardType P.depth T=false)(hn:Ei P T=some n){o1 o2:Operand}{xs ys:List Value}(hx:G9 ks xs)(hy:G9 ks ys)(w:World) :
  ∃ b,(b=true↔xs=ys)/\(Gp .eql T o1 o2 (.agg ⟨xs⟩) (.agg ⟨ys⟩)).run P w=.ok (.bool b) w/\(Gp .neq T o1 o2 (.agg ⟨xs⟩) (.agg ⟨ys⟩)).run P w=.ok (.bool (!b)) w:=by
 obtain⟨b,h1,h2⟩:=sE 6 T ks h 9994 w xs ys hx hy;have ew:∀ zs,bX P T zs=.agg ⟨zs⟩:=fun zs=>by unfold bX;rw[hn];rfl
 rw[ew,ew]at h1;refine⟨b,h2,?_,?_⟩
 ·rw[DE (fun w=>run_eqGuard_agg w _ T _ _ _ _ hg),run_eql_struct,h1];rfl
 ·rw[DE (fun w=>run_eqGuard_agg w _ T _ _ _ _ hg),run_neq_struct,h1];rfl
end
end Go.Den
end
section
open Go Go.Den Go.Proofs
namespace Go.Den
section
variable{P:Program}{w:World}
theorem At.elt{T:TypeId}{b j i:Nat}{cs:List Value}{v:Value}(h:At w b 0 cs)(hT:DQ P T=true)(hv:cs[j+i]?=some v):(Instr.loadAt T (.pointer (some (Addr.add (Addr.add ⟨b,0,none⟩ j) ((i:Int).toNat*1))))).run P w=.ok v w:=by
 rw[show(i:Int).toNat*1=i by omega];exact h.fld2 hT hv
theorem A1.putE{T:TypeId}{b j i:Nat}{cs:List Value}{v:Value}(h:A1 w b 0 cs)(hT:DQ P T=true)(hj:j+i<cs.length)(hv:v.oneCell'=true) :
  ∃ w',(Instr.storeAt T (.pointer (some (Addr.add (Addr.add ⟨b,0,none⟩ j) ((i:Int).toNat*1)))) v).run P w=.ok () w'/\A1 w' b 0 (cs.set (j+i) v)/\Ab (fun x=>x=b) w w'/\w'.heap.size=w.heap.size:=by
 rw[show(i:Int).toNat*1=i by omega,Ad,Ad,xQ];exact h.store hT hj hv
end
theorem AfW{h:Hd}{i:Nat}(hi:i<h.bs.length):(hV h)[1+i]?=some (.int .u8 (h.bs[i].toNat:Int)):=by
 unfold hV;rw[Nat.add_comm,List.getElem?_cons_succ,xW (by simpa using hi)];exact CP hi
theorem AhQ{h:Hd}{i:Nat}(hb:h.bs.length=16)(hi:i<h.ss.length):(hV h)[17+i]?=some (.int .u8 (h.ss[i].toNat:Int)):=by
 unfold hV;rw[show 17+i=(16+i)+1 by omega,List.getElem?_cons_succ,Le2 (by simp[hb]),Ak,hb,show 16+i-16=i by omega];exact CP hi
theorem Ov(xs:List UInt8)(i n:Nat)(hn:n<256):(Au xs).set i (.int .u8 (n:Int))=Au (xs.set i (UInt8.ofNat n)):=by
 unfold Au;rw[Lt5]
 congr 1
 have:(UInt8.ofNat n).toNat=n:=by rw[Lr3];omega
 simp[u8,this]
theorem kO{h:Hd}{i n:Nat}(hi:i<h.bs.length)(hn:n<256):(hV h).set (1+i) (.int .u8 (n:Int))=hV ⟨h.no,h.bs.set i (UInt8.ofNat n),h.ss⟩:=by
 unfold hV;rw[Nat.add_comm,List.set_cons_succ,List.set_append_left _ _ (by simpa using hi),Ov _ _ _ hn]
theorem kP{h:Hd}{i n:Nat}(hb:h.bs.length=16)(hn:n<256):(hV h).set (17+i) (.int .u8 (n:Int))=hV ⟨h.no,h.bs,h.ss.set i (UInt8.ofNat n)⟩:=by
 unfold hV;rw[show 17+i=(16+i)+1 by omega,List.set_cons_succ,List.set_append_right _ _ (by simp[hb]),Ak,hb,show 16+i-16=i by omega,Ov _ _ _ hn]
theorem Db(h:Hd):∀ v∈hV h,v.oneCell'=true:=by
 intro v hv;unfold hV at hv;rcases Lz.1 hv with rfl | hv
 ·rfl
 ·rcases Lq.1 hv with hv|hv
  ·exact BF _ v hv
  ·exact BF _ v hv
end Go.Den
namespace Go.Z
theorem Ax:Ei Tryz.prog 119=some 25:=by kernel_rfl
theorem B7:HT Tryz.prog 119=some (hV hZ):=by kernel_rfl
theorem DT:Al (Instr.build 119 #[]) (.agg ⟨hV hZ⟩):=fun w=>by kernel_rfl
theorem PT(n:Int):Al (Instr.build 119 #[(0,.int .i64 n)]) (.agg ⟨hV ⟨n,List.replicate 16 0,List.replicate 8 0⟩⟩):=fun w=>by kernel_rfl
theorem KO:PR Tryz.prog 116=some (16,1):=by kernel_rfl
theorem UU:PR Tryz.prog 117=some (8,1):=by kernel_rfl
theorem jO:Ei Tryz.prog 116=some 16:=by kernel_rfl
theorem yH:Ei Tryz.prog 117=some 8:=by kernel_rfl
theorem LC:DQ Tryz.prog 5=true:=by kernel_rfl
theorem DK:Fq hZ:=⟨rfl,rfl⟩
section
variable{w:World}{K:Value->World->Prop}
theorem Ac5{g:Gm}{no:Int}(hk:∀ w',Ab No w w'->K (.agg ⟨hV (AG g no)⟩) w'):A8 Tryz.prog LO #[.agg ⟨gV g⟩,.int .i64 no] w K:=by
 apply Yl;unfold QF;obtain⟨w1,a1,a2,a3,a4⟩:=AC (P:=Tryz.prog) (w:=w) (T:=40) (cs:=gV g);obtain⟨w2,b1,b2,b3,b4⟩:=A9 (P:=Tryz.prog) (w:=w1) (T:=119) B7;obtain⟨w3,c1,c2,c3,c4⟩:=A9 (P:=Tryz.prog) (w:=w2) (T:=119) B7;obtain⟨w4,d1,d2,d3,d4⟩:=c2.put (T:=119) (vs:=hV ⟨no,List.replicate 16 0,List.replicate 8 0⟩) Ax (Aw DK) (Aw ⟨rfl,rfl⟩) (Db _)
 have m24:Ab No w2 w4:=c3.own d3 (Ld _);refine⟨_,w1,a1,_,w2,b1,_,PT no,_,w3,c1,w4,d1,_,(a2.at.keep (b3.no m24) id).all Aq rfl,Oc fun w5 m5=>⟨_,rfl,?_⟩⟩;have m25:Ab No w2 w5:=m24.no m5;have ht:0<=AM g/\AM g<=16:=by
  unfold AM;split
  ·rename_i h;have:=Av.1 h;omega
  ·omega
 rw[Ag (x:=1+AM g) (by omega) (by omega)];refine⟨fun x w6=>∃ i:Nat,i<=1+(AM g).toNat/\x=[.int .i64 i]/\A1 w6 w2.heap.size 0 (hV ⟨no,DG i,List.replicate 8 0⟩)/\Ab No w2 w6,fun x _=>(1+(AM g).toNat-nI x 0).toNat,⟨0,by omega,rfl,d2.keep m5 id,m25⟩,?_⟩;rintro x w6 ⟨i,hi,rfl,hat,m6⟩;refine⟨_,rfl,Aa (fun h=>?_) (fun h=>?_)⟩
 ·have h:=Lc h;have hbl:(DG i).length=16:=Ev i;have hi8:i / 8<(DG i).length:=by omega
  rw[jI (by omega),mL (by omega),Ag (x:=(i:Int) / 8) (by omega) (by omega),show(i:Int) / 8=((i / 8:Nat):Int) by omega,show(i:Int) % 8=((i % 8:Nat):Int) by omega];refine⟨_,B5 KO (by omega) (by omega),((DG i)[i / 8].toNat:Int),hat.at.drew.elt (j:=1) LC (AfW hi8),_,vR (by omega),_,B5 KO (by omega) (by omega),?_⟩;rw[RH (mJ _ (by omega)),Uz ((DG i)[i / 8].toNat_lt) (iA (mJ _ (by omega)))]
  have hlt:=xX (n:=8) ((DG i)[i / 8].toNat_lt) (iA (k:=i % 8) (mJ _ (by omega)));obtain⟨w7,p1,p2,p3,p4⟩:=hat.drew.putE (P:=Tryz.prog) (T:=5) (j:=1) (i:=i / 8) (v:=.int .u8 (((DG i)[i / 8].toNat ||| 2 ^ (i % 8):Nat):Int)) LC (by rw[Aw ⟨hbl,rfl⟩];omega) rfl;refine⟨w7,p1,?_⟩;rw[kO hi8 hlt]at p2;have e:(DG i).set (i / 8) (UInt8.ofNat ((DG i)[i / 8].toNat ||| 2 ^ (i % 8)))=DG (i+1):=by
   rw[DG,Pa,Lj,Lk hi8];rfl
  rw[e]at p2;rw[Ag (x:=(i:Int)+1) (by omega) (by omega)];exact⟨⟨i+1,by omega,by simp,p2,m6.drew.own p3 (Ld _)⟩,by simp[nI,Ap];omega⟩
 ·have h:=Lb h;have hi2:i=1+(AM g).toNat:=by omega
  subst hi2;refine Ac.cut (fun z w9=>A1 w9 w2.heap.size 0 (hV (AG g no))/\Ab No w2 w9) ?_ ?_
  ·rw[GO];refine Aa (fun h0=>?_) (fun h0=>⟨?_,m6⟩)
   ·have h0:=Lc h0;obtain⟨w8,p1,p2,p3,p4⟩:=hat.putE (P:=Tryz.prog) (T:=5) (j:=17) (i:=0) (v:=.int .u8 ((3:Nat):Int)) LC (by rw[Aw ⟨Ev _,rfl⟩];omega) rfl;refine⟨_,B5 UU (by omega) (by omega),w8,p1,?_,m6.own p3 (Ld _)⟩;rw[kP (Ev _) (by omega)]at p2;have e:AG g no=⟨no,DG (1+(AM g).toNat),(List.replicate 8 (0:UInt8)).set 0 (UInt8.ofNat 3)⟩:=by
     unfold AG My;rw[if_pos h0];rfl
    rw[e];exact p2
   ·have h0:=Lb h0;have e:AG g no=⟨no,DG (1+(AM g).toNat),List.replicate 8 0⟩:=by
     unfold AG My;rw[if_neg h0]
    rw[e];exact hat
  ·rintro z w9 ⟨h9,m9⟩;have q4:=b2.keep m9 id;obtain⟨w10,e1,e2,e3,e4⟩:=q4.put (T:=119) (vs:=hV (AG g no)) Ax (Aw DK) (Aw (Da g no)) (Db _);refine⟨_,h9.at.all Ax (Aw (Da g no)),w10,e1,_,e2.at.all Ax (Aw (Da g no)),hk w10 (a3.no ((b3.no m9).own e3 (Ld _)))⟩
def GD(g:Gm)(no:Int):Hd×Int:=if CU g=true/\0<=no/\no<g.gs then(AG g no,0)else(hZ,1)
theorem Xu(g:Gm)(no:Int):Fq (GD g no).1:=by unfold GD;split;exact Da g no;exact DK
theorem Xq(g:Gm)(k:Int):(Bc g k).2=0↔CU g=true/\0<=k/\k<g.gs:=by
 unfold Bc;by_cases h:CU g=true
 ·rw[if_pos h];by_cases h2:0<=k/\k<g.gs
  ·rw[if_pos h2];exact⟨fun _=>⟨h,h2⟩,fun _=>rfl⟩
  ·rw[if_neg h2];exact⟨fun e=>(by cases e),fun e=>absurd e.2 h2⟩
 ·rw[if_neg h];exact⟨fun e=>(by cases e),fun e=>absurd e.1 h⟩
theorem kC{g:Gm}{no:Int}(hk:∀ w',Ab No w w'->K (.tuple #[.agg ⟨hV (GD g no).1⟩,.int .i64 (GD g no).2]) w'):A8 Tryz.prog Hz #[.agg ⟨gV g⟩,.int .i64 no] w K:=by
 apply Wy;unfold Pc;obtain⟨w1,a1,a2,a3,a4⟩:=AC (P:=Tryz.prog) (w:=w) (T:=40) (cs:=gV g);obtain⟨w2,b1,b2,b3,b4⟩:=A9 (P:=Tryz.prog) (w:=w1) (T:=119) B7;have fin:∀(w':World)(h:Hd)(e:Int),Ab No w2 w'->(h,e)=GD g no->∃ w3:World,Eh (Instr.storeAt 119 (.pointer (some ⟨w1.heap.size,0,none⟩)) (.agg ⟨hV h⟩)) w' w3/\∃ gR2:Array Value,Ru (Instr.loadAt 119 (.pointer (some ⟨w1.heap.size,0,none⟩))) w3 (.agg gR2) w3/\K (.tuple #[.agg gR2,.int .i64 e]) w3:=fun w' h e m he=>by
  have hw:Fq h:=by have:=Xu g no;rw[<- he]at this;exact this
  obtain⟨w3,c1,c2,c3,c4⟩:=(b2.keep m id).put (T:=119) (vs:=hV h) Ax (Aw DK) (Aw hw) (Db _);refine⟨w3,c1,_,c2.at.all Ax (Aw hw),?_⟩
  have:=hk w3 ((a3.no (b3.no m)).own c3 a3.size)
  rw[<- he]at this;exact this
 have hq:=a2.at.keep b3 id;refine⟨_,w1,a1,_,w2,b1,_,hq.all Aq rfl,Hq fun w3 m3=>⟨_,_,rfl,?_⟩⟩;rw[Di];refine Aa (fun h=>⟨_,DT,?_⟩) (fun h=>⟨_,(hq.keep m3 id).all Aq rfl,Ac5 fun w5 m5=>⟨_,rfl,?_⟩⟩)
 ·have h:=Lc h;exact fin w3 hZ 1 m3 (by unfold GD;rw[if_neg fun e=>h ((Xq g no).2 e)])
 ·have h:=Lb h;exact fin w5 _ 0 (m3.no m5) (by unfold GD;rw[if_pos ((Xq g no).1 (by omega))])
end
end Go.Z
end
