/- Parts of the proof, in order: what the statement leans on. -/
import Derived.Test.YtbeejkncceejgaaGreatBa
open Go.Proofs Go.Proofs.YtbeejkncceejgaaGreat
section
open Go Go.Den Go.Proofs
namespace Go.Z
set_option maxRecDepth 100000
theorem Ac {A:An} {f:FuncId} {fn:Func} {args:List Value} {w:World} {K:Value->World->Prop} {Q:Prop} (hf:Tryz.prog.funcs[f]?=some fn) (h:Q) (hok:okF args.length fn=true:=by kernel_rfl) (hn:(fn.name=="runtime.NumGoroutine")=false:=by kernel_rfl) (e:AcG Tryz.prog A fn args w K=Q:=by kernel_rfl):A7 Tryz.prog f args.toArray w K:=eP (A:=A) Vs hf hok hn (e.mpr h)
def GT(c:ByteArray)(l:Int)(e4:World)(K:YA):Prop :=
 YC P7 #[.pointer none] e4 fun d3 e5=>∃ b,d3=.pointer b/\YC BJ #[.pointer b,Yn 1,.string c,Yn 1,.slice none 0 0] e5 fun d4 e6=>∃ c1 s,d4=.tuple #[Yn c1,Yn s]/\YC BK #[.pointer b,Yn 2] e6 fun d5 e9=>∃ c2 t,d5=.tuple #[Yn c2,Yn t]/\YC BL #[.pointer b,Yn l] e9 fun d6 f0=>∃ c3 u,d6=.tuple #[Yn c3,Yn u]/\YC CA #[.pointer b,Yn 2] f0 fun d7 f1=>∃ j v,d7=.tuple #[.agg j,Yn v]/\∃ a5 b8,Yq 29 f1 a5 b8/\∃ b9,YE 29 a5 (.agg j) b8 b9/\YC Cj #[] b9 fun d8 g=>∃ d,d8=.pointer d/\(bif Option.isNone d then
 K (.bool false) g
 else
 ∃ a6,(.pointer d:Value)=.pointer (some a6)/\∃ a0,Yp 22 (Addr.add a6 1) g a0/\YC BJ #[.pointer a0,Yn 5,.string ⟨#[97]⟩,Yn 1,.slice none 0 0] g fun d9 c0=>∃ c4 w,d9=.tuple #[Yn c4,Yn w]/\∃ a7,(.pointer d:Value)=.pointer (some a7)/\∃ a1,Yp 22 (Addr.add a7 1) c0 a1/\YC BK #[.pointer a1,Yn 1] c0 fun e0 b0=>∃ c5 x,e0=.tuple #[Yn c5,Yn x]/\∃ a8,(.pointer d:Value)=.pointer (some a8)/\∃ a2,Yp 22 (Addr.add a8 1) b0 a2/\YC Ce #[.pointer a2,Yn 5,.string c] b0 fun e1 b1=>∃ y,e1=Yn y/\∃ a9,(.pointer d:Value)=.pointer (some a9)/\∃ a3,Yp 22 (Addr.add a9 1) b1 a3/\YC Dz #[.pointer a3,Yn 1,.string (⟨#[110,111,110,101]⟩),Yn 5,.string c] b1 fun e2 b2=>∃ z,e2=Yn z/\Ad (fun a=>(bif Option.isNone b then YC FV #[.pointer b] b2 fun e3 e=>∃ a4,e3=.pointer a4/\(bif Option.isNone a4 then(bif s==2 then(bif t==2 then(bif u==2 then(bif v==2 then YC J9 #[.pointer b,Yn 1,.string c,Yn 2] e fun c6 b3=>∃ m,c6=Yn m/\(bif m==2 then YC Ce #[.pointer b,Yn 1,.string c] b3 fun c7 b4=>∃ n,c7=Yn n/\(bif n==2 then YC Dz #[.pointer b,Yn 1,.string c,Yn 1,.string c] b4 fun c8 b5=>∃ o,c8=Yn o/\(bif o==2 then YC Dy #[.pointer b,Yn l] b5 fun c9 b6=>∃ p,c9=Yn p/\(bif p==2 then YC B9 #[.pointer b,Yn 2] b6 fun d0 b7=>∃ q,d0=Yn q/\(bif q==0 then YC JA #[.pointer b,Yn 2,Yn 3] b7 fun d1 f=>∃ r,d1=Yn r/\(bif r==0 then(bif w==20 then(bif x==22 then(bif y==20 then(bif z==20 then YC Fh #[] f fun d2 e7=>∃ h,d2=.bool h/\a [.bool h] e7 else a [.bool false] f)else a [.bool false] f)else a [.bool false] f)else a [.bool false] f)else a [.bool false] f)else a [.bool false] b7)else a [.bool false] b6)else a [.bool false] b5)else a [.bool false] b4)else a [.bool false] b3)else a [.bool false] e)else a [.bool false] e)else a [.bool false] e)else a [.bool false] e)else a [.bool false] e)else a [.bool false] b2)) fun f2 e8 =>
 ∃ i,A2 f2 0=.bool i/\K (.bool i) e8)
theorem Mw(s0:ByteArray)(n1:Int):Yz GY #[.string s0,Yn n1] (GT s0 n1):=fun _ _ h=>Ac (A:=⟨[4],[(4,4)],[]⟩) Tryz.func3 h
def P3(a:YB)(i:World)(K:YA):Prop :=
 (bif Option.isNone a then
 K (.pointer none) i
 else
 YC G4 #[.pointer a] i fun o q=>∃ f,o=.pointer f/\YC G4 #[.pointer a] q fun p r=>∃ g,p=.pointer g/\YC K4 #[.pointer g] r fun n s=>∃ e,n=.pointer e/\∃ c j,Ru (Instr.makeMap 52 none) s (.map c) j/\∃ d l,Ru (Instr.makeMap 53 none) j (.map d) l/\∃ b,Al (Instr.build 56 #[(0,.pointer a),(1,.pointer f),(2,.pointer e),(4,.map c),(5,.map d)]) (.agg b)/\∃ h m,Yb 56 (.agg b) l h m/\K (.pointer (some h)) m)
theorem Uj(p0:YB):Yz P7 #[.pointer p0] (P3 p0):=fun _ _ h=>Ac (A:=⟨[],[],[]⟩) Tryz.func4 h
def DO(a:YB)(f:Int)(e9:ByteArray)(c:Int)(f9:YB)(e g0:Nat)(g:World)(K:YA):Prop :=
 (bif Option.isNone a then
 K (.tuple #[Yn 0,Yn 2]) g
 else
 Ad (fun p=>(bif c != 1 then(bif c != 2 then p [.bool (!(c==3))] g else p [.bool false] g)else p [.bool false] g)) fun j0 h =>
 ∃ m,A2 j0 0=.bool m/\Ad (fun b7=>(bif m then
 b7 [.bool m] h
 else
 Ad (fun q=>(bif c==3 then(bif decide ((e:Int)<1)then q [.bool true] h else q [.bool (decide ((e:Int) > 255))] h)else q [.bool false] h)) fun j2 a5 =>
 ∃ n,A2 j2 0=.bool n/\Ad (fun b8=>(bif n then
 b8 [.bool n] a5
 else
 Ad (fun b9=>(bif !(c==3)then b9 [.bool (decide ((e:Int) > 0))] a5 else b9 [.bool false] a5)) fun j4 i5 =>
 b8 [A2 j4 0] i5)) fun j3 i7 =>
 b7 [A2 j3 0] i7)) fun j1 f6 =>
 ∃ b1,A2 j1 0=.bool b1/\(bif b1 then
 K (.tuple #[Yn 0,Yn 1]) f6
 else
 YC DW #[.pointer a,Yn f,.string e9] f6 fun h1 f7=>∃ t,h1=Yn t/\(bif t != 0 then
 K (.tuple #[Yn 0,Yn t]) f7
 else
 YC IH #[Yn 0,Yn ((e:Int))] f7 fun h2 i8=>∃ d1,h2=Yn d1/\YC CB #[.pointer a,Yn (Yw (4+d1)),Yn 1] i8 fun h3 a7=>∃ u,h3=Yn u/\(bif u != 0 then
 K (.tuple #[Yn 0,Yn u]) a7
 else
 ∃ e7,(.pointer a:Value)=.pointer (some e7)/\∃ d8,Yp 50 (Addr.add e7 2) a7 d8/\YC B8 #[.pointer d8] a7 fun h4 i9=>∃ d9,h4=.pointer d9/\YC Dn #[.pointer d9,Yn f] i9 fun h5 a1=>∃ b d2 v,h5=.tuple #[Yn b,Yn d2,Yn v]/\(bif v != 0 then
 K (.tuple #[Yn 0,Yn v]) a1
 else
 ∃ e8,(.pointer a:Value)=.pointer (some e8)/\∃ e0,Yp 50 (Addr.add e8 2) a1 e0/\YC B8 #[.pointer e0] a1 fun h6 h9=>∃ e1,h6=.pointer e1/\YC Cz #[.pointer e1] h9 fun h7 i0=>∃ e2,h7=.pointer e2/\YC EQ #[.pointer e2] i0 fun h8 f0=>∃ d3 w,h8=.tuple #[Yn d3,Yn w]/\(bif w != 0 then
 K (.tuple #[Yn 0,Yn w]) f0
 else
 ∃ b4,Al (Instr.build 69 #[(0,Yn c),(1,Yn 1),(3,Yn d3)]) (.agg b4)/\∃ d f1,Yq 69 f0 d f1/\∃ a2,YE 69 d (.agg b4) f1 a2/\Ad (fun c0=>(bif c==3 then
 ∃ f2,YE 3 (Addr.add d 0) (Yn 1) a2 f2/\c0 [] f2
 else
 c0 [] a2)) fun j7 a3 =>
 ∃ z,(.pointer a:Value)=.pointer (some z)/\∃ x,Yp 50 (Addr.add z 2) (Af a3) x/\∃ o,Yg 69 d (Af a3) o/\∃ a8 c4 b2 i,Ru (Instr.buildSlice 75 1 #[(0,Yn d2)]) (Af a3) (.slice a8 c4 b2) i/\YD 50 (Addr.add z 2) i (.pointer x)/\YD 69 d i (.agg o)/\YC Bg #[.pointer x,Yn b,.agg o,.slice a8 c4 b2] i fun g4 a4=>∃ g1 r,g4=.tuple #[Yn g1,Yn r]/\Ad (fun c1=>(bif r==0 then
 ∃ e3,(.pointer a:Value)=.pointer (some e3)/\∃ d4,Yp 50 (Addr.add e3 2) a4 d4/\YC Cg #[.pointer d4,Yn b,Yn 0,.slice f9 e g0] a4 fun g5 i1=>∃ c6,g5=Yn c6/\c1 [Yn c6] i1
 else
 c1 [Yn r] a4)) fun f8 f3 =>
 Ad (fun c2=>∃ d0,A2 f8 0=Yn d0/\(bif d0==0 then c2 [.bool (c==3)] f3 else c2 [.bool false] f3)) fun j5 a6 =>
 ∃ b0,A2 j5 0=.bool b0/\Ad (fun c3=>(bif b0 then
 ∃ e4,(.pointer a:Value)=.pointer (some e4)/\∃ d5,Yp 50 (Addr.add e4 2) a6 d5/\YC Cd #[.pointer d5,Yn b] a6 fun g6 i2=>∃ b5 g2,g6=.tuple #[.agg b5,Yn g2]/\∃ f4,YE 69 d (.agg b5) i2 f4/\∃ j,YE 3 (Addr.add d 0) (Yn 3) f4 j/\∃ e5,(.pointer a:Value)=.pointer (some e5)/\∃ d6,Yp 50 (Addr.add e5 2) (Af j) d6/\∃ b6,Yg 69 d (Af j) b6/\YC Bg #[.pointer d6,Yn b,.agg b6,.slice none 0 0] (Af j) fun g7 i3=>∃ g3 c7,g7=.tuple #[Yn g3,Yn c7]/\c3 [Yn c7] i3
 else
 c3 [A2 f8 0] a6)) fun j6 l =>
 ∃ s,A2 j6 0=Yn s/\(bif s != 0 then
 K (.tuple #[Yn b,Yn s]) l
 else
 ∃ a0,(.pointer a:Value)=.pointer (some a0)/\∃ y,Yp 35 (Addr.add a0 1) (Af l) y/\∃ e6,(.pointer a:Value)=.pointer (some e6)/\∃ d7,Yp 50 (Addr.add e6 2) (Af l) d7/\YC C7 #[.pointer d7,Yn b] (Af l) fun g8 f5=>∃ a9 c5 b3,g8=.slice a9 c5 b3/\YD 35 (Addr.add a0 1) f5 (.pointer y)/\YC FP #[.pointer y,Yn f,.string e9,Yn b,.slice a9 c5 b3] f5 fun g9 i4=>∃ c8 c9,g9=.tuple #[Yn c8,Yn c9]/\YC FW #[.pointer a,Yn b,Yn f,Yn c8,Yn c] i4 fun h0 i6=>h0=.tuple #[]/\K (.tuple #[Yn b,Yn c9]) i6)))))))
theorem FG(p0:YB)(n1:Int)(s2:ByteArray)(n3:Int)(a4:YB)(l4 c4:Nat):Yz BJ #[.pointer p0,Yn n1,.string s2,Yn n3,.slice a4 l4 c4] (DO p0 n1 s2 n3 a4 l4 c4):=fun _ _ h=>Ac (A:=⟨[17,26,128],[(17,24),(26,4),(128,4)],[]⟩) Tryz.func5 h
def DP(f:YB)(h:Int)(u:World)(K:YA):Prop :=
 YC Bc #[.pointer f,Yn h] u fun t v=>∃ g e,t=.tuple #[.agg g,Yn e]/\∃ c q,Yq 69 v c q/\∃ a,YE 69 c (.agg g) q a/\(bif e != 0 then
 K (.tuple #[Yn 0,Yn e]) a
 else
 ∃ i,Yi (Addr.add c 0) a i/\(bif i==2 then
 K (.tuple #[Yn 0,Yn 22]) a
 else
 ∃ j,Yi (Addr.add c 0) a j/\(bif j==3 then
 K (.tuple #[Yn 0,Yn 1]) a
 else
 AS (fun s w d =>
 ∃ b,A2 w 0=Yn b/\(bif decide (b<8)then
 ∃ m,(.pointer f:Value)=.pointer (some m)/\∃ n,Yx 54 (.pointer (some (Addr.add m 3))) (Yn b) n/\∃ l,Yi n d l/\(bif l==0 then
 ∃ o,(.pointer f:Value)=.pointer (some o)/\∃ p,Yx 54 (.pointer (some (Addr.add o 3))) (Yn b) p/\∃ r,YE 3 p (Yn h) d r/\K (.tuple #[Yn b,Yn 0]) r
 else
 s [Yn (Yw (b+1))] d)
 else
 K (.tuple #[Yn 0,Yn 27]) d)) [Yn 0] a)))
theorem FH(p0:YB)(n1:Int):Yz BK #[.pointer p0,Yn n1] (DP p0 n1):=fun _ _ h=>Ac (A:=⟨[27],[(27,3)],[]⟩) Tryz.func6 h
def FJ(d:YB)(b:Int)(a:World)(K:YA):Prop :=
 (bif Option.isNone d then
 K (.tuple #[Yn 0,Yn 2]) a
 else
 Ad (fun c=>(bif decide (b<0)then c [.bool true] a else(bif decide (b >= 8)then c [.bool true] a else ∃ i,(.pointer d:Value)=.pointer (some i)/\∃ j,Yx 54 (.pointer (some (Addr.add i 3))) (Yn b) j/\∃ g,Yi j a g/\c [.bool (g==0)] a))) fun n e =>
 ∃ f,A2 n 0=.bool f/\(bif f then
 K (.tuple #[Yn 0,Yn 30]) e
 else
 ∃ l,(.pointer d:Value)=.pointer (some l)/\∃ m,Yx 54 (.pointer (some (Addr.add l 3))) (Yn b) m/\∃ h,Yi m e h/\K (.tuple #[Yn h,Yn 0]) e))
theorem IW(p0:YB)(n1:Int):Yz BL #[.pointer p0,Yn n1] (FJ p0 n1):=fun _ _ h=>Ac (A:=⟨[9],[(9,4)],[]⟩) Tryz.func7 h
def FK(t:YB)(s:Int)(v:World)(K:YA):Prop :=
 ∃ c q,Yq 29 v c q/\YC Bc #[.pointer t,Yn s] q fun u w=>∃ g d,u=.tuple #[.agg g,Yn d]/\∃ b r,Yq 69 w b r/\∃ a,YE 69 b (.agg g) r a/\(bif d != 0 then
 ∃ h,Al (Instr.build 29 #[]) (.agg h)/\∃ e,YE 29 c (.agg h) a e/\∃ j,Yg 29 c e j/\K (.tuple #[.agg j,Yn d]) e
 else
 ∃ m,YD 2 (Addr.add b 3) a (Yn m)/\∃ n,Yi (Addr.add b 0) a n/\∃ o,YD 2 (Addr.add b 2) a (Yn o)/\∃ p,Yi (Addr.add b 1) a p/\∃ i,Al (Instr.build 29 #[(0,Yn m),(1,Yn n),(2,Yn o),(3,Yn p)]) (.agg i)/\∃ f,YE 29 c (.agg i) a f/\∃ l,Yg 29 c f l/\K (.tuple #[.agg l,Yn 0]) f)
theorem IX(p0:YB)(n1:Int):Yz CA #[.pointer p0,Yn n1] (FK p0 n1):=fun _ _ h=>Ac (A:=⟨[],[],[]⟩) Tryz.func8 h
def I5(a5:World)(K:YA):Prop :=
 YC KV #[Yn 74] a5 fun a4 a6=>∃ e u,a4=.tuple #[.pointer e,Yn u]/\∃ h,Al (Instr.build 83 #[(0,Yn 24),(1,Yn 16),(2,Yn 3)]) (.agg h)/\YC Id #[.pointer e,.agg h] a6 fun v a8=>∃ t,v=Yn t/\YC JC #[.pointer e] a8 fun w a9=>∃ c j,w=.tuple #[.pointer c,Yn j]/\YC J0 #[.pointer c] a9 fun x b0=>∃ l,x=.pointer l/\YC KW #[.pointer l] b0 fun y b1=>∃ m,y=.pointer m/\YC W8 #[.pointer m] b1 fun z b2=>∃ d,z=.pointer d/\YC U9 #[.pointer d] b2 fun a0 b3=>∃ n,a0=.pointer n/\YC P7 #[.pointer n] b3 fun a1 f=>∃ a,a1=.pointer a/\Ad (fun b=>(bif j != 0 then b [.bool true] f else(bif Option.isNone a then b [.bool true] f else YC FV #[.pointer a] f fun a2 b4=>∃ o,a2=.pointer o/\b [.bool (Option.isNone o)] b4))) fun b5 r =>
 ∃ g,A2 b5 0=.bool g/\(bif g then
 K (.pointer none) r
 else
 YC G2 #[] r fun a3 a7=>∃ p,a3=.pointer p/\∃ i,Al (Instr.build 38 #[(0,.pointer c),(1,.pointer a),(2,.pointer d),(3,.pointer p)]) (.agg i)/\∃ q s,Yb 38 (.agg i) a7 q s/\K (.pointer (some q)) s)
theorem Pq(w0:World)(K:YA)(h:I5  w0 K):A7 Yt Cj #[] w0 K :=
 Ac (A:=⟨[36],[(36,4)],[]⟩) Tryz.func9 h
def Ep(a:YB)(b:Int)(t:ByteArray)(g:World)(K:YA):Prop :=
 (bif Option.isNone a then
 K (Yn 2) g
 else
 ∃ q,(.pointer a:Value)=.pointer (some q)/\∃ n,Yp 35 (Addr.add q 1) g n/\YC BO #[.pointer n,Yn b] g fun y h=>∃ w c,y=.tuple #[Yn w,Yn c]/\(bif c != 0 then
 K (Yn c) h
 else
 ∃ r,(.pointer a:Value)=.pointer (some r)/\∃ o,Yp 35 (Addr.add r 1) h o/\YC DA #[.pointer o,Yn b,.string t] h fun z u=>∃ d x e,z=.tuple #[Yn d,Yn x,Yn e]/\(bif e != 0 then
 K (Yn e) u
 else
 YC EB #[.pointer a,Yn d] u fun a0 i=>∃ j,a0=.bool j/\(bif j then
 K (Yn 24) i
 else
 ∃ s,(.pointer a:Value)=.pointer (some s)/\∃ p,Yp 35 (Addr.add s 1) i p/\YC FQ #[.pointer p,Yn b,.string t,.slice none 0 0] i fun a1 v=>∃ l f,a1=.tuple #[Yn l,Yn f]/\(bif f != 0 then
 K (Yn f) v
 else
 YC DX #[.pointer a,Yn d,Yn l] v fun a2 a3=>∃ m,a2=Yn m/\K (Yn m) a3)))))
theorem Gw(p0:YB)(n1:Int)(s2:ByteArray):Yz Ce #[.pointer p0,Yn n1,.string s2] (Ep p0 n1 s2):=fun _ _ h=>Ac (A:=⟨[],[],[]⟩) Tryz.func10 h
def Fa(a:YB)(f:Int)(a0:ByteArray)(h:Int)(a1:ByteArray)(n:World)(K:YA):Prop :=
 (bif Option.isNone a then
 K (Yn 2) n
 else
 ∃ x,(.pointer a:Value)=.pointer (some x)/\∃ u,Yp 35 (Addr.add x 1) n u/\YC BO #[.pointer u,Yn f] n fun b1 o=>∃ a7 g,b1=.tuple #[Yn a7,Yn g]/\(bif g != 0 then
 K (Yn g) o
 else
 ∃ y,(.pointer a:Value)=.pointer (some y)/\∃ v,Yp 35 (Addr.add y 1) o v/\YC DA #[.pointer v,Yn f,.string a0] o fun b2 a2=>∃ d a8 i,b2=.tuple #[Yn d,Yn a8,Yn i]/\(bif i != 0 then
 K (Yn i) a2
 else
 YC D0 #[.pointer a,Yn h,.string a1] a2 fun b3 a3=>∃ e b,b3=.tuple #[Yn e,Yn b]/\Ad (fun q=>(bif b==0 then q [.bool (e==d)] a3 else q [.bool false] a3)) fun b9 c =>
 ∃ p,A2 b9 0=.bool p/\(bif p then
 K (Yn 0) c
 else
 Ad (fun r=>(bif b==0 then
 YC MR #[.pointer a,Yn d,Yn e] c fun b4 a4=>∃ j,b4=Yn j/\(bif j != 0 then
 K (Yn j) a4
 else
 r [Yn e] a4)
 else
 (bif b==20 then
 ∃ z,(.pointer a:Value)=.pointer (some z)/\∃ w,Yp 35 (Addr.add z 1) c w/\YC BO #[.pointer w,Yn h] c fun b5 a5=>∃ a9 l,b5=.tuple #[Yn a9,Yn l]/\(bif l != 0 then
 K (Yn l) a5
 else
 r [Yn 0] a5)
 else
 K (Yn b) c))) fun c0 b7 =>
 YC CB #[.pointer a,Yn 4,Yn 0] b7 fun b6 a6=>∃ m,b6=Yn m/\(bif m != 0 then
 K (Yn m) a6
 else
 ∃ t,A2 c0 0=Yn t/\YC P8 #[.pointer a,Yn d,Yn f,.string a0,Yn h,.string a1,Yn t] a6 fun b0 b8=>∃ s,b0=Yn s/\K (Yn s) b8)))))
theorem In(p0:YB)(n1:Int)(s2:ByteArray)(n3:Int)(s4:ByteArray):Yz Dz #[.pointer p0,Yn n1,.string s2,Yn n3,.string s4] (Fa p0 n1 s2 n3 s4):=fun _ _ h=>Ac (A:=⟨[16,57],[(16,3),(57,4)],[]⟩) Tryz.func11 h
def FL(b:YB)(a:World)(K:YA):Prop :=
 (bif Option.isNone b then
 K (.pointer none) a
 else
 ∃ d,(.pointer b:Value)=.pointer (some d)/\∃ c,Yp 41 (Addr.add d 0) a c/\K (.pointer c) a)
theorem IY(p0:YB):Yz FV #[.pointer p0] (FL p0):=fun _ _ h=>Ac (A:=⟨[],[],[]⟩) Tryz.func12 h
def Jq(b:YB)(t:Int)(a4:ByteArray)(g:Int)(b3:World)(K:YA):Prop :=
 YC Bc #[.pointer b,Yn g] b3 fun a8 b4=>∃ p f,a8=.tuple #[.agg p,Yn f]/\∃ a a5,Yq 69 b4 a a5/\∃ c,YE 69 a (.agg p) a5 c/\(bif f != 0 then
 K (Yn f) c
 else
 ∃ v,Yi (Addr.add a 0) c v/\(bif v==2 then
 K (Yn 22) c
 else
 YC DW #[.pointer b,Yn t,.string a4] c fun a9 d=>∃ h,a9=Yn h/\(bif h != 0 then
 K (Yn h) d
 else
 ∃ w,Yi (Addr.add a 1) d w/\(bif decide (w >= 1000)then
 K (Yn 31) d
 else
 YC CB #[.pointer b,Yn 4,Yn 0] d fun b0 l=>∃ i,b0=Yn i/\(bif i != 0 then
 K (Yn i) l
 else
 ∃ x,Yi (Addr.add a 1) l x/\∃ e,YE 3 (Addr.add a 1) (Yn (Yw (x+1))) l e/\∃ a2,(.pointer b:Value)=.pointer (some a2)/\∃ a0,Yp 50 (Addr.add a2 2) (Af e) a0/\∃ q,Yg 69 a (Af e) q/\YC Bg #[.pointer a0,Yn g,.agg q,.slice none 0 0] (Af e) fun b1 m=>∃ y j,b1=.tuple #[Yn y,Yn j]/\Ad (fun r=>(bif j==0 then
 ∃ a3,(.pointer b:Value)=.pointer (some a3)/\∃ a1,Yp 35 (Addr.add a3 1) m a1/\∃ n s o a6,Ru (Instr.buildSlice 75 1 #[(0,Yn y)]) m (.slice n s o) a6/\YC FP #[.pointer a1,Yn t,.string a4,Yn g,.slice n s o] a6 fun b2 b6=>∃ a7 z,b2=.tuple #[Yn a7,Yn z]/\r [Yn z] b6
 else
 r [Yn j] m)) fun b7 b5 =>
 ∃ u,A2 b7 0=Yn u/\K (Yn u) b5)))))
theorem Qx(p0:YB)(n1:Int)(s2:ByteArray)(n3:Int):Yz J9 #[.pointer p0,Yn n1,.string s2,Yn n3] (Jq p0 n1 s2 n3):=fun _ _ h=>Ac (A:=⟨[10],[(10,24)],[]⟩) Tryz.func13 h
def EY(a:YB)(o:Int)(a6:World)(K:YA):Prop :=
 YC BL #[.pointer a,Yn o] a6 fun a2 z=>∃ b f,a2=.tuple #[Yn b,Yn f]/\(bif f != 0 then
 K (Yn f) z
 else
 ∃ u,(.pointer a:Value)=.pointer (some u)/\∃ v,Yx 54 (.pointer (some (Addr.add u 3))) (Yn o) v/\∃ a0,YE 3 v (Yn 0) z a0/\YC Bc #[.pointer a,Yn b] a0 fun a3 a7=>∃ l g,a3=.tuple #[.agg l,Yn g]/\∃ h a1,Yq 69 a7 h a1/\∃ d,YE 69 h (.agg l) a1 d/\Ad (fun e=>(bif g != 0 then e [.bool true] d else ∃ p,Yi (Addr.add h 1) d p/\(bif decide (p > 0)then e [.bool true] d else YC B9 #[.pointer a,Yn b] d fun a4 a8=>∃ q,a4=Yn q/\e [.bool (decide (q > 0))] a8))) fun b0 c =>
 ∃ j,A2 b0 0=.bool j/\(bif j then
 K (Yn g) c
 else
 ∃ w,(.pointer a:Value)=.pointer (some w)/\∃ m,YD 52 (Addr.add w 11) c (.map m)/\∃ r,Ru (Instr.lookup 52 (.map m) (Yn b) false) c (Yn r) c/\∃ x,(.pointer a:Value)=.pointer (some x)/\∃ n,YD 52 (Addr.add x 11) c (.map n)/\∃ i,Ru (Builtin.delete_ #[52,3] 0 #[.map n,Yn b]) c (.tuple #[]) i/\∃ y,(.pointer a:Value)=.pointer (some y)/\∃ t,Yp 50 (Addr.add y 2) i t/\YC DT #[.pointer t,Yn b,Yn r] i fun a5 a9=>∃ s,a5=Yn s/\K (Yn s) a9))
theorem Il(p0:YB)(n1:Int):Yz Dy #[.pointer p0,Yn n1] (EY p0 n1):=fun _ _ h=>Ac (A:=⟨[41],[(41,4)],[]⟩) Tryz.func14 h
def EZ(p:YB)(o:Int)(r:World)(K:YA):Prop :=
 AS (fun n b j =>
 ∃ a,A2 b 1=Yn a/\(bif decide (a<8)then
 YC BL #[.pointer p,Yn a] j fun q l=>∃ f g,q=.tuple #[Yn f,Yn g]/\Ad (fun d=>(bif g==0 then d [.bool (f==o)] l else d [.bool false] l)) fun t m =>
 ∃ c,A2 t 0=.bool c/\Ad (fun e=>(bif c then
 ∃ h,A2 b 0=Yn h/\e [Yn (Yw (h+1))] m
 else
 e [A2 b 0] m)) fun u s =>
 n [A2 u 0,Yn (Yw (a+1)),.bool c] s
 else
 ∃ i,A2 b 0=Yn i/\K (Yn i) j)) [Yn 0,Yn 0,undef] r
theorem Im(p0:YB)(n1:Int):Yz B9 #[.pointer p0,Yn n1] (EZ p0 n1):=fun _ _ h=>Ac (A:=⟨[5,9,24],[(5,3),(9,3),(24,4)],[]⟩) Tryz.func15 h
def Jr(a:YB)(c:Int)(g:Int)(c4:World)(K:YA):Prop :=
 Ad (fun u=>(bif Option.isNone a then u [.bool true] c4 else u [.bool (c==0)] c4)) fun d7 c5 =>
 ∃ p,A2 d7 0=.bool p/\(bif p then
 K (Yn 0) c5
 else
 AS (fun d2 i b =>
 ∃ e,A2 i 1=Yn e/\(bif decide (e<8)then
 ∃ b2,(.pointer a:Value)=.pointer (some b2)/\∃ b3,Yx 54 (.pointer (some (Addr.add b2 3))) (Yn e) b3/\∃ a5,Yi b3 b a5/\Ad (fun v=>(bif a5==c then
 ∃ b4,(.pointer a:Value)=.pointer (some b4)/\∃ b5,Yx 54 (.pointer (some (Addr.add b4 3))) (Yn e) b5/\∃ c9,YE 3 b5 (Yn g) b c9/\∃ a7,A2 i 0=Yn a7/\v [Yn (Yw (a7+1))] c9
 else
 v [A2 i 0] b)) fun d8 d6 =>
 d2 [A2 d8 0,Yn (Yw (e+1))] d6
 else
 ∃ b6,(.pointer a:Value)=.pointer (some b6)/\∃ y,YD 52 (Addr.add b6 11) b (.map y)/\∃ a6 q,Ru (Instr.lookup 52 (.map y) (Yn c) true) b (.tuple #[Yn a6,.bool q]) b/\Ad (fun w=>(bif q then
 ∃ b7,(.pointer a:Value)=.pointer (some b7)/\∃ z,YD 52 (Addr.add b7 11) b (.map z)/\∃ m,Gr (Instr.mapUpdate 52 (.map z) (Yn g) (Yn a6)) b m/\∃ b8,(.pointer a:Value)=.pointer (some b8)/\∃ a0,YD 52 (Addr.add b8 11) m (.map a0)/\∃ d0,Ru (Builtin.delete_ #[52,3] 0 #[.map a0,Yn c]) m (.tuple #[]) d0/\w [] d0
 else
 w [] b)) fun d9 d1 =>
 ∃ b9,(.pointer a:Value)=.pointer (some b9)/\∃ a1,YD 53 (Addr.add b9 12) d1 (.map a1)/\∃ n,Ru (Builtin.delete_ #[53,3] 0 #[.map a1,Yn c]) d1 (.tuple #[]) n/\∃ c0,(.pointer a:Value)=.pointer (some c0)/\∃ a2,YD 53 (Addr.add c0 12) n (.map a2)/\∃ o,Ru (Builtin.delete_ #[53,3] 0 #[.map a2,Yn g]) n (.tuple #[]) o/\∃ c1,(.pointer a:Value)=.pointer (some c1)/\∃ a3,YD 53 (Addr.add c1 12) o (.map a3)/\∃ j c6,Ru (Instr.range 53 (.map a3)) o (.pointer (some j)) c6/\AS (fun d3 e0 d4 =>
 ∃ c3:Value,∃ f,Ru (Instr.next (.pointer (some j)) false 0) d4 c3 f/\∃ r,Al (Instr.extract c3 0) (.bool r)/\(bif r then
 ∃ l:Value,Ru (Instr.entry (.pointer (some j))) f l f/\∃ a8,Al (Instr.extract l 0) (Yn a8)/\∃ s,Al (Instr.extract l 1) (.agg s)/\∃ h c7,Yq 100 f h c7/\∃ d,YE 100 h (.agg s) c7 d/\∃ b0,Yi (Addr.add h 0) d b0/\Ad (fun x=>(bif b0==c then
 ∃ c2,(.pointer a:Value)=.pointer (some c2)/\∃ a4,YD 53 (Addr.add c2 12) (Af d) (.map a4)/\∃ b1,YD 2 (Addr.add h 1) (Af d) (Yn b1)/\∃ t,Al (Instr.build 100 #[(0,Yn g),(1,Yn b1)]) (.agg t)/\∃ c8,Gr (Instr.mapUpdate 53 (.map a4) (Yn a8) (.agg t)) (Af d) c8/\x [] c8
 else
 x [] d)) fun e1 d5 =>
 d3 [] d5
 else
 ∃ a9,A2 i 0=Yn a9/\K (Yn a9) f)) [] c6)) [Yn 0,Yn 0] c5)
theorem Qy(p0:YB)(n1:Int)(n2:Int):Yz JA #[.pointer p0,Yn n1,Yn n2] (Jr p0 n1 n2):=fun _ _ h=>Ac (A:=⟨[7,18,20],[(7,3),(18,4),(20,3)],[76,78]⟩) Tryz.func16 h
def I6(b9:World)(K:YA):Prop :=
 YC Cj #[] b9 fun b2 g=>∃ c,b2=.pointer c/\(bif Option.isNone c then
 K (.bool false) g
 else
 ∃ a0,(.pointer c:Value)=.pointer (some a0)/\∃ t,Yp 22 (Addr.add a0 1) g t/\YC BJ #[.pointer t,Yn 1,.string ⟨#[97]⟩,Yn 1,.slice none 0 0] g fun b3 a7=>∃ d m,b3=.tuple #[Yn d,Yn m]/\∃ a1,(.pointer c:Value)=.pointer (some a1)/\∃ u,Yp 22 (Addr.add a1 1) a7 u/\YC BK #[.pointer u,Yn d] a7 fun b4 a8=>∃ e n,b4=.tuple #[Yn e,Yn n]/\∃ a2,(.pointer c:Value)=.pointer (some a2)/\∃ v,Yp 22 (Addr.add a2 1) a8 v/\YC Ce #[.pointer v,Yn 1,.string ⟨#[97]⟩] a8 fun b5 a9=>∃ o,b5=Yn o/\∃ a3,(.pointer c:Value)=.pointer (some a3)/\∃ w,Yp 22 (Addr.add a3 1) a9 w/\YC CA #[.pointer w,Yn d] a9 fun b6 c1=>∃ j p,b6=.tuple #[.agg j,Yn p]/\∃ f b0,Yq 29 c1 f b0/\∃ h,YE 29 f (.agg j) b0 h/\∃ a4,(.pointer c:Value)=.pointer (some a4)/\∃ x,Yp 22 (Addr.add a4 1) h x/\YC Dy #[.pointer x,Yn e] h fun b7 b1=>∃ q,b7=Yn q/\∃ a5,(.pointer c:Value)=.pointer (some a5)/\∃ y,Yp 22 (Addr.add a5 1) b1 y/\YC CA #[.pointer y,Yn d] b1 fun b8 c2=>∃ l r,b8=.tuple #[.agg l,Yn r]/\∃ z a6,Yq 29 c2 z a6/\∃ a,YE 29 z (.agg l) a6 a/\Ad (fun b=>(bif d==2 then(bif m==0 then(bif e==0 then(bif n==0 then(bif o==0 then ∃ s,Yi (Addr.add f 3) a s/\(bif s==0 then(bif p==0 then(bif q==0 then b [.bool (bif (r==20)then true else false)] a else b [.bool false] a)else b [.bool false] a)else b [.bool false] a)else b [.bool false] a)else b [.bool false] a)else b [.bool false] a)else b [.bool false] a)else b [.bool false] a)) fun c3 c0 =>
 ∃ i,A2 c3 0=.bool i/\K (.bool i) c0)
theorem Pr(w0:World)(K:YA)(h:I6  w0 K):A7 Yt Fh #[] w0 K :=
 Ac (A:=⟨[0],[(0,4)],[]⟩) Tryz.func17 h
def Gy(b:YB)(a:World)(K:YA):Prop :=
 (bif Option.isNone b then
 K (.pointer none) a
 else
 ∃ d,(.pointer b:Value)=.pointer (some d)/\∃ c,Yp 35 (Addr.add d 0) a c/\K (.pointer c) a)
theorem Km(p0:YB):Yz G4 #[.pointer p0] (Gy p0):=fun _ _ h=>Ac (A:=⟨[],[],[]⟩) Tryz.func18 h
def Ko(b:YB)(a:World)(K:YA):Prop :=
 (bif Option.isNone b then
 K (.pointer none) a
 else
 ∃ d,(.pointer b:Value)=.pointer (some d)/\∃ c,Yp 50 (Addr.add d 0) a c/\K (.pointer c) a)
theorem RJ(p0:YB):Yz K4 #[.pointer p0] (Ko p0):=fun _ _ h=>Ac (A:=⟨[],[],[]⟩) Tryz.func19 h
def Js(e:YB)(c:Int)(m:ByteArray)(n:World)(K:YA):Prop :=
 YC D0 #[.pointer e,Yn c,.string m] n fun j b=>∃ h a,j=.tuple #[Yn h,Yn a]/\(bif a==0 then
 K (Yn 21) b
 else
 (bif a==20 then
 ∃ g,(.pointer e:Value)=.pointer (some g)/\∃ f,Yp 35 (Addr.add g 1) b f/\YC BO #[.pointer f,Yn c] b fun l o=>∃ i d,l=.tuple #[Yn i,Yn d]/\K (Yn d) o
 else
 K (Yn a) b))
theorem Qz(p0:YB)(n1:Int)(s2:ByteArray):Yz DW #[.pointer p0,Yn n1,.string s2] (Js p0 n1 s2):=fun _ _ h=>Ac (A:=⟨[],[],[]⟩) Tryz.func20 h
def Jv(n:YB)(l:Int)(m:Int)(h:World)(K:YA):Prop :=
 ∃ g,(.pointer n:Value)=.pointer (some g)/\∃ e,Yp 50 (Addr.add g 2) h e/\YC B8 #[.pointer e] h fun o q=>∃ f,o=.pointer f/\YC Dl #[.pointer f] q fun p i=>∃ c d,p=.tuple #[Yn c,Yn d]/\Ad (fun b=>(bif decide (c<l)then b [.bool true] i else b [.bool (decide (d<m))] i)) fun r j =>
 ∃ a,A2 r 0=.bool a/\(bif a then
 K (Yn 26) j
 else
 K (Yn 0) j)
theorem Q2(p0:YB)(n1:Int)(n2:Int):Yz CB #[.pointer p0,Yn n1,Yn n2] (Jv p0 n1 n2):=fun _ _ h=>Ac (A:=⟨[25],[(25,4)],[]⟩) Tryz.func21 h
def Uy(d:Int)(e:Int)(g:World)(K:YA):Prop :=
 YC P9 #[Yn d,Yn e] g fun f c=>∃ a b,f=.tuple #[Yn a,Yn b]/\(bif decide (b<a)then
 K (Yn 0) c
 else
 K (Yn (Yw ((Yw ((Yw ((Yw (b-a))+1))+(Yw (Int.tdiv (Yw ((Yw (b-a))+1)) 64))))+3))) c)
theorem cX(n0:Int)(n1:Int):Yz IH #[Yn n0,Yn n1] (Uy n0 n1):=fun _ _ h=>Ac (A:=⟨[],[],[]⟩) Tryz.func22 h
def Iz(b:YB)(a:World)(K:YA):Prop :=
 (bif Option.isNone b then
 K (.pointer none) a
 else
 ∃ d,(.pointer b:Value)=.pointer (some d)/\∃ c,Yp 61 (Addr.add d 0) a c/\K (.pointer c) a)
theorem Pk(p0:YB):Yz B8 #[.pointer p0] (Iz p0):=fun _ _ h=>Ac (A:=⟨[],[],[]⟩) Tryz.func23 h
def Iq(c:YB)(w:Int)(t:World)(K:YA):Prop :=
 (bif Option.isNone c then
 K (.tuple #[Yn 0,Yn 0,Yn 2]) t
 else
 YC Dp #[.pointer c,Yn w] t fun x a1=>∃ l j,x=.tuple #[.agg l,.bool j]/\∃ a u,Yq 112 a1 a u/\∃ h,YE 112 a (.agg l) u h/\∃ d,Yg 112 a (Af h) d/\YC JV #[] (Af h) fun y v=>∃ m,y=.agg m/\YD 112 a v (.agg d)/\YC Dq #[.pointer c,.agg d,.bool j,.agg m] v fun z a2=>∃ n p e,z=.tuple #[.agg n,Yn p,Yn e]/\∃ b,YE 112 a (.agg n) a2 b/\(bif e != 0 then
 K (.tuple #[Yn 0,Yn 0,Yn e]) b
 else
 ∃ f,Yi (Addr.add a 0) (Af b) f/\∃ s,(.pointer c:Value)=.pointer (some s)/\∃ r,Yp 34 (Addr.add s 0) (Af b) r/\∃ g,Yi (Addr.add a 1) (Af b) g/\YC AR #[.pointer r] (Af b) fun a0 i=>∃ o,a0=.agg o/\YD 3 (Addr.add a 0) i (Yn f)/\YD 3 (Addr.add a 1) i (Yn g)/\∃ q,Al (Instr.field 83 (.agg o) 1) (Yn q)/\K (.tuple #[Yn (Yw ((Yw (f*q))+g)),Yn p,Yn 0]) i))
theorem Pc(p0:YB)(n1:Int):Yz Dn #[.pointer p0,Yn n1] (Iq p0 n1):=fun _ _ h=>Ac (A:=⟨[],[],[]⟩) Tryz.func24 h
def IZ(b:YB)(a:World)(K:YA):Prop :=
 (bif Option.isNone b then
 K (.pointer none) a
 else
 ∃ d,(.pointer b:Value)=.pointer (some d)/\∃ c,Yp 34 (Addr.add d 0) a c/\K (.pointer c) a)
theorem Qg(p0:YB):Yz Cz #[.pointer p0] (IZ p0):=fun _ _ h=>Ac (A:=⟨[],[],[]⟩) Tryz.func25 h
def LX(a:YB)(b:World)(K:YA):Prop :=
 (bif Option.isNone a then
 K (.tuple #[Yn 0,Yn 2]) b
 else
 ∃ j,(.pointer a:Value)=.pointer (some j)/\∃ d,YD 2 (Addr.add j 6) b (Yn d)/\(bif decide (d > 4611686018427387904)then
 K (.tuple #[Yn 0,Yn 5]) b
 else
 ∃ g,(.pointer a:Value)=.pointer (some g)/\∃ e,YD 2 (Addr.add g 6) b (Yn e)/\∃ h,(.pointer a:Value)=.pointer (some h)/\∃ c,YE 2 (Addr.add h 6) (Yn (Yw (e+1))) b c/\∃ i,(.pointer a:Value)=.pointer (some i)/\∃ f,YD 2 (Addr.add i 6) c (Yn f)/\K (.tuple #[Yn (Yw (f-1)),Yn 0]) c))
theorem TF(p0:YB):Yz EQ #[.pointer p0] (LX p0):=fun _ _ h=>Ac (A:=⟨[],[],[]⟩) Tryz.func26 h
def Kv(c:YB)(e:Int)(v:Array Value)(t:YB)(w u:Nat)(a0:World)(K:YA):Prop :=
 ∃ i a,Yb 69 (.agg v) a0 i a/\(bif Option.isNone c then
 K (.tuple #[Yn 0,Yn 2]) a
 else
 ∃ h,(.pointer c:Value)=.pointer (some h)/\∃ g,Yp 34 (Addr.add h 1) (Af a) g/\∃ d,Yg 69 i (Af a) d/\YC J2 #[.slice t w u] (Af a) fun x j=>∃ m p n,x=.slice m p n/\YD 34 (Addr.add h 1) j (.pointer g)/\YD 69 i j (.agg d)/\YC Fl #[.pointer g,Yn e,.agg d,.slice m p n] j fun y l=>∃ b f,y=.tuple #[Yn b,Yn f]/\Ad (fun o=>(bif f==0 then
 ∃ r,(.pointer c:Value)=.pointer (some r)/\∃ q,YD 52 (Addr.add r 2) l (.map q)/\∃ s,Gr (Instr.mapUpdate 52 (.map q) (Yn e) (Yn b)) l s/\YC DU #[.pointer c,Yn e,Yn b] s fun z a1=>z=.tuple #[]/\o [] a1
 else
 o [] l)) fun a3 a2 =>
 K (.tuple #[Yn b,Yn f]) a2)
theorem RP(p0:YB)(n1:Int)(g2:Array Value)(a3:YB)(l3 c3:Nat):Yz Bg #[.pointer p0,Yn n1,.agg g2,.slice a3 l3 c3] (Kv p0 n1 g2 a3 l3 c3):=fun _ _ h=>Ac (A:=⟨[],[],[]⟩) Tryz.func27 h
def EX(f:YB)(j:Int)(a:Int)(g9:YB)(c h0:Nat)(i2:World)(K:YA):Prop :=
 YC Ci #[.pointer f,Yn j] i2 fun h8 i3=>∃ c1 a0,h8=.tuple #[.agg c1,Yn a0]/\∃ e g5,Yq 69 i3 e g5/\∃ n,YE 69 e (.agg c1) g5 n/\(bif a0 != 0 then
 K (Yn a0) n
 else
 Ad (fun c4=>(bif decide (a<0)then c4 [.bool true] n else c4 [.bool (decide ((c:Int) > 4096))] n)) fun i7 a2 =>
 ∃ b0,A2 i7 0=.bool b0/\(bif b0 then
 K (Yn 3) a2
 else
 Ad (fun c5=>(bif decide (a > 1066496)then c5 [.bool true] a2 else c5 [.bool (decide ((c:Int) > (Yw (1066496-a))))] a2)) fun i8 o =>
 ∃ b1,A2 i8 0=.bool b1/\(bif b1 then
 K (Yn 28) o
 else
 Ad (fun c6=>∃ e3,Yi (Addr.add e 0) o e3/\(bif e3==3 then c6 [.bool (decide ((Yw (a+(c:Int))) > 255))] o else c6 [.bool false] o)) fun i9 p =>
 ∃ b2,A2 i9 0=.bool b2/\(bif b2 then
 K (Yn 1) p
 else
 (bif (c:Int)==0 then
 K (Yn 0) p
 else
 ∃ f6,(.pointer f:Value)=.pointer (some f6)/\∃ e7,Yp 61 (Addr.add f6 0) p e7/\YC Dl #[.pointer e7] p fun h9 i6=>∃ e4 h4,h9=.tuple #[Yn e4,Yn h4]/\YC IH #[Yn a,Yn ((c:Int))] i6 fun i0 q=>∃ e5,i0=Yn e5/\(bif decide (e4<e5)then
 K (Yn 26) q
 else
 ∃ w,Yg 69 e (Af q) w/\∃ c2,Yg 69 e (Af q) c2/\YC FS #[.pointer f,.agg c2,Yn (Yw (Int.tdiv a 256))] (Af q) fun i1 g8=>∃ e6,i1=Yn e6/\YD 69 e g8 (.agg w)/\∃ c3,Al (Instr.build 137 #[(0,.pointer f),(1,Yn j),(2,.agg w),(4,Yn e6)]) (.agg c3)/\∃ d f7,Yb 137 (.agg c3) g8 d f7/\AS (fun h1 j0 a1 =>
 ∃ b,A2 j0 0=Yn b/\(bif decide (b<(Yw (a+(c:Int))))then
 ∃ r h u,Al (Instr.sliceAt 57 (.slice g9 c h0) (some (Yn (Yw (b-a)))) (some (Yn (if (Yw ((Yw (b-a))+(Yw (256-(Int.tmod b 256)))))<(Yw ((Yw (a+(c:Int)))-a))then(Yw ((Yw (b-a))+(Yw (256-(Int.tmod b 256)))))else(Yw ((Yw (a+(c:Int)))-a))))) none) (.slice r h u)/\∃ s x v f8,Ru (Instr.makeSlice 57 (Yn 256) (Yn 256)) a1 (.slice s x v) f8/\∃ a3 d1 b3,Al (Instr.sliceAt 57 (.slice s x v) (some (Yn (Int.tmod b 256))) none none) (.slice a3 d1 b3)/\∃ h2 f9,Ru (Builtin.copy_ #[57,57] 3 #[.slice a3 d1 b3,.slice r h u]) f8 (Yn h2) f9/\YC E8 #[.pointer (some d),Yn (Yw (Int.tdiv b 256)),.slice s x v] f9 fun h5 g0=>∃ d6 a8 y,h5=.tuple #[Yn d6,.bool a8,Yn y]/\Ad (fun c7=>(bif y==0 then c7 [.bool (!a8)] g0 else c7 [.bool false] g0)) fun j1 g1 =>
 ∃ t,A2 j1 0=.bool t/\Ad (fun c8=>(bif t then
 YC CV #[.pointer f,Yn j,Yn d6,Yn (Int.tmod b 256),.slice r h u,.slice none 0 0] g1 fun h6 m=>∃ d7 d8,h6=.tuple #[Yn d7,Yn d8]/\∃ d9,YD 2 (Addr.add e 2) m (Yn d9)/\Ad (fun c9=>(bif decide ((Yw (b+(h:Int))) > d9)then
 ∃ e8,(.pointer (some d):Value)=.pointer (some e8)/\∃(a4:YB)(d2 b4:Nat),YD 75 (Addr.add e8 14) m (.slice a4 d2 b4)/\∃ a5 d3 b5 g2,Ru (Instr.buildSlice 75 1 #[(0,Yn d7)]) m (.slice a5 d3 b5) g2/\∃ a6 d4 b6 g3,Ru (Builtin.append_ #[75,75] 75 #[.slice a4 d2 b4,.slice a5 d3 b5]) g2 (.slice a6 d4 b6) g3/\∃ e9,(.pointer (some d):Value)=.pointer (some e9)/\∃ g4,YE 75 (Addr.add e9 14) (.slice a6 d4 b6) g3 g4/\c9 [] g4
 else
 c9 [] m)) fun j3 i4 =>
 c8 [Yn d8] i4
 else
 c8 [Yn y] g1)) fun j2 g6 =>
 ∃ l,A2 j2 0=Yn l/\(bif l != 0 then
 K (Yn l) g6
 else
 h1 [Yn (Yw (b+(h:Int))),Yn l,.bool t] g6)
 else
 ∃ z,YD 2 (Addr.add e 2) a1 (Yn z)/\∃ f0,(.pointer (some d):Value)=.pointer (some f0)/\∃ i,YE 2 (Addr.add (Addr.add f0 2) 2) (Yn (if (Yw (a+(c:Int))) > z then(Yw (a+(c:Int)))else z)) a1 i/\∃ e0,Yi (Addr.add e 0) i e0/\Ad (fun d0=>(bif e0==2 then
 ∃ f1,(.pointer (some d):Value)=.pointer (some f1)/\∃ e1,YD 2 (Addr.add (Addr.add f1 2) 2) i (Yn e1)/\∃ f2,(.pointer (some d):Value)=.pointer (some f2)/\∃ g7,YE 2 (Addr.add (Addr.add f2 2) 2) (Yn (Yw ((Yw (Int.tdiv (Yw ((Yw (e1+256))-1)) 256))*256))) i g7/\d0 [] g7
 else
 d0 [] i)) fun j4 g =>
 ∃ f3,(.pointer (some d):Value)=.pointer (some f3)/\∃ b8,Yg 69 (Addr.add f3 2) (Af g) b8/\∃ b9,Yg 69 e (Af g) b9/\∃ a9,Al (G9 .eql 69 (.tmp 196) (.tmp 197) (.agg b8) (.agg b9)) (.bool a9)/\(bif a9 then
 K (Yn 0) (Af g)
 else
 ∃ f4,(.pointer (some d):Value)=.pointer (some f4)/\∃ c0,YD 69 (Addr.add f4 2) (Af (Af g)) (.agg c0)/\∃ f5,(.pointer (some d):Value)=.pointer (some f5)/\∃(a7:YB)(d5 b7:Nat),YD 75 (Addr.add f5 14) (Af (Af g)) (.slice a7 d5 b7)/\YC Bg #[.pointer f,Yn j,.agg c0,.slice a7 d5 b7] (Af (Af g)) fun h7 i5=>∃ h3 e2,h7=.tuple #[Yn h3,Yn e2]/\K (Yn e2) i5))) [Yn a,undef,undef] f7))))))
theorem Ik(p0:YB)(n1:Int)(n2:Int)(a3:YB)(l3 c3:Nat):Yz Cg #[.pointer p0,Yn n1,Yn n2,.slice a3 l3 c3] (EX p0 n1 n2 a3 l3 c3):=fun _ _ h=>Ac (A:=⟨[15,21,33,41,51,135],[(15,2),(21,24),(33,4),(41,4),(51,4),(135,4)],[]⟩) Tryz.func28 h
def Ku(j:YB)(n:Int)(p:World)(K:YA):Prop :=
 ∃ a b,Yq 69 p a b/\(bif Option.isNone j then
 ∃ f,Al (Instr.build 69 #[]) (.agg f)/\∃ c,YE 69 a (.agg f) b c/\∃ g,Yg 69 a c g/\K (.tuple #[.agg g,Yn 2]) c
 else
 ∃ m,(.pointer j:Value)=.pointer (some m)/\∃ l,Yp 34 (Addr.add m 1) b l/\YC BP #[.pointer l,Yn n] b fun o q=>∃ e i,o=.tuple #[.agg e,Yn i]/\∃ d,YE 69 a (.agg e) q d/\∃ h,Yg 69 a d h/\K (.tuple #[.agg h,Yn i]) d)
theorem RO(p0:YB)(n1:Int):Yz Cd #[.pointer p0,Yn n1] (Ku p0 n1):=fun _ _ h=>Ac (A:=⟨[],[],[]⟩) Tryz.func29 h
def MB(c:YB)(b:Int)(m:ByteArray)(a8:Int)(c2:YB)(c6 c4:Nat)(d7:World)(K:YA):Prop :=
 YC CT #[.pointer c,Yn b] d7 fun c9 d8=>∃ x f,c9=.tuple #[.agg x,Yn f]/\∃ a b8,Yq 69 d8 a b8/\∃ q,YE 69 a (.agg x) b8 q/\(bif f != 0 then
 K (.tuple #[Yn 0,Yn f]) q
 else
 YC EE #[.string m] q fun d0 b9=>∃ u,d0=.bool u/\(bif !u then
 K (.tuple #[Yn 0,Yn 25]) b9
 else
 YC DB #[.pointer c,Yn b,.string m] b9 fun d1 e0=>∃ y c8 a9,d1=.tuple #[.agg y,Yn c8,Yn a9]/\∃ b4 c0,Yq 143 e0 b4 c0/\∃ r,YE 143 b4 (.agg y) c0 r/\(bif a9==0 then
 K (.tuple #[Yn 0,Yn 21]) r
 else
 ∃ z,Al (Instr.build 143 #[(0,Yn a8),(2,.string m)]) (.agg z)/\∃ d c1,Yq 143 r d c1/\∃ s,YE 143 d (.agg z) c1 s/\∃ a0,Yg 143 d s a0/\YC Ib #[.agg a0] s fun d2 b5=>∃ c3 c7 c5 b0,d2=.tuple #[.slice c3 c7 c5,Yn b0]/\Ad (fun a4=>(bif b0 != 0 then a4 [.bool true] b5 else a4 [.bool (a8==0)] b5)) fun e1 n =>
 ∃ v,A2 e1 0=.bool v/\(bif v then
 K (.tuple #[Yn 0,Yn 1]) n
 else
 ∃ a1,Yg 69 a n a1/\YC EN #[.pointer c,Yn b,.agg a1] n fun d3 o=>∃ g,d3=Yn g/\Ad (fun a5=>(bif decide (g<0)then
 ∃ a2,Yg 69 a o a2/\YC FU #[.agg a2] o fun d4 p=>∃ b1,d4=Yn b1/\∃ l,(.pointer c:Value)=.pointer (some l)/\∃ j,Yp 50 (Addr.add l 0) (Af p) j/\∃ h,YD 2 (Addr.add a 2) (Af p) (Yn h)/\∃ t a6 w e,Ru (Instr.makeSlice 57 (Yn 256) (Yn 256)) (Af p) (.slice t a6 w) e/\YD 50 (Addr.add l 0) e (.pointer j)/\YD 2 (Addr.add a 2) e (Yn h)/\YC Cg #[.pointer j,Yn b,Yn h,.slice t a6 w] e fun d5 b6=>∃ i,d5=Yn i/\(bif i != 0 then
 K (.tuple #[Yn 0,Yn i]) b6
 else
 a5 [Yn (Yw (b1*8))] b6)
 else
 a5 [Yn g] o)) fun e2 b7 =>
 ∃ a7,A2 e2 0=Yn a7/\∃ a3,Yg 143 d b7 a3/\YC Eb #[.pointer c,Yn b,Yn a7,.agg a3,.slice c2 c6 c4] b7 fun d6 d9=>∃ b2 b3,d6=.tuple #[Yn b2,Yn b3]/\K (.tuple #[Yn b2,Yn b3]) d9))))
theorem Uf(p0:YB)(n1:Int)(s2:ByteArray)(n3:Int)(a4:YB)(l4 c4:Nat):Yz FP #[.pointer p0,Yn n1,.string s2,Yn n3,.slice a4 l4 c4] (MB p0 n1 s2 n3 a4 l4 c4):=fun _ _ h=>Ac (A:=⟨[20,57],[(20,3),(57,4)],[]⟩) Tryz.func30 h
def GS(b:YB)(d:Int)(f:World)(K:YA):Prop :=
 (bif Option.isNone b then
 K (.slice none 0 0) f
 else
 ∃ e,(.pointer b:Value)=.pointer (some e)/\∃ c,YD 108 (Addr.add e 3) (Af f) (.map c)/\YC C8 #[.pointer b,Yn d] (Af f) fun t s=>∃ g n j,t=.slice g n j/\YD 108 (Addr.add e 3) s (.map c)/\∃ a,Gr (Instr.mapUpdate 108 (.map c) (Yn d) (.slice g n j)) s a/\∃ r,(.pointer b:Value)=.pointer (some r)/\∃ q,YD 108 (Addr.add r 3) a (.map q)/\∃ h o l,Ru (Instr.lookup 108 (.map q) (Yn d) false) a (.slice h o l) a/\YC CC #[.slice h o l] a fun u v=>∃ i p m,u=.slice i p m/\K (.slice i p m) v)
theorem Mu(p0:YB)(n1:Int):Yz C7 #[.pointer p0,Yn n1] (GS p0 n1):=fun _ _ h=>Ac (A:=⟨[],[],[]⟩) Tryz.func31 h
def Jt(g:YB)(f:Int)(m:Int)(n:Int)(o:Int)(j:World)(K:YA):Prop :=
 ∃ h,(.pointer g:Value)=.pointer (some h)/\∃ d,YD 53 (Addr.add h 12) j (.map d)/\∃ a,Ru (Builtin.delete_ #[53,3] 0 #[.map d,Yn f]) j (.tuple #[]) a/\Ad (fun c=>(bif o==2 then
 ∃ i,(.pointer g:Value)=.pointer (some i)/\∃ e,YD 53 (Addr.add i 12) a (.map e)/\∃ b,Al (Instr.build 100 #[(0,Yn m),(1,Yn n)]) (.agg b)/\∃ l,Gr (Instr.mapUpdate 53 (.map e) (Yn f) (.agg b)) a l/\c [] l
 else
 c [] a)) fun q p =>
 K (.tuple #[]) p
theorem Q0(p0:YB)(n1:Int)(n2:Int)(n3:Int)(n4:Int):Yz FW #[.pointer p0,Yn n1,Yn n2,Yn n3,Yn n4] (Jt p0 n1 n2 n3 n4):=fun _ _ h=>Ac (A:=⟨[],[],[]⟩) Tryz.func32 h
def Fb(s:YB)(y:Int)(a0:World)(K:YA):Prop :=
 ∃ a c,Yq 69 a0 a c/\(bif Option.isNone s then
 ∃ i,Al (Instr.build 69 #[]) (.agg i)/\∃ f,YE 69 a (.agg i) c f/\∃ m,Yg 69 a f m/\K (.tuple #[.agg m,Yn 2]) f
 else
 ∃ u,(.pointer s:Value)=.pointer (some u)/\∃ t,Yp 50 (Addr.add u 2) c t/\YC Cd #[.pointer t,Yn y] c fun z a1=>∃ j e,z=.tuple #[.agg j,Yn e]/\∃ b v,Yq 69 a1 b v/\∃ d,YE 69 b (.agg j) v d/\Ad (fun o=>(bif e==0 then ∃ q,Yi (Addr.add b 0) d q/\o [.bool (q==0)] d else o [.bool false] d)) fun a2 w =>
 ∃ h,A2 a2 0=.bool h/\Ad (fun p=>(bif h then
 p [Yn 20] w
 else
 p [Yn e] w)) fun a3 x =>
 ∃ l,Yg 69 b x l/\∃ r,A2 a3 0=Yn r/\∃ g,YE 69 a (.agg l) x g/\∃ n,Yg 69 a g n/\K (.tuple #[.agg n,Yn r]) g)
theorem Io(p0:YB)(n1:Int):Yz Bc #[.pointer p0,Yn n1] (Fb p0 n1):=fun _ _ h=>Ac (A:=⟨[7,26],[(7,24),(26,4)],[]⟩) Tryz.func33 h
def Us(a:Int)(j:World)(K:YA):Prop :=
 Ad (fun f=>(bif decide (a<1)then f [.bool true] j else f [.bool (decide (a > 4096))] j)) fun p l =>
 ∃ c,A2 p 0=.bool c/\(bif c then
 K (.tuple #[.pointer none,Yn 1]) l
 else
 ∃ b g d m,Ru (Instr.makeSlice 151 (Yn a) (Yn a)) l (.slice b g d) m/\∃ h n,Ru (Instr.makeMap 152 none) m (.map h) n/\∃ e,Al (Instr.build 154 #[(0,.slice b g d),(1,.map h),(2,Yn ((-1)))]) (.agg e)/\∃ i o,Yb 154 (.agg e) n i o/\K (.tuple #[.pointer (some i),Yn 0]) o)
theorem cR(n0:Int):Yz KV #[Yn n0] (Us n0):=fun _ _ h=>Ac (A:=⟨[9],[(9,4)],[]⟩) Tryz.func34 h
def QH(a:YB)(a1:Array Value)(b9:World)(K:YA):Prop :=
 ∃ b d,Yb 83 (.agg a1) b9 b d/\(bif Option.isNone a then
 K (Yn 2) d
 else
 ∃ m,Yg 83 b d m/\YC Dh #[.agg m] d fun a9 f=>∃ i,a9=.bool i/\(bif !i then
 K (Yn 1) f
 else
 ∃ e,Yg 83 b (Af f) e/\YC B1 #[.pointer a] (Af f) fun b0 w=>∃ s,b0=Yn s/\YD 83 b w (.agg e)/\YC G1 #[.agg e] w fun b1 x=>∃ t,b1=Yn t/\(bif decide (s<t)then
 K (Yn 4) x
 else
 AS (fun a2 c5 y =>
 ∃ c,A2 c5 0=Yn c/\(bif decide (c<2)then
 ∃ g q j z,Ru (Instr.makeSlice 57 (Yn 256) (Yn 256)) y (.slice g q j) z/\YC AY #[.pointer a,Yn c,.slice g q j] z fun b2 c3=>∃ a3,b2=Yn a3/\a2 [Yn (Yw (c+1))] c3
 else
 YC BI #[.pointer a] y fun b3 a0=>∃ a4,b3=Yn a4/\∃ n,Yg 83 b a0 n/\YC PC #[.agg n,Yn 0,.func (.func AY) #[.pointer a] #[]] a0 fun b4 c4=>∃ a5,b4=Yn a5/\YC BI #[.pointer a] c4 fun b5 v=>∃ a6,b5=Yn a6/\∃ o,Yg 83 b v o/\∃ p,Al (Instr.build 127 #[(0,Yn 1),(1,.agg o)]) (.agg p)/\YC MT #[.agg p] v fun b6 c0=>∃ h r l a7,b6=.tuple #[.slice h r l,Yn a7]/\YC AY #[.pointer a,Yn 1,.slice h r l] c0 fun b7 c1=>∃ a8,b7=Yn a8/\YC BI #[.pointer a] c1 fun b8 c2=>∃ u,b8=Yn u/\K (Yn u) c2)) [Yn 0] x)))
theorem XH(p0:YB)(g1:Array Value):Yz Id #[.pointer p0,.agg g1] (QH p0 g1):=fun _ _ h=>Ac (A:=⟨[21],[(21,3)],[]⟩) Tryz.func35 h
def SY(d:YB)(f3:World)(K:YA):Prop :=
 YC B1 #[.pointer d] f3 fun e3 f4=>∃ o,e3=Yn o/\YC L1 #[.pointer d,Yn (if 1 > o then 1 else o)] f4 fun e4 d0=>∃ c0 p,e4=.tuple #[.pointer c0,Yn p]/\(bif p != 0 then
 K (.tuple #[.pointer none,Yn p]) d0
 else
 YC B7 #[.pointer d,Yn 0] d0 fun e5 f9=>∃ x b0 a0 d9,e5=.tuple #[.slice x b0 a0,Yn d9]/\YC B7 #[.pointer d,Yn 1] f9 fun e6 g0=>∃ y b1 a1 e0,e6=.tuple #[.slice y b1 a1,Yn e0]/\YC B1 #[.pointer d] g0 fun e7 g1=>∃ b3,e7=Yn b3/\YC II #[.slice x b0 a0,.slice y b1 a1,Yn b3] g1 fun e8 g2=>∃ a3 e1 q,e8=.tuple #[.agg a3,Yn e1,Yn q]/\∃ b d4,Yq 127 g2 b d4/\∃ i,YE 127 b (.agg a3) d4 i/\(bif q != 0 then
 K (.tuple #[.pointer none,Yn q]) i
 else
 ∃ l,Yg 127 b (Af i) l/\YC U8 #[] (Af i) fun e9 d5=>∃ c1,e9=.pointer c1/\YD 127 b d5 (.agg l)/\∃ a4,Al (Instr.build 131 #[(0,.agg l),(1,.pointer c0),(2,.pointer c1),(3,Yn 0)]) (.agg a4)/\∃ a u,Yb 131 (.agg a4) d5 a u/\∃ b4,Yi (Addr.add (Addr.add b 1) 2) u b4/\AS (fun d6 g3 c6 =>
 ∃ c,A2 g3 0=Yn c/\(bif decide (c<b4)then
 YC Be #[.pointer (some a),Yn c] c6 fun f0 f5=>∃ a5 b5,f0=.tuple #[.agg a5,Yn b5]/\∃ r c7,Yq 171 f5 r c7/\∃ f,YE 171 r (.agg a5) c7 f/\Ad (fun a8=>(bif b5 != 0 then a8 [.bool true] f else ∃ b6,Yi (Addr.add r 0) f b6/\a8 [.bool (b6 != c)] f)) fun g4 c8 =>
 ∃ j,A2 g4 0=.bool j/\(bif j then
 K (.tuple #[.pointer none,Yn 8]) c8
 else
 d6 [Yn (Yw (c+1)),.bool j] c8)
 else
 YC BP #[.pointer (some a),Yn 1] c6 fun f1 f6=>∃ a6 b7,f1=.tuple #[.agg a6,Yn b7]/\∃ s c9,Yq 69 f6 s c9/\∃ g,YE 69 s (.agg a6) c9 g/\Ad (fun a9=>(bif b7 != 0 then a9 [.bool true] g else ∃ b8,Yi (Addr.add s 0) g b8/\a9 [.bool (b8 != 2)] g)) fun g5 v =>
 ∃ z,A2 g5 0=.bool z/\(bif z then
 K (.tuple #[.pointer none,Yn 8]) v
 else
 ∃ a7,Yg 83 (Addr.add b 1) v a7/\YC GV #[.agg a7] v fun f2 f7=>∃ b9,f2=Yn b9/\AS (fun d7 g6 w =>
 ∃ e,A2 g6 0=Yn e/\(bif decide (e<b9)then
 YC BP #[.pointer (some a),Yn e] w fun e2 f8=>∃ a2 d8,e2=.tuple #[.agg a2,Yn d8]/\∃ t d1,Yq 69 f8 t d1/\∃ h,YE 69 t (.agg a2) d1 h/\∃ c2,(.pointer (some a):Value)=.pointer (some c2)/\∃ m,YD 2 (Addr.add c2 6) (Af h) (Yn m)/\∃ n,YD 2 (Addr.add t 3) (Af h) (Yn n)/\∃ c3,(.pointer (some a):Value)=.pointer (some c3)/\∃ d2,YE 2 (Addr.add c3 6) (Yn (if n > m then n else m)) (Af h) d2/\d7 [Yn (Yw (e+1))] d2
 else
 ∃ c4,(.pointer (some a):Value)=.pointer (some c4)/\∃ b2,YD 2 (Addr.add c4 6) w (Yn b2)/\∃ c5,(.pointer (some a):Value)=.pointer (some c5)/\∃ d3,YE 2 (Addr.add c5 6) (Yn (Yw (b2+1))) w d3/\K (.tuple #[.pointer (some a),Yn 0]) d3)) [Yn 0] f7))) [Yn 0,undef] u))
theorem Zl(p0:YB):Yz JC #[.pointer p0] (SY p0):=fun _ _ h=>Ac (A:=⟨[62,78,91,95],[(62,3),(78,4),(91,4),(95,3)],[]⟩) Tryz.func36 h
def W0(b:YB)(d:World)(K:YA):Prop :=
 (bif Option.isNone b then
 K (.pointer none) d
 else
 ∃ a,Al (Instr.build 104 #[(0,.pointer b)]) (.agg a)/\∃ c e,Yb 104 (.agg a) d c e/\K (.pointer (some c)) e)
theorem kW(p0:YB):Yz W8 #[.pointer p0] (W0 p0):=fun _ _ h=>Ac (A:=⟨[],[],[]⟩) Tryz.func37 h
def Ut(a:YB)(g:World)(K:YA):Prop :=
 (bif Option.isNone a then
 K (.pointer none) g
 else
 YC Cz #[.pointer a] g fun l m=>∃ e,l=.pointer e/\∃ c h,Ru (Instr.makeMap 52 none) m (.map c) h/\∃ d i,Ru (Instr.makeMap 108 none) h (.map d) i/\∃ b,Al (Instr.build 110 #[(0,.pointer a),(1,.pointer e),(2,.map c),(3,.map d)]) (.agg b)/\∃ f j,Yb 110 (.agg b) i f j/\K (.pointer (some f)) j)
theorem cS(p0:YB):Yz KW #[.pointer p0] (Ut p0):=fun _ _ h=>Ac (A:=⟨[],[],[]⟩) Tryz.func38 h
def SF(c:YB)(e:World)(K:YA):Prop :=
 (bif Option.isNone c then
 K (.pointer none) e
 else
 ∃ b f,Ru (Instr.makeMap 122 none) e (.map b) f/\∃ a,Al (Instr.build 124 #[(0,.pointer c),(1,.map b)]) (.agg a)/\∃ d g,Yb 124 (.agg a) f d g/\K (.pointer (some d)) g)
theorem YS(p0:YB):Yz J0 #[.pointer p0] (SF p0):=fun _ _ h=>Ac (A:=⟨[],[],[]⟩) Tryz.func39 h
def U5(b:YB)(d:World)(K:YA):Prop :=
 (bif Option.isNone b then
 K (.pointer none) d
 else
 ∃ a,Al (Instr.build 102 #[(0,.pointer b)]) (.agg a)/\∃ c e,Yb 102 (.agg a) d c e/\K (.pointer (some c)) e)
theorem dA(p0:YB):Yz U9 #[.pointer p0] (U5 p0):=fun _ _ h=>Ac (A:=⟨[],[],[]⟩) Tryz.func40 h
def Kz(v:World)(K:YA):Prop :=
 ∃ j,Al (Instr.build 178 #[]) (.agg j)/\∃ a q,Yb 178 (.agg j) v a q/\AS (fun u w c =>
 ∃ b,A2 w 0=Yn b/\(bif decide (b<8)then
 ∃ o,(.pointer (some a):Value)=.pointer (some o)/\∃(d:YB)(l g:Nat),YD 176 (Addr.add o 2) c (.slice d l g)/\∃ e m h r,Ru (Instr.buildSlice 176 1 #[(0,Yn ((-1)))]) c (.slice e m h) r/\∃ f n i s,Ru (Builtin.append_ #[176,176] 176 #[.slice d l g,.slice e m h]) r (.slice f n i) s/\∃ p,(.pointer (some a):Value)=.pointer (some p)/\∃ t,YE 176 (Addr.add p 2) (.slice f n i) s t/\u [Yn (Yw (b+1))] t
 else
 K (.pointer (some a)) c)) [Yn 0] q
theorem RT(w0:World)(K:YA)(h:Kz  w0 K):A7 Yt G2 #[] w0 K :=
 Ac (A:=⟨[2],[(2,3)],[]⟩) Tryz.func41 h
def LR(n:YB)(i:Int)(s:World)(K:YA):Prop :=
 YC CT #[.pointer n,Yn i] s fun p t=>∃ f c,p=.tuple #[.agg f,Yn c]/\∃ a o,Yq 69 t a o/\∃ b,YE 69 a (.agg f) o b/\Ad (fun h=>(bif c != 0 then h [.bool true] b else ∃ g,Yg 69 a b g/\YC EN #[.pointer n,Yn i,.agg g] b fun q u=>∃ j,q=Yn j/\h [.bool (decide (j >= 0))] u)) fun w d =>
 ∃ e,A2 w 0=.bool e/\(bif e then
 K (.tuple #[Yn 0,Yn c]) d
 else
 ∃ l,YD 2 (Addr.add a 2) d (Yn l)/\YC IH #[Yn l,Yn 256] d fun r v=>∃ m,r=Yn m/\K (.tuple #[Yn m,Yn 0]) v)
theorem T0(p0:YB)(n1:Int):Yz BO #[.pointer p0,Yn n1] (LR p0 n1):=fun _ _ h=>Ac (A:=⟨[22],[(22,4)],[]⟩) Tryz.func42 h
def LQ(i:YB)(h:Int)(l:ByteArray)(m:World)(K:YA):Prop :=
 YC DB #[.pointer i,Yn h,.string l] m fun j n=>∃ c d e,j=.tuple #[.agg c,Yn d,Yn e]/\∃ a g,Yq 143 n a g/\∃ b,YE 143 a (.agg c) g b/\∃ f,Yi (Addr.add a 0) b f/\K (.tuple #[Yn f,Yn d,Yn e]) b
theorem Ty(p0:YB)(n1:Int)(s2:ByteArray):Yz DA #[.pointer p0,Yn n1,.string s2] (LQ p0 n1 s2):=fun _ _ h=>Ac (A:=⟨[],[],[]⟩) Tryz.func43 h
def HN(m:YB)(l:Int)(g:World)(K:YA):Prop :=
 ∃ f,(.pointer m:Value)=.pointer (some f)/\∃ e,Yp 35 (Addr.add f 1) g e/\YC H0 #[.pointer e,Yn l] g fun n h=>∃ i c j d,n=.tuple #[.slice i c j,Yn d]/\Ad (fun b=>(bif d==0 then b [.bool (decide ((c:Int) > 0))] h else b [.bool false] h)) fun p o =>
 ∃ a,A2 p 0=.bool a/\K (.bool a) o
theorem Ot(p0:YB)(n1:Int):Yz EB #[.pointer p0,Yn n1] (HN p0 n1):=fun _ _ h=>Ac (A:=⟨[4],[(4,4)],[]⟩) Tryz.func44 h
def Jf(g:YB)(f:Int)(i:ByteArray)(c:YB)(e d:Nat)(j:World)(K:YA):Prop :=
 YC LZ #[.pointer g,Yn f,.string i,.slice c e d,.func (.func HT) #[] #[]] j fun h l=>∃ a b,h=.tuple #[Yn a,Yn b]/\K (.tuple #[Yn a,Yn b]) l
theorem Qn(p0:YB)(n1:Int)(s2:ByteArray)(a3:YB)(l3 c3:Nat):Yz FQ #[.pointer p0,Yn n1,.string s2,.slice a3 l3 c3] (Jf p0 n1 s2 a3 l3 c3):=fun _ _ h=>Ac (A:=⟨[],[],[]⟩) Tryz.func45 h
def Ju(c:YB)(b:Int)(j:Int)(b2:World)(K:YA):Prop :=
 YC Bc #[.pointer c,Yn b] b2 fun a8 b3=>∃ s i,a8=.tuple #[.agg s,Yn i]/\∃ a a5,Yq 69 b3 a a5/\∃ d,YE 69 a (.agg s) a5 d/\(bif i != 0 then
 K (Yn i) d
 else
 Ad (fun t=>∃ x,Yi (Addr.add a 1) d x/\(bif decide (x > 1)then t [.bool true] d else YC B9 #[.pointer c,Yn b] d fun a9 b6=>∃ y,a9=Yn y/\t [.bool (decide (y > 0))] b6)) fun b7 f =>
 ∃ q,A2 b7 0=.bool q/\(bif q then
 ∃ l,Yi (Addr.add a 1) f l/\∃ e,YE 3 (Addr.add a 1) (Yn (if 0 > (Yw (l-1))then 0 else(Yw (l-1)))) f e/\∃ z,Yi (Addr.add a 1) e z/\Ad (fun u=>(bif z==0 then
 ∃ a3,(.pointer c:Value)=.pointer (some a3)/\∃ w,YD 52 (Addr.add a3 11) e (.map w)/\∃ a6,Gr (Instr.mapUpdate 52 (.map w) (Yn b) (Yn j)) e a6/\u [] a6
 else
 u [] e)) fun b8 o =>
 ∃ n,(.pointer c:Value)=.pointer (some n)/\∃ m,Yp 50 (Addr.add n 2) (Af o) m/\∃ h,Yg 69 a (Af o) h/\∃ p v r g,Ru (Instr.buildSlice 75 1 #[(0,Yn j)]) (Af o) (.slice p v r) g/\YD 50 (Addr.add n 2) g (.pointer m)/\YD 69 a g (.agg h)/\YC Bg #[.pointer m,Yn b,.agg h,.slice p v r] g fun b0 b4=>∃ a7 a0,b0=.tuple #[Yn a7,Yn a0]/\K (Yn a0) b4
 else
 ∃ a4,(.pointer c:Value)=.pointer (some a4)/\∃ a2,Yp 50 (Addr.add a4 2) f a2/\YC DT #[.pointer a2,Yn b,Yn j] f fun b1 b5=>∃ a1,b1=Yn a1/\K (Yn a1) b5))
theorem Q1(p0:YB)(n1:Int)(n2:Int):Yz DX #[.pointer p0,Yn n1,Yn n2] (Ju p0 n1 n2):=fun _ _ h=>Ac (A:=⟨[26],[(26,4)],[]⟩) Tryz.func46 h
def I7(b:YB)(f:Int)(n:ByteArray)(c:World)(K:YA):Prop :=
 (bif Option.isNone b then
 K (.tuple #[Yn 0,Yn 2]) c
 else
 ∃ l,(.pointer b:Value)=.pointer (some l)/\∃ i,Yp 35 (Addr.add l 1) c i/\YC BO #[.pointer i,Yn f] c fun r o=>∃ p a,r=.tuple #[Yn p,Yn a]/\(bif a != 0 then
 K (.tuple #[Yn 0,Yn a]) o
 else
 YC EE #[.string n] o fun s d=>∃ e,s=.bool e/\(bif !e then
 K (.tuple #[Yn 0,Yn 25]) d
 else
 ∃ m,(.pointer b:Value)=.pointer (some m)/\∃ j,Yp 35 (Addr.add m 1) d j/\YC DA #[.pointer j,Yn f,.string n] d fun t u=>∃ g q h,t=.tuple #[Yn g,Yn q,Yn h]/\K (.tuple #[Yn g,Yn h]) u)))
theorem Pt(p0:YB)(n1:Int)(s2:ByteArray):Yz D0 #[.pointer p0,Yn n1,.string s2] (I7 p0 n1 s2):=fun _ _ h=>Ac (A:=⟨[],[],[]⟩) Tryz.func47 h
def Jj(c:YB)(e:Int)(z:Int)(a6:World)(K:YA):Prop :=
 YC IF #[.pointer c,Yn e] a6 fun a2 v=>∃ i d l f,a2=.tuple #[.slice i d l,Yn f]/\(bif f != 0 then
 K (Yn f) v
 else
 ∃ n,Al (Instr.build 69 #[]) (.agg n)/\∃ j o m w,Ru (Instr.buildSlice 75 1 #[(0,Yn z)]) v (.slice j o m) w/\YC Bg #[.pointer c,Yn e,.agg n,.slice j o m] w fun a3 x=>∃ g h,a3=.tuple #[Yn g,Yn h]/\(bif h != 0 then
 K (Yn h) x
 else
 AS (fun y a9 a =>
 ∃ b,A2 a9 0=Yn b/\(bif decide (b<(d:Int))then
 ∃ s,Yx 176 (.slice i d l) (Yn b) s/\∃ p,Yi s a p/\∃ t,(.pointer c:Value)=.pointer (some t)/\∃ q,Yp 61 (Addr.add t 0) a q/\YC K3 #[.pointer q,Yn p,Yn g] a fun a4 a7=>∃ a0,a4=Yn a0/\y [Yn (Yw (b+1))] a7
 else
 ∃ u,(.pointer c:Value)=.pointer (some u)/\∃ r,Yp 61 (Addr.add u 0) a r/\YC Dm #[.pointer r,Yn e,Yn g] a fun a5 a8=>∃ a1,a5=Yn a1/\K (Yn 0) a8)) [Yn 0] x))
theorem Qr(p0:YB)(n1:Int)(n2:Int):Yz DT #[.pointer p0,Yn n1,Yn n2] (Jj p0 n1 n2):=fun _ _ h=>Ac (A:=⟨[35],[(35,3)],[]⟩) Tryz.func50 h
def EV(c3:YB)(c8:World)(K:YA):Prop :=
 ∃ e b1,Yb 61 (.pointer c3) c8 e b1/\∃ b b6,Yq 3 b1 b b6/\∃ a b7,Yq 3 b6 a b7/\∃ b8,YE 3 b (Yn 0) b7 b8/\∃ c,YE 3 a (Yn 0) b8 c/\∃ a2,Yp 61 e c a2/\(bif Option.isNone a2 then
 ∃ s,Yi b (Af c) s/\∃ t,Yi a (Af c) t/\K (.tuple #[Yn s,Yn t]) (Af c)
 else
 ∃ a3,Yp 61 e c a3/\∃ p,Al (Instr.build 112 #[]) (.agg p)/\YC Do #[.pointer a3,.agg p,.bool false] c fun c4 d=>∃ b0:Value,c4=b0/\L5 Yt b0 2 d (fun d1 b9 c0 c9 =>
 ∃ u,A2 d1 0=Yn u/\b9 (fun o =>
 ∃ a4,Yp 61 e o a4/\∃ a8,(.pointer a4:Value)=.pointer (some a8)/\∃ a5,Yp 34 (Addr.add a8 0) o a5/\YC Be #[.pointer a5,Yn u] o fun c5 d0=>∃ q c2,c5=.tuple #[.agg q,Yn c2]/\∃ g b2,Yq 171 d0 g b2/\∃ f,YE 171 g (.agg q) b2 f/\∃ a6,Yp 61 e (Af f) a6/\∃ a9,(.pointer a6:Value)=.pointer (some a9)/\∃ a7,Yp 34 (Addr.add a9 0) (Af f) a7/\∃ j,Yg 171 g (Af f) j/\YC AR #[.pointer a7] (Af f) fun c6 b3=>∃ r,c6=.agg r/\YD 171 g b3 (.agg j)/\YC Ic #[.agg r,.agg j] b3 fun c7 m=>∃ v w,c7=.tuple #[Yn v,Yn w]/\∃ x,Yi b (Af m) x/\∃ l,Yi a (Af m) l/\∃ n,YE 3 b (Yn (Yw (x+v))) (Af m) n/\YD 3 a n (Yn l)/\∃ b4,YE 3 a (Yn (Yw (l+w))) n b4/\c0 none b4) c9)
 (XR (fun h =>
 ∃ y,Yi b (Af h) y/\∃ a0,Yi a (Af h) a0/\(World.heap (Af h))[(World.heap d).size]?=some (.deferred (some []))/\K (.tuple #[Yn y,Yn a0]) (World.putObj (Af h) ((World.heap d).size) (.deferred none)))
 (fun c1 i =>
 (bif Nat.beq c1 0 then
 ∃ z,Yi b (Af i) z/\∃ a1,Yi a (Af i) a1/\(World.heap (Af i))[(World.heap d).size]?=some (.deferred (some []))/\K (.tuple #[Yn z,Yn a1]) (World.putObj (Af i) ((World.heap d).size) (.deferred none))
 else
 False))
 (fun b5 =>
 (World.heap b5)[(World.heap d).size]?=some (.deferred (some []))/\K (.tuple #[Yn 0,Yn 0]) (World.putObj b5 ((World.heap d).size) (.deferred none)))))
theorem Pb(p0:YB)(w0:World)(K:YA)(h:EV p0 w0 K):A7 Yt Dl #[.pointer p0] w0 K :=
 F8 (A:={ S:=[],ty:=[(18,3)],raw:=[] }) Vs Tryz.func51 (by kernel_rfl) (by kernel_rfl) ((show Tf Yt _ Tryz.f51 _ w0 K=EV p0 w0 K by kernel_rfl).mpr h)
def Uz(a:Int)(c:Int)(f:World)(K:YA):Prop :=
 Ad (fun b=>(bif decide (c<1)then b [.bool true] f else YC Fj #[Yn a,Yn 0,Yn 1066496] f fun i g=>∃ e,i=Yn e/\(bif a != e then b [.bool true] g else b [.bool (decide (c > (Yw (1066496-a))))] g))) fun j h =>
 ∃ d,A2 j 0=.bool d/\(bif d then
 K (.tuple #[Yn 0,Yn ((-1))]) h
 else
 K (.tuple #[Yn (Yw (Int.tdiv a 256)),Yn (Yw (Int.tdiv (Yw (a+(Yw (c-1)))) 256))]) h)
theorem cY(n0:Int)(n1:Int):Yz P9 #[Yn n0,Yn n1] (Uz n0 n1):=fun _ _ h=>Ac (A:=⟨[19],[(19,4)],[]⟩) Tryz.func52 h
def Is(q:YB)(n:Int)(y:World)(K:YA):Prop :=
 ∃ a c,Yq 112 y a c/\∃ u,(.pointer q:Value)=.pointer (some u)/\∃ r,Yp 34 (Addr.add u 0) c r/\YC AR #[.pointer r] c fun v z=>∃ g,v=.agg g/\YC U7 #[.agg g,Yn n] z fun w d=>∃ b,w=Yn b/\(bif decide (b<0)then
 ∃ h,Al (Instr.build 112 #[]) (.agg h)/\∃ e,YE 112 a (.agg h) d e/\∃ l,Yg 112 a e l/\K (.tuple #[.agg l,.bool false]) e
 else
 ∃ t,(.pointer q:Value)=.pointer (some t)/\∃ s,Yp 34 (Addr.add t 0) d s/\YC AR #[.pointer s] d fun x a0=>∃ i,x=.agg i/\∃ o,Al (Instr.field 83 (.agg i) 1) (Yn o)/\∃ p,Al (G9 .rem 3 (.tmp 18) (.tmp 24) (Yn n) (Yn o)) (Yn p)/\∃ j,Al (Instr.build 112 #[(0,Yn b),(1,Yn p)]) (.agg j)/\∃ f,YE 112 a (.agg j) a0 f/\∃ m,Yg 112 a f m/\K (.tuple #[.agg m,.bool true]) f)
theorem Pe(p0:YB)(n1:Int):Yz Dp #[.pointer p0,Yn n1] (Is p0 n1):=fun _ _ h=>Ac (A:=⟨[],[],[]⟩) Tryz.func53 h
def EW(e9:YB)(e6:Array Value)(e4:Bool)(e7:Array Value)(f5:World)(K:YA):Prop :=
 ∃ h c7,Yb 61 (.pointer e9) f5 h c7/\∃ c5 d3,Yb 112 (.agg e6) c7 c5 d3/\∃ n e0,Yb 120 (.agg e7) d3 n e0/\∃ c e1,Yq 112 e0 c e1/\∃ d e2,Yq 2 e1 d e2/\∃ b p,Yq 24 e2 b p/\∃ b7,Yp 61 h p b7/\∃ w,Yg 112 c5 p w/\YC Do #[.pointer b7,.agg w,.bool e4] p fun f0 a=>∃ c6:Value,f0=c6/\L5 Yt c6 2 a (fun e3 e5 q g0 =>
 ∃ j,A2 e3 0=Yn j/\∃ a8,A2 e3 1=Yn a8/\e5 (fun v =>
 ∃ b8,Yp 61 h v b8/\∃ c3,(.pointer b8:Value)=.pointer (some c3)/\∃ b9,Yp 34 (Addr.add c3 0) v b9/\YC Be #[.pointer b9,Yn j] v fun f1 f6=>∃ x s,f1=.tuple #[.agg x,Yn s]/\∃ m c8,Yq 171 f6 m c8/\∃ e,YE 171 m (.agg x) c8 e/\(bif s != 0 then
 ∃ y,Al (Instr.build 112 #[]) (.agg y)/\∃ c9,YE 112 c (.agg y) e c9/\∃ d0,YE 2 d (Yn 0) c9 d0/\∃ d1,YE 24 b (Yn s) d0 d1/\q (some Code.ret) d1
 else
 ∃ t:Value,YD 117 (Addr.add n 0) (Af e) t/\∃ c0,Yp 61 h (Af e) c0/\∃ c4,(.pointer c0:Value)=.pointer (some c4)/\∃ c1,Yp 34 (Addr.add c4 0) (Af e) c1/\∃ r,Yg 171 m (Af e) r/\YC AR #[.pointer c1] (Af e) fun f2 u=>∃ z,f2=.agg z/\YD 117 (Addr.add n 0) u t/\YD 171 m u (.agg r)/\TH Yt t #[.agg z,.agg r,Yn a8] u fun f3 o=>∃ l,f3=Yn l/\(bif decide (l >= 0)then
 ∃ c2,Yp 61 h o c2/\∃ a0,Al (Instr.build 112 #[(0,Yn j),(1,Yn l)]) (.agg a0)/\∃ a1,Yg 120 n o a1/\YC Fc #[.pointer c2,.agg a0,.agg a1,.bool true] o fun f4 f7=>∃ a9 b0,f4=.tuple #[Yn a9,Yn b0]/\∃ a2,Al (Instr.build 112 #[(0,Yn j),(1,Yn l)]) (.agg a2)/\∃ d2,YE 112 c (.agg a2) f7 d2/\∃ d4,YE 2 d (Yn a9) d2 d4/\∃ d5,YE 24 b (Yn b0) d4 d5/\q (some Code.ret) d5
 else
 q none o))) g0)
 (XR (fun f8 =>
 ∃ a3,Al (Instr.build 112 #[]) (.agg a3)/\∃ d6,YE 112 c (.agg a3) f8 d6/\∃ d7,YE 2 d (Yn 0) d6 d7/\∃ f,YE 24 b (Yn 26) d7 f/\(World.heap f)[(World.heap a).size]?=some (.deferred (some []))/\∃ a5,YD 112 c (World.putObj f ((World.heap a).size) (.deferred none)) (.agg a5)/\∃ b4,YD 2 d (World.putObj f ((World.heap a).size) (.deferred none)) (Yn b4)/\∃ b1,YD 24 b (World.putObj f ((World.heap a).size) (.deferred none)) (Yn b1)/\K (.tuple #[.agg a5,Yn b4,Yn b1]) (World.putObj f ((World.heap a).size) (.deferred none)))
 (fun e8 f9 =>
 (bif Nat.beq e8 0 then
 ∃ a4,Al (Instr.build 112 #[]) (.agg a4)/\∃ d8,YE 112 c (.agg a4) f9 d8/\∃ d9,YE 2 d (Yn 0) d8 d9/\∃ g,YE 24 b (Yn 26) d9 g/\(World.heap g)[(World.heap a).size]?=some (.deferred (some []))/\∃ a6,YD 112 c (World.putObj g ((World.heap a).size) (.deferred none)) (.agg a6)/\∃ b5,YD 2 d (World.putObj g ((World.heap a).size) (.deferred none)) (Yn b5)/\∃ b2,YD 24 b (World.putObj g ((World.heap a).size) (.deferred none)) (Yn b2)/\K (.tuple #[.agg a6,Yn b5,Yn b2]) (World.putObj g ((World.heap a).size) (.deferred none))
 else
 False))
 (fun i =>
 (World.heap i)[(World.heap a).size]?=some (.deferred (some []))/\∃ a7,YD 112 c (World.putObj i ((World.heap a).size) (.deferred none)) (.agg a7)/\∃ b6,YD 2 d (World.putObj i ((World.heap a).size) (.deferred none)) (Yn b6)/\∃ b3,YD 24 b (World.putObj i ((World.heap a).size) (.deferred none)) (Yn b3)/\K (.tuple #[.agg a7,Yn b6,Yn b3]) (World.putObj i ((World.heap a).size) (.deferred none))))
theorem Pf(p0:YB)(g1:Array Value)(b2:Bool)(g3:Array Value)(w0:World)(K:YA)(h:EW p0 g1 b2 g3 w0 K):A7 Yt Dq #[.pointer p0,.agg g1,.bool b2,.agg g3] w0 K :=
 F8 (A:={ S:=[],ty:=[(22,3),(23,3)],raw:=[] }) Vs Tryz.func54 (by kernel_rfl) (by kernel_rfl) ((show Tf Yt _ Tryz.f54 _ w0 K=EW p0 g1 b2 g3 w0 K by kernel_rfl).mpr h)
def OB(f:World)(K:YA):Prop :=
 ∃ a e,Yq 120 f a e/\∃ c,Al (Instr.build 120 #[(0,.func (.func Ev) #[] #[]),(1,.func (.func EP) #[] #[])]) (.agg c)/\∃ b,YE 120 a (.agg c) e b/\∃ d,Yg 120 a b d/\K (.agg d) b
theorem VY(w0:World)(K:YA)(h:OB  w0 K):A7 Yt JV #[] w0 K :=
 Ac (A:=⟨[],[],[]⟩) Tryz.func55 h
def OK(i:YB)(l:World)(K:YA):Prop :=
 ∃ a b,Yq 83 l a b/\(bif Option.isNone i then
 ∃ f,Al (Instr.build 83 #[]) (.agg f)/\∃ c,YE 83 a (.agg f) b c/\∃ g,Yg 83 a c g/\K (.agg g) c
 else
 ∃ j,(.pointer i:Value)=.pointer (some j)/\∃ e,Yg 83 (Addr.add (Addr.add j 0) 1) b e/\∃ d,YE 83 a (.agg e) b d/\∃ h,Yg 83 a d h/\K (.agg h) d)
theorem Wl(p0:YB):Yz AR #[.pointer p0] (OK p0):=fun _ _ h=>Ac (A:=⟨[],[],[]⟩) Tryz.func56 h
def IC(n:YB)(w:Int)(u:Array Value)(s:YB)(v t:Nat)(a0:World)(K:YA):Prop :=
 ∃ q r,Yb 69 (.agg u) a0 q r/\YC DC #[.pointer n,Yn w] r fun x c=>∃ i j a,x=.tuple #[Yn i,Yn j,Yn a]/\(bif a != 0 then
 K (.tuple #[Yn 0,Yn a]) c
 else
 ∃ g,Yg 69 q c g/\YC J6 #[.agg g] c fun y d=>∃ e h f b,y=.tuple #[.slice e h f,Yn b]/\(bif b != 0 then
 K (.tuple #[Yn 0,Yn b]) d
 else
 ∃ p,(.pointer n:Value)=.pointer (some p)/\∃ o,Yp 128 (Addr.add p 4) d o/\YC Bz #[.pointer o,Yn i,Yn (Yw (j*64)),.slice e h f,.slice s v t] d fun z a1=>∃ l m,z=.tuple #[Yn l,Yn m]/\K (.tuple #[Yn l,Yn m]) a1))
theorem P0(p0:YB)(n1:Int)(g2:Array Value)(a3:YB)(l3 c3:Nat):Yz Fl #[.pointer p0,Yn n1,.agg g2,.slice a3 l3 c3] (IC p0 n1 g2 a3 l3 c3):=fun _ _ h=>Ac (A:=⟨[],[],[]⟩) Tryz.func57 h
def SI(g:YB)(i h:Nat)(m:World)(K:YA):Prop :=
 YC CC #[.slice g i h] m fun j n=>∃ a e c,j=.slice a e c/\YC B4 #[.slice a e c,.func (.func OL) #[] #[]] n fun l o=>∃ b f d,l=.slice b f d/\K (.slice b f d) o
theorem YV(a0:YB)(l0 c0:Nat):Yz J2 #[.slice a0 l0 c0] (SI a0 l0 c0):=fun _ _ h=>Ac (A:=⟨[],[],[]⟩) Tryz.func58 h
def Jm(d:YB)(c:Int)(a2:Int)(e:World)(K:YA):Prop :=
 ∃ b,(.pointer d:Value)=.pointer (some b)/\∃ a,YD 108 (Addr.add b 3) (Af e) (.map a)/\(YC C8 #[.pointer d,Yn c] (Af e) fun a7 a3=>∃ j w q,a7=.slice j w q/\YD 108 (Addr.add b 3) a3 (.map a)/\∃ m y s f,Ru (Instr.buildSlice 75 1 #[(0,Yn a2)]) a3 (.slice m y s) f/\YD 108 (Addr.add b 3) f (.map a)/\∃ o a0 u g,Ru (Builtin.append_ #[75,75] 75 #[.slice j w q,.slice m y s]) f (.slice o a0 u) g/\YD 108 (Addr.add b 3) g (.map a)/\∃ a4,Gr (Instr.mapUpdate 108 (.map a) (Yn c) (.slice o a0 u)) g a4/\K (.tuple #[]) a4)/\(∃ n z t h,Ru (Instr.buildSlice 75 1 #[(0,Yn a2)]) (Af e) (.slice n z t) h/\YD 108 (Addr.add b 3) h (.map a)/\YC C8 #[.pointer d,Yn c] h fun a8 a5=>∃ l x r,a8=.slice l x r/\YD 108 (Addr.add b 3) a5 (.map a)/\∃ p a1 v i,Ru (Builtin.append_ #[75,75] 75 #[.slice l x r,.slice n z t]) a5 (.slice p a1 v) i/\YD 108 (Addr.add b 3) i (.map a)/\∃ a6,Gr (Instr.mapUpdate 108 (.map a) (Yn c) (.slice p a1 v)) i a6/\K (.tuple #[]) a6)
theorem Qu(p0:YB)(n1:Int)(n2:Int):Yz DU #[.pointer p0,Yn n1,Yn n2] (Jm p0 n1 n2):=fun _ _ h=>Ac (A:=⟨[],[],[]⟩) Tryz.func59 h
def I3(t:YB)(s:Int)(v:World)(K:YA):Prop :=
 ∃ d o,Yq 69 v d o/\YC Cd #[.pointer t,Yn s] o fun u w=>∃ g c,u=.tuple #[.agg g,Yn c]/\∃ a p,Yq 69 w a p/\∃ b,YE 69 a (.agg g) p b/\Ad (fun j=>(bif c==0 then ∃ m,Yi (Addr.add a 0) b m/\j [.bool (m==0)] b else j [.bool false] b)) fun x q =>
 ∃ f,A2 x 0=.bool f/\Ad (fun l=>(bif f then
 l [Yn 20] q
 else
 l [Yn c] q)) fun y r =>
 ∃ h,Yg 69 a r h/\∃ n,A2 y 0=Yn n/\∃ e,YE 69 d (.agg h) r e/\∃ i,Yg 69 d e i/\K (.tuple #[.agg i,Yn n]) e
theorem Po(p0:YB)(n1:Int):Yz Ci #[.pointer p0,Yn n1] (I3 p0 n1):=fun _ _ h=>Ac (A:=⟨[7,20],[(7,24),(20,4)],[]⟩) Tryz.func60 h
def Jl(n:YB)(l:Array Value)(g:Int)(q:World)(K:YA):Prop :=
 ∃ i c,Yb 69 (.agg l) q i c/\(bif g==0 then
 K (Yn 0) c
 else
 YC MS #[Yn (Yw (g-1))] c fun o r=>∃ d m,o=.tuple #[.agg d,Yn m]/\∃ b j,Yq 200 r b j/\∃ a,YE 200 b (.agg d) j a/\∃ e,Yg 69 i a e/\∃ f,Yg 200 b a f/\YC Dw #[.pointer n,.agg e,.agg f] a fun p s=>∃ h,p=Yn h/\K (Yn h) s)
theorem Qt(p0:YB)(g1:Array Value)(n2:Int):Yz FS #[.pointer p0,.agg g1,Yn n2] (Jl p0 g1 n2):=fun _ _ h=>Ac (A:=⟨[],[],[]⟩) Tryz.func61 h
def HL(a:YB)(d7:Int)(g:YB)(i h:Nat)(e5:World)(K:YA):Prop :=
 YC MS #[Yn d7] e5 fun e0 e6=>∃ a8 n,e0=.tuple #[.agg a8,Yn n]/\∃ b d3,Yq 200 e6 b d3/\∃ c,YE 200 b (.agg a8) d3 c/\(bif n != 0 then
 K (.tuple #[Yn 0,.bool false,Yn n]) c
 else
 ∃ o,Yi (Addr.add b 0) c o/\(bif o==0 then
 ∃ b8,Yi (Addr.add b 1) (Af c) b8/\∃ c4,(.pointer a:Value)=.pointer (some c4)/\∃ c5,Yx 67 (.pointer (some (Addr.add (Addr.add c4 2) 4))) (Yn b8) c5/\∃ p,Yi c5 (Af c) p/\(bif p != 0 then
 K (.tuple #[Yn p,.bool false,Yn 0]) (Af c)
 else
 YC E9 #[.pointer a,.slice g i h,.slice none 0 0] (Af c) fun e1 w=>∃ q z b1 a5 r,e1=.tuple #[Yn q,.slice z b1 a5,Yn r]/\Ad (fun a9=>(bif r==0 then
 ∃ b9,Yi (Addr.add b 1) (Af w) b9/\∃ c6,(.pointer a:Value)=.pointer (some c6)/\∃ c7,Yx 67 (.pointer (some (Addr.add (Addr.add c6 2) 4))) (Yn b9) c7/\∃ x,YE 3 c7 (Yn q) (Af w) x/\∃ c8,(.pointer a:Value)=.pointer (some c8)/\∃(a0:YB)(b2 a6:Nat),YD 75 (Addr.add c8 14) x (.slice a0 b2 a6)/\∃ a1 b3 a7 d4,Ru (Builtin.append_ #[75,75] 75 #[.slice a0 b2 a6,.slice z b1 a5]) x (.slice a1 b3 a7) d4/\∃ c9,(.pointer a:Value)=.pointer (some c9)/\∃ d5,YE 75 (Addr.add c9 14) (.slice a1 b3 a7) d4 d5/\a9 [] d5
 else
 a9 [] w)) fun f0 e9 =>
 K (.tuple #[Yn q,.bool true,Yn r]) e9)
 else
 (bif o==1 then
 ∃ d0,(.pointer a:Value)=.pointer (some d0)/\YC J3 #[.pointer a,.pointer (some (Addr.add (Addr.add d0 2) 10))] c fun e2 f=>∃ s,e2=Yn s/\(bif s != 0 then
 K (.tuple #[Yn 0,.bool false,Yn s]) f
 else
 ∃ d1,(.pointer a:Value)=.pointer (some d1)/\∃ c0,Yi (Addr.add (Addr.add d1 2) 10) (Af f) c0/\∃ c1,Yi (Addr.add b 2) (Af f) c1/\YC EA #[.pointer a,Yn c0,Yn c1,.slice g i h] (Af f) fun e3 e7=>∃ c2 a3 c3,e3=.tuple #[Yn c2,.bool a3,Yn c3]/\K (.tuple #[Yn c2,.bool a3,Yn c3]) e7)
 else
 ∃ d2,(.pointer a:Value)=.pointer (some d2)/\YC J3 #[.pointer a,.pointer (some (Addr.add (Addr.add d2 2) 11))] c fun e4 d=>∃ t,e4=Yn t/\(bif t != 0 then
 K (.tuple #[Yn 0,.bool false,Yn t]) d
 else
 ∃ u,(.pointer a:Value)=.pointer (some u)/\∃ j,Yi (Addr.add (Addr.add u 2) 11) (Af d) j/\∃ l,Yi (Addr.add b 2) (Af d) l/\∃ y b0 a4 e,Ru (Instr.makeSlice 57 (Yn 256) (Yn 256)) (Af d) (.slice y b0 a4) e/\YD 3 (Addr.add (Addr.add u 2) 11) e (Yn j)/\YD 3 (Addr.add b 2) e (Yn l)/\YC EA #[.pointer a,Yn j,Yn l,.slice y b0 a4] e fun d8 v=>∃ b4 d6 m,d8=.tuple #[Yn b4,.bool d6,Yn m]/\(bif m != 0 then
 K (.tuple #[Yn 0,.bool false,Yn m]) v
 else
 ∃ b5,Yi (Addr.add b 3) v b5/\YC EA #[.pointer a,Yn b4,Yn b5,.slice g i h] v fun d9 e8=>∃ b6 a2 b7,d9=.tuple #[Yn b6,.bool a2,Yn b7]/\K (.tuple #[Yn b6,.bool a2,Yn b7]) e8)))))
theorem Oo(p0:YB)(n1:Int)(a2:YB)(l2 c2:Nat):Yz E8 #[.pointer p0,Yn n1,.slice a2 l2 c2] (HL p0 n1 a2 l2 c2):=fun _ _ h=>Ac (A:=⟨[],[],[]⟩) Tryz.func62 h
def Kw(d:YB)(p:Int)(q:Int)(r:Int)(i:YB)(n l:Nat)(j:YB)(o m:Nat)(g:World)(K:YA):Prop :=
 ∃ f,(.pointer d:Value)=.pointer (some f)/\∃ e,Yp 34 (Addr.add f 1) g e/\YC Gb #[.pointer e,Yn q,Yn r,.slice i n l,.slice j o m] g fun s h=>∃ a b,s=.tuple #[Yn a,Yn b]/\Ad (fun c=>(bif b==0 then
 YC DU #[.pointer d,Yn p,Yn a] h fun t u=>t=.tuple #[]/\c [] u
 else
 c [] h)) fun w v =>
 K (.tuple #[Yn a,Yn b]) v
theorem RQ(p0:YB)(n1:Int)(n2:Int)(n3:Int)(a4:YB)(l4 c4:Nat)(a5:YB)(l5 c5:Nat):Yz CV #[.pointer p0,Yn n1,Yn n2,Yn n3,.slice a4 l4 c4,.slice a5 l5 c5] (Kw p0 n1 n2 n3 a4 l4 c4 a5 l5 c5):=fun _ _ h=>Ac (A:=⟨[],[],[]⟩) Tryz.func63 h
def Hy(u:YB)(z:Int)(a3:World)(K:YA):Prop :=
 ∃ a x,Yq 69 a3 a x/\YC DC #[.pointer u,Yn z] x fun a0 d=>∃ r s b,a0=.tuple #[Yn r,Yn s,Yn b]/\(bif b != 0 then
 ∃ j,Al (Instr.build 69 #[]) (.agg j)/\∃ e,YE 69 a (.agg j) d e/\∃ n,Yg 69 a e n/\K (.tuple #[.agg n,Yn b]) e
 else
 ∃ w,(.pointer u:Value)=.pointer (some w)/\∃ v,Yp 128 (Addr.add w 4) d v/\YC Bd #[.pointer v,Yn r] d fun a1 y=>∃ h q i c,a1=.tuple #[.slice h q i,Yn c]/\(bif c != 0 then
 ∃ l,Al (Instr.build 69 #[]) (.agg l)/\∃ f,YE 69 a (.agg l) y f/\∃ o,Yg 69 a f o/\K (.tuple #[.agg o,Yn c]) f
 else
 YC KZ #[.slice h q i,Yn s] y fun a2 a4=>∃ m t,a2=.tuple #[.agg m,Yn t]/\∃ g,YE 69 a (.agg m) a4 g/\∃ p,Yg 69 a g p/\K (.tuple #[.agg p,Yn t]) g))
theorem LO(p0:YB)(n1:Int):Yz BP #[.pointer p0,Yn n1] (Hy p0 n1):=fun _ _ h=>Ac (A:=⟨[],[],[]⟩) Tryz.func64 h
def MC(y:YB)(a2:Int)(a4:World)(K:YA):Prop :=
 ∃ a d,Yq 69 a4 a d/\(bif Option.isNone y then
 ∃ l,Al (Instr.build 69 #[]) (.agg l)/\∃ f,YE 69 a (.agg l) d f/\∃ r,Yg 69 a f r/\K (.tuple #[.agg r,Yn 2]) f
 else
 ∃ a0,(.pointer y:Value)=.pointer (some a0)/\∃ z,Yp 50 (Addr.add a0 0) d z/\YC Cd #[.pointer z,Yn a2] d fun a3 a5=>∃ m e,a3=.tuple #[.agg m,Yn e]/\∃ c a1,Yq 69 a5 c a1/\∃ b,YE 69 c (.agg m) a1 b/\(bif e != 0 then
 ∃ n,Yg 69 c b n/\∃ g,YE 69 a (.agg n) b g/\∃ s,Yg 69 a g s/\K (.tuple #[.agg s,Yn e]) g
 else
 ∃ w,Yi (Addr.add c 0) b w/\(bif w==0 then
 ∃ o,Yg 69 c b o/\∃ h,YE 69 a (.agg o) b h/\∃ t,Yg 69 a h t/\K (.tuple #[.agg t,Yn 20]) h
 else
 ∃ x,Yi (Addr.add c 0) b x/\(bif x != 2 then
 ∃ p,Yg 69 c b p/\∃ i,YE 69 a (.agg p) b i/\∃ u,Yg 69 a i u/\K (.tuple #[.agg u,Yn 23]) i
 else
 ∃ q,Yg 69 c b q/\∃ j,YE 69 a (.agg q) b j/\∃ v,Yg 69 a j v/\K (.tuple #[.agg v,Yn 0]) j))))
theorem Ug(p0:YB)(n1:Int):Yz CT #[.pointer p0,Yn n1] (MC p0 n1):=fun _ _ h=>Ac (A:=⟨[],[],[]⟩) Tryz.func65 h
def OC(a:ByteArray)(f:World)(K:YA):Prop :=
 Ad (fun i=>(bif (ByteArray.toList a)==(ByteArray.toList ByteArray.empty)then
 i [.bool ((ByteArray.toList a)==(ByteArray.toList ByteArray.empty))] f
 else
 Ad (fun j=>(bif (ByteArray.toList a)==(ByteArray.toList ⟨#[46]⟩)then
 j [.bool ((ByteArray.toList a)==(ByteArray.toList ⟨#[46]⟩))] f
 else
 j [.bool ((ByteArray.toList a)==(ByteArray.toList (⟨#[46,46]⟩)))] f)) fun u r =>
 i [A2 u 0] r)) fun t n =>
 ∃ h,A2 t 0=.bool h/\(bif h then
 K (.bool false) n
 else
 ∃ m o,Ru (Instr.range 9 (.string a)) n (.pointer (some m)) o/\AS (fun q w s =>
 ∃ e:Value,∃ b,Ru (Instr.next (.pointer (some m)) true 0) s e b/\∃ g,Al (Instr.extract e 0) (.bool g)/\(bif g then
 ∃ d,Al (Instr.extract e 2) (.int .i32 d)/\Ad (fun l=>(bif d==47 then l [.bool true] b else l [.bool (d==0)] b)) fun v p =>
 ∃ c,A2 v 0=.bool c/\(bif c then
 K (.bool false) p
 else
 q [.bool c] p)
 else
 K (.bool (decide ((ByteArray.size a:Int)<=24))) b)) [undef] o)
theorem Wa(s0:ByteArray):Yz EE #[.string s0] (OC s0):=fun _ _ h=>Ac (A:=⟨[6,20],[(6,4),(20,4)],[12]⟩) Tryz.func66 h
def Hw(b4:YB)(a4:Int)(e3:ByteArray)(e4:World)(K:YA):Prop :=
 ∃ b5 b8,Yb 9 (.string e3) e4 b5 b8/\∃ b c4,Yq 143 b8 b c4/\∃ c d0,Yq 3 c4 c d0/\∃ d d1,Yq 24 d0 d d1/\YC CT #[.pointer b4,Yn a4] d1 fun d9 e9=>∃ t o,d9=.tuple #[.agg t,Yn o]/\∃ q d2,Yq 69 e9 q d2/\∃ j,YE 69 q (.agg t) d2 j/\(bif o != 0 then
 ∃ u,Al (Instr.build 143 #[]) (.agg u)/\∃ d3,YE 143 b (.agg u) j d3/\∃ d4,YE 3 c (Yn 0) d3 d4/\∃ g,YE 24 d (Yn o) d4 g/\∃ a0,Yg 143 b g a0/\∃ a6,Yi c g a6/\∃ b0,YD 24 d g (Yn b0)/\K (.tuple #[.agg a0,Yn a6,Yn b0]) g
 else
 ∃ v,Yg 69 q j v/\YC C6 #[.pointer b4,Yn a4,.agg v] j fun e0 a=>∃ b7:Value,e0=b7/\L5 Yt b7 2 a (fun d5 d6 s e5 =>
 ∃ a5,A2 d5 0=Yn a5/\∃ l n m,A2 d5 1=.slice l n m/\d6 (fun b9 =>
 ∃ b6:ByteArray,YD 9 b5 b9 (.string b6)/\YC JW #[.slice l n m,.string b6] b9 fun e1 c0=>∃ i,e1=Yn i/\(bif decide (i >= 0)then
 YC GM #[.slice l n m,Yn i] c0 fun e2 e6=>∃ w d8,e2=.tuple #[.agg w,Yn d8]/\∃ p c1,Yq 143 e6 p c1/\∃ r,YE 143 p (.agg w) c1 r/\∃ x,Yg 143 p r x/\∃ c2,YE 143 b (.agg x) r c2/\∃ c3,YE 3 c (Yn (Yw ((Yw (a5*8))+i))) c2 c3/\∃ c5,YE 24 d (Yn 0) c3 c5/\s (some Code.ret) c5
 else
 s none c0)) e5)
 (XR (fun e7 =>
 ∃ y,Al (Instr.build 143 #[]) (.agg y)/\∃ c6,YE 143 b (.agg y) e7 c6/\∃ c7,YE 3 c (Yn 0) c6 c7/\∃ e,YE 24 d (Yn 20) c7 e/\(World.heap e)[(World.heap a).size]?=some (.deferred (some []))/\∃ a1,YD 143 b (World.putObj e ((World.heap a).size) (.deferred none)) (.agg a1)/\∃ a7,YD 3 c (World.putObj e ((World.heap a).size) (.deferred none)) (Yn a7)/\∃ b1,YD 24 d (World.putObj e ((World.heap a).size) (.deferred none)) (Yn b1)/\K (.tuple #[.agg a1,Yn a7,Yn b1]) (World.putObj e ((World.heap a).size) (.deferred none)))
 (fun d7 e8 =>
 (bif Nat.beq d7 0 then
 ∃ z,Al (Instr.build 143 #[]) (.agg z)/\∃ c8,YE 143 b (.agg z) e8 c8/\∃ c9,YE 3 c (Yn 0) c8 c9/\∃ f,YE 24 d (Yn 20) c9 f/\(World.heap f)[(World.heap a).size]?=some (.deferred (some []))/\∃ a2,YD 143 b (World.putObj f ((World.heap a).size) (.deferred none)) (.agg a2)/\∃ a8,YD 3 c (World.putObj f ((World.heap a).size) (.deferred none)) (Yn a8)/\∃ b2,YD 24 d (World.putObj f ((World.heap a).size) (.deferred none)) (Yn b2)/\K (.tuple #[.agg a2,Yn a8,Yn b2]) (World.putObj f ((World.heap a).size) (.deferred none))
 else
 False))
 (fun h =>
 (World.heap h)[(World.heap a).size]?=some (.deferred (some []))/\∃ a3,YD 143 b (World.putObj h ((World.heap a).size) (.deferred none)) (.agg a3)/\∃ a9,YD 3 c (World.putObj h ((World.heap a).size) (.deferred none)) (Yn a9)/\∃ b3,YD 24 d (World.putObj h ((World.heap a).size) (.deferred none)) (Yn b3)/\K (.tuple #[.agg a3,Yn a9,Yn b3]) (World.putObj h ((World.heap a).size) (.deferred none)))))
theorem T8(p0:YB)(n1:Int)(s2:ByteArray)(w0:World)(K:YA)(h:Hw p0 n1 s2 w0 K):A7 Yt DB #[.pointer p0,Yn n1,.string s2] w0 K :=
 F8 (A:={ S:=[],ty:=[(30,3),(31,57)],raw:=[] }) Vs Tryz.func67 (by kernel_rfl) (by kernel_rfl) ((show Tf Yt _ Tryz.f67 _ w0 K=Hw p0 n1 s2 w0 K by kernel_rfl).mpr h)
def QA(a2:Array Value)(a6:World)(K:YA):Prop :=
 ∃ d e,Yb 143 (.agg a2) a6 d e/\∃ p,Yg 143 d e p/\YC CU #[.agg p] e fun a5 y=>∃ m,a5=.bool m/\(bif !m then
 K (.tuple #[.slice none 0 0,Yn 1]) y
 else
 ∃ a c b f,Ru (Instr.makeSlice 57 (Yn 32) (Yn 32)) y (.slice a c b) f/\∃ i r n,Al (Instr.sliceAt 57 (.slice a c b) none (some (Yn 2)) none) (.slice i r n)/\∃ t,Yi (Addr.add d 0) (Af f) t/\YC BA #[.slice i r n,.int .u64 (IntKind.u64.wrap t)] (Af f) fun a4 g=>a4=.tuple #[]/\∃ l,YD 4 (Addr.add d 1) g (.bool l)/\Ad (fun q=>(bif l then
 ∃ u,Yx 57 (.slice a c b) (Yn 2) u/\∃ z,YE 5 u (.int .u8 1) g z/\q [] z
 else
 q [] g)) fun a7 a0 =>
 ∃ w:ByteArray,YD 9 (Addr.add d 2) a0 (.string w)/\∃ v,Yx 57 (.slice a c b) (Yn 3) v/\∃ h,YE 5 v (.int .u8 (IntKind.u8.wrap (ByteArray.size w:Int))) a0 h/\∃ j s o,Al (Instr.sliceAt 57 (.slice a c b) (some (Yn 4)) none none) (.slice j s o)/\∃ x:ByteArray,YD 9 (Addr.add d 2) (Af h) (.string x)/\∃ a3 a1,Ru (Builtin.copy_ #[57,9] 3 #[.slice j s o,.string x]) (Af h) (Yn a3) a1/\K (.tuple #[.slice a c b,Yn 0]) a1)
theorem X9(g0:Array Value):Yz Ib #[.agg g0] (QA g0):=fun _ _ h=>Ac (A:=⟨[],[],[]⟩) Tryz.func68 h
def Hx(a1:YB)(a0:Int)(y:Array Value)(a4:World)(K:YA):Prop :=
 ∃ r t,Yb 69 (.agg y) a4 r t/\∃ b g,Yq 3 t b g/\∃ l,Yg 69 r g l/\YC C6 #[.pointer a1,Yn a0,.agg l] g fun a2 a=>∃ s:Value,a2=s/\L5 Yt s 2 a (fun w x j a6 =>
 ∃ n,A2 w 0=Yn n/\∃ h m i,A2 w 1=.slice h m i/\x (fun a7 =>
 YC JX #[.slice h m i] a7 fun a3 u=>∃ e,a3=Yn e/\(bif decide (e >= 0)then
 ∃ v,YE 3 b (Yn (Yw ((Yw (n*8))+e))) u v/\j (some Code.ret) v
 else
 j none u)) a6)
 (XR (fun a8 =>
 ∃ d,YE 3 b (Yn ((-1))) a8 d/\(World.heap d)[(World.heap a).size]?=some (.deferred (some []))/\∃ o,YD 3 b (World.putObj d ((World.heap a).size) (.deferred none)) (Yn o)/\K (Yn o) (World.putObj d ((World.heap a).size) (.deferred none)))
 (fun z a5 =>
 (bif Nat.beq z 0 then
 ∃ c,YE 3 b (Yn ((-1))) a5 c/\(World.heap c)[(World.heap a).size]?=some (.deferred (some []))/\∃ p,YD 3 b (World.putObj c ((World.heap a).size) (.deferred none)) (Yn p)/\K (Yn p) (World.putObj c ((World.heap a).size) (.deferred none))
 else
 False))
 (fun f =>
 (World.heap f)[(World.heap a).size]?=some (.deferred (some []))/\∃ q,YD 3 b (World.putObj f ((World.heap a).size) (.deferred none)) (Yn q)/\K (Yn q) (World.putObj f ((World.heap a).size) (.deferred none))))
theorem T9(p0:YB)(n1:Int)(g2:Array Value)(w0:World)(K:YA)(h:Hx p0 n1 g2 w0 K):A7 Yt EN #[.pointer p0,Yn n1,.agg g2] w0 K :=
 F8 (A:={ S:=[],ty:=[(14,3),(15,57)],raw:=[] }) Vs Tryz.func69 (by kernel_rfl) (by kernel_rfl) ((show Tf Yt _ Tryz.f69 _ w0 K=Hx p0 n1 g2 w0 K by kernel_rfl).mpr h)
def ME(f:Array Value)(g:World)(K:YA):Prop :=
 ∃ e b,Yb 69 (.agg f) g e b/\∃ a,YD 2 (Addr.add e 2) b (Yn a)/\Ad (fun c=>(bif decide ((Int.tmod (if 0 > a then 0 else a) 256) > 0)then
 c [Yn (Yw ((Yw (Int.tdiv (if 0 > a then 0 else a) 256))+1))] b
 else
 c [Yn (Yw (Int.tdiv (if 0 > a then 0 else a) 256))] b)) fun i h =>
 ∃ d,A2 i 0=Yn d/\K (Yn d) h
theorem Ui(g0:Array Value):Yz FU #[.agg g0] (ME g0):=fun _ _ h=>Ac (A:=⟨[4],[(4,2)],[]⟩) Tryz.func70 h
def Ix(v:YB)(r:Int)(s:Int)(a2:Array Value)(a0:YB)(a3 a1:Nat)(a7:World)(K:YA):Prop :=
 ∃ y e,Yb 143 (.agg a2) a7 y e/\∃ n,Yg 143 y e n/\YC Ib #[.agg n] e fun a4 c=>∃ g o j d,a4=.tuple #[.slice g o j,Yn d]/\(bif d != 0 then
 K (.tuple #[Yn 0,Yn d]) c
 else
 ∃ b,(.pointer v:Value)=.pointer (some b)/\∃ a,Yp 50 (Addr.add b 0) (Af c) a/\∃ x,(.pointer v:Value)=.pointer (some x)/\∃ w,Yp 50 (Addr.add x 0) (Af c) w/\YC C7 #[.pointer w,Yn r] (Af c) fun a5 z=>∃ h p l,a5=.slice h p l/\YD 50 (Addr.add b 0) z (.pointer a)/\∃ i q m f,Ru (Builtin.append_ #[75,75] 75 #[.slice h p l,.slice a0 a3 a1]) z (.slice i q m) f/\YD 50 (Addr.add b 0) f (.pointer a)/\YC Fg #[.pointer a,Yn r,Yn (Yw (Int.tdiv s 8)),Yn (Yw ((Int.tmod s 8)*32)),.slice g o j,.slice i q m] f fun a6 a8=>∃ t u,a6=.tuple #[Yn t,Yn u]/\K (.tuple #[Yn t,Yn u]) a8)
theorem Mt(p0:YB)(n1:Int)(n2:Int)(g3:Array Value)(a4:YB)(l4 c4:Nat):Yz Eb #[.pointer p0,Yn n1,Yn n2,.agg g3,.slice a4 l4 c4] (Ix p0 n1 n2 g3 a4 l4 c4):=fun _ _ h=>Ac (A:=⟨[],[],[]⟩) Tryz.func71 h
def Jo(m:YB)(l:Int)(a:World)(K:YA):Prop :=
 ∃ g,(.pointer m:Value)=.pointer (some g)/\∃ b,YD 108 (Addr.add g 3) (Af a) (.map b)/\∃ d f e,Ru (Instr.lookup 108 (.map b) (Yn l) false) (Af a) (.slice d f e) (Af a)/\∃ p,(.pointer m:Value)=.pointer (some p)/\∃ n,Yp 34 (Addr.add p 1) (Af a) n/\YC H3 #[.pointer n] (Af a) fun q c=>∃ o,q=.pointer o/\YD 108 (Addr.add g 3) c (.map b)/\Ru (Instr.lookup 108 (.map b) (Yn l) false) c (.slice d f e) c/\YC B4 #[.slice d f e,.func (.func Fi) #[.pointer o] #[]] c fun r s=>∃ h j i,r=.slice h j i/\K (.slice h j i) s
theorem Qv(p0:YB)(n1:Int):Yz C8 #[.pointer p0,Yn n1] (Jo p0 n1):=fun _ _ h=>Ac (A:=⟨[],[],[]⟩) Tryz.func72 h
def GU(a:YB)(h e:Nat)(l:World)(K:YA):Prop :=
 ∃ d,Al (G9 .eql 75 (.tmp 3) (.const (.slice none 0 0)) (.slice a h e) (.slice none 0 0)) (.bool d)/\(bif d then
 K (.slice none 0 0) l
 else
 ∃ b i f m,Ru (Instr.buildSlice 75 0 #[]) l (.slice b i f) m/\∃ c j g n,Ru (Builtin.append_ #[75,75] 75 #[.slice b i f,.slice a h e]) m (.slice c j g) n/\K (.slice c j g) n)
theorem Mx(a0:YB)(l0 c0:Nat):Yz CC #[.slice a0 l0 c0] (GU a0 l0 c0):=fun _ _ h=>Ac (A:=⟨[],[],[]⟩) Tryz.func73 h
def SK(o:Array Value)(q:World)(K:YA):Prop :=
 ∃ c d,Yb 83 (.agg o) q c d/\∃ g,Yg 83 c d g/\YC GW #[.agg g] d fun p r=>∃ h,p=.agg h/\∃ b n,Yq 83 r b n/\∃ a,YE 83 b (.agg h) n a/\Ad (fun l=>∃ i,Yg 83 b a i/\∃ j,Yg 83 c a j/\∃ f,Al (G9 .eql 83 (.tmp 6) (.tmp 7) (.agg i) (.agg j)) (.bool f)/\(bif f then ∃ m,Yi (Addr.add b 2) a m/\l [.bool (decide (m > 0))] a else l [.bool false] a)) fun t s =>
 ∃ e,A2 t 0=.bool e/\K (.bool e) s
theorem YX(g0:Array Value):Yz Dh #[.agg g0] (SK g0):=fun _ _ h=>Ac (A:=⟨[2],[(2,4)],[]⟩) Tryz.func74 h
def LT(c:YB)(a:World)(K:YA):Prop :=
 (bif Option.isNone c then
 K (Yn 0) a
 else
 ∃ d,(.pointer c:Value)=.pointer (some d)/\∃(e:YB)(b f:Nat),YD 151 (Addr.add d 0) a (.slice e b f)/\K (Yn ((b:Int))) a)
theorem TB(p0:YB):Yz B1 #[.pointer p0] (LT p0):=fun _ _ h=>Ac (A:=⟨[],[],[]⟩) Tryz.func75 h
def Uw(h:Array Value)(j:World)(K:YA):Prop :=
 ∃ a c,Yb 83 (.agg h) j a c/\∃ e,Yg 83 a c e/\YC Dh #[.agg e] c fun i b=>∃ d,i=.bool d/\(bif !d then
 K (Yn 0) b
 else
 ∃ f,Yi (Addr.add a 2) b f/\∃ g,Yi (Addr.add a 0) b g/\K (Yn (Yw (2+(Yw (f*g))))) b)
theorem cV(g0:Array Value):Yz G1 #[.agg g0] (Uw g0):=fun _ _ h=>Ac (A:=⟨[],[],[]⟩) Tryz.func76 h
def Ji(d:YB)(g:Int)(a4:YB)(w a5:Nat)(a8:World)(K:YA):Prop :=
 YC EO #[.pointer d,Yn g] a8 fun a6 a=>∃ h,a6=Yn h/\(bif h != 0 then
 K (Yn h) a
 else
 (bif (w:Int) != 256 then
 K (Yn 4) a
 else
 ∃ a1,(.pointer d:Value)=.pointer (some a1)/\∃ a0,YD 152 (Addr.add a1 1) a (.map a0)/\∃ l b q,Ru (Instr.lookup 152 (.map a0) (Yn g) false) a (.slice l b q) a/\YC Er #[.pointer d] a fun a7 f=>∃ p,a7=.bool p/\Ad (fun v=>(bif p then
 ∃ e,(.pointer d:Value)=.pointer (some e)/\∃ c,YD 152 (Addr.add e 1) (Af f) (.map c)/\∃ m x r,Al (Instr.sliceAt 151 (.slice l b q) none (some (Yn ((b:Int)))) (some (Yn ((b:Int))))) (.slice m x r)/\∃ a2,Al (Instr.arrayAt 223 (.slice a4 w a5)) (.pointer (some a2))/\∃ u,Yg 223 a2 (Af f) u/\∃ n y s i,Ru (Instr.buildSlice 151 1 #[(0,.agg u)]) (Af f) (.slice n y s) i/\YD 152 (Addr.add e 1) i (.map c)/\∃ o z t j,Ru (Builtin.append_ #[151,151] 151 #[.slice m x r,.slice n y s]) i (.slice o z t) j/\YD 152 (Addr.add e 1) j (.map c)/\∃ a3,Gr (Instr.mapUpdate 152 (.map c) (Yn g) (.slice o z t)) j a3/\v [] a3
 else
 v [] f)) fun b0 a9 =>
 K (Yn 0) a9))
theorem Qq(p0:YB)(n1:Int)(a2:YB)(l2 c2:Nat):Yz AY #[.pointer p0,Yn n1,.slice a2 l2 c2] (Ji p0 n1 a2 l2 c2):=fun _ _ h=>Ac (A:=⟨[],[],[]⟩) Tryz.func77 h
def Jh(a:YB)(s:World)(K:YA):Prop :=
 (bif Option.isNone a then
 K (Yn 2) s
 else
 YC Er #[.pointer a] s fun y t=>∃ l,y=.bool l/\(bif !l then
 K (Yn 0) t
 else
 YC G0 #[.pointer a] t fun z a1=>∃ j f m,z=.slice j f m/\AS (fun x a2 b =>
 ∃ c,A2 a2 0=Yn c/\(bif decide (c<(f:Int))then
 ∃ p,Yx 176 (.slice j f m) (Yn c) p/\∃ h,Yi p b h/\∃ i,(.pointer a:Value)=.pointer (some i)/\∃(d:YB)(g e:Nat),YD 151 (Addr.add i 0) (Af b) (.slice d g e)/\YC Et #[.pointer a,Yn h] (Af b) fun a0 u=>∃ n,a0=.agg n/\YD 151 (Addr.add i 0) u (.slice d g e)/\∃ q,Yx 151 (.slice d g e) (Yn h) q/\∃ v,YE 223 q (.agg n) u v/\x [Yn (Yw (c+1))] v
 else
 ∃ r,(.pointer a:Value)=.pointer (some r)/\∃ o,YD 152 (Addr.add r 1) b (.map o)/\∃ w,Ru (Builtin.clear_ #[152] 0 #[.map o]) b (.tuple #[]) w/\K (Yn 0) w)) [Yn 0] a1))
theorem Qp(p0:YB):Yz BI #[.pointer p0] (Jh p0):=fun _ _ h=>Ac (A:=⟨[15],[(15,3)],[]⟩) Tryz.func78 h
def U6(c3:Array Value)(c6:Int)(d7:Value)(d8:World)(K:YA):Prop :=
 ∃ c b3,Yb 83 (.agg c3) d8 c b3/\AS (fun c4 c1 d =>
 ∃ b,A2 c1 0=Yn b/\∃ b0,Yi (Addr.add c 2) d b0/\(bif decide (b<b0)then
 ∃ w,Yg 83 c d w/\YC GN #[.agg w,Yn b] d fun d1 e1=>∃ x c7,d1=.tuple #[.agg x,Yn c7]/\∃ m b8,Yq 171 e1 m b8/\∃ e,YE 171 m (.agg x) b8 e/\∃ y,Yg 83 c e y/\∃ z,Yg 171 m e z/\YC GX #[.agg y,.agg z] e fun d2 b9=>∃ p a7 t c8,d2=.tuple #[.slice p a7 t,Yn c8]/\∃ a0,Yg 83 c b9 a0/\YC Ec #[.agg a0,Yn b] b9 fun d3 c0=>∃ b1 c9,d3=.tuple #[Yn b1,Yn c9]/\∃ a1,Yg 83 c c0 a1/\YC Eu #[.agg a1] c0 fun d4 e2=>∃ b2,d4=Yn b2/\AS (fun c5 f n =>
 ∃ a,A2 f 1=Yn a/\(bif decide (a<(Yw (1+b2)))then
 Ad (fun a3=>(bif decide (a > 0)then
 ∃ q a8 u b4,Ru (Instr.makeSlice 57 (Yn 256) (Yn 256)) n (.slice q a8 u) b4/\a3 [.slice q a8 u] b4
 else
 a3 [A2 f 0] n)) fun c2 b5 =>
 Ad (fun a4=>(bif b==0 then a4 [.bool (a==1)] b5 else a4 [.bool false] b5)) fun e3 b6 =>
 ∃ h,A2 e3 0=.bool h/\Ad (fun a5=>(bif h then
 ∃ o a6 s,A2 c2 0=.slice o a6 s/\∃ a2,Al (Instr.build 69 #[(0,Yn 2),(1,Yn 1),(3,Yn 1)]) (.agg a2)/\YC MQ #[.slice o a6 s,Yn 1,.agg a2] b6 fun d5 d9=>∃ r a9 v d0,d5=.tuple #[.slice r a9 v,Yn d0]/\a5 [.slice r a9 v] d9
 else
 a5 [A2 c2 0] b6)) fun e4 e0 =>
 ∃ g j i,A2 e4 0=.slice g j i/\TH Yt d7 #[Yn (Yw (b1+a)),.slice g j i] e0 fun d6 b7=>∃ l,d6=Yn l/\(bif l != 0 then
 K (Yn l) b7
 else
 c5 [.slice g j i,Yn (Yw (a+1)),.bool h] b7)
 else
 c4 [Yn (Yw (b+1)),A2 f 0,Yn a,A2 f 2] n)) [.slice p a7 t,Yn 0,A2 c1 3] e2
 else
 K (Yn 0) d)) [Yn c6,undef,undef,undef] b3
theorem dB(g0:Array Value)(n1:Int)(v2:Value):Yz PC #[.agg g0,Yn n1,v2] (U6 g0 n1 v2):=fun _ _ h=>Ac (A:=⟨[7,10,44,55],[(7,3),(10,57),(44,3),(55,4)],[]⟩) Tryz.func79 h
def SX(b5:Array Value)(c4:World)(K:YA):Prop :=
 ∃ b c,Yb 127 (.agg b5) c4 b c/\∃ w,Yg 127 b c w/\YC CQ #[.agg w] c fun c3 b0=>∃ n,c3=.bool n/\(bif !n then
 K (.tuple #[.slice none 0 0,Yn 1]) b0
 else
 ∃ a b1,Yq 222 b0 a b1/\∃ m a4 v,Al (Instr.sliceAt 222 (.pointer (some a)) none none none) (.slice m a4 v)/\∃ b6 d,Ru (Builtin.copy_ #[57,9] 3 #[.slice m a4 v,.string (⟨#[76,86,69,69]⟩)]) b1 (Yn b6) d/\∃ e x o,Al (Instr.sliceAt 222 (.pointer (some a)) (some (Yn 4)) (some (Yn 12)) none) (.slice e x o)/\∃ a5,YD 2 (Addr.add b 0) (Af d) (Yn a5)/\YC BA #[.slice e x o,.int .u64 (IntKind.u64.wrap a5)] (Af d) fun b7 b2=>b7=.tuple #[]/\∃ f y p,Al (Instr.sliceAt 222 (.pointer (some a)) (some (Yn 12)) (some (Yn 14)) none) (.slice f y p)/\∃ a6,Yi (Addr.add (Addr.add b 1) 0) (Af b2) a6/\YC BA #[.slice f y p,.int .u64 (IntKind.u64.wrap a6)] (Af b2) fun b8 b3=>b8=.tuple #[]/\∃ g z q,Al (Instr.sliceAt 222 (.pointer (some a)) (some (Yn 14)) (some (Yn 16)) none) (.slice g z q)/\∃ a7,Yi (Addr.add (Addr.add b 1) 1) (Af b3) a7/\YC BA #[.slice g z q,.int .u64 (IntKind.u64.wrap a7)] (Af b3) fun b9 b4=>b9=.tuple #[]/\∃ h a0 r,Al (Instr.sliceAt 222 (.pointer (some a)) (some (Yn 16)) (some (Yn 18)) none) (.slice h a0 r)/\∃ a8,Yi (Addr.add (Addr.add b 1) 2) (Af b4) a8/\YC BA #[.slice h a0 r,.int .u64 (IntKind.u64.wrap a8)] (Af b4) fun c0 c6=>c0=.tuple #[]/\∃ i a1 s,Al (Instr.sliceAt 222 (.pointer (some a)) (some (Yn 252)) none none) (.slice i a1 s)/\∃ j a2 t,Al (Instr.sliceAt 222 (.pointer (some a)) none (some (Yn 252)) none) (.slice j a2 t)/\YC NG #[.slice j a2 t] (Af c6) fun c1 c7=>∃ a9,c1=.int .u32 a9/\YC BA #[.slice i a1 s,.int .u64 (IntKind.u64.wrap a9)] c7 fun c2 c5=>c2=.tuple #[]/\∃ l a3 u,Al (Instr.sliceAt 222 (.pointer (some a)) none none none) (.slice l a3 u)/\K (.tuple #[.slice l a3 u,Yn 0]) c5)
theorem Zk(g0:Array Value):Yz MT #[.agg g0] (SX g0):=fun _ _ h=>Ac (A:=⟨[],[],[]⟩) Tryz.func80 h
def QG(f:YB)(n:Int)(q:World)(K:YA):Prop :=
 YC MK #[.pointer f,Yn n] q fun o i=>∃ g a,o=.tuple #[.pointer g,Yn a]/\(bif a != 0 then
 K (.tuple #[.pointer none,Yn a]) i
 else
 YC B1 #[.pointer f] i fun p r=>∃ e,p=Yn e/\∃ c j,Ru (Instr.makeMap 235 none) r (.map c) j/\∃ d l,Ru (Instr.makeMap 236 none) j (.map d) l/\∃ b,Al (Instr.build 238 #[(0,.pointer g),(1,Yn e),(3,.map c),(4,.map d)]) (.agg b)/\∃ h m,Yb 238 (.agg b) l h m/\K (.tuple #[.pointer (some h),Yn 0]) m)
theorem XG(p0:YB)(n1:Int):Yz L1 #[.pointer p0,Yn n1] (QG p0 n1):=fun _ _ h=>Ac (A:=⟨[],[],[]⟩) Tryz.func81 h
def Gx(h:YB)(g:Int)(o:World)(K:YA):Prop :=
 YC EO #[.pointer h,Yn g] o fun m i=>∃ a,m=Yn a/\(bif a != 0 then
 K (.tuple #[.slice none 0 0,Yn a]) i
 else
 YC Et #[.pointer h,Yn g] i fun n p=>∃ e,n=.agg e/\∃ b j,Yq 223 p b j/\∃ l,YE 223 b (.agg e) j l/\∃ c f d,Al (Instr.sliceAt 223 (.pointer (some b)) none none none) (.slice c f d)/\K (.tuple #[.slice c f d,Yn 0]) l)
theorem Kj(p0:YB)(n1:Int):Yz B7 #[.pointer p0,Yn n1] (Gx p0 n1):=fun _ _ h=>Ac (A:=⟨[],[],[]⟩) Tryz.func82 h
def MF(c2:YB)(c7 c4:Nat)(c3:YB)(c8 c5:Nat)(c9:Int)(d4:World)(K:YA):Prop :=
 ∃ e b4,Yq 127 d4 e b4/\∃ t,Al (Instr.build 127 #[]) (.agg t)/\∃ a b8,Yq 127 b4 a b8/\∃ b9,YE 127 a (.agg t) b8 b9/\∃ u,Al (Instr.build 239 #[(0,.slice c2 c7 c4),(1,.slice c3 c8 c5)]) (.agg u)/\AS (fun c6 d7 c0 =>
 ∃ d,A2 d7 0=Yn d/\(bif decide (d<2)then
 ∃ q a7 s,Al (Instr.index 239 (.agg u) (Yn d)) (.slice q a7 s)/\YC JB #[.slice q a7 s] c0 fun d0 d6=>∃ v a8,d0=.tuple #[.agg v,Yn a8]/\∃ c c1,Yq 127 d6 c c1/\∃ g,YE 127 c (.agg v) c1 g/\Ad (fun f=>(bif a8==0 then ∃ w,Yg 127 c g w/\YC BU #[.agg w] g fun d1 p=>∃ a9,d1=Yn a9/\(bif a9==d then ∃ x,Yg 83 (Addr.add c 1) p x/\YC G1 #[.agg x] p fun d2 h=>∃ b0,d2=Yn b0/\(bif decide (b0<=c9)then ∃ b1,YD 2 (Addr.add c 0) h (Yn b1)/\∃ b2,YD 2 (Addr.add a 0) h (Yn b2)/\f [.bool (decide (b1 > b2))] h else f [.bool false] h)else f [.bool false] p)else f [.bool false] g)) fun d8 m =>
 ∃ i,A2 d8 0=.bool i/\Ad (fun a6=>(bif i then
 ∃ y,Yg 127 c m y/\∃ b5,YE 127 a (.agg y) m b5/\a6 [] b5
 else
 a6 [] m)) fun d9 d5 =>
 c6 [Yn (Yw (d+1)),.bool i] d5
 else
 ∃ z,Al (Instr.build 127 #[]) (.agg z)/\∃ l b6,Yq 127 c0 l b6/\∃ b,YE 127 l (.agg z) b6 b/\∃ a0,Yg 127 a b a0/\∃ a1,Yg 127 l b a1/\∃ r,Al (G9 .eql 127 (.tmp 53) (.tmp 54) (.agg a0) (.agg a1)) (.bool r)/\(bif r then
 ∃ a2,Yg 127 a b a2/\∃ n,YE 127 e (.agg a2) b n/\∃ a4,Yg 127 e n a4/\K (.tuple #[.agg a4,Yn 0,Yn 10]) n
 else
 ∃ j,Yg 127 a (Af b) j/\∃ a3,Yg 127 a (Af b) a3/\YC BU #[.agg a3] (Af b) fun d3 b7=>∃ b3,d3=Yn b3/\YD 127 a b7 (.agg j)/\∃ o,YE 127 e (.agg j) b7 o/\∃ a5,Yg 127 e o a5/\K (.tuple #[.agg a5,Yn b3,Yn 0]) o))) [Yn 0,undef] b9
theorem Ul(a0:YB)(l0 c0:Nat)(a1:YB)(l1 c1:Nat)(n2:Int):Yz II #[.slice a0 l0 c0,.slice a1 l1 c1,Yn n2] (MF a0 l0 c0 a1 l1 c1 n2):=fun _ _ h=>Ac (A:=⟨[19,49],[(19,3),(49,4)],[]⟩) Tryz.func83 h
def U0(d:World)(K:YA):Prop :=
 ∃ a,Al (Instr.build 244 #[]) (.agg a)/\∃ b c,Yb 244 (.agg a) d b c/\K (.pointer (some b)) c
theorem cZ(w0:World)(K:YA)(h:U0  w0 K):A7 Yt U8 #[] w0 K :=
 Ac (A:=⟨[],[],[]⟩) Tryz.func84 h
def IB(d:YB)(a0:Int)(a4:World)(K:YA):Prop :=
 ∃ a z,Yq 171 a4 a z/\YC Ed #[.pointer d,Yn a0] z fun a1 e=>∃ u b,a1=.tuple #[Yn u,Yn b]/\(bif b != 0 then
 ∃ m,Al (Instr.build 171 #[]) (.agg m)/\∃ f,YE 171 a (.agg m) e f/\∃ q,Yg 171 a f q/\K (.tuple #[.agg q,Yn b]) f
 else
 ∃ x,(.pointer d:Value)=.pointer (some x)/\∃ w,Yp 128 (Addr.add x 4) e w/\YC Bd #[.pointer w,Yn u] e fun a2 g=>∃ j t l c,a2=.tuple #[.slice j t l,Yn c]/\(bif c != 0 then
 ∃ n,Al (Instr.build 171 #[]) (.agg n)/\∃ h,YE 171 a (.agg n) g h/\∃ r,Yg 171 a h r/\K (.tuple #[.agg r,Yn c]) h
 else
 ∃ y,(.pointer d:Value)=.pointer (some y)/\∃ o,Yg 83 (Addr.add (Addr.add y 0) 1) g o/\YC MO #[.agg o,.slice j t l] g fun a3 a5=>∃ p v,a3=.tuple #[.agg p,Yn v]/\∃ i,YE 171 a (.agg p) a5 i/\∃ s,Yg 171 a i s/\K (.tuple #[.agg s,Yn v]) i))
theorem My(p0:YB)(n1:Int):Yz Be #[.pointer p0,Yn n1] (IB p0 n1):=fun _ _ h=>Ac (A:=⟨[],[],[]⟩) Tryz.func85 h
def SL(j:Array Value)(m:World)(K:YA):Prop :=
 ∃ h c,Yb 83 (.agg j) m h c/\∃ d,Yg 83 h c d/\YC GW #[.agg d] c fun l n=>∃ e,l=.agg e/\∃ a i,Yq 83 n a i/\∃ b,YE 83 a (.agg e) i b/\∃ f,Yi (Addr.add a 2) b f/\∃ g,Yi (Addr.add a 1) b g/\K (Yn (Yw (f*g))) b
theorem YY(g0:Array Value):Yz GV #[.agg g0] (SL g0):=fun _ _ h=>Ac (A:=⟨[],[],[]⟩) Tryz.func86 h
def Hv(a4:YB)(a3:Int)(c1:World)(K:YA):Prop :=
 YC CT #[.pointer a4,Yn a3] c1 fun b8 c2=>∃ v c,b8=.tuple #[.agg v,Yn c]/\∃ d a8,Yq 69 c2 d a8/\∃ g,YE 69 d (.agg v) a8 g/\(bif c != 0 then
 K (.tuple #[.slice none 0 0,Yn c]) g
 else
 ∃ b h,Yq 179 g b h/\∃ w,Yg 69 d h w/\YC C6 #[.pointer a4,Yn a3,.agg w] h fun b9 a=>∃ a5:Value,b9=a5/\L5 Yt a5 2 a (fun c5 b2 b4 c3 =>
 ∃ i x p,A2 c5 1=.slice i x p/\b2 (fun c4 =>
 YC Wn #[.slice i x p] c4 fun c0 a9=>∃ j y q b1 b6 b3 b7,c0=.tuple #[.slice j y q,.slice b1 b6 b3,Yn b7]/\∃(l:YB)(z r:Nat),YD 179 b a9 (.slice l z r)/\∃ m a0 s b0,Ru (Builtin.append_ #[179,179] 179 #[.slice l z r,.slice j y q]) a9 (.slice m a0 s) b0/\∃ a6,YE 179 b (.slice m a0 s) b0 a6/\b4 none a6) c3)
 (XR (fun e =>
 ∃(n:YB)(a1 t:Nat),YD 179 b e (.slice n a1 t)/\(World.heap e)[(World.heap a).size]?=some (.deferred (some []))/\K (.tuple #[.slice n a1 t,Yn 0]) (World.putObj e ((World.heap a).size) (.deferred none)))
 (fun b5 f =>
 (bif Nat.beq b5 0 then
 ∃(o:YB)(a2 u:Nat),YD 179 b f (.slice o a2 u)/\(World.heap f)[(World.heap a).size]?=some (.deferred (some []))/\K (.tuple #[.slice o a2 u,Yn 0]) (World.putObj f ((World.heap a).size) (.deferred none))
 else
 False))
 (fun a7 =>
 (World.heap a7)[(World.heap a).size]?=some (.deferred (some []))/\K (.tuple #[.slice none 0 0,Yn 0]) (World.putObj a7 ((World.heap a).size) (.deferred none)))))
theorem Tz(p0:YB)(n1:Int)(w0:World)(K:YA)(h:Hv p0 n1 w0 K):A7 Yt H0 #[.pointer p0,Yn n1] w0 K :=
 F8 (A:={ S:=[],ty:=[(28,57)],raw:=[] }) Vs Tryz.func87 (by kernel_rfl) (by kernel_rfl) ((show Tf Yt _ Tryz.f87 _ w0 K=Hv p0 n1 w0 K by kernel_rfl).mpr h)
def LS(l:YB)(g:Int)(t:ByteArray)(n:YB)(p o:Nat)(u:Value)(v:World)(K:YA):Prop :=
 YC DB #[.pointer l,Yn g,.string t] v fun q w=>∃ d h b,q=.tuple #[.agg d,Yn h,Yn b]/\∃ c m,Yq 143 w c m/\∃ a,YE 143 c (.agg d) m a/\(bif b != 0 then
 K (.tuple #[Yn 0,Yn b]) a
 else
 ∃ e,Yg 143 c a e/\TH Yt u #[.agg e] a fun r x=>∃ f,r=.agg f/\YC Eb #[.pointer l,Yn g,Yn h,.agg f,.slice n p o] x fun s y=>∃ i j,s=.tuple #[Yn i,Yn j]/\K (.tuple #[Yn i,Yn j]) y)
theorem TA(p0:YB)(n1:Int)(s2:ByteArray)(a3:YB)(l3 c3:Nat)(v4:Value):Yz LZ #[.pointer p0,Yn n1,.string s2,.slice a3 l3 c3,v4] (LS p0 n1 s2 a3 l3 c3 v4):=fun _ _ h=>Ac (A:=⟨[],[],[]⟩) Tryz.func88 h
def HI(g:Array Value)(i:World)(K:YA):Prop :=
 ∃ h e,Yb 143 (.agg g) i h e/\∃ a f,Yq 143 e a f/\∃ c,Al (Instr.build 143 #[]) (.agg c)/\∃ b,YE 143 a (.agg c) f b/\∃ d,Yg 143 a b d/\K (.agg d) b
theorem Oj(g0:Array Value):Yz HT #[.agg g0] (HI g0):=fun _ _ h=>Ac (A:=⟨[],[],[]⟩) Tryz.func89 h
def I0(o:YB)(s:Int)(w:World)(K:YA):Prop :=
 YC Ci #[.pointer o,Yn s] w fun t x=>∃ j b,t=.tuple #[.agg j,Yn b]/\∃ c p,Yq 69 x c p/\∃ d,YE 69 c (.agg j) p d/\(bif b != 0 then
 K (.tuple #[.slice none 0 0,Yn b]) d
 else
 ∃ a e,Yq 176 d a e/\∃ l,Yg 69 c e l/\YC FR #[.pointer o,.agg l,.func (.func ML) #[] #[.pointer (some a)]] e fun u q=>u=.tuple #[]/\∃(f:YB)(m h:Nat),YD 176 a q (.slice f m h)/\YC FZ #[.slice f m h] q fun v r=>v=.tuple #[]/\∃(g:YB)(n i:Nat),YD 176 a r (.slice g n i)/\K (.tuple #[.slice g n i,Yn 0]) r)
theorem Pl(p0:YB)(n1:Int):Yz IF #[.pointer p0,Yn n1] (I0 p0 n1):=fun _ _ h=>Ac (A:=⟨[],[],[]⟩) Tryz.func93 h
def FI(a:YB)(c:Int)(g:Int)(b3:World)(K:YA):Prop :=
 (bif Option.isNone a then
 K (Yn 2) b3
 else
 YC Dp #[.pointer a,Yn c] b3 fun b9 c8=>∃ y l,b9=.tuple #[.agg y,.bool l]/\∃ b b5,Yq 112 c8 b b5/\∃ f,YE 112 b (.agg y) b5 f/\∃ h,(.pointer a:Value)=.pointer (some h)/\∃ e,Yp 34 (Addr.add h 0) (Af f) e/\∃ d,Yi (Addr.add b 0) (Af f) d/\(YC Be #[.pointer e,Yn d] (Af f) fun c0 d4=>∃ z b7,c0=.tuple #[.agg z,Yn b7]/\∃ q j,Yq 171 d4 q j/\YD 34 (Addr.add h 0) j (.pointer e)/\YD 3 (Addr.add b 0) j (Yn d)/\∃ t,YE 171 q (.agg z) j t/\∃ u a3 w,Al (Instr.sliceAt 169 (.pointer (some (Addr.add q 17))) none none none) (.slice u a3 w)/\∃ a5,Yi (Addr.add b 1) (Af t) a5/\YC Fd #[.slice u a3 w,Yn a5] (Af t) fun c2 b6=>∃ m,c2=.bool m/\Ad (fun a1=>∃ o,Al (Instr.build 254 #[(0,Yn 2),(1,Yn c)]) (.agg o)/\(bif l then YC By #[.pointer a,.agg o,.bool (decide (c >= 2)),.bool m,Yn g] b6 fun c4 d5=>∃ a7,c4=Yn a7/\a1 [Yn a7] d5 else YC By #[.pointer a,.agg o,.bool false,.bool m,Yn g] b6 fun c5 d6=>∃ a8,c5=Yn a8/\a1 [Yn a8] d6)) fun d7 c9 =>
 ∃ b1,A2 d7 0=Yn b1/\K (Yn b1) c9)/\(∃ r i,Yq 171 (Af f) r i/\YD 34 (Addr.add h 0) i (.pointer e)/\YD 3 (Addr.add b 0) i (Yn d)/\YC Be #[.pointer e,Yn d] i fun c1 d0=>∃ a0 b8,c1=.tuple #[.agg a0,Yn b8]/\∃ s,YE 171 r (.agg a0) d0 s/\∃ v a4 x,Al (Instr.sliceAt 169 (.pointer (some (Addr.add r 17))) none none none) (.slice v a4 x)/\∃ a6,Yi (Addr.add b 1) (Af s) a6/\YC Fd #[.slice v a4 x,Yn a6] (Af s) fun c3 b4=>∃ n,c3=.bool n/\Ad (fun a2=>∃ p,Al (Instr.build 254 #[(0,Yn 2),(1,Yn c)]) (.agg p)/\(bif l then YC By #[.pointer a,.agg p,.bool (decide (c >= 2)),.bool n,Yn g] b4 fun c6 d1=>∃ a9,c6=Yn a9/\a2 [Yn a9] d1 else YC By #[.pointer a,.agg p,.bool false,.bool n,Yn g] b4 fun c7 d2=>∃ b0,c7=Yn b0/\a2 [Yn b0] d2)) fun d8 d3 =>
 ∃ b2,A2 d8 0=Yn b2/\K (Yn b2) d3))
theorem KQ(p0:YB)(n1:Int)(n2:Int):Yz Dm #[.pointer p0,Yn n1,Yn n2] (FI p0 n1 n2):=fun _ _ h=>Ac (A:=⟨[6],[(6,24)],[]⟩) Tryz.func95 h
def Ir(i:YB)(h:Array Value)(g:Bool)(j:World)(K:YA):Prop :=
 ∃ a d,Yb 61 (.pointer i) j a d/\∃ b e,Yb 112 (.agg h) d b e/\∃ c f,Yb 4 (.bool g) e c f/\K (.func (.func C0) #[] #[.pointer (some a),.pointer (some b),.pointer (some c)]) f
theorem Pd(p0:YB)(g1:Array Value)(b2:Bool):Yz Do #[.pointer p0,.agg g1,.bool b2] (Ir p0 g1 b2):=fun _ _ h=>Ac (A:=⟨[],[],[]⟩) Tryz.func96 h
def QD(x:Array Value)(y:Array Value)(a2:World)(K:YA):Prop :=
 ∃ a w,Yb 83 (.agg x) a2 a w/\∃ e f,Yb 171 (.agg y) w e f/\∃ p,Yg 83 a f p/\∃ q,Yg 171 e f q/\YC CI #[.agg p,.agg q] f fun a1 b=>∃ m,a1=.bool m/\(bif !m then
 K (.tuple #[Yn 0,Yn 0]) b
 else
 ∃ c,Yi (Addr.add a 0) (Af b) c/\∃ j r n,Al (Instr.sliceAt 168 (.pointer (some (Addr.add e 1))) none none none) (.slice j r n)/\∃ t,Yi (Addr.add a 0) (Af b) t/\∃ d,Yi (Addr.add a 1) (Af b) d/\∃ l s o,Al (Instr.sliceAt 169 (.pointer (some (Addr.add e 17))) none none none) (.slice l s o)/\∃ h,Yi (Addr.add a 1) (Af b) h/\YC C2 #[.slice j r n,Yn t] (Af b) fun z g=>∃ u,z=Yn u/\YD 3 (Addr.add a 0) g (Yn c)/\YD 3 (Addr.add a 1) g (Yn d)/\YD 3 (Addr.add a 1) g (Yn h)/\YC C2 #[.slice l s o,Yn h] g fun a0 i=>∃ v,a0=Yn v/\YD 3 (Addr.add a 0) i (Yn c)/\YD 3 (Addr.add a 1) i (Yn d)/\K (.tuple #[Yn (Yw (c-u)),Yn (Yw (d-v))]) i)
theorem XC(g0:Array Value)(g1:Array Value):Yz Ic #[.agg g0,.agg g1] (QD g0 g1):=fun _ _ h=>Ac (A:=⟨[],[],[]⟩) Tryz.func97 h
def P5(a:Int)(b:Int)(c:Int)(d:World)(K:YA):Prop :=
 K (Yn (if c<(if b > a then b else a)then c else(if b > a then b else a))) d
theorem Pw(n0:Int)(n1:Int)(n2:Int):Yz Fj #[Yn n0,Yn n1,Yn n2] (P5 n0 n1 n2):=fun _ _ h=>Ac (A:=⟨[],[],[]⟩) Tryz.func98 h
def Zo(l:Array Value)(b:Int)(n:World)(K:YA):Prop :=
 ∃ c a,Yb 83 (.agg l) n c a/\Ad (fun g=>(bif decide (b<0)then g [.bool true] a else ∃ f,Yg 83 c a f/\YC GV #[.agg f] a fun m o=>∃ h,m=Yn h/\g [.bool (decide (b >= h))] o)) fun p d =>
 ∃ e,A2 p 0=.bool e/\(bif e then
 K (Yn ((-1))) d
 else
 ∃ i,Yi (Addr.add c 1) d i/\∃ j,Al (G9 .quo 3 (.tmp 13) (.tmp 15) (Yn b) (Yn i)) (Yn j)/\K (Yn j) d)
theorem pR(g0:Array Value)(n1:Int):Yz U7 #[.agg g0,Yn n1] (Zo g0 n1):=fun _ _ h=>Ac (A:=⟨[12],[(12,4)],[]⟩) Tryz.func99 h
def It(g:YB)(d2:Array Value)(d3:Array Value)(a2:Bool)(e2:World)(K:YA):Prop :=
 ∃ a c9,Yb 112 (.agg d2) e2 a c9/\∃ i l,Yb 120 (.agg d3) c9 i l/\∃ n,(.pointer g:Value)=.pointer (some n)/\∃ h,Yp 34 (Addr.add n 0) (Af l) h/\∃ f,Yi (Addr.add a 0) (Af l) f/\(YC Be #[.pointer h,Yn f] (Af l) fun d4 e7=>∃ a3 w,d4=.tuple #[.agg a3,Yn w]/\∃ d q,Yq 171 e7 d q/\YD 34 (Addr.add n 0) q (.pointer h)/\YD 3 (Addr.add a 0) q (Yn f)/\∃ c,YE 171 d (.agg a3) q c/\Ad (fun b1=>(bif w==0 then
 ∃ a0:Value,YD 118 (Addr.add i 1) (Af c) a0/\∃ c5,(.pointer g:Value)=.pointer (some c5)/\∃ c1,Yp 34 (Addr.add c5 0) (Af c) c1/\∃ s,Yg 171 d (Af c) s/\∃ y,Yi (Addr.add a 1) (Af c) y/\YC AR #[.pointer c1] (Af c) fun d6 r=>∃ a5,d6=.agg a5/\YD 118 (Addr.add i 1) r a0/\YD 171 d r (.agg s)/\YD 3 (Addr.add a 1) r (Yn y)/\TH Yt a0 #[.agg a5,.agg s,Yn y,.bool a2] r fun d8 e8=>∃ a7 b3,d8=.tuple #[.agg a7,Yn b3]/\∃ d1,YE 171 d (.agg a7) e8 d1/\b1 [Yn b3] d1
 else
 b1 [Yn w] c)) fun e9 m =>
 ∃ u,A2 e9 0=Yn u/\(bif u != 0 then
 K (.tuple #[Yn 0,Yn u]) m
 else
 ∃ c7,(.pointer g:Value)=.pointer (some c7)/\∃ c3,Yp 34 (Addr.add c7 0) (Af m) c3/\∃ b5,Yi (Addr.add a 0) (Af m) b5/\∃ a9,Yg 171 d (Af m) a9/\YC CD #[.pointer c3,Yn b5,.agg a9,.slice none 0 0] (Af m) fun e0 e3=>∃ b7 b9,e0=.tuple #[Yn b7,Yn b9]/\K (.tuple #[Yn b7,Yn b9]) e3))/\(∃ e o,Yq 171 (Af l) e o/\YD 34 (Addr.add n 0) o (.pointer h)/\YD 3 (Addr.add a 0) o (Yn f)/\YC Be #[.pointer h,Yn f] o fun d5 e4=>∃ a4 x,d5=.tuple #[.agg a4,Yn x]/\∃ b,YE 171 e (.agg a4) e4 b/\Ad (fun b2=>(bif x==0 then
 ∃ a1:Value,YD 118 (Addr.add i 1) (Af b) a1/\∃ c6,(.pointer g:Value)=.pointer (some c6)/\∃ c2,Yp 34 (Addr.add c6 0) (Af b) c2/\∃ t,Yg 171 e (Af b) t/\∃ z,Yi (Addr.add a 1) (Af b) z/\YC AR #[.pointer c2] (Af b) fun d7 p=>∃ a6,d7=.agg a6/\YD 118 (Addr.add i 1) p a1/\YD 171 e p (.agg t)/\YD 3 (Addr.add a 1) p (Yn z)/\TH Yt a1 #[.agg a6,.agg t,Yn z,.bool a2] p fun d9 e5=>∃ a8 b4,d9=.tuple #[.agg a8,Yn b4]/\∃ d0,YE 171 e (.agg a8) e5 d0/\b2 [Yn b4] d0
 else
 b2 [Yn x] b)) fun f0 j =>
 ∃ v,A2 f0 0=Yn v/\(bif v != 0 then
 K (.tuple #[Yn 0,Yn v]) j
 else
 ∃ c8,(.pointer g:Value)=.pointer (some c8)/\∃ c4,Yp 34 (Addr.add c8 0) (Af j) c4/\∃ b6,Yi (Addr.add a 0) (Af j) b6/\∃ b0,Yg 171 e (Af j) b0/\YC CD #[.pointer c4,Yn b6,.agg b0,.slice none 0 0] (Af j) fun e1 e6=>∃ b8 c0,e1=.tuple #[Yn b8,Yn c0]/\K (.tuple #[Yn b8,Yn c0]) e6))
theorem Pg(p0:YB)(g1:Array Value)(g2:Array Value)(b3:Bool):Yz Fc #[.pointer p0,.agg g1,.agg g2,.bool b3] (It p0 g1 g2 b3):=fun _ _ h=>Ac (A:=⟨[11],[(11,24)],[]⟩) Tryz.func100 h
def Kx(o:Array Value)(p:Array Value)(q:Int)(t:World)(K:YA):Prop :=
 ∃ b n,Yb 83 (.agg o) t b n/\∃ c a,Yb 171 (.agg p) n c a/\∃ h,Yg 83 b a h/\∃ i,Yg 171 c a i/\YC CI #[.agg h,.agg i] a fun s d=>∃ f,s=.bool f/\(bif !f then
 K (Yn ((-1))) d
 else
 ∃ e j g,Al (Instr.sliceAt 169 (.pointer (some (Addr.add c 17))) none none none) (.slice e j g)/\∃ l,Yi (Addr.add b 1) (Af d) l/\YC Ia #[.slice e j g,Yn l,Yn q] (Af d) fun r u=>∃ m,r=Yn m/\K (Yn m) u)
theorem RR(g0:Array Value)(g1:Array Value)(n2:Int):Yz Ev #[.agg g0,.agg g1,Yn n2] (Kx g0 g1 n2):=fun _ _ h=>Ac (A:=⟨[],[],[]⟩) Tryz.func101 h
def LV(a5:Array Value)(a6:Array Value)(y:Int)(a4:Bool)(a9:World)(K:YA):Prop :=
 ∃ g a1,Yb 83 (.agg a5) a9 g a1/\∃ a a2,Yb 171 (.agg a6) a1 a a2/\∃ b c,Yq 171 a2 b c/\∃ x,Yi (Addr.add a 0) c x/\Ad (fun t=>(bif x==0 then
 t [Yn 2] c
 else
 t [Yn 0] c)) fun b1 d =>
 ∃ n,Yg 83 g d n/\∃ o,Yg 171 a d o/\∃ w,A2 b1 0=Yn w/\∃ z,Yi (Addr.add g 1) d z/\YC J4 #[.agg n,.agg o,Yn y,Yn w,Yn z] d fun a7 a3=>∃ f,a7=Yn f/\Ad (fun u=>(bif f==0 then
 ∃ l v m,Al (Instr.sliceAt 169 (.pointer (some (Addr.add a 17))) none none none) (.slice l v m)/\YC J5 #[.slice l v m,Yn y,.bool a4] a3 fun a8 b0=>∃ a0,a8=Yn a0/\u [Yn a0] b0
 else
 u [Yn f] a3)) fun b2 h =>
 ∃ e,A2 b2 0=Yn e/\(bif e != 0 then
 ∃ p,Al (Instr.build 171 #[]) (.agg p)/\∃ i,YE 171 b (.agg p) h i/\∃ r,Yg 171 b i r/\K (.tuple #[.agg r,Yn e]) i
 else
 ∃ q,Yg 171 a h q/\∃ j,YE 171 b (.agg q) h j/\∃ s,Yg 171 b j s/\K (.tuple #[.agg s,Yn 0]) j)
theorem TD(g0:Array Value)(g1:Array Value)(n2:Int)(b3:Bool):Yz EP #[.agg g0,.agg g1,Yn n2,.bool b3] (LV g0 g1 n2 b3):=fun _ _ h=>Ac (A:=⟨[10,11],[(10,3),(11,24)],[]⟩) Tryz.func102 h
def Hz(f:YB)(h:Int)(a:World)(K:YA):Prop :=
 (bif Option.isNone f then
 K (.tuple #[Yn 0,Yn 0,Yn 2]) a
 else
 ∃ g,(.pointer f:Value)=.pointer (some g)/\∃ b,Yg 83 (Addr.add (Addr.add g 0) 1) a b/\YC MN #[.agg b,Yn h] a fun i j=>∃ c d e,i=.tuple #[Yn c,Yn d,Yn e]/\K (.tuple #[Yn c,Yn d,Yn e]) j)
theorem LP(p0:YB)(n1:Int):Yz DC #[.pointer p0,Yn n1] (Hz p0 n1):=fun _ _ h=>Ac (A:=⟨[],[],[]⟩) Tryz.func103 h
def ST(b0:Array Value)(b8:World)(K:YA):Prop :=
 ∃ d f,Yb 69 (.agg b0) b8 d f/\∃ u,Yg 69 d f u/\YC Cc #[.agg u] f fun b7 a5=>∃ n,b7=.bool n/\(bif !n then
 K (.tuple #[.slice none 0 0,Yn 1]) a5
 else
 ∃ a c b g,Ru (Instr.makeSlice 57 (Yn 64) (Yn 64)) a5 (.slice a c b) g/\∃ z,Yi (Addr.add d 0) g z/\∃ a4,Yx 57 (.slice a c b) (Yn 0) a4/\∃ h,YE 5 a4 (.int .u8 (IntKind.u8.wrap z)) g h/\∃ i v o,Al (Instr.sliceAt 57 (.slice a c b) (some (Yn 2)) (some (Yn 4)) none) (.slice i v o)/\∃ a0,Yi (Addr.add d 1) (Af h) a0/\YC BA #[.slice i v o,.int .u64 (IntKind.u64.wrap a0)] (Af h) fun b2 a6=>b2=.tuple #[]/\∃ j w p,Al (Instr.sliceAt 57 (.slice a c b) (some (Yn 4)) (some (Yn 8)) none) (.slice j w p)/\∃ a1,YD 2 (Addr.add d 2) (Af a6) (Yn a1)/\YC BA #[.slice j w p,.int .u64 (IntKind.u64.wrap a1)] (Af a6) fun b3 a7=>b3=.tuple #[]/\∃ l x q,Al (Instr.sliceAt 57 (.slice a c b) (some (Yn 8)) (some (Yn 16)) none) (.slice l x q)/\∃ a2,YD 2 (Addr.add d 3) (Af a7) (Yn a2)/\YC BA #[.slice l x q,.int .u64 (IntKind.u64.wrap a2)] (Af a7) fun b4 a8=>b4=.tuple #[]/\∃ s,Yg 69 d a8 s/\YC J7 #[.agg s] a8 fun b5 c0=>∃ t,b5=.agg t/\AS (fun b1 c1 a9 =>
 ∃ e,A2 c1 0=Yn e/\(bif decide (e<8)then
 ∃ a3,Al (Instr.index 54 (.agg t) (Yn e)) (Yn a3)/\∃ m y r,Al (Instr.sliceAt 57 (.slice a c b) (some (Yn (Yw (16+(Yw (e*2)))))) (some (Yn (Yw (16+(Yw ((Yw (e+1))*2)))))) none) (.slice m y r)/\YC BA #[.slice m y r,.int .u64 (IntKind.u64.wrap a3)] a9 fun b6 b9=>b6=.tuple #[]/\b1 [Yn (Yw (e+1))] b9
 else
 K (.tuple #[.slice a c b,Yn 0]) a9)) [Yn 0] c0)
theorem Zg(g0:Array Value):Yz J6 #[.agg g0] (ST g0):=fun _ _ h=>Ac (A:=⟨[36],[(36,3)],[]⟩) Tryz.func104 h
def HO(j3:YB)(c:Int)(g:Int)(b5:YB)(j c8:Nat)(b6:YB)(s c9:Nat)(l0:World)(K:YA):Prop :=
 ∃ a e,Yb 128 (.pointer j3) l0 a e/\∃ f6,Yp 128 a e f6/\(bif Option.isNone f6 then
 K (.tuple #[Yn 0,Yn 2]) e
 else
 Ad (fun d3=>(bif decide (c<0)then d3 [.bool true] e else ∃ f7,Yp 128 a e f7/\∃ h7,(.pointer f7:Value)=.pointer (some h7)/\∃ f1,Yi (Addr.add h7 1) e f1/\d3 [.bool (decide (c >= f1))] e)) fun l4 h =>
 ∃ b8,A2 l4 0=.bool b8/\(bif b8 then
 K (.tuple #[Yn 0,Yn 3]) h
 else
 Ad (fun i=>(bif (j:Int)==0 then i [.bool true] h else(bif decide (g<0)then i [.bool true] h else(bif decide (g > 256)then i [.bool true] h else i [.bool (decide ((j:Int) > (Yw (256-g))))] h)))) fun l5 i8 =>
 ∃ b9,A2 l5 0=.bool b9/\(bif b9 then
 K (.tuple #[Yn 0,Yn 4]) i8
 else
 YC BX #[.slice b6 s c9,.func (.func Ct) #[] #[.pointer (some a)]] i8 fun j6 n=>∃ c0,j6=.bool c0/\(bif c0 then
 K (.tuple #[Yn 0,Yn 1]) n
 else
 ∃ f8,Yp 128 a n f8/\∃ h8,(.pointer f8:Value)=.pointer (some h8)/\∃ f9,Yp 232 (Addr.add h8 0) n f9/\YC Dr #[.pointer f9,Yn c] n fun j7 f=>∃ q t r w,j7=.tuple #[.slice q t r,Yn w]/\(bif w != 0 then
 K (.tuple #[Yn 0,Yn w]) f
 else
 ∃ g0,Yp 128 a f g0/\∃ h9,(.pointer g0:Value)=.pointer (some h9)/\∃ e6,YD 236 (Addr.add h9 4) f (.map e6)/\∃ a0,Ru (Instr.lookup 236 (.map e6) (Yn c) false) f (.pointer a0) f/\Ad (fun d4=>(bif Option.isNone a0 then
 ∃ d2,Al (Instr.build 270 #[(0,.slice q t r)]) (.agg d2)/\∃ a2 o,Yb 270 (.agg d2) f a2 o/\∃ g1,Yp 128 a o g1/\∃ i0,(.pointer g1:Value)=.pointer (some i0)/\∃ e7,YD 236 (Addr.add i0 4) o (.map e7)/\∃ p,Gr (Instr.mapUpdate 236 (.map e7) (Yn c) (.pointer (some a2))) o p/\∃ g2,Yp 128 a p g2/\∃ i1,(.pointer g2:Value)=.pointer (some i1)/\∃ g3,Yp 232 (Addr.add i1 0) p g3/\YC DQ #[.pointer g3,Yn c] p fun j8 l2=>∃ j1,j8=Yn j1/\d4 [.pointer (some a2)] l2
 else
 d4 [.pointer a0] f)) fun l6 l3 =>
 YC NF #[.slice q t r,Yn g,.slice b5 j c8] l3 fun j9 a3=>∃ b7 e3 d0 j2,j9=.tuple #[.slice b7 e3 d0,Yn j2]/\∃ g4,Yp 128 a a3 g4/\∃ g5,(.pointer g4:Value)=.pointer (some g5)/\∃ f2,Yp 232 (Addr.add g5 0) a3 f2/\YC FN #[.pointer f2,Yn c,.slice b7 e3 d0] a3 fun j4 a4=>∃ j0,j4=Yn j0/\∃ x,Yp 128 a a4 x/\∃ g6,(.pointer x:Value)=.pointer (some g6)/\∃ e8,YD 2 (Addr.add g6 2) a4 (Yn e8)/\∃ g7,(.pointer x:Value)=.pointer (some g7)/\∃ m,YE 2 (Addr.add g7 2) (Yn (Yw (e8+1))) a4 m/\∃ y,Yp 128 a (Af m) y/\∃ a1,(.pointer y:Value)=.pointer (some a1)/\∃ u,YD 2 (Addr.add a1 2) (Af m) (Yn u)/\YC BT #[.slice b5 j c8] (Af m) fun j5 a5=>∃ a8 d6 c1,j5=.slice a8 d6 c1/\YD 128 a a5 (.pointer y)/\YD 2 (Addr.add a1 2) a5 (Yn u)/\∃ d1,Al (Instr.build 275 #[(0,Yn u),(1,Yn c),(2,Yn g),(3,.slice a8 d6 c1)]) (.agg d1)/\∃ d i2,Yb 275 (.agg d1) a5 d i2/\AS (fun i9 l7 b =>
 ∃ l,A2 l7 0=Yn l/\(bif decide (l<(s:Int))then
 ∃ g8,Yx 75 (.slice b6 s c9) (Yn l) g8/\∃ v,YD 2 g8 b (Yn v)/\∃ f3,Yp 128 a b f3/\∃ g9,(.pointer f3:Value)=.pointer (some g9)/\∃ e4,YD 235 (Addr.add g9 3) b (.map e4)/\∃ f4,Ru (Instr.lookup 235 (.map e4) (Yn v) false) b (.pointer f4) b/\Ad (fun d5=>(bif !(Option.isNone f4)then
 ∃ h0,(.pointer (some d):Value)=.pointer (some h0)/\∃(a9:YB)(d7 c2:Nat),YD 75 (Addr.add h0 4) b (.slice a9 d7 c2)/\∃ b0 d8 c3 i3,Ru (Instr.buildSlice 75 1 #[(0,Yn v)]) b (.slice b0 d8 c3) i3/\∃ b1 d9 c4 i4,Ru (Builtin.append_ #[75,75] 75 #[.slice a9 d7 c2,.slice b0 d8 c3]) i3 (.slice b1 d9 c4) i4/\∃ h1,(.pointer (some d):Value)=.pointer (some h1)/\∃ i5,YE 75 (Addr.add h1 4) (.slice b1 d9 c4) i4 i5/\d5 [] i5
 else
 d5 [] b)) fun l8 l1 =>
 i9 [Yn (Yw (l+1))] l1
 else
 ∃ f5,Yp 128 a (Af b) f5/\∃ h2,(.pointer f5:Value)=.pointer (some h2)/\∃ e5,YD 235 (Addr.add h2 3) (Af b) (.map e5)/\∃ h3,(.pointer (some d):Value)=.pointer (some h3)/\∃ e9,YD 2 (Addr.add h3 0) (Af b) (Yn e9)/\∃ a6,Gr (Instr.mapUpdate 235 (.map e5) (Yn e9) (.pointer (some d))) (Af b) a6/\∃ z,A2 l6 0=.pointer z/\∃ h4,(.pointer z:Value)=.pointer (some h4)/\∃(b2:YB)(e0 c5:Nat),YD 268 (Addr.add h4 1) a6 (.slice b2 e0 c5)/\∃ b3 e1 c6 i6,Ru (Instr.buildSlice 268 1 #[(0,.pointer (some d))]) a6 (.slice b3 e1 c6) i6/\∃ b4 e2 c7 i7,Ru (Builtin.append_ #[268,268] 268 #[.slice b2 e0 c5,.slice b3 e1 c6]) i6 (.slice b4 e2 c7) i7/\∃ h5,(.pointer z:Value)=.pointer (some h5)/\∃ a7,YE 268 (Addr.add h5 1) (.slice b4 e2 c7) i7 a7/\∃ h6,(.pointer (some d):Value)=.pointer (some h6)/\∃ f0,YD 2 (Addr.add h6 0) a7 (Yn f0)/\K (.tuple #[Yn f0,Yn 0]) a7)) [Yn 0] i2)))))
theorem Ou(p0:YB)(n1:Int)(n2:Int)(a3:YB)(l3 c3:Nat)(a4:YB)(l4 c4:Nat):Yz Bz #[.pointer p0,Yn n1,Yn n2,.slice a3 l3 c3,.slice a4 l4 c4] (HO p0 n1 n2 a3 l3 c3 a4 l4 c4):=fun _ _ h=>Ac (A:=⟨[14,23,34,125],[(14,267),(23,4),(34,4),(125,3)],[]⟩) Tryz.func105 h
def E2(b:YB)(a c:Nat)(v:Value)(a3:World)(K:YA):Prop :=
 YC BE #[.slice b a c,v] a3 fun a1 w=>∃ d,a1=Yn d/\(bif d==(-1)then
 K (.slice b a c) w
 else
 AS (fun a0 f j =>
 ∃ e,A2 f 1=Yn e/\(bif decide (e<(a:Int))then
 ∃ t,Yx 75 (.slice b a c) (Yn e) t/\∃ g,YD 2 t j (Yn g)/\TH Yt v #[Yn g] j fun a2 x=>∃ n,a2=.bool n/\Ad (fun q=>(bif !n then
 ∃ h,A2 f 0=Yn h/\∃ u,Yx 75 (.slice b a c) (Yn h) u/\∃ y,YE 2 u (Yn g) x y/\q [Yn (Yw (h+1))] y
 else
 q [A2 f 0] x)) fun a5 a4 =>
 a0 [A2 a5 0,Yn (Yw (e+1))] a4
 else
 ∃ i,A2 f 0=Yn i/\∃ l r o,Al (Instr.sliceAt 75 (.slice b a c) (some (Yn i)) none none) (.slice l r o)/\∃ z,Ru (Builtin.clear_ #[75] 0 #[.slice l r o]) j (.tuple #[]) z/\∃ m s p,Al (Instr.sliceAt 75 (.slice b a c) none (some (Yn i)) none) (.slice m s p)/\K (.slice m s p) z)) [Yn d,Yn (Yw (d+1))] w)
theorem IU(a0:YB)(l0 c0:Nat)(v1:Value):Yz B4 #[.slice a0 l0 c0,v1] (E2 a0 l0 c0 v1):=fun _ _ h=>Ac (A:=⟨[5,6],[(5,3),(6,3)],[]⟩) Tryz.func106 h
def Wm(a:Int)(b:World)(K:YA):Prop :=
 K (.bool (a==0)) b
theorem We(n0:Int):Yz OL #[Yn n0] (Wm n0):=fun _ _ h=>Ac (A:=⟨[],[],[]⟩) Tryz.func107 h
def Zp(b:Int)(t:World)(K:YA):Prop :=
 ∃ a d,Yq 200 t a d/\Ad (fun s=>(bif decide (b<0)then s [.bool true] d else s [.bool (decide (b >= 4166))] d)) fun u c =>
 ∃ i,A2 u 0=.bool i/\(bif i then
 ∃ j,Al (Instr.build 200 #[]) (.agg j)/\∃ e,YE 200 a (.agg j) c e/\∃ o,Yg 200 a e o/\K (.tuple #[.agg o,Yn 28]) e
 else
 (bif decide (b<6)then
 ∃ l,Al (Instr.build 200 #[(1,Yn b)]) (.agg l)/\∃ f,YE 200 a (.agg l) c f/\∃ p,Yg 200 a f p/\K (.tuple #[.agg p,Yn 0]) f
 else
 (bif decide ((Yw (b-6))<64)then
 ∃ m,Al (Instr.build 200 #[(0,Yn 1),(2,Yn (Yw (b-6)))]) (.agg m)/\∃ g,YE 200 a (.agg m) c g/\∃ q,Yg 200 a g q/\K (.tuple #[.agg q,Yn 0]) g
 else
 ∃ n,Al (Instr.build 200 #[(0,Yn 2),(2,Yn (Yw (Int.tdiv (Yw ((Yw (b-6))-64)) 64))),(3,Yn (Int.tmod (Yw ((Yw (b-6))-64)) 64))]) (.agg n)/\∃ h,YE 200 a (.agg n) c h/\∃ r,Yg 200 a h r/\K (.tuple #[.agg r,Yn 0]) h)))
theorem pS(n0:Int):Yz MS #[Yn n0] (Zp n0):=fun _ _ h=>Ac (A:=⟨[4],[(4,4)],[]⟩) Tryz.func108 h
def I4(i:YB)(a7:Array Value)(a8:Array Value)(b2:World)(K:YA):Prop :=
 ∃ d a6,Yb 69 (.agg a7) b2 d a6/\∃ b a,Yb 200 (.agg a8) a6 b a/\∃ h,Yi (Addr.add b 0) a h/\(bif h==0 then
 ∃ v,Yi (Addr.add b 1) a v/\∃ a2,Yx 67 (.pointer (some (Addr.add d 4))) (Yn v) a2/\∃ w,Yi a2 a w/\K (Yn w) a
 else
 (bif h==1 then
 ∃ x,Yi (Addr.add d 10) (Af a) x/\∃ f,Yi (Addr.add b 2) (Af a) f/\YC Dv #[.pointer i,Yn x] (Af a) fun a9 j=>∃ m s p,a9=.slice m s p/\YD 3 (Addr.add b 2) j (Yn f)/\∃ a3,Yx 176 (.slice m s p) (Yn f) a3/\∃ y,Yi a3 j y/\K (Yn y) j
 else
 ∃ z,Yi (Addr.add d 11) (Af a) z/\∃ g,Yi (Addr.add b 2) (Af a) g/\∃ c,Yi (Addr.add b 3) (Af a) c/\YC Dv #[.pointer i,Yn z] (Af a) fun b0 e=>∃ n t q,b0=.slice n t q/\YD 3 (Addr.add b 2) e (Yn g)/\YD 3 (Addr.add b 3) e (Yn c)/\∃ a4,Yx 176 (.slice n t q) (Yn g) a4/\∃ a0,Yi a4 e a0/\YC Dv #[.pointer i,Yn a0] e fun b1 l=>∃ o u r,b1=.slice o u r/\YD 3 (Addr.add b 3) l (Yn c)/\∃ a5,Yx 176 (.slice o u r) (Yn c) a5/\∃ a1,Yi a5 l a1/\K (Yn a1) l))
theorem Pp(p0:YB)(g1:Array Value)(g2:Array Value):Yz Dw #[.pointer p0,.agg g1,.agg g2] (I4 p0 g1 g2):=fun _ _ h=>Ac (A:=⟨[],[],[]⟩) Tryz.func109 h
def HM(a:YB)(z:YB)(a3 a1:Nat)(a0:YB)(a4 a2:Nat)(c:World)(K:YA):Prop :=
 ∃ r,(.pointer a:Value)=.pointer (some r)/\∃ o,Yp 50 (Addr.add r 0) (Af c) o/\∃ s,(.pointer o:Value)=.pointer (some s)/\∃ p,Yp 61 (Addr.add s 0) (Af c) p/\∃ t,(.pointer a:Value)=.pointer (some t)/\∃ i,Yi (Addr.add t 15) (Af c) i/\YC E5 #[.pointer p,Yn i] (Af c) fun a5 x=>∃ b j e,a5=.tuple #[Yn b,Yn j,Yn e]/\(bif e != 0 then
 K (.tuple #[Yn 0,.slice none 0 0,Yn e]) x
 else
 ∃ u,(.pointer a:Value)=.pointer (some u)/\∃ d,YE 3 (Addr.add u 15) (Yn b) x d/\∃ v,(.pointer a:Value)=.pointer (some v)/\∃ q,Yp 50 (Addr.add v 0) (Af d) q/\∃ w,(.pointer a:Value)=.pointer (some w)/\∃ l,Yi (Addr.add w 1) (Af d) l/\YC CV #[.pointer q,Yn l,Yn b,Yn 0,.slice z a3 a1,.slice a0 a4 a2] (Af d) fun a6 a7=>∃ m n,a6=.tuple #[Yn m,Yn n]/\∃ f h g y,Ru (Instr.buildSlice 75 2 #[(0,Yn j),(1,Yn m)]) a7 (.slice f h g) y/\K (.tuple #[Yn b,.slice f h g,Yn n]) y)
theorem Oq(p0:YB)(a1:YB)(l1 c1:Nat)(a2:YB)(l2 c2:Nat):Yz E9 #[.pointer p0,.slice a1 l1 c1,.slice a2 l2 c2] (HM p0 a1 l1 c1 a2 l2 c2):=fun _ _ h=>Ac (A:=⟨[],[],[]⟩) Tryz.func110 h
def Jy(f:YB)(c:Int)(p:Int)(i:YB)(n l:Nat)(j:YB)(o m:Nat)(s:World)(K:YA):Prop :=
 YC Gd #[.pointer f,Yn c] s fun q b=>∃ a,q=Yn a/\(bif a != 0 then
 K (.tuple #[Yn 0,Yn a]) b
 else
 ∃ h,(.pointer f:Value)=.pointer (some h)/\∃ g,Yp 128 (Addr.add h 4) b g/\YC Bz #[.pointer g,Yn c,Yn p,.slice i n l,.slice j o m] b fun r t=>∃ d e,r=.tuple #[Yn d,Yn e]/\K (.tuple #[Yn d,Yn e]) t)
theorem Q5(p0:YB)(n1:Int)(n2:Int)(a3:YB)(l3 c3:Nat)(a4:YB)(l4 c4:Nat):Yz Gb #[.pointer p0,Yn n1,Yn n2,.slice a3 l3 c3,.slice a4 l4 c4] (Jy p0 n1 n2 a3 l3 c3 a4 l4 c4):=fun _ _ h=>Ac (A:=⟨[],[],[]⟩) Tryz.func113 h
def I8(f:YB)(i:Int)(a:World)(K:YA):Prop :=
 (bif Option.isNone f then
 K (.tuple #[.slice none 0 0,Yn 2]) a
 else
 ∃ h,(.pointer f:Value)=.pointer (some h)/\∃ g,Yp 232 (Addr.add h 0) a g/\YC Dr #[.pointer g,Yn i] a fun j l=>∃ b d c e,j=.tuple #[.slice b d c,Yn e]/\K (.tuple #[.slice b d c,Yn e]) l)
theorem Pu(p0:YB)(n1:Int):Yz Bd #[.pointer p0,Yn n1] (I8 p0 n1):=fun _ _ h=>Ac (A:=⟨[],[],[]⟩) Tryz.func114 h
def QF(f:YB)(o h:Nat)(b:Int)(v:World)(K:YA):Prop :=
 ∃ a r,Yq 69 v a r/\YC J8 #[.slice f o h,Yn b] r fun u s=>∃ c,u=Yn c/\(bif c != 0 then
 ∃ j,Al (Instr.build 69 #[]) (.agg j)/\∃ d,YE 69 a (.agg j) s d/\∃ m,Yg 69 a d m/\K (.tuple #[.agg m,Yn c]) d
 else
 ∃ g p i,Al (Instr.sliceAt 57 (.slice f o h) (some (Yn (Yw (b*64)))) (some (Yn (Yw ((Yw (b+1))*64)))) none) (.slice g p i)/\YC MP #[.slice g p i] s fun t w=>∃ l q,t=.tuple #[.agg l,Yn q]/\∃ e,YE 69 a (.agg l) w e/\∃ n,Yg 69 a e n/\K (.tuple #[.agg n,Yn q]) e)
theorem XE(a0:YB)(l0 c0:Nat)(n1:Int):Yz KZ #[.slice a0 l0 c0,Yn n1] (QF a0 l0 c0 n1):=fun _ _ h=>Ac (A:=⟨[],[],[]⟩) Tryz.func115 h
def Jg(i:YB)(h:Int)(g:Array Value)(j:World)(K:YA):Prop :=
 ∃ a d,Yb 35 (.pointer i) j a d/\∃ b e,Yb 3 (Yn h) d b e/\∃ c f,Yb 69 (.agg g) e c f/\K (.func (.func CN) #[] #[.pointer (some c),.pointer (some a),.pointer (some b)]) f
theorem Qo(p0:YB)(n1:Int)(g2:Array Value):Yz C6 #[.pointer p0,Yn n1,.agg g2] (Jg p0 n1 g2):=fun _ _ h=>Ac (A:=⟨[],[],[]⟩) Tryz.func116 h
def JU(y:YB)(a2 a0:Nat)(a4:ByteArray)(a5:World)(K:YA):Prop :=
 ∃ o s,Yb 9 (.string a4) a5 o s/\∃ b t,Yq 3 s b t/\YC Gz #[.slice y a2 a0] t fun a3 a=>∃ r:Value,a3=r/\L5 Yt r 2 a (fun x z h a7 =>
 ∃ j,A2 x 0=Yn j/\∃ f u,Yq 143 a7 f u/\∃ i,A2 x 1=.agg i/\∃ v,YE 143 f (.agg i) u v/\z (fun e =>
 ∃ p:ByteArray,YD 9 (Addr.add f 2) e (.string p)/\∃ q:ByteArray,YD 9 o e (.string q)/\(bif (ByteArray.toList p)==(ByteArray.toList q)then
 ∃ w,YE 3 b (Yn j) e w/\h (some Code.ret) w
 else
 h none e)) v)
 (XR (fun a8 =>
 ∃ c,YE 3 b (Yn ((-1))) a8 c/\(World.heap c)[(World.heap a).size]?=some (.deferred (some []))/\∃ l,YD 3 b (World.putObj c ((World.heap a).size) (.deferred none)) (Yn l)/\K (Yn l) (World.putObj c ((World.heap a).size) (.deferred none)))
 (fun a1 a6 =>
 (bif Nat.beq a1 0 then
 ∃ d,YE 3 b (Yn ((-1))) a6 d/\(World.heap d)[(World.heap a).size]?=some (.deferred (some []))/\∃ m,YD 3 b (World.putObj d ((World.heap a).size) (.deferred none)) (Yn m)/\K (Yn m) (World.putObj d ((World.heap a).size) (.deferred none))
 else
 False))
 (fun g =>
 (World.heap g)[(World.heap a).size]?=some (.deferred (some []))/\∃ n,YD 3 b (World.putObj g ((World.heap a).size) (.deferred none)) (Yn n)/\K (Yn n) (World.putObj g ((World.heap a).size) (.deferred none))))
theorem VZ(a0:YB)(l0 c0:Nat)(s1:ByteArray)(w0:World)(K:YA)(h:JU a0 l0 c0 s1 w0 K):A7 Yt JW #[.slice a0 l0 c0,.string s1] w0 K :=
 F8 (A:={ S:=[],ty:=[(9,3),(10,143)],raw:=[] }) Vs Tryz.func117 (by kernel_rfl) (by kernel_rfl) ((show Tf Yt _ Tryz.f117 _ w0 K=JU a0 l0 c0 s1 w0 K by kernel_rfl).mpr h)
def OD(p:YB)(r q:Nat)(s:Int)(v:World)(K:YA):Prop :=
 ∃ a n,Yq 143 v a n/\YC J1 #[.slice p r q,Yn s] n fun t o=>∃ e l f b,t=.tuple #[.slice e l f,Yn b]/\(bif b != 0 then
 ∃ g,Al (Instr.build 143 #[]) (.agg g)/\∃ c,YE 143 a (.agg g) o c/\∃ i,Yg 143 a c i/\K (.tuple #[.agg i,Yn b]) c
 else
 YC KU #[.slice e l f] o fun u w=>∃ h m,u=.tuple #[.agg h,Yn m]/\∃ d,YE 143 a (.agg h) w d/\∃ j,Yg 143 a d j/\K (.tuple #[.agg j,Yn m]) d)
theorem Wb(a0:YB)(l0 c0:Nat)(n1:Int):Yz GM #[.slice a0 l0 c0,Yn n1] (OD a0 l0 c0 n1):=fun _ _ h=>Ac (A:=⟨[],[],[]⟩) Tryz.func118 h
def MD(q:Array Value)(s:World)(K:YA):Prop :=
 ∃ b o,Yb 143 (.agg q) s b o/\∃ h,Al (Instr.build 143 #[]) (.agg h)/\∃ d p,Yq 143 o d p/\∃ a,YE 143 d (.agg h) p a/\Ad (fun c=>∃ i,Yg 143 b a i/\∃ j,Yg 143 d a j/\∃ g,Al (G9 .eql 143 (.tmp 5) (.tmp 6) (.agg i) (.agg j)) (.bool g)/\(bif g then c [.bool true] a else ∃ l,Yi (Addr.add b 0) a l/\(bif decide (l >= 1)then ∃ m,Yi (Addr.add b 0) a m/\(bif decide (m<=1023)then ∃ n:ByteArray,YD 9 (Addr.add b 2) a (.string n)/\YC EE #[.string n] a fun r t=>∃ f,r=.bool f/\c [.bool f] t else c [.bool false] a)else c [.bool false] a))) fun v u =>
 ∃ e,A2 v 0=.bool e/\K (.bool e) u
theorem Uh(g0:Array Value):Yz CU #[.agg g0] (MD g0):=fun _ _ h=>Ac (A:=⟨[2],[(2,4)],[]⟩) Tryz.func119 h
def W6(h:YB)(c i:Nat)(l:Int)(m:World)(K:YA):Prop :=
 AS (fun j g e =>
 ∃ a,A2 g 1=Yn a/\(bif decide (a<(c:Int))then
 ∃ b,A2 g 0=.int .u64 b/\∃ d,Yx 57 (.slice h c i) (Yn a) d/\∃ f,YE 5 d (.int .u8 (IntKind.u8.wrap b)) e f/\j [.int .u64 (Int.fdiv b 256),Yn (Yw (a+1))] f
 else
 K (.tuple #[]) e)) [.int .u64 l,Yn 0] m
theorem kZ(a0:YB)(l0 c0:Nat)(n1:Int):Yz BA #[.slice a0 l0 c0,.int .u64 n1] (W6 a0 l0 c0 n1):=fun _ _ h=>Ac (A:=⟨[1,7],[(1,218),(7,3)],[]⟩) Tryz.func120 h
def OE(m:YB)(p n:Nat)(s:World)(K:YA):Prop :=
 AS (fun o u i =>
 ∃ a,A2 u 0=Yn a/\(bif decide (a<8)then
 YC J1 #[.slice m p n,Yn a] i fun q j=>∃ c g e h,q=.tuple #[.slice c g e,Yn h]/\Ad (fun f=>(bif h==0 then YC CJ #[.slice c g e] j fun r t=>∃ d,r=.bool d/\f [.bool d] t else f [.bool false] j)) fun v l =>
 ∃ b,A2 v 0=.bool b/\(bif b then
 K (Yn a) l
 else
 o [Yn (Yw (a+1)),.bool b] l)
 else
 K (Yn ((-1))) i)) [Yn 0,undef] s
theorem Wd(a0:YB)(l0 c0:Nat):Yz JX #[.slice a0 l0 c0] (OE a0 l0 c0):=fun _ _ h=>Ac (A:=⟨[6,20],[(6,3),(20,4)],[]⟩) Tryz.func121 h
def I1(j:YB)(g:Int)(r:Int)(s:Int)(l:YB)(p n:Nat)(m:YB)(q o:Nat)(w:World)(K:YA):Prop :=
 YC Du #[.pointer j,Yn g,Yn r] w fun t c=>∃ a b,t=.tuple #[Yn a,Yn b]/\(bif b != 0 then
 K (.tuple #[Yn 0,Yn b]) c
 else
 (bif a==0 then
 K (.tuple #[Yn 0,Yn 20]) c
 else
 YC J2 #[.slice m q o] c fun u x=>∃ d f e,u=.slice d f e/\YC CV #[.pointer j,Yn g,Yn a,Yn s,.slice l p n,.slice d f e] x fun v y=>∃ h i,v=.tuple #[Yn h,Yn i]/\K (.tuple #[Yn h,Yn i]) y))
theorem Pm(p0:YB)(n1:Int)(n2:Int)(n3:Int)(a4:YB)(l4 c4:Nat)(a5:YB)(l5 c5:Nat):Yz Fg #[.pointer p0,Yn n1,Yn n2,Yn n3,.slice a4 l4 c4,.slice a5 l5 c5] (I1 p0 n1 n2 n3 a4 l4 c4 a5 l5 c5):=fun _ _ h=>Ac (A:=⟨[],[],[]⟩) Tryz.func122 h
def LY(b:YB)(a:World)(K:YA):Prop :=
 (bif Option.isNone b then
 K (.pointer none) a
 else
 ∃ d,(.pointer b:Value)=.pointer (some d)/\∃ c,Yp 128 (Addr.add d 4) a c/\K (.pointer c) a)
theorem TG(p0:YB):Yz H3 #[.pointer p0] (LY p0):=fun _ _ h=>Ac (A:=⟨[],[],[]⟩) Tryz.func123 h
def I9(c:YB)(g:Int)(j:World)(K:YA):Prop :=
 Ad (fun b=>(bif !(Option.isNone c)then YC CP #[.pointer c,Yn g] j fun l a=>∃ d,l=.bool d/\(bif d then ∃ i,(.pointer c:Value)=.pointer (some i)/\∃ f,YD 235 (Addr.add i 3) a (.map f)/\∃ h,Ru (Instr.lookup 235 (.map f) (Yn g) false) a (.pointer h) a/\b [.bool (Option.isNone h)] a else b [.bool false] a)else b [.bool false] j)) fun n m =>
 ∃ e,A2 n 0=.bool e/\K (.bool e) m
theorem Pv(p0:YB)(n1:Int):Yz Fi #[.pointer p0,Yn n1] (I9 p0 n1):=fun _ _ h=>Ac (A:=⟨[4],[(4,4)],[]⟩) Tryz.func124 h
def SM(b3:Array Value)(b7:World)(K:YA):Prop :=
 ∃ a b2,Yb 83 (.agg b3) b7 a b2/\∃ b g,Yq 83 b2 b g/\Ad (fun a1=>∃ b1,Yi (Addr.add a 0) g b1/\YC FT #[Yn b1,Yn 16,Yn 128] g fun b6 h=>∃ s,b6=.bool s/\(bif !s then a1 [.bool true] h else ∃ a4,Yi (Addr.add a 2) h a4/\YC FT #[Yn a4,Yn 1,Yn 16] h fun b4 b8=>∃ n,b4=.bool n/\a1 [.bool (!n)] b8)) fun b9 i =>
 ∃ r,A2 b9 0=.bool r/\(bif r then
 ∃ t,Al (Instr.build 83 #[]) (.agg t)/\∃ j,YE 83 b (.agg t) i j/\∃ x,Yg 83 b j x/\K (.agg x) j
 else
 Ad (fun a2=>∃ a5,Yi (Addr.add a 1) i a5/\YC FT #[Yn a5,Yn 4,Yn 64] i fun b5 l=>∃ p,b5=.bool p/\(bif !p then a2 [.bool true] l else ∃ a6,Yi (Addr.add a 1) l a6/\a2 [.bool ((Int.tmod a6 4) != 0)] l)) fun c0 c =>
 ∃ o,A2 c0 0=.bool o/\(bif o then
 ∃ u,Al (Instr.build 83 #[]) (.agg u)/\∃ m,YE 83 b (.agg u) c m/\∃ y,Yg 83 b m y/\K (.agg y) m
 else
 Ad (fun a3=>∃ a7,Yi (Addr.add a 0) c a7/\∃ a8,Yi (Addr.add a 1) c a8/\(bif decide ((Yw ((Yw (a7-1))-(Yw (Int.tdiv a8 4))))<4)then a3 [.bool true] c else ∃ a9,Yi (Addr.add a 2) c a9/\∃ b0,Yi (Addr.add a 0) c b0/\a3 [.bool (decide ((Yw (2+(Yw (a9*b0)))) > 4096))] c)) fun c1 d =>
 ∃ q,A2 c1 0=.bool q/\(bif q then
 ∃ v,Al (Instr.build 83 #[]) (.agg v)/\∃ e,YE 83 b (.agg v) d e/\∃ z,Yg 83 b e z/\K (.agg z) e
 else
 ∃ w,Yg 83 a d w/\∃ f,YE 83 b (.agg w) d f/\∃ a0,Yg 83 b f a0/\K (.agg a0) f)))
theorem YZ(g0:Array Value):Yz GW #[.agg g0] (SM g0):=fun _ _ h=>Ac (A:=⟨[3,15,27],[(3,4),(15,4),(27,4)],[]⟩) Tryz.func125 h
def LU(f:YB)(e:Int)(a:World)(K:YA):Prop :=
 (bif Option.isNone f then
 K (Yn 2) a
 else
 Ad (fun c=>(bif decide (e<0)then c [.bool true] a else ∃ g,(.pointer f:Value)=.pointer (some g)/\∃(i:YB)(d j:Nat),YD 151 (Addr.add g 0) a (.slice i d j)/\c [.bool (decide (e >= (d:Int)))] a)) fun l h =>
 ∃ b,A2 l 0=.bool b/\(bif b then
 K (Yn 3) h
 else
 K (Yn 0) h))
theorem TC(p0:YB)(n1:Int):Yz EO #[.pointer p0,Yn n1] (LU p0 n1):=fun _ _ h=>Ac (A:=⟨[8],[(8,4)],[]⟩) Tryz.func126 h
def Ks(c:YB)(a:World)(K:YA):Prop :=
 ∃ g,(.pointer c:Value)=.pointer (some g)/\∃ d,Yi (Addr.add g 2) a d/\(bif d==0 then
 K (.bool false) a
 else
 ∃ e,(.pointer c:Value)=.pointer (some e)/\∃ b,Yi (Addr.add e 2) a b/\∃ f,(.pointer c:Value)=.pointer (some f)/\∃ h,YE 3 (Addr.add f 2) (Yn (if (-1) > (Yw (b-1))then(-1)else(Yw (b-1)))) a h/\K (.bool true) h)
theorem RM(p0:YB):Yz Er #[.pointer p0] (Ks p0):=fun _ _ h=>Ac (A:=⟨[],[],[]⟩) Tryz.func127 h
def Kq(t:YB)(f:World)(K:YA):Prop :=
 (bif Option.isNone t then
 K (.slice none 0 0) f
 else
 ∃ u,(.pointer t:Value)=.pointer (some u)/\∃ r,YD 152 (Addr.add u 1) f (.map r)/\∃ e x,Ru (Instr.range 152 (.map r)) f (.pointer (some e)) x/\AS (fun a1 a0 a3 =>
 ∃ v:Value,∃ a,Ru (Instr.next (.pointer (some e)) false 0) a3 v a/\∃ j,Al (Instr.extract v 0) (.bool j)/\(bif j then
 ∃ w:Value,Ru (Instr.entry (.pointer (some e))) a w a/\∃ s,Al (Instr.extract w 0) (Yn s)/\∃ i q n,A2 a0 0=.slice i q n/\∃ g o l y,Ru (Instr.buildSlice 176 1 #[(0,Yn s)]) a (.slice g o l) y/\∃ h p m z,Ru (Builtin.append_ #[176,176] 176 #[.slice i q n,.slice g o l]) y (.slice h p m) z/\a1 [.slice h p m] z
 else
 ∃ b d c,A2 a0 0=.slice b d c/\YC FZ #[.slice b d c] a fun a2 a4=>a2=.tuple #[]/\K (.slice b d c) a4)) [.slice none 0 0] x)
theorem RL(p0:YB):Yz G0 #[.pointer p0] (Kq p0):=fun _ _ h=>Ac (A:=⟨[3],[(3,176)],[12,14]⟩) Tryz.func128 h
def Kt(r:YB)(q:Int)(w:World)(K:YA):Prop :=
 ∃ b a,Yq 223 w b a/\∃ v,(.pointer r:Value)=.pointer (some v)/\∃ p,YD 152 (Addr.add v 1) a (.map p)/\∃ f c h,Ru (Instr.lookup 152 (.map p) (Yn q) false) a (.slice f c h) a/\(bif decide ((c:Int) > 0)then
 ∃ s,Yx 151 (.slice f c h) (Yn (Yw ((c:Int)-1))) s/\∃ j,Yg 223 s a j/\∃ d,YE 223 b (.agg j) a d/\∃ m,Yg 223 b d m/\K (.agg m) d
 else
 ∃ t,(.pointer r:Value)=.pointer (some t)/\∃(g:YB)(o i:Nat),YD 151 (Addr.add t 0) a (.slice g o i)/\∃ u,Yx 151 (.slice g o i) (Yn q) u/\∃ l,Yg 223 u a l/\∃ e,YE 223 b (.agg l) a e/\∃ n,Yg 223 b e n/\K (.agg n) e)
theorem RN(p0:YB)(n1:Int):Yz Et #[.pointer p0,Yn n1] (Kt p0 n1):=fun _ _ h=>Ac (A:=⟨[],[],[]⟩) Tryz.func129 h
def OF(q:Array Value)(n:Int)(u:World)(K:YA):Prop :=
 ∃ b p,Yb 83 (.agg q) u b p/\∃ a c,Yq 171 p a c/\∃ j,Yg 83 b c j/\YC Ec #[.agg j,Yn n] c fun s d=>∃ r o,s=.tuple #[Yn r,Yn o]/\(bif o != 0 then
 ∃ g,Al (Instr.build 171 #[]) (.agg g)/\∃ e,YE 171 a (.agg g) d e/\∃ l,Yg 171 a e l/\K (.tuple #[.agg l,Yn 1]) e
 else
 ∃ h,Yg 83 b d h/\YC KY #[.agg h,Yn n] d fun t v=>∃ i,t=.agg i/\∃ f,YE 171 a (.agg i) v f/\∃ m,Yg 171 a f m/\K (.tuple #[.agg m,Yn 0]) f)
theorem Wf(g0:Array Value)(n1:Int):Yz GN #[.agg g0,Yn n1] (OF g0 n1):=fun _ _ h=>Ac (A:=⟨[],[],[]⟩) Tryz.func130 h
def SO(b5:Array Value)(b6:Array Value)(c4:World)(K:YA):Prop :=
 ∃ h a8,Yb 83 (.agg b5) c4 h a8/\∃ e f,Yb 171 (.agg b6) a8 e f/\∃ u,Yg 83 h f u/\∃ v,Yg 171 e f v/\YC CI #[.agg u,.agg v] f fun c1 b0=>∃ o,c1=.bool o/\(bif !o then
 K (.tuple #[.slice none 0 0,Yn 1]) b0
 else
 ∃ a c b b1,Ru (Instr.makeSlice 57 (Yn 256) (Yn 256)) b0 (.slice a c b) b1/\∃ b8 g,Ru (Builtin.copy_ #[57,9] 3 #[.slice a c b,.string (⟨#[76,71,82,80]⟩)]) b1 (Yn b8) g/\∃ w,Yg 83 h g w/\∃ x,Yg 171 e g x/\YC Ic #[.agg w,.agg x] g fun c2 b2=>∃ a4 a5,c2=.tuple #[Yn a4,Yn a5]/\∃ a6,Yi (Addr.add e 0) b2 a6/\∃ y,Al (Instr.build 292 #[(0,Yn a6),(1,Yn a4),(2,Yn a5)]) (.agg y)/\AS (fun b7 c6 b3 =>
 ∃ d,A2 c6 0=Yn d/\(bif decide (d<3)then
 ∃ a7,Al (Instr.index 292 (.agg y) (Yn d)) (Yn a7)/\∃ i z p,Al (Instr.sliceAt 57 (.slice a c b) (some (Yn (Yw (4+(Yw (d*2)))))) (some (Yn (Yw (4+(Yw ((Yw (d+1))*2)))))) none) (.slice i z p)/\YC BA #[.slice i z p,.int .u64 (IntKind.u64.wrap a7)] b3 fun c3 c5=>c3=.tuple #[]/\b7 [Yn (Yw (d+1))] c5
 else
 ∃ j a0 q,Al (Instr.sliceAt 57 (.slice a c b) (some (Yn 16)) none none) (.slice j a0 q)/\∃ l a1 r,Al (Instr.sliceAt 168 (.pointer (some (Addr.add e 1))) none none none) (.slice l a1 r)/\∃ b9 b4,Ru (Builtin.copy_ #[57,57] 3 #[.slice j a0 q,.slice l a1 r]) (Af b3) (Yn b9) b4/\∃ m a2 s,Al (Instr.sliceAt 57 (.slice a c b) (some (Yn 32)) none none) (.slice m a2 s)/\∃ n a3 t,Al (Instr.sliceAt 169 (.pointer (some (Addr.add e 17))) none none none) (.slice n a3 t)/\∃ c0 a9,Ru (Builtin.copy_ #[57,57] 3 #[.slice m a2 s,.slice n a3 t]) (Af b4) (Yn c0) a9/\K (.tuple #[.slice a c b,Yn 0]) a9)) [Yn 0] b2)
theorem Zb(g0:Array Value)(g1:Array Value):Yz GX #[.agg g0,.agg g1] (SO g0 g1):=fun _ _ h=>Ac (A:=⟨[29],[(29,3)],[]⟩) Tryz.func131 h
def Uu(m:Array Value)(c:Int)(o:World)(K:YA):Prop :=
 ∃ a d,Yb 83 (.agg m) o a d/\∃ h,Yg 83 a d h/\YC Dh #[.agg h] d fun n b=>∃ g,n=.bool g/\(bif !g then
 K (.tuple #[Yn 0,Yn 1]) b
 else
 Ad (fun i=>(bif decide (c<0)then i [.bool true] b else ∃ j,Yi (Addr.add a 2) b j/\i [.bool (decide (c >= j))] b)) fun p e =>
 ∃ f,A2 p 0=.bool f/\(bif f then
 K (.tuple #[Yn 0,Yn 3]) e
 else
 ∃ l,Yi (Addr.add a 0) e l/\K (.tuple #[Yn (Yw (2+(Yw (c*l)))),Yn 0]) e))
theorem cT(g0:Array Value)(n1:Int):Yz Ec #[.agg g0,Yn n1] (Uu g0 n1):=fun _ _ h=>Ac (A:=⟨[10],[(10,4)],[]⟩) Tryz.func132 h
def QB(n:Array Value)(p:World)(K:YA):Prop :=
 ∃ e l,Yb 83 (.agg n) p e l/\∃ g,Al (Instr.build 83 #[]) (.agg g)/\∃ a m,Yq 83 l a m/\∃ b,YE 83 a (.agg g) m b/\∃ h,Yg 83 e (Af b) h/\∃ d,Yg 83 a (Af b) d/\YC GW #[.agg h] (Af b) fun o c=>∃ i,o=.agg i/\YD 83 a c (.agg d)/\∃ f,Al (G9 .eql 83 (.tmp 6) (.tmp 7) (.agg i) (.agg d)) (.bool f)/\(bif f then
 K (Yn 0) c
 else
 ∃ j,Yi (Addr.add e 1) c j/\K (Yn (Yw (Int.tdiv j 4))) c)
theorem XA(g0:Array Value):Yz Eu #[.agg g0] (QB g0):=fun _ _ h=>Ac (A:=⟨[],[],[]⟩) Tryz.func133 h
def SS(d:YB)(l g:Nat)(o:Int)(t:Array Value)(x:World)(K:YA):Prop :=
 ∃ q r,Yb 69 (.agg t) x q r/\YC J8 #[.slice d l g,Yn o] r fun u c=>∃ a,u=Yn a/\(bif a != 0 then
 K (.tuple #[.slice none 0 0,Yn a]) c
 else
 ∃ j,Yg 69 q c j/\YC J6 #[.agg j] c fun v s=>∃ e m h b,v=.tuple #[.slice e m h,Yn b]/\(bif b != 0 then
 K (.tuple #[.slice none 0 0,Yn b]) s
 else
 YC NF #[.slice d l g,Yn (Yw (o*64)),.slice e m h] s fun w y=>∃ f n i p,w=.tuple #[.slice f n i,Yn p]/\K (.tuple #[.slice f n i,Yn p]) y))
theorem Zf(a0:YB)(l0 c0:Nat)(n1:Int)(g2:Array Value):Yz MQ #[.slice a0 l0 c0,Yn n1,.agg g2] (SS a0 l0 c0 n1 g2):=fun _ _ h=>Ac (A:=⟨[],[],[]⟩) Tryz.func134 h
def HS(i:Array Value)(l:World)(K:YA):Prop :=
 ∃ b a,Yb 127 (.agg i) l b a/\Ad (fun c=>∃ g,YD 2 (Addr.add b 0) a (Yn g)/\(bif decide (g >= 1)then ∃ h,YD 2 (Addr.add b 0) a (Yn h)/\(bif decide (h<=4611686018427387904)then ∃ f,Yg 83 (Addr.add b 1) a f/\YC Dh #[.agg f] a fun j m=>∃ d,j=.bool d/\c [.bool d] m else c [.bool false] a)else c [.bool false] a)) fun o n =>
 ∃ e,A2 o 0=.bool e/\K (.bool e) n
theorem Oz(g0:Array Value):Yz CQ #[.agg g0] (HS g0):=fun _ _ h=>Ac (A:=⟨[2],[(2,4)],[]⟩) Tryz.func135 h
def W7(z:YB)(n a0:Nat)(a4:World)(K:YA):Prop :=
 ∃ g v,Yq 293 a4 g v/\AS (fun a1 a5 w =>
 ∃ a,A2 a5 1=Yn a/\(bif decide (a<16)then
 AS (fun a2 l x =>
 ∃ c,A2 l 1=Yn c/\(bif decide (c<4)then
 ∃ i,A2 l 0=.int .u32 i/\a2 [.int .u32 (IntKind.u32.wrap (MX 32 (Int.fdiv i 2) (IntKind.u32.wrap (3988292384*(IntKind.u32.wrap (MW 32 i 1)))))),Yn (Yw (c+1))] x
 else
 ∃ j,A2 l 0=.int .u32 j/\∃ r,Yx 293 (.pointer (some g)) (Yn a) r/\∃ y,YE 230 r (.int .u32 j) x y/\a1 [.int .u32 j,Yn (Yw (a+1)),Yn c] y)) [.int .u32 (IntKind.u32.wrap a),Yn 0] w
 else
 AS (fun a3 m b =>
 ∃ d,A2 m 1=Yn d/\(bif decide (d<(n:Int))then
 ∃ s,Yx 57 (.slice z n a0) (Yn d) s/\∃ e,YD 5 s b (.int .u8 e)/\∃ f,A2 m 0=.int .u32 f/\∃ t,Al (Instr.indexAt 293 (.pointer (some g)) (.int .u32 (IntKind.u32.wrap (MW 32 (IntKind.u32.wrap (MX 32 f (IntKind.u32.wrap e))) 15)))) (.pointer (some t))/\∃ h,YD 230 t b (.int .u32 h)/\∃ u,Al (Instr.indexAt 293 (.pointer (some g)) (.int .u32 (IntKind.u32.wrap (MW 32 (IntKind.u32.wrap (MX 32 (Int.fdiv (IntKind.u32.wrap (MX 32 f (IntKind.u32.wrap e))) 16) h)) 15)))) (.pointer (some u))/\∃ o,YD 230 u b (.int .u32 o)/\a3 [.int .u32 (IntKind.u32.wrap (MX 32 (Int.fdiv (IntKind.u32.wrap (MX 32 (Int.fdiv (IntKind.u32.wrap (MX 32 f (IntKind.u32.wrap e))) 16) h)) 16) o)),Yn (Yw (d+1))] b
 else
 ∃ q,A2 m 0=.int .u32 q/\∃ p,Al (Op.unary .xor (.int .u32 q)) (.int .u32 p)/\K (.int .u32 p) b)) [.int .u32 4294967295,Yn 0] w)) [undef,Yn 0,undef] v
theorem lA(a0:YB)(l0 c0:Nat):Yz NG #[.slice a0 l0 c0] (W7 a0 l0 c0):=fun _ _ h=>Ac (A:=⟨[5,6,9,14,29],[(5,230),(6,230),(9,3),(14,3),(29,3)],[]⟩) Tryz.func136 h
def SG(g:YB)(a:Int)(b:World)(K:YA):Prop :=
 (bif Option.isNone g then
 K (.tuple #[.pointer none,Yn 2]) b
 else
 Ad (fun e=>(bif decide (a<1)then e [.bool true] b else e [.bool (decide (a > 4096))] b)) fun m i =>
 ∃ c,A2 m 0=.bool c/\(bif c then
 K (.tuple #[.pointer none,Yn 1]) i
 else
 ∃ f j,Ru (Instr.makeMap 294 none) i (.map f) j/\∃ d,Al (Instr.build 296 #[(0,.pointer g),(1,Yn a),(2,.map f)]) (.agg d)/\∃ h l,Yb 296 (.agg d) j h l/\K (.tuple #[.pointer (some h),Yn 0]) l))
theorem YT(p0:YB)(n1:Int):Yz MK #[.pointer p0,Yn n1] (SG p0 n1):=fun _ _ h=>Ac (A:=⟨[9],[(9,4)],[]⟩) Tryz.func137 h
def SW(e7:YB)(f1 e9:Nat)(g0:World)(K:YA):Prop :=
 ∃ b e4,Yb 57 (.slice e7 f1 e9) g0 b e4/\∃ a c,Yq 127 e4 a c/\∃(e8:YB)(d6 f0:Nat),YD 57 b c (.slice e8 d6 f0)/\(bif (d6:Int) != 256 then
 ∃ b2,Al (Instr.build 127 #[]) (.agg b2)/\∃ o,YE 127 a (.agg b2) c o/\∃ c1,Yg 127 a o c1/\K (.tuple #[.agg c1,Yn 4]) o
 else
 ∃(s:YB)(c7 a3:Nat),YD 57 b c (.slice s c7 a3)/\∃ t c8 a4,Al (Instr.sliceAt 57 (.slice s c7 a3) none (some (Yn 4)) none) (.slice t c8 a4)/\∃ e3:ByteArray,Ru (convert 57 9 (.slice t c8 a4)) c (.string e3) c/\(bif !((ByteArray.toList e3)==(ByteArray.toList (⟨#[76,86,69,69]⟩)))then
 ∃ b3,Al (Instr.build 127 #[]) (.agg b3)/\∃ p,YE 127 a (.agg b3) c p/\∃ c2,Yg 127 a p c2/\K (.tuple #[.agg c2,Yn 8]) p
 else
 ∃(u:YB)(c9 a5:Nat),YD 57 b (Af c) (.slice u c9 a5)/\∃ v d0 a6,Al (Instr.sliceAt 57 (.slice u c9 a5) (some (Yn 252)) none none) (.slice v d0 a6)/\∃(e:YB)(g f:Nat),YD 57 b (Af c) (.slice e g f)/\∃ w d1 a7,Al (Instr.sliceAt 57 (.slice e g f) none (some (Yn 252)) none) (.slice w d1 a7)/\YC AF #[.slice v d0 a6] (Af c) fun f2 e6=>∃ d7,f2=.int .u64 d7/\YD 57 b e6 (.slice e g f)/\YC NG #[.slice w d1 a7] e6 fun f3 q=>∃ d8,f3=.int .u32 d8/\(bif d7 != (IntKind.u64.wrap d8)then
 ∃ b4,Al (Instr.build 127 #[]) (.agg b4)/\∃ r,YE 127 a (.agg b4) q r/\∃ c3,Yg 127 a r c3/\K (.tuple #[.agg c3,Yn 7]) r
 else
 ∃(x:YB)(d2 a8:Nat),YD 57 b q (.slice x d2 a8)/\∃ y d3 a9,Al (Instr.sliceAt 57 (.slice x d2 a8) (some (Yn 4)) (some (Yn 12)) none) (.slice y d3 a9)/\YC AF #[.slice y d3 a9] q fun f4 g3=>∃ d9,f4=.int .u64 d9/\TH Yt (.func (.func DH) #[] #[.pointer (some b)]) #[Yn 12] g3 fun f5 g4=>∃ e0,f5=Yn e0/\TH Yt (.func (.func DH) #[] #[.pointer (some b)]) #[Yn 14] g4 fun f6 g1=>∃ e1,f6=Yn e1/\TH Yt (.func (.func DH) #[] #[.pointer (some b)]) #[Yn 16] g1 fun f7 g2=>∃ e2,f7=Yn e2/\∃ b5,Al (Instr.build 83 #[(0,Yn e0),(1,Yn e1),(2,Yn e2)]) (.agg b5)/\∃ b6,Al (Instr.build 127 #[(0,Yn (Yw d9)),(1,.agg b5)]) (.agg b6)/\∃ d e5,Yq 127 g2 d e5/\∃ h,YE 127 d (.agg b6) e5 h/\∃ b7,Yg 127 d h b7/\YC CQ #[.agg b7] h fun f8 i=>∃ a1,f8=.bool a1/\(bif !a1 then
 ∃ b8,Al (Instr.build 127 #[]) (.agg b8)/\∃ j,YE 127 a (.agg b8) i j/\∃ c4,Yg 127 a j c4/\K (.tuple #[.agg c4,Yn 1]) j
 else
 ∃(z:YB)(d4 b0:Nat),YD 57 b i (.slice z d4 b0)/\∃ a0 d5 b1,Al (Instr.sliceAt 57 (.slice z d4 b0) (some (Yn 18)) (some (Yn 252)) none) (.slice a0 d5 b1)/\YC CJ #[.slice a0 d5 b1] i fun f9 l=>∃ a2,f9=.bool a2/\(bif !a2 then
 ∃ b9,Al (Instr.build 127 #[]) (.agg b9)/\∃ m,YE 127 a (.agg b9) l m/\∃ c5,Yg 127 a m c5/\K (.tuple #[.agg c5,Yn 8]) m
 else
 ∃ c0,Yg 127 d l c0/\∃ n,YE 127 a (.agg c0) l n/\∃ c6,Yg 127 a n c6/\K (.tuple #[.agg c6,Yn 0]) n)))))
theorem Zj(a0:YB)(l0 c0:Nat):Yz JB #[.slice a0 l0 c0] (SW a0 l0 c0):=fun _ _ h=>Ac (A:=⟨[],[],[]⟩) Tryz.func138 h
def HR(d:Array Value)(e:World)(K:YA):Prop :=
 ∃ c a,Yb 127 (.agg d) e c a/\∃ b,YD 2 (Addr.add c 0) a (Yn b)/\K (Yn (Int.tmod b 2)) a
theorem Oy(g0:Array Value):Yz BU #[.agg g0] (HR g0):=fun _ _ h=>Ac (A:=⟨[],[],[]⟩) Tryz.func139 h
def ID(e:YB)(g:Int)(a:World)(K:YA):Prop :=
 (bif Option.isNone e then
 K (.tuple #[Yn 0,Yn 2]) a
 else
 ∃ f,(.pointer e:Value)=.pointer (some f)/\∃ b,Yg 83 (Addr.add (Addr.add f 0) 1) a b/\YC Ec #[.agg b,Yn g] a fun h i=>∃ c d,h=.tuple #[Yn c,Yn d]/\K (.tuple #[Yn c,Yn d]) i)
theorem Mz(p0:YB)(n1:Int):Yz Ed #[.pointer p0,Yn n1] (ID p0 n1):=fun _ _ h=>Ac (A:=⟨[],[],[]⟩) Tryz.func140 h
def SN(d0:Array Value)(d:YB)(c e:Nat)(d8:World)(K:YA):Prop :=
 ∃ g c5,Yb 83 (.agg d0) d8 g c5/\∃ a l,Yq 171 c5 a l/\∃ a3,Yg 83 g l a3/\YC Dh #[.agg a3] l fun d4 m=>∃ v,d4=.bool v/\(bif !v then
 ∃ a4,Al (Instr.build 171 #[]) (.agg a4)/\∃ n,YE 171 a (.agg a4) m n/\∃ b1,Yg 171 a n b1/\K (.tuple #[.agg b1,Yn 1]) n
 else
 (bif (c:Int) != 256 then
 ∃ a5,Al (Instr.build 171 #[]) (.agg a5)/\∃ o,YE 171 a (.agg a5) m o/\∃ b2,Yg 171 a o b2/\K (.tuple #[.agg b2,Yn 4]) o
 else
 ∃ p b6 x,Al (Instr.sliceAt 57 (.slice d c e) (some (Yn 4)) (some (Yn 6)) none) (.slice p b6 x)/\YC AF #[.slice p b6 x] m fun d5 e0=>∃ c2,d5=.int .u64 c2/\∃ a6,Al (Instr.build 171 #[(0,Yn (Yw c2))]) (.agg a6)/\∃ b c7,Yq 171 e0 b c7/\∃ c8,YE 171 b (.agg a6) c7 c8/\∃ q b7 y,Al (Instr.sliceAt 168 (.pointer (some (Addr.add b 1))) none none none) (.slice q b7 y)/\∃ r b8 z,Al (Instr.sliceAt 57 (.slice d c e) (some (Yn 16)) none none) (.slice r b8 z)/\∃ d1 c9,Ru (Builtin.copy_ #[57,57] 3 #[.slice q b7 y,.slice r b8 z]) (Af c8) (Yn d1) c9/\∃ s b9 a0,Al (Instr.sliceAt 169 (.pointer (some (Addr.add b 17))) none none none) (.slice s b9 a0)/\∃ t c0 a1,Al (Instr.sliceAt 57 (.slice d c e) (some (Yn 32)) none none) (.slice t c0 a1)/\∃ d2 f,Ru (Builtin.copy_ #[57,57] 3 #[.slice s b9 a0,.slice t c0 a1]) (Af c9) (Yn d2) f/\∃ a7,Yg 83 g f a7/\∃ a8,Yg 171 b f a8/\YC GX #[.agg a7,.agg a8] f fun d6 d9=>∃ u c1 a2 c3,d6=.tuple #[.slice u c1 a2,Yn c3]/\YC IG #[.slice d c e,.slice u c1 a2] d9 fun d7 c6=>∃ c4 d3,d7=.tuple #[Yn c4,Yn d3]/\Ad (fun b5=>(bif c3 != 0 then b5 [.bool true] c6 else b5 [.bool (decide (c4 >= 0))] c6)) fun e1 h =>
 ∃ w,A2 e1 0=.bool w/\(bif w then
 ∃ a9,Al (Instr.build 171 #[]) (.agg a9)/\∃ i,YE 171 a (.agg a9) h i/\∃ b3,Yg 171 a i b3/\K (.tuple #[.agg b3,Yn 8]) i
 else
 ∃ b0,Yg 171 b h b0/\∃ j,YE 171 a (.agg b0) h j/\∃ b4,Yg 171 a j b4/\K (.tuple #[.agg b4,Yn 0]) j)))
theorem Za(g0:Array Value)(a1:YB)(l1 c1:Nat):Yz MO #[.agg g0,.slice a1 l1 c1] (SN g0 a1 l1 c1):=fun _ _ h=>Ac (A:=⟨[53],[(53,4)],[]⟩) Tryz.func141 h
def Jk(w:YB)(u:Array Value)(a0:Value)(a1:World)(K:YA):Prop :=
 ∃ l q,Yb 50 (.pointer w) a1 l q/\∃ d r,Yb 69 (.agg u) q d r/\∃ m s,Ru (Instr.box 250 a0) r (.pointer (some m)) s/\∃ a t,Yq 250 s a t/\∃ e,YE 250 a (.func (.func CO) #[] #[.pointer (some m),.pointer (some l),.pointer (some a)]) t e/\∃ g,Yg 67 (Addr.add d 4) e g/\AS (fun v a4 c =>
 ∃ b,A2 a4 0=Yn b/\(bif decide (b<6)then
 ∃ h,Al (Instr.index 67 (.agg g) (Yn b)) (Yn h)/\∃ n:Value,YD 250 a c n/\TH Yt n #[Yn h,Yn 0,Yn b] c fun x a2=>x=.tuple #[]/\v [Yn (Yw (b+1))] a2
 else
 ∃ o:Value,YD 250 a c o/\∃ i,Yi (Addr.add d 10) c i/\TH Yt o #[Yn i,Yn 1,Yn 6] c fun y f=>y=.tuple #[]/\∃ p:Value,YD 250 a f p/\∃ j,Yi (Addr.add d 11) f j/\TH Yt p #[Yn j,Yn 2,Yn 70] f fun z a3=>z=.tuple #[]/\K (.tuple #[]) a3)) [Yn 0] e
theorem Qs(p0:YB)(g1:Array Value)(v2:Value):Yz FR #[.pointer p0,.agg g1,v2] (Jk p0 g1 v2):=fun _ _ h=>Ac (A:=⟨[12],[(12,3)],[]⟩) Tryz.func145 h
def HF(q:YB)(n:Int)(a0:World)(K:YA):Prop :=
 ∃ a c,Yq 112 a0 a c/\∃ t,(.pointer q:Value)=.pointer (some t)/\∃ r,Yp 34 (Addr.add t 0) c r/\YC AR #[.pointer r] c fun w a1=>∃ g,w=.agg g/\YC KX #[.agg g,Yn n] a1 fun x d=>∃ o b,x=.tuple #[Yn o,Yn b]/\(bif o != 4 then
 ∃ h,Al (Instr.build 112 #[]) (.agg h)/\∃ e,YE 112 a (.agg h) d e/\∃ l,Yg 112 a e l/\K (.tuple #[.agg l,.bool false]) e
 else
 ∃ u,(.pointer q:Value)=.pointer (some u)/\∃ s,Yp 34 (Addr.add u 0) d s/\YC AR #[.pointer s] d fun y a2=>∃ i,y=.agg i/\YC Ec #[.agg i,Yn b] a2 fun z a3=>∃ p v,z=.tuple #[Yn p,Yn v]/\∃ j,Al (Instr.build 112 #[(0,Yn b),(1,Yn (Yw (n-p)))]) (.agg j)/\∃ f,YE 112 a (.agg j) a3 f/\∃ m,Yg 112 a f m/\K (.tuple #[.agg m,.bool true]) f)
theorem Od(p0:YB)(n1:Int):Yz E6 #[.pointer p0,Yn n1] (HF p0 n1):=fun _ _ h=>Ac (A:=⟨[],[],[]⟩) Tryz.func148 h
def HG(j:YB)(v:Array Value)(t:Bool)(u:Bool)(w:Int)(a1:World)(K:YA):Prop :=
 ∃ b a,Yb 254 (.agg v) a1 b a/\(bif !t then
 K (Yn 3) a
 else
 Ad (fun h=>(bif !u then h [.bool true] (Af a)else ∃ p,(.pointer j:Value)=.pointer (some p)/\∃ l,Yp 34 (Addr.add p 0) (Af a) l/\∃ d,Yg 254 b (Af a) d/\YC Gc #[.pointer l] (Af a) fun x r=>∃ m,x=.pointer m/\YD 254 b r (.agg d)/\YC FY #[.pointer m,.agg d] r fun y a2=>∃ g,y=.bool g/\h [.bool g] a2)) fun a4 c =>
 ∃ f,A2 a4 0=.bool f/\(bif f then
 K (Yn 6) c
 else
 ∃ q,(.pointer j:Value)=.pointer (some q)/\∃ n,Yp 34 (Addr.add q 0) (Af c) n/\∃ e,Yg 254 b (Af c) e/\YC Gc #[.pointer n] (Af c) fun z s=>∃ o,z=.pointer o/\YD 254 b s (.agg e)/\YC FX #[.pointer o,Yn w,.agg e] s fun a0 a3=>∃ i,a0=Yn i/\K (Yn i) a3))
theorem Oe(p0:YB)(g1:Array Value)(b2:Bool)(b3:Bool)(n4:Int):Yz By #[.pointer p0,.agg g1,.bool b2,.bool b3,Yn n4] (HG p0 g1 b2 b3 n4):=fun _ _ h=>Ac (A:=⟨[14],[(14,4)],[]⟩) Tryz.func149 h
def Uq(c:YB)(h f:Nat)(a:Int)(n:World)(K:YA):Prop :=
 Ad (fun g=>YC KT #[.slice c h f,Yn a] (Af n) fun m b=>∃ e,m=.bool e/\(bif e then ∃ l,Yx 57 (.slice c h f) (Yn (Yw (Int.tdiv a 8))) l/\∃ i,YD 5 l b (.int .u8 i)/\∃ j,Al (G9 .shl 5 (.const (.int .u8 1)) (.tmp 15) (.int .u8 1) (Yn (Int.tmod a 8))) (.int .u8 j)/\g [.bool ((IntKind.u8.wrap (MW 8 i j)) != 0)] b else g [.bool false] b)) fun p o =>
 ∃ d,A2 p 0=.bool d/\K (.bool d) o
theorem cP(a0:YB)(l0 c0:Nat)(n1:Int):Yz Fd #[.slice a0 l0 c0,Yn n1] (Uq a0 l0 c0 n1):=fun _ _ h=>Ac (A:=⟨[4],[(4,4)],[]⟩) Tryz.func151 h
def GQ(a7:Value)(a1:Value)(z:Addr)(a8:Value)(d:World)(K:YA):Prop :=
 ∃ x,Ru (Instr.loadAt 61 a1) d (.pointer x) d/\∃ y,(.pointer x:Value)=.pointer (some y)/\∃ v,Yp 34 (Addr.add y 0) d v/\YC AR #[.pointer v] d fun a5 a9=>∃ n,a5=.agg n/\∃ g,Al (Instr.field 83 (.agg n) 2) (Yn g)/\AS (fun a4 b1 b =>
 ∃ c,A2 b1 1=Yn c/\(bif decide (c<g)then
 ∃ s,Yi (Addr.add z 0) b s/\∃ h,Al (G9 .rem 3 (.tmp 22) (.tmp 23) (Yn (Yw (s+c))) (Yn g)) (Yn h)/\Ad (fun o=>(bif c==0 then ∃ j,Ru (Instr.loadAt 4 a8) b (.bool j) b/\o [.bool j] b else o [.bool false] b)) fun b2 i =>
 ∃ e,A2 b2 0=.bool e/\Ad (fun p=>(bif e then
 ∃ t,Yi (Addr.add z 1) i t/\p [Yn (Yw (t+1))] i
 else
 p [Yn 0] i)) fun a3 a =>
 Ad (fun q=>∃ w,Ru (Instr.loadAt 61 a1) a (.pointer w) a/\∃ a0,(.pointer w:Value)=.pointer (some a0)/\∃ r,YD 122 (Addr.add a0 1) a (.map r)/\∃ l,Ru (Instr.lookup 122 (.map r) (Yn h) false) a (.bool l) a/\(bif !l then ∃ u,A2 a3 0=Yn u/\TH Yt a7 #[Yn h,Yn u] a fun a6 b0=>∃ m,a6=.bool m/\q [.bool (!m)] b0 else q [.bool false] a)) fun b3 a2 =>
 ∃ f,A2 b3 0=.bool f/\(bif f then
 K (.tuple #[]) a2
 else
 a4 [A2 a3 0,Yn (Yw (c+1)),.bool e,.bool f] a2)
 else
 K (.tuple #[]) b)) [undef,Yn 0,undef,undef] a9
theorem Mr(v0:Value)(v1:Value)(q2:Addr)(v3:Value):Yz C0 #[v0,v1,.pointer (some q2),v3] (GQ v0 v1 q2 v3):=fun _ _ h=>Ac (A:=⟨[8,16,29,46],[(8,3),(16,3),(29,4),(46,4)],[]⟩) Tryz.func152 h
def OG(d7:Array Value)(d8:Array Value)(e6:World)(K:YA):Prop :=
 ∃ f d2,Yb 83 (.agg d7) e6 f d2/\∃ a i,Yb 171 (.agg d8) d2 a i/\∃ a1,Yg 83 f i a1/\∃ b5,Yi (Addr.add a 0) i b5/\YC GN #[.agg a1,Yn b5] i fun e1 f1=>∃ a2 b6,e1=.tuple #[.agg a2,Yn b6]/\∃ g d4,Yq 171 f1 g d4/\∃ j,YE 171 g (.agg a2) d4 j/\(bif b6 != 0 then
 K (.bool false) j
 else
 ∃ b7,Yi (Addr.add a 0) j b7/\∃ a3,Al (Instr.build 171 #[(0,Yn b7)]) (.agg a3)/\∃ e d5,Yq 171 j e d5/\∃ o,YE 171 e (.agg a3) d5 o/\∃ a4,Yg 168 (Addr.add a 1) o a4/\AS (fun d9 f2 l =>
 ∃ c,A2 f2 0=Yn c/\(bif decide (c<16)then
 ∃ b8,Al (Instr.index 168 (.agg a4) (Yn c)) (.int .u8 b8)/\∃ c8,Yx 168 (.pointer (some (Addr.add g 1))) (Yn c) c8/\∃ b9,YD 5 c8 l (.int .u8 b9)/\∃ c9,Yx 168 (.pointer (some (Addr.add e 1))) (Yn c) c9/\∃ d6,YE 5 c9 (.int .u8 (IntKind.u8.wrap (UH 8 b8 b9))) l d6/\d9 [Yn (Yw (c+1))] d6
 else
 ∃ a5,Yg 169 (Addr.add a 17) l a5/\AS (fun e0 f3 h =>
 ∃ d,A2 f3 0=Yn d/\(bif decide (d<8)then
 ∃ c0,Al (Instr.index 169 (.agg a5) (Yn d)) (.int .u8 c0)/\∃ d0,Yx 169 (.pointer (some (Addr.add g 17))) (Yn d) d0/\∃ c1,YD 5 d0 h (.int .u8 c1)/\∃ d1,Yx 169 (.pointer (some (Addr.add e 17))) (Yn d) d1/\∃ d3,YE 5 d1 (.int .u8 (IntKind.u8.wrap (UH 8 c0 c1))) h d3/\e0 [Yn (Yw (d+1))] d3
 else
 Ad (fun b0=>∃ p b1 x,Al (Instr.sliceAt 168 (.pointer (some (Addr.add a 1))) none none none) (.slice p b1 x)/\∃ c2,Yi (Addr.add f 0) (Af h) c2/\∃ q b2 y,Al (Instr.sliceAt 168 (.pointer (some (Addr.add a 1))) none none none) (.slice q b2 y)/\YC C2 #[.slice p b1 x,Yn c2] (Af h) fun e2 e7=>∃ c3,e2=Yn c3/\YC C2 #[.slice q b2 y,Yn 128] e7 fun e3 n=>∃ c4,e3=Yn c4/\(bif c3==c4 then ∃ r b3 z,Al (Instr.sliceAt 169 (.pointer (some (Addr.add a 17))) none none none) (.slice r b3 z)/\∃ c5,Yi (Addr.add f 1) n c5/\∃ s b4 a0,Al (Instr.sliceAt 169 (.pointer (some (Addr.add a 17))) none none none) (.slice s b4 a0)/\YC C2 #[.slice r b3 z,Yn c5] n fun e4 e8=>∃ c6,e4=Yn c6/\YC C2 #[.slice s b4 a0,Yn 64] e8 fun e5 e9=>∃ c7,e5=Yn c7/\b0 [.bool (c6==c7)] e9 else b0 [.bool false] n)) fun f4 b =>
 Ad (fun m=>∃ a6,Yg 168 (Addr.add e 1) b a6/\∃ a7,Yg 168 (Addr.add a 1) b a7/\∃ v,Al (G9 .eql 168 (.tmp 78) (.tmp 80) (.agg a6) (.agg a7)) (.bool v)/\(bif v then ∃ a8,Yg 169 (Addr.add e 17) b a8/\∃ a9,Yg 169 (Addr.add a 17) b a9/\∃ w,Al (G9 .eql 169 (.tmp 84) (.tmp 86) (.agg a8) (.agg a9)) (.bool w)/\(bif w then ∃ t,A2 f4 0=.bool t/\m [.bool t] b else m [.bool false] b)else m [.bool false] b)) fun f5 f0 =>
 ∃ u,A2 f5 0=.bool u/\K (.bool u) f0)) [Yn 0] l)) [Yn 0] o)
theorem Wg(g0:Array Value)(g1:Array Value):Yz CI #[.agg g0,.agg g1] (OG g0 g1):=fun _ _ h=>Ac (A:=⟨[4,12,27,43],[(4,4),(12,4),(27,3),(43,3)],[]⟩) Tryz.func153 h
def Q7(c:YB)(g e:Nat)(o:Int)(r:World)(K:YA):Prop :=
 YC MJ #[.slice c g e,Yn o] r fun q s=>∃ j,q=Yn j/\AS (fun n b l =>
 ∃ a,A2 b 1=Yn a/\(bif decide (a<j)then
 YC Fd #[.slice c g e,Yn a] l fun p m=>∃ d,p=.bool d/\Ad (fun f=>(bif d then
 ∃ h,A2 b 0=Yn h/\f [Yn (Yw (h+1))] m
 else
 f [A2 b 0] m)) fun u t =>
 n [A2 u 0,Yn (Yw (a+1))] t
 else
 ∃ i,A2 b 0=Yn i/\K (Yn i) l)) [Yn 0,Yn 0] s
theorem X6(a0:YB)(l0 c0:Nat)(n1:Int):Yz C2 #[.slice a0 l0 c0,Yn n1] (Q7 a0 l0 c0 n1):=fun _ _ h=>Ac (A:=⟨[5,10],[(5,3),(10,3)],[]⟩) Tryz.func154 h
def Jz(c:YB)(r:Int)(a3:Array Value)(a1:YB)(a4 a2:Nat)(a8:World)(K:YA):Prop :=
 ∃ d a0,Yb 171 (.agg a3) a8 d a0/\YC Ed #[.pointer c,Yn r] a0 fun a5 a=>∃ s b,a5=.tuple #[Yn s,Yn b]/\(bif b != 0 then
 K (.tuple #[Yn 0,Yn b]) a
 else
 ∃ y,(.pointer c:Value)=.pointer (some y)/\∃ m,Yg 83 (Addr.add (Addr.add y 0) 1) (Af a) m/\∃ n,Yg 171 d (Af a) n/\YC GX #[.agg m,.agg n] (Af a) fun a6 e=>∃ g p j t,a6=.tuple #[.slice g p j,Yn t]/\Ad (fun o=>(bif t != 0 then o [.bool true] e else ∃ u,Yi (Addr.add d 0) e u/\o [.bool (u != r)] e)) fun b0 f =>
 ∃ i,A2 b0 0=.bool i/\(bif i then
 K (.tuple #[Yn 0,Yn 1]) f
 else
 ∃ z,(.pointer c:Value)=.pointer (some z)/\∃ x,Yp 128 (Addr.add z 4) (Af f) x/\∃ h q l,Al (Instr.sliceAt 57 (.slice g p j) none (some (Yn 64)) none) (.slice h q l)/\YC Bz #[.pointer x,Yn s,Yn 0,.slice h q l,.slice a1 a4 a2] (Af f) fun a7 a9=>∃ v w,a7=.tuple #[Yn v,Yn w]/\K (.tuple #[Yn v,Yn w]) a9))
theorem Q6(p0:YB)(n1:Int)(g2:Array Value)(a3:YB)(l3 c3:Nat):Yz CD #[.pointer p0,Yn n1,.agg g2,.slice a3 l3 c3] (Jz p0 n1 g2 a3 l3 c3):=fun _ _ h=>Ac (A:=⟨[39],[(39,4)],[]⟩) Tryz.func155 h
def Q8(f:YB)(o i:Nat)(p:Int)(d:Int)(t:World)(K:YA):Prop :=
 Ad (fun j=>(bif decide (d<0)then j [.bool true] t else j [.bool (decide (d > p))] t)) fun a3 u =>
 ∃ g,A2 a3 0=.bool g/\Ad (fun l=>(bif g then
 l [Yn 0] u
 else
 l [Yn d] u)) fun a4 z =>
 YC MJ #[.slice f o i,Yn p] z fun x a0=>∃ q,x=Yn q/\AS (fun w c v =>
 ∃ a,A2 c 1=Yn a/\(bif decide (a<q)then
 Ad (fun m=>YC Fd #[.slice f o i,Yn a] v fun y b=>∃ h,y=.bool h/\(bif h then
 m [A2 c 0] b
 else
 ∃ r,A2 a4 0=Yn r/\(bif decide (a >= r)then
 K (Yn a) b
 else
 ∃ e,A2 c 0=Yn e/\Ad (fun n=>(bif decide (e<0)then
 n [Yn a] b
 else
 n [Yn e] b)) fun a6 a1 =>
 m [A2 a6 0] a1))) fun a5 a2 =>
 w [A2 a5 0,Yn (Yw (a+1))] a2
 else
 ∃ s,A2 c 0=Yn s/\K (Yn s) v)) [Yn ((-1)),Yn 0] a0
theorem X7(a0:YB)(l0 c0:Nat)(n1:Int)(n2:Int):Yz Ia #[.slice a0 l0 c0,Yn n1,Yn n2] (Q8 a0 l0 c0 n1 n2):=fun _ _ h=>Ac (A:=⟨[2,8,16,21],[(2,3),(8,3),(16,4),(21,3)],[]⟩) Tryz.func156 h
def SP(n:Array Value)(o:Array Value)(h:Int)(p:Int)(q:Int)(s:World)(K:YA):Prop :=
 ∃ i l,Yb 83 (.agg n) s i l/\∃ j a,Yb 171 (.agg o) l j a/\∃ e,Yg 83 i a e/\∃ f,Yg 171 j a f/\YC CI #[.agg e,.agg f] a fun r b=>∃ c,r=.bool c/\(bif !c then
 K (Yn 1) b
 else
 Ad (fun g=>(bif decide (h<p)then g [.bool true] b else g [.bool (decide (h >= q))] b)) fun t m =>
 ∃ d,A2 t 0=.bool d/\(bif d then
 K (Yn 3) m
 else
 K (Yn 0) m))
theorem Zc(g0:Array Value)(g1:Array Value)(n2:Int)(n3:Int)(n4:Int):Yz J4 #[.agg g0,.agg g1,Yn n2,Yn n3,Yn n4] (SP g0 g1 n2 n3 n4):=fun _ _ h=>Ac (A:=⟨[16],[(16,4)],[]⟩) Tryz.func157 h
def SQ(a:YB)(c b:Nat)(i:Int)(f:Bool)(q:World)(K:YA):Prop :=
 YC Fd #[.slice a c b,Yn i] q fun o j=>∃ e,o=.bool e/\(bif e==f then
 K (Yn 6) j
 else
 YC P6 #[.slice a c b,Yn i,.bool f] j fun p r=>∃ d h g m,p=.tuple #[.slice d h g,Yn m]/\∃ n l,Ru (Builtin.copy_ #[57,57] 3 #[.slice a c b,.slice d h g]) r (Yn n) l/\K (Yn 0) l)
theorem Zd(a0:YB)(l0 c0:Nat)(n1:Int)(b2:Bool):Yz J5 #[.slice a0 l0 c0,Yn n1,.bool b2] (SQ a0 l0 c0 n1 b2):=fun _ _ h=>Ac (A:=⟨[],[],[]⟩) Tryz.func158 h
def SJ(s:Array Value)(c:Int)(x:World)(K:YA):Prop :=
 ∃ a f,Yb 83 (.agg s) x a f/\∃ i,Yg 83 a f i/\YC Dh #[.agg i] f fun u d=>∃ g,u=.bool g/\(bif !g then
 K (.tuple #[Yn 0,Yn 0,Yn 1]) d
 else
 Ad (fun m=>(bif decide (c<0)then m [.bool true] d else ∃ j,Yg 83 a d j/\YC GV #[.agg j] d fun v y=>∃ n,v=Yn n/\m [.bool (decide (c >= n))] y)) fun a0 b =>
 ∃ h,A2 a0 0=.bool h/\(bif h then
 K (.tuple #[Yn 0,Yn 0,Yn 3]) b
 else
 ∃ o,Yi (Addr.add a 1) b o/\∃ e,Al (G9 .rem 3 (.tmp 23) (.tmp 25) (Yn c) (Yn o)) (Yn e)/\∃ l,Yg 83 a (Af b) l/\∃ p,Yi (Addr.add a 1) (Af b) p/\∃ q,Al (G9 .quo 3 (.tmp 29) (.tmp 31) (Yn c) (Yn p)) (Yn q)/\YC Ec #[.agg l,Yn q] (Af b) fun w z=>∃ r t,w=.tuple #[Yn r,Yn t]/\K (.tuple #[Yn (Yw ((Yw (r+1))+(Yw (Int.tdiv e 4)))),Yn (Int.tmod e 4),Yn 0]) z))
theorem YW(g0:Array Value)(n1:Int):Yz MN #[.agg g0,Yn n1] (SJ g0 n1):=fun _ _ h=>Ac (A:=⟨[14],[(14,4)],[]⟩) Tryz.func159 h
def OH(a6:Array Value)(b2:World)(K:YA):Prop :=
 ∃ b m,Yb 69 (.agg a6) b2 b m/\∃ w,Yg 69 b m w/\YC J7 #[.agg w] m fun b1 b5=>∃ x,b1=.agg x/\AS (fun a7 e a =>
 ∃ f,A2 e 1=Yn f/\(bif decide (f<8)then
 ∃ j,Al (Instr.index 54 (.agg x) (Yn f)) (Yn j)/\Ad (fun y=>(bif decide (j<0)then y [.bool true] a else y [.bool (decide (j >= 4096))] a)) fun b7 a3 =>
 ∃ h,A2 b7 0=.bool h/\(bif h then
 K (.bool false) a3
 else
 a7 [A2 e 0,Yn (Yw (f+1)),.bool h] a3)
 else
 ∃ c,Yi (Addr.add b 0) a c/\Ad (fun a8=>Ad (fun z=>(bif c==0 then
 ∃ r,Al (Instr.build 69 #[]) (.agg r)/\∃ l a4,Yq 69 a l a4/\∃ g,YE 69 l (.agg r) a4 g/\∃ s,Yg 69 b g s/\∃ t,Yg 69 l g t/\∃ o,Al (G9 .eql 69 (.tmp 29) (.tmp 30) (.agg s) (.agg t)) (.bool o)/\K (.bool o) g
 else
 (bif c==2 then
 ∃ a0,YD 2 (Addr.add b 2) a (Yn a0)/\(bif (Int.tmod a0 256) != 0 then
 K (.bool false) a
 else
 z [A2 e 0] a)
 else
 (bif c==1 then
 z [A2 e 0] a
 else
 (bif c==3 then
 Ad (fun i=>∃ v,Yg 69 b a v/\YC GO #[.agg v] a fun b0 d=>∃ q,b0=.bool q/\(bif q then ∃ a1,YD 2 (Addr.add b 2) d (Yn a1)/\(bif decide (a1 >= 1)then ∃ a2,YD 2 (Addr.add b 2) d (Yn a2)/\i [.bool (decide (a2<=255))] d else i [.bool false] d)else i [.bool false] d)) fun b8 b6 =>
 ∃ n,A2 b8 0=.bool n/\K (.bool n) b6
 else
 a8 [A2 e 0] a))))) fun c0 a5 =>
 ∃ u,Yg 69 b a5 u/\YC GO #[.agg u] a5 fun a9 b3=>∃ p,a9=.bool p/\K (.bool p) b3) fun b9 b4 =>
 K (.bool false) b4)) [.bool false,Yn 0,undef] b5
theorem Wh(g0:Array Value):Yz Cc #[.agg g0] (OH g0):=fun _ _ h=>Ac (A:=⟨[2,8,16],[(2,4),(8,3),(16,4)],[]⟩) Tryz.func160 h
def SU(x:Array Value)(z:World)(K:YA):Prop :=
 ∃ b t,Yb 69 (.agg x) z b t/\∃ d u,Yq 54 t d u/\∃ a v,Yq 54 u a v/\∃ g n i,Al (Instr.sliceAt 54 (.pointer (some a)) none none none) (.slice g n i)/\∃ h o j,Al (Instr.sliceAt 67 (.pointer (some (Addr.add b 4))) none none none) (.slice h o j)/\∃ y c,Ru (Builtin.copy_ #[176,176] 3 #[.slice g n i,.slice h o j]) (Af v) (Yn y) c/\∃ q,Yi (Addr.add b 10) c q/\∃ p,Yi (Addr.add b 11) c p/\∃ r,Yx 54 (.pointer (some a)) (Yn 6) r/\∃ w,YE 3 r (Yn q) c w/\∃ s,Yx 54 (.pointer (some a)) (Yn 7) s/\∃ e,YE 3 s (Yn p) w e/\∃ l,Yg 54 a e l/\∃ f,YE 54 d (.agg l) e f/\∃ m,Yg 54 d f m/\K (.agg m) f
theorem Zh(g0:Array Value):Yz J7 #[.agg g0] (SU g0):=fun _ _ h=>Ac (A:=⟨[],[],[]⟩) Tryz.func161 h
def HZ(b:YB)(d c:Nat)(f:Value)(g:World)(K:YA):Prop :=
 YC BE #[.slice b d c,f] g fun e h=>∃ a,e=Yn a/\K (.bool (decide (a >= 0))) h
theorem HY(a0:YB)(l0 c0:Nat)(v1:Value):Yz BX #[.slice a0 l0 c0,v1] (HZ a0 l0 c0 v1):=fun _ _ h=>Ac (A:=⟨[],[],[]⟩) Tryz.func162 h
def Mn(d:Int)(f:Value)(a:World)(K:YA):Prop :=
 ∃ c,Ru (Instr.loadAt 128 f) a (.pointer c) a/\YC CP #[.pointer c,Yn d] a fun e g=>∃ b,e=.bool b/\K (.bool (!b)) g
theorem Ml(n0:Int)(v1:Value):Yz Ct #[Yn n0,v1] (Mn n0 v1):=fun _ _ h=>Ac (A:=⟨[],[],[]⟩) Tryz.func163 h
def HP(g:YB)(d:Int)(a:World)(K:YA):Prop :=
 Ad (fun c=>(bif decide (d >= 1)then ∃ f,(.pointer g:Value)=.pointer (some f)/\∃ e,YD 2 (Addr.add f 2) a (Yn e)/\c [.bool (decide (d<=e))] a else c [.bool false] a)) fun i h =>
 ∃ b,A2 i 0=.bool b/\K (.bool b) h
theorem Ov(p0:YB)(n1:Int):Yz CP #[.pointer p0,Yn n1] (HP p0 n1):=fun _ _ h=>Ac (A:=⟨[4],[(4,4)],[]⟩) Tryz.func164 h
def Iu(l:YB)(j:Int)(s:World)(K:YA):Prop :=
 YC DS #[.pointer l,Yn j,.slice none 0 0,.slice none 0 0] s fun p o=>∃ a,p=Yn a/\(bif a != 0 then
 K (.tuple #[.slice none 0 0,Yn a]) o
 else
 YC DR #[.pointer l,Yn j] o fun q c=>∃ m b,q=.tuple #[.pointer m,Yn b]/\(bif b != 0 then
 K (.tuple #[.slice none 0 0,Yn b]) c
 else
 ∃ n,(.pointer m:Value)=.pointer (some n)/\∃(d:YB)(h f:Nat),YD 57 (Addr.add (Addr.add n 0) 0) c (.slice d h f)/\YC BT #[.slice d h f] c fun r t=>∃ e i g,r=.slice e i g/\K (.tuple #[.slice e i g,Yn 0]) t))
theorem Ij(p0:YB)(n1:Int):Yz Dr #[.pointer p0,Yn n1] (Iu p0 n1):=fun _ _ h=>Ac (A:=⟨[],[],[]⟩) Tryz.func165 h
def Jb(j:YB)(i:Int)(m:World)(K:YA):Prop :=
 YC Fe #[.pointer j,Yn i] m fun l c=>∃ b a,l=.tuple #[.pointer b,Yn a]/\Ad (fun d=>(bif a==0 then
 ∃ f,(.pointer b:Value)=.pointer (some f)/\∃ e,Yi (Addr.add f 1) c e/\∃ g,(.pointer b:Value)=.pointer (some g)/\∃ h,YE 3 (Addr.add g 1) (Yn (Yw (e+1))) c h/\d [] h
 else
 d [] c)) fun o n =>
 K (Yn a) n
theorem Qj(p0:YB)(n1:Int):Yz DQ #[.pointer p0,Yn n1] (Jb p0 n1):=fun _ _ h=>Ac (A:=⟨[],[],[]⟩) Tryz.func166 h
def W5(e:YB)(c h:Nat)(m:Int)(r:YB)(j s:Nat)(w:World)(K:YA):Prop :=
 YC L0 #[.slice e c h,Yn m,Yn ((j:Int))] w fun v n=>∃ g,v=.bool g/\(bif !g then
 K (.tuple #[.slice none 0 0,Yn 3]) n
 else
 ∃ a d b o,Ru (Instr.makeSlice 57 (Yn ((c:Int))) (Yn ((c:Int)))) n (.slice a d b) o/\∃ t p,Ru (Builtin.copy_ #[57,57] 3 #[.slice a d b,.slice e c h]) o (Yn t) p/\∃ f l i,Al (Instr.sliceAt 57 (.slice a d b) (some (Yn m)) none none) (.slice f l i)/\∃ u q,Ru (Builtin.copy_ #[57,57] 3 #[.slice f l i,.slice r j s]) p (Yn u) q/\K (.tuple #[.slice a d b,Yn 0]) q)
theorem kY(a0:YB)(l0 c0:Nat)(n1:Int)(a2:YB)(l2 c2:Nat):Yz NF #[.slice a0 l0 c0,Yn n1,.slice a2 l2 c2] (W5 a0 l0 c0 n1 a2 l2 c2):=fun _ _ h=>Ac (A:=⟨[],[],[]⟩) Tryz.func167 h
def Ja(o:YB)(n:Int)(d:YB)(l g:Nat)(y:World)(K:YA):Prop :=
 ∃ c j f r,Ru (Instr.buildSlice 176 1 #[(0,Yn 256)]) y (.slice c j f) r/\YC DS #[.pointer o,Yn n,.slice d l g,.slice c j f] r fun v s=>∃ a,v=Yn a/\(bif a != 0 then
 K (Yn a) s
 else
 YC DR #[.pointer o,Yn n] s fun w t=>∃ p b,w=.tuple #[.pointer p,Yn b]/\Ad (fun i=>(bif b==0 then
 YC BT #[.slice d l g] t fun x z=>∃ e m h,x=.slice e m h/\∃ q,(.pointer p:Value)=.pointer (some q)/\∃ u,YE 57 (Addr.add (Addr.add q 0) 0) (.slice e m h) z u/\i [] u
 else
 i [] t)) fun a1 a0 =>
 K (Yn b) a0)
theorem Qi(p0:YB)(n1:Int)(a2:YB)(l2 c2:Nat):Yz FN #[.pointer p0,Yn n1,.slice a2 l2 c2] (Ja p0 n1 a2 l2 c2):=fun _ _ h=>Ac (A:=⟨[],[],[]⟩) Tryz.func168 h
def HQ(a:YB)(h e:Nat)(l:World)(K:YA):Prop :=
 ∃ d,Al (G9 .eql 57 (.tmp 3) (.const (.slice none 0 0)) (.slice a h e) (.slice none 0 0)) (.bool d)/\(bif d then
 K (.slice none 0 0) l
 else
 ∃ b i f m,Ru (Instr.buildSlice 57 0 #[]) l (.slice b i f) m/\∃ c j g n,Ru (Builtin.append_ #[57,57] 57 #[.slice b i f,.slice a h e]) m (.slice c j g) n/\K (.slice c j g) n)
theorem Ox(a0:YB)(l0 c0:Nat):Yz BT #[.slice a0 l0 c0] (HQ a0 l0 c0):=fun _ _ h=>Ac (A:=⟨[],[],[]⟩) Tryz.func169 h
def ED(h:YB)(d i:Nat)(m:Value)(n:World)(K:YA):Prop :=
 AS (fun j o b =>
 ∃ a,A2 o 0=Yn a/\(bif decide (a<(d:Int))then
 ∃ f,Yx 75 (.slice h d i) (Yn a) f/\∃ e,YD 2 f b (Yn e)/\TH Yt m #[Yn e] b fun l g=>∃ c,l=.bool c/\(bif c then
 K (Yn a) g
 else
 j [Yn (Yw (a+1))] g)
 else
 K (Yn ((-1))) b)) [Yn 0] n
theorem JT(a0:YB)(l0 c0:Nat)(v1:Value):Yz BE #[.slice a0 l0 c0,v1] (ED a0 l0 c0 v1):=fun _ _ h=>Ac (A:=⟨[8],[(8,3)],[]⟩) Tryz.func170 h
def HE(c:YB)(x:Int)(s:World)(K:YA):Prop :=
 (bif Option.isNone c then
 K (.tuple #[Yn 0,Yn 0,Yn 2]) s
 else
 YC E6 #[.pointer c,Yn x] s fun z a4=>∃ i h,z=.tuple #[.agg i,.bool h]/\∃ a t,Yq 112 a4 a t/\∃ g,YE 112 a (.agg i) t g/\∃ d,Yg 112 a (Af g) d/\YC IE #[] (Af g) fun a0 u=>∃ j,a0=.agg j/\YD 112 a u (.agg d)/\YC Dq #[.pointer c,.agg d,.bool h,.agg j] u fun a1 a5=>∃ l n e,a1=.tuple #[.agg l,Yn n,Yn e]/\∃ b,YE 112 a (.agg l) a5 b/\(bif e != 0 then
 K (.tuple #[Yn 0,Yn 0,Yn e]) b
 else
 ∃ r,(.pointer c:Value)=.pointer (some r)/\∃ q,Yp 34 (Addr.add r 0) (Af b) q/\∃ f,Yi (Addr.add a 0) (Af b) f/\YC AR #[.pointer q] (Af b) fun a2 v=>∃ m,a2=.agg m/\YD 3 (Addr.add a 0) v (Yn f)/\YC Ec #[.agg m,Yn f] v fun a3 w=>∃ o y,a3=.tuple #[Yn o,Yn y]/\∃ p,Yi (Addr.add a 1) w p/\K (.tuple #[Yn (Yw (o+p)),Yn n,Yn 0]) w))
theorem Oc(p0:YB)(n1:Int):Yz E5 #[.pointer p0,Yn n1] (HE p0 n1):=fun _ _ h=>Ac (A:=⟨[],[],[]⟩) Tryz.func172 h
def MI(d:YB)(g:Int)(a:World)(K:YA):Prop :=
 (bif Option.isNone d then
 K (Yn 2) a
 else
 ∃ e,(.pointer d:Value)=.pointer (some e)/\∃ b,Yg 83 (Addr.add (Addr.add e 0) 1) a b/\YC KX #[.agg b,Yn g] a fun i f=>∃ c h,i=.tuple #[Yn c,Yn h]/\(bif c != 4 then
 K (Yn 3) f
 else
 K (Yn 0) f))
theorem Uo(p0:YB)(n1:Int):Yz Gd #[.pointer p0,Yn n1] (MI p0 n1):=fun _ _ h=>Ac (A:=⟨[],[],[]⟩) Tryz.func174 h
def SV(h:YB)(f i:Nat)(d:Int)(a:World)(K:YA):Prop :=
 (bif (f:Int) != 256 then
 K (Yn 4) a
 else
 Ad (fun c=>(bif decide (d<0)then c [.bool true] a else c [.bool (decide (d >= 4))] a)) fun g e =>
 ∃ b,A2 g 0=.bool b/\(bif b then
 K (Yn 3) e
 else
 K (Yn 0) e))
theorem Zi(a0:YB)(l0 c0:Nat)(n1:Int):Yz J8 #[.slice a0 l0 c0,Yn n1] (SV a0 l0 c0 n1):=fun _ _ h=>Ac (A:=⟨[9],[(9,4)],[]⟩) Tryz.func175 h
end Go.Z
end
