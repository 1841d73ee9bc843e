/- Parts of the proof, in order: what the statement leans on. -/
import Derived.Test.YtbeejkncceejgaaGreatBe
open Go.Proofs Go.Proofs.YtbeejkncceejgaaGreat
section
open Go Go.Den Go.Proofs
namespace Go.Z
def eV(e:Dt):List Value:=[Yn e.s,.bool e.lv,.string (sB e.nm)]
theorem EC(e:Dt):∀ v∈eV e,v.oneCell'=true:=by
 intro v hv;simp only[eV,Lv,List.not_mem_nil,or_false]at hv;rcases hv with rfl | rfl | rfl<;>rfl
theorem AK:D5 Yt 143=some 3:=by kernel_rfl
theorem CH:Hs Yt 143=some (eV RI):=by kernel_rfl
theorem G7:Al (Instr.build 143 #[]) (.agg ⟨eV RI⟩):=fun w=>by kernel_rfl
theorem lT(s:Int)(b:Bool)(x:ByteArray):Al (Instr.build 143 #[(0,Yn s),(1,.bool b),(2,.string x)]) (.agg ⟨[Yn s,.bool b,.string x]⟩):=fun w=>by kernel_rfl
theorem NV:Cw Yt 9=true:=by kernel_rfl
theorem eeq(s t:Dt){o1 o2:Operand}:Al (G9 .eql 143 o1 o2 (.agg ⟨eV s⟩) (.agg ⟨eV t⟩)) (.bool (decide (s=t))):=fun w=>by
 have hc:∀ s:Dt,F4 [.i .i64,.b,.s] (eV s):=fun s=>⟨rfl,fun j k v hk hv=>by
  match j with
  | 0=>cases hk;cases hv;rfl
  | 1=>cases hk;cases hv;trivial
  | 2=>cases hk;cases hv;trivial
  | j+3=>cases hk⟩
 obtain⟨b,hb,h1,_⟩:=Rd (P:=Yt) (T:=143) (ks:=[.i .i64,.b,.s]) (by kernel_rfl) (by kernel_rfl) AK (o1:=o1) (o2:=o2) (hc s) (hc t) w;rw[h1];have:b=decide (s=t):=by
  rw[RH,hb,cH];constructor
  ·intro e;obtain⟨a,b,c⟩:=s;obtain⟨a',b',c'⟩:=t;simp only[eV,List.cons.injEq,Value.int.injEq,Value.bool.injEq,Value.string.injEq,Ac5,true_and,and_true]at e;obtain⟨rfl,rfl,rfl⟩:=e;rfl
  ·intro e;rw[e]
 rw[this]
section
variable{w:World}{K:Value->World->Prop}
theorem kC{e:Dt}(hx:e.nm.length<=9223372036854775807)(hk:∀ w',Ab No w w'->K (.bool (Mo e)) w'):A7 Yt CU #[.agg ⟨eV e⟩] w K:=by
 apply Uh;unfold MD;obtain⟨w1,a1,a2,a3,a4⟩:=AB (P:=Yt) (w:=w) (T:=143) (cs:=eV e);obtain⟨w2,b1,b2,b3,b4⟩:=Aw (P:=Yt) (w:=w1) (T:=143) CH;obtain⟨w3,c1,c2,c3,c4⟩:=b2.put (T:=143) (vs:=eV RI) AK rfl rfl (EC _);have m3:Ab No w1 w3:=b3.own c3 (Le _);have q3:=a2.keep m3 id;have M3:=a3.no m3;refine⟨_,w1,a1,_,G7,_,w2,b1,w3,c1,Ad.cut (fun z w5=>Ab No w3 w5/\z=[.bool (Mo e)]) ⟨_,q3.at.all AK rfl,_,c2.at.all AK rfl,_,eeq e RI,Aa (fun h=>⟨Ab.refl _ _,?_⟩) (fun h=>⟨e.s,q3.at.fld (j:=0) (v:=Yn e.s) Ah rfl,Aa (fun h1=>⟨e.s,q3.at.fld (j:=0) (v:=Yn e.s) Ah rfl,Aa (fun h2=>⟨sB e.nm,q3.at.fld (j:=2) (v:=.string (sB e.nm)) NV rfl,XY hx fun w4 m4=>⟨_,rfl,m4,?_⟩⟩) (fun h2=>⟨Ab.refl _ _,?_⟩)⟩) (fun h1=>⟨Ab.refl _ _,?_⟩)⟩)⟩ ?_⟩
 ·unfold Mo;rw[h];rfl
 ·have h1:=Ld h1;have h2:=Ld h2;unfold Mo;rw[h,Li (show 1<=e.s/\e.s<=1023 from⟨h1,h2⟩)];rfl
 ·have h2:=Lc h2;unfold Mo;rw[h,Lh (show ¬ (1<=e.s/\e.s<=1023)from fun x=>h2 x.2)];rfl
 ·have h1:=Lc h1;unfold Mo;rw[h,Lh (show ¬ (1<=e.s/\e.s<=1023)from fun x=>h1 x.1)];rfl
 ·rintro z w5 ⟨m5,rfl⟩;exact⟨_,rfl,hk w5 (M3.no m5)⟩
set_option maxRecDepth 4000 in
theorem eO{e:Dt}(hx:e.nm.length<=9223372036854775807)(h1:Mo e=false->∀ w',Ab No w w'->K (.tuple #[.slice none 0 0,Yn 1]) w')
  (h2:Mo e=true->∀ w' q,Ab No w w'->w.heap.size<=q->Av w' q 0 (A6 (YQ e))->K (.tuple #[.slice (some ⟨q,0,none⟩) 32 32,Yn 0]) w'):A7 Yt Ib #[.agg ⟨eV e⟩] w K:=by
 apply X9;unfold QA;obtain⟨w1,a1,a2,a3,a4⟩:=AB (P:=Yt) (w:=w) (T:=143) (cs:=eV e);refine⟨_,w1,a1,_,a2.at.all AK rfl,kC hx fun w2 m2=>⟨_,rfl,Aa (fun h=>h1 (by simpa using h) _ (a3.no m2)) (fun h=>?_)⟩⟩;have ho:Mo e=true:=by simpa using h
 obtain⟨s0,s1,hn⟩:=Ya ho;obtain⟨w3,c1,c2,c3,c4⟩:=Vp (w:=w2) (n:=32) (by omega);have hne:¬ (w.heap.size=w2.heap.size):=by have:=m2.size;omega
 have q3:=(a2.keep m2 id).keep c3 id;refine⟨_,_,_,w3,c1,_,_,_,NX Aj (by omega) (by omega),_,q3.drew.at.fld (j:=0) (v:=Yn e.s) Ah rfl,?_⟩;rw[Ge (by omega)];refine V5 (m:=2) (i:=0) (n:=32) (pre:=[]) c2.drew rfl (by omega) rfl s0 (by omega) (by omega) fun w4 m4 z4 d4=>⟨rfl,e.lv,(q3.drew.keep m4 (fun e=>hne e)).at.fld (j:=1) (v:=.bool e.lv) AbH rfl,?_⟩;have q4:=q3.drew.keep m4 (fun e=>hne e)
 have M4:Ab No w2 w4:=c3.drew.own m4 (Le _);have d4:Av w4 w2.heap.size 0 (A6 (AG 2 e.s.toNat++List.replicate 30 0)):=d4;refine Ad.cut (fun z w6=>z=[]/\Ab (fun x=>x=w2.heap.size) w4 w6/\Av w6 w2.heap.size 0 (A6 ((AG 2 e.s.toNat++[if e.lv=true then 1 else 0])++List.replicate 29 0))) (Aa (fun h=>⟨_,A8 Aj (by omega) (by omega),?_⟩) (fun h=>⟨rfl,Ab.refl _ _,?_⟩)) ?_
 ·obtain⟨w5,e1,e2,e3,e4⟩:=d4.store (P:=Yt) (T:=5) (i:=2) (v:=.int .u8 ((1:Nat):Int)) JR (by simp) rfl;rw[LN _ _ _ (by omega),Le2 _ _ (by simp),AL]at e2;rw[Ae];refine⟨w5,e1,rfl,e3,?_⟩;rw[if_pos h,VV];exact e2
 ·rw[if_neg (by rw[h];decide),VV];exact d4
 rintro z w6 ⟨rfl,m6,d6⟩;have q6:=q4.keep m6 (fun e=>hne e);have el:IntKind.u8.wrap (ByteArray.size (sB e.nm):Int)=((e.nm.length:Nat):Int):=by rw[NC,kG];omega
 obtain⟨w7,e1,e2,e3,e4⟩:=d6.store (P:=Yt) (T:=5) (i:=3) (v:=.int .u8 ((e.nm.length:Nat):Int)) JR (by simp) rfl;have l3:(AG 2 e.s.toNat++[if e.lv=true then(1:UInt8)else 0]).length=3:=by simp
 rw[LN _ _ _ (by omega),Le2 _ _ (by omega),l3]at e2;have e2:Av w7 w2.heap.size 0 (A6 ((AG 2 e.s.toNat++[if e.lv=true then 1 else 0])++([UInt8.ofNat e.nm.length]++List.replicate 28 0))):=e2;rw[<- VV]at e2;have q7:=q6.keep e3 (fun e=>hne e);refine⟨sB e.nm,q6.at.fld (j:=2) (v:=.string (sB e.nm)) NV rfl,_,A8 Aj (by omega) (by omega),w7,?_,_,_,_,Gq Aj (by omega) (by omega),sB e.nm,q7.drew.at.fld (j:=2) (v:=.string (sB e.nm)) NV rfl,?_⟩
 ·rw[Ae,el];exact e1
 rw[Ge (by omega)];obtain⟨w8,f1,f2,f3,f4⟩:=UK (w:=Go.Den.Af w7) (T:=57) (S:=9) (ty:=3) (i:=4) (n:=28) (c:=28) (xs:=e.nm) Aj e2.drew (by simp) (by omega);rw[zs (by simp) (by omega)]at f2;refine⟨_,w8,f1,h2 ho w8 _ (a3.no (m2.no ?_)) (QK (by omega) m2.size) f2⟩;exact((M4.own m6 (Le _)).own e3 (Le _)).drew.own f3 (Le _)
theorem AaZ{a:Option Addr}{c i:Nat}(hi:i<8)(hc:256<=c)(hk:K (.tuple #[.slice (CL a c (i*32) 1) 32 (c-i*32),Yn 0]) w):A7 Yt J1 #[.slice a 256 c,Yn (i:Int)] w K:=by
 apply YU;unfold SH;refine ff rfl (Ad.dup (ff (Lh (by omega)) ⟨_,rfl,ff (Lh (by omega)) ?_⟩));rw[Ag (x:=(i:Int)*32) (by omega) (by omega),Ag (x:=(i:Int)+1) (by omega) (by omega),Ag (x:=((i:Int)+1)*32) (by omega) (by omega)];refine⟨_,_,_,BH Aj (by omega) (by omega) (by omega),?_⟩;have e1:((i:Int)*32).toNat=i*32:=by omega
 have e2:(((i:Int)+1)*32).toNat-i*32=32:=by omega
 rw[e1,e2];exact hk
set_option maxRecDepth 8000 in
theorem AcF{a : Option Addr}{c : Nat}{xs : List UInt8}(hl : xs.length = 32)(hc : 32 ≤ c)(hr : BG w a (A6 xs))
    (hk : ∀ w', Ab No w w' → K (.tuple #[.agg ⟨eV (H8 xs).1⟩, Yn (H8 xs).2]) w') : A7 Yt KU #[.slice a 32 c] w K := by
  apply X8;unfold Q9;obtain⟨w1, b1, b2, b3, b4⟩ := Aw (P := Yt) (w := w) (T := 143) CH;have fin : ∀(w' : World)(i : Dt)(e : Int), Ab No w1 w' → (i, e) = H8 xs → ∃ w3 : World, Gr (Instr.storeAt 143 (Yo w.heap.size) (.agg ⟨eV i⟩)) w' w3 ∧ ∃ gR2 : Array Value, Ru (Instr.loadAt 143 (Yo w.heap.size)) w3 (.agg gR2) w3 ∧ K (.tuple #[.agg gR2, Yn e]) w3 := fun w' i e m he => by
    obtain⟨w3, c1, c2, c3, c4⟩ := (b2.keep m id).put (T := 143) (vs := eV i) AK rfl rfl (EC _);refine⟨w3, c1, _, c2.at.all AK rfl, ?_⟩
    have := hk w3 ((b3.no m).own c3 (Le _))
    rw[← he]at this;exact this
  refine⟨_, w1, b1, ff rfl ?_⟩;have hr1 := hr.nos b3;have h00 : 0 < xs.length := by omega
  obtain⟨bb, oo, rfl, _⟩ := PV hr h00;have at0 : ∀{w' : World}, Ab No w1 w' → At w' bb oo (A6 xs) := fun m => by
    obtain⟨b', o', e, h⟩ := PV (hr1.nos m) h00;cases e;exact h
  have ex2 : (xs.getD 2 0) = xs[2]'(by omega) := by rw[Lp, XM (by omega : 2 < xs.length)];rfl
  have ex3 : (xs.getD 3 0) = xs[3]'(by omega) := by rw[Lp, XM (by omega : 3 < xs.length)];rfl
  have l2 : ∀{w' : World}, Ab No w1 w' → Ru (Instr.loadAt 5 (.pointer (some (Addr.add ⟨bb, oo, none⟩ ((2 : Int).toNat * 1))))) w' (.int .u8 ((xs.getD 2 0).toNat : Int)) w' := fun m => by
    rw[Ae, ex2];exact(at0 m).load (i := 2) JR (CR (by omega))
  have l3 : ∀{w' : World}, Ab No w1 w' → Ru (Instr.loadAt 5 (.pointer (some (Addr.add ⟨bb, oo, none⟩ ((3 : Int).toNat * 1))))) w' (.int .u8 ((xs.getD 3 0).toNat : Int)) w' := fun m => by
    rw[Ae, ex3];exact(at0 m).load (i := 3) JR (CR (by omega))
  have u3 := (xs.getD 3 0).toNat_lt;have hG : H8 xs = if 1 < (xs.getD 2 0).toNat ∨ 28 < (xs.getD 3 0).toNat ∨ TN (xs.drop (4 + (xs.getD 3 0).toNat)) = false then(RI, 8)else if Mo (KG xs) = true then(KG xs, 0)else(RI, 8) := by unfold H8;rw[if_neg (by omega)]
  generalize hn3 : (xs.getD 3 0).toNat = n at *;have en : Yw (4 + (Yw (n : Int))) = ((4 + n : Nat) : Int) := by rw[Ag (x := (n : Int)) (by omega) (by omega), Ag (by omega) (by omega)];omega
  refine⟨_, A8 Aj (by omega) (by omega), (n : Int), l3 (Ab.refl _ _), ?_⟩;rw[en];refine Ad.cut (fun z w4 => w4 = w1 ∧ z = [.bool (decide (1 < (xs.getD 2 0).toNat ∨ 28 < n ∨ TN (xs.drop (4 + n)) = false))]) ⟨_, A8 Aj (by omega) (by omega), _, l2 (Ab.refl _ _), Aa (fun h => ⟨rfl, ?_⟩) (fun h => Aa (fun h' => ⟨rfl, ?_⟩) (fun h' => ?_))⟩ ?_
  · have h := Ld h
    rw[Li (Or.inl (by omega))]
  · have h' := Ld h'
    rw[Li (Or.inr (Or.inl (by omega)))]
  · have h := Lc h
    have h' := Lc h';refine⟨_, _, _, Gq Aj (by omega) (by omega), ?_⟩;have et : (xs.drop (4 + n)).take (32 - (4 + n)) = xs.drop (4 + n) := Lf (by simp;omega);rw[show((4 + n : Nat) : Int).toNat = 4 + n by omega];refine TU (xs := (xs.drop (4 + n)).take (32 - (4 + n))) (by simp;omega) (hr1.cut (by omega) (by omega)) (by omega) ⟨_, rfl, rfl, ?_⟩
    rw[et];show [Value.bool (!TN (xs.drop (4 + n)))] = _;have : (!TN (xs.drop (4 + n))) = decide (1 < (xs.getD 2 0).toNat ∨ 28 < n ∨ TN (xs.drop (4 + n)) = false) := by
      cases hz : TN (xs.drop (4 + n))with
      | true => rw[Lh];rfl;rintro(e | e | e);omega;omega;cases e
      | false => rw[Li (Or.inr (Or.inr rfl))];rfl
    rw[this]
  rintro z w4 ⟨rfl, rfl⟩;refine⟨_, rfl, Aa (fun h => ⟨_, G7, ?_⟩) (fun h => ?_)⟩
  · have h := Ld h
    exact fin w4 RI 8 (Ab.refl _ _) (by rw[hG, if_pos h])
  have h := Lc h;rw[if_neg h]at hG;have hn : n ≤ 28 := by
    have : ¬ 28 < n := fun e => h (.inr (.inl e));omega
  have md : Ab No w4 (Go.Den.Af w4) := (Ab.refl No w4).drew;have cv : ∀{w' : World}, Ab No w4 w' → Ru (convert 57 9 (.slice (CL (some ⟨bb, oo, none⟩) c (4 : Int).toNat 1) (((4 + n : Nat) : Int).toNat - (4 : Int).toNat) (c - (4 : Int).toNat))) w' (.string (sB ((xs.drop 4).take n))) w' := fun m => by
    have := kP (P := Yt) (S := 57) (T := 9) (a := CL (some ⟨bb, oo, none⟩) c 4 1) (l := n) (c := c - 4) (xs := (xs.drop 4).take n) jT ((hr1.nos m).cut (by omega) (by omega)) (by simp;omega)
    rw[show((4 + n : Nat) : Int).toNat - (4 : Int).toNat = n by omega];exact this
  have gt : ∀{w' : World}{Q : Value → World → Prop}, Ab No w4 w' → Q (.int .u64 (D6 (xs.take 2) : Int)) w' → A7 Yt AF #[.slice (CL (some ⟨bb, oo, none⟩) c 0 1) (2 : Int).toNat c] w' Q := fun m hq => sM (i := 0) (m := 2) hl hc (hr1.nos m) (by omega) (by omega) rfl hq;have lt2 : D6 (xs.take 2) < 256 ^ 2 := by have := JK (xs := xs) (i := 0) (m := 2) (by omega);exact this
  have bN : Al (Instr.build 143 #[(0, Yn (Yw (D6 (xs.take 2) : Int))), (1, .bool (((xs.getD 2 0).toNat : Int) == 1)), (2, .string (sB ((xs.drop 4).take n)))]) (.agg ⟨eV (KG xs)⟩) := by
    have := lT (Yw (D6 (xs.take 2) : Int)) (((xs.getD 2 0).toNat : Int) == 1) (sB ((xs.drop 4).take n))
    rw[Ag (by omega) (by omega)]at this ⊢;have e2 : (((xs.getD 2 0).toNat : Int) == 1) = (xs.getD 2 0 == 1) := (qX _ 1).trans (by rw[RH, RV, pO]);rw[e2]at this ⊢;have e3 : KG xs = ⟨D6 (xs.take 2), xs.getD 2 0 == 1, (xs.drop 4).take n⟩ := by unfold KG;rw[hn3]
    rw[e3];exact this
  have hx : (KG xs).nm.length ≤ 9223372036854775807 := by
    unfold KG;simp;omega
  have tail : ∀(w8 : World)(q : Nat), Ab No w4 w8 → Av w8 q 0 (eV (KG xs)) →
      ∃ g46 : Array Value, Ru (Instr.loadAt 143 (Yo q)) w8 (.agg g46) w8 ∧ A7 Yt CU #[.agg g46] w8 fun r47 w9 => ∃ b47 : Bool, r47 = .bool b47 ∧ (bif !b47 then
       ∃ g49 : Array Value, Al (Instr.build 143 #[]) (.agg g49) ∧ ∃ w10 : World, Gr (Instr.storeAt 143 (Yo w.heap.size) (.agg g49)) w9 w10 ∧ ∃ gR2_3 : Array Value, Ru (Instr.loadAt 143 (Yo w.heap.size)) w10 (.agg gR2_3) w10 ∧ K (.tuple #[.agg gR2_3, Yn 8]) w10
       else
       ∃ g50 : Array Value, Ru (Instr.loadAt 143 (Yo q)) w9 (.agg g50) w9 ∧ ∃ w11 : World, Gr (Instr.storeAt 143 (Yo w.heap.size) (.agg g50)) w9 w11 ∧ ∃ gR2_4 : Array Value, Ru (Instr.loadAt 143 (Yo w.heap.size)) w11 (.agg gR2_4) w11 ∧ K (.tuple #[.agg gR2_4, Yn 0]) w11) := by
    intro w8 q m8 hat;refine⟨_, hat.at.all AK rfl, kC hx fun w9 m9 => ⟨_, rfl, Aa (fun h => ⟨_, G7, fin w9 RI 8 (m8.no m9) ?_⟩) (fun h => ⟨_, (hat.keep m9 id).at.all AK rfl, fin w9 (KG xs) 0 (m8.no m9) ?_⟩)⟩⟩
    · rw[hG, if_neg (by simpa using h)]
    · rw[hG, if_pos (by simpa using h)]
  refine⟨_, _, _, NX Aj (by omega) (by omega), _, A8 Aj (by omega) (by omega), _, l2 md, _, _, _, BH Aj (by omega) (by omega) (by omega), sB ((xs.drop 4).take n), cv md, ?_, ?_⟩
  · refine gt md ⟨_, rfl, l2 md, cv md, _, bN, ?_⟩
    obtain⟨w7, e1, e2, e3, e4⟩ := Aw (P := Yt) (w := Go.Den.Af w4) (T := 143) CH;have m7 := md.no e3;obtain⟨w8, f1, f2, f3, f4⟩ := e2.put (T := 143) (vs := eV (KG xs)) AK rfl rfl (EC _);exact⟨_, w7, e1, l2 m7, cv m7, w8, f1, tail w8 _ (md.no (e3.own f3 (Le _))) f2⟩
  · obtain⟨w7, e1, e2, e3, e4⟩ := Aw (P := Yt) (w := Go.Den.Af w4) (T := 143) CH
    have m7 := md.no e3;obtain⟨w8, f1, f2, f3, f4⟩ := e2.put (T := 143) (vs := eV (KG xs)) AK rfl rfl (EC _);exact⟨_, w7, e1, l2 m7, cv m7, gt m7 ⟨_, rfl, l2 m7, cv m7, _, bN, w8, f1, tail w8 _ (md.no (e3.own f3 (Le _))) f2⟩⟩
theorem iS{a:Option Addr}{c i:Nat}{xs:List UInt8}(hl:xs.length=256)(hc:256<=c)(hi:i<8)(hr:BG w a (A6 xs))
  (hk:∀ w',Ab No w w'->K (.tuple #[.agg ⟨eV (H8 (Gf xs i)).1⟩,Yn (H8 (Gf xs i)).2]) w'):A7 Yt GM #[.slice a 256 c,Yn (i:Int)] w K:=by
 apply Wb;unfold OD;obtain⟨w1,b1,b2,b3,b4⟩:=Aw (P:=Yt) (w:=w) (T:=143) CH;refine⟨_,w1,b1,AaZ hi hc ⟨_,_,_,_,rfl,ff rfl ?_⟩⟩;have hr1:=hr.nos b3;refine AcF (xs:=Gf xs i) (by unfold Gf;simp;omega) (by omega) (hr1.cut (by omega) (by omega)) fun w4 m4=>⟨_,_,rfl,?_⟩;obtain⟨w5,c1,c2,c3,c4⟩:=(b2.keep m4 id).put (T:=143) (vs:=eV (H8 (Gf xs i)).1) AK rfl rfl (EC _)
 exact⟨w5,c1,_,c2.at.all AK rfl,hk w5 ((b3.no m4).own c3 (Le _))⟩
theorem xP{a:Option Addr}{c:Nat}{xs:List UInt8}(hl:xs.length=256)(hc:256<=c)(hr:BG w a (A6 xs))(hk:K (Yn (match IO xs 8 with | some i=>(i:Int) | none=>-1)) w):A7 Yt JX #[.slice a 256 c] w K:=by
 apply Wd;unfold OE;have st:∀ n j,IO xs n=some j->∀ m,n<=m->IO xs m=some j:=fun n j h m hm=>by
  induction m with
  | zero=>rw[show n=0 by omega]at h;exact h
  | succ m ih =>
   by_cases e:n=m+1
   ·rw[<- e];exact h
   ·unfold IO;rw[ih (by omega)]
 refine⟨fun x w2=>∃(i:Nat)(y:Value),i<=8/\x=[Yn i,y]/\IO xs i=none/\w2=w,fun x _=>(8-nI x 0).toNat,⟨0,_,by omega,rfl,rfl,rfl⟩,?_⟩;rintro x w2 ⟨i,y,hi,rfl,hz,rfl⟩;refine⟨_,rfl,Aa (fun hb=>?_) (fun hb=>?_)⟩
 ·have hb:=Ld hb;refine AaZ (by omega) hc ⟨_,_,_,_,rfl,Ad.dup (tt rfl ?_)⟩;refine TU (xs:=Gf xs i) (by unfold Gf;simp;omega) (hr.cut (by omega) (by omega)) (by omega) ⟨_,rfl,_,rfl,Aa (fun h=>?_) (fun h=>?_)⟩
  ·have e:IO xs (i+1)=some i:=by unfold IO;rw[hz];show(if TN (Gf xs i)=true then some i else none)=_;rw[if_pos (show TN (Gf xs i)=true from h)]
   rw[st _ _ e 8 (by omega)]at hk;exact hk
  ·have e:IO xs (i+1)=none:=by unfold IO;rw[hz];show(if TN (Gf xs i)=true then some i else none)=_;rw[if_neg (by rw[show TN (Gf xs i)=false from h];decide)]
   rw[Ag (x:=(i:Int)+1) (by omega) (by omega)];exact⟨⟨i+1,_,by omega,rfl,e,rfl⟩,by simp[nI,A2];omega⟩
 ·have hb:=Lc hb;have:i=8:=by omega
  subst this;rw[hz]at hk;exact hk
end
def Itr(f:FuncId)(lb:Array Value)(N:Nat)(C:(Nat->Prop)->World->Prop)(Mv:(Nat->Prop)->World->(Nat->Prop)->World->Prop)(Sk:Nat->Prop)(Ar:Nat->List Value->(Nat->Prop)->World->Prop):Prop :=
 ∀(l:Nat)(w:World)(R:Nat->Prop)(K:Value->World->Prop)(J:Nat->(Nat->Prop)->World->Prop) (E:World->Prop),J 0 R w->(∀ i R W,J i R W->C R W) ->
  (∀ i R W R' W',J i R W->Mv R W R' W'->J i R' W')->(∀ i R W,i<N->Sk i->J i R W->J (i+1) R W) ->
  (∀ i xs R W K,i<N->Ar i xs R W->J i R W->(∀ R' W',J (i+1) R' W'->K (.bool true) W')->(∀ W',E W'->K (.bool false) W')->Yld Yt l ⟨xs⟩ W K) ->
  (∀ W,(∃ R,J N R W)\/E W->K (.tuple #[]) W)->A7 Yt f (#[.func (.yield l) #[] #[]]++lb) w K
theorem V7{f:FuncId}{lb:Array Value}{N n:Nat}{C:(Nat->Prop)->World->Prop}{Mv:(Nat->Prop)->World->(Nat->Prop)->World->Prop}{Sk:Nat->Prop}{Ar:Nat->List Value->(Nat->Prop)->World->Prop}(hi:Itr f lb N C Mv Sk Ar)
  {w:World} {m:Nat} (hm:w.heap.size=m) {rnd:List Value->((World->Prop)->World->Prop)->(Option Code->World->Prop)->World->Prop} {Kn:World->Prop} {X:Nat->World->Prop} {Kr:World->Prop} (R:Nat->Prop) (I:Nat->(Nat->Prop)->World->Prop) (E:World->Prop) (h0:I 0 R w)
  (hC:∀ i R W,I i R W->m+2<=W.heap.size->C R W) (hMv:∀ i R W R' W',I i R W->m+2<=W.heap.size->Mv R W R' W'->I i R' W'/\∃ S,Ab S W W'/\¬ S m/\¬ S (m+1))
  (hst:∀ i R W W',I i R W->Ab (fun x=>x=m\/x=m+1) W W'->I i R W') (hE:∀ W W',E W->Ab (fun x=>x=m\/x=m+1) W W'->E W')
  (hs:∀ i R W,i<N->Sk i->I i R W->I (i+1) R W) (hn:∀ i xs R W,Ar i xs R W->xs.length=n)
  (hr:∀ i xs R W (bgn:(World->Prop)->World->Prop) (fin:Option Code->World->Prop) (dd lo lb:Obj),i<N->Ar i xs R W->I i R W->m+2<=W.heap.size->W.heap[m]?=some dd->W.heap[m+1]?=some lo ->
   (∀ k W1,W1.heap[m]?=some dd->W1.heap[m+1]?=some lo->(∀ W',Ab (fun x=>x=m\/x=m+1) W1 W'->W'.heap.size=W1.heap.size->W'.heap[m]?=some dd->W'.heap[m+1]?=some lb->k W')->bgn k W1) ->
   (∀ W1,W1.heap[m]?=some dd->W1.heap[m+1]?=some lb->m+2<=W1.heap.size->(∃ R',I (i+1) R' W1)->fin none W1) ->
   (∀ W1,W1.heap[m]?=some dd->W1.heap[m+1]?=some lb->m+2<=W1.heap.size->E W1->fin (some .ret) W1)->rnd xs bgn fin W)
  (hK:∀ R W,I N R W->m+2<=W.heap.size->W.heap[m]?=some (.deferred (some []))->Kn W) (hR:∀ W,E W->m+2<=W.heap.size->W.heap[m]?=some (.deferred (some []))->Kr W) :
  L5 Yt (.func (.func f) #[] lb) n w rnd (XR Kn X Kr):=by
 subst hm;intro r0 hs' hp hy;obtain⟨hd0,hl0,mW,sW⟩:((w.alloc (.deferred (some []))).alloc (.loop r0)).heap[w.heap.size]?=some (.deferred (some []))/\((w.alloc (.deferred (some []))).alloc (.loop r0)).heap[w.heap.size+1]?=some (.loop r0)/\Ab No w ((w.alloc (.deferred (some []))).alloc (.loop r0))/\((w.alloc (.deferred (some []))).alloc (.loop r0)).heap.size=w.heap.size+2:=by
  refine⟨?_,?_,((Ab.refl No w).alloc _).alloc _,by simp⟩
  ·rw[Rl (by simp)];exact BV _ _
  ·have:=BV (w.alloc (.deferred (some []))) (.loop r0)
   rw[World.size_alloc]at this;exact this
 generalize (w.alloc (.deferred (some []))).alloc (.loop r0)=W2 at *;have er:({ r0 with state:=LoopState.ready,pending:=none }:Loop)=r0:=by cases r0;simp only at hs' hp;subst hs';subst hp;rfl
 have up:∀{W W':World},Ab (fun x=>x=w.heap.size+1) W W'->Ab (fun x=>x=w.heap.size\/x=w.heap.size+1) W W':=fun h=>h.mono fun _ _ e=>.inr e;have ne:∀{q:Nat},q=w.heap.size->¬ (fun x=>x=w.heap.size+1) q:=fun e e'=>by have e':_=w.heap.size+1:=e';omega
 refine hi (w.heap.size+1) W2 R _ (fun i R W=>I i R W/\w.heap.size+2<=W.heap.size/\W.heap[w.heap.size]?=some (.deferred (some []))/\W.heap[w.heap.size+1]?=some (.loop r0)) (fun W=>E W/\w.heap.size+2<=W.heap.size/\W.heap[w.heap.size]?=some (.deferred (some []))/\W.heap[w.heap.size+1]?=some (.loop { r0 with state:=.done,pending:=some .ret }))
  ⟨hst _ _ _ _ h0 (mW.mono fun _ _ e=>e.elim),by omega,hd0,hl0⟩ (fun i R W h=>hC i R W h.1 h.2.1) (fun i R W R' W' ⟨j1,j2,j3,j4⟩ hm=>?_) (fun i R W hi' hs2 ⟨j1,j2,j3,j4⟩=>⟨hs i R W hi' hs2 j1,j2,j3,j4⟩) (fun i xs R W K' hi' hA ⟨j1,j2,j3,j4⟩ hT hF=>?_) (fun W hW=>?_)
 ·obtain⟨k1,S,k2,k3,k4⟩:=hMv i R W R' W' j1 j2 hm;exact⟨k1,QK j2 k2.size,k2.keep j3 k3,k2.keep j4 k4⟩
 ·refine hy xs W K' (hn i xs R W hA) j4 (hr i xs R W _ _ _ _ (.loop { r0 with state:=.busy }) hi' hA j1 j2 j3 j4 (fun k W1 h1 h2 h3=>⟨h2,?_⟩) (fun W1 h1 h2 hz ⟨R',h3⟩=>⟨h2,?_⟩) (fun W1 h1 h2 hz h3=>⟨h2,?_⟩))
  ·exact h3 _ (up (Ab.putObj W1 _ _)) (by simp) ((Ab.putObj W1 _ _).keep h1 (ne rfl)) (FB h2)
  ·show K' (.bool true) (W1.putObj (w.heap.size+1) (.loop { r0 with state:=LoopState.ready,pending:=none }));rw[er];exact hT R' _ ⟨hst _ _ _ _ h3 (up (Ab.putObj W1 _ _)),QK hz (Ab.putObj W1 _ _).size,(Ab.putObj W1 _ _).keep h1 (ne rfl),FB h2⟩
  ·exact hF _ ⟨hE _ _ h3 (up (Ab.putObj W1 _ _)),QK hz (Ab.putObj W1 _ _).size,(Ab.putObj W1 _ _).keep h1 (ne rfl),FB h2⟩
 ·rcases hW with ⟨R',j1,j2,j3,j4⟩|⟨j1,j2,j3,j4⟩
  ·refine⟨.ready,none,by rw[er];exact j4,by simp,?_⟩;exact hK R' _ (hst _ _ _ _ j1 (up (Ab.putObj W _ _))) (QK j2 (Ab.putObj W _ _).size) ((Ab.putObj W _ _).keep j3 (ne rfl))
  ·refine⟨.done,some .ret,j4,by simp,?_⟩;exact hR _ (hE _ _ j1 (up (Ab.putObj W _ _))) (QK j2 (Ab.putObj W _ _).size) ((Ab.putObj W _ _).keep j3 (ne rfl))
theorem oF:Cw Yt 57=true:=by kernel_rfl
theorem Ow.appG0{base k bytes l c:Nat}{T ty:TypeId}{a:Option Addr}{xs:List Value}{w:World}(hT:MZ Yt T k bytes)(h:Ow Yt w base T k a l c xs):(Builtin.append_ #[T,T] ty #[.slice a l c,.slice none 0 0]).run Yt w=.ok (.slice a l c) w:=by
 obtain⟨e,i,zv,he,hi,_⟩:=hT;obtain⟨e',he',how⟩:=h;exact run_append_owned_none w base T ty e' i k he' (by rw[he]at he';cases he';exact hi) _ l xs how
def eL(l:List (Dt×Nat)):List Value:=(l.map fun x=>eV x.1).flatten
def pL(l:List (Dt×Nat)):List Value:=l.map fun x=>Yn (x.2:Int)
section
variable{w:World}{K:Value->World->Prop}
theorem eK{a:Option Addr}{c:Nat}(hk:∀ w',Ab No w w'->w'.heap.size=w.heap.size+1->Av w' w.heap.size 0 [.slice a 256 c]->K (.func (.func Ds) #[] #[Yo w.heap.size]) w'):A7 Yt Gz #[.slice a 256 c] w K:=by
 apply RK;unfold Kp;obtain⟨w1,a1,a2,a3,a4⟩:=Md (P:=Yt) (w:=w) (T:=57) (v:=.slice a 256 c) rfl;exact⟨_,w1,a1,hk w1 a3 a4 a2⟩
theorem AcI{q c:Nat}{a:Option Addr}{xs:List UInt8}(hl:xs.length=256)(hc:256<=c) :
  Itr Ds #[Yo q] 8 (fun _ W=>Av W q 0 [.slice a 256 c]/\BG W a (A6 xs)) (fun R W R' W'=>R'=R/\Ab No W W') (fun i=>OQ xs i=none) (fun i ys _ _=>∃ e,OQ xs i=some e/\ys=[Yn (i:Int),.agg ⟨eV e⟩]):=by
 intro l w R K J E h0 hC hMv hSk hst hk;refine Pj _ _ w K ?_;unfold Iy;refine⟨fun x W=>∃(i:Nat)(y:Value)(R':Nat->Prop),x=[Yn i,y]/\i<=8/\J i R' W,fun x _=>(8-nI x 0).toNat,⟨0,_,R,rfl,qE _,h0⟩,?_⟩;rintro x W ⟨i,y,R',rfl,hi,hJ⟩;obtain⟨hq,hr⟩:=hC _ _ _ hJ;refine⟨_,rfl,Aa (fun hb=>?_) (fun hb=>hk W (.inl ⟨R',?_⟩))⟩
 ·have hb:=Ld hb;have hi8:i<8:=by omega
  refine⟨_,_,_,hq.at.one oF,iS hl hc hi8 hr fun w2 m2=>⟨_,_,rfl,?_⟩⟩;obtain⟨w3,b1,b2,b3,b4⟩:=Aw (P:=Yt) (w:=w2) (T:=143) CH;obtain⟨w4,c1,c2,c3,c4⟩:=b2.put (T:=143) (vs:=eV (H8 (Gf xs i)).1) AK rfl rfl (EC _);have m4:Ab No W w4:=(m2.no b3).own c3 m2.size;have hJ4:=hMv _ _ _ _ _ hJ ⟨rfl,m4⟩;refine⟨_,w3,b1,w4,c1,Ad.cut (fun z W'=>(z=[.bool false]/\∃ R',J (i+1) R' W')\/(z=[.bool true]/\E W')) ?_ ?_⟩
  ·rw[Fm];refine Aa (fun h=>⟨(H8 (Gf xs i)).1.s,c2.at.fld (j:=0) (v:=Yn (H8 (Gf xs i)).1.s) Ah rfl,?_⟩) (fun h=>.inl ⟨rfl,R',hSk i R' _ hi8 ?_ hJ4⟩)
   ·have h:=Ld h;rw[DN];refine Aa (fun h2=>?_) (fun h2=>.inl ⟨rfl,R',hSk i R' _ hi8 ?_ hJ4⟩)
    ·have h2:=Ld h2;have he:OQ xs i=some (H8 (Gf xs i)).1:=by unfold OQ;rw[if_pos ⟨h,h2⟩]
     exact⟨_,c2.at.all AK rfl,.yield l,#[],#[],rfl,rfl,rfl,hst i _ R' _ _ hi8 ⟨_,he,rfl⟩ hJ4 (fun R'' W' hJ'=>⟨true,rfl,.inl ⟨rfl,R'',hJ'⟩⟩) fun W' hE=>⟨false,rfl,.inr ⟨rfl,hE⟩⟩⟩
    ·have h2:=Lc h2;show OQ xs i=none;unfold OQ;rw[if_neg fun e=>h2 e.2]
   ·have h:=Lc h;show OQ xs i=none;unfold OQ;rw[if_neg fun e=>h e.1]
  ·rintro z W' (⟨rfl,R'',hJ'⟩|⟨rfl,hE⟩)
   ·refine⟨_,rfl,ff rfl ?_⟩;rw[Ag (x:=(i:Int)+1) (by omega) (by omega)];exact⟨⟨i+1,_,R'',rfl,by omega,hJ'⟩,by simp[nI,A2];omega⟩
   ·exact⟨_,rfl,tt rfl (hk W' (.inr hE))⟩
 ·have hb:=Lc hb;have:i=8:=by omega
  rw[<- this];exact hJ
set_option maxRecDepth 4000 in
theorem xO{a:Option Addr}{c:Nat}{xs nm:List UInt8}(hl:xs.length=256)(hc:256<=c)(hr:BG w a (A6 xs))
  (hk:∀ w',Ab No w w'->K (Yn (match EH xs nm 8 with | some i=>(i:Int) | none=>-1)) w'):A7 Yt JW #[.slice a 256 c,.string (sB nm)] w K:=by
 apply VZ;unfold JU;have st:∀ n j,EH xs nm n=some j->∀ m,n<=m->EH xs nm m=some j:=fun n j h m hm=>by
  induction m with
  | zero=>rw[show n=0 by omega]at h;exact h
  | succ m ih =>
   by_cases e:n=m+1
   ·rw[<- e];exact h
   ·unfold EH;rw[ih (by omega)]
 obtain⟨w1,a1,a2,a3,a4⟩:=Md (P:=Yt) (w:=w) (T:=9) (v:=.string (sB nm)) rfl;obtain⟨w2,b1,b2,b3,b4⟩:=Aw (P:=Yt) (w:=w1) (T:=3) NE;refine⟨_,w1,a1,_,w2,b1,eK fun w3 m3 z3 hq=>⟨_,rfl,?_⟩⟩;have M3:Ab No w w3:=(a3.no b3).no m3;have aR:∀{W W':World},Ab (fun x=>x=w3.heap.size\/x=w3.heap.size+1) W W'->∀ q,q<w3.heap.size->¬ (q=w3.heap.size\/q=w3.heap.size+1):=fun _ q h e=>by omega
 refine V7 (AcI (a:=a) hl hc) rfl (fun _=>False) (fun i _ W=>Av W w2.heap.size 0 [.slice a 256 c]/\Ab No w W/\Av W w.heap.size 0 [.string (sB nm)]/\Av W w1.heap.size 0 [Yn 0]/\EH xs nm i=none)
  (fun W=>Ab No w W/\∃ i:Nat,Av W w1.heap.size 0 [Yn (i:Int)]/\EH xs nm 8=some i)
  ⟨hq,M3,(a2.keep b3 id).keep m3 id,b2.keep m3 id,rfl⟩ ?_ ?_ ?_ ?_ ?_ ?_ ?_ ?_ ?_
 ·rintro i R W ⟨j1,j2,_⟩ _;exact⟨j1,hr.nos j2⟩
 ·rintro i R W R' W' ⟨j1,j2,j3,j4,j5⟩ hz ⟨rfl,m⟩;exact⟨⟨j1.keep m id,j2.no m,j3.keep m id,j4.keep m id,j5⟩,No,m,id,id⟩
 ·rintro i R W W' ⟨j1,j2,j3,j4,j5⟩ m;exact⟨j1.keep m (aR m _ (by omega)),j2.trans m fun x hx e=>by have:=M3.size;omega,j3.keep m (aR m _ (by omega)),j4.keep m (aR m _ (by omega)),j5⟩
 ·rintro W W' ⟨j2,i,j4,j5⟩ m;exact⟨j2.trans m fun x hx e=>by have:=M3.size;omega,i,j4.keep m (aR m _ (by omega)),j5⟩
 ·rintro i R W hi hs ⟨j1,j2,j3,j4,j5⟩;exact⟨j1,j2,j3,j4,by unfold EH;rw[j5,hs]⟩
 ·rintro i ys R W ⟨e,_,rfl⟩;rfl
 ·rintro i ys R W bgn fin dd lo lb hi ⟨e,he,rfl⟩ ⟨j1,j2,j3,j4,j5⟩ hz hd hlo hbg hfn hrt;obtain⟨w5,d1,d2,d3,d4⟩:=Aw (P:=Yt) (w:=W) (T:=143) CH;obtain⟨w6,e1,e2,e3,e4⟩:=d2.put (T:=143) (vs:=eV e) AK rfl rfl (EC _);have m6:Ab No W w6:=d3.own e3 (Le _);refine⟨_,rfl,_,w5,d1,_,rfl,w6,e1,hbg _ w6 (m6.keep hd id) (m6.keep hlo id) fun w7 m7 z7 hd7 hl7=>?_⟩;have z6:=m6.size
  have k1:=(j1.keep m6 id).keep m7 (aR m7 _ (by omega));have k3:=(j3.keep m6 id).keep m7 (aR m7 _ (by omega));have k4:=(j4.keep m6 id).keep m7 (aR m7 _ (by omega));have k8:=e2.keep m7 fun r=>by have r:W.heap.size=_\/W.heap.size=_:=r;omega
  have hM7:Ab No w w7:=(j2.no m6).trans m7 fun x hx e=>by have:=M3.size;omega
  refine⟨_,k8.at.fld (j:=2) (v:=.string (sB e.nm)) NV rfl,_,k3.at.one NV,?_⟩;rw[XT];refine Aa (fun h=>?_) (fun h=>hfn w7 hd7 hl7 (by omega) ⟨R,k1,hM7,k3,k4,?_⟩)
  ·have h:=Ld h;obtain⟨w8,g1,g2,g3,g4⟩:=k4.put1 (P:=Yt) (T:=3) (v:=Yn (i:Int)) Ah rfl;refine⟨w8,g1,hrt w8 (g3.keep hd7 (by show ¬ w3.heap.size=w1.heap.size;omega)) (g3.keep hl7 (by show ¬ w3.heap.size+1=w1.heap.size;omega)) (by omega) ⟨hM7.trans g3 fun x hx e=>by have e:x=w1.heap.size:=e;omega,i,g2,st (i+1) i ?_ 8 (by omega)⟩⟩;unfold EH;rw[j5,he];show(if e.nm=nm then some i else none)=_;rw[if_pos h]
  ·have h:=Lc h;unfold EH;rw[j5,he];show(if e.nm=nm then some i else none)=_;rw[if_neg h]
 ·rintro R W ⟨j1,j2,j3,j4,j5⟩ hz hd;obtain⟨w8,g1,g2,g3,g4⟩:=j4.put1 (P:=Yt) (T:=3) (v:=Yn (-1)) Ah rfl;have md:=Ab.putObj w8 w3.heap.size (.deferred none);rw[j5]at hk;exact⟨w8,g1,g3.keep hd (by show ¬ w3.heap.size=w1.heap.size;omega),_,(g2.keep md (by show ¬ w1.heap.size=w3.heap.size;omega)).at.one Ah,hk _ ((j2.trans g3 fun x hx e=>by have e:x=w1.heap.size:=e;omega).trans md fun x hx e=>by have e:x=w3.heap.size:=e;have:=M3.size;omega)⟩
 ·rintro W ⟨j2,i,j4,j5⟩ hz hd;have md:=Ab.putObj W w3.heap.size (.deferred none);rw[j5]at hk;exact⟨hd,_,(j4.keep md (by show ¬ w1.heap.size=w3.heap.size;omega)).at.one Ah,hk _ (j2.trans md fun x hx e=>by have e:x=w3.heap.size:=e;have:=M3.size;omega)⟩
end
theorem MY{α:Type}{a b:List α}{n:Nat}(h:a.length=n):(a++b).drop n=b:=by
 rw[UB,Ls (by omega),Ly,h,dI,VW]
theorem KM{α:Type}{a b:List α}{n:Nat}(h:a.length=n):(a++b).take n=a:=by
 rw[Lu (by omega),Lf (by omega)]
theorem AfF{p:List Int}(hp:∀ a∈p,0<=a/\a<65536):∀{k:Nat}{a:Int}{r:List UInt8},p[k]?=some a->(D6 (((Cn p++r).drop (2*k)).take 2):Int)=a:=by
 induction p with
 | nil=>intro k a r h;simp at h
 | cons b q ih =>
  intro k a r h;have e:Cn (b::q)++r=AG 2 b.toNat++(Cn q++r):=by
   show(AG 2 b.toNat++Cn q)++r=_;rw[VV]
  have hb:=hp b (by simp);rw[e];cases k with
  | zero =>
   have:b=a:=by simpa using h
   subst this;rw[Nat.mul_zero,VW,KM (AL _ _),Hj _ _ (by omega)];omega
  | succ k =>
   have h:q[k]?=some a:=by simpa using h
   rw[show 2*(k+1)=2+2*k by omega,<- Tb,MY (AL _ _)];exact ih (fun a ha=>hp a (by simp[ha])) h
theorem fS{i:Nd}(hw:E3 i)(ho:O7 i=true):CZ (Ek i)=i:=by
 obtain⟨b1,b2,b3,b4,b5,b6,b7,b8,hp⟩:=jU ho;have hall:∀ a∈i.p,0<=a/\a<65536:=fun a ha=>by have:=hp a ha;omega
 have l2:(AG 2 i.links.toNat).length=2:=AL _ _;have l4:(AG 4 i.size.toNat).length=4:=AL _ _;have l8:(AG 8 i.id.toNat).length=8:=AL _ _;have e:Ek i=[UInt8.ofNat i.kind.toNat,0]++(AG 2 i.links.toNat++(AG 4 i.size.toNat++(AG 8 i.id.toNat++(Cn i.p++List.replicate 32 0)))):=by
  unfold Ek IL;simp only[VV]
 have d2:(Ek i).drop 2=AG 2 i.links.toNat++(AG 4 i.size.toNat++(AG 8 i.id.toNat++(Cn i.p++List.replicate 32 0))):=by rw[e];rfl
 have d4:(Ek i).drop 4=AG 4 i.size.toNat++(AG 8 i.id.toNat++(Cn i.p++List.replicate 32 0)):=by
  rw[show 4=2+2 by rfl,<- Tb,d2,MY l2]
 have d8:(Ek i).drop 8=AG 8 i.id.toNat++(Cn i.p++List.replicate 32 0):=by
  rw[show 8=4+4 by rfl,<- Tb,d4,MY l4]
 have d16:(Ek i).drop 16=Cn i.p++List.replicate 32 0:=by
  rw[show 16=8+8 by rfl,<- Tb,d8,MY l8]
 have nm:∀(k:Nat)(a:Int),i.p[k]?=some a->Ft (Ek i) k=a:=fun k a h=>by
  have:=AfF hall (r:=List.replicate 32 0) h
  unfold Ft;rw[<- d16,Tb]at this;exact this
 have h0:((Ek i).getD 0 0).toNat=i.kind.toNat:=by
  rw[e];show(UInt8.ofNat i.kind.toNat).toNat=_;rw[Lp2];omega
 have hw8:i.p.length=8:=hw;cases i with
 | mk kind links size id p =>
  simp only at *
  match p,hw8 with
  | [a0,a1,a2,a3,a4,a5,a6,a7],_ =>
   unfold CZ
   rw[h0,d2,d4,d8,KM l2,KM l4,KM l8,Hj _ _ (by omega),Hj _ _ (by omega),Hj _ _ (by omega),AbC,
    nm 0 a0 rfl,nm 1 a1 rfl,nm 2 a2 rfl,nm 3 a3 rfl,nm 4 a4 rfl,nm 5 a5 rfl,nm 6 a6 rfl,nm 7 a7 rfl,Ag (by omega) (by omega)]
   simp only[Nd.mk.injEq,and_true];omega
theorem nB{i:Nd}(hw:E3 i)(ho:O7 i=true):PO (Ek i)=(i,0):=by
 have hr:=fS hw ho;have hl:=IM hw;rw[sS hl,hr,if_pos ⟨ho,rfl⟩]
theorem nT{xs d:Bk}{f:Nat}(h:f+d.length<=xs.length):((B3 xs f d).drop f).take d.length=d:=by
 unfold B3;rw[VV,MY (by simp;omega),KM rfl]
theorem fM{xs d:Bk}{f f' n:Nat}(h:f+d.length<=xs.length)(hd:f'+n<=f\/f+d.length<=f'):((B3 xs f d).drop f').take n=(xs.drop f').take n:=by
 have hl:(xs.take f).length=f:=by simp;omega
 unfold B3;rcases hd with hd | hd
 ·rw[VV,UB,Lu (by simp;omega),List.drop_take,La4,Lw2 (by omega)]
 ·rw[UB,Ls (by rw[Lj,hl];exact hd),Ly,Tb,Lj,hl,show f+d.length+(f'-(f+d.length))=f' by omega]
theorem fG{xs:Bk}(hl:xs.length=256){p:Int}(h0:0<=p)(h4:p<4){i:Nd}(hw:E3 i)(ho:O7 i=true){q:Int}(q0:0<=q)(q4:q<4) :
  Gl (B3 xs (64*p.toNat) (Ek i)) q=if q=p then(i,0)else Gl xs q:=by
 have hb:=IM hw;have hl':(B3 xs (64*p.toNat) (Ek i)).length=256:=by unfold B3;simp;omega
 have ht:Qd 256 q=0:=by unfold Qd;rw[if_neg (by decide),if_neg (by omega)]
 unfold Gl;rw[hl',hl,ht,if_neg (show ¬ (0:Int)≠0 from fun e=>e rfl),if_neg (show ¬ (0:Int)≠0 from fun e=>e rfl)];by_cases e:q=p
 ·subst e;rw[if_pos rfl]
  have:=nT (xs:=xs) (d:=Ek i) (f:=64*q.toNat) (by omega)
  rw[hb]at this;rw[this];exact nB hw ho
 ·rw[if_neg e,fM (by omega) (by omega)]
def A1(V:Ps)(g:Gm)(s:Int):Nd×Int:=if (Au g s).2.2≠0 then(nZ,(Au g s).2.2)else Gl (A3 V (Au g s).1.toNat) (Au g s).2.1
theorem If{g:Gm}(hg:Df g=true){s:Int}(h0:0<=s)(h1:s<AZ g):∃ k j p:Nat,Au g s=(2+k*g.gr+1+j,(p:Int),0)/\(k:Int)<g.gs/\(j:Int)<AV g/\p<4/\s=k*g.no+(4*j+p)/\(4*j+p:Int)<g.no:=by
 obtain⟨s1,s2,s3,s4⟩:=TY hg h0 h1;obtain⟨_,_,_,_,g5,_,g7,_⟩:=Ax.1 hg;have hT:=Nh hg;obtain⟨k,hk⟩:=dG s1;obtain⟨r,hr⟩:=dG s3;refine⟨k,r / 4,r % 4,?_,by omega,by omega,by omega,?_,by omega⟩
 ·unfold Au;rw[if_pos hg,if_pos ⟨h0,h1⟩,hk,hr]
  congr 1
 ·have:=Int.mul_ediv_add_emod s g.no
  rw[hk,hr]at this;have e:g.no*(k:Int)=k*g.no:=Lm5 _ _;omega
theorem Vb{g:Gm}(hg:Df g=true){s:Int}(h:¬ (0<=s/\s<AZ g)):Au g s=(0,0,3):=by unfold Au;rw[if_pos hg,if_neg h]
theorem VJ{g:Gm}(hg:Df g=true){k k' j:Nat}(hj:(j:Int)<AV g):(2+(k:Int)*g.gr+1+j).toNat≠(2+(k':Int)*g.gr).toNat:=by
 intro e;obtain⟨g1,_,_,_,_,_,_,g8,_⟩:=Ax.1 hg;have hT:=Nh hg;have p1:0<=(k:Int)*g.gr:=iC (by omega) (by omega);have p2:0<=(k':Int)*g.gr:=iC (by omega) (by omega);have e:(k':Int)*g.gr=(1+j)+k*g.gr:=by omega
 have e2:((k':Int)*g.gr) % g.gr=((1+j:Int)+k*g.gr) % g.gr:=by rw[e]
 rw[Int.mul_emod_left,Lz1,wN (by omega) (by omega)]at e2;omega
theorem AaC{g:Gm}(hg:Df g=true){k k' j j':Nat}(hj:(j:Int)<AV g)(hj':(j':Int)<AV g)(e:(2+(k:Int)*g.gr+1+j).toNat=(2+(k':Int)*g.gr+1+j').toNat):k=k'/\j=j':=by
 obtain⟨g1,_,_,_,_,_,_,g8,_⟩:=Ax.1 hg;have hT:=Nh hg;have p1:0<=(k:Int)*g.gr:=iC (by omega) (by omega);have p2:0<=(k':Int)*g.gr:=iC (by omega) (by omega);have e:(j:Int)+k*g.gr=j'+k'*g.gr:=by omega
 have e2:((j:Int)+k*g.gr) % g.gr=((j':Int)+k'*g.gr) % g.gr:=by rw[e]
 rw[Lz1,Lz1,wN (by omega) (by omega),wN (by omega) (by omega)]at e2;have e3:(k:Int)*g.gr=k'*g.gr:=by omega
 have:=Int.eq_of_mul_eq_mul_right (by omega) e3
 omega
theorem Qb{V V':Ps}{g:Gm}(hg:Df g=true)(h:∀ k j:Nat,(j:Int)<AV g->A3 V' (2+(k:Int)*g.gr+1+j).toNat=A3 V (2+(k:Int)*g.gr+1+j).toNat)(s:Int):A1 V' g s=A1 V g s:=by
 unfold A1;by_cases hs:0<=s/\s<AZ g
 ·obtain⟨k,j,p,e,_,hj,_⟩:=If hg hs.1 hs.2;rw[e];simp only;rw[h k j hj]
 ·rw[Vb hg hs,if_pos (by decide),if_pos (by decide)]
theorem Xz{V:Ps}{g:Gm}(hg:Df g=true){n b p:Int}(hn:Au g n=(b,p,0))(hl:(A3 V b.toNat).length=256){i:Nd}(hw:E3 i)(ho:O7 i=true){after:List Int}(hE:E0 V b (64*p) (Ek i) after=0)(s:Int) :
  A1 (BF V b (64*p) (Ek i) after) g s=if s=n then(i,0)else A1 V g s:=by
 obtain⟨_,n0,n1,_,_,p0,p4⟩:=EI hn;obtain⟨k,j,q,e,hk,hj,hq,hs,hs2⟩:=If hg n0 n1;rw[hn]at e;cases e;have hp:(64*(q:Int)).toNat=64*((q:Int)).toNat:=by omega
 unfold A1;by_cases hr:0<=s/\s<AZ g
 ·obtain⟨k',j',q',e',hk',hj',hq',hs',hs2'⟩:=If hg hr.1 hr.2;rw[e'];simp only;rw[if_neg (show ¬ (0:Int)≠0 from fun e=>e rfl),if_neg (show ¬ (0:Int)≠0 from fun e=>e rfl),Cf hE,hp];by_cases c:(2+(k':Int)*g.gr+1+j').toNat=(2+(k:Int)*g.gr+1+j).toNat
  ·obtain⟨rfl,rfl⟩:=AaC hg hj' hj c;rw[if_pos rfl,fG hl (by omega) (by omega) hw ho (by omega) (by omega)];by_cases d:(q':Int)=q
   ·rw[if_pos d,if_pos (by omega)]
   ·rw[if_neg d,if_neg (by omega)]
  ·rw[if_neg c,if_neg];intro d;subst d;rw[hn]at e'
   injection e' with e1 e2
   exact c (by rw[e1])
 ·have d:¬ s=n:=fun d=>by subst d;exact hr ⟨n0,n1⟩
  rw[Vb hg hr,if_neg d];rfl
theorem Tw{g : Gm}{hs : List Hd}{fz : Int → Bool}{find : Hd → Int → Int}{s p : Int}{t : Bool}{i : Nat}{x : Nat × Int}(h : Cb g hs fz find s p t i = some x) : ∀{n : Nat}, i ≤ n → Cb g hs fz find s p t n = some x
  | 0, hn => by have : i = 0 := by omega
                subst this;exact h
  | n + 1, hn => by
    by_cases e : i = n + 1
    · rw[← e];exact h
    · have := Tw h (n := n) (by omega)
      show(match Cb g hs fz find s p t n with | some x => some x | none => IQ g hs fz find s p t n) = _;rw[this]
def RA(kd:Bool)(A:Az)(s p:Int)(t:Bool):Az×(Int×Int)×Int×Int :=
 match Cb A.s.geo A.hs A.fz (BD kd A.s.geo) s p t A.s.geo.gs.toNat with
 | some x=>((JS kd A x.1 x.2 true).1,((x.1:Int),x.2),(JS kd A x.1 x.2 true).2.1,(JS kd A x.1 x.2 true).2.2)
 | none=>(A,(0,0),0,26)
theorem wB:Hs Yt 2=some [Yn 0]:=by kernel_rfl
theorem VQ:Hs Yt 24=some [Yn 0]:=by kernel_rfl
theorem EK:Cw Yt 24=true:=by kernel_rfl
section
variable{w w':World}{R R':Nat->Prop}{a v d:Nat}{A:Az}{K:Value->World->Prop}
set_option maxRecDepth 4000 in
theorem vJ{kd t:Bool}{s p:Int}(h:Ao R w a v d A)(hs:0<=s/\s<A.s.geo.gs)(hp:0<=p/\p<=100000)(hlast:A.V.last+1<=1000000)
  (hk:∀ w' R',Ab R w w'->Sb R R' w->Ao R' w' a v d (RA kd A s p t).1->K (.tuple #[.agg ⟨pV (RA kd A s p t).2.1⟩,Yn (RA kd A s p t).2.2.1,Yn (RA kd A s p t).2.2.2]) w') :
  A7 Yt Dq #[Yo a,.agg ⟨pV (s,p)⟩,.bool t,.agg ⟨xV kd⟩] w K:=by
 have hg:=h.ok;obtain⟨_,_,g3,g4,_⟩:=Ax.1 hg;obtain⟨n,hn⟩:=dG (show 0<=A.s.geo.gs by omega);have hnn:A.s.geo.gs.toNat=n:=by omega
 obtain⟨f0,hf0⟩:∃ f,(xV kd)[0]?=some f:=by cases kd<;>exact⟨_,rfl⟩
 apply Pf;unfold EW;obtain⟨w1,a1,a2,a3,a4⟩:=Md (P:=Yt) (w:=w) (T:=61) (v:=Yo a) rfl;obtain⟨w2,b1,b2,b3,b4⟩:=AB (P:=Yt) (w:=w1) (T:=112) (cs:=pV (s,p));obtain⟨w3,c1,c2,c3,c4⟩:=AB (P:=Yt) (w:=w2) (T:=120) (cs:=xV kd);obtain⟨w4,d1,d2,d3,d4⟩:=Aw (P:=Yt) (w:=w3) (T:=112) Ii;obtain⟨w5,e1,e2,e3,e4⟩:=Aw (P:=Yt) (w:=w4) (T:=2) wB
 obtain⟨w6,f1,f2,f3,f4⟩:=Aw (P:=Yt) (w:=w5) (T:=24) VQ;have z1:w1.heap.size=w.heap.size+1:=a4;have z2:w2.heap.size=w.heap.size+2:=by omega
 have z3:w3.heap.size=w.heap.size+3:=by omega
 have z4:w4.heap.size=w.heap.size+4:=by omega
 have z5:w5.heap.size=w.heap.size+5:=by omega
 have z6:w6.heap.size=w.heap.size+6:=by omega
 have p1:Av w6 w.heap.size 0 [Yo a]:=((((a2.keep b3 id).keep c3 id).keep d3 id).keep e3 id).keep f3 id;have p2:Av w6 (w.heap.size+1) 0 (pV (s,p)):=z1 ▸ (((b2.keep c3 id).keep d3 id).keep e3 id).keep f3 id;have p3:Av w6 (w.heap.size+2) 0 (xV kd):=z2 ▸ ((c2.keep d3 id).keep e3 id).keep f3 id;have p4:Av w6 (w.heap.size+3) 0 (pV (0,0)):=z3 ▸ (d2.keep e3 id).keep f3 id;have p5:Av w6 (w.heap.size+4) 0 [Yn 0]:=z4 ▸ e2.keep f3 id
 have p6:Av w6 (w.heap.size+5) 0 [Yn 0]:=z5 ▸ f2;have m6:Ab No w w6:=((((a3.no b3).no c3).no d3).no e3).no f3;have h6:=h.nos m6;rw[z1]at b1;rw[z2]at c1;rw[z3]at d1;rw[z4]at e1;rw[z5]at f1;refine⟨_,w1,a1,_,w2,b1,_,w3,c1,_,w4,d1,_,w5,e1,_,w6,f1,_,p1.at.one Da,_,p2.at.all Bi rfl,?_⟩;refine uL (s:=s) (p:=p) (t:=t) fun w7 m7 s7 x3 x4 x5=>⟨_,rfl,?_⟩;have M7:Ab No w w7:=m6.no m7
 have h7:=h.nos M7;have p1:=p1.keep m7 id;have p3:=p3.keep m7 id;have p4:=p4.keep m7 id;have p5:=p5.keep m7 id;have p6:=p6.keep m7 id;rw[z6]at x3 x4 x5 s7 |-;clear p2 a1 b1 c1 d1 e1 f1 a2 b2 c2 d2 e2 f2 a3 b3 c3 d3 e3 f3 a4 b4 c4 d4 e4 f4 m6 h6;intro r0 hs0 hp0 hy;obtain⟨hd0,hl0,mW,sW⟩:((w7.alloc (.deferred (some []))).alloc (.loop r0)).heap[w7.heap.size]?=some (.deferred (some []))/\((w7.alloc (.deferred (some []))).alloc (.loop r0)).heap[w7.heap.size+1]?=some (.loop r0)/\Ab No w7 ((w7.alloc (.deferred (some []))).alloc (.loop r0))/\((w7.alloc (.deferred (some []))).alloc (.loop r0)).heap.size=w7.heap.size+2:=by
  refine⟨?_,?_,((Ab.refl No w7).alloc _).alloc _,by simp⟩
  ·rw[Rl (by simp)];exact BV _ _
  ·have:=BV (w7.alloc (.deferred (some []))) (.loop r0)
   rw[World.size_alloc]at this;exact this
 generalize (w7.alloc (.deferred (some []))).alloc (.loop r0)=W2 at *;have hnR:∀ R',Sb R R' W2->∀ q,w.heap.size<=q->q<W2.heap.size->¬ R' q:=fun R' hs q h1 h2 e=>by
  rcases hs q e with e|e
  ·have:=h.lt q e;omega
  ·omega
 have hda:=h.dlt;have own:∀{b c:World}{q:Nat},Ab R w b->Ab (fun x=>x=q) b c->w.heap.size<=q->Ab R w c:=fun hb hc hq=>hb.trans hc fun z hz e=>by have e:z=_:=e;omega
 have er:({ r0 with state:=LoopState.ready,pending:=none }:Loop)=r0:=by cases r0;simp only at hs0 hp0;subst hs0;subst hp0;rfl
 have nel:∀ q,q<w7.heap.size+1->¬ (fun x=>x=w7.heap.size+1) q:=fun q hq e=>by have e:q=w7.heap.size+1:=e;omega
 refine kD (A:=A) (n:=n) (w:=W2) hn hg hs hp (fun i W=>Cb A.s.geo A.hs A.fz (BD kd A.s.geo) s p t i=none/\∃ R',Ao R' W a v d A/\Sb R R' W2/\Ab R w W/\W2.heap.size<=W.heap.size/\(Av W w.heap.size 0 [Yo a]/\Av W (w.heap.size+2) 0 (xV kd)/\Av W (w.heap.size+3) 0 (pV (0,0))/\Av W (w.heap.size+4) 0 [Yn 0]/\Av W (w.heap.size+5) 0 [Yn 0]) /\
   (Av W (w.heap.size+6) 0 [Yo a]/\Av W (w.heap.size+6+1) 0 (pV (s,p))/\Av W (w.heap.size+6+2) 0 [.bool t])/\W.heap[w7.heap.size]?=some (.deferred (some []))/\W.heap[w7.heap.size+1]?=some (.loop r0))
  (fun W=>∃ k j,Cb A.s.geo A.hs A.fz (BD kd A.s.geo) s p t n=some (k,j)/\∃ R',Ao R' W a v d (JS kd A k j true).1/\Sb R R' W2/\Ab R w W/\W2.heap.size<=W.heap.size/\Av W (w.heap.size+3) 0 (pV (k,j))/\Av W (w.heap.size+4) 0 [Yn (JS kd A k j true).2.1]/\Av W (w.heap.size+5) 0 [Yn (JS kd A k j true).2.2]/\W.heap[w7.heap.size]?=some (.deferred (some []))/\W.heap[w7.heap.size+1]?=some (.loop { r0 with state:=.done,pending:=some .ret }))
  ⟨rfl,R,h7.nos mW,Sb.refl _ _,(M7.no mW).mono (fun _ _ e=>e.elim),Le _,⟨p1.keep mW id,p3.keep mW id,p4.keep mW id,p5.keep mW id,p6.keep mW id⟩,⟨x3.keep mW id,x4.keep mW id,x5.keep mW id⟩,hd0,hl0⟩
  (fun i W ⟨_,R',j1,j2,j3,j4,j5,j8,j9,j10⟩=>⟨R',j1,j8.1,j8.2.1,j8.2.2⟩)
  (fun i W W' ⟨j0,R',j1,j2,j3,j4,⟨k1,k2,k3,k4,k5⟩,j8,j9,j10⟩ m=>⟨j0,R',j1.nos m,j2,j3.no m,QK j4 m.size,⟨k1.keep m id,k2.keep m id,k3.keep m id,k4.keep m id,k5.keep m id⟩,⟨j8.1.keep m id,j8.2.1.keep m id,j8.2.2.keep m id⟩,m.keep j9 id,m.keep j10 id⟩) ?_ ?_ ?_
 ·rintro i W hi ⟨j0,jr⟩ hf;refine⟨?_,jr⟩;show(match Cb A.s.geo A.hs A.fz (BD kd A.s.geo) s p t i with|some x=>some x|none=>IQ A.s.geo A.hs A.fz (BD kd A.s.geo) s p t i)=none;rw[j0];show IQ A.s.geo A.hs A.fz (BD kd A.s.geo) s p t i=none;unfold IQ;rw[if_pos hf]
 ·rintro i W K' hi ⟨j0,R',j1,j2,j3,j4,⟨k1,k2,k3,k4,k5⟩,⟨j8,j9,j10⟩,j11,j12⟩ hf hT hF;have hkl:=uK hg s i;obtain⟨x,hx1,hx2,hx3,hx4,hx5⟩:=j1.hdOf hkl;have hxs:A.hs[El A.s.geo s i]?=some x:=by
   obtain⟨y,hy1,_⟩:=j1.hd.get (k:=(El A.s.geo s i:Int)) (by omega) hkl;have hy1:A.hs[El A.s.geo s i]?=some y:=hy1;rw[Lp,hy1]at hx2;rw[hy1];exact QJ some hx2
  have hto:Cb A.s.geo A.hs A.fz (BD kd A.s.geo) s p t (i+1)=if 0<=BD kd A.s.geo x (Nt p t i)then some (El A.s.geo s i,BD kd A.s.geo x (Nt p t i))else none:=by
   show(match Cb A.s.geo A.hs A.fz (BD kd A.s.geo) s p t i with | some x=>some x | none=>IQ A.s.geo A.hs A.fz (BD kd A.s.geo) s p t i)=_;rw[j0];show IQ A.s.geo A.hs A.fz (BD kd A.s.geo) s p t i=_;unfold IQ;rw[if_neg (by rw[hf];decide),hxs]
  generalize Nt p t i=fr at *;generalize El A.s.geo s i=k at *;refine hy [Yn (k:Int),Yn fr] W K' rfl j12 ?_;refine⟨_,rfl,_,rfl,j12,?_⟩;have ml:=Ab.putObj W (w7.heap.size+1) (.loop { r0 with state:=.busy });have hlb:=FB (o:=.loop { r0 with state:=.busy }) j12;have far:∀ R',Sb R R' W2->∀ q,w.heap.size<=q->q<W2.heap.size->¬ R' q:=hnR;have nl:¬ R' (w7.heap.size+1):=hnR R' j2 _ (by omega) (by omega)
  have t1:=j1.own ml nl (by omega);have zl:=ml.size;have c1:Ab R w _:=own j3 ml (by omega);have y1:=k1.keep ml (nel _ (by omega));have y2:=k2.keep ml (nel _ (by omega));have y3:=k3.keep ml (nel _ (by omega));have y4:=k4.keep ml (nel _ (by omega));have y5:=k5.keep ml (nel _ (by omega));have y8:=j8.keep ml (nel _ (by omega));have y9:=j9.keep ml (nel _ (by omega));have y10:=j10.keep ml (nel _ (by omega))
  have y11:=ml.keep j11 (nel _ (by omega));generalize W.putObj (w7.heap.size+1) (.loop { r0 with state:=.busy })=W3 at *;refine⟨_,y1.at.one Da,_,rfl,_,t1.pv,NI t1 fun w9 R9 m9 s9 k9 _=>?_⟩;rw[hx1];have z9:=m9.size;have S9:Sb R R9 W2:=j2.trans s9 (by omega);obtain⟨w10,b1,b2,b3,b4⟩:=Aw (P:=Yt) (w:=w9) (T:=171) Bh;obtain⟨w11,u1,u2,u3,u4⟩:=b2.put (T:=171) (vs:=hV x) Aq rfl (Ap hx5) (Co _)
  have m11:Ab No w9 (Go.Den.Af w11):=(b3.own u3 (Le _)).drew;have M11:Ab R' W3 (Go.Den.Af w11):=m9.no m11;have k11:=k9.nos m11;have f1:=y1.keep M11 (hnR R' j2 _ (by omega) (by omega));have f2:=y2.keep M11 (hnR R' j2 _ (by omega) (by omega));refine⟨_,_,rfl,_,w10,b1,w11,u1,ff rfl ⟨f0,f2.at.fld kH hf0,_,f1.at.one Da,_,rfl,_,k11.pv,_,u2.drew.at.all Aq (Ap hx5),JZ k11 fun w16 m16=>⟨_,rfl,(f2.keep m16 id).at.fld kH hf0,(u2.drew.keep m16 id).at.all Aq (Ap hx5),yD hx5 (fun w17 m17=>⟨_,rfl,?_⟩) hf0⟩⟩⟩
  have M17:Ab R' W3 w17:=(M11.no m16).no m17;have k17:=(k11.nos m16).nos m17;have z17:=M17.size;have C17:Ab R w w17:=c1.trans M17 fun z hz e=>(j2 z e).resolve_right (by omega);have g1:=y1.keep M17 (hnR R' j2 _ (by omega) (by omega));have g2:=y2.keep M17 (hnR R' j2 _ (by omega) (by omega));have g3:=y3.keep M17 (hnR R' j2 _ (by omega) (by omega));have g4:=y4.keep M17 (hnR R' j2 _ (by omega) (by omega))
  have g5:=y5.keep M17 (hnR R' j2 _ (by omega) (by omega));have g8:=y8.keep M17 (hnR R' j2 _ (by omega) (by omega));have g9:=y9.keep M17 (hnR R' j2 _ (by omega) (by omega));have g10:=y10.keep M17 (hnR R' j2 _ (by omega) (by omega));have g11:=M17.keep y11 (hnR R' j2 _ (by omega) (by omega));have gl:=M17.keep hlb (hnR R' j2 _ (by omega) (by omega));refine Aa (fun hb=>?_) (fun hb=>?_)
  ·have hb:=Ld hb;rw[if_pos (by omega)]at hto;have hto:=Tw hto (n:=n) (by omega);refine⟨_,g1.at.one Da,_,L9 _ _,_,g2.at.all K6 (AcQ kd),?_⟩;refine AdB k17 hkl hlast fun w18 R18 m18 s18 k18=>⟨_,_,rfl,_,L9 _ _,?_⟩;have z18:=m18.size;have S18:Sb R R18 W2:=S9.trans s18 (by omega);have C18:Ab R w w18:=C17.trans m18 fun z hz e=>(S9 z e).resolve_right (by omega)
   have l3:=g3.keep m18 (hnR R9 S9 _ (by omega) (by omega));have l4:=g4.keep m18 (hnR R9 S9 _ (by omega) (by omega));have l5:=g5.keep m18 (hnR R9 S9 _ (by omega) (by omega));have l11:=m18.keep g11 (hnR R9 S9 _ (by omega) (by omega));have ll:=m18.keep gl (hnR R9 S9 _ (by omega) (by omega));obtain⟨w19,v1,v2,v3,v4⟩:=l3.put (T:=112) (vs:=pV ((k:Int),BD kd A.s.geo x fr)) Bi rfl rfl (IN _)
   obtain⟨w20,r1,r2,r3,r4⟩:=(l4.keep v3 (by show ¬ w.heap.size+4=w.heap.size+3;omega)).put1 (P:=Yt) (T:=2) (v:=Yn (JS kd A k (BD kd A.s.geo x fr) true).2.1) Bq rfl;obtain⟨w21,o1,o2,o3,o4⟩:=((l5.keep v3 (by show ¬ w.heap.size+5=w.heap.size+3;omega)).keep r3 (by show ¬ w.heap.size+5=w.heap.size+4;omega)).put1 (P:=Yt) (T:=24) (v:=Yn (JS kd A k (BD kd A.s.geo x fr) true).2.2) EK rfl
   refine⟨w19,v1,w20,r1,w21,o1,?_,?_⟩
   ·exact o3.keep (r3.keep (v3.keep ll (by show ¬ w7.heap.size+1=w.heap.size+3;omega)) (by show ¬ w7.heap.size+1=w.heap.size+4;omega)) (by show ¬ w7.heap.size+1=w.heap.size+5;omega)
   show K' (.bool false) (w21.putObj (w7.heap.size+1) (.loop { r0 with state:=.done,pending:=some .ret }));have hl21:=o3.keep (r3.keep (v3.keep ll (by show ¬ w7.heap.size+1=w.heap.size+3;omega)) (by show ¬ w7.heap.size+1=w.heap.size+4;omega)) (by show ¬ w7.heap.size+1=w.heap.size+5;omega);have mf:=Ab.putObj w21 (w7.heap.size+1) (.loop { r0 with state:=.done,pending:=some .ret });have zf:=mf.size
   have nR:=fun q h1 h2=>hnR R18 S18 q h1 h2;refine hF _ ⟨k,_,hto,R18,(((k18.own v3 (nR _ (by omega) (by omega)) (by omega)).own r3 (nR _ (by omega) (by omega)) (by omega)).own o3 (nR _ (by omega) (by omega)) (by omega)).own mf (nR _ (by omega) (by omega)) (by omega),S18,own (own (own (own C18 v3 (by omega)) r3 (by omega)) o3 (by omega)) mf (by omega),by omega,?_,?_,?_,?_,FB hl21⟩
   ·exact((v2.keep r3 (by show ¬ w.heap.size+3=w.heap.size+4;omega)).keep o3 (by show ¬ w.heap.size+3=w.heap.size+5;omega)).keep mf (nel _ (by omega))
   ·exact(r2.keep o3 (by show ¬ w.heap.size+4=w.heap.size+5;omega)).keep mf (nel _ (by omega))
   ·exact o2.keep mf (nel _ (by omega))
   ·exact mf.keep (o3.keep (r3.keep (v3.keep l11 (by show ¬ w7.heap.size=w.heap.size+3;omega)) (by show ¬ w7.heap.size=w.heap.size+4;omega)) (by show ¬ w7.heap.size=w.heap.size+5;omega)) (nel _ (by omega))
  ·have hb:=Lc hb;rw[if_neg (by omega)]at hto;refine⟨gl,?_⟩;show K' (.bool true) (w17.putObj (w7.heap.size+1) (.loop { r0 with state:=LoopState.ready,pending:=none }));rw[er];have mf:=Ab.putObj w17 (w7.heap.size+1) (.loop r0);have zf:=mf.size;refine hT _ ⟨hto,R9,k17.own mf (hnR R9 S9 _ (by omega) (by omega)) (by omega),S9,own C17 mf (by omega),by omega,⟨g1.keep mf (nel _ (by omega)),g2.keep mf (nel _ (by omega)),g3.keep mf (nel _ (by omega)),g4.keep mf (nel _ (by omega)),g5.keep mf (nel _ (by omega))⟩,⟨g8.keep mf (nel _ (by omega)),g9.keep mf (nel _ (by omega)),g10.keep mf (nel _ (by omega))⟩,mf.keep g11 (nel _ (by omega)),FB gl⟩
 ·have tk:=hk;unfold RA at tk;rw[hnn]at tk;rintro W (⟨j0,R',j1,j2,j3,j4,⟨k1,k2,k3,k4,k5⟩,_,j11,j12⟩ | ⟨k,j,j0,R',j1,j2,j3,j4,k3,k4,k5,j11,j12⟩)
  ·refine⟨.ready,none,by rw[er];exact j12,by simp,?_⟩;have ml:=Ab.putObj W (w7.heap.size+1) (.loop { r0 with state:=.exhausted,pending:=none });have t1:=j1.own ml (hnR R' j2 _ (by omega) (by omega)) (by omega);have c1:=own j3 ml (by omega);have zl:=ml.size;have y3:=k3.keep ml (nel _ (by omega));have y4:=k4.keep ml (nel _ (by omega));have y5:=k5.keep ml (nel _ (by omega));have y11:=ml.keep j11 (nel _ (by omega))
   show ∃ g63:Array Value,_;generalize W.putObj (w7.heap.size+1) (.loop { r0 with state:=.exhausted,pending:=none })=W3 at *;obtain⟨w19,v1,v2,v3,v4⟩:=y3.put (T:=112) (vs:=pV (0,0)) Bi rfl rfl (IN _);obtain⟨w20,r1,r2,r3,r4⟩:=(y4.keep v3 (by show ¬ w.heap.size+4=w.heap.size+3;omega)).put1 (P:=Yt) (T:=2) (v:=Yn 0) Bq rfl;obtain⟨w21,o1,o2,o3,o4⟩:=((y5.keep v3 (by show ¬ w.heap.size+5=w.heap.size+3;omega)).keep r3 (by show ¬ w.heap.size+5=w.heap.size+4;omega)).put1 (P:=Yt) (T:=24) (v:=Yn 26) EK rfl
   have mf:=Ab.putObj w21 w7.heap.size (.deferred none);have nd:∀ q,q<w7.heap.size->¬ (fun x=>x=w7.heap.size) q:=fun q hq e=>by have e:q=w7.heap.size:=e;omega
   refine⟨_,JG,w19,v1,w20,r1,w21,o1,?_,_,(((v2.keep r3 ?_).keep o3 ?_).keep mf (nd _ (by omega))).at.all Bi rfl,_,((r2.keep o3 ?_).keep mf (nd _ (by omega))).at.one Bq,_,(o2.keep mf (nd _ (by omega))).at.one EK,?_⟩
   ·exact o3.keep (r3.keep (v3.keep y11 (by show ¬ w7.heap.size=w.heap.size+3;omega)) (by show ¬ w7.heap.size=w.heap.size+4;omega)) (by show ¬ w7.heap.size=w.heap.size+5;omega)
   ·show ¬ w.heap.size+3=w.heap.size+4;omega
   ·show ¬ w.heap.size+3=w.heap.size+5;omega
   ·show ¬ w.heap.size+4=w.heap.size+5;omega
   rw[j0]at tk;have nR:=fun q h1 h2=>hnR R' j2 q h1 h2;exact tk _ R' (own (own (own (own c1 v3 (by omega)) r3 (by omega)) o3 (by omega)) mf (by omega)) (j2.up (by omega)) ((((t1.own v3 (nR _ (by omega) (by omega)) (by omega)).own r3 (nR _ (by omega) (by omega)) (by omega)).own o3 (nR _ (by omega) (by omega)) (by omega)).own mf (nR _ (by omega) (by omega)) (by omega))
  ·refine⟨.done,some .ret,j12,by simp,?_⟩;have ml:=Ab.putObj W (w7.heap.size+1) (.loop { r0 with state:=.exhausted,pending:=some .ret });have t1:=j1.own ml (hnR R' j2 _ (by omega) (by omega)) (by omega);have c1:=own j3 ml (by omega);have zl:=ml.size;have y3:=k3.keep ml (nel _ (by omega));have y4:=k4.keep ml (nel _ (by omega));have y5:=k5.keep ml (nel _ (by omega));have y11:=ml.keep j11 (nel _ (by omega))
   show(World.heap _)[_]?=_/\_;generalize W.putObj (w7.heap.size+1) (.loop { r0 with state:=.exhausted,pending:=some .ret })=W3 at *;have mf:=Ab.putObj W3 w7.heap.size (.deferred none);have nd:∀ q,q<w7.heap.size->¬ (fun x=>x=w7.heap.size) q:=fun q hq e=>by have e:q=w7.heap.size:=e;omega
   refine⟨y11,_,(y3.keep mf (nd _ (by omega))).at.all Bi rfl,_,(y4.keep mf (nd _ (by omega))).at.one Bq,_,(y5.keep mf (nd _ (by omega))).at.one EK,?_⟩;rw[j0]at tk;exact tk _ R' (own c1 mf (by omega)) (j2.up (by omega)) (t1.own mf (hnR R' j2 _ (by omega) (by omega)) (by omega))
end
theorem Ac9{g:Gm}(hg:Df g=true)(b:Int):0<=(N0 g b).1/\(N0 g b).1<g.gs/\0<=(N0 g b).2.1/\(N0 g b).2.1<128:=by
 obtain⟨_,g2,g3,_⟩:=Ax.1 hg;unfold N0;by_cases h:(AT g b).1=4
 ·rw[if_neg (by omega)];obtain⟨_,_,_,h3,h4,h5,h6⟩:=Gh h;have ht:=TR (g:=g);have e:(Bn g (AT g b).2).1=2+(AT g b).2*g.gr:=by unfold Bn;rw[if_pos hg,if_pos ⟨h3,h4⟩]
  refine⟨h3,h4,?_,?_⟩<;>(simp only;rw[e];omega)
 ·rw[if_pos h];exact⟨qD _,by show(0:Int)<_;omega,qD _,by decide⟩
theorem uZ{g:Gm}(hg:Df g=true)(n:Int):0<=(OA g n).1/\(OA g n).1<g.gs/\0<=(OA g n).2.1/\(OA g n).2.1<128:=by
 obtain⟨_,_,g3,_,g5,g6,_⟩:=Ax.1 hg;unfold OA;by_cases h:mU g n<0
 ·rw[if_pos h];exact⟨qD _,by show(0:Int)<_;omega,qD _,by decide⟩
 ·rw[if_neg h];obtain⟨_,h0,h1,e⟩:=sJ (g:=g) (n:=n) (by omega);have hi:=TY hg h0 h1;rw[e];exact⟨hi.1,hi.2.1,hi.2.2.1,by show n % g.no<128;omega⟩
section
variable{w w':World}{R R':Nat->Prop}{a v d:Nat}{A:Az}{K:Value->World->Prop}
theorem Ao.hds(h:Ao R w a v d A){k:Nat}{x:Hd}(hx:A.hs[k]?=some x):(k:Int)<A.s.geo.gs/\A.hs.getD k hZ=x/\Mg A.s.geo x=true/\x.no=k/\FD x:=by
 obtain⟨_,h2,h3,h4⟩:=h.hd.2.2.2 k x hx;exact⟨h.hd.lt hx,by rw[Lp,hx];rfl,h2,h3,h4⟩
theorem mO{kd:Bool}{g:Gm}{h:Hd}{f:Int}(hw:FD h)(e:0<=BD kd g h f):(BW kd g h (BD kd g h f) true).2=0/\BD kd g h f<128:=by
 cases kd with
 | true =>
  obtain⟨h1,h2⟩:=eZ (g:=g) hw e;refine⟨h1,?_⟩;have e:0<=GC g h f:=e;show GC g h f<128;by_cases ho:Mg g h=true
  ·obtain⟨g1,_⟩:=BZ.1 ho;obtain⟨_,g2,_⟩:=Ax.1 g1;omega
  ·unfold GC at e;rw[if_neg ho]at e;omega
 | false =>
  obtain⟨h1,h2⟩:=fA (g:=g) hw e;refine⟨h1,?_⟩;have e:0<=GD g h f:=e;show GD g h f<128;by_cases ho:Mg g h=true
  ·obtain⟨g1,_⟩:=BZ.1 ho;obtain⟨_,_,_,_,_,g2,_⟩:=Ax.1 g1;omega
  ·unfold GD at e;rw[if_neg ho]at e;omega
theorem TZ(h:Ao R w a v d A){kd t:Bool}{s p:Int}{k:Nat}{j:Int}:∀{n:Nat},Cb A.s.geo A.hs A.fz (BD kd A.s.geo) s p t n=some (k,j)->(k:Int)<A.s.geo.gs/\0<=j/\j<128/\A.fz k=false/\(BW kd A.s.geo (A.hs.getD k hZ) j true).2=0
 | 0,e=>by cases e
 | n+1,e=>by
  have e:(match Cb A.s.geo A.hs A.fz (BD kd A.s.geo) s p t n with | some x=>some x | none=>IQ A.s.geo A.hs A.fz (BD kd A.s.geo) s p t n)=some (k,j):=e;cases ht:Cb A.s.geo A.hs A.fz (BD kd A.s.geo) s p t n with
  | some x =>
   rw[ht]at e;have e:x=(k,j):=by simpa using e
   rw[e]at ht;exact TZ h ht
  | none =>
   rw[ht]at e;have e:IQ A.s.geo A.hs A.fz (BD kd A.s.geo) s p t n=some (k,j):=e;unfold IQ at e;by_cases hf:A.fz (El A.s.geo s n)=true
   ·rw[if_pos hf]at e;cases e
   ·rw[if_neg hf]at e;cases hx:A.hs[El A.s.geo s n]? with
    | none=>rw[hx]at e;cases e
    | some x =>
     rw[hx]at e;simp only at e;obtain⟨h1,h2,h3,h4,h5⟩:=h.hds hx;by_cases h0:0<=BD kd A.s.geo x (Nt p t n)
     ·rw[if_pos h0]at e;cases e;obtain⟨u1,u2⟩:=mO h5 h0;exact⟨h1,h0,u2,by simpa using hf,by rw[h2];exact u1⟩
     ·rw[if_neg h0]at e;cases e
def Ak(A:Az)(b:Int):Az×Int×Int×Int :=
 match Cb A.s.geo A.hs A.fz (BD true A.s.geo) (N0 A.s.geo b).1 (N0 A.s.geo b).2.1 (N0 A.s.geo b).2.2 A.s.geo.gs.toNat with
 | some x=>(EL A x.1 (BW true A.s.geo (A.hs.getD x.1 hZ) x.2 true).1,2+x.1*A.s.geo.gr+x.2,(A.V.last:Int)+1,0)
 | none=>(A,0,0,26)
def Db(A:Az)(n:Int):Az×Int×Int×Int :=
 match Cb A.s.geo A.hs A.fz (BD false A.s.geo) (OA A.s.geo n).1 (OA A.s.geo n).2.1 (OA A.s.geo n).2.2 A.s.geo.gs.toNat with
 | some x=>(EL A x.1 (BW false A.s.geo (A.hs.getD x.1 hZ) x.2 true).1,x.1*A.s.geo.no+x.2,(A.V.last:Int)+1,0)
 | none=>(A,0,0,26)
theorem bV(h:Ao R w a v d A)(kd t:Bool)(s p:Int):RA kd A s p t=match Cb A.s.geo A.hs A.fz (BD kd A.s.geo) s p t A.s.geo.gs.toNat with
 | some x=>(EL A x.1 (BW kd A.s.geo (A.hs.getD x.1 hZ) x.2 true).1,((x.1:Int),x.2),(A.V.last:Int)+1,0)
 | none=>(A,(0,0),0,26):=by
 unfold RA;cases ht:Cb A.s.geo A.hs A.fz (BD kd A.s.geo) s p t A.s.geo.gs.toNat with
 | none=>rfl
 | some x =>
  obtain⟨_,_,_,_,e⟩:=TZ h (k:=x.1) (j:=x.2) ht;simp only;unfold JS;rw[if_neg (by rw[e];exact fun e=>e rfl)]
theorem qJ{b:Int}(h63:b<=9223372036854775807)(h:Ao R w a v d A)(hlast:A.V.last+1<=1000000)
  (hk:∀ w' R',Ab R w w'->Sb R R' w->Ao R' w' a v d (Ak A b).1->K (.tuple #[Yn (Ak A b).2.1,Yn (Ak A b).2.2.1,Yn (Ak A b).2.2.2]) w') :
  A7 Yt E5 #[Yo a,Yn b] w K:=by
 apply Oc;unfold HE;have hg:=h.ok;obtain⟨s1,s2,s3,s4⟩:=Ac9 hg b;have hda:=h.dlt;refine ff rfl (Ab0 h63 h fun w1 m1=>⟨_,_,rfl,?_⟩);obtain⟨w2,b1,b2,b3,b4⟩:=Aw (P:=Yt) (w:=w1) (T:=112) Ii;obtain⟨w3,c1,c2,c3,c4⟩:=b2.put (T:=112) (vs:=pV ((N0 A.s.geo b).1,(N0 A.s.geo b).2.1)) Bi rfl rfl (IN _);have z1:=m1.size;have M3:Ab No w (Go.Den.Af w3):=(m1.no (b3.own c3 (Le _))).drew
 refine⟨_,w2,b1,w3,c1,_,c2.drew.at.all Bi rfl,lG fun w4 m4=>⟨_,rfl,(c2.drew.keep m4 id).at.all Bi rfl,?_⟩⟩;have M4:=M3.no m4;have q4:=c2.drew.keep m4 id;have zq:=c2.drew.lt;have z4:=m4.size;have hq:w1.heap.size<w4.heap.size:=q4.lt;refine vJ (h.nos M4) ⟨s1,s2⟩ ⟨s3,by omega⟩ hlast fun w5 R5 m5 s5 h5=>⟨_,_,_,rfl,?_⟩;have nR:¬ R w1.heap.size:=fun e=>by have:=h.lt _ e;omega
 have nR5:¬ R5 w1.heap.size:=fun e=>by
  rcases s5 _ e with e|e
  ·exact nR e
  ·omega
 have M5:Ab R w w5:=(M4.mono fun _ _ e=>e.elim).trans m5 fun x _ e=>e;have S5:Sb R R5 w:=s5.up (M4.size);have hT:=bV h true (N0 A.s.geo b).2.2 (N0 A.s.geo b).1 (N0 A.s.geo b).2.1;have z5:=m5.size;obtain⟨w6,e1,e2,e3,e4⟩:=(q4.keep m5 nR).put (T:=112) (vs:=pV (RA true A (N0 A.s.geo b).1 (N0 A.s.geo b).2.1 (N0 A.s.geo b).2.2).2.1) Bi rfl rfl (IN _);have h6:=h5.own e3 nR5 (by omega)
 have M6:Ab R w w6:=M5.trans e3 fun z hz e=>by have e:z=w1.heap.size:=e;omega
 refine⟨w6,e1,?_⟩;unfold Ak at hk;rw[hT]at h6 e2 |-;cases ht:Cb A.s.geo A.hs A.fz (BD true A.s.geo) (N0 A.s.geo b).1 (N0 A.s.geo b).2.1 (N0 A.s.geo b).2.2 A.s.geo.gs.toNat with
 | none =>
  rw[ht]at hk h6;exact tt rfl (hk w6 R5 M6 S5 h6)
 | some x =>
  rw[ht]at hk h6 e2;obtain⟨i1,i2,i3,_,_⟩:=TZ h (k:=x.1) (j:=x.2) ht;obtain⟨p1,p2,p3⟩:=Nk hg i1;have hsz:=jB (g:=A.s.geo);refine ff rfl ⟨_,rfl,_,(h6.nos (Ab.refl _ _).drew).pv,_,e2.drew.at.fld (v:=Yn (x.1:Int)) Ah rfl,JZ (h6.nos (Ab.refl _ _).drew) fun w7 m7=>⟨_,rfl,(e2.drew.keep m7 id).at.fld (v:=Yn (x.1:Int)) Ah rfl,GE fun w8 m8=>⟨_,_,rfl,_,((e2.drew.keep m7 id).keep m8 id).at.fld (v:=Yn x.2) Ah rfl,?_⟩⟩⟩
  have eg:Bn (EL A x.1 (BW true A.s.geo (A.hs.getD x.1 hZ) x.2 true).1).s.geo x.1=(2+x.1*A.s.geo.gr,0):=p1;rw[eg,Ag (x:=2+(x.1:Int)*A.s.geo.gr+x.2) (by omega) (by omega)];have m68:Ab No w6 w8:=((Ab.refl No w6).drew.no m7).no m8;exact hk w8 R5 (M6.no m68) S5 (h6.nos m68)
theorem wX{n:Int}(h63:n<=9223372036854775807)(h:Ao R w a v d A)(hlast:A.V.last+1<=1000000)
  (hk:∀ w' R',Ab R w w'->Sb R R' w->Ao R' w' a v d (Db A n).1->K (.tuple #[Yn (Db A n).2.1,Yn (Db A n).2.2.1,Yn (Db A n).2.2.2]) w') :
  A7 Yt Dn #[Yo a,Yn n] w K:=by
 apply Pc;unfold Iq;have hg:=h.ok;obtain⟨s1,s2,s3,s4⟩:=uZ hg n;have hda:=h.dlt;refine ff rfl (qN h63 h fun w1 m1=>⟨_,_,rfl,?_⟩);obtain⟨w2,b1,b2,b3,b4⟩:=Aw (P:=Yt) (w:=w1) (T:=112) Ii;obtain⟨w3,c1,c2,c3,c4⟩:=b2.put (T:=112) (vs:=pV ((OA A.s.geo n).1,(OA A.s.geo n).2.1)) Bi rfl rfl (IN _);have z1:=m1.size;have M3:Ab No w (Go.Den.Af w3):=(m1.no (b3.own c3 (Le _))).drew
 refine⟨_,w2,b1,w3,c1,_,c2.drew.at.all Bi rfl,qM fun w4 m4=>⟨_,rfl,(c2.drew.keep m4 id).at.all Bi rfl,?_⟩⟩;have M4:=M3.no m4;have q4:=c2.drew.keep m4 id;have zq:=c2.drew.lt;have z4:=m4.size;have hq:w1.heap.size<w4.heap.size:=q4.lt;refine vJ (h.nos M4) ⟨s1,s2⟩ ⟨s3,by omega⟩ hlast fun w5 R5 m5 s5 h5=>⟨_,_,_,rfl,?_⟩;have nR:¬ R w1.heap.size:=fun e=>by have:=h.lt _ e;omega
 have nR5:¬ R5 w1.heap.size:=fun e=>by
  rcases s5 _ e with e|e
  ·exact nR e
  ·omega
 have M5:Ab R w w5:=(M4.mono fun _ _ e=>e.elim).trans m5 fun x _ e=>e;have S5:Sb R R5 w:=s5.up (M4.size);have hT:=bV h false (OA A.s.geo n).2.2 (OA A.s.geo n).1 (OA A.s.geo n).2.1;have z5:=m5.size;obtain⟨w6,e1,e2,e3,e4⟩:=(q4.keep m5 nR).put (T:=112) (vs:=pV (RA false A (OA A.s.geo n).1 (OA A.s.geo n).2.1 (OA A.s.geo n).2.2).2.1) Bi rfl rfl (IN _);have h6:=h5.own e3 nR5 (by omega)
 have M6:Ab R w w6:=M5.trans e3 fun z hz e=>by have e:z=w1.heap.size:=e;omega
 refine⟨w6,e1,?_⟩;unfold Db at hk;rw[hT]at h6 e2 |-;cases ht:Cb A.s.geo A.hs A.fz (BD false A.s.geo) (OA A.s.geo n).1 (OA A.s.geo n).2.1 (OA A.s.geo n).2.2 A.s.geo.gs.toNat with
 | none =>
  rw[ht]at hk h6;exact tt rfl (hk w6 R5 M6 S5 h6)
 | some x =>
  rw[ht]at hk h6 e2;obtain⟨i1,i2,i3,_,_⟩:=TZ h (k:=x.1) (j:=x.2) ht;obtain⟨_,_,g3,g4,g5,g6,_⟩:=Ax.1 hg;have hp:=OV (a:=(x.1:Int)) (b:=A.s.geo.no) (m:=16) (n:=64) (by omega) (by omega) (by omega) (by omega);have q6:=e2.drew;refine ff rfl ⟨_,q6.at.fld (v:=Yn (x.1:Int)) Ah rfl,_,rfl,_,(h6.nos (Ab.refl _ _).drew).pv,_,q6.at.fld (v:=Yn x.2) Ah rfl,JZ (h6.nos (Ab.refl _ _).drew) fun w7 m7=>⟨_,rfl,(q6.keep m7 id).at.fld (v:=Yn (x.1:Int)) Ah rfl,(q6.keep m7 id).at.fld (v:=Yn x.2) Ah rfl,_,WO _,?_⟩⟩
  have eg:(EL A x.1 (BW false A.s.geo (A.hs.getD x.1 hZ) x.2 true).1).s.geo.no=A.s.geo.no:=rfl;rw[eg,Ag (x:=(x.1:Int)*A.s.geo.no) (by omega) (by omega),Ag (x:=(x.1:Int)*A.s.geo.no+x.2) (by omega) (by omega)];have m68:Ab No w6 w7:=(Ab.refl No w6).drew.no m7;exact hk w7 R5 (M6.no m68) S5 (h6.nos m68)
end
theorem lZ{xs ys:List UInt8}{n:Int}(h:(Cy xs ys n).2.2=0):Wx (Cy xs ys n).1=true/\Bb (Cy xs ys n).1.geo<=n:=by
 have pick:∀(i:Int)(zs:List UInt8)(b:Sp),(Wx b=true/\Bb b.geo<=n)\/b=sZ->(Wx (Cv i zs n b)=true/\Bb (Cv i zs n b).geo<=n)\/Cv i zs n b=sZ:=by
  intro i zs b hb;unfold Cv;split
  ·rename_i h;exact .inl ⟨(kQ h.1).1,h.2.2.1⟩
  ·exact hb
 have hb:=pick 1 ys _ (pick 0 xs sZ (.inr rfl));unfold Cy at *;by_cases e:EU xs ys n=sZ
 ·rw[if_pos e]at h;cases h
 ·rw[if_neg e];exact hb.resolve_right e
theorem AcT{D:St}(h:(Bj D).2.2=0):Df (Bj D).1.geo=true/\Bb (Bj D).1.geo<=D.vs.length/\1<=(Bj D).1.gen:=by
 have:=lZ h
 exact⟨(JP.1 this.1).2,this.2,(JP.1 this.1).1.1⟩
theorem AcS{D:St}(h:(Bj D).2.2=0)(h2:Nq D (Bj D).1.geo=false):fI D=(sZ,8):=by
 unfold fI;rw[if_neg (by omega),if_neg (by rw[h2];decide)]
theorem yX{D:St}(h:(Bj D).2.2=0)(h2:Nq D (Bj D).1.geo=true):fI D=((Bj D).1,0):=by
 unfold fI;rw[if_neg (by omega),if_pos h2]
theorem dX:Al (Instr.build 244 #[]) (.agg ⟨[.slice none 0 0]⟩):=fun w=>by kernel_rfl
theorem lV(s:Sp)(sp wk:Nat):Al (Instr.build 131 #[(0,.agg ⟨sV s⟩),(1,Yo sp),(2,Yo wk),(3,Yn 0)]) (.agg ⟨vV s sp wk 0⟩):=fun w=>by kernel_rfl
section
variable{w0 wb w w':World}{R R0:Nat->Prop}{N v d sb mb sc:Nat}{L:List (Int×Value)}{s:Sp}{D:St}{V:Ps}{nx:Int}{K:Value->World->Prop}
theorem iG(h:AA w R d sb mb sc L D)(hs:Ma D){n:Int}(hk:∀ w' a c,Ab No w w'->UA w w' a (PT D n)->(PT D n).length<=c->K (.tuple #[.slice a (PT D n).length c,Yn (AO D n)]) w'):A7 Yt B7 #[Yo d,Yn n] w K:=by
 apply Kj;unfold Gx;refine tK h ⟨_,rfl,?_⟩;rcases GA (D:=D) n with ⟨he,_⟩ | ⟨he,i,v,rfl,hv,hver⟩
 ·have hb:PT D n=[]:=by unfold PT;rw[if_neg (by omega)]
  refine tt (by rw[he];rfl) ?_
  have:=hk w none 0 (Ab.refl _ _) (.inl ⟨rfl,hb⟩) (by rw[hb];exact Le _)
  rw[hb]at this;exact this
 ·have hb:PT D i=DY v:=by unfold PT;rw[if_pos he,hver]
  have hll:=h.wf.lastLen hv;refine ff (by rw[he];rfl) (fH h hv (hs v (XN hv)) fun w2 m2=>⟨_,rfl,_,_,MU w2,_,NY G5 (by rw[Ai,Lw]) (by simp[hll]) (Cu _),_,_,_,Tv _,?_⟩)
  have:=hk (w2.alloc (.cells ⟨A6 (DY v)⟩ 223)) (some ⟨w2.heap.size,0,none⟩) 256 (m2.alloc _) (.inr ⟨w2.heap.size,rfl,m2.size,by rw[hb];exact Av.new⟩) (by rw[hb,hll];exact Le _)
  rw[hb,hll,he]at this;exact this
theorem Ae6(h:Pz w0 R w v d V):∃ R4 sb mb sc L,AA w R4 d sb mb sc L V.C.D/\Ma V.C.D:=by
 obtain⟨C,eD,eM,hw,rl,c,mo,mm,ca,oa,Lo,Lm,h⟩:=h;obtain⟨rl2,m,sb,mb,sc,lc,la,L,mp,hC⟩:=h.cx;have hD:Ps.C (⟨C,V.last,V.ons⟩:Ps)=C:=rfl;have hd:=hC.disk;have hs:=hC.wf.small;rw[hD,eD]at hd hs;exact⟨_,sb,mb,sc,L,hd,hs⟩
theorem Vg.comp{R':Nat->Prop}{w1:World}(h2:∀ x,R' x->R0 x\/wb.heap.size<=x)(hm:Ab R0 wb w1)(k:Vg w1 R' N w' v d s D nx):Vg wb R0 N w' v d s D nx:=by
 obtain⟨R,sp,wk,k,w0,h1,hv,h3,h4,h5,h6,h7,h8,h9⟩:=k;have hz:=hm.size;refine⟨R,sp,wk,k,w0,h1,hv,⟨h3.1,h3.2.1,h3.2.2.1,?_⟩,fun x hx=>⟨?_,(h4 x hx).2⟩,hm.trans h5 fun x hx e=>(h2 x e).resolve_right (by omega),h6,by omega,h8,h9⟩
 ·rcases h3.2.2.2 with e|e
  ·exact h2 v e
  ·exact .inr (by omega)
 ·rcases(h4 x hx).1 with e|e
  ·exact h2 x e
  ·exact .inr (by omega)
theorem uG(h:WF D)(n:Int):(PT D n).length<=256:=by
 rcases GA (D:=D) n with ⟨he,_⟩|⟨he,i,v,rfl,hv,hver⟩
 ·unfold PT;rw[if_neg (by omega)];simp
 ·unfold PT;rw[if_pos he,hver,h.lastLen hv];exact Le _
set_option maxRecDepth 8000 in
theorem vS(h:AA w R d sb mb sc L D)(hsm:Ma D)(hlo:∀ x,R x->w0.heap.size<=x/\x<w.heap.size)(hm0:Ab No w0 w)(hrun:D.left=-1)
  (hk0:(fI D).2≠0->∀ w',Ab R w w'->K (.tuple #[.pointer none,Yn (fI D).2]) w')
  (hk:(fI D).2=0->∀ w' N v,Vg w R N w' v d (fI D).1 D (Fs D (fI D).1.geo (AZ (fI D).1.geo).toNat+1)->K (.tuple #[Yo v,Yn 0]) w') :
  A7 Yt JC #[Yo d] w K:=by
 have hlen:=h.wf.lo;have hhi:=h.wf.hi;have hwf:=h.wf;apply Zl;unfold SY;refine Zs h ⟨_,rfl,?_⟩;have e1:(if (1:Int) > (D.vs.length:Int)then(1:Int)else(D.vs.length:Int))=(D.vs.length:Int):=by rw[if_neg (by omega)]
 rw[e1];refine Ac1 h hsm hlo hm0 hrun hlen hhi (Le _) fun w2 sp m2 P2=>⟨_,_,rfl,ff rfl ?_⟩;obtain⟨R4,sb4,mb4,sc4,L4,hd2,hs2⟩:=Ae6 P2;refine iG hd2 hs2 (n:=0) fun w3 a3 c3 m3 f3 hc3=>⟨_,_,_,_,rfl,?_⟩;refine iG (hd2.nos m3) hs2 (n:=1) fun w4 a4 c4 m4 f4 hc4=>⟨_,_,_,_,rfl,?_⟩;have M24:Ab No w2 w4:=m3.no m4;refine Zs (hd2.nos M24) ⟨_,rfl,?_⟩;have l3:=uG hwf 0;have l4:=uG hwf 1
 refine bT (xs:=PT D 0) (ys:=PT D 1) rfl hc3 (f3.nos m4).row (by show(PT D 0).length<=_;omega) rfl hc4 f4.row (by show(PT D 1).length<=_;omega) fun w6 m6=>⟨_,_,_,rfl,?_⟩;have M26:=M24.no m6;show ∃ q10:Addr,_;obtain⟨w7,b1,b2,b3,b4⟩:=Aw (P:=Yt) (w:=w6) (T:=127) IT;obtain⟨w8,c1,c2,c3',c4'⟩:=b2.put (T:=127) (vs:=sV (Bj D).1) Bm rfl rfl (LF _);have m8:Ab No w6 w8:=b3.own c3' (Le _)
 refine⟨_,w7,b1,w8,c1,?_⟩;rw[DN];refine Aa (fun he=>?_) (fun he=>?_)
 ·have he:(Bj D).2.2≠0:=Ld he;have e:fI D=(sZ,(Bj D).2.2):=by unfold fI;rw[if_pos he]
  have:=hk0 (by rw[e];exact he) w8 (((m2.no M26).no m8).mono fun _ _ h=>h.elim)
  rw[e]at this;exact this
 have he:(Bj D).2.2=0:=VU.1 (Lc he);obtain⟨hg,hsz,hgen⟩:=AcT he;have m8d:Ab No w6 (Go.Den.Af w8):=m8.drew;refine⟨_,c2.drew.at.all Bm rfl,?_⟩;apply cZ;unfold U0;obtain⟨w9,p1,p2,p3,p4⟩:=AB (P:=Yt) (w:=Go.Den.Af w8) (T:=244) (cs:=[.slice none 0 0]);have q9:Av w9 w6.heap.size 0 (sV (Bj D).1):=c2.drew.keep p3 id;refine⟨_,dX,_,w9,p1,_,rfl,q9.at.all Bm rfl,_,lV _ _ _,?_⟩
 obtain⟨w10,v1,v2,v3,v4⟩:=AB (P:=Yt) (w:=w9) (T:=131) (cs:=vV (Bj D).1 sp (Go.Den.Af w8).heap.size 0);refine⟨_,w10,v1,?_⟩;have M69:Ab No w6 w9:=m8d.no p3;have M29:Ab No w2 w9:=M26.no M69;have M210:Ab No w2 w10:=M29.no v3;have hz2:=m2.size;have hz6:=M26.size;have hz9:=M29.size;have hz69:=M69.size;have hz0:=hm0.size;have hlt6:=c2.lt;have hz8:w8.heap.size<=w9.heap.size:=p3.size;have hG:∀ x,D9 R w w2 x->x<w2.heap.size:=fun x hx=>by
  rcases hx with hx|hx
  ·have:=(hlo x hx).2;omega
  ·omega
 have X10:Vg w9 (D9 R w w2) w10.heap.size w10 w9.heap.size d (Bj D).1 D 0 :=
  ⟨D9 R w w2,sp,_,_,w0,P2.nos M210,v2,⟨fun e=>by have:=hG _ e;omega,by omega,by omega,.inr (Le _)⟩,fun x hx=>⟨.inl hx,by have:=hG _ hx;omega⟩,v3.mono fun _ _ h=>h.elim,Le _,by omega,by omega,p2.keep v3 id,fun e=>by have:=hG _ e;have:(Go.Den.Af w8).heap.size=w8.heap.size:=rfl;omega,(by have:=p2.lt;omega),(by show _<=w8.heap.size;omega),(by have:=p2.lt;omega),(by show d<=w8.heap.size;have:=(hlo d h.rb).2;omega),(by have:=(hlo d h.rb).2;omega)⟩
 have hq:∀{w':World}{N:Nat}{nx:Int},Vg w9 (D9 R w w2) N w' w9.heap.size d (Bj D).1 D nx->Av w' w6.heap.size 0 (sV (Bj D).1):=fun X=>q9.keep X.mod fun e=>by have:=hG _ e;omega
 have back:∀ x,D9 R w w2 x->R x\/w.heap.size<=x:=fun x hx=>by
  rcases hx with hx|hx
  ·exact .inl hx
  ·exact .inr hx.1
 have bm:Ab R w w9:=(m2.no M29).mono fun _ _ h=>h.elim;have hno:∀{w':World}{N:Nat}{nx:Int},Vg w9 (D9 R w w2) N w' w9.heap.size d (Bj D).1 D nx->Nq D (Bj D).1.geo=false->∀ w'',Ab No w' w''->K (.tuple #[.pointer none,Yn 8]) w'':=fun X hf w'' m=>by
  have e:=AcS he hf
  have:=hk0 (by rw[e];decide) w'' ((X.comp back bm).mod.no m)
  rw[e]at this;exact this
 obtain⟨g1,g2,g3,g4,g5,g6,g7,g8,g9⟩:=Ax.1 hg;refine⟨_,(hq X10).at.fld2 Ah rfl,?_⟩
 refine⟨fun x w11=>∃(k N:Nat)(y:Value),(k:Int)<=(Bj D).1.geo.gs/\x=[Yn k,y]/\Vg w9 (D9 R w w2) N w11 w9.heap.size d (Bj D).1 D 0/\∀ j,j<k->Nj D (Bj D).1.geo j=true,fun x _=>((Bj D).1.geo.gs-nI x 0).toNat,
  ⟨0,_,undef,by omega,rfl,X10,fun j hj=>by omega⟩,?_⟩
 rintro x w11 ⟨k,N,y,hk2,rfl,X11,hh⟩;refine⟨_,rfl,Aa (fun hl=>?_) (fun hl=>?_)⟩
 ·have hl:(k:Int)<(Bj D).1.geo.gs:=Ld hl;refine AaJ X11 hsz fun w12 X12=>⟨_,_,rfl,?_⟩;obtain⟨w13,s1,s2,s3,s4⟩:=Aw (P:=Yt) (w:=w12) (T:=171) Bh;have hwd:=Xc D (Bj D).1.geo k;obtain⟨w14,t1,t2,t3,t4⟩:=s2.put (T:=171) (vs:=hV (Gj D (Bj D).1.geo k).1) Aq rfl (Ap hwd) (Co _);have m14:Ab No w12 w14:=s3.own t3 (Le _);refine⟨_,w13,s1,w14,t1,?_⟩
  refine Ad.cut (fun z w15=>z=[.bool (!Nj D (Bj D).1.geo k)]/\w15=w14) ?_ ?_
  ·rw[DN];refine Aa (fun hp=>⟨?_,rfl⟩) (fun hp=>⟨_,t2.at.fld (v:=Yn (Gj D (Bj D).1.geo k).1.no) Ah rfl,?_,rfl⟩)
   ·have hp:=Ld hp;have:Nj D (Bj D).1.geo k=false:=by unfold Nj;rw[Lh fun e=>hp e.1]
    rw[this];rfl
   ·have hp:=VU.1 (Lc hp);rw[DN]
    congr 2
    unfold Nj;by_cases e:(Gj D (Bj D).1.geo k).1.no=k
    ·rw[Lh (fun x=>x e),Li ⟨hp,e⟩];rfl
    ·rw[Li e,Lh fun x=>e x.2];rfl
  rintro z w15 ⟨rfl,rfl⟩;refine⟨_,rfl,Aa (fun hp=>?_) (fun hp=>?_)⟩
  ·refine hno X12 ?_ w15 m14;unfold Nq;rw[Ld2];left;rw[List.all_eq_false];exact⟨k,W9.2 (by omega),by simpa using hp⟩
  ·have hp:Nj D (Bj D).1.geo k=true:=by simpa using hp
   rw[Ag (x:=(k:Int)+1) (by omega) (by omega)]
   exact⟨⟨k+1,_,_,by omega,rfl,X12.nos m14,fun j hj=>by
    by_cases e:j=k
    ·rw[e];exact hp
    ·exact hh j (by omega)⟩,by simp[nI,A2];omega⟩
 have hl:(k:Int)=(Bj D).1.geo.gs:=by have:=Lc hl;omega
 refine bZ (by omega) X11 hsz fun w16 X16=>⟨_,_,rfl,?_⟩;obtain⟨w17,s1,s2,s3,s4⟩:=Aw (P:=Yt) (w:=w16) (T:=69) AC;have hwd:=S1 D (Bj D).1.geo 1;obtain⟨w18,t1,t2,t3,t4⟩:=s2.put (T:=69) (vs:=nV (Cp D (Bj D).1.geo 1).1) Am rfl (A4 hwd) (Bl _);have m18:Ab No w16 w18:=s3.own t3 (Le _);refine⟨_,w17,s1,w18,t1,?_⟩;refine Ad.cut (fun z w19=>z=[.bool (!PU D (Bj D).1.geo)]/\w19=w18) ?_ ?_
 ·rw[DN];refine Aa (fun hp=>⟨?_,rfl⟩) (fun hp=>⟨_,t2.at.fld (v:=Yn (Cp D (Bj D).1.geo 1).1.kind) Ah rfl,?_,rfl⟩)
  ·have hp:=Ld hp;have:PU D (Bj D).1.geo=false:=by unfold PU;rw[Lh fun e=>hp e.1]
   rw[this];rfl
  ·have hp:=VU.1 (Lc hp);rw[DN]
   congr 2
   unfold PU;by_cases e:(Cp D (Bj D).1.geo 1).1.kind=2
   ·rw[Lh (fun x=>x e),Li ⟨hp,e⟩];rfl
   ·rw[Li e,Lh fun x=>e x.2];rfl
 rintro z w19 ⟨rfl,rfl⟩;refine⟨_,rfl,Aa (fun hp=>?_) (fun hp=>?_)⟩
 ·refine hno X16 ?_ w19 m18;unfold Nq;rw[Ld2];right;simpa using hp
 have hp:PU D (Bj D).1.geo=true:=by simpa using hp
 have hok:Nq D (Bj D).1.geo=true:=by
  unfold Nq;rw[hp,Bool.and_true,cI];intro j hj;exact hh j (by have:=W9.1 hj;omega)
 have eM:=yX he hok;have X19:=X16.nos m18;refine⟨_,(hq X19).at.fldA A5 (by show 4<=4;omega) rfl,PL fun w20 m20=>⟨_,rfl,?_⟩⟩;have hsl:=aC (g:=(Bj D).1.geo)
 refine⟨fun x w21=>∃ n N:Nat,(n:Int)<=AZ (Bj D).1.geo/\x=[Yn n]/\Vg w9 (D9 R w w2) N w21 w9.heap.size d (Bj D).1 D (Fs D (Bj D).1.geo n),fun x _=>(AZ (Bj D).1.geo-nI x 0).toNat,
  ⟨0,_,by omega,rfl,X19.nos m20⟩,?_⟩
 rintro x w21 ⟨n,N,hn,rfl,X21⟩;refine⟨_,rfl,Aa (fun hl2=>?_) (fun hl2=>?_)⟩
 ·have hl2:(n:Int)<AZ (Bj D).1.geo:=Ld hl2;refine bZ (by omega) X21 hsz fun w22 X22=>⟨_,_,rfl,?_⟩;obtain⟨w23,s1,s2,s3,s4⟩:=Aw (P:=Yt) (w:=w22) (T:=69) AC;have hwd:=S1 D (Bj D).1.geo n;obtain⟨w24,t1,t2,t3,t4⟩:=s2.put (T:=69) (vs:=nV (Cp D (Bj D).1.geo n).1) Am rfl (A4 hwd) (Bl _);have m24:Ab No w22 w24:=s3.own t3 (Le _)
  have X24:=(X22.nos m24).nos (Ab.refl No w24).drew;obtain⟨w25,u1,u2⟩:=X24.set (if (Cp D (Bj D).1.geo n).1.id > Fs D (Bj D).1.geo n then(Cp D (Bj D).1.geo n).1.id else Fs D (Bj D).1.geo n);refine⟨_,w23,s1,w24,t1,_,rfl,_,X24.next,_,t2.drew.at.fld (v:=Yn (Cp D (Bj D).1.geo n).1.id) Bq rfl,_,rfl,w25,u1,?_⟩;rw[Ag (x:=(n:Int)+1) (by omega) (by omega)];exact⟨⟨n+1,_,by omega,rfl,u2⟩,by simp[nI,A2];omega⟩
 have hl2:(n:Int)=AZ (Bj D).1.geo:=by have:=Lc hl2;omega
 have hnb:=aV D (Bj D).1.geo n;have hnn:=Xo D (Bj D).1.geo n;obtain⟨w26,u1,u2⟩:=X21.set (Fs D (Bj D).1.geo n+1);refine⟨_,rfl,_,X21.next,_,rfl,w26,?_,?_⟩
 ·rw[Ag (by omega) (by omega)];exact u1
 have:=hk (by rw[eM]) w26 N w9.heap.size
 rw[eM]at this;refine this ?_;show Vg w R N w26 w9.heap.size d (Bj D).1 D (Fs D (Bj D).1.geo (AZ (Bj D).1.geo).toNat+1);rw[<- hl2,Lz];exact u2.comp back bm
end
def gKn:Gm:=⟨16,8,2⟩
theorem Z4(w:World)(p:Option Addr)(m:Option Nat):(Instr.build 124 #[(0,.pointer p),(1,.map m)]).run Yt w=.ok (.agg ⟨[.pointer p,.map m]⟩) w:=by kernel_rfl
section
variable{w wb w':World}{R R0 R':Nat->Prop}{N a v d:Nat}{A:Az}{s:Sp}{D:St}{V:Ps}{W:List Wt}{nx:Int}{hs:List Hd}{K:Value->World->Prop}
theorem Vg.vu(h:Vg wb R0 N w v d s D nx):∃ R k,Vu R w v d s ⟨⟨D,k,[]⟩,0,[]⟩ [] nx/\∀ z,R z->R0 z\/wb.heap.size<=z\/d<=z:=by
 obtain⟨R1,sp,wk,k,w0,h1,h2,h3,h4,h5,h6,h7,h8,c1,c2,c3,c4,c5,c6,c7⟩:=h;have z2:=h2.lt;refine⟨fun z=>R1 z\/z=wk\/z=v,k,⟨w0,R1,fun z=>z=wk,sp,wk,⟨h1,h2,⟨none,0,⟨c1,Ow.nilG Th,(fun _ e=>by cases e),fun e=>e.2 rfl⟩⟩,fun z hz e=>c2 (e ▸ hz),⟨h3.1,fun e=>c3 e.symm⟩,fun z hz=>?_⟩,fun z hz=>hz,fun z hz=>?_⟩,fun z hz=>?_⟩
 ·rcases hz with rfl|rfl
  ·exact⟨c6,by omega⟩
  ·exact⟨c7,z2⟩
 ·rcases hz with hz|rfl|rfl
  ·have:=(h4 z hz).2;omega
  ·omega
  ·exact z2
 ·rcases hz with hz|rfl|rfl
  ·exact(h4 z hz).1.imp id .inl
  ·exact .inr (.inr c6)
  ·exact .inr (.inr c7)
theorem Ab1(h:Vu R w v d s V W nx)(hH:B2 V s.geo hs)(hk:∀ w' R' a,Ab No w w'->Sb R R' w->Ao R' w' a v d ⟨s,V,W,nx,hs,fun _=>false⟩->w.heap.size<=a->K (Yo a) w') :
  A7 Yt J0 #[Yo v] w K:=by
 apply YS;unfold SF;have hdl:=h.dlo;have hvl:=h.lt v h.vIn;have m1:Ab No w (w.alloc (.map #[] 0)):=(Ab.refl No w).alloc _;have p1:AU (w.alloc (.map #[] 0)) w.heap.size []:=AU.new;have s1:(w.alloc (.map #[] 0)).heap.size=w.heap.size+1:=by simp
 refine ff rfl ⟨_,_,CG,_,fun w=>Z4 w _ _,?_⟩;generalize w.alloc (.map #[] 0)=w1 at *;obtain⟨w2,c1,c2,c3,c4⟩:=AB (P:=Yt) (w:=w1) (T:=124) (cs:=[Yo v,.map (some w.heap.size)]);refine⟨_,w2,c1,hk w2 (fun z=>R z\/z=w1.heap.size\/z=w.heap.size) _ (m1.no c3) (fun z hz=>?_) ⟨R,w.heap.size,[],h.nos (m1.no c3),c2,p1.keep c3 id,fun k=>rfl,⟨fun e=>?_,fun e=>?_,by omega,by omega,by omega⟩,fun z hz=>hz,fun z hz=>?_,hH⟩ (by omega)⟩
 ·rcases hz with hz|rfl|rfl
  ·exact .inl hz
  ·exact .inr (by omega)
  ·exact .inr (Le _)
 ·have:=h.lt _ e;omega
 ·have:=h.lt _ e;omega
 ·rcases hz with hz|rfl|rfl
  ·have:=h.lt _ hz;omega
  ·omega
  ·omega
theorem dK(h:Ao R w a v d A)(hk:K (Yo v) w):A7 Yt Cz #[Yo a] w K:=by
 apply Qg;unfold IZ;exact ff rfl ⟨_,rfl,_,h.pv,hk⟩
-- of none
end
def AdH(A:Az)(W:List Wt):Az:=⟨A.s,A.V,W,A.nx,A.hs,A.fz⟩
def GH(A:Az)(x:Int×Int)(th tk:Bool)(n:Int):Az×Int :=
 if th=false then(A,3)else if (!tk || A.W.any fun y=>JQ y.2 x)=true then(A,6)else(AdH A (Su A.W (n,x)),HA A.W x.1)
section
variable{w w':World}{R R':Nat->Prop}{a v d:Nat}{A:Az}{K:Value->World->Prop}
theorem zU:Cw Yt 129=true:=by kernel_rfl
theorem Ao.wk(h:Ao R w a v d A):∃(w0:World)(Rs Z:Nat->Prop)(sp wk:Nat),Pz w0 Rs w sp d A.V/\Wk 242 Z w wk A.W/\(∀ x,Z x->x<w.heap.size)/\Av w v 0 (vV A.s sp wk A.nx) /\
  ∀(w':World)(Z':Nat->Prop)(W':List Wt),Ab (fun z=>z=wk) w w'->(∀ x,Z x->Z' x)->Wk 242 Z' w' wk W'->Ab R w w'/\∃ R',Sb R R' w/\Ao R' w' a v d (AdH A W')/\∀ z,w.heap.size<=z->Z' z->¬ R' z:=by
 have hlt:=h.lt;have hhd:=h.hd;obtain⟨Rv,hv,hRv,hc⟩:=h.vol;have hvl:=hv.lt;obtain⟨w0,Rs,Z,sp,wk,a1,a2,a3,a4,a5,a6,a7⟩:=hv.op;refine⟨w0,Rs,Z,sp,wk,a1,a2,a3,a4,fun w' Z' W' m hZ hW=>?_⟩;obtain⟨M,hV⟩:=a7 w' Z' W' m hZ hW;obtain⟨c1,c2,c3⟩:=hc w' _ A.V W' A.nx A.hs M (fun z hz=>hz.imp id (·.1)) hV hhd;refine⟨c1,_,c2,c3,fun z hz hZz e=>?_⟩;rcases e with e | e | e
 ·have:=hlt z e;omega
 ·have:=hvl z e;omega
 ·exact e.2.2 hZz
theorem iK{sp wk:Nat}(h:Av w v 0 (vV A.s sp wk A.nx))(hk:K (Yo wk) w):A7 Yt Gc #[Yo v] w K:=by
 apply Un;unfold MH;exact ff rfl ⟨_,rfl,_,h.at.fld zU rfl,hk⟩
theorem qO{sp wk:Nat}(h:Av w v 0 (vV A.s sp wk A.nx))(hk:K (Yo sp) w):A7 Yt H3 #[Yo v] w K:=by
 apply TG;unfold LY;exact ff rfl ⟨_,rfl,_,h.at.fld KK rfl,hk⟩
theorem Zu{x:Int×Int}{th tk:Bool}{n:Int}(h:Ao R w a v d A)(hn:A.W.length<=4999)(hk:∀ w' R',Ab R w w'->Sb R R' w->Ao R' w' a v d (GH A x th tk n).1->K (Yn (GH A x th tk n).2) w') :
  A7 Yt By #[Yo a,.agg ⟨JD x⟩,.bool th,.bool tk,Yn n] w K:=by
 apply Oe;unfold HG;obtain⟨w1,b1,b2,b3,b4⟩:=AB (P:=Yt) (w:=w) (T:=254) (cs:=JD x);refine⟨_,w1,b1,Aa (fun h0=>?_) (fun h0=>?_)⟩
 ·have e:GH A x th tk n=(A,3):=by unfold GH;rw[if_pos (by simpa using h0)]
  rw[e]at hk;exact hk w1 R (b3.mono fun _ _ e=>e.elim) (Sb.refl _ _) (h.nos b3)
 have h0:¬ th=false:=by simpa using h0
 have md:Ab No w (Go.Den.Af w1):=b3.drew;have h1:=h.nos md;have q1:=b2.drew;obtain⟨w0,Rs,Z,sp,wk,a1,a2,a3,a4,a5⟩:=h1.wk;refine Ad.cut (fun z w4=>z=[.bool (!tk || A.W.any fun y=>JQ y.2 x)]/\Ab No (Go.Den.Af w1) w4) (Aa (fun ht=>⟨?_,Ab.refl _ _⟩) (fun ht=>⟨_,rfl,_,h1.pv,_,q1.at.all Ee rfl,iK a4 ⟨_,rfl,q1.at.all Ee rfl,sY a2 (by omega) fun w3 m3=>⟨_,rfl,?_,m3⟩⟩⟩)) ?_
 ·rw[ht];rfl
 ·rw[ht];rfl
 rintro z w4 ⟨rfl,m4⟩;have m14:Ab No w (Go.Den.Af w4):=(md.no m4).drew;refine⟨_,rfl,Aa (fun hb=>?_) (fun hb=>?_)⟩
 ·have e:GH A x th tk n=(A,6):=by unfold GH;rw[if_neg h0,if_pos hb]
  rw[e]at hk;exact hk w4 R ((md.no m4).mono fun _ _ e=>e.elim) (Sb.refl _ _) (h1.nos m4)
 ·have e:GH A x th tk n=(AdH A (Su A.W (n,x)),HA A.W x.1):=by unfold GH;rw[if_neg h0,if_neg (by rw[hb];decide)]
  rw[e]at hk;have h4:=h.nos m14;have q4:=(q1.keep m4 id).drew;obtain⟨w0,Rs,Z,sp,wk,a1,a2,a3,a4,a5⟩:=h4.wk;refine⟨_,rfl,_,h4.pv,_,q4.at.all Ee rfl,iK a4 ⟨_,rfl,q4.at.all Ee rfl,sX (n:=n) (k:=x.1) (m:=x.2) a2 (by omega) a3 fun w6 m6 hW=>⟨_,rfl,?_⟩⟩⟩;obtain⟨M,R',s,hA,_⟩:=a5 w6 Z _ m6 (fun _ e=>e) hW;exact hk w6 R' ((m14.mono fun _ _ e=>e.elim).trans M fun x _ e=>e) (s.up m14.size) hA
theorem lS(x y:Int):Al (Instr.build 254 #[(0,Yn x),(1,Yn y)]) (.agg ⟨JD (x,y)⟩):=fun w=>by kernel_rfl
end
theorem Br(V:Ps)(g:Gm)(s:Int):E3 (A1 V g s).1:=by unfold A1;split;exact jV;exact Vi _ _
section
variable{w w':World}{R R':Nat->Prop}{a v d:Nat}{A:Az}{s:Sp}{V:Ps}{W:List Wt}{nx:Int}{K:Value->World->Prop}
theorem cC{k:Int}(h63:k<=9223372036854775807)(h:Vu R w v d s V W nx)(hk:∀ w',Ab No w w'->K (.tuple #[Yn (Au s.geo k).1,Yn (Au s.geo k).2.1,Yn (Au s.geo k).2.2]) w'):A7 Yt DC #[Yo v,Yn k] w K:=by
 apply LP;unfold Hz;exact ff rfl ⟨_,rfl,_,h.geo,Vc h63 fun w' m=>⟨_,_,_,rfl,hk w' m⟩⟩
theorem vT{k:Int}(h63:k<=9223372036854775807)(h:Vu R w v d s V W nx)(hsz:Bb s.geo<=V.C.D.vs.length)
  (hk:∀ w' R',Ab R w w'->Sb R R' w->Vu R' w' v d s V W nx->K (.tuple #[.agg ⟨nV (A1 V s.geo k).1⟩,Yn (A1 V s.geo k).2]) w'):A7 Yt BP #[Yo v,Yn k] w K:=by
 apply LO;unfold Hy;obtain⟨w1,b1,b2,b3,b4⟩:=Aw (P:=Yt) (w:=w) (T:=69) AC;have hlt:=h.lt;have hdv:=h.dlo;have hvl:=hlt v h.vIn;have n1:¬ R w.heap.size:=fun e=>by have:=hlt _ e;omega
 have fin:∀(w':World)(R':Nat->Prop)(i:Nd)(e:Int),Av w' w.heap.size 0 (nV nZ)->Ab R w w'->Sb R R' w->¬ R' w.heap.size->Vu R' w' v d s V W nx->(i,e)=A1 V s.geo k->∃ w3:World,Gr (Instr.storeAt 69 (Yo w.heap.size) (.agg ⟨nV i⟩)) w' w3/\∃ gR2:Array Value,Ru (Instr.loadAt 69 (Yo w.heap.size)) w3 (.agg gR2) w3/\K (.tuple #[.agg gR2,Yn e]) w3:=fun w' R' i e hat m s' nr hv he=>by
  have hw:E3 i:=by have:=Br V s.geo k;rw[<- he]at this;exact this
  obtain⟨w3,c1,c2,c3,c4⟩:=hat.put (T:=69) (vs:=nV i) Am rfl (A4 hw) (Bl _);refine⟨w3,c1,_,c2.at.all Am (A4 hw),?_⟩
  have:=hk w3 R' (m.trans c3 fun x hx e=>by have e:x=w.heap.size:=e;omega) s' (hv.keep c3 (fun z hz e=>by have e:z=w.heap.size:=e;rw[e]at hz;exact nr hz) fun z e=>by have e:z=w.heap.size:=e;omega)
  rw[<- he]at this;exact this
 have h1:=h.nos b3;refine⟨_,w1,b1,cC h63 h1 fun w2 m2=>⟨_,_,_,rfl,?_⟩⟩;have h2:=h1.nos m2;have m02:=b3.no m2;rw[DN];refine Aa (fun he=>⟨_,Eg,?_⟩) (fun he=>?_)
 ·have he:=Ld he;exact fin w2 R nZ _ (b2.keep m2 id) (m02.mono fun _ _ e=>e.elim) (Sb.refl _ _) n1 h2 (by unfold A1;rw[if_pos he])
 have he:=VU.1 (Lc he);have hin:=EI (g:=s.geo) (s:=k) (b:=(Au s.geo k).1) (p:=(Au s.geo k).2.1) (by rw[<- he]);have z2:=m02.size;have zl:=(b2.keep m2 id).lt;refine⟨_,rfl,?_⟩;refine h2.rd (by omega) (by omega) fun w4 R4 g cc m4 s4 h4 hg1 hg2 hat hl hcc=>⟨_,_,_,_,rfl,ff rfl ?_⟩;refine Xe hl hcc (.inr ⟨_,_,rfl,hat.at⟩) (by omega) fun w6 m6=>⟨_,_,rfl,?_⟩
 refine fin w6 R4 _ _ (((b2.keep m2 id).keep m4 n1).keep m6 id) (((m02.mono fun _ _ e=>e.elim).trans m4 fun x _ e=>e).no m6) (s4.up z2) (fun e=>?_) (h4.nos m6) (by unfold A1;rw[if_neg (by rw[he];decide)]);rcases s4 _ e with e | e
 ·exact n1 e
 ·omega
theorem qL{k:Int}(h63:k<=9223372036854775807)(h:Ao R w a v d A)(hk:∀ w' R',Ab R w w'->Sb R R' w->Ao R' w' a v d A->K (.tuple #[.agg ⟨nV (A1 A.V A.s.geo k).1⟩,Yn (A1 A.V A.s.geo k).2]) w'):A7 Yt BP #[Yo v,Yn k] w K:=by
 have hd:=h.hd;obtain⟨Rv,hv,_,hc⟩:=h.vol;refine vT h63 hv hd.2.1 fun w' R' m s hv'=>?_;obtain⟨c1,c2,c3⟩:=hc w' R' A.V A.W A.nx A.hs m s hv' hd;exact hk w' _ c1 c2 c3
end
-- the document's
abbrev Fr:=Int×Bool×Bool
theorem kB{V:Ps}{n f:Int}{data:Bk}{after:List Int}(h:E0 V n f data after=0){y:Ch}:y∈(BF V n f data after).all↔y=HC V n.toNat f.toNat data after\/y∈V.all:=by
 have e:BF V n f data after=K5 V (HC V n.toNat f.toNat data after):=by unfold BF;rw[if_pos h]
 rw[e];generalize hx:HC V n.toNat f.toNat data after=x;have hall:(Bt V x.b).all=V.all:=IK;obtain⟨o,ho,hob⟩:=Yv (V:=V) (b:=x.b);rw[<- hall];show y∈((Bt V x.b).ons.map fun o=>if o.b=x.b then { o with l:=o.l++[x] }else o).flatMap (·.l)↔_;unfold Ps.all;simp only[List.mem_flatMap,L2];constructor
 ·rintro⟨_,⟨p,hp,rfl⟩,hy⟩;by_cases c:p.b=x.b
  ·rw[if_pos c]at hy;rcases Ln.1 hy with hy | hy
   ·exact .inr ⟨p,hp,hy⟩
   ·exact .inl (by simpa using hy)
  ·rw[if_neg c]at hy;exact .inr ⟨p,hp,hy⟩
 ·rintro(rfl|⟨p,hp,hy⟩)
  ·exact⟨_,⟨o,ho,rfl⟩,by rw[if_pos hob];simp⟩
  ·refine⟨_,⟨p,hp,rfl⟩,?_⟩;split
   ·exact Lv2 _ hy
   ·exact hy
theorem B2.same{V V':Ps}{g:Gm}{hs:List Hd}(h:B2 V g hs)(hl:V'.C.D.vs.length=V.C.D.vs.length)(hc:∀ k:Nat,(k:Int)<g.gs->A3 V' (2+k*g.gr).toNat=A3 V (2+k*g.gr).toNat):B2 V' g hs :=
 ⟨h.1,by rw[hl];exact h.2.1,h.2.2.1,fun k x hx=>by
  rw[hc k (h.lt hx)];exact h.2.2.2 k x hx⟩
def vA(A:Az)(V:Ps):Az:=⟨A.s,V,A.W,A.nx,A.hs,A.fz⟩
theorem QX{g:Gm}{b:Int}(h:(AT g b).1=4):∃(k:Nat)(j:Int),b=2+k*g.gr+j/\(k:Int)<g.gs/\1+AV g<=j/\j<g.gr:=by
 obtain⟨_,_,_,h3,h4,h5,h6⟩:=Gh h;obtain⟨k,hk⟩:=dG h3;rw[hk]at h4 h5 h6;exact⟨k,_,by omega,h4,h5,h6⟩
theorem jM{g:Gm}(hg:Df g=true){k k':Nat}{j:Int}(h1:1+AV g<=j)(h2:j<g.gr):(2+(k':Int)*g.gr).toNat≠(2+k*g.gr+j).toNat:=by
 intro e;obtain⟨g1,_⟩:=Ax.1 hg;have ht:=TR (g:=g);have p1:0<=(k:Int)*g.gr:=iC (by omega) (by omega);have p2:0<=(k':Int)*g.gr:=iC (by omega) (by omega);have e:(k':Int)*g.gr=j+k*g.gr:=by omega
 have e2:((k':Int)*g.gr) % g.gr=(j+k*g.gr) % g.gr:=by rw[e]
 rw[Int.mul_emod_left,Lz1,wN (by omega) h2]at e2;omega
section
variable{w w':World}{R R':Nat->Prop}{a v d:Nat}{A:Az}{K:Value->World->Prop}
theorem Ao.sto(h:Ao R w a v d A):∃(w0:World)(Rs:Nat->Prop)(sp wk:Nat),Pz w0 Rs w sp d A.V/\Av w v 0 (vV A.s sp wk A.nx)/\(∀ z,Rs z->R z) /\
  ∀ w' V',Ab Rs w w'->Pz w0 (D9 Rs w w') w' sp d V'->B2 V' A.s.geo A.hs->Ab R w w'/\∃ R',Sb R R' w/\Ao R' w' a v d (vA A V'):=by
 obtain⟨Rv,hv,hRv,hc⟩:=h.vol;obtain⟨w0,Rs,Z,sp,wk,a1,a2,a3,a4,a5,a6,a7⟩:=hv.op;refine⟨w0,Rs,sp,wk,a1,a4,fun z hz=>hRv z (a5 z hz),fun w' V' m hP hH=>?_⟩;obtain⟨M,hV⟩:=a6 w' w' V' m (Ab.refl _ _) hP;obtain⟨c1,c2,c3⟩:=hc w' _ V' A.W A.nx A.hs M Sb.gro hV hH;exact⟨c1,_,c2,c3⟩
theorem iI{b:Int}(h:Ao R w a v d A)(hb:(AT A.s.geo b).1=4)(hk:∀ w',Ab No w w'->K (Yn 0) w'):A7 Yt Gd #[Yo v,Yn b] w K:=by
 apply Uo;unfold MI;obtain⟨Rv,hv,_⟩:=h.vol;refine ff rfl ⟨_,rfl,_,hv.geo,WX fun w1 m1=>⟨_,_,rfl,ff ?_ (hk w1 m1)⟩⟩;rw[DN,hb];rfl
end
def Tu(A:Az)(k:Int)(i:Nd)(after:List Int):Az:=vA A (BF A.V (Au A.s.geo k).1 (64*(Au A.s.geo k).2.1) (Ek i) after)
def Xx(A:Az)(b from':Int)(data:Bk)(after:List Int):Az:=vA A (BF A.V b from' data after)
theorem LG{V:Ps}(n f:Int)(data:Bk)(after:List Int){x:Int}(h:V.opn x=true):(BF V n f data after).opn x=true:=by
 by_cases e:E0 V n f data after=0
 ·obtain⟨c,hc,hx⟩:=Y3.1 h;exact Y3.2 ⟨c,(kB e).2 (.inr hc),hx⟩
 ·unfold BF;rw[if_neg e];exact h
theorem jZ{V:Ps}{n f:Int}{data:Bk}{after:List Int}(e:E0 V n f data after=0):(BF V n f data after).opn ((V.last:Int)+1)=true :=
 Y3.2 ⟨HC V n.toNat f.toNat data after,(kB e).2 (.inl rfl),by show((V.last+1:Nat):Int)=_;omega⟩
theorem tY{V:Ps}{x:Int}(h:V.opn x=true):VC V x=false:=by unfold VC;rw[h];simp
theorem V2{V:Ps}{b f:Int}{data:Bk}{after:List Int}(h0:0<=b)(h1:b<V.C.D.vs.length)(hd:data.length≠0)(f0:0<=f)(f1:f+data.length<=256)(ha:QP V after=false):E0 V b f data after=0:=by
 have e:AO V.C.D b=0:=by unfold AO;rw[if_neg (by omega)]
 unfold E0;rw[e,if_neg (by decide),if_neg (by omega),ha];rfl
section
variable{w w':World}{R R':Nat->Prop}{a v d:Nat}{A:Az}{K:Value->World->Prop}
theorem PZ(h:B2 A.V A.s.geo A.hs){k:Int}{i:Nd}{after:List Int}(hw:E3 i)(hp:(Au A.s.geo k).2.2=0)(hb:QP A.V after=false):E0 A.V (Au A.s.geo k).1 (64*(Au A.s.geo k).2.1) (Ek i) after=0:=by
 obtain⟨_,_,_,b1,b2,p1,p2⟩:=EI (g:=A.s.geo) (s:=k) (b:=(Au A.s.geo k).1) (p:=(Au A.s.geo k).2.1) (by rw[<- hp]);have hl:=IM hw;exact V2 (by omega) (by have:=h.2.1;omega) (by omega) (by omega) (by omega) hb
theorem uT(h:B2 A.V A.s.geo A.hs){k:Int}{i:Nd}{after:List Int}(hw:E3 i)(hp:(Au A.s.geo k).2.2=0)(hb:QP A.V after=false):B2 (Tu A k i after).V A.s.geo A.hs:=by
 have hE:=PZ (k:=k) (i:=i) h hw hp hb;obtain⟨_,n0,n1,_⟩:=EI (g:=A.s.geo) (s:=k) (b:=(Au A.s.geo k).1) (p:=(Au A.s.geo k).2.1) (by rw[<- hp]);obtain⟨k',j,q,e,hk,hj,_⟩:=If h.1 n0 n1;refine h.same (by show(BF _ _ _ _ _).C.D.vs.length=_;rw[Rx]) fun x _=>?_;show A3 (BF _ _ _ _ _) _=_;rw[Cf hE,if_neg];rw[e];exact fun z=>VJ h.1 hj z.symm
theorem oL(h:B2 A.V A.s.geo A.hs)(hwf:Mb A.V/\WF A.V.C.D){k:Int}{i:Nd}{after:List Int}(hw:E3 i)(ho:O7 i=true)(hp:(Au A.s.geo k).2.2=0)(hb:QP A.V after=false)(s:Int) :
  A1 (Tu A k i after).V A.s.geo s=if s=k then(i,0)else A1 A.V A.s.geo s:=by
 have hE:=PZ (k:=k) (i:=i) h hw hp hb;obtain⟨_,n0,n1,b1,b2,_⟩:=EI (g:=A.s.geo) (s:=k) (b:=(Au A.s.geo k).1) (p:=(Au A.s.geo k).2.1) (by rw[<- hp]);exact Xz h.1 (by rw[<- hp]) (QV hwf.1 hwf.2 (by have:=h.2.1;omega)) hw ho hE s
theorem gB(h:B2 A.V A.s.geo A.hs){b f:Int}{data:Bk}{after:List Int}(hb:(AT A.s.geo b).1=4)(hd:data.length≠0)(f0:0<=f)(f1:f+data.length<=256)(ha:QP A.V after=false):E0 A.V b f data after=0:=by
 obtain⟨_,b1,b2,_⟩:=Gh hb;exact V2 (by omega) (by have:=h.2.1;omega) hd f0 f1 ha
theorem uS(h:B2 A.V A.s.geo A.hs){b f:Int}{data:Bk}{after:List Int}(hb:(AT A.s.geo b).1=4)(hE:E0 A.V b f data after=0):B2 (Xx A b f data after).V A.s.geo A.hs:=by
 obtain⟨k,j,hbb,hk,h1,h2⟩:=QX hb;refine h.same (by show(BF _ _ _ _ _).C.D.vs.length=_;rw[Rx]) fun x _=>?_;show A3 (BF _ _ _ _ _) _=_;rw[Cf hE,if_neg];rw[hbb];exact jM h.1 h1 h2
theorem VI{g:Gm}(hg:Df g=true){k k' j:Nat}{x:Int}(hj:(j:Int)<AV g)(h1:1+AV g<=x)(h2:x<g.gr):(2+(k:Int)*g.gr+1+j).toNat≠(2+(k':Int)*g.gr+x).toNat:=by
 intro e;obtain⟨g1,_⟩:=Ax.1 hg;have ht:=TR (g:=g);have p1:0<=(k:Int)*g.gr:=iC (by omega) (by omega);have p2:0<=(k':Int)*g.gr:=iC (by omega) (by omega);have e:x+(k':Int)*g.gr=(1+j:Int)+k*g.gr:=by omega
 have e2:(x+(k':Int)*g.gr) % g.gr=((1+j:Int)+k*g.gr) % g.gr:=by rw[e]
 rw[Lz1,Lz1,wN (by omega) h2,wN (by omega) (by omega)]at e2;omega
theorem oK(h:B2 A.V A.s.geo A.hs){b f:Int}{data:Bk}{after:List Int}(hb:(AT A.s.geo b).1=4)(hE:E0 A.V b f data after=0)(s:Int) :
  A1 (Xx A b f data after).V A.s.geo s=A1 A.V A.s.geo s:=by
 obtain⟨k,j,hbb,hk,h1,h2⟩:=QX hb;refine Qb h.1 (fun k' j' hj=>?_) s;show A3 (BF _ _ _ _ _) _=_;rw[Cf hE,if_neg];rw[hbb];exact VI h.1 hj h1 h2
theorem lJ{k:Int}{i:Nd}{a4:Option Addr}{l4 c4:Nat}{after:List Int}(h63:k<=9223372036854775807)(h:Ao R w a v d A)(hw:E3 i)(ho:O7 i=true)(hp:(Au A.s.geo k).2.2=0)(hlast:A.V.last+1<=1000000)
  (hal:after.length=l4) (ha6:l4<=1000000) (hb:QP A.V after=false) (hra:BG w a4 (iL after)) (hao:after≠[]->∀ q,a4=some q->¬ R q.block)
  (hk:∀ w' R',Ab R w w'->Sb R R' w->Ao R' w' a v d (Tu A k i after)->K (.tuple #[Yn ((A.V.last:Int)+1),Yn 0]) w') :
  A7 Yt Fl #[Yo v,Yn k,.agg ⟨nV i⟩,.slice a4 l4 c4] w K:=by
 apply P0;unfold IC;obtain⟨w1,b1,b2,b3,b4⟩:=AB (P:=Yt) (w:=w) (T:=69) (cs:=nV i);have h1:=h.nos b3;obtain⟨Rv,hv,_⟩:=h1.vol;have hE:=PZ (k:=k) (i:=i) h.hd hw hp hb;obtain⟨_,n0,n1,_,_,p1,p2⟩:=EI (g:=A.s.geo) (s:=k) (b:=(Au A.s.geo k).1) (p:=(Au A.s.geo k).2.1) (by rw[<- hp]);refine⟨_,w1,b1,cC h63 hv fun w2 m2=>⟨_,_,_,rfl,?_⟩⟩;rw[hp]
 refine ff rfl ⟨_,(b2.keep m2 id).at.all Am (A4 hw),aL hw (fun e=>by rw[ho]at e;cases e) fun _ w3 q m3 hq hat=>⟨_,_,_,_,rfl,ff rfl ?_⟩⟩;have h3:=(h1.nos m2).nos m3;have M3:=(b3.no m2).no m3;have z1:=b3.size;have z2:=m2.size;obtain⟨w0,Rs,sp,wk,a1,a2,a3,a4'⟩:=h3.sto;have hlt:=h.lt;rw[Ag (x:=(Au A.s.geo k).2.1*64) (by omega) (by omega),Lm5];have hN:PS A.V (Au A.s.geo k).1 (64*(Au A.s.geo k).2.1) (Ek i) after=(A.V.last:Int)+1:=by unfold PS;rw[if_pos hE];omega
 refine⟨_,rfl,_,a2.at.fld KK rfl,V6 (data:=Ek i) (after:=after) a1 hlast (IM hw) (.inr ⟨q,0,rfl,hat.at⟩) (fun _ q' e=>by cases e;exact fun e=>by have:=hlt q (a3 q e);omega) (by omega) hal ha6 (hra.nos M3) (fun e q e' r=>hao e q e' (a3 _ r)) fun w4 m4 hP=>⟨_,_,rfl,?_⟩⟩;rw[hE,hN];obtain⟨M,R',s,hA⟩:=a4' w4 _ m4 hP (uT h.hd hw hp hb);exact hk w4 R' ((M3.mono fun _ _ e=>e.elim).trans M fun x _ e=>e) (s.up M3.size) hA
theorem lI{b f:Int}{data:Bk}{a3 a4:Option Addr}{l3 c3 l4 c4:Nat}{after:List Int}(h:Ao R w a v d A)(hb:(AT A.s.geo b).1=4)(hlast:A.V.last+1<=1000000)
  (hd:data.length=l3) (hl0:l3≠0) (f0:0<=f) (f1:f+l3<=256) (hrd:BG w a3 (A6 data)) (hdo:∀ q,a3=some q->¬ R q.block)
  (hal:after.length=l4) (ha6:l4<=1000000) (ha:QP A.V after=false) (hra:BG w a4 (iL after)) (hao:after≠[]->∀ q,a4=some q->¬ R q.block)
  (hk:∀ w' R',Ab R w w'->Sb R R' w->Ao R' w' a v d (Xx A b f data after)->K (.tuple #[Yn ((A.V.last:Int)+1),Yn 0]) w') :
  A7 Yt Gb #[Yo v,Yn b,Yn f,.slice a3 l3 c3,.slice a4 l4 c4] w K:=by
 apply Q5;unfold Jy;refine iI h hb fun w1 m1=>⟨_,rfl,ff rfl ?_⟩;have h1:=h.nos m1;have hE:=gB (f:=f) (data:=data) h.hd hb (by omega) f0 (by omega) ha;have hN:PS A.V b f data after=(A.V.last:Int)+1:=by unfold PS;rw[if_pos hE];omega
 obtain⟨w0,Rs,sp,wk,a1,a2,a3,a4'⟩:=h1.sto;refine⟨_,rfl,_,a2.at.fld KK rfl,V6 (data:=data) (after:=after) a1 hlast hd (hrd.nos m1) (fun _ q e r=>hdo q e (a3 _ r)) (by omega) hal ha6 (hra.nos m1) (fun e q e' r=>hao e q e' (a3 _ r)) fun w2 m2 hP=>⟨_,_,rfl,?_⟩⟩;rw[hE,hN];obtain⟨M,R',s,hA⟩:=a4' w2 _ m2 hP (uS h.hd hb hE);exact hk w2 R' ((m1.mono fun _ _ e=>e.elim).trans M fun x _ e=>e) (s.up m1.size) hA
theorem lH{b:Int}(h:Ao R w a v d A)(hb:(AT A.s.geo b).1=4)
  (hk:∀ w' R' g cc,Ab R w w'->Sb R R' w->Ao R' w' a v d A->w.heap.size<=g->¬ R' g->Av w' g 0 (A6 (A3 A.V b.toNat))->(A3 A.V b.toNat).length=256->256<=cc->K (.tuple #[.slice (some ⟨g,0,none⟩) 256 cc,Yn 0]) w') :
  A7 Yt Ga #[Yo v,Yn b] w K:=by
 apply Um;unfold MG;obtain⟨_,b1,b2,_⟩:=Gh hb;refine iI h hb fun w1 m1=>⟨_,rfl,ff rfl ⟨_,rfl,?_⟩⟩;have h1:=h.nos m1;have hh:=h.hd;have hlt:=h.lt;have z1:=m1.size;obtain⟨Rv,hv,hRv,hc⟩:=h1.vol;refine hv.rd (by omega) (by have:=hh.2.1;omega) fun w2 R2 g cc m2 s2 h2 hg hg2 hat hl hcc=>⟨_,_,_,_,rfl,?_⟩;obtain⟨c1,c2,c3⟩:=hc w2 R2 A.V A.W A.nx A.hs m2 s2 h2 hh;refine hk w2 _ g cc ((m1.mono fun _ _ e=>e.elim).trans c1 fun x _ e=>e) (c2.up z1) c3 (by omega) (fun e=>?_) hat hl hcc
 rcases e with e|e
 ·have:=hlt g e;omega
 ·exact hg2 e
end
structure Fy where
 A:Az
 la:Int->Int
 mi:Int->List Int
def FiB(rb:Int->Option Addr)(f fl fm z:Nat):Prop:=z=f\/z=fl\/z=fm\/∃ k q,rb k=some q/\z=q.block
structure gY(R:Nat->Prop)(w:World)(f a v d:Nat)(F:Fy)(Ra:Nat->Prop)(fl fm:Nat)(Ll Lm:List (Int×Value))(rb:Int->Option Addr)(rc:Int->Nat):Prop where
 ao:Ao Ra w a v d F.A
 cl:Av w f 0 [Yo a,Yo v,.map (some fl),.map (some fm)]
 ml:AU w fl Ll
 hl:∀ k,(Ay Ll k).getD (Yn 0)=Yn (F.la k)
 mm:AU w fm Lm
 hm:∀ k,(Ay Lm k).getD (.slice none 0 0)=.slice (rb k) (F.mi k).length (rc k)
 ow:∀ k,Ow Yt w d 75 1 (rb k) (F.mi k).length (rc k) (iL (F.mi k))
 inj:∀ k k' q q',rb k=some q->rb k'=some q'->q.block=q'.block->k=k'
 ob:∀ z,FiB rb f fl fm z->¬ Ra z/\d<=z
 df:f≠fl/\f≠fm/\fl≠fm/\∀ k q,rb k=some q->q.block≠f/\q.block≠fl/\q.block≠fm
 rg:∀ z,Ra z\/FiB rb f fl fm z->R z
 lt:∀ z,R z->z<w.heap.size
def Fo(R:Nat->Prop)(w:World)(f a v d:Nat)(F:Fy):Prop:=∃ Ra fl fm Ll Lm rb rc,gY R w f a v d F Ra fl fm Ll Lm rb rc
theorem AfC:O6 Yt 52=some (Yn 0):=by kernel_rfl
theorem tI:O6 Yt 108=some (.slice none 0 0):=by kernel_rfl
theorem AfL:Cw Yt 52=true:=by kernel_rfl
theorem Nw:Cw Yt 108=true:=by kernel_rfl
theorem zB:Al (G9 .eql 75 (.tmp 3) (.const (.slice none 0 0)) (.slice none 0 0) (.slice none 0 0)) (.bool true):=fun _=>by kernel_rfl
theorem uY(a:Addr)(l c:Nat):Al (G9 .eql 75 (.tmp 3) (.const (.slice none 0 0)) (.slice (some a) l c) (.slice none 0 0)) (.bool false):=fun _=>by kernel_rfl
theorem rE(w:World):(Instr.buildSlice 75 0 #[]).run Yt w=.ok (.slice (some ⟨w.heap.size,0,none⟩) 0 0) (w.alloc (.cells #[] 2)):=by kernel_rfl
section
variable{w w':World}{R R' Ra:Nat->Prop}{f a v d fl fm:Nat}{F:Fy}{Ll Lm:List (Int×Value)}{rb:Int->Option Addr}{rc:Int->Nat}{K:Value->World->Prop}
theorem gY.keep{S:Nat->Prop}(h:gY R w f a v d F Ra fl fm Ll Lm rb rc)(m:Ab S w w')(hS:∀ z,R z->¬ S z)(hd:∀ z,S z->d<=z):gY R w' f a v d F Ra fl fm Ll Lm rb rc where
 ao:=h.ao.keep m (fun z hz=>hS z (h.rg z (.inl hz))) hd
 cl:=h.cl.keep m (hS f (h.rg f (.inr (.inl rfl))))
 ml:=h.ml.keep m (hS fl (h.rg fl (.inr (.inr (.inl rfl)))))
 hl:=h.hl
 mm:=h.mm.keep m (hS fm (h.rg fm (.inr (.inr (.inr (.inl rfl))))))
 hm:=h.hm
 ow:=fun k=>(h.ow k).keep m fun q e=>hS _ (h.rg _ (.inr (.inr (.inr (.inr ⟨k,q,e,rfl⟩)))))
 inj:=h.inj
 ob:=h.ob
 df:=h.df
 rg:=h.rg
 lt:=fun z hz=>pF (h.lt z hz) m.size
theorem Fo.keep{S:Nat->Prop}(h:Fo R w f a v d F)(m:Ab S w w')(hS:∀ z,R z->¬ S z)(hd:∀ z,S z->d<=z):Fo R w' f a v d F:=by
 obtain⟨Ra,fl,fm,Ll,Lm,rb,rc,h⟩:=h;exact⟨Ra,fl,fm,Ll,Lm,rb,rc,h.keep m hS hd⟩
theorem gY.nos(h:gY R w f a v d F Ra fl fm Ll Lm rb rc)(m:Ab No w w'):gY R w' f a v d F Ra fl fm Ll Lm rb rc:=h.keep m (fun _ _ e=>e) fun _ e=>e.elim
theorem Fo.nos(h:Fo R w f a v d F)(m:Ab No w w'):Fo R w' f a v d F:=h.keep m (fun _ _ e=>e) fun _ e=>e.elim
theorem Fo.lt(h:Fo R w f a v d F):∀ z,R z->z<w.heap.size:=by obtain⟨_,_,_,_,_,_,_,h⟩:=h;exact h.lt
theorem Fo.dlt(h:Fo R w f a v d F):d<=f/\f<w.heap.size/\R f:=by
 obtain⟨_,_,_,_,_,_,_,h⟩:=h;exact⟨(h.ob f (.inl rfl)).2,h.cl.lt,h.rg f (.inr (.inl rfl))⟩
theorem Fo.own{q:Nat}(h:Fo R w f a v d F)(m:Ab (fun x=>x=q) w w')(hq:¬ R q)(h0:d<=q):Fo R w' f a v d F :=
 h.keep m (fun z hz e=>by have e:z=q:=e;rw[e]at hz;exact hq hz) fun z e=>by have e:z=q:=e;omega
theorem Fo.pv(h:Fo R w f a v d F):Ru (Instr.loadAt 34 (.pointer (some (Addr.add ⟨f,0,none⟩ 1)))) w (Yo v) w:=by
 obtain⟨_,_,_,_,_,_,_,h⟩:=h;exact h.cl.at.fld YG rfl
theorem Fo.pa(h:Fo R w f a v d F):Ru (Instr.loadAt 61 (.pointer (some (Addr.add ⟨f,0,none⟩ 0)))) w (Yo a) w:=by
 obtain⟨_,_,_,_,_,_,_,h⟩:=h;exact h.cl.at.fld Da rfl
theorem gY.alc(h:gY R w f a v d F Ra fl fm Ll Lm rb rc){Ra':Nat->Prop}{A':Az}(m:Ab Ra w w')(s:Sb Ra Ra' w)(hA:Ao Ra' w' a v d A') :
  Ab R w w'/\Sb R (fun z=>R z\/Ra' z) w/\gY (fun z=>R z\/Ra' z) w' f a v d ⟨A',F.la,F.mi⟩ Ra' fl fm Ll Lm rb rc:=by
 have no:∀ z,FiB rb f fl fm z->z<w.heap.size/\¬ Ra z:=fun z hz=>⟨h.lt z (h.rg z (.inr hz)),(h.ob z hz).1⟩;refine⟨m.mono fun x _ e=>h.rg x (.inl e),fun z hz=>hz.elim .inl fun e=>(s z e).imp (fun e=>h.rg z (.inl e)) id,?_⟩
 exact {
  ao:=hA
  cl:=h.cl.keep m (no f (.inl rfl)).2
  ml:=h.ml.keep m (no fl (.inr (.inl rfl))).2
  hl:=h.hl
  mm:=h.mm.keep m (no fm (.inr (.inr (.inl rfl)))).2
  hm:=h.hm
  ow:=fun k=>(h.ow k).keep m fun q e=>(no _ (.inr (.inr (.inr ⟨k,q,e,rfl⟩)))).2
  inj:=h.inj
  ob:=fun z hz=>⟨fun e=>(s z e).elim (no z hz).2 fun e=>by have:=(no z hz).1;omega,(h.ob z hz).2⟩
  df:=h.df
  rg:=fun z hz=>hz.elim .inr fun e=>.inl (h.rg z (.inr e))
  lt:=fun z hz=>hz.elim (fun e=>pF (h.lt z e) m.size) fun e=>hA.lt z e }
theorem Fo.alc(h:Fo R w f a v d F):∃ Ra,Ao Ra w a v d F.A/\(∀ z,Ra z->R z)/\∀(w':World)(Ra':Nat->Prop)(A':Az),Ab Ra w w'->Sb Ra Ra' w->Ao Ra' w' a v d A' ->
  Ab R w w'/\Sb R (fun z=>R z\/Ra' z) w/\Fo (fun z=>R z\/Ra' z) w' f a v d ⟨A',F.la,F.mi⟩:=by
 obtain⟨Ra,fl,fm,Ll,Lm,rb,rc,h⟩:=h;refine⟨Ra,h.ao,fun z hz=>h.rg z (.inl hz),fun w' Ra' A' m s hA=>?_⟩;obtain⟨c1,c2,c3⟩:=h.alc m s hA;exact⟨c1,c2,_,_,_,_,_,_,_,c3⟩
def miF(F:Fy)(k:Int)(xs:List Int):Fy:=⟨F.A,F.la,fun n=>if n=k then xs else F.mi n⟩
theorem gY.row{k:Int}{b:Option Addr}{c':Nat}{xs:List Int}(h:gY R w f a v d F Ra fl fm Ll Lm rb rc)(m:Ab (fun x=>∃ q,rb k=some q/\x=q.block) w w')(o:Ow Yt w' d 75 1 b xs.length c' (iL xs))
  (hq:∀ q,b=some q->(∃ q',rb k=some q'/\q.block=q'.block)\/w.heap.size<=q.block) :
  ∃ w4,Gr (Instr.mapUpdate 108 (.map (some fm)) (Yn k) (.slice b xs.length c')) w' w4/\Ab R w w4/\Sb R (fun z=>R z\/∃ q,b=some q/\z=q.block) w/\Fo (fun z=>R z\/∃ q,b=some q/\z=q.block) w4 f a v d (miF F k xs):=by
 have hR:∀ z,FiB rb f fl fm z->R z:=fun z hz=>h.rg z (.inr hz);have ok:∀ z,(z=f\/z=fl\/z=fm)->¬ ∃ q,rb k=some q/\z=q.block:=by
  rintro z hz ⟨q,e,rfl⟩;obtain⟨d1,d2,d3⟩:=h.df.2.2.2 k q e;rcases hz with hz|hz|hz
  ·exact d1 hz
  ·exact d2 hz
  ·exact d3 hz
 obtain⟨w4,u1,u2,u3,u4⟩:=Fz (P:=Yt) (k:=k) (v:=.slice b xs.length c') tI (h.mm.keep m (ok fm (.inr (.inr rfl))));have M:Ab R w w4:=(m.mono fun x _ e=>by obtain⟨q,e,rfl⟩:=e;exact hR _ (.inr (.inr (.inr ⟨k,q,e,rfl⟩)))).trans u3 fun x _ e=>by have e:x=fm:=e;rw[e];exact hR fm (.inr (.inr (.inl rfl)))
 have nq:∀ q,b=some q->q.block≠f/\q.block≠fl/\q.block≠fm/\¬ Ra q.block/\d<=q.block:=by
  intro q e;rcases hq q e with ⟨q',e',e2⟩ | e2
  ·rw[e2];obtain⟨d1,d2,d3⟩:=h.df.2.2.2 k q' e'
   have:=h.ob q'.block (.inr (.inr (.inr ⟨k,q',e',rfl⟩)))
   exact⟨d1,d2,d3,this⟩
  ·have hl:=fun z hz=>h.lt z (hR z hz);have x1:=hl f (.inl rfl);have x2:=hl fl (.inr (.inl rfl));have x3:=hl fm (.inr (.inr (.inl rfl)));have x4:=(h.ob f (.inl rfl)).2;exact⟨by omega,by omega,by omega,fun r=>by have:=h.lt _ (h.rg _ (.inl r));omega,by omega⟩
 have nm:∀ q,b=some q->q.block≠fm:=fun q e=>(nq q e).2.2.1;have other:∀ n q,n≠k->rb n=some q->∀ q',b=some q'->q.block≠q'.block:=by
  intro n q hn e q' e' hb;rcases hq q' e' with ⟨q2,e2,e3⟩ | e2
  ·exact hn (h.inj n k q q2 e e2 (by omega))
  ·have:=h.lt _ (hR _ (.inr (.inr (.inr ⟨n,q,e,rfl⟩))));omega
 have ao:=h.ao;refine⟨w4,u1,M,fun z hz=>?_,Ra,fl,fm,Ll,Kg k (.slice b xs.length c') Lm,fun n=>if n=k then b else rb n,fun n=>if n=k then c' else rc n,?_⟩
 ·rcases hz with hz|⟨q,e,rfl⟩
  ·exact .inl hz
  ·rcases hq q e with ⟨q',e',e2⟩|e2
   ·rw[e2];exact .inl (hR q'.block (.inr (.inr (.inr ⟨k,q',e',rfl⟩))))
   ·exact .inr e2
 have nR:∀ z,Ra z->¬ (∃ q,rb k=some q/\z=q.block)/\z≠fm:=fun z hz=>by
  refine⟨?_,fun e=>(h.ob fm (.inr (.inr (.inl rfl)))).1 (e ▸ hz)⟩;rintro⟨q,e,rfl⟩;exact(h.ob _ (.inr (.inr (.inr ⟨k,q,e,rfl⟩)))).1 hz
 have fib:∀ z,FiB (fun n=>if n=k then b else rb n) f fl fm z->FiB rb f fl fm z\/∃ q,b=some q/\z=q.block:=by
  rintro z (e|e|e|⟨n,q,e,rfl⟩)
  ·exact .inl (.inl e)
  ·exact .inl (.inr (.inl e))
  ·exact .inl (.inr (.inr (.inl e)))
  ·have e:(if n=k then b else rb n)=some q:=e
   split at e
   ·exact .inr ⟨q,e,rfl⟩
   ·exact .inl (.inr (.inr (.inr ⟨n,q,e,rfl⟩)))
 exact {
  ao:=(ao.keep m (fun z hz=>(nR z hz).1) fun z e=>by obtain⟨q,e,rfl⟩:=e;exact(h.ob _ (.inr (.inr (.inr ⟨k,q,e,rfl⟩)))).2).keep u3 (fun z hz=>(nR z hz).2) fun z e=>by have e:z=fm:=e;rw[e];exact(h.ob fm (.inr (.inr (.inl rfl)))).2
  cl:=(h.cl.keep m (ok f (.inl rfl))).keep u3 h.df.2.1
  ml:=(h.ml.keep m (ok fl (.inr (.inl rfl)))).keep u3 h.df.2.2.1
  hl:=h.hl
  mm:=u2
  hm:=fun n=>by
   rw[CX];show(if k=n then some (Value.slice b xs.length c')else Ay Lm n).getD (.slice none 0 0)=Value.slice (if n=k then b else rb n) (if n=k then xs else F.mi n).length (if n=k then c' else rc n);by_cases e:n=k
   ·rw[if_pos e.symm,if_pos e,if_pos e,if_pos e];rfl
   ·rw[if_neg (pE e),if_neg e,if_neg e,if_neg e];exact h.hm n
  ow:=fun n=>by
   show Ow Yt w4 d _ 1 (if n=k then b else rb n) (if n=k then xs else F.mi n).length (if n=k then c' else rc n) (iL (if n=k then xs else F.mi n));by_cases e:n=k
   ·rw[if_pos e,if_pos e,if_pos e];exact o.keep u3 nm
   ·rw[if_neg e,if_neg e,if_neg e];refine((h.ow n).keep m fun q eq=>?_).keep u3 fun q eq=>(h.df.2.2.2 n q eq).2.2;rintro⟨q',e',hb⟩;exact e (h.inj n k q q' eq e' hb)
  inj:=fun n n' q q' e e' hb=>by
   have e:(if n=k then b else rb n)=some q:=e;have e':(if n'=k then b else rb n')=some q':=e';by_cases hn:n=k
   ·by_cases hn':n'=k
    ·rw[hn,hn']
    ·rw[if_pos hn]at e;rw[if_neg hn']at e';exact absurd hb.symm (other n' q' hn' e' q e)
   ·by_cases hn':n'=k
    ·rw[if_neg hn]at e;rw[if_pos hn']at e';exact absurd hb (other n q hn e q' e')
    ·rw[if_neg hn]at e;rw[if_neg hn']at e';exact h.inj n n' q q' e e' hb
  ob:=fun z hz=>by
   rcases fib z hz with e|⟨q,e,rfl⟩
   ·exact h.ob z e
   ·exact(nq q e).2.2.2
  df:=⟨h.df.1,h.df.2.1,h.df.2.2.1,fun n q e=>by
   have e:(if n=k then b else rb n)=some q:=e
   split at e
   ·exact⟨(nq q e).1,(nq q e).2.1,(nq q e).2.2.1⟩
   ·exact h.df.2.2.2 n q e⟩
  rg:=fun z hz=>by
   rcases hz with hz|hz
   ·exact .inl (h.rg z (.inl hz))
   ·exact(fib z hz).imp (hR z) id
  lt:=fun z hz=>by
   have z1:=m.size;rcases hz with hz | ⟨q,e,rfl⟩
   ·have:=h.lt z hz;omega
   ·have:=(o.base e).2;omega }
end
def ON(F:Fy):Prop:=∀ k,∀ x∈F.mi k,F.A.V.opn x=true/\1<=x/\x<=(F.A.V.last:Int)
section
variable{w w':World}{R R' Ra:Nat->Prop}{f a v d fl fm:Nat}{F:Fy}{Ll Lm:List (Int×Value)}{rb:Int->Option Addr}{rc:Int->Nat}{K:Value->World->Prop}
theorem pT{a:Option Addr}{l c:Nat}{xs:List Int}{v:Value}{p:Int->Bool}(hl:xs.length=l)(h63:l<=1000000000)(hr:BG w a (iL xs))(ht:OO v w No p xs)(hp:∀ x∈xs,p x=false)
  (hk:∀ w',Ab No w w'->K (.slice a l c) w'):A7 Yt B4 #[.slice a l c,v] w K:=by
 apply IU;unfold E2;refine OM hl (by omega) hr ht fun w1 m1=>⟨_,rfl,?_⟩;rcases GG p xs 0 with ⟨e,_⟩ | ⟨i0,x0,_,hx0,hp0,_⟩
 ·rw[e];exact tt rfl (hk w1 m1)
 ·have:=hp x0 (XN hx0)
  rw[hp0]at this;cases this
theorem Wz{a:Option Addr}{l c:Nat}{xs:List Int}(hr:BG w a (iL xs))(hl:xs.length=l)(h0:a=none->l=0/\c=0)(h63:l<=1000000000)
  (hk:∀ w' a' c',Ow Yt w' w.heap.size 75 1 a' l c' (iL xs)->Ab No w w'->K (.slice a' l c') w'):A7 Yt CC #[.slice a l c] w K:=by
 apply Mx;unfold GU;cases a with
 | none =>
  obtain⟨rfl,rfl⟩:=h0 rfl;have hx:xs=[]:=iA hl;subst hx;exact⟨_,zB,tt rfl (hk w none 0 (Ow.nil Hg) (Ab.refl _ _))⟩
 | some q =>
  refine⟨_,uY _ _ _,ff rfl ⟨_,_,_,_,rE w,?_⟩⟩;have m1:Ab No w (w.alloc (.cells #[] 2)):=(Ab.refl No w).alloc _;have hu:Yt.underlying 75=some (.slice 2):=by kernel_rfl
  obtain⟨a',c',w2,h2,o2,m2⟩:=(Xr (w:=w) (k:=1) hu).append (ty:=75) Hg (by omega) (a2:=some q) (m:=l) (c2:=c) (ys:=iL xs) (hr.nos m1) (by simp[hl]) (fun e=>by cases e) (HD xs) (by omega) (by omega) (by simp);rw[Tc,Ly]at *;exact⟨_,_,_,w2,h2,hk w2 a' c' o2 (m1.up m2 (Le _))⟩
theorem iW{a:Option Addr}{l c:Nat}{xs:List Int}(hr:BG w a (iL xs))(hl:xs.length=l)(h0:a=none->l=0/\c=0)(h63:l<=1000000)(hx:∀ x∈xs,1<=x)
  (hk:∀ w' a' c',Ow Yt w' w.heap.size 75 1 a' l c' (iL xs)->Ab No w w'->K (.slice a' l c') w'):A7 Yt J2 #[.slice a l c] w K:=by
 apply YV;unfold SI;refine Wz hr hl h0 (by omega) fun w1 a1 c1 o1 m1=>⟨_,_,_,rfl,pT (p:=fun x=>x==0) hl (by omega) o1.rowU.row (fun w2 m2 x hx K hK=>⟨_,_,_,rfl,We _ _ _ (hK w2 (Ab.refl _ _))⟩) (fun x h=>?_) fun w2 m2=>⟨_,_,_,rfl,hk w2 a1 c1 (o1.nos m2) (m1.no m2)⟩⟩
 have:=hx x h
 simp;omega
theorem gY.open'{k:Int}(h:gY R w f a v d F Ra fl fm Ll Lm rb rc)(hm:∀ x∈F.mi k,F.A.V.opn x=true)(hl:(F.mi k).length<=1000000)(hk:∀ w',Ab No w w'->K (.slice (rb k) (F.mi k).length (rc k)) w') :
  A7 Yt C8 #[Yo f,Yn k] w K:=by
 apply Qv;unfold Jo;have M:Ab No w (Go.Den.Af w):=(Ab.refl _ _).drew;have h1:=h.nos M;obtain⟨w0,Rs,sp,wk,a1,a2,_⟩:=h1.ao.sto;have lk:∀{u:World},AU u fm Lm->Ru (Instr.lookup 108 (.map (some fm)) (Yn k) false) u (.slice (rb k) (F.mi k).length (rc k)) u:=fun hu=>by
  have:=D7 (P:=Yt) (k:=k) tI hu
  rw[h.hm k]at this;exact this
 refine⟨_,rfl,_,h1.cl.at.fld Nw rfl,_,_,_,lk h1.mm,_,rfl,_,h1.cl.at.fld YG rfl,qO a2 ⟨_,rfl,h1.cl.at.fld Nw rfl,lk h1.mm,?_⟩⟩;refine pT (p:=VC F.A.V) rfl (by omega) (h1.ow k).rowU.row (fun w2 m2 x hx K hK=>⟨_,_,_,rfl,zO (a1.nos m2) (hK w2 (Ab.refl _ _))⟩) (fun x hx=>tY (hm x hx)) fun w2 m2=>⟨_,_,_,rfl,hk w2 (M.no m2)⟩
theorem iV{k x0:Int}(h:Fo R w f a v d F)(hm:∀ x∈F.mi k,F.A.V.opn x=true)(hl:(F.mi k).length<=1000000)(hk:∀ w' R',Ab R w w'->Sb R R' w->Fo R' w' f a v d (miF F k (F.mi k++[x0]))->K (.tuple #[]) w') :
  A7 Yt DU #[Yo f,Yn k,Yn x0] w K:=by
 apply Qu;unfold Jm;obtain⟨Ra,fl,fm,Ll,Lm,rb,rc,h⟩:=h;have M:Ab No w (Go.Den.Af w):=(Ab.refl _ _).drew;have h1:=h.nos M;have hd:∀{u:World},Ab No w u->d<=u.heap.size:=fun m=>by have:=(h.ob f (.inl rfl)).2;have:=h.cl.lt;have:=m.size;omega
 have step:∀(u:World),Ab No w u->∀ g:Nat,Av u g 0 [Yn x0]->g<u.heap.size->∃(a16:Option Addr)(l16 c16:Nat),∃ w3:World,Ru (Builtin.append_ #[75,75] 75 #[.slice (rb k) (F.mi k).length (rc k),.slice (some ⟨g,0,none⟩) 1 1]) u (.slice a16 l16 c16) w3/\Ru (Instr.loadAt 108 (.pointer (some (Addr.add ⟨f,0,none⟩ 3)))) w3 (.map (some fm)) w3/\∃ w4:World,Gr (Instr.mapUpdate 108 (.map (some fm)) (Yn k) (.slice a16 l16 c16)) w3 w4/\K (.tuple #[]) w4:=by
  intro u mu g hg hgl;have hu:=h.nos mu;obtain⟨q,c',w3,r1,r2,r3,r4⟩:=(hu.ow k).app (ty:=75) (m:=1) (c2:=1) (ad:=⟨g,0,none⟩) (ys:=[Yn x0]) Hg (by omega) (.inr ⟨_,_,rfl,hg.at⟩) rfl (by omega) (by simp;rfl) (by omega) (by omega) (hd mu);have e:iL (F.mi k)++[Yn x0]=iL (F.mi k++[x0]):=by simp[iL];rfl
  have e2:(F.mi k).length+1=(F.mi k++[x0]).length:=by simp
  rw[e,e2]at r2;rw[e2]at r1;obtain⟨w4,u1,u2,u3,u4⟩:=hu.row (k:=k) r3 r2 fun q' e=>by cases e;exact r4
  refine⟨_,_,_,w3,r1,(hu.cl.keep r3 (fun⟨q',e,e2⟩=>(h.df.2.2.2 k q' e).1 e2.symm)).at.fld Nw rfl,w4,u1,hk w4 _ ?_ (u3.up mu.size) u4⟩;exact(mu.mono fun _ _ e=>e.elim).trans u2 fun _ _ e=>e
 refine⟨_,rfl,_,h1.cl.at.fld Nw rfl,?_,?_⟩
 ·refine h1.open' hm hl fun w1 m1=>⟨_,_,_,rfl,(h1.nos m1).cl.at.fld Nw rfl,?_⟩;have ma:Ab No w1 (w1.alloc (.cells ⟨[Yn x0]⟩ 2)):=(Ab.refl No w1).alloc _;exact⟨_,_,_,_,K7 w1 x0,((h1.nos m1).nos ma).cl.at.fld Nw rfl,step _ ((M.no m1).no ma) _ Av.new (by simp)⟩
 ·have ma:Ab No (Go.Den.Af w) ((Go.Den.Af w).alloc (.cells ⟨[Yn x0]⟩ 2)):=(Ab.refl No _).alloc _;have h2:=h1.nos ma;refine⟨_,_,_,_,K7 _ x0,h2.cl.at.fld Nw rfl,h2.open' hm hl fun w1 m1=>⟨_,_,_,rfl,(h2.nos m1).cl.at.fld Nw rfl,step _ ((M.no ma).no m1) _ (Av.new.keep m1 id) ?_⟩⟩;exact((Av.new (w:=Go.Den.Af w)).keep m1 id).lt
theorem PJ{k:Int}(h:Fo R w f a v d F)(hm:∀ x∈F.mi k,F.A.V.opn x=true)(hl:(F.mi k).length<=1000000)
  (hk:∀ w' R' a' c',Ab R w w'->Sb R R' w->Fo R' w' f a v d F->Ow Yt w' w.heap.size 75 1 a' (F.mi k).length c' (iL (F.mi k))->(∀ q,a'=some q->¬ R' q.block)->K (.slice a' (F.mi k).length c') w') :
  A7 Yt C7 #[Yo f,Yn k] w K:=by
 apply Mu;unfold GS;have hF:=h;have hlt:=h.lt;obtain⟨Ra,fl,fm,Ll,Lm,rb,rc,h⟩:=h;have M:Ab No w (Go.Den.Af w):=(Ab.refl _ _).drew;have h1:=h.nos M;refine ff rfl ⟨_,rfl,_,h1.cl.at.fld Nw rfl,h1.open' hm hl fun w1 m1=>⟨_,_,_,rfl,?_⟩⟩;have h2:=h1.nos m1;obtain⟨w2,u1,u2,u3,u4⟩:=h2.row (k:=k) (w':=w1) (b:=rb k) (c':=rc k) (xs:=F.mi k) (Ab.refl _ _) (h2.ow k) fun q e=>.inl ⟨q,e,rfl⟩
 have eF:miF F k (F.mi k)=F:=by
  show(⟨F.A,F.la,fun n=>if n=k then F.mi k else F.mi n⟩:Fy)=F;have:(fun n=>if n=k then F.mi k else F.mi n)=F.mi:=funext fun n=>by split;rename_i e;rw[e];rfl
  rw[this]
 rw[eF]at u4;have M2:Ab No w w1:=M.no m1;have z2:=M2.size;have u4':=u4;obtain⟨Ra',fl',fm',Ll',Lm',rb',rc',h3⟩:=u4;have lk:Ru (Instr.lookup 108 (.map (some fm')) (Yn k) false) w2 (.slice (rb' k) (F.mi k).length (rc' k)) w2:=by
  have:=D7 (P:=Yt) (k:=k) tI h3.mm
  rw[h3.hm k]at this;exact this
 refine⟨h2.cl.at.fld Nw rfl,w2,u1,_,rfl,_,h3.cl.at.fld Nw rfl,_,_,_,lk,Wz (h3.ow k).rowU.row rfl (fun e=>by have:=h3.ow k;rw[e]at this;exact this.zero) (by omega) fun w3 a' c' o m3=>⟨_,_,_,rfl,?_⟩⟩;have z3:=u2.size;refine hk w3 _ a' c' (((M2.mono fun _ _ e=>e.elim).trans u2 fun _ _ e=>e).no m3) (u3.up z2) (u4'.nos m3) (o.mono (by omega)) fun q e r=>?_
 have:=(o.base e).1
 have:=u4'.lt _ r
 omega
end
def Kf(F:Fy)(k:Int)(i:Nd)(after:List Int):Fy:=⟨Tu F.A k i after,fun n=>if n=k then(F.A.V.last:Int)+1 else F.la n,fun n=>if n=k then F.mi k++[(F.A.V.last:Int)+1]else F.mi n⟩
def Ny(F:Fy)(k b f:Int)(data:Bk)(after:List Int):Fy:=⟨Xx F.A b f data after,F.la,fun n=>if n=k then F.mi k++[(F.A.V.last:Int)+1]else F.mi n⟩
theorem QQ{V:Ps}{xs:List Int}(h:∀ x∈xs,1<=x/\x<=(V.last:Int)):QP V xs=false:=by
 unfold QP;rw[Lr4];intro x hx
 have:=h x hx
 rw[Li this];decide
section
variable{w w':World}{R R' Ra:Nat->Prop}{f a v d fl fm:Nat}{F:Fy}{Ll Lm:List (Int×Value)}{rb:Int->Option Addr}{rc:Int->Nat}{K:Value->World->Prop}
theorem Fo.la1{k x:Int}(h:Fo R w f a v d F):∃ fl,Ru (Instr.loadAt 52 (.pointer (some (Addr.add ⟨f,0,none⟩ 2)))) w (.map (some fl)) w/\∃ w4,Gr (Instr.mapUpdate 52 (.map (some fl)) (Yn k) (Yn x)) w w4/\Ab R w w4/\Fo R w4 f a v d ⟨F.A,fun n=>if n=k then x else F.la n,F.mi⟩:=by
 obtain⟨Ra,fl,fm,Ll,Lm,rb,rc,h⟩:=h;obtain⟨w4,u1,u2,u3,u4⟩:=Fz (P:=Yt) (k:=k) (v:=Yn x) AfC h.ml;have hfl:=h.ob fl (.inr (.inl rfl));refine⟨fl,h.cl.at.fld AfL rfl,w4,u1,u3.mono fun z _ e=>by have e:z=fl:=e;rw[e];exact h.rg fl (.inr (.inr (.inl rfl))),Ra,fl,fm,Kg k (Yn x) Ll,Lm,rb,rc,?_⟩
 exact {
  ao:=h.ao.keep u3 (fun z hz e=>by have e:z=fl:=e;rw[e]at hz;exact hfl.1 hz) fun z e=>by have e:z=fl:=e;rw[e];exact hfl.2
  cl:=h.cl.keep u3 h.df.1
  ml:=u2
  hl:=fun n=>by
   rw[CX];show(if k=n then some (Yn x)else Ay Ll n).getD (Yn 0)=Yn (if n=k then x else F.la n);by_cases e:n=k
   ·rw[if_pos e.symm,if_pos e];rfl
   ·rw[if_neg (pE e),if_neg e];exact h.hl n
  mm:=h.mm.keep u3 fun e=>h.df.2.2.1 e.symm
  hm:=h.hm
  ow:=fun n=>(h.ow n).keep u3 fun q e=>(h.df.2.2.2 n q e).2.1
  inj:=h.inj
  ob:=h.ob
  df:=h.df
  rg:=h.rg
  lt:=fun z hz=>by rw[u4];exact h.lt z hz }
theorem Ye{k:Int}{i:Nd}{a4:Option Addr}{l4 c4:Nat}{after:List Int}(h63:k<=9223372036854775807)(h:Fo R w f a v d F)(hM:ON F)(hw:E3 i)(ho:O7 i=true)(hp:(Au F.A.s.geo k).2.2=0)(hlast:F.A.V.last+1<=1000000)(hml:(F.mi k).length<=1000000)
  (hal:after.length=l4) (h0:a4=none->l4=0/\c4=0) (ha6:l4<=1000000) (hb:∀ x∈after,1<=x/\x<=(F.A.V.last:Int)) (hra:BG w a4 (iL after))
  (hk:∀ w' R',Ab R w w'->Sb R R' w->Fo R' w' f a v d (Kf F k i after)->K (.tuple #[Yn ((F.A.V.last:Int)+1),Yn 0]) w') :
  A7 Yt Bg #[Yo f,Yn k,.agg ⟨nV i⟩,.slice a4 l4 c4] w K:=by
 apply RP;unfold Kv;obtain⟨w1,b1,b2,b3,b4⟩:=AB (P:=Yt) (w:=w) (T:=69) (cs:=nV i);have M1:Ab No w (Go.Den.Af w1):=b3.drew;have h1:=h.nos M1;have q1:=b2.drew;refine⟨_,w1,b1,ff rfl ⟨_,rfl,_,h1.pv,_,q1.at.all Am (A4 hw),iW (hra.nos M1) hal h0 ha6 (fun x hx=>(hb x hx).1) fun w2 a' c' o2 m2=>⟨_,_,_,rfl,(h1.nos m2).pv,(q1.keep m2 id).at.all Am (A4 hw),?_⟩⟩⟩
 have h2:=h1.nos m2;obtain⟨Ra,hA,hRa,hc⟩:=h2.alc;have hlt:=h1.lt;have hbad:=QQ (V:=F.A.V) (xs:=after) hb;have M2:=M1.no m2;refine lJ h63 hA hw ho hp hlast hal ha6 hbad o2.rowU.row (fun _ q e r=>by have:=(o2.base e).1;have:=hlt _ (hRa _ r);omega) fun w3 R3 m3 s3 h3=>⟨_,_,rfl,?_⟩;obtain⟨c1,c2,c3⟩:=hc w3 R3 _ m3 s3 h3;have S3:=c2.up M2.size;have MM:Ab R w w3:=(M2.mono fun _ _ e=>e.elim).trans c1 fun _ _ e=>e
 have hE:=PZ (k:=k) (i:=i) hA.hd hw hp hbad;refine Ad.dup (tt rfl ?_);obtain⟨fl,l1,w4,l2,l3,l4⟩:=c3.la1 (k:=k) (x:=(F.A.V.last:Int)+1);refine⟨_,rfl,_,l1,w4,l2,iV l4 (fun x hx=>LG _ _ _ _ ((hM k x hx).1)) hml fun w5 R5 m5 s5 h5=>⟨rfl,hk w5 R5 ?_ ?_ h5⟩⟩
 ·exact Ab.sb (Ab.sb MM S3 l3) S3 (Ab.sb (Ab.refl _ _) (Sb.refl _ _) m5)
 ·have:=MM.size
  have:=l3.size
  exact S3.trans (s5.up (Le _)) (by omega)
theorem rY{k b f0:Int}{data:Bk}{a3 a4:Option Addr}{l3 c3 l4 c4:Nat}{after:List Int}(h:Fo R w f a v d F)(hM:ON F)(hb:(AT F.A.s.geo b).1=4)(hlast:F.A.V.last+1<=1000000)(hml:(F.mi k).length<=1000000)
  (hd:data.length=l3) (hl0:l3≠0) (f00:0<=f0) (f1:f0+l3<=256) (hrd:BG w a3 (A6 data)) (hdo:∀ q,a3=some q->¬ R q.block)
  (hal:after.length=l4) (ha6:l4<=1000000) (ha:∀ x∈after,1<=x/\x<=(F.A.V.last:Int)) (hra:BG w a4 (iL after)) (hao:after≠[]->∀ q,a4=some q->¬ R q.block)
  (hk:∀ w' R',Ab R w w'->Sb R R' w->Fo R' w' f a v d (Ny F k b f0 data after)->K (.tuple #[Yn ((F.A.V.last:Int)+1),Yn 0]) w') :
  A7 Yt CV #[Yo f,Yn k,Yn b,Yn f0,.slice a3 l3 c3,.slice a4 l4 c4] w K:=by
 apply RQ;unfold Kw;obtain⟨Ra,hA,hRa,hc⟩:=h.alc;refine⟨_,rfl,_,h.pv,lI hA hb hlast hd hl0 f00 f1 hrd (fun q e r=>hdo q e (hRa _ r)) hal ha6 (QQ ha) hra (fun e q e' r=>hao e q e' (hRa _ r)) fun w3 R3 m3 s3 h3=>⟨_,_,rfl,Ad.dup (tt rfl ?_)⟩⟩;obtain⟨c1,c2,c3⟩:=hc w3 R3 _ m3 s3 h3;refine iV c3 (fun x hx=>LG _ _ _ _ ((hM k x hx).1)) hml fun w5 R5 m5 s5 h5=>⟨rfl,hk w5 R5 (Ab.sb c1 c2 m5) (c2.trans s5 c1.size) h5⟩
theorem eY{k:Int}(h63:k<=9223372036854775807)(h:Fo R w f a v d F)(hk:∀ w' R',Ab R w w'->Sb R R' w->Fo R' w' f a v d F->K (.tuple #[.agg ⟨nV (A1 F.A.V F.A.s.geo k).1⟩,Yn (A1 F.A.V F.A.s.geo k).2]) w') :
  A7 Yt Cd #[Yo f,Yn k] w K:=by
 apply RO;unfold Ku;obtain⟨w1,b1,b2,b3,b4⟩:=Aw (P:=Yt) (w:=w) (T:=69) AC;have h1:=h.nos b3;have hlt:=h.lt;have hd:=h.dlt;obtain⟨Ra,hA,hRa,hc⟩:=h1.alc;refine⟨_,w1,b1,ff rfl ⟨_,rfl,_,h1.pv,qL h63 hA fun w2 R2 m2 s2 h2=>⟨_,_,rfl,?_⟩⟩⟩;obtain⟨c1,c2,c3⟩:=hc w2 R2 _ m2 s2 h2;have n1:¬ R w.heap.size:=fun e=>by have:=hlt _ e;omega
 have n2:¬ (R w.heap.size\/R2 w.heap.size):=fun e=>by
  rcases c2 _ e with e|e
  ·exact n1 e
  ·omega
 obtain⟨w3,d1,d2,d3,d4⟩:=(b2.keep c1 n1).put (T:=69) (vs:=nV (A1 F.A.V F.A.s.geo k).1) Am rfl (A4 (Br _ _ _)) (Bl _);refine⟨w3,d1,_,d2.at.all Am (A4 (Br _ _ _)),hk w3 _ ?_ (c2.up b3.size) (c3.own d3 n2 (by omega))⟩;exact((b3.mono fun _ _ e=>e.elim).trans c1 fun _ _ e=>e).trans d3 fun x hx e=>by have e:x=w.heap.size:=e;omega
def OZ(F:Fy)(k:Int):Int:=if (A1 F.A.V F.A.s.geo k).2≠0 then(A1 F.A.V F.A.s.geo k).2 else if (A1 F.A.V F.A.s.geo k).1.kind=0 then 20 else 0
theorem Rf{k:Int}(h63:k<=9223372036854775807)(h:Fo R w f a v d F)(hk:∀ w' R',Ab R w w'->Sb R R' w->Fo R' w' f a v d F->K (.tuple #[.agg ⟨nV (A1 F.A.V F.A.s.geo k).1⟩,Yn (OZ F k)]) w') :
  A7 Yt Ci #[Yo f,Yn k] w K:=by
 apply Po;unfold I3;obtain⟨w1,b1,b2,b3,b4⟩:=Aw (P:=Yt) (w:=w) (T:=69) AC;have h1:=h.nos b3;have hlt:=h.lt;have hd:=h.dlt;have hwf:=Br F.A.V F.A.s.geo k;have hln:=A4 hwf;refine⟨_,w1,b1,eY h63 h1 fun w2 R2 m2 s2 h2=>⟨_,_,rfl,?_⟩⟩;have n1:¬ R w.heap.size:=fun e=>by have:=hlt _ e;omega
 have n2:¬ R2 w.heap.size:=fun e=>by
  rcases s2 _ e with e|e
  ·exact n1 e
  ·omega
 have z2:=m2.size;obtain⟨w3,d1,d2,d3,d4⟩:=Aw (P:=Yt) (w:=w2) (T:=69) AC;obtain⟨w4,e1,e2,e3,e4⟩:=d2.put (T:=69) (vs:=nV (A1 F.A.V F.A.s.geo k).1) Am rfl hln (Bl _);have M4:Ab No w2 w4:=d3.own e3 (Le _);have h4:=h2.nos M4;have q4:=((b2.keep m2 n1).keep M4 id);have MM:Ab R w w4:=((b3.mono fun _ _ e=>e.elim).trans m2 fun _ _ e=>e).no M4;have S4:=s2.up b3.size;refine⟨_,w3,d1,w4,e1,Ad.cut (fun z w5=>w4=w5/\z=[.bool (decide ((A1 F.A.V F.A.s.geo k).2=0/\(A1 F.A.V F.A.s.geo k).1.kind=0))]) ?_ ?_⟩
 ·rw[Fm];refine Aa (fun he=>⟨_,e2.at.fld (v:=Yn (A1 F.A.V F.A.s.geo k).1.kind) Ah rfl,rfl,?_⟩) (fun he=>⟨rfl,?_⟩)
  ·have he:=Ld he;rw[Fm];exact qU ⟨fun e=>⟨he,e⟩,And.right⟩
  ·have he:=Lc he;exact qV fun e=>he e.1
 rintro z w5 ⟨rfl,rfl⟩;have fin:∀ e:Int,e=OZ F k->∃ g21:Array Value,Ru (Instr.loadAt 69 (Yo w2.heap.size)) w4 (.agg g21) w4/\∃ n7:Int,A2 [Yn e] 0=Yn n7/\∃ w7:World,Gr (Instr.storeAt 69 (Yo w.heap.size) (.agg g21)) w4 w7/\∃ gR4:Array Value,Ru (Instr.loadAt 69 (Yo w.heap.size)) w7 (.agg gR4) w7/\K (.tuple #[.agg gR4,Yn n7]) w7:=fun e he=>by
  obtain⟨w7,g1,g2,g3,g4⟩:=q4.put (T:=69) (vs:=nV (A1 F.A.V F.A.s.geo k).1) Am rfl hln (Bl _);refine⟨_,e2.at.all Am hln,_,rfl,w7,g1,_,g2.at.all Am hln,?_⟩;rw[he];exact hk w7 R2 (MM.trans g3 fun x hx e=>by have e:x=w.heap.size:=e;omega) S4 (h4.own g3 n2 (by omega))
 refine⟨_,rfl,Ad.dup (Aa (fun hb=>fin _ ?_) (fun hb=>fin _ ?_))⟩
 ·have hb:=Ld hb;unfold OZ;rw[if_neg (by rw[hb.1];decide),if_pos hb.2]
 ·have hb:=Lc hb;unfold OZ;split
  ·rfl
  ·rename_i x;have x:(A1 F.A.V F.A.s.geo k).2=0:=VU.1 x;rw[if_neg fun y=>hb ⟨x,y⟩,x]
end
theorem qT:MV Yt 67=some (6,1):=by kernel_rfl
theorem B0:Cw Yt 50=true:=by kernel_rfl
theorem fY:Cw Yt 75=true:=by kernel_rfl
theorem XS:D5 Yt 200=some 4:=by kernel_rfl
theorem cE:Hs Yt 200=some (Wy.l ⟨0,0,0,0⟩):=by kernel_rfl
theorem rF(w:World)(x y:Int):(Instr.buildSlice 75 2 #[(0,Yn x),(1,Yn y)]).run Yt w=.ok (.slice (some ⟨w.heap.size,0,none⟩) 2 2) (w.alloc (.cells ⟨[Yn x,Yn y]⟩ 2)):=by kernel_rfl
theorem AfG{n:Nat}(h:n<6):ofS (n:Int)=(⟨0,n,0,0⟩,0):=by unfold ofS;rw[if_neg (by omega),if_pos (by omega)]
theorem yY{i:Nd}(hw:E3 i){n:Nat}(hn:n<8):(nV i)[4+n]?=some (Yn (i.p.getD n 0)):=by
 have hl:i.p.length=8:=hw;show(iL (i.kind::i.links::i.size::i.id::i.p))[4+n]?=_;rw[show 4+n=n+1+1+1+1 by omega];show(iL i.p)[n]?=_;rw[Kb (by omega),Lp,XM (by omega)];rfl
def wV(f:Nat)(k:Int)(i:Nd)(a:Option Addr)(l c:Nat)(near:Int):List Value:=Yo f::Yn k::(nV i++[.slice a l c,Yn near])
theorem Qe{f:Nat}{k:Int}{i:Nd}{a:Option Addr}{l c:Nat}{near:Int}(hw:E3 i):(wV f k i a l c near).length=16:=by unfold wV;simp[A4 hw]
theorem vW{f:Nat}{k:Int}{i:Nd}{a:Option Addr}{l c:Nat}{near:Int}(hw:E3 i):((wV f k i a l c near).drop 2).take 12=nV i:=by
 show(nV i++_).take 12=_;exact KM (A4 hw)
theorem AhR{f:Nat}{k:Int}{i:Nd}{a:Option Addr}{l c:Nat}{near:Int}(hw:E3 i){n:Nat}(hn:n<8):(wV f k i a l c near)[6+n]?=some (Yn (i.p.getD n 0)):=by
 rw[show 6+n=(4+n)+1+1 by omega];show(nV i++_)[4+n]?=_;rw[Lc2 (by rw[A4 hw];omega),yY hw hn]
theorem gM{f:Nat}{k:Int}{i:Nd}{a:Option Addr}{l c:Nat}{near:Int}(hw:E3 i):(wV f k i a l c near)[14]?=some (.slice a l c)/\(wV f k i a l c near)[15]?=some (Yn near):=by
 constructor
 ·show(nV i++_)[12]?=_;rw[Lr1 (by rw[A4 hw];omega),A4 hw];rfl
 ·show(nV i++_)[13]?=_;rw[Lr1 (by rw[A4 hw];omega),A4 hw];rfl
def FE(i:Nd)(n:Nat)(b:Int):Nd:=⟨i.kind,i.links,i.size,i.id,i.p.set n b⟩
theorem TX{i:Nd}(hw:E3 i)(n:Nat)(b:Int):E3 (FE i n b):=by unfold E3 FE;rw[List.length_set];exact hw
theorem AaO{f:Nat}{k:Int}{i:Nd}{a:Option Addr}{l c:Nat}{near:Int}(hw:E3 i){n:Nat}(hn:n<8)(b:Int):(wV f k i a l c near).set (6+n) (Yn b)=wV f k (FE i n b) a l c near:=by
 have hl:i.p.length=8:=hw;rw[show 6+n=(4+n)+1+1 by omega];show _::_::(nV i++_).set (4+n) _=_::_::(nV (FE i n b)++_);rw[List.set_append_left _ _ (by rw[A4 hw];omega),show 4+n=n+1+1+1+1 by omega];show _::_::((_::_::_::_::(iL i.p).set n _)++_)=_::_::((_::_::_::_::iL (i.p.set n b))++_);have:(iL i.p).set n (Yn b)=iL (i.p.set n b):=by unfold iL;rw[Lp4];rfl
 rw[this];rfl
theorem AaM{f:Nat}{k:Int}{i:Nd}{a a':Option Addr}{l c l' c':Nat}{near:Int}(hw:E3 i):(wV f k i a l c near).set 14 (.slice a' l' c')=wV f k i a' l' c' near:=by
 show _::_::(nV i++_).set 12 _=_;rw[Le2 _ _ (by rw[A4 hw];omega),A4 hw];rfl
theorem AaN{f:Nat}{k:Int}{i:Nd}{a:Option Addr}{l c:Nat}{near near':Int}(hw:E3 i):(wV f k i a l c near).set 15 (Yn near')=wV f k i a l c near':=by
 show _::_::(nV i++_).set 13 _=_;rw[Le2 _ _ (by rw[A4 hw];omega),A4 hw];rfl
section
variable{w w':World}{R R' Ra:Nat->Prop}{f a v d fl fm:Nat}{F:Fy}{K:Value->World->Prop}
theorem mK{i:Nd}{n:Nat}{p0:Option Addr}(hw:E3 i)(hn:n<6)(hk:∀ w',Ab No w w'->K (Yn (i.p.getD n 0)) w'):A7 Yt Dw #[.pointer p0,.agg ⟨nV i⟩,.agg ⟨Wy.l ⟨0,n,0,0⟩⟩] w K:=by
 apply Pp;unfold I4;obtain⟨w1,b1,b2,b3,b4⟩:=AB (P:=Yt) (w:=w) (T:=69) (cs:=nV i);obtain⟨w2,c1,c2,c3,c4⟩:=AB (P:=Yt) (w:=w1) (T:=200) (cs:=Wy.l ⟨0,n,0,0⟩);have q2:=b2.keep c3 id;exact⟨_,w1,b1,_,w2,c1,_,c2.at.fld (v:=Yn 0) Ah rfl,tt rfl ⟨_,c2.at.fld (v:=Yn n) Ah rfl,_,Bo qT (by omega) (by omega),_,q2.at.fld2 (j:=4) (i:=(n:Int).toNat*1) Ah (by rw[show(n:Int).toNat*1=n by omega];exact yY hw (by omega)),hk w2 (b3.no c3)⟩⟩
theorem ZR{k:Int}{n:Nat}(h63:k<=9223372036854775807)(h:Fo R w f a v d F)(ht:OZ F k=0)(hn:n<6)(hk:∀ w' R',Ab R w w'->Sb R R' w->Fo R' w' f a v d F->K (.tuple #[Yn ((A1 F.A.V F.A.s.geo k).1.p.getD n 0),Yn 0]) w') :
  A7 Yt Du #[Yo f,Yn k,Yn n] w K:=by
 apply Pn;unfold I2;have hwf:=Br F.A.V F.A.s.geo k;refine Rf h63 h fun w1 R1 m1 s1 h1=>⟨_,_,rfl,?_⟩;obtain⟨w2,b1,b2,b3,b4⟩:=Aw (P:=Yt) (w:=w1) (T:=69) AC;obtain⟨w3,c1,c2,c3,c4⟩:=b2.put (T:=69) (vs:=nV (A1 F.A.V F.A.s.geo k).1) Am rfl (A4 hwf) (Bl _);have M3:Ab No w1 w3:=b3.own c3 (Le _);refine⟨_,w2,b1,w3,c1,ff (by rw[ht];rfl) (AeX (by omega) (by omega) fun w4 m4=>⟨_,_,rfl,?_⟩)⟩
 rw[AfG hn];obtain⟨w5,d1,d2,d3,d4⟩:=Aw (P:=Yt) (w:=w4) (T:=200) cE;obtain⟨w6,e1,e2,e3,e4⟩:=d2.put (T:=200) (vs:=Wy.l ⟨0,n,0,0⟩) XS rfl rfl (fL _);have M6:Ab No w4 w6:=d3.own e3 (Le _);refine⟨_,w5,d1,w6,e1,ff rfl ⟨_,((c2.keep m4 id).keep M6 id).at.all Am (A4 hwf),_,e2.at.all XS rfl,mK hwf hn fun w7 m7=>⟨_,rfl,?_⟩⟩⟩;have M:=((M3.no m4).no M6).no m7
 exact hk w7 R1 (m1.no M) s1 (h1.nos M)
def sG(F:Fy)(k near:Int)(data:Bk):Fy:=Ny ⟨(Ak F.A near).1,F.la,F.mi⟩ k (Ak F.A near).2.1 0 data []
def okB(F:Fy)(near:Int):Prop:=(Ak F.A near).2.2.2=0/\(AT F.A.s.geo (Ak F.A near).2.1).1=4
theorem Hl(V:Ps)(n f:Int)(data:Bk)(after:List Int):V.last<=(BF V n f data after).last/\(BF V n f data after).last<=V.last+1:=by
 by_cases e:E0 V n f data after=0
 ·rw[FA e];omega
 ·unfold BF;rw[if_neg e];omega
theorem QT(A:Az)(b:Int):(Ak A b).1.s=A.s/\A.V.last<=(Ak A b).1.V.last/\(Ak A b).1.V.last<=A.V.last+1/\∀ x,A.V.opn x=true->(Ak A b).1.V.opn x=true:=by
 unfold Ak;split
 ·exact⟨rfl,(Hl _ _ _ _ _).1,(Hl _ _ _ _ _).2,fun x hx=>LG _ _ _ _ hx⟩
 ·exact⟨rfl,by simp only;omega,by simp only;omega,fun _ h=>h⟩
theorem ON.set(h:ON F){k b f0:Int}{data:Bk}{after:List Int}(hE:E0 F.A.V b f0 data after=0):ON (Ny F k b f0 data after):=by
 intro n x hx;have hl:((Ny F k b f0 data after).A.V.last:Int)=F.A.V.last+1:=by show((BF F.A.V b f0 data after).last:Int)=_;rw[FA hE];omega
 have old:∀ x,(F.A.V.opn x=true/\1<=x/\x<=(F.A.V.last:Int))->(Ny F k b f0 data after).A.V.opn x=true/\1<=x/\x<=((Ny F k b f0 data after).A.V.last:Int):=fun x ⟨o1,o2,o3⟩=>⟨LG _ _ _ _ o1,o2,by omega⟩;have hx:x∈(if n=k then F.mi k++[(F.A.V.last:Int)+1]else F.mi n):=hx
 split at hx
 ·rcases Ln.1 hx with hx|hx
  ·exact old x (h k x hx)
  ·have:x=(F.A.V.last:Int)+1:=by simpa using hx
   rw[this];exact⟨jZ hE,by omega,by omega⟩
 ·exact old x (h n x hx)
theorem ON.blk(h:ON F)(near:Int):ON ⟨(Ak F.A near).1,F.la,F.mi⟩:=by
 obtain⟨_,b1,b2,b3⟩:=QT F.A near;intro n x hx;obtain⟨o1,o2,o3⟩:=h n x hx;exact⟨b3 x o1,o2,by show x<=((Ak F.A near).1.V.last:Int);omega⟩
theorem rV{k near:Int}{i:Nd}{q:Nat}{aa a1:Option Addr}{la lc c1:Nat}{data:Bk}(hnear:near<=9223372036854775807)(h:Fo R w f a v d F)(hM:ON F)(hat:Av w q 0 (wV f k i aa la lc near))(hq:¬ R q)(hdq:d<=q)(hw:E3 i)(hok:okB F near)
  (hlast:F.A.V.last+2<=1000000) (hml:(F.mi k).length<=1000000) (hd:data.length=256) (hrd:BG w a1 (A6 data)) (hdo:∀ q',a1=some q'->¬ R q'.block/\q'.block≠q/\q'.block<w.heap.size)
  (hk:∀ w' R' g,Ab (fun z=>R z\/z=q) w w'->Sb R R' w->Fo R' w' f a v d (sG F k near data)->ON (sG F k near data)->(sG F k near data).A.V.last=(Ak F.A near).1.V.last+1->Av w' q 0 (wV f k i aa la lc (Ak F.A near).2.1)->w.heap.size<=g->¬ R' g->g≠q->Av w' g 0 (iL [(Ak F.A near).2.2.1,((Ak F.A near).1.V.last:Int)+1]) ->
   K (.tuple #[Yn (Ak F.A near).2.1,.slice (some ⟨g,0,none⟩) 2 2,Yn 0]) w') :
  A7 Yt E9 #[Yo q,.slice a1 256 c1,.slice none 0 0] w K:=by
 apply Oq;unfold HM;have M1:Ab No w (Go.Den.Af w):=(Ab.refl _ _).drew;have h1:=h.nos M1;have q1:=hat.drew;have hlt:=h.lt;have hql:=hat.lt;obtain⟨Ra,hA,hRa,hc⟩:=h1.alc;obtain⟨bs,bl0,bl,bo⟩:=QT F.A near;refine⟨_,rfl,_,q1.at.fld (v:=Yo f) B0 rfl,_,rfl,_,h1.pa,_,rfl,near,q1.at.fld Ah (gM hw).2,qJ hnear hA (by omega) fun w2 R2 m2 s2 h2=>⟨_,_,_,rfl,?_⟩⟩
 rw[hok.1];have hE:E0 (Ak F.A near).1.V (Ak F.A near).2.1 0 data []=0:=gB h2.hd (by rw[bs];exact hok.2) (by omega) (by omega) (by omega) rfl;obtain⟨c1',c2,c3⟩:=hc w2 R2 _ m2 s2 h2;have nq2:¬ (R q\/R2 q):=fun e=>by
  rcases c2 _ e with e|e
  ·exact hq e
  ·have:(Go.Den.Af w).heap.size=w.heap.size:=rfl;omega
 have q2:=q1.keep c1' hq;obtain⟨w3,p1,p2,p3,p4⟩:=q2.putF (T:=3) (j:=15) (v:=Yn (Ak F.A near).2.1) Ah (by rw[Qe hw];omega) rfl;rw[AaN hw]at p2;have M3d:Ab No w3 (Go.Den.Af w3):=(Ab.refl _ _).drew;have h3:=(c3.own p3 nq2 hdq).nos M3d;have z2:=c1'.size;have z0:(Go.Den.Af w).heap.size=w.heap.size:=rfl;have z3:(Go.Den.Af w3).heap.size=w2.heap.size:=p4;refine ff rfl ⟨_,rfl,w3,p1,_,rfl,_,p2.drew.at.fld (v:=Yo f) B0 rfl,_,rfl,k,p2.drew.at.fld Ah rfl,?_⟩
 refine rY (data:=data) (after:=[]) h3 (hM.blk near) (by rw[show(⟨(Ak F.A near).1,F.la,F.mi⟩:Fy).A.s=F.A.s from bs];exact hok.2) (by show(Ak F.A near).1.V.last+1<=_;omega) hml hd (by omega) (by omega) (by omega) ?_ (fun q' e r=>?_) rfl (by omega) (fun _ e=>by cases e) (.inl rfl) (fun e=>absurd rfl e) fun w4 R4 m4 s4 h4=>⟨_,_,rfl,?_⟩
 ·refine BG.keep (BG.keep (BG.keep (hrd.nos M1) c1' fun q' e=>(hdo q' e).1) p3 fun q' e=>(hdo q' e).2.1) M3d fun _ _=>id
 ·rcases c2 _ r with r|r
  ·exact(hdo q' e).1 r
  ·have:=(hdo q' e).2.2;omega
 ·have ma:Ab No w4 (w4.alloc (.cells ⟨iL [(Ak F.A near).2.2.1,((Ak F.A near).1.V.last:Int)+1]⟩ 2)):=(Ab.refl No w4).alloc _;have z4:=m4.size;refine⟨_,_,_,_,rF w4 _ _,hk _ R4 _ ?_ ?_ (h4.nos ma) ((hM.blk near).set hE) (FA hE) ?_ ?_ ?_ ?_ Av.new⟩
  ·have T2:Ab (fun z=>R z\/z=q) w w2:=(M1.mono fun _ _ e=>e.elim).trans c1' fun x _ e=>.inl e;have T3:Ab (fun z=>R z\/z=q) w (Go.Den.Af w3):=(T2.trans p3 fun x _ e=>.inr e).drew;refine(T3.trans m4 fun x hx e=>?_).no ma;rcases c2 x e with e | e
   ·exact .inl e
   ·omega
  ·intro z hz;rcases s4 z hz with e | e
   ·exact(c2 z e).imp id fun e=>by omega
   ·exact .inr (by omega)
  ·exact(p2.drew.keep m4 nq2).keep ma id
  ·omega
  ·intro e;have:=h4.lt _ e;omega
  ·omega
end
section
variable{w w':World}{R R' Ra:Nat->Prop}{f a v d fl fm:Nat}{F:Fy}{K:Value->World->Prop}
theorem rU{k near:Int}{n base:Nat}{i:Nd}{q:Nat}{aa a1:Option Addr}{lc c1:Nat}{xs:List Int}{data:Bk}(hnear:near<=9223372036854775807)(h:Fo R w f a v d F)(hM:ON F)(hat:Av w q 0 (wV f k i aa xs.length lc near))(hq:¬ R q)(hdq:d<=q)(hw:E3 i)(hn:n<6)(hz:i.p.getD n 0=0)(hok:okB F near)
  (hlast:F.A.V.last+2<=1000000) (hml:(F.mi k).length<=1000000) (hd:data.length=256) (hrd:BG w a1 (A6 data)) (hdo:∀ q',a1=some q'->¬ R q'.block/\q'.block≠q/\q'.block<w.heap.size)
  (ho:Ow Yt w base 75 1 aa xs.length lc (iL xs)) (hbase:base<=w.heap.size) (hdb:d<=base) (hxl:xs.length<=1000) (hoo:∀ q',aa=some q'->¬ R q'.block/\q'.block≠q)
  (hk:∀ w' R' aa' lc',Ab (fun z=>R z\/z=q\/∃ q',aa=some q'/\z=q'.block) w w'->Sb R R' w->Fo R' w' f a v d (sG F k near data)->ON (sG F k near data)->(sG F k near data).A.V.last=(Ak F.A near).1.V.last+1 ->
   Av w' q 0 (wV f k (FE i n (Ak F.A near).2.1) aa' (xs++[(Ak F.A near).2.2.1,((Ak F.A near).1.V.last:Int)+1]).length lc' (Ak F.A near).2.1) ->
   Ow Yt w' base 75 1 aa' (xs++[(Ak F.A near).2.2.1,((Ak F.A near).1.V.last:Int)+1]).length lc' (iL (xs++[(Ak F.A near).2.2.1,((Ak F.A near).1.V.last:Int)+1]))->(∀ q',aa'=some q'->¬ R' q'.block/\q'.block≠q) ->
   K (.tuple #[Yn (Ak F.A near).2.1,.bool true,Yn 0]) w') :
  A7 Yt E8 #[Yo q,Yn n,.slice a1 256 c1] w K:=by
 apply Oo;unfold HL;have hlt:=h.lt;have hql:=hat.lt;refine AeX (by omega) (by omega) fun w1 m1=>⟨_,_,rfl,?_⟩;rw[AfG hn];obtain⟨w2,b1,b2,b3,b4⟩:=Aw (P:=Yt) (w:=w1) (T:=200) cE;obtain⟨w3,c1',c2,c3,c4⟩:=b2.put (T:=200) (vs:=Wy.l ⟨0,n,0,0⟩) XS rfl rfl (fL _);have M3:Ab No w w3:=m1.no (b3.own c3 (Le _));have M3d:=M3.drew;have z3:=M3d.size
 have z1:=m1.size;have z2:=b3.size;have h3:=h.nos M3d;have q3:=hat.keep M3d id;have idx:∀ o,o+n<16->Al (Instr.indexAt 67 (.pointer (some ⟨q,o,none⟩)) (Yn n)) (.pointer (some ⟨q,o+n,none⟩)):=fun o _ w=>by
  have:=Bo (P:=Yt) (a:=⟨q,o,none⟩) (kk:=.i64) (i:=(n:Int)) qT (by omega) (by omega) w
  rw[Ae,show o+(n:Int).toNat*1=o+n by omega]at this;exact this
 have ad:Addr.add (Addr.add ⟨q,0,none⟩ 2) 4=⟨q,6,none⟩:=by rw[Ae,Ae]
 have ad0:∀ o,(⟨q,o,none⟩:Addr)=Addr.add ⟨q,0,none⟩ o:=fun o=>by rw[Ae,Tc]
 refine⟨_,w2,b1,w3,c1',ff rfl ⟨_,c2.at.fld (v:=Yn 0) Ah rfl,tt rfl ⟨_,c2.drew.at.fld (v:=Yn n) Ah rfl,_,rfl,_,by rw[ad];exact idx 6 (by omega),0,?_,ff rfl ?_⟩⟩⟩
 ·rw[ad0];exact q3.at.fld Ah (by rw[AhR hw (by omega),hz])
 have c2d:=c2.drew;have hwl:=c2d.lt;refine rV hnear h3 hM q3 hq hdq hw hok hlast hml hd (hrd.nos M3d) (fun q' e=>by obtain⟨d1,d2,d3⟩:=hdo q' e;exact⟨d1,d2,by omega⟩) fun w4 R4 g m4 s4 h4 hM4 hL q4 hg hg2 hg3 hgat=>⟨_,_,_,_,_,rfl,Ad.dup (tt rfl ?_)⟩;have z4:=m4.size;have q4d:=q4.drew;have M4d:Ab No w4 (Go.Den.Af w4):=(Ab.refl _ _).drew;have nw1:¬ (R w1.heap.size\/w1.heap.size=q):=fun e=>by
  rcases e with e|e
  ·have:=hlt _ e;omega
  ·omega
 obtain⟨w5,d1,d2,d3,d4⟩:=q4d.putF (T:=3) (j:=6+n) (v:=Yn (Ak F.A near).2.1) Ah (by rw[Qe hw];omega) rfl;rw[AaO hw (by omega)]at d2;have hw':=TX hw n (Ak F.A near).2.1;have z5:w5.heap.size=w4.heap.size:=d4;have nR4:∀ z,¬ R z->z<w.heap.size->¬ R4 z:=fun z h1 h2 e=>by
  rcases s4 z e with e|e
  ·exact h1 e
  ·omega
 have aal:∀ q',aa=some q'->q'.block<w.heap.size:=fun q' e=>(ho.base e).2
 have o5:Ow Yt w5 base 75 1 aa xs.length lc (iL xs):=(((ho.nos M3d).keep m4 fun q' e=>fun r=>by
  obtain⟨x1,x2⟩:=hoo q' e
  exact r.elim x1 x2).nos M4d).keep d3 fun q' e=>(hoo q' e).2
 have g5:Av w5 g 0 (iL [(Ak F.A near).2.2.1,((Ak F.A near).1.V.last:Int)+1]):=hgat.drew.keep d3 hg3;obtain⟨qa,c',w6,r1,r2,r3,r4⟩:=o5.app (ty:=75) (m:=2) (c2:=2) (ad:=⟨g,0,none⟩) (ys:=iL [(Ak F.A near).2.2.1,((Ak F.A near).1.V.last:Int)+1]) Hg (by omega) (.inr ⟨_,_,rfl,g5.at⟩) rfl (by omega) (HD _) (by omega) (by omega) (by omega);have e1:xs.length+2=(xs++[(Ak F.A near).2.2.1,((Ak F.A near).1.V.last:Int)+1]).length:=by simp
 have e2:iL xs++iL [(Ak F.A near).2.2.1,((Ak F.A near).1.V.last:Int)+1]=iL (xs++[(Ak F.A near).2.2.1,((Ak F.A near).1.V.last:Int)+1]):=by simp[iL]
 rw[e1,e2]at r2;rw[e1]at r1;have q6:Av w6 q 0 _:=d2.keep r3 (fun⟨q',e,e'⟩=>(hoo q' e).2 e'.symm);obtain⟨w7,u1,u2,u3,u4⟩:=q6.putF (T:=75) (j:=14) (v:=.slice (some qa) (xs++[(Ak F.A near).2.2.1,((Ak F.A near).1.V.last:Int)+1]).length c') fY (by rw[Qe hw'];omega) rfl;rw[AaM hw']at u2;have qaq:qa.block≠q/\¬ R4 qa.block:=by
  rcases r4 with ⟨q',e,e'⟩|e'
  ·rw[e'];exact⟨(hoo q' e).2,nR4 _ (hoo q' e).1 (aal q' e)⟩
  ·exact⟨by omega,fun r=>by have:=h4.lt _ r;omega⟩
 refine⟨_,(c2d.keep m4 nw1).drew.at.fld (v:=Yn n) Ah rfl,_,rfl,_,by rw[ad];exact idx 6 (by omega),w5,by rw[ad0];exact d1,_,rfl,_,_,_,d2.at.fld fY (gM hw').1,_,_,_,w6,r1,_,rfl,w7,u1,?_⟩;refine hk w7 R4 (some qa) c' ?_ (fun z hz=>(s4 z hz).imp id fun e=>by omega) ?_ hM4 hL u2 (r2.keep u3 fun q' e=>by cases e;exact qaq.1) fun q' e=>by cases e;exact⟨qaq.2,qaq.1⟩
 ·have T4:Ab (fun z=>R z\/z=q\/∃ q',aa=some q'/\z=q'.block) w (Go.Den.Af w4):=((M3d.mono fun _ _ e=>e.elim).trans m4 fun x _ e=>e.imp id .inl).no M4d;exact((T4.trans d3 fun x _ e=>.inr (.inl e)).trans r3 fun x _ e=>.inr (.inr e)).trans u3 fun x _ e=>.inr (.inl e)
 ·have nq4:¬ R4 q:=nR4 q hq hql;have hF5:Fo R4 w5 f a v d (sG F k near data):=(h4.nos M4d).own d3 nq4 hdq;have hF6:=hF5.keep r3 (fun z hz ⟨q',e,e'⟩=>by rw[e']at hz;exact nR4 _ (hoo q' e).1 (aal q' e) hz) fun z ⟨q',e,e'⟩=>by have:=(ho.base e).1;omega
  exact hF6.own u3 nq4 hdq
end
def Wv(xs:Bk)(j:Nat):Bk:=(xs.drop (256*j)).take 256++List.replicate (256-((xs.drop (256*j)).take 256).length) 0
theorem JN(xs:Bk)(j:Nat):(Wv xs j).length=256:=by
 unfold Wv;have:((xs.drop (256*j)).take 256).length<=256:=by simp;omega
 rw[Lj,Lw];omega
structure Wst where
 F:Fy
 i:Nd
 af:List Int
 near:Int
def AfQ(s:Wst)(k:Int)(data:Bk)(j:Nat):Wst:=⟨sG s.F k s.near data,FE s.i j (Ak s.F.A s.near).2.1,s.af++[(Ak s.F.A s.near).2.2.1,((Ak s.F.A s.near).1.V.last:Int)+1],(Ak s.F.A s.near).2.1⟩
def BR(F:Fy)(k:Int)(i:Nd)(xs:Bk):Nat->Wst
 | 0=>⟨F,i,[],0⟩
 | j+1=>AfQ (BR F k i xs j) k (Wv xs j) j
def O4(i:Nd)(l:Int):Nd:=⟨i.kind,i.links,if i.kind=2 then(l+255) / 256*256 else l,i.id,i.p⟩
def wrF(F:Fy)(k:Int)(i:Nd)(xs:Bk):Fy:=let s:=BR F k i xs ((xs.length+255) / 256);Kf s.F k (O4 s.i xs.length) s.af
theorem Ac8{i:Nd}{j m:Nat}{b:Int}(h:m≠j):(FE i j b).p.getD m 0=i.p.getD m 0:=by
 show(i.p.set j b).getD m 0=_;rw[Lp,wR (fun e=>h e.symm),<- Lp]
theorem gS(F:Fy)(k:Int){i:Nd}(hw:E3 i)(xs:Bk):∀ j,E3 (BR F k i xs j).i/\(BR F k i xs j).F.A.s=F.A.s/\(BR F k i xs j).i.kind=i.kind/\(BR F k i xs j).i.links=i.links/\(BR F k i xs j).i.size=i.size/\(BR F k i xs j).i.id=i.id/\(BR F k i xs j).af.length=2*j/\((BR F k i xs j).F.mi k).length=(F.mi k).length+j/\(BR F k i xs j).F.A.V.last<=F.A.V.last+2*j/\∀ m,j<=m->(BR F k i xs j).i.p.getD m 0=i.p.getD m 0
 | 0=>⟨hw,rfl,rfl,rfl,rfl,rfl,rfl,rfl,Le _,fun _ _=>rfl⟩
 | j+1=>by
  obtain⟨h1,h2,h3,h4,h5,h6,h7,h8,h9,h10⟩:=gS F k hw xs j;obtain⟨b1,_,b2,_⟩:=QT (BR F k i xs j).F.A (BR F k i xs j).near;refine⟨TX h1 _ _,b1.trans h2,h3,h4,h5,h6,?_,?_,?_,fun m hm=>?_⟩
  ·show((BR F k i xs j).af++_).length=_;rw[Lj,h7];simp;omega
  ·show(if k=k then(BR F k i xs j).F.mi k++_ else _).length=_;rw[if_pos rfl,Lj,h8];simp;omega
  ·have:=(Hl (Ak (BR F k i xs j).F.A (BR F k i xs j).near).1.V (Ak (BR F k i xs j).F.A (BR F k i xs j).near).2.1 0 (Wv xs j) []).2
   refine QK this ?_;omega
  ·show(FE _ _ _).p.getD m 0=_;rw[Ac8 (by omega)];exact h10 m (by omega)
theorem nU{ys:Bk}{n:Nat}(h:ys.length=n)(hn:n<=256):A9 (List.replicate (256*1) (Value.int .u8 0)) 0 ((A6 ys).take (Nat.min n 256*1))=A6 (ys++List.replicate (256-n) 0):=by
 have e:(List.replicate (256*1) (Value.int .u8 0))=A6 (List.replicate 256 0):=by unfold A6;rw[List.map_replicate];rfl
 have e2:Nat.min n 256=n:=Lw2 hn;rw[e,e2,Lf (by rw[Ai];omega),LM,List.drop_replicate,pX,Ly,Tc,h]
theorem xH{A:Az}{b:Int}(h:(Ak A b).2.2.2=0):(Ak A b).2.2.1=(A.V.last:Int)+1:=by
 unfold Ak at h |-;split
 ·rfl
 ·rename_i e;rw[e]at h;cases h
def gD(i:Nd)(s:Int):Nd:=⟨i.kind,i.links,s,i.id,i.p⟩
theorem kV{f:Nat}{k:Int}{i:Nd}{a:Option Addr}{l c:Nat}{near:Int}(s:Int):(wV f k i a l c near).set 4 (Yn s)=wV f k (gD i s) a l c near:=rfl
section
variable{w w':World}{R R' Ra:Nat->Prop}{f a v d fl fm:Nat}{F:Fy}{K:Value->World->Prop}
theorem Fo.hd(h:Fo R w f a v d F):B2 F.A.V F.A.s.geo F.A.hs/\Mb F.A.V/\WF F.A.V.C.D:=by
 obtain⟨Ra,hA,_⟩:=h.alc;exact⟨hA.hd,hA.wf⟩
theorem rW{i:Nd}{p0:Option Addr}(hk:∀ w',Ab No w w'->K (Yn 0) w'):A7 Yt FS #[.pointer p0,.agg ⟨nV i⟩,Yn (Yw (Int.tdiv 0 256))] w K:=by
 apply Qt;unfold Jl;obtain⟨w1,b1,b2,b3,b4⟩:=AB (P:=Yt) (w:=w) (T:=69) (cs:=nV i);exact⟨_,w1,b1,tt rfl (hk w1 b3)⟩
theorem lW(f:Nat)(k a b c e x0 x1 x2 x3 x4 x5 x6 x7 n:Int):Al (Instr.build 137 #[(0,Yo f),(1,Yn k),(2,.agg ⟨nV ⟨a,b,c,e,[x0,x1,x2,x3,x4,x5,x6,x7]⟩⟩),(4,Yn n)]) (.agg ⟨wV f k ⟨a,b,c,e,[x0,x1,x2,x3,x4,x5,x6,x7]⟩ none 0 0 n⟩):=fun w=>by kernel_rfl
theorem rD{i:Nd}(hw:E3 i){f:Nat}{k n:Int}:Al (Instr.build 137 #[(0,Yo f),(1,Yn k),(2,.agg ⟨nV i⟩),(4,Yn n)]) (.agg ⟨wV f k i none 0 0 n⟩):=by
 have hl:i.p.length=8:=hw;cases i with
 | mk a b c e p =>
  match p,hl with
  | [x0,x1,x2,x3,x4,x5,x6,x7],_=>exact lW f k a b c e x0 x1 x2 x3 x4 x5 x6 x7 n
set_option maxHeartbeats 1000000 in
theorem rZ{k:Int}{i:Nd}{xs:Bk}{a3:Option Addr}{l3 c3:Nat}(h63:k<=9223372036854775807)(h:Fo R w f a v d F)(hM:ON F)(hi:A1 F.A.V F.A.s.geo k=(i,0))(hkd:i.kind=1\/i.kind=2)(hl:xs.length=l3)(l0:0<l3)(l1:l3<=1536)(hc3:l3<=c3)
  (hrd:BG w a3 (A6 xs)) (hdo:∀ q',a3=some q'->¬ R q'.block/\q'.block<w.heap.size) (hz:∀ m,m<(l3+255) / 256->i.p.getD m 0=0) (hs0:i.size<l3) (hs1:0<=i.size)
  (hfree:Rq 0 l3<=(Bv F.A F.A.s.geo.gs.toNat).1) (hok:∀ j,j<(l3+255) / 256->okB (BR F k i xs j).F (BR F k i xs j).near/\(BR F k i xs j).near<=9223372036854775807) (ho:O7 (O4 (BR F k i xs ((l3+255) / 256)).i l3)=true)
  (hlast:F.A.V.last+20<=1000000) (hml:(F.mi k).length+20<=1000000) (hp:(Au F.A.s.geo k).2.2=0)
  (hk:∀ w' R',Ab R w w'->Sb R R' w->Fo R' w' f a v d (wrF F k i xs)->ON (BR F k i xs ((l3+255) / 256)).F->(∀ x∈(BR F k i xs ((l3+255) / 256)).af,1<=x/\x<=((BR F k i xs ((l3+255) / 256)).F.A.V.last:Int))->(B2 (BR F k i xs ((l3+255) / 256)).F.A.V (BR F k i xs ((l3+255) / 256)).F.A.s.geo (BR F k i xs ((l3+255) / 256)).F.A.hs/\Mb (BR F k i xs ((l3+255) / 256)).F.A.V/\WF (BR F k i xs ((l3+255) / 256)).F.A.V.C.D)->K (Yn 0) w') :
  A7 Yt Cg #[Yo f,Yn k,Yn 0,.slice a3 l3 c3] w K:=by
 apply Ik;unfold EX;have hlt:=h.lt;have hd:=h.dlt;have hwf:E3 i:=by have:=Br F.A.V F.A.s.geo k;rw[hi]at this;exact this
 have ht:OZ F k=0:=by unfold OZ;rw[hi,if_neg (fun e=>e rfl),if_neg (by simp only;omega)]
 refine Rf h63 h fun w1 R1 m1 s1 h1=>⟨_,_,rfl,?_⟩;rw[hi];obtain⟨w2,b1,b2,b3,b4⟩:=Aw (P:=Yt) (w:=w1) (T:=69) AC;obtain⟨w3,c1,c2,c3',c4⟩:=b2.put (T:=69) (vs:=nV i) Am rfl (A4 hwf) (Bl _);have M3:Ab No w1 w3:=b3.own c3' (Le _);have z1:=m1.size;refine⟨_,w2,b1,w3,c1,ff (by rw[ht];rfl) (Ad.dup (ff rfl ⟨_,rfl,ff (Lh (by omega)) (Ad.dup (ff rfl ⟨_,rfl,ff (Lh (by rw[Ag (by omega) (by omega)];omega)) ?_⟩))⟩))⟩
 refine Ad.dup ⟨i.kind,c2.at.fld Ah rfl,ff (by rw[Fm];exact Lh (by omega)) ⟨_,rfl,ff rfl (ff (by rw[Fm];exact Lh (by omega)) ?_)⟩⟩;have h3:=h1.nos M3;obtain⟨Ra,hA,hRa,hc⟩:=h3.alc;refine⟨_,rfl,_,h3.pa,iJ hA fun w4 R4 m4 s4 h4=>⟨_,_,rfl,dJ ⟨_,rfl,ff (Lh (by show ¬ (Bv F.A _).1<_;omega)) ?_⟩⟩⟩;obtain⟨k1,k2,k3⟩:=hc w4 R4 _ m4 s4 h4;have n9:¬ Ra w1.heap.size/\¬ (R1 w1.heap.size\/R4 w1.heap.size):=by
  have n1:¬ R1 w1.heap.size:=fun e=>by have:=h1.lt _ e;omega
  have:=b3.size
  have:=c3'.size
  refine⟨fun e=>by have:=hRa _ e;exact n1 this,fun e=>?_⟩;rcases k2 _ e with e | e
  ·exact n1 e
  ·omega
 have q4:Av w4 w1.heap.size 0 (nV i):=c2.keep k1 (fun e=>n9.2 (.inl e));have M4d:Ab No w4 (Go.Den.Af w4):=(Ab.refl _ _).drew;have q4d:=q4.drew;refine⟨_,q4d.at.all Am (A4 hwf),_,q4d.at.all Am (A4 hwf),rW fun w5 m5=>⟨_,rfl,?_⟩⟩;obtain⟨w6,d1,d2,d3,d4⟩:=AB (P:=Yt) (w:=w5) (T:=137) (cs:=wV f k i none 0 0 0);refine⟨(q4d.keep m5 id).at.all Am (A4 hwf),_,rD hwf,_,w6,d1,?_⟩
 have M6:Ab No w4 w6:=(M4d.no m5).no d3;have h6:=k3.nos M6;have q6:Av w6 w1.heap.size 0 (nV i):=(q4d.keep m5 id).keep d3 id;have z4:=k1.size;have z6:=M6.size;have z3:=M3.size;have T6:Ab R w w6:=((m1.no M3).trans k1 fun x hx e=>(s1 x e).resolve_right (by omega)).no M6;have S6:Sb R (fun z=>R1 z\/R4 z) w:=fun z hz=>by
  rcases k2 z hz with e|e
  ·exact s1 z e
  ·exact .inr (by omega)
 have wl:w5.heap.size+1=w6.heap.size:=d4.symm;have z5:=(M4d.no m5).size;have hd3:∀ q',a3=some q'->q'.block<w.heap.size/\∀ R',Sb R R' w->¬ R' q'.block:=fun q' e=>⟨(hdo q' e).2,fun R' s r=>(s _ r).elim (hdo q' e).1 fun x=>by have:=(hdo q' e).2;omega⟩;have w9:w1.heap.size<w5.heap.size:=by have:=(c2.keep k1 (fun e=>n9.2 (.inl e))).lt;omega
 refine⟨fun x wj=>∃(j:Nat)(Rj:Nat->Prop)(aa:Option Addr)(lc:Nat)(u1 u2:Value),j<=(l3+255) / 256/\x=[Yn ((min (256*j) l3:Nat):Int),u1,u2]/\Ab R w wj/\Sb R Rj w/\Fo Rj wj f a v d (BR F k i xs j).F/\ON (BR F k i xs j).F/\(∀ x∈(BR F k i xs j).af,1<=x/\x<=((BR F k i xs j).F.A.V.last:Int)) /\
   Av wj w5.heap.size 0 (wV f k (BR F k i xs j).i aa (BR F k i xs j).af.length lc (BR F k i xs j).near)/\Ow Yt wj w6.heap.size 75 1 aa (BR F k i xs j).af.length lc (iL (BR F k i xs j).af)/\(∀ q',aa=some q'->¬ Rj q'.block)/\(∀ z,Rj z->z≠w5.heap.size/\z≠w1.heap.size)/\Av wj w1.heap.size 0 (nV i)/\w6.heap.size<=wj.heap.size/\BG wj a3 (A6 xs),
  fun x _=>(l3-nI x 0).toNat,⟨0,_,none,0,_,_,by omega,rfl,T6,S6,h6,hM,(fun _ e=>by cases e),d2,Ow.nil Hg,(fun _ e=>by cases e),(fun z hz=>⟨fun e=>?_,fun e=>?_⟩),q6,Le _,?_⟩,?_⟩
 ·have:=k3.lt z hz
  omega
 ·exact n9.2 (e ▸ hz)
 ·exact hrd.keep T6 fun q' e=>(hdo q' e).1
 rintro x wj ⟨j,Rj,aa,lc,u1,u2,hj,rfl,Tj,Sj,hF,hMj,haf,qj,oj,nja,njq,q9,zj,hrj⟩;obtain⟨i1,i2,i3,i4,i5,i6,i7,i8,i9,i10⟩:=gS F k hwf xs j;have ew:Yw (0+(l3:Int))=l3:=by rw[Ag (by omega) (by omega)];omega
 refine⟨_,rfl,?_⟩;rw[ew];refine Aa (fun hb=>?_) (fun hb=>?_)
 ·have hb:=Ld hb;have hj2:j<(l3+255) / 256:=by omega
  have hm:(min (256*j) l3:Nat)=256*j:=by omega
  have hjl:256*j<l3:=by omega
  rw[hm];have e1:Yw (((256*j:Nat):Int)-0)=((256*j:Nat):Int):=by rw[Ag (by omega) (by omega)];omega
  have e2:Int.tmod ((256*j:Nat):Int) 256=0:=by rw[pJ (by omega)];omega
  have e3:Yw (256-0)=256:=rfl;have e4:Yw (((256*j:Nat):Int)+256)=((256*j+256:Nat):Int):=by rw[Ag (by omega) (by omega)];omega
  have e5:Yw ((l3:Int)-0)=l3:=by rw[Ag (by omega) (by omega)];omega
  have e6:Yw (Int.tdiv ((256*j:Nat):Int) 256)=j:=by rw[cF (by omega),Ag (by omega) (by omega)];omega
  have e7:(if ((256*j+256:Nat):Int)<(l3:Int)then((256*j+256:Nat):Int)else(l3:Int))=((min (256*j+256) l3:Nat):Int):=by split<;>omega
  rw[e1,e2,e3,e4,e5,e6,e7];refine⟨_,_,_,BH Aj (by omega) (by omega) (by omega),?_⟩;rw[Lz,Lz];obtain⟨w12,g1,g2,g3,g4⟩:=DK (P:=Yt) (w:=wj) (n:=256) CF (by omega) (by omega) (by omega);refine⟨_,_,_,w12,g1,_,_,_,Gq Aj (by omega) (by omega),?_⟩;have c0:CL (some (⟨wj.heap.size,0,none⟩:Addr)) 256 (0:Int).toNat 1=some ⟨wj.heap.size,0,none⟩:=by unfold CL;rw[if_neg (by decide)];rfl
  rw[c0];have hrow:BG w12 (CL a3 c3 (256*j) 1) (A6 ((xs.drop (256*j)).take (min (256*j+256) l3-256*j))):=(hrj.nos g3).cut (by omega) (by omega);have hys:(xs.drop (256*j)).take (min (256*j+256) l3-256*j)=(xs.drop (256*j)).take 256:=List.take_eq_take_iff.2 (by rw[Lf4];omega);have hyl:((xs.drop (256*j)).take 256).length=min (256*j+256) l3-256*j:=by rw[pK,Lf4];omega
  rw[hys]at hrow;obtain⟨w13,p1,p2,p3,p4⟩:=GP (P:=Yt) (T:=57) (T2:=57) (ty:=3) (i:=0) (n:=256) (c:=256) (n2:=min (256*j+256) l3-256*j) (c2:=c3-256*j) (a2:=CL a3 c3 (256*j) 1) (src:=A6 ((xs.drop (256*j)).take 256)) Aj g2 (by rw[Lw];omega) hrow (by rw[Ai,hyl];omega) (Cu _);rw[nU hyl (by omega)]at p2;have p2':Av w13 wj.heap.size 0 (A6 (Wv xs j)):=by unfold Wv;rw[hyl];exact p2
  refine⟨_,w13,p1,?_⟩;have M13:Ab No wj w13:=g3.own p3 (Le _);have z13:=M13.size;obtain⟨okb,nearb⟩:=hok j hj2;have q5:w5.heap.size<w6.heap.size:=by omega
  have naa:∀ q',aa=some q'->w6.heap.size<=q'.block:=fun q' e=>(oj.base e).1;refine rU (base:=w6.heap.size) (n:=j) (data:=Wv xs j) nearb (hF.nos M13) hMj (qj.keep M13 id) (fun e=>(njq _ e).1 rfl) (by omega) i1 (by omega) (by rw[i10 j (Le _)];exact hz j hj2) okb (by omega) (by omega) (JN _ _) (.inr ⟨_,_,rfl,p2'.at⟩) (fun q' e=>?_) (oj.nos M13) (by omega) (by omega) (by omega) (fun q' e=>⟨nja q' e,by have:=naa q' e;omega⟩) fun w14 R14 aa' lc' m14 s14 h14 hM14 hL14 q14 o14 n14=>⟨_,_,_,rfl,Ad.dup (tt rfl ⟨_,rfl,Ad.dup (ff rfl ⟨_,rfl,ff rfl ⟨⟨j+1,R14,aa',lc',Yn 0,.bool (!true),by omega,?_,?_,?_,h14,hM14,?_,q14,o14,fun q' e=>(n14 q' e).1,?_,?_,?_,?_⟩,?_⟩⟩)⟩)⟩
  ·cases e;exact⟨fun e=>by have:=hF.lt _ e;simp at this,by simp only;omega,p2'.lt⟩
  ·have:Yw (((256*j:Nat):Int)+((min (256*j+256) l3-256*j:Nat):Int))=((min (256*(j+1)) l3:Nat):Int):=by rw[Ag (by omega) (by omega)];omega
   rw[this]
  ·refine(Tj.no M13).trans m14 fun x hx e=>?_;rcases e with e | e | ⟨q',e,e'⟩
   ·exact(Sj x e).resolve_right (by omega)
   ·omega
   ·have:=naa q' e;omega
  ·intro z hz;rcases s14 z hz with e | e
   ·exact Sj z e
   ·exact .inr (by have:=Tj.size;omega)
  ·intro x hx;have hx:x∈(BR F k i xs j).af++[(Ak (BR F k i xs j).F.A (BR F k i xs j).near).2.2.1,((Ak (BR F k i xs j).F.A (BR F k i xs j).near).1.V.last:Int)+1]:=hx;show 1<=x/\x<=((sG (BR F k i xs j).F k (BR F k i xs j).near (Wv xs j)).A.V.last:Int);rw[hL14];obtain⟨_,u1,u2,_⟩:=QT (BR F k i xs j).F.A (BR F k i xs j).near;rw[xH okb.1]at hx;rcases Ln.1 hx with hx | hx
   ·have:=haf x hx;omega
   ·rcases Lv.1 hx with e|hx
    ·omega
    ·have:=qA.1 hx
     omega
  ·intro z hz;rcases s14 z hz with e | e
   ·exact njq z e
   ·omega
  ·refine(q9.keep M13 id).keep m14 fun e=>?_;rcases e with e | e | ⟨q',e,e'⟩
   ·exact(njq _ e).2 rfl
   ·omega
   ·have:=naa q' e;omega
  ·have:=m14.size;omega
  ·refine(hrj.nos M13).keep m14 fun q' e r=>?_
   have:=(hdo q' e).2
   rcases r with r|r|⟨q2,e2,r⟩
   ·exact(hd3 q' e).2 Rj Sj r
   ·omega
   ·have:=naa q2 e2;omega
  ·have n1:∀ n u1 u2,nI [Yn n,u1,u2] 0=n:=fun _ _ _=>rfl;show((l3:Int)-nI _ 0).toNat<((l3:Int)-nI _ 0).toNat;rw[n1,n1,Ag (by omega) (by omega)];omega
 ·have hb:=Lc hb;have hj2:j=(l3+255) / 256:=by omega
  have hno:¬ Rj w5.heap.size:=fun e=>(njq _ e).1 rfl;have wl:w5.heap.size<wj.heap.size:=qj.lt;refine⟨i.size,q9.at.fld (j:=2) (v:=Yn i.size) Bq rfl,_,rfl,?_⟩;rw[if_pos (show(l3:Int) > i.size by omega)];have ad4:Addr.add (Addr.add ⟨w5.heap.size,0,none⟩ 2) 2=Addr.add ⟨w5.heap.size,0,none⟩ 4:=by rw[Ae,Ae,Ae]
  rw[ad4];obtain⟨wa,a1,a2,a3',a4⟩:=qj.putF (T:=2) (j:=4) (v:=Yn (l3:Int)) Bq (by rw[Qe i1];omega) rfl;rw[kV]at a2;have q9a:Av wa w1.heap.size 0 (nV i):=q9.keep a3' (fun e=>by omega);refine⟨wa,a1,i.kind,q9a.at.fld (j:=0) (v:=Yn i.kind) Ah rfl,?_⟩;have hFa:=hF.own a3' hno (by omega);have fin:∀ wz,Ab (fun z=>z=w5.heap.size) wj wz->Av wz w5.heap.size 0 (wV f k (O4 (BR F k i xs j).i l3) aa (BR F k i xs j).af.length lc (BR F k i xs j).near) ->
    ∃ q194:Addr,(Yo w5.heap.size:Value)=.pointer (some q194)/\∃ g196:Array Value,Ru (Instr.loadAt 69 (.pointer (some (Addr.add q194 2)))) (Go.Den.Af wz) (.agg g196) (Go.Den.Af wz)/\∃ g197:Array Value,Ru (Instr.loadAt 69 (Yo w1.heap.size)) (Go.Den.Af wz) (.agg g197) (Go.Den.Af wz)/\∃ b198:Bool,Al (G9 .eql 69 (.tmp 196) (.tmp 197) (.agg g196) (.agg g197)) (.bool b198)/\(bif b198 then
     K (Yn 0) (Go.Den.Af wz)
     else
     ∃ q203:Addr,(Yo w5.heap.size:Value)=.pointer (some q203)/\∃ g205:Array Value,Ru (Instr.loadAt 69 (.pointer (some (Addr.add q203 2)))) (Go.Den.Af (Go.Den.Af wz)) (.agg g205) (Go.Den.Af (Go.Den.Af wz))/\∃ q207:Addr,(Yo w5.heap.size:Value)=.pointer (some q207)/\∃(a209:Option Addr)(l209 c209:Nat),Ru (Instr.loadAt 75 (.pointer (some (Addr.add q207 14)))) (Go.Den.Af (Go.Den.Af wz)) (.slice a209 l209 c209) (Go.Den.Af (Go.Den.Af wz))/\A7 Yt Bg #[Yo f,Yn k,.agg g205,.slice a209 l209 c209] (Go.Den.Af (Go.Den.Af wz)) fun r210 w25=>∃ n210a:Int,∃ n210b:Int,r210=.tuple #[Yn n210a,Yn n210b]/\K (Yn n210b) w25):=by
   intro wz mz qz;have hwe:E3 (O4 (BR F k i xs j).i l3):=i1;have M1:Ab No wz (Go.Den.Af wz):=(Ab.refl _ _).drew;have M2:Ab No wz (Go.Den.Af (Go.Den.Af wz)):=M1.drew;have q1:=qz.keep M1 id;have q2:=qz.keep M2 id;have q9z:Av (Go.Den.Af wz) w1.heap.size 0 (nV i):=(q9.keep mz (fun e=>by omega)).keep M1 id;have hne:¬ O4 (BR F k i xs j).i l3=i:=fun e=>by
    have e:=QJ Nd.size e;have:(O4 (BR F k i xs j).i l3).size=if (BR F k i xs j).i.kind=2 then((l3:Int)+255) / 256*256 else l3:=rfl
    rw[this]at e
    split at e<;>omega
   have hFz:=(hF.own mz hno (by omega)).nos M2;have oz:Ow Yt (Go.Den.Af (Go.Den.Af wz)) w6.heap.size 75 1 aa (BR F k i xs j).af.length lc (iL (BR F k i xs j).af):=(oj.keep mz fun q' e r=>by have:=(oj.base e).1;omega).nos M2;have eC:∀ o:Nat,o<16->True:=fun _ _=>trivial;refine⟨_,rfl,_,q1.at.fldA (n:=12) Am (by rw[Qe hwe];omega) (vW hwe),_,q9z.at.all Am (A4 hwf),_,ieq _ _ hwe hwf,ff (Lh hne) ⟨_,rfl,_,q2.at.fldA (n:=12) Am (by rw[Qe hwe];omega) (vW hwe),_,rfl,_,_,_,q2.at.fld fY (gM hwe).1,?_⟩⟩
   refine Ye (after:=(BR F k i xs j).af) h63 hFz hMj hwe (by rw[hj2];exact ho) (by rw[i2];exact hp) (by omega) (by omega) rfl (fun e=>by rw[e]at oz;exact oz.zero) (by omega) haf oz.rowU.row fun w25 R25 m25 s25 h25=>⟨_,_,rfl,hk w25 R25 ?_ ?_ ?_ (by rw[<- hj2];exact hMj) (by rw[<- hj2];exact haf) (by rw[<- hj2];exact hFz.hd)⟩
   ·exact(((Tj.trans mz fun x hx e=>by omega).no M2).trans m25 fun x hx e=>(Sj x e).resolve_right (by omega))
   ·intro z hz;rcases s25 z hz with e | e
    ·exact Sj z e
    ·have:=mz.size
     have:=M2.size
     have:=Tj.size
     exact .inr (by omega)
   ·unfold wrF;rw[hl,<- hj2];exact h25
  rw[Fm];refine Ad.dup (Aa (fun hb2=>?_) (fun hb2=>?_))
  ·have hb2:=Ld hb2;refine⟨_,rfl,(l3:Int),by rw[ad4];exact a2.at.fld (j:=4) Bq rfl,_,rfl,?_⟩;rw[ad4];have er:Yw ((Yw (Int.tdiv (Yw ((Yw ((l3:Int)+256))-1)) 256))*256)=((l3:Int)+255) / 256*256:=by
    rw[Ag (x:=(l3:Int)+256) (by omega) (by omega),Ag (x:=(l3:Int)+256-1) (by omega) (by omega),cF (by omega),Ag (x:=((l3:Int)+256-1) / 256) (by omega) (by omega),Ag (by omega) (by omega)];omega
   rw[er];have i1s:E3 (gD (BR F k i xs j).i l3):=i1;obtain⟨wb,b1',b2',b3',b4'⟩:=a2.putF (T:=2) (j:=4) (v:=Yn (((l3:Int)+255) / 256*256)) Bq (by rw[Qe i1s];omega) rfl;rw[kV]at b2';have eI:gD (gD (BR F k i xs j).i l3) (((l3:Int)+255) / 256*256)=O4 (BR F k i xs j).i l3:=by unfold O4 gD;rw[if_pos (i3.trans hb2)]
   rw[eI]at b2';exact⟨wb,b1',fin wb (a3'.trans b3' fun _ _ e=>e) b2'⟩
  ·have hb2:=Lc hb2;have eI:gD (BR F k i xs j).i l3=O4 (BR F k i xs j).i l3:=by unfold O4 gD;rw[if_neg (fun e=>hb2 (i3.symm.trans e))]
   rw[eI]at a2;exact fin wa a3' a2
end
def O8(A:Az):Fy:=⟨A,fun _=>0,fun _=>[]⟩
theorem zA(A:Az):ON (O8 A):=fun _ _ h=>by cases h
theorem Z9(w:World)(p q:Option Addr)(m n:Option Nat):(Instr.build 110 #[(0,.pointer p),(1,.pointer q),(2,.map m),(3,.map n)]).run Yt w=.ok (.agg ⟨[.pointer p,.pointer q,.map m,.map n]⟩) w:=by kernel_rfl
theorem ON.put{A0:Az}{F:Fy}(h:ON F)(hA:F.A=A0)(hH:B2 A0.V A0.s.geo A0.hs){k:Int}{i:Nd}{after:List Int}(hw:E3 i)(hp:(Au A0.s.geo k).2.2=0)(hb:QP A0.V after=false):ON (Kf F k i after):=by
 subst hA;have hE:=PZ (k:=k) (i:=i) hH hw hp hb;intro n x hx;have hl:((Kf F k i after).A.V.last:Int)=F.A.V.last+1:=by show((BF _ _ _ _ _).last:Int)=_;rw[FA hE];omega
 have old:∀ x,(F.A.V.opn x=true/\1<=x/\x<=(F.A.V.last:Int))->(Kf F k i after).A.V.opn x=true/\1<=x/\x<=((Kf F k i after).A.V.last:Int):=fun x ⟨o1,o2,o3⟩=>⟨LG _ _ _ _ o1,o2,by omega⟩;have hx:x∈(if n=k then F.mi k++[(F.A.V.last:Int)+1]else F.mi n):=hx
 split at hx
 ·rcases Ln.1 hx with hx|hx
  ·exact old x (h k x hx)
  ·have:=qA.1 hx
   rw[this];exact⟨jZ hE,by omega,by omega⟩
 ·exact old x (h n x hx)
section
variable{w w':World}{R R' Ra:Nat->Prop}{f a v d fl fm:Nat}{F:Fy}{A:Az}{K:Value->World->Prop}
theorem AcK(h:Ao R w a v d A)(hk:∀ w' R' f,Ab No w w'->Sb R R' w->Fo R' w' f a v d (O8 A)->w.heap.size<=f->K (Yo f) w'):A7 Yt KW #[Yo a] w K:=by
 apply cS;unfold Ut;have hdl:=h.dlt;have m1:Ab No w (w.alloc (.map #[] 0)):=(Ab.refl No w).alloc _;have s1:(w.alloc (.map #[] 0)).heap.size=w.heap.size+1:=by simp
 have p1:AU (w.alloc (.map #[] 0)) w.heap.size []:=AU.new;refine ff rfl (dK h ⟨_,rfl,_,_,CG,?_⟩);generalize w.alloc (.map #[] 0)=w1 at *;have m2:Ab No w1 (w1.alloc (.map #[] 0)):=(Ab.refl No w1).alloc _;have s2:(w1.alloc (.map #[] 0)).heap.size=w1.heap.size+1:=by simp
 have p2:AU (w1.alloc (.map #[] 0)) w1.heap.size []:=AU.new;refine⟨_,_,CG,_,fun w=>Z9 w _ _ _ _,?_⟩;generalize w1.alloc (.map #[] 0)=w2 at *;obtain⟨w3,c1,c2,c3,c4⟩:=AB (P:=Yt) (w:=w2) (T:=110) (cs:=[Yo a,Yo v,.map (some w.heap.size),.map (some w1.heap.size)]);have M:Ab No w w3:=(m1.no m2).no c3;refine⟨_,w3,c1,hk w3 (fun z=>R z\/z=w2.heap.size\/z=w1.heap.size\/z=w.heap.size) _ M (fun z hz=>?_) ⟨R,w.heap.size,w1.heap.size,[],[],fun _=>none,fun _=>0,?_⟩ (by omega)⟩
 ·rcases hz with hz|hz|hz|hz
  ·exact .inl hz
  all_goals exact .inr (by omega)
 have fb:∀ z,FiB (fun _=>none) w2.heap.size w.heap.size w1.heap.size z->z=w2.heap.size\/z=w1.heap.size\/z=w.heap.size:=by
  rintro z (e|e|e|⟨k,q,e,_⟩)
  ·exact .inl e
  ·exact .inr (.inr e)
  ·exact .inr (.inl e)
  ·cases e
 exact {
  ao:=h.nos M
  cl:=c2
  ml:=(p1.keep m2 id).keep c3 id
  hl:=fun _=>rfl
  mm:=p2.keep c3 id
  hm:=fun _=>rfl
  ow:=fun _=>Ow.nil Hg
  inj:=fun _ _ _ _ e=>by cases e
  ob:=fun z hz=>by
   have:=fb z hz
   exact⟨fun r=>by have:=h.lt z r;omega,by omega⟩
  df:=⟨by omega,by omega,by omega,fun _ _ e=>by cases e⟩
  rg:=fun z hz=>hz.imp id (fb z)
  lt:=fun z hz=>by
   rcases hz with hz|hz
   ·have:=h.lt z hz
    have:=M.size
    omega
   ·omega }
theorem Re(h:Fo R w f a v d F)(hk:K (Yo a) w):A7 Yt B8 #[Yo f] w K:=by
 apply Pk;unfold Iz;exact ff rfl ⟨_,rfl,_,h.pa,hk⟩
theorem ZQ{k f0 b:Int}{n:Nat}{data:Bk}{a3 a4:Option Addr}{l3 c3 l4 c4:Nat}{after:List Int}(h63:k<=9223372036854775807)(h:Fo R w f a v d F)(hM:ON F)(ht:OZ F k=0)(hn:n<6)(hp:(A1 F.A.V F.A.s.geo k).1.p.getD n 0=b)(hb:(AT F.A.s.geo b).1=4)(hlast:F.A.V.last+1<=1000000)(hml:(F.mi k).length<=1000000)
  (hd:data.length=l3) (hl0:l3≠0) (f00:0<=f0) (f1:f0+l3<=256) (hrd:BG w a3 (A6 data)) (hdo:∀ q,a3=some q->¬ R q.block/\q.block<w.heap.size)
  (hal:after.length=l4) (h0:a4=none->l4=0/\c4=0) (ha6:l4<=1000000) (ha:∀ x∈after,1<=x/\x<=(F.A.V.last:Int)) (hra:BG w a4 (iL after)) (hao:∀ q,a4=some q->¬ R q.block)
  (hk:∀ w' R',Ab R w w'->Sb R R' w->Fo R' w' f a v d (Ny F k b f0 data after)->K (.tuple #[Yn ((F.A.V.last:Int)+1),Yn 0]) w') :
  A7 Yt Fg #[Yo f,Yn k,Yn n,Yn f0,.slice a3 l3 c3,.slice a4 l4 c4] w K:=by
 apply Pm;unfold I1;obtain⟨_,b1,_⟩:=Gh hb;refine ZR h63 h ht hn fun w1 R1 m1 s1 h1=>⟨_,_,rfl,ff rfl ?_⟩;rw[hp];refine ff (by rw[Fm];exact Lh (by omega)) (iW (hra.keep m1 hao) hal h0 ha6 (fun x hx=>(ha x hx).1) fun w2 a' c' o2 m2=>⟨_,_,_,rfl,?_⟩);have h2:=h1.nos m2;refine rY (data:=data) (after:=after) h2 hM hb hlast hml hd hl0 f00 f1 ((hrd.keep m1 fun q e=>(hdo q e).1).nos m2) (fun q e r=>?_) hal ha6 ha o2.rowU.row (fun _ q e r=>?_) fun w3 R3 m3 s3 h3=>⟨_,_,rfl,hk w3 R3 (Ab.sb (m1.no m2) s1 m3) ?_ h3⟩
 ·rcases s1 _ r with r|r
  ·exact(hdo q e).1 r
  ·have:=(hdo q e).2;omega
 ·have:=(o2.base e).1
  have:=h1.lt _ r
  omega
 ·have:=m1.size
  have:=m2.size
  exact s1.trans (s3.up (by omega)) (by omega)
end
def Dd(F:Fy)(k:Int):Int:=if (A1 F.A.V F.A.s.geo k).2≠0 then(A1 F.A.V F.A.s.geo k).2 else if (A1 F.A.V F.A.s.geo k).1.kind=0 then 20 else if (A1 F.A.V F.A.s.geo k).1.kind≠2 then 23 else 0
def pB(i:Nd)(n:Nat):Int:=i.p.getD n 0
def O3(F:Fy)(i:Nd)(n:Nat):Bk:=A3 F.A.V (pB i n).toNat
def Sx(i:Nd):Nat:=((i.size+255) / 256).toNat
def Aa7(F:Fy)(i:Nd):Nat->List (Dt×Nat)
 | 0=>[]
 | n+1=>if pB i n=0 then Aa7 F i n else Aa7 F i n++rQ (O3 F i n) 8
def Gp(F:Fy)(i:Nd)(nm:Bs):Nat->Option (Dt×Nat)
 | 0=>none
 | n+1=>match Gp F i nm n with | some x=>some x | none=>if pB i n=0 then none else match EH (O3 F i n) nm 8 with | some j=>some ((H8 (Gf (O3 F i n) j)).1,n*8+j) | none=>none
def Nc(F:Fy)(i:Nd):Nat->Option Nat
 | 0=>none
 | n+1=>match Nc F i n with | some x=>some x | none=>if pB i n=0 then none else match IO (O3 F i n) 8 with | some j=>some (n*8+j) | none=>none
def zE(F:Fy)(i:Nd):Prop:=Sx i<=6/\0<=i.size/\i.size<=1066496/\∀ n,n<Sx i->pB i n≠0->(AT F.A.s.geo (pB i n)).1=4
theorem UQ{x nm:Bs}{j:Nat}:∀{n:Nat},EH x nm n=some j->j<n
 | n+1,h=>by
  unfold EH at h
  split at h
  ·rename_i e
   have:=UQ e
   cases h;omega
  ·split at h
   ·split at h
    ·cases h;omega
    ·cases h
   ·cases h
theorem bH{x:Bs}{j:Nat}:∀{n:Nat},IO x n=some j->j<n
 | n+1,h=>by
  unfold IO at h
  split at h
  ·rename_i e
   have:=bH e
   cases h;omega
  ·split at h
   ·cases h;omega
   ·cases h
theorem Nx:Cw Yt 35=true:=by kernel_rfl
structure Dg(R0 R:Nat->Prop)(w0:World)(m f a v d:Nat)(F:Fy)(R':Nat->Prop)(W:World):Prop where
 fo:Fo R' W f a v d F
 md:Ab R0 w0 W
 sb:∀ z,R' z->R z\/m+2<=z
section
variable{w w0 w' W W':World}{R R' R'' Ra:Nat->Prop}{m f a v d D:Nat}{F:Fy}{K:Value->World->Prop}
theorem Dg.mv{R0:Nat->Prop}(h:Dg R0 R w0 m f a v d F R' W)(hz:m+2<=W.heap.size)(h0:w0.heap.size<=m)(s1:Sb R0 R w0)(mm:Ab R' W W')(s:Sb R' R'' W)(fo:Fo R'' W' f a v d F):Dg R0 R w0 m f a v d F R'' W' where
 fo:=fo
 md:=h.md.trans mm fun x hx e=>(s1 x ((h.sb x e).resolve_right (by omega))).resolve_right (by omega)
 sb:=fun z hz'=>by
  rcases s z hz' with e|e
  ·exact h.sb z e
  ·exact .inr (by omega)
theorem Dg.st{R0 S:Nat->Prop}(h:Dg R0 R w0 m f a v d F R' W)(mm:Ab S W W')(hS:∀ z,S z->¬ R' z/\w0.heap.size<=z)(hd:d<=w0.heap.size):Dg R0 R w0 m f a v d F R' W' where
 fo:=h.fo.keep mm (fun z hz e=>(hS z e).1 hz) fun z hz=>by have:=(hS z hz).2;omega
 md:=h.md.trans mm fun x hx e=>by have:=(hS x e).2;omega
 sb:=h.sb
theorem Dg.nos{R0:Nat->Prop}(h:Dg R0 R w0 m f a v d F R' W)(mm:Ab No W W'):Dg R0 R w0 m f a v d F R' W':=⟨h.fo.nos mm,h.md.no mm,h.sb⟩
theorem Dg.no{R0:Nat->Prop}(h:Dg R0 R w0 m f a v d F R' W){q:Nat}(h1:¬ R q)(h2:q<m+2):¬ R' q:=fun e=>by
 rcases h.sb q e with r|r
 ·exact h1 r
 ·omega
theorem Dg.up{R0:Nat->Prop}(h:Dg R0 R w0 m f a v d F R' W)(h0:w0.heap.size<=m)(s1:Sb R0 R w0):Sb R0 R' w0:=fun z hz=>by
 rcases h.sb z hz with e|e
 ·exact s1 z e
 ·exact .inr (by omega)
theorem YR{i:Nd}(h0:0<=i.size)(h1:i.size<=1066496)(hk:∀ w',Ab No w w'->K (Yn ((Sx i:Nat):Int)) w'):A7 Yt FU #[.agg ⟨nV i⟩] w K:=by
 apply Ui;unfold ME;obtain⟨w1,a1,a2,a3,a4⟩:=AB (P:=Yt) (w:=w) (T:=69) (cs:=nV i);have e:((Sx i:Nat):Int)=(i.size+255) / 256:=by unfold Sx;omega
 rw[e]at hk;refine⟨_,w1,a1,i.size,a2.at.fld (j:=2) (v:=Yn i.size) Bq rfl,?_⟩;rw[if_neg (show ¬ 0 > i.size by omega),pJ h0,cF h0];refine Ad.dup (Aa (fun h=>⟨_,rfl,?_⟩) (fun h=>⟨_,rfl,?_⟩))
 ·have h:=Ld h;rw[Ag (x:=i.size / 256) (by omega) (by omega),Ag (by omega) (by omega),show i.size / 256+1=(i.size+255) / 256 by omega];exact hk _ a3
 ·have h:=Lc h;rw[Ag (by omega) (by omega),show i.size / 256=(i.size+255) / 256 by omega];exact hk _ a3
theorem XX{k:Int}(h63:k<=9223372036854775807)(hD:Av w D 0 [Yo f])(h:Fo R w f a v d F)
  (hk:∀ w' R',Ab R w w'->Sb R R' w->Fo R' w' f a v d F->K (.tuple #[.agg ⟨nV (A1 F.A.V F.A.s.geo k).1⟩,Yn (Dd F k)]) w'):A7 Yt CT #[Yo D,Yn k] w K:=by
 apply Ug;unfold MC;obtain⟨w1,b1,b2,b3,b4⟩:=Aw (P:=Yt) (w:=w) (T:=69) AC;have h1:=h.nos b3;have hlt:=h.lt;have hd:=h.dlt;have hwf:=Br F.A.V F.A.s.geo k;have hln:=A4 hwf;refine⟨_,w1,b1,ff rfl ⟨_,rfl,_,(hD.keep b3 id).at.fld (j:=0) (v:=Yo f) B0 rfl,eY h63 h1 fun w2 R2 m2 s2 h2=>⟨_,_,rfl,?_⟩⟩⟩;have n1:¬ R w.heap.size:=fun e=>by have:=hlt _ e;omega
 have n2:¬ R2 w.heap.size:=fun e=>by
  rcases s2 _ e with e|e
  ·exact n1 e
  ·omega
 obtain⟨w3,d1,d2,d3,d4⟩:=Aw (P:=Yt) (w:=w2) (T:=69) AC;obtain⟨w4,e1,e2,e3,e4⟩:=d2.put (T:=69) (vs:=nV (A1 F.A.V F.A.s.geo k).1) Am rfl hln (Bl _);have M4:Ab No w2 w4:=d3.own e3 (Le _);have h4:=h2.nos M4;have q4:=((b2.keep m2 n1).keep M4 id);have MM:Ab R w w4:=((b3.mono fun _ _ e=>e.elim).trans m2 fun _ _ e=>e).no M4;have S4:=s2.up b3.size;have lk:Ru (Instr.loadAt 3 (.pointer (some (Addr.add ⟨w2.heap.size,0,none⟩ 0)))) w4 (Yn (A1 F.A.V F.A.s.geo k).1.kind) w4:=e2.at.fld (v:=Yn (A1 F.A.V F.A.s.geo k).1.kind) Ah rfl
 have fin:∀ e:Int,e=Dd F k->∃ g21:Array Value,Ru (Instr.loadAt 69 (Yo w2.heap.size)) w4 (.agg g21) w4/\∃ w7:World,Gr (Instr.storeAt 69 (Yo w.heap.size) (.agg g21)) w4 w7/\∃ gR4:Array Value,Ru (Instr.loadAt 69 (Yo w.heap.size)) w7 (.agg gR4) w7/\K (.tuple #[.agg gR4,Yn e]) w7:=fun e he=>by
  obtain⟨w7,g1,g2,g3,g4⟩:=q4.put (T:=69) (vs:=nV (A1 F.A.V F.A.s.geo k).1) Am rfl hln (Bl _);refine⟨_,e2.at.all Am hln,w7,g1,_,g2.at.all Am hln,?_⟩;rw[he];exact hk w7 R2 (MM.trans g3 fun x hx e=>by have e:x=w.heap.size:=e;omega) S4 (h4.own g3 n2 (by omega))
 refine⟨_,w3,d1,w4,e1,?_⟩;rw[DN];refine Aa (fun he=>fin _ ?_) (fun he=>⟨_,lk,?_⟩)
 ·have he:=Ld he;unfold Dd;rw[if_pos he]
 have he:=VU.1 (Lc he);rw[Fm];refine Aa (fun hb=>fin _ ?_) (fun hb=>⟨_,lk,?_⟩)
 ·have hb:=Ld hb;unfold Dd;rw[if_neg (by rw[he];decide),if_pos hb]
 have hb:=Lc hb;rw[DN];refine Aa (fun hc=>fin _ ?_) (fun hc=>fin _ ?_)
 ·have hc:=Ld hc;unfold Dd;rw[if_neg (by rw[he];decide),if_neg hb,if_pos hc]
 ·have hc:=VU.1 (Lc hc);unfold Dd;rw[if_neg (by rw[he];decide),if_neg hb,if_neg (by rw[hc];decide)]
theorem WI{k : Int}{p0 : Option Addr}{i : Nd}(hk : ∀ w', Ab No w w' → w'.heap.size = w.heap.size + 3 → Av w' w.heap.size 0 [.pointer p0] → Av w' (w.heap.size + 1) 0 [Yn k] → Av w' (w.heap.size + 2) 0 (nV i) →
      K (.func (.func CN) #[] #[.pointer (some ⟨w.heap.size + 2, 0, none⟩), Yo w.heap.size, .pointer (some ⟨w.heap.size + 1, 0, none⟩)]) w') : A7 Yt C6 #[.pointer p0, Yn k, .agg ⟨nV i⟩] w K := by
  apply Qo;unfold Jg;obtain⟨w1, a1, a2, a3, a4⟩ := Md (P := Yt) (w := w) (T := 35) (v := .pointer p0) rfl;obtain⟨w2, b1, b2, b3, b4⟩ := Md (P := Yt) (w := w1) (T := 3) (v := Yn k) rfl;obtain⟨w3, c1, c2, c3, c4⟩ := AB (P := Yt) (w := w2) (T := 69) (cs := nV i);rw[a4]at b1 b2 b4;rw[b4]at c1 c2 c4;exact⟨_, w1, a1, _, w2, b1, _, w3, c1, hk w3 ((a3.no b3).no c3) c4 ((a2.keep b3 id).keep c3 id) (b2.keep c3 id) c2⟩
theorem yB{b:Int}(h:Fo R w f a v d F)(hb:(AT F.A.s.geo b).1=4)
  (hk:∀ w' R' g cc,Ab R w w'->Sb R R' w->Fo R' w' f a v d F->w.heap.size<=g->¬ R' g->Av w' g 0 (A6 (A3 F.A.V b.toNat))->(A3 F.A.V b.toNat).length=256->256<=cc->K (.tuple #[.slice (some ⟨g,0,none⟩) 256 cc,Yn 0]) w') :
  A7 Yt Ga #[Yo v,Yn b] w K:=by
 have hlt:=h.lt;obtain⟨Ra,hA,hRa,hc⟩:=h.alc;refine lH hA hb fun w' R' g cc m s hA' hg hn hat hl hcc=>?_;obtain⟨c1,c2,c3⟩:=hc w' R' _ m s hA';exact hk w' _ g cc c1 c2 c3 hg (fun e=>e.elim (fun e=>by have:=hlt g e;omega) hn) hat hl hcc
set_option maxRecDepth 4000 in
theorem rA{q3 q4 q5 lo:Nat}{k:Int}{i:Nd}(h63:k<=9223372036854775807)(ht:OZ F k=0)(hi:(A1 F.A.V F.A.s.geo k).1=i)(hw:E3 i)(ok:zE F i) :
  Itr CN #[Yo q5,Yo q3,Yo q4] (Sx i)
   (fun R W=>lo<=W.heap.size/\Fo R W f a v d F/\Av W q3 0 [Yo D]/\Av W D 0 [Yo f]/\Av W q4 0 [Yn k]/\Av W q5 0 (nV i)) (fun R W R' W'=>Ab R W W'/\Sb R R' W/\Fo R' W' f a v d F) (fun n=>pB i n=0)
   (fun n ys R W=>pB i n≠0/\∃ g cc,ys=[Yn (n:Int),.slice (some ⟨g,0,none⟩) 256 cc]/\Av W g 0 (A6 (O3 F i n))/\(O3 F i n).length=256/\256<=cc/\¬ R g/\lo<=g):=by
 intro l w R K J E h0 hC hMv hSk hst hk;obtain⟨ok1,ok2,ok3,ok4⟩:=ok;refine Ol _ _ _ _ w K ?_;unfold HJ;obtain⟨_,hF0,_,_,_,c5⟩:=hC _ _ _ h0;refine⟨_,c5.at.all Am (A4 hw),YR ok2 ok3 fun w1 m1=>⟨_,rfl,?_⟩⟩;have hJ1:=hMv _ _ _ _ _ h0 ⟨m1.mono fun _ _ e=>e.elim,Sb.refl _ _,hF0.nos m1⟩;refine⟨fun x W=>∃(n:Nat)(y z:Value)(R':Nat->Prop),x=[Yn n,y,z]/\n<=Sx i/\J n R' W,fun x _=>(Sx i-nI x 0).toNat,⟨0,_,_,R,rfl,qE _,hJ1⟩,?_⟩
 rintro x W ⟨n,y,z,R',rfl,hn,hJ⟩;refine⟨_,rfl,Aa (fun hb=>?_) (fun hb=>hk W (.inl ⟨R',?_⟩))⟩
 ·have hb:=Ld hb;have hnN:n<Sx i:=by omega
  refine Ad.cut (fun z W'=>∃ y1 y2,z=[y1,y2]/\∃ R',J (n+1) R' W') ?_ ?_
  ·have M:Ab No W (Go.Den.Af W):=(Ab.refl _ _).drew;obtain⟨lo1,hF,p3,pD,p4,p5⟩:=hC _ _ _ hJ;refine⟨_,p3.drew.at.one Nx,_,rfl,_,pD.drew.at.fld (j:=0) (v:=Yo f) B0 rfl,k,p4.drew.at.one Ah,ZR h63 (hF.nos M) ht (by omega) fun w3 R3 m3 s3 h3=>⟨_,_,rfl,?_⟩⟩;have hJ3:=hMv _ _ _ _ _ hJ ⟨(M.mono fun _ _ e=>e.elim).trans m3 fun _ _ e=>e,s3,h3⟩;rw[hi];refine Ad.dup (ff rfl ⟨_,rfl,?_⟩)
   rw[Fm];refine Aa (fun h=>⟨_,_,rfl,R3,hSk n R3 w3 hnN (Ld h) hJ3⟩) (fun h=>?_);have hp:pB i n≠0:=Lc h;obtain⟨lo3,_,p3,pD,p4,p5⟩:=hC _ _ _ hJ3;refine⟨_,p3.at.one Nx,_,rfl,_,pD.at.fld (j:=0) (v:=Yo f) B0 rfl,Re h3 ⟨_,rfl,?_⟩⟩;obtain⟨Ra,hA,_,_⟩:=h3.alc;refine dK hA ⟨_,rfl,yB h3 (ok4 n hnN hp) fun w7 R7 g cc m7 s7 h7 hg hg2 hat hl hcc=>⟨_,_,_,_,rfl,?_⟩⟩
   have hJ7:=hMv _ _ _ _ _ hJ3 ⟨m7,s7,h7⟩;refine Ad.cut (fun z W'=>(z=[.bool false]/\∃ R',J (n+1) R' W')\/(z=[.bool true]/\E W')) (tt rfl ?_) ?_
   ·exact⟨.yield l,#[],#[],rfl,rfl,rfl,hst n _ R7 _ _ hnN ⟨hp,g,cc,rfl,hat,hl,hcc,hg2,by omega⟩ hJ7 (fun R'' W' hJ'=>⟨true,rfl,.inl ⟨rfl,R'',hJ'⟩⟩) fun W' hE=>⟨false,rfl,.inr ⟨rfl,hE⟩⟩⟩
   ·rintro z W' (⟨rfl,R'',hJ'⟩|⟨rfl,hE⟩)
    ·exact⟨_,rfl,ff rfl ⟨_,_,rfl,R'',hJ'⟩⟩
    ·exact⟨_,rfl,tt rfl (hk W' (.inr hE))⟩
  ·rintro z W' ⟨y1,y2,rfl,R'',hJ'⟩;rw[Ag (x:=(n:Int)+1) (by omega) (by omega)];exact⟨⟨n+1,_,_,R'',rfl,by omega,hJ'⟩,by simp[nI,A2];omega⟩
 ·have hb:=Lc hb;have:n=Sx i:=by omega
  rw[<- this];exact hJ
end
def AfM:Option (Dt×Nat)->Value
 | some (e,n)=>.tuple #[.agg ⟨eV e⟩,Yn (n:Int),Yn 0]
 | none=>.tuple #[.agg ⟨eV RI⟩,Yn 0,Yn 20]
theorem vM{α:Type}{g:Nat->Option α}(hg:∀ n x,g n=some x->g (n+1)=some x){n:Nat}{x:α}(h:g n=some x):∀{m:Nat},n<=m->g m=some x
 | 0,hm=>by rw[show n=0 by omega]at h;exact h
 | m+1,hm=>by
  by_cases e:n=m+1
  ·rw[<- e];exact h
  ·exact hg m x (vM hg h (by omega))
section
variable{w w0 w' W W':World}{R R' R'' Ra:Nat->Prop}{m f a v d D:Nat}{F:Fy}{K:Value->World->Prop}
theorem eU{k:Int}(h63:k<=9223372036854775807)(hD:Av w D 0 [Yo f])(h:Fo R w f a v d F)(hE:Dd F k≠0)
  (hk:∀ w' R',Ab R w w'->Sb R R' w->Fo R' w' f a v d F->K (.tuple #[.slice none 0 0,Yn (Dd F k)]) w') :
  A7 Yt H0 #[Yo D,Yn k] w K:=by
 apply Tz;unfold Hv;refine XX h63 hD h fun w1 R1 m1 s1 h1=>⟨_,_,rfl,?_⟩;have hw:=Br F.A.V F.A.s.geo k;obtain⟨w2,b1,b2,b3,b4⟩:=Aw (P:=Yt) (w:=w1) (T:=69) AC;obtain⟨w3,c1,c2,c3,c4⟩:=b2.put (T:=69) (vs:=nV (A1 F.A.V F.A.s.geo k).1) Am rfl (A4 hw) (Bl _);have M3:Ab No w1 w3:=b3.own c3 (Le _);exact⟨_,w2,b1,w3,c1,tt (by rw[DN];exact Li hE) (hk w3 R1 (m1.no M3) s1 (h1.nos M3))⟩
end
theorem fZ(F:Fy)(i:Nd)(nm:Bs)(n:Nat)(x:Dt×Nat)(h:Gp F i nm n=some x):Gp F i nm (n+1)=some x:=by rw[Gp,h]
theorem fB(F:Fy)(i:Nd)(n:Nat)(x:Nat)(h:Nc F i n=some x):Nc F i (n+1)=some x:=by rw[Nc,h]
theorem Ua{F:Fy}{k:Int}(hE:Dd F k=0):OZ F k=0:=by
 unfold Dd at hE;unfold OZ
 split at hE
 ·rename_i e;rw[if_pos e];exact hE
 ·rename_i e;rw[if_neg e]
  split at hE
  ·cases hE
  ·rename_i e2;rw[if_neg e2]
section
variable{w w0 w' W W':World}{R R' R'' Ra:Nat->Prop}{m f a v d D:Nat}{F:Fy}{K:Value->World->Prop}
set_option maxRecDepth 4000 in
theorem Yf{k:Int}{i:Nd}{nm:Bs}(h63:k<=9223372036854775807)(hD:Av w D 0 [Yo f])(hnD:¬ R D)(h:Fo R w f a v d F)(hi:(A1 F.A.V F.A.s.geo k).1=i)
  (hk:Dd F k≠0->∀ w' R',Ab R w w'->Sb R R' w->Fo R' w' f a v d F->K (.tuple #[.agg ⟨eV RI⟩,Yn 0,Yn (Dd F k)]) w') (ok:Dd F k=0->zE F i)
  (hk0:Dd F k=0->∀ w' R',Ab R w w'->Sb R R' w->Fo R' w' f a v d F->K (AfM (Gp F i nm (Sx i))) w') :
  A7 Yt DB #[Yo D,Yn k,.string (sB nm)] w K:=by
 apply T8;unfold Hw;have hlt:=h.lt;have hd:=h.dlt;have hDl:=hD.lt;have hw:E3 i:=by rw[<- hi];exact Br _ _ _
 obtain⟨w1,a1,a2,a3,a4⟩:=Md (P:=Yt) (w:=w) (T:=9) (v:=.string (sB nm)) rfl;obtain⟨w2,b1,b2,b3,b4⟩:=Aw (P:=Yt) (w:=w1) (T:=143) CH;obtain⟨w3,c1,c2,c3,c4⟩:=Aw (P:=Yt) (w:=w2) (T:=3) NE;obtain⟨w4,d1,d2,d3,d4⟩:=Aw (P:=Yt) (w:=w3) (T:=24) VQ;have M4:Ab No w w4:=((a3.no b3).no c3).no d3;have p5:Av w4 w.heap.size 0 [.string (sB nm)]:=((a2.keep b3 id).keep c3 id).keep d3 id
 have p6:Av w4 w1.heap.size 0 (eV RI):=(b2.keep c3 id).keep d3 id;have p7:Av w4 w2.heap.size 0 [Yn 0]:=c2.keep d3 id;refine⟨_,w1,a1,_,w2,b1,_,w3,c1,_,w4,d1,XX h63 (hD.keep M4 id) (h.nos M4) fun w5 R5 m5 s5 h5=>⟨_,_,rfl,?_⟩⟩;rw[hi];have nq:∀{q:Nat},w.heap.size<=q->q<w4.heap.size->¬ R5 q:=fun h1 h2 e=>by
  rcases s5 _ e with e|e
  ·have:=hlt _ e;omega
  ·omega
 have nQ:∀{q:Nat},w.heap.size<=q->¬ R q:=fun h1 e=>by have:=hlt _ e;omega
 have z5:=m5.size;obtain⟨w6,e1,e2,e3,e4⟩:=Aw (P:=Yt) (w:=w5) (T:=69) AC;obtain⟨w7,g1,g2,g3,g4⟩:=e2.put (T:=69) (vs:=nV i) Am rfl (A4 hw) (Bl _);have M7:Ab No w5 w7:=e3.own g3 (Le _);have p5:=(p5.keep m5 (nQ (by omega))).keep M7 id;have p6:=(p6.keep m5 (nQ (by omega))).keep M7 id;have p7:=(p7.keep m5 (nQ (by omega))).keep M7 id;have p8:=(d2.keep m5 (nQ (by omega))).keep M7 id
 have S5:Sb R R5 w:=s5.up (by omega);have M57:Ab R w w7:=((M4.mono fun _ _ e=>e.elim).trans m5 fun _ _ e=>e).no M7;have h7:=h5.nos M7;refine⟨_,w6,e1,w7,g1,?_⟩;rw[DN];refine Aa (fun hE=>?_) (fun hE=>?_)
 ·have hE:=Ld hE;obtain⟨w8,u1,u2,u3,u4⟩:=p6.put (T:=143) (vs:=eV RI) AK rfl rfl (EC _);obtain⟨w9,v1,v2,v3,v4⟩:=(p7.keep u3 (by show ¬ w2.heap.size=w1.heap.size;omega)).put1 (P:=Yt) (T:=3) (v:=Yn 0) Ah rfl;obtain⟨w10,x1,x2,x3,x4⟩:=((p8.keep u3 (by show ¬ w3.heap.size=w1.heap.size;omega)).keep v3 (by show ¬ w3.heap.size=w2.heap.size;omega)).put1 (P:=Yt) (T:=24) (v:=Yn (Dd F k)) EK rfl
  refine⟨_,G7,w8,u1,w9,v1,w10,x1,_,((u2.keep v3 (by show ¬ w1.heap.size=w2.heap.size;omega)).keep x3 (by show ¬ w1.heap.size=w3.heap.size;omega)).at.all AK rfl,_,(v2.keep x3 (by show ¬ w2.heap.size=w3.heap.size;omega)).at.one Ah,_,x2.at.one EK,hk hE w10 R5 ?_ S5 ?_⟩
  ·exact((M57.trans u3 fun x hx e=>by have e:x=w1.heap.size:=e;omega).trans v3 fun x hx e=>by have e:x=w2.heap.size:=e;omega).trans x3 fun x hx e=>by have e:x=w3.heap.size:=e;omega
  ·exact((h7.own u3 (nq (by omega) (by omega)) (by omega)).own v3 (nq (by omega) (by omega)) (by omega)).own x3 (nq (by omega) (by omega)) (by omega)
 have hE:=VU.1 (Lc hE);have ok:=ok hE;have hk:=hk0 hE;refine⟨_,g2.at.all Am (A4 hw),WI fun w11 m11 z11 r3 r4 r5=>⟨_,rfl,?_⟩⟩;have pD:Av w11 D 0 [Yo f]:=(((hD.keep M4 id).keep m5 hnD).keep M7 id).keep m11 id;have nD5:¬ R5 D:=fun e=>(s5 D e).elim hnD fun e=>by omega
 have z7:=M7.size;have n5:∀{q:Nat},w5.heap.size<=q->¬ R5 q:=fun h e=>by have:=h5.lt _ e;omega
 have p5:=p5.keep m11 id;have p6:=p6.keep m11 id;have p7:=p7.keep m11 id;have p8:=p8.keep m11 id;refine V7 (rA (q3:=w7.heap.size) (q4:=w7.heap.size+1) (q5:=w7.heap.size+2) (lo:=w11.heap.size+2) (D:=D) (f:=f) (a:=a) (v:=v) (d:=d) h63 (Ua hE) hi hw ok) rfl R5
  (fun n R' W=>Dg R R5 w w11.heap.size f a v d F R' W/\Av W D 0 [Yo f]/\Av W w7.heap.size 0 [Yo D]/\Av W (w7.heap.size+1) 0 [Yn k]/\Av W (w7.heap.size+2) 0 (nV i) /\
   Av W w.heap.size 0 [.string (sB nm)]/\Av W w1.heap.size 0 (eV RI)/\Av W w2.heap.size 0 [Yn 0]/\Av W w3.heap.size 0 [Yn 0]/\Gp F i nm n=none)
  (fun W=>∃(R':Nat->Prop)(e:Dt)(j:Nat),Dg R R5 w w11.heap.size f a v d F R' W/\Av W w1.heap.size 0 (eV e)/\Av W w2.heap.size 0 [Yn (j:Int)]/\Av W w3.heap.size 0 [Yn 0]/\Gp F i nm (Sx i)=some (e,j))
  ⟨⟨h7.nos m11,M57.no m11,fun _ e=>.inl e⟩,pD,r3,r4,r5,p5,p6,p7,p8,rfl⟩ ?_ ?_ ?_ ?_ ?_ ?_ ?_ ?_ ?_
 ·rintro n R' W ⟨g,pD,p3,p4,p5,_⟩ hz;exact⟨hz,g.fo,p3,pD,p4,p5⟩
 ·rintro n R' W R2 W2 ⟨g,pD,p3,p4,p5,j5,j6,j7,j8,j9⟩ hz ⟨mm,s,fo⟩;exact⟨⟨g.mv hz (by omega) S5 mm s fo,pD.keep mm (g.no nD5 (by omega)),p3.keep mm (g.no (n5 (by omega)) (by omega)),p4.keep mm (g.no (n5 (by omega)) (by omega)),p5.keep mm (g.no (n5 (by omega)) (by omega)),j5.keep mm (g.no (nq (by omega) (by omega)) (by omega)),j6.keep mm (g.no (nq (by omega) (by omega)) (by omega)),j7.keep mm (g.no (nq (by omega) (by omega)) (by omega)),j8.keep mm (g.no (nq (by omega) (by omega)) (by omega)),j9⟩,R',mm,g.no (n5 (by omega)) (by omega),g.no (n5 (by omega)) (by omega)⟩
 ·rintro n R' W W2 ⟨g,pD,p3,p4,p5,j5,j6,j7,j8,j9⟩ mm;have lo:∀ q,q<w11.heap.size->¬ (q=w11.heap.size\/q=w11.heap.size+1):=fun q h e=>by omega
  refine⟨g.st mm (fun z e=>⟨?_,by omega⟩) (by omega),pD.keep mm (lo _ (by omega)),p3.keep mm (lo _ (by omega)),p4.keep mm (lo _ (by omega)),p5.keep mm (lo _ (by omega)),j5.keep mm (lo _ (by omega)),j6.keep mm (lo _ (by omega)),j7.keep mm (lo _ (by omega)),j8.keep mm (lo _ (by omega)),j9⟩;rcases e with e | e<;>exact g.no (n5 (by omega)) (by omega)
 ·rintro W W2 ⟨R',e,j,g,j6,j7,j8,j9⟩ mm;have lo:∀ q,q<w11.heap.size->¬ (q=w11.heap.size\/q=w11.heap.size+1):=fun q h e=>by omega
  refine⟨R',e,j,g.st mm (fun z e=>⟨?_,by omega⟩) (by omega),j6.keep mm (lo _ (by omega)),j7.keep mm (lo _ (by omega)),j8.keep mm (lo _ (by omega)),j9⟩;rcases e with e | e<;>exact g.no (n5 (by omega)) (by omega)
 ·rintro n R' W hn hs ⟨g,pD,p3,p4,p5,j5,j6,j7,j8,j9⟩;exact⟨g,pD,p3,p4,p5,j5,j6,j7,j8,by rw[Gp,j9];show(if pB i n=0 then none else _)=none;rw[if_pos hs]⟩
 ·rintro n ys R' W ⟨_,gb,cc,rfl,_⟩;rfl
 ·rintro n ys R' W bgn fin dd lo' lb hn ⟨hp,gb,cc,rfl,hat,hl,hcc,hng,hlo⟩ ⟨g,pD,p3,p4,p5,j5,j6,j7,j8,j9⟩ hz hd' hl' hbg hfn hrt;refine⟨_,rfl,_,_,_,rfl,hbg _ W hd' hl' fun w13 m13 z13 hd13 hl13=>?_⟩;have lo:∀ q,q<w11.heap.size->¬ (q=w11.heap.size\/q=w11.heap.size+1):=fun q h e=>by omega
  have g13:=g.st m13 (fun z e=>⟨by rcases e with e | e<;>exact g.no (n5 (by omega)) (by omega),by omega⟩) (by omega);have hat13:=hat.keep m13 (show ¬ (gb=_\/gb=_) by omega);have seekN:∀ o,EH (O3 F i n) nm 8=o->Gp F i nm (n+1)=match o with | some j=>some ((H8 (Gf (O3 F i n) j)).1,n*8+j) | none=>none:=fun o ho=>by
   rw[Gp,j9];show(if pB i n=0 then none else _)=_;rw[if_neg hp,ho];all_goals (cases o<;>rfl)
  refine⟨_,(j5.keep m13 (lo _ (by omega))).at.one NV,xO hl hcc (.inr ⟨_,_,rfl,hat13.at⟩) fun w14 m14=>⟨_,rfl,?_⟩⟩;have z14:=m14.size;have far:∀{q:Nat}{cs:List Value},q<w11.heap.size->Av W q 0 cs->Av w14 q 0 cs:=fun h1 ha=>(ha.keep m13 (lo _ h1)).keep m14 id;have g14:=g13.nos m14;cases ho:EH (O3 F i n) nm 8 with
  | none =>
   refine ff rfl (hfn w14 (m14.keep hd13 id) (m14.keep hl13 id) (by omega) ⟨R',g14,far (by omega) pD,far (by omega) p3,far (by omega) p4,far (by omega) p5,far (by omega) j5,far (by omega) j6,far (by omega) j7,far (by omega) j8,seekN _ ho⟩)
  | some j =>
   have hj:=UQ ho;have hn6:=ok.1;refine tt (Li (by show(j:Int) >= 0;omega)) (iS hl hcc hj (.inr ⟨_,_,rfl,(hat13.keep m14 id).at⟩) fun w15 m15=>⟨_,_,rfl,?_⟩);generalize he:(H8 (Gf (O3 F i n) j)).1=e at *;obtain⟨w16,u1,u2,u3,u4⟩:=Aw (P:=Yt) (w:=w15) (T:=143) CH;obtain⟨w17,v1,v2,v3,v4⟩:=u2.put (T:=143) (vs:=eV e) AK rfl rfl (EC _);have M17:Ab No w14 w17:=(m15.no u3).own v3 m15.size
   have z17:=M17.size;obtain⟨w18,x1,x2,x3,x4⟩:=((far (by omega) j6).keep M17 id).put (T:=143) (vs:=eV e) AK rfl rfl (EC _);obtain⟨w19,y1,y2,y3,y4⟩:=(((far (by omega) j7).keep M17 id).keep x3 (by show ¬ w2.heap.size=w1.heap.size;omega)).put1 (P:=Yt) (T:=3) (v:=Yn ((n*8+j:Nat):Int)) Ah rfl;obtain⟨w20,t1,t2,t3,t4⟩:=((((far (by omega) j8).keep M17 id).keep x3 (by show ¬ w3.heap.size=w1.heap.size;omega)).keep y3 (by show ¬ w3.heap.size=w2.heap.size;omega)).put1 (P:=Yt) (T:=24) (v:=Yn 0) EK rfl
   have ew:Yw (Yw ((n:Int)*8)+(j:Int))=((n*8+j:Nat):Int):=by rw[Ag (x:=(n:Int)*8) (by omega) (by omega),Ag (by omega) (by omega)];omega
   have farO:∀ x,x=w11.heap.size\/x=w11.heap.size+1->∀{o:Obj},w13.heap[x]?=some o->w20.heap[x]?=some o:=fun x h o ho=>t3.keep (y3.keep (x3.keep (M17.keep (m14.keep ho id) id) (by show ¬ x=w1.heap.size;omega)) (by show ¬ x=w2.heap.size;omega)) (by show ¬ x=w3.heap.size;omega);refine⟨_,w16,u1,w17,v1,_,v2.at.all AK rfl,w18,x1,w19,by show Gr (Instr.storeAt _ _ (Yn (Yw (Yw ((n:Int)*8)+(j:Int))))) _ _;rw[ew];exact y1,w20,t1,hrt w20 (farO _ (.inl rfl) hd13) (farO _ (.inr rfl) hl13) (by omega) ⟨R',e,n*8+j,?_,(x2.keep y3 (by show ¬ w1.heap.size=w2.heap.size;omega)).keep t3 (by show ¬ w1.heap.size=w3.heap.size;omega),y2.keep t3 (by show ¬ w2.heap.size=w3.heap.size;omega),t2,vM (fZ F i nm) ((seekN _ ho).trans (QJ (fun e=>some (e,n*8+j)) he)) (by omega)⟩⟩
   refine(((g14.nos M17).st x3 (fun z e=>⟨?_,?_⟩) (by omega)).st y3 (fun z e=>⟨?_,?_⟩) (by omega)).st t3 (fun z e=>⟨?_,?_⟩) (by omega)
   ·have e:z=w1.heap.size:=e;rw[e];exact g.no (nq (by omega) (by omega)) (by omega)
   ·have e:z=w1.heap.size:=e;omega
   ·have e:z=w2.heap.size:=e;rw[e];exact g.no (nq (by omega) (by omega)) (by omega)
   ·have e:z=w2.heap.size:=e;omega
   ·have e:z=w3.heap.size:=e;rw[e];exact g.no (nq (by omega) (by omega)) (by omega)
   ·have e:z=w3.heap.size:=e;omega
 ·rintro R' W ⟨g,pD,p3,p4,p5,j5,j6,j7,j8,j9⟩ hz hd';obtain⟨w18,x1,x2,x3,x4⟩:=j6.put (T:=143) (vs:=eV RI) AK rfl rfl (EC _);obtain⟨w19,y1,y2,y3,y4⟩:=(j7.keep x3 (by show ¬ w2.heap.size=w1.heap.size;omega)).put1 (P:=Yt) (T:=3) (v:=Yn 0) Ah rfl;obtain⟨w20,t1,t2,t3,t4⟩:=((j8.keep x3 (by show ¬ w3.heap.size=w1.heap.size;omega)).keep y3 (by show ¬ w3.heap.size=w2.heap.size;omega)).put1 (P:=Yt) (T:=24) (v:=Yn 20) EK rfl
  have md:=Ab.putObj w20 w11.heap.size (.deferred none);have k6:=((x2.keep y3 (by show ¬ w1.heap.size=w2.heap.size;omega)).keep t3 (by show ¬ w1.heap.size=w3.heap.size;omega)).keep md (by show ¬ w1.heap.size=w11.heap.size;omega);have k7:=(y2.keep t3 (by show ¬ w2.heap.size=w3.heap.size;omega)).keep md (by show ¬ w2.heap.size=w11.heap.size;omega);have k8:=t2.keep md (by show ¬ w3.heap.size=w11.heap.size;omega)
  have gE:Dg R R5 w w11.heap.size f a v d F R' (w20.putObj w11.heap.size (.deferred none)):=by
   refine(((g.st x3 (fun z e=>⟨?_,?_⟩) (by omega)).st y3 (fun z e=>⟨?_,?_⟩) (by omega)).st t3 (fun z e=>⟨?_,?_⟩) (by omega)).st md (fun z e=>⟨?_,?_⟩) (by omega)
   ·have e:z=w1.heap.size:=e;rw[e];exact g.no (nq (by omega) (by omega)) (by omega)
   ·have e:z=w1.heap.size:=e;omega
   ·have e:z=w2.heap.size:=e;rw[e];exact g.no (nq (by omega) (by omega)) (by omega)
   ·have e:z=w2.heap.size:=e;omega
   ·have e:z=w3.heap.size:=e;rw[e];exact g.no (nq (by omega) (by omega)) (by omega)
   ·have e:z=w3.heap.size:=e;omega
   ·have e:z=w11.heap.size:=e;rw[e];exact g.no (n5 (by omega)) (by omega)
   ·have e:z=w11.heap.size:=e;omega
  rw[j9]at hk;exact⟨_,G7,w18,x1,w19,y1,w20,t1,t3.keep (y3.keep (x3.keep hd' (by show ¬ w11.heap.size=w1.heap.size;omega)) (by show ¬ w11.heap.size=w2.heap.size;omega)) (by show ¬ w11.heap.size=w3.heap.size;omega),_,k6.at.all AK rfl,_,k7.at.one Ah,_,k8.at.one EK,hk _ R' gE.md (gE.up (by omega) S5) gE.fo⟩
 ·rintro W ⟨R',e,j,g,j6,j7,j8,j9⟩ hz hd';have md:=Ab.putObj W w11.heap.size (.deferred none);have gE:=g.st md (fun z e=>⟨by have e:z=w11.heap.size:=e;rw[e];exact g.no (n5 (by omega)) (by omega),by have e:z=w11.heap.size:=e;omega⟩) (by omega);rw[j9]at hk;exact⟨hd',_,(j6.keep md (by show ¬ w1.heap.size=w11.heap.size;omega)).at.all AK rfl,_,(j7.keep md (by show ¬ w2.heap.size=w11.heap.size;omega)).at.one Ah,_,(j8.keep md (by show ¬ w3.heap.size=w11.heap.size;omega)).at.one EK,hk _ R' gE.md (gE.up (by omega) S5) gE.fo⟩
set_option maxRecDepth 4000 in
theorem WK{k:Int}{i:Nd}(h63:k<=9223372036854775807)(hD:Av w D 0 [Yo f])(hnD:¬ R D)(h:Fo R w f a v d F)(hE:Dd F k=0)(hi:(A1 F.A.V F.A.s.geo k).1=i)(ok:zE F i)
  (hk:∀ w' R',Ab R w w'->Sb R R' w->Fo R' w' f a v d F->K (Yn (match Nc F i (Sx i)with | some j=>(j:Int) | none=>-1)) w') :
  A7 Yt EN #[Yo D,Yn k,.agg ⟨nV i⟩] w K:=by
 apply T9;unfold Hx;have hlt:=h.lt;have hd:=h.dlt;have hDl:=hD.lt;have hw:E3 i:=by rw[<- hi];exact Br _ _ _
 obtain⟨w1,a1,a2,a3,a4⟩:=AB (P:=Yt) (w:=w) (T:=69) (cs:=nV i);obtain⟨w2,b1,b2,b3,b4⟩:=Aw (P:=Yt) (w:=w1) (T:=3) NE;have M2:Ab No w w2:=a3.no b3;refine⟨_,w1,a1,_,w2,b1,_,(a2.keep b3 id).at.all Am (A4 hw),WI fun w3 m3 z3 r3 r4 r5=>⟨_,rfl,?_⟩⟩;have M3:=M2.no m3;have n0:∀{q:Nat},w.heap.size<=q->¬ R q:=fun h e=>by have:=hlt _ e;omega
 refine V7 (rA (q3:=w2.heap.size) (q4:=w2.heap.size+1) (q5:=w2.heap.size+2) (lo:=w3.heap.size+2) (D:=D) (f:=f) (a:=a) (v:=v) (d:=d) h63 (Ua hE) hi hw ok) rfl R
  (fun n R' W=>Dg R R w w3.heap.size f a v d F R' W/\Av W D 0 [Yo f]/\Av W w2.heap.size 0 [Yo D]/\Av W (w2.heap.size+1) 0 [Yn k]/\Av W (w2.heap.size+2) 0 (nV i)/\Av W w1.heap.size 0 [Yn 0]/\Nc F i n=none)
  (fun W=>∃(R':Nat->Prop)(j:Nat),Dg R R w w3.heap.size f a v d F R' W/\Av W w1.heap.size 0 [Yn (j:Int)]/\Nc F i (Sx i)=some j)
  ⟨⟨h.nos M3,M3.mono fun _ _ e=>e.elim,fun _ e=>.inl e⟩,hD.keep M3 id,r3,r4,r5,b2.keep m3 id,rfl⟩ ?_ ?_ ?_ ?_ ?_ ?_ ?_ ?_ ?_
 ·rintro n R' W ⟨g,pD,p3,p4,p5,_⟩ hz;exact⟨hz,g.fo,p3,pD,p4,p5⟩
 ·rintro n R' W R2 W2 ⟨g,pD,p3,p4,p5,j7,j9⟩ hz ⟨mm,s,fo⟩;exact⟨⟨g.mv hz (by omega) (Sb.refl _ _) mm s fo,pD.keep mm (g.no hnD (by omega)),p3.keep mm (g.no (n0 (by omega)) (by omega)),p4.keep mm (g.no (n0 (by omega)) (by omega)),p5.keep mm (g.no (n0 (by omega)) (by omega)),j7.keep mm (g.no (n0 (by omega)) (by omega)),j9⟩,R',mm,g.no (n0 (by omega)) (by omega),g.no (n0 (by omega)) (by omega)⟩
 ·rintro n R' W W2 ⟨g,pD,p3,p4,p5,j7,j9⟩ mm;have lo:∀ q,q<w3.heap.size->¬ (q=w3.heap.size\/q=w3.heap.size+1):=fun q h e=>by omega
  refine⟨g.st mm (fun z e=>⟨?_,by omega⟩) (by omega),pD.keep mm (lo _ (by omega)),p3.keep mm (lo _ (by omega)),p4.keep mm (lo _ (by omega)),p5.keep mm (lo _ (by omega)),j7.keep mm (lo _ (by omega)),j9⟩;rcases e with e | e<;>exact g.no (n0 (by omega)) (by omega)
 ·rintro W W2 ⟨R',j,g,j7,j9⟩ mm;refine⟨R',j,g.st mm (fun z e=>⟨?_,by omega⟩) (by omega),j7.keep mm (show ¬ (_\/_) by omega),j9⟩;rcases e with e|e<;>exact g.no (n0 (by omega)) (by omega)
 ·rintro n R' W hn hs ⟨g,pD,p3,p4,p5,j7,j9⟩;exact⟨g,pD,p3,p4,p5,j7,by rw[Nc,j9];show(if pB i n=0 then none else _)=none;rw[if_pos hs]⟩
 ·rintro n ys R' W ⟨_,gb,cc,rfl,_⟩;rfl
 ·rintro n ys R' W bgn fin dd lo' lb hn ⟨hp,gb,cc,rfl,hat,hl,hcc,hng,hlo⟩ ⟨g,pD,p3,p4,p5,j7,j9⟩ hz hd' hl' hbg hfn hrt;refine⟨_,rfl,_,_,_,rfl,hbg _ W hd' hl' fun w13 m13 z13 hd13 hl13=>?_⟩;have lo:∀ q,q<w3.heap.size->¬ (q=w3.heap.size\/q=w3.heap.size+1):=fun q h e=>by omega
  have g13:=g.st m13 (fun z e=>⟨by rcases e with e | e<;>exact g.no (n0 (by omega)) (by omega),by omega⟩) (by omega);have hat13:=hat.keep m13 (show ¬ (gb=_\/gb=_) by omega);have freeN:∀ o,IO (O3 F i n) 8=o->Nc F i (n+1)=match o with | some j=>some (n*8+j) | none=>none:=fun o ho=>by
   rw[Nc,j9];show(if pB i n=0 then none else _)=_;rw[if_neg hp,ho];all_goals (cases o<;>rfl)
  refine xP hl hcc (.inr ⟨_,_,rfl,hat13.at⟩) ⟨_,rfl,?_⟩;have far:∀{q:Nat}{cs:List Value},q<w3.heap.size->Av W q 0 cs->Av w13 q 0 cs:=fun h1 ha=>ha.keep m13 (lo _ h1);cases ho:IO (O3 F i n) 8 with
  | none =>
   exact ff rfl (hfn w13 hd13 hl13 (by omega) ⟨R',g13,far (by omega) pD,far (by omega) p3,far (by omega) p4,far (by omega) p5,far (by omega) j7,freeN _ ho⟩)
  | some j =>
   have hj:=bH ho;have hn6:=ok.1;have ew:Yw (Yw ((n:Int)*8)+(j:Int))=((n*8+j:Nat):Int):=by rw[Ag (x:=(n:Int)*8) (by omega) (by omega),Ag (by omega) (by omega)];omega
   obtain⟨w19,y1,y2,y3,y4⟩:=(far (by omega) j7).put1 (P:=Yt) (T:=3) (v:=Yn ((n*8+j:Nat):Int)) Ah rfl;refine tt (Li (by show(j:Int) >= 0;omega)) ⟨w19,by show Gr (Instr.storeAt _ _ (Yn (Yw (Yw ((n:Int)*8)+(j:Int))))) _ _;rw[ew];exact y1,hrt w19 (y3.keep hd13 (by show ¬ w3.heap.size=w1.heap.size;omega)) (y3.keep hl13 (by show ¬ w3.heap.size+1=w1.heap.size;omega)) (by omega) ⟨R',n*8+j,g13.st y3 (fun z e=>⟨?_,?_⟩) (by omega),y2,vM (fB F i) (freeN _ ho) (by omega)⟩⟩
   ·have e:z=w1.heap.size:=e;rw[e];exact g.no (n0 (by omega)) (by omega)
   ·have e:z=w1.heap.size:=e;omega
 ·rintro R' W ⟨g,pD,p3,p4,p5,j7,j9⟩ hz hd';obtain⟨w19,y1,y2,y3,y4⟩:=j7.put1 (P:=Yt) (T:=3) (v:=Yn (-1)) Ah rfl;have md:=Ab.putObj w19 w3.heap.size (.deferred none);have gE:Dg R R w w3.heap.size f a v d F R' (w19.putObj w3.heap.size (.deferred none)):=by
   refine(g.st y3 (fun z e=>⟨?_,?_⟩) (by omega)).st md (fun z e=>⟨?_,?_⟩) (by omega)
   ·have e:z=w1.heap.size:=e;rw[e];exact g.no (n0 (by omega)) (by omega)
   ·have e:z=w1.heap.size:=e;omega
   ·have e:z=w3.heap.size:=e;rw[e];exact g.no (n0 (by omega)) (by omega)
   ·have e:z=w3.heap.size:=e;omega
  rw[j9]at hk;exact⟨w19,y1,y3.keep hd' (by show ¬ w3.heap.size=w1.heap.size;omega),_,(y2.keep md (by show ¬ w1.heap.size=w3.heap.size;omega)).at.one Ah,hk _ R' gE.md (gE.up (by omega) (Sb.refl _ _)) gE.fo⟩
 ·rintro W ⟨R',j,g,j7,j9⟩ hz hd';have md:=Ab.putObj W w3.heap.size (.deferred none);have gE:=g.st md (fun z e=>⟨by have e:z=w3.heap.size:=e;rw[e];exact g.no (n0 (by omega)) (by omega),by have e:z=w3.heap.size:=e;omega⟩) (by omega);rw[j9]at hk;exact⟨hd',_,(j7.keep md (by show ¬ w1.heap.size=w3.heap.size;omega)).at.one Ah,hk _ R' gE.md (gE.up (by omega) (Sb.refl _ _)) gE.fo⟩
end
structure K2(F:Fy)(k:Int)(i:Nd)(b:Int)(x:Bk):Prop where
 sl:A1 F.A.V F.A.s.geo k=(i,0)
 kd:i.kind=2
 sz:i.size=256
 pb:pB i 0=b
 gk:(AT F.A.s.geo b).1=4
 ct:A3 F.A.V b.toNat=x
 mu:ON F
structure K1(F:Fy)(k:Int)(i:Nd):Prop where
 sl:A1 F.A.V F.A.s.geo k=(i,0)
 kd:i.kind=2
 sz:i.size=0
 pb:pB i 0=0
 mu:ON F
def AcP(F:Fy)(k b:Int)(j:Nat)(e:Dt):Fy:=Ny F k b ((j*32:Nat):Int) (YQ e) (F.mi k)
def BB:Bk:=List.replicate 256 0
def Gs(F:Fy)(k:Int)(i:Nd):Fy:=wrF F k i BB
def RW(F:Fy)(i:Nd):Nd:=O4 (FE i 0 (Ak F.A 0).2.1) 256
theorem WL:MZ Yt 75 1 8:=QZ (by kernel_rfl)
theorem Z8(s:Int)(x:Bs):Al (Instr.build 143 #[(0,Yn s),(2,.string (sB x))]) (.agg ⟨eV ⟨s,false,x⟩⟩):=fun w=>by kernel_rfl
section
variable{w w':World}{R R':Nat->Prop}{f a v d D:Nat}{F:Fy}{K:Value->World->Prop}{k b:Int}{i:Nd}{x:Bk}
theorem K2.dir(q:K2 F k i b x):Dd F k=0:=by
 unfold Dd;rw[q.sl,if_neg (fun e=>e rfl),if_neg (by rw[q.kd];decide),if_neg (by rw[q.kd];decide)]
theorem K1.dir(q:K1 F k i):Dd F k=0:=by
 unfold Dd;rw[q.sl,if_neg (fun e=>e rfl),if_neg (by rw[q.kd];decide),if_neg (by rw[q.kd];decide)]
theorem K2.nb(q:K2 F k i b x):Sx i=1:=by unfold Sx;rw[q.sz];rfl
theorem K1.nb(q:K1 F k i):Sx i=0:=by unfold Sx;rw[q.sz];rfl
theorem K2.b0(q:K2 F k i b x):b≠0:=by obtain⟨_,h,_⟩:=Gh q.gk;omega
theorem K2.ok(q:K2 F k i b x):zE F i:=⟨by rw[q.nb];omega,by rw[q.sz];omega,by rw[q.sz];omega,fun n hn _=>by
 rw[q.nb]at hn;have:n=0:=by omega
 rw[this,q.pb];exact q.gk⟩
theorem K1.ok(q:K1 F k i):zE F i:=⟨by rw[q.nb];omega,by rw[q.sz];omega,by rw[q.sz];omega,fun n hn _=>by rw[q.nb]at hn;omega⟩
theorem K2.blk(q:K2 F k i b x):O3 F i 0=x:=by unfold O3;rw[q.pb,q.ct]
theorem K2.seek(q:K2 F k i b x)(nm:Bs):Gp F i nm (Sx i)=match EH x nm 8 with | some j=>some ((H8 (Gf x j)).1,j) | none=>none:=by
 rw[q.nb,Gp];show(if pB i 0=0 then none else match EH (O3 F i 0) nm 8 with | some j=>some ((H8 (Gf (O3 F i 0) j)).1,0*8+j) | none=>none)=_
 rw[if_neg (by rw[q.pb];exact q.b0),q.blk];cases EH x nm 8<;>simp
theorem K1.seek(q:K1 F k i)(nm:Bs):Gp F i nm (Sx i)=none:=by rw[q.nb];rfl
theorem K1.free(q:K1 F k i):Nc F i (Sx i)=none:=by rw[q.nb];rfl
set_option maxRecDepth 4000 in
theorem Ae9{e:Dt}{j:Nat}(h63:k<=9223372036854775807)(hD:Av w D 0 [Yo f])(hnD:¬ R D)(h:Fo R w f a v d F)(q:K2 F k i b x)(hj:j<8)(he:Mo e=true)(hlast:F.A.V.last+1<=1000000)(hml:(F.mi k).length<=1000000)
  (hk:∀ w' R',Ab R w w'->Sb R R' w->Fo R' w' f a v d (AcP F k b j e)->K (.tuple #[Yn ((F.A.V.last:Int)+1),Yn 0]) w') :
  A7 Yt Eb #[Yo D,Yn k,Yn (j:Int),.agg ⟨eV e⟩,.slice none 0 0] w K:=by
 apply Mt;unfold Ix;have hlt:=h.lt;have hd:=h.dlt;obtain⟨_,_,hnm⟩:=Ya he;obtain⟨w1,a1,a2,a3,a4⟩:=AB (P:=Yt) (w:=w) (T:=143) (cs:=eV e);refine⟨_,w1,a1,_,a2.at.all AK rfl,eO (by omega) (fun e=>by rw[he]at e;cases e) fun _ w2 qb m2 hqb hat=>⟨_,_,_,_,rfl,ff rfl ?_⟩⟩;have M2:Ab No w (Go.Den.Af w2):=(a3.no m2).drew;have h2:=h.nos M2;have D2:=hD.keep M2 id
 have hl:=iU he;refine⟨_,rfl,_,D2.at.fld (j:=0) (v:=Yo f) B0 rfl,_,rfl,_,D2.at.fld (j:=0) (v:=Yo f) B0 rfl,PJ h2 (fun y hy=>(q.mu k y hy).1) hml fun w3 R3 a' c' m3 s3 h3 o3 n3=>⟨_,_,_,rfl,?_⟩⟩;have D3:=D2.keep m3 hnD;have L3:=D3.at.fld (P:=Yt) (T:=50) (j:=0) (v:=Yo f) B0 rfl;have ap:=Ow.appG0 (ty:=75) WL o3
 refine⟨L3,_,_,_,w3,ap,L3,?_⟩;have e1:Yw (Int.tdiv (j:Int) 8)=((0:Nat):Int):=by
  rw[cF (by omega),Ag (by omega) (by omega)];omega
 have e2:Yw (Int.tmod (j:Int) 8*32)=((j*32:Nat):Int):=by
  rw[pJ (by omega),Ag (by omega) (by omega)];omega
 rw[e1,e2];have z1:=a3.size;have z2:=M2.size;refine ZQ (data:=YQ e) (after:=F.mi k) (b:=b) (f0:=((j*32:Nat):Int)) h63 h3 q.mu (Ua q.dir) (by omega) ((QJ (fun y=>Nd.p (Prod.fst y) |>.getD 0 0) q.sl).trans q.pb) q.gk hlast hml hl (by omega) (by omega) (by omega) (.inr ⟨qb,0,rfl,(hat.drew.keep m3 fun r=>by have:=hlt _ r;omega).at⟩) (fun q' e'=>?_) rfl (fun e'=>by rw[e']at o3;exact o3.zero) (by omega) (fun y hy=>(q.mu k y hy).2) o3.rowU.row n3 fun w5 R5 m5 s5 h5=>⟨_,_,rfl,hk w5 R5 ?_ ?_ h5⟩
 ·cases e';have zb:qb<(Go.Den.Af w2).heap.size:=hat.drew.lt;have z3:=m3.size;refine⟨fun r=>?_,by show qb<_;omega⟩;rcases s3 _ r with r | r
  ·have:=hlt _ r;have r:qb<w.heap.size:=this;omega
  ·have r:(Go.Den.Af w2).heap.size<=qb:=r;omega
 ·exact Ab.sb ((M2.mono fun _ _ e=>e.elim).trans m3 fun _ _ e=>e) (s3.up z2) m5
 ·exact(s3.up z2).trans (s5.up (Le _)) (by have:=m3.size;omega)
set_option maxRecDepth 4000 in
theorem uI{nm:Bs}{j:Nat}(h63:k<=9223372036854775807)(hD:Av w D 0 [Yo f])(hnD:¬ R D)(h:Fo R w f a v d F)(q:K2 F k i b x)(hf:EH x nm 8=some j)(hlast:F.A.V.last+1<=1000000)(hml:(F.mi k).length<=1000000)
  (hk:∀ w' R',Ab R w w'->Sb R R' w->Fo R' w' f a v d (AcP F k b j RI)->K (.tuple #[Yn ((F.A.V.last:Int)+1),Yn 0]) w') :
  A7 Yt FQ #[Yo D,Yn k,.string (sB nm),.slice none 0 0] w K:=by
 apply Qn;unfold Jf;apply TA;unfold LS;refine Yf h63 hD hnD h (by rw[q.sl]) (fun e=>absurd q.dir e) (fun _=>q.ok) fun _ w1 R1 m1 s1 h1=>?_;have eS:Gp F i nm (Sx i)=some ((H8 (Gf x j)).1,j):=by rw[q.seek,hf]
 rw[eS];generalize (H8 (Gf x j)).1=e;refine⟨_,_,_,rfl,?_⟩;obtain⟨w2,b1,b2,b3,b4⟩:=Aw (P:=Yt) (w:=w1) (T:=143) CH;obtain⟨w3,c1,c2,c3,c4⟩:=b2.put (T:=143) (vs:=eV e) AK rfl rfl (EC _);have M3:Ab No w1 w3:=b3.own c3 (Le _);refine⟨_,w2,b1,w3,c1,ff rfl ⟨_,c2.at.all AK rfl,.func _,#[],#[],rfl,?_⟩⟩;apply Oj;unfold HI;obtain⟨w4,d1,d2,d3,d4⟩:=AB (P:=Yt) (w:=w3) (T:=143) (cs:=eV e)
 obtain⟨w5,e1,e2,e3,e4⟩:=Aw (P:=Yt) (w:=w4) (T:=143) CH;obtain⟨w6,f1,f2,f3,f4⟩:=e2.put (T:=143) (vs:=eV RI) AK rfl rfl (EC _);have M6:Ab No w1 w6:=(M3.no d3).no (e3.own f3 (Le _));refine⟨_,w4,d1,_,w5,e1,_,G7,w6,f1,_,f2.at.all AK rfl,_,rfl,?_⟩;have hDl:=hD.lt;refine Ae9 (e:=RI) (j:=j) h63 ((hD.keep m1 hnD).keep M6 id) (fun r=>(s1 _ r).elim hnD fun e=>by omega) (h1.nos M6) q (UQ hf) (by decide) hlast hml fun w7 R7 m7 s7 h7=>⟨_,_,rfl,_,_,rfl,hk w7 R7 ?_ ?_ h7⟩
 ·exact Ab.sb (m1.no M6) s1 m7
 ·have:=m1.size
  exact s1.trans (s7.up M6.size) (by omega)
end
section
variable{w w':World}{R R':Nat->Prop}{f a v d D:Nat}{F:Fy}{K:Value->World->Prop}{k b:Int}{i:Nd}{x:Bk}
structure gX(F:Fy)(k:Int)(i:Nd):Prop where
 fr:Rq 0 256<=(Bv F.A F.A.s.geo.gs.toNat).1
 bl:okB F 0
 no:O7 (RW F i)=true
 gp:(Au F.A.s.geo k).2.2=0
 la:F.A.V.last+20<=1000000
 ml:(F.mi k).length+20<=1000000
theorem IS:BB.length=256:=Lw
theorem AbE:Wv BB 0=BB:=by
 unfold Wv;rw[Nat.mul_zero,VW,Lf (by rw[IS];omega),IS,dI,List.replicate_zero,iB]
theorem XQ(F:Fy)(k:Int)(i:Nd):Gs F k i=Kf (BR F k i BB 1).F k (RW F i) (BR F k i BB 1).af:=by
 unfold Gs wrF;rw[IS];rfl
theorem K1.add(q:K1 F k i)(ok:gX F k i)(hM:ON (BR F k i BB 1).F)(haf:∀ y∈(BR F k i BB 1).af,1<=y/\y<=((BR F k i BB 1).F.A.V.last:Int))
  (hd:B2 (BR F k i BB 1).F.A.V (BR F k i BB 1).F.A.s.geo (BR F k i BB 1).F.A.hs/\Mb (BR F k i BB 1).F.A.V/\WF (BR F k i BB 1).F.A.V.C.D):K2 (Gs F k i) k (RW F i) (Ak F.A 0).2.1 BB/\(Gs F k i).A.V.last<=F.A.V.last+3/\((Gs F k i).mi k).length<=(F.mi k).length+2/\(Gs F k i).A.s=F.A.s:=by
 have hw:E3 i:=by have:=Br F.A.V F.A.s.geo k;rw[q.sl]at this;exact this
 obtain⟨h1,h2,h3,_,_,_,h7,h8,h9,_⟩:=gS F k hw BB 1;have hwI:E3 (RW F i):=TX hw _ _;have gp:(Au (BR F k i BB 1).F.A.s.geo k).2.2=0:=by rw[h2];exact ok.gp
 have hbd:=QQ haf;have hbg:=ok.bl.2;obtain⟨_,g1,g2,_⟩:=Gh hbg;have hA:(Gs F k i).A=Tu (BR F k i BB 1).F.A k (RW F i) (BR F k i BB 1).af:=by rw[XQ];rfl
 have hE:=PZ (k:=k) (i:=RW F i) hd.1 hwI gp hbd;have hE':E0 (Ak F.A 0).1.V (Ak F.A 0).2.1 0 (Wv BB 0) []=0:=by
  refine V2 (by omega) ?_ (by rw[JN];omega) (by omega) (by rw[JN];omega) rfl;have e:(BR F k i BB 1).F.A.V.C.D.vs.length=(Ak F.A 0).1.V.C.D.vs.length:=by
   show(BF _ _ _ _ _).C.D.vs.length=_;rw[Rx];rfl
  have:=hd.1.2.1
  rw[h2,e]at this;omega
 have hcl:(A3 (BR F k i BB 1).F.A.V (Ak F.A 0).2.1.toNat).length=256:=QV hd.2.1 hd.2.2 (by have:=hd.1.2.1;rw[h2]at this;omega);have hct:A3 (BR F k i BB 1).F.A.V (Ak F.A 0).2.1.toNat=BB:=by
  have e:A3 (BR F k i BB 1).F.A.V (Ak F.A 0).2.1.toNat=B3 (A3 (Ak F.A 0).1.V (Ak F.A 0).2.1.toNat) 0 (Wv BB 0):=by
   show A3 (BF (Ak F.A 0).1.V (Ak F.A 0).2.1 0 (Wv BB 0) []) _=_;rw[Cf hE',if_pos rfl];rfl
  rw[e]at hcl |-;unfold B3 at hcl |-;rw[Lj,Lj,JN,Lf4]at hcl;rw[JN,pX,Ly,Ls (by omega),iB,AbE]
 rw[XQ]at hA |-;have hs0:(Kf (BR F k i BB 1).F k (RW F i) (BR F k i BB 1).af).A.s=F.A.s:=h2;refine⟨⟨?_,?_,?_,?_,?_,?_,?_⟩,?_,?_,hs0⟩
 ·have:=oL hd.1 hd.2 hwI ok.no gp hbd k
  rw[if_pos rfl]at this;exact this
 ·show i.kind=2;exact q.kd
 ·show(if (FE i 0 (Ak F.A 0).2.1).kind=2 then((256:Int)+255) / 256*256 else 256)=256;split<;>rfl
 ·show(i.p.set 0 (Ak F.A 0).2.1).getD 0 0=_;have hl:i.p.length=8:=hw;rw[Lp,wO (by omega)];rfl
 ·show(AT (BR F k i BB 1).F.A.s.geo _).1=4;rw[h2];exact hbg
 ·rw[hA];show A3 (BF _ _ _ _ _) _=_;rw[Cf hE,if_neg,hct];have hg:=hd.1.1;obtain⟨_,n0,n1,_⟩:=EI (g:=(BR F k i BB 1).F.A.s.geo) (s:=k) (b:=(Au (BR F k i BB 1).F.A.s.geo k).1) (p:=(Au (BR F k i BB 1).F.A.s.geo k).2.1) (by rw[<- gp]);obtain⟨k',j',q',e1,hk',hj',_⟩:=If hg n0 n1;obtain⟨k2,j2,e2,hk2,hj2,hj3⟩:=QX (g:=(BR F k i BB 1).F.A.s.geo) (b:=(Ak F.A 0).2.1) (by rw[h2];exact hbg)
  rw[e1];intro e;rw[e2]at e;exact VI hg hj' hj2 hj3 e.symm
 ·exact hM.put (A0:=(BR F k i BB 1).F.A) rfl hd.1 hwI gp hbd
 ·have:=(Hl (BR F k i BB 1).F.A.V (Au (BR F k i BB 1).F.A.s.geo k).1 (64*(Au (BR F k i BB 1).F.A.s.geo k).2.1) (Ek (RW F i)) (BR F k i BB 1).af).2
  refine QK this ?_;omega
 ·show(if k=k then(BR F k i BB 1).F.mi k++_ else _).length<=_;rw[if_pos rfl,Lj,h8];simp
end
def gE(g:Gm):Gm:=if Df g=true/\Bb g<=200 then g else gKn
def dE(g:Gm):St:=BM (AH (Bb (gE g)).toNat) (gE g)
theorem Ag8(k:Nat):VX (AH k) 1:=fun v hv=>by
 have:=List.eq_of_mem_replicate hv
 subst this;simp
section
variable{w wb w':World}{R R0 R':Nat->Prop}{N a v d:Nat}{A:Az}{hs:List Hd}{K:Value->World->Prop}
end
section
variable{D:St}{l:List (Int×Bk)}{b:Nat}{ys:Bk}{g:Gm}{n:Nat}
def InD(D:St)(l:List (Int×Bk)):Prop:=∀ x∈l,∃ j:Nat,x.1=j/\j<D.vs.length/\x.2.length=256
theorem cD(hl:D.left=-1)(hin:InD D l)(hno:∀ x∈l,x.1≠(b:Int)):Gt (Dc D l) b=Gt D b:=by
 induction l generalizing D with
 | nil=>rfl
 | cons x l ih =>
  obtain⟨j,h1,h2,h3⟩:=hin x iF;show Gt (Dc (DG D x.1 x.2) l) b=_;have hi:InD (DG D x.1 x.2) l:=fun y hy=>by
   obtain⟨j,k1,k2,k3⟩:=hin y (dH _ hy);exact⟨j,k1,by rw[IR];exact k2,k3⟩
  rw[ih (Cs hl _ _) hi (fun y hy=>hno y (dH _ hy)),h1,L7 h2 h3 hl,if_neg (fun e=>hno x iF (by rw[h1,e]))]
theorem oX(hl:D.left=-1)(hin:InD D l)(hx:∃ x∈l,x.1=(b:Int))(hu:∀ x∈l,x.1=(b:Int)->x.2=ys):Gt (Dc D l) b=ys:=by
 induction l generalizing D with
 | nil=>obtain⟨x,h,_⟩:=hx;cases h
 | cons x l ih =>
  obtain⟨j,h1,h2,h3⟩:=hin x iF;show Gt (Dc (DG D x.1 x.2) l) b=_;have hi:InD (DG D x.1 x.2) l:=fun y hy=>by
   obtain⟨j,k1,k2,k3⟩:=hin y (dH _ hy);exact⟨j,k1,by rw[IR];exact k2,k3⟩
  by_cases h:∃ y∈l,y.1=(b:Int)
  ·exact ih (Cs hl _ _) hi h fun y hy=>hu y (dH _ hy)
  ·have hxb:x.1=(b:Int):=by
    obtain⟨y,hy,e⟩:=hx;rcases Lv.1 hy with rfl|hy
    ·exact e
    ·exact absurd ⟨y,hy,e⟩ h
   rw[cD (Cs hl _ _) hi (fun y hy e=>h ⟨y,hy,e⟩),h1,L7 h2 h3 hl,if_pos (by omega)];exact hu x iF hxb
theorem Rp{x:Int×Bk}{m:Nat}:x∈Mq g m↔∃ k,k<m/\∃ i,i<KO g/\x=TP g k i:=by
 unfold Mq RE;simp only[List.mem_flatMap,W9,L2];constructor
 ·rintro⟨k,hk,i,hi,e⟩;exact⟨k,hk,i,hi,e.symm⟩
 ·rintro⟨k,hk,i,hi,e⟩;exact⟨k,hk,i,hi,e.symm⟩
theorem AaK(hg:Df g=true){k k' i i':Nat}(hi:i<KO g)(hi':i'<KO g)(e:2+(k:Int)*g.gr+i=2+(k':Int)*g.gr+i'):k=k'/\i=i':=by
 have hv:=(SB hg).1;obtain⟨h1,_,_,_,h5,h6,h7,h8,_⟩:=Ax.1 hg;have key:∀{a c:Nat},a<c->(a:Int)*g.gr+g.gr<=(c:Int)*g.gr:=fun {a c} h=>by
  have:=Int.mul_le_mul_of_nonneg_right (show(a:Int)+1<=c by omega) (show 0<=g.gr by omega)
  rw[Int.add_mul,Lg5]at this;exact this
 rcases Nat.lt_trichotomy k k' with h|h|h
 ·have:=key h;omega
 ·subst h;omega
 ·have:=key h;omega
theorem jN(hg:Df g=true)(hn:Bb g<=n):InD (Yh (AH n)) (Mq g g.gs.toNat):=fun x hx=>by
 obtain⟨k,hk,i,hi,rfl⟩:=Rp.1 hx;obtain⟨h1,h2⟩:=Uc hg (k:=k) (n:=n) (by omega) hi hn;exact⟨(TP g k i).1.toNat,by omega,by rw[UV];simp[AH];omega,VP g k i⟩
theorem LE:(AH n).left=-1:=rfl
theorem UD(hg:Df g=true)(hn:Bb g<=n){k i:Nat}(hk:(k:Int)<g.gs)(hi:i<KO g):Gt (BM (AH n) g) (2+(k:Int)*g.gr+i).toNat=YN g k i:=by
 obtain⟨h1,h2⟩:=Uc hg (n:=n) hk hi hn;have h1:2<=2+(k:Int)*g.gr+i:=h1;have h2:2+(k:Int)*g.gr+i<n:=h2;have hb:(((2+(k:Int)*g.gr+i).toNat:Nat):Int)=2+(k:Int)*g.gr+i:=by omega
 generalize (2+(k:Int)*g.gr+i).toNat=b at hb;have h1r:=Nb (LE (n:=n)) g;have hl1:1<(UW (AH n) g).vs.length:=by rw[Ri];simp[AH];omega
 unfold BM;rw[RZ (Cs h1r _ _),show(1:Int)=((1:Nat):Int)from rfl,L7 hl1 (KL _) h1r,if_neg (by omega)];unfold UW;rw[RZ (Oa (KB LE) _)];refine oX (KB LE) (jN hg hn) ⟨TP g k i,Rp.2 ⟨k,by omega,i,hi,rfl⟩,hb.symm⟩ fun x hx e=>?_;obtain⟨k',_,i',hi',rfl⟩:=Rp.1 hx;have e:2+(k':Int)*g.gr+i'=b:=e;have e2:2+(k':Int)*g.gr+i'=2+(k:Int)*g.gr+i:=e.trans hb
 obtain⟨rfl,rfl⟩:=AaK hg hi' hi e2;rfl
theorem Ab3(hn:18<=n):Gt (BM (AH n) g) 1=Eo ⟨1,g⟩:=by
 have h1r:=Nb (LE (n:=n)) g;have hl1:1<(UW (AH n) g).vs.length:=by rw[Ri];simp[AH];omega
 unfold BM;rw[RZ (Cs h1r _ _),show(1:Int)=((1:Nat):Int)from rfl,L7 hl1 (KL _) h1r,if_pos rfl]
theorem xD(hg:Df g=true)(hn:Bb g<=n)(h18:18<=n):Gt (BM (AH n) g) 0=EM:=by
 have h1r:=Nb (LE (n:=n)) g;have hl1:1<(UW (AH n) g).vs.length:=by rw[Ri];simp[AH];omega
 unfold BM;rw[RZ (Cs h1r _ _),show(1:Int)=((1:Nat):Int)from rfl,L7 hl1 (KL _) h1r,if_neg (by decide)];unfold UW
 rw[RZ (Oa (KB LE) _),cD (KB LE) (jN hg hn) fun x hx e=>by
  obtain⟨k,hk,i,hi,rfl⟩:=Rp.1 hx
  have:=(Uc hg (k:=k) (n:=n) (by omega) hi hn).1
  have e:(TP g k i).1=((0:Nat):Int):=e
  omega]
 unfold Yh;have hz:(DG (AH n) 0 EM).left=-1:=Cs LE _ _;have hl:1<(DG (AH n) 0 EM).vs.length:=by rw[IR];simp[AH];omega
 rw[RZ (Cs hz _ _),show(1:Int)=((1:Nat):Int)from rfl,L7 hl GL hz,if_neg (by decide),show(0:Int)=((0:Nat):Int)from rfl,L7 (by simp[AH];omega) GL LE,if_pos rfl]
theorem fW{s:Sp}:(Eo s).take 4=E4/\(Eo s).drop 4=AG 8 s.gen.toNat++((Eo s).drop 12)/\(Eo s).drop 12=AG 2 s.geo.gr.toNat++((Eo s).drop 14)/\(Eo s).drop 14=AG 2 s.geo.no.toNat++((Eo s).drop 16)/\(Eo s).drop 16=AG 2 s.geo.gs.toNat++((Eo s).drop 18):=by
 have xN:∀{a c:List UInt8}{m:Nat},a.length=m->(a++c).drop m=c:=fun {a c m} h=>by rw[UB,Ls (by omega),Ly,h,dI];rfl
 have e:Eo s=E4++(AG 8 s.gen.toNat++(AG 2 s.geo.gr.toNat++(AG 2 s.geo.no.toNat++(AG 2 s.geo.gs.toNat++(List.replicate 234 0++AG 4 (cJ (Em s))))))):=by
  unfold Eo;rw[Em,PW];simp only[VV]
 have d4:(Eo s).drop 4=AG 8 s.gen.toNat++(AG 2 s.geo.gr.toNat++(AG 2 s.geo.no.toNat++(AG 2 s.geo.gs.toNat++(List.replicate 234 0++AG 4 (cJ (Em s)))))):=by rw[e];exact xN rfl
 have d12:(Eo s).drop 12=AG 2 s.geo.gr.toNat++(AG 2 s.geo.no.toNat++(AG 2 s.geo.gs.toNat++(List.replicate 234 0++AG 4 (cJ (Em s))))):=by rw[show 12=4+8 from rfl,<- Tb,d4];exact xN (AL _ _)
 have d14:(Eo s).drop 14=AG 2 s.geo.no.toNat++(AG 2 s.geo.gs.toNat++(List.replicate 234 0++AG 4 (cJ (Em s)))):=by rw[show 14=12+2 from rfl,<- Tb,d12];exact xN (AL _ _)
 have d16:(Eo s).drop 16=AG 2 s.geo.gs.toNat++(List.replicate 234 0++AG 4 (cJ (Em s))):=by rw[show 16=14+2 from rfl,<- Tb,d14];exact xN (AL _ _)
 have d18:(Eo s).drop 18=List.replicate 234 0++AG 4 (cJ (Em s)):=by rw[show 18=16+2 from rfl,<- Tb,d16];exact xN (AL _ _)
 refine⟨by rw[e];rfl,by rw[d4,d12],by rw[d12,d14],by rw[d14,d16],by rw[d16,d18]⟩
theorem oN{s:Sp}(hs:Wx s=true):FF (Eo s)=(s,0):=by
 obtain⟨⟨g1,g2⟩,hg⟩:=JP.1 hs;obtain⟨r1,r2,r3,r4,r5,r6,_⟩:=Ax.1 hg;obtain⟨e1,e2,e3,e4,e5⟩:=fW (s:=s);have tk:∀{k m:Nat}{c:List UInt8},m<256 ^ k->D6 ((AG k m++c).take k)=m:=fun {k m c} h=>by
  rw[Lu (by rw[AL];exact Le _),Lf (by rw[AL];exact Le _)];exact Hj _ _ h
 have hr:JO (Eo s)=s:=by
  unfold JO;rw[e2,tk (by omega),e3,tk (by omega),e4,tk (by omega),e5,tk (by omega),Ag (by omega) (by omega)];cases s with
  | mk a b =>
   cases b;simp only at *;simp only[Sp.mk.injEq,Gm.mk.injEq];omega
 have h252:(Eo s).take 252=Em s:=by unfold Eo;rw[Lu (by rw[DL];exact Le _),Lf (by rw[DL];exact Le _)]
 have hc:D6 ((Eo s).drop 252)=cJ ((Eo s).take 252):=by
  rw[h252];unfold Eo;rw[UB,Ls (by rw[DL];exact Le _),Ly,DL];exact Hj _ _ (eJ _)
 have hz:=(vH (KL s) e1 hc (by rw[hr];exact hs)).1 (by rw[hr]);unfold FF;rw[if_neg (by rw[KL];exact fun e=>e rfl),if_neg (by rw[e1];exact fun e=>e rfl),if_neg (by rw[hc];exact fun e=>e rfl),hr,if_neg (by rw[hs];decide),if_neg (by rw[hz];decide)]
theorem oO:(FF EM).2≠0:=by decide +kernel
theorem eA(hg:Df g=true)(hn:Bb g<=n):Cy EM (Eo ⟨1,g⟩) n=(⟨1,g⟩,1,0):=by
 have hs:Wx (⟨1,g⟩:Sp)=true:=JP.2 ⟨⟨qD 1,by show(1:Int)<=4611686018427387904;decide⟩,hg⟩;have e0:Cv 0 EM n sZ=sZ:=by unfold Cv;rw[if_neg fun h=>oO h.1]
 have eB:EU EM (Eo ⟨1,g⟩) n=⟨1,g⟩:=by
  unfold EU;rw[e0];unfold Cv;rw[oN hs,if_pos ⟨rfl,rfl,hn,by show(1:Int) > 0;decide⟩]
 have hne:(⟨1,g⟩:Sp)≠sZ:=fun e=>by
  have:(1:Int)=0:=QJ Sp.gen e;omega
 unfold Cy;rw[eB,if_neg hne];rfl
theorem Xw:Gl (B3 EM 64 (Ek DF)) 1=(DF,0):=by decide +kernel
theorem yJ(hg:Df g=true)(hn:Bb g<=n)(k:Nat):B2 ⟨⟨BM (AH n) g,k,[]⟩,0,[]⟩ g ((List.range g.gs.toNat).map fun j:Nat=>AE g (j:Int)):=by
 obtain⟨_,_,g3,_⟩:=Ax.1 hg;have hv:0<KO g:=by unfold KO;omega
 refine⟨hg,?_,by rw[La5,List.length_range];omega,fun j h hj=>?_⟩
 ·show Bb g<=((BM (AH n) g).vs.length:Int);rw[WT];simp[AH];omega
 ·rw[qC]at hj;by_cases hjl:j<g.gs.toNat
  ·rw[List.getElem?_range hjl]at hj;cases hj;refine⟨?_,Vd hg (by omega) (by omega),rfl,EJ _ _⟩
   have:=UD hg hn (k:=j) (i:=0) (by omega) hv
   rw[Int.natCast_zero,Int.add_zero]at this;exact this
  ·rw[Ln2 (by simp;omega)]at hj;cases hj
theorem yW(hg:Df g=true)(hn:Bb g<=n)(h18:18<=n):fI (BM (AH n) g)=(⟨1,g⟩,0):=by
 obtain⟨q1,q2,g3,g4,g5,g6,g7,_⟩:=Ax.1 hg;have hlen:(BM (AH n) g).vs.length=n:=by rw[WT];simp[AH]
 have rd:∀{b:Nat},b<n->PT (BM (AH n) g) (b:Int)=Gt (BM (AH n) g) b:=fun {b} h=>(Xv _ (by rw[hlen];exact h)).2;have hS:Bj (BM (AH n) g)=(⟨1,g⟩,1,0):=by
  unfold Bj;rw[show(0:Int)=((0:Nat):Int)from rfl,show(1:Int)=((1:Nat):Int)from rfl,rd (by omega),rd (by omega),xD hg hn h18,Ab3 h18,hlen];exact eA hg hn
 have hv:=(SB hg).1;have hO:Nq (BM (AH n) g) g=true:=by
  unfold Nq;rw[Lr,cI];refine⟨fun k hk=>?_,?_⟩
  ·have hk:=W9.1 hk;obtain⟨p1,p2,p3⟩:=Nk hg (k:=k) (by omega);have e:Gj (BM (AH n) g) g k=(AE g k,0):=by
    unfold Gj;rw[p1,if_neg (fun e=>e rfl)]
    have:=UD hg hn (k:=k) (i:=0) (by omega) (by omega)
    rw[Int.natCast_zero,Int.add_zero]at this;have r:=rd (b:=(2+(k:Int)*g.gr).toNat) (by omega);rw[show(((2+(k:Int)*g.gr).toNat:Nat):Int)=2+(k:Int)*g.gr by omega,this]at r;rw[r];exact WZ (EJ _ _) (Vd hg (by omega) (by omega))
   unfold Nj;rw[e];exact Li ⟨rfl,rfl⟩
  ·have hsl:AZ g=g.gs*g.no:=by unfold AZ;rw[if_pos hg]
   have hs4:1*4<=g.gs*g.no:=Int.mul_le_mul g3 g5 (by omega) (by omega);have e0:(1:Int) / g.no=0:=Int.ediv_eq_zero_of_lt (by omega) (by omega);have e1:(1:Int) % g.no=1:=wN (by omega) (by omega);have ep:Au g 1=(3,1,0):=by
    unfold Au;rw[if_pos hg,if_pos ⟨by decide,by omega⟩,e0,e1];have:(2:Int)+0*g.gr+1+1 / 4=3:=by rw[Int.zero_mul];rfl
    rw[this];rfl
   have:=UD hg hn (k:=0) (i:=1) (by omega) (by omega)
   rw[show((0:Nat):Int)*g.gr=0 from Int.zero_mul _]at this;have this:Gt (BM (AH n) g) 3=YN g 0 1:=this;have r:=rd (b:=3) (by omega);rw[this]at r;have e:Cp (BM (AH n) g) g 1=(DF,0):=by
    unfold Cp;rw[ep,if_neg (fun e=>e rfl)];show Gl (PT _ ((3:Nat):Int)) 1=_;rw[r];exact Xw
   unfold PU;rw[e];exact Li ⟨rfl,rfl⟩
 unfold fI;rw[hS,if_neg (fun e=>e rfl)];show(if Nq (BM (AH n) g) g=true then _ else _)=_;rw[if_pos hO]
end
section
variable{w w':World}{R R' Ra:Nat->Prop}{f a v d:Nat}{F:Fy}{A:Az}{s:Sp}{V:Ps}{W:List Wt}{nx:Int}{K:Value->World->Prop}
theorem Vu.next(h:Vu R w v d s V W nx)(m:Ab (fun x=>x=v) w w')(hsz:w'.heap.size=w.heap.size){nx':Int}(hc:∀ sp wk,Av w v 0 (vV s sp wk nx)->Av w' v 0 (vV s sp wk nx')):Vu R w' v d s V W nx':=by
 obtain⟨w0,Rs,Rw,sp,wk,h,h1,h2⟩:=h;have hd0:=h.st.dlo;have hlv:=h.lo v (.inr rfl);refine⟨w0,Rs,Rw,sp,wk,⟨h.st.keep m (fun x hx e=>?_) (fun x hx e=>?_),hc sp wk h.cell,?_,h.dj,h.nv,fun z hz=>?_⟩,h1,fun z hz=>?_⟩
 ·have e:x=v:=e;rw[e]at hx;exact h.nv.1 hx
 ·have e:x=v:=e;omega
 ·refine h.wrk.keep (S:=fun x=>x=v/\x<w.heap.size) (m.mono fun x hx e=>⟨e,hx⟩) (fun x e=>⟨e.2,fun r=>h.nv.2 (e.1 ▸ r)⟩) fun x hx e=>⟨hx,e.2⟩
 ·rw[hsz];exact h.lo z hz
 ·rw[hsz];exact h2 z hz
theorem vU(h:Vu R w v d s V W nx)(h0:0<=nx)(hn:nx<=4611686018427387904)(hk:∀ w',Ab R w w'->Vu R w' v d s V W (nx+1)->K (.tuple #[Yn nx,Yn 0]) w'):A7 Yt EQ #[Yo v] w K:=by
 apply TF;unfold LX;obtain⟨sp,wk,hc⟩:=h.at;obtain⟨w1,a1,a2,a3,a4⟩:=hc.putF (P:=Yt) (T:=2) (j:=6) (v:=Yn (nx+1)) Bq (by show 6<7;omega) rfl;have hv:=h.vIn;have hN:Vu R w1 v d s V W (nx+1):=h.next a3 a4 fun sp' wk' hc'=>by
  obtain⟨w2,b1,b2,_,_⟩:=hc'.putF (P:=Yt) (T:=2) (j:=6) (v:=Yn (nx+1)) Bq (by show 6<7;omega) rfl;have e:w2=w1:=by
   have:=a1.symm.trans b1
   simpa using this.symm
  rw[<- e];exact b2
 refine ff rfl ⟨_,rfl,nx,hc.at.fld (j:=6) (v:=Yn nx) Bq rfl,ff (Lh (by omega)) ⟨_,rfl,nx,hc.at.fld (j:=6) (v:=Yn nx) Bq rfl,_,rfl,w1,by rw[Ag (by omega) (by omega)];exact a1,_,rfl,nx+1,a2.at.fld (j:=6) (v:=Yn (nx+1)) Bq rfl,?_⟩⟩;rw[Ag (x:=nx+1-1) (by omega) (by omega),Int.add_sub_cancel];exact hk w1 (a3.mono fun x _ e=>by have e:x=v:=e;rw[e];exact hv) hN
def wG(F:Fy):Fy:=⟨⟨F.A.s,F.A.V,F.A.W,F.A.nx+1,F.A.hs,F.A.fz⟩,F.la,F.mi⟩
def IV(F:Fy)(n:Int):Fy:=⟨(Db F.A n).1,F.la,F.mi⟩
theorem rX(h:Fo R w f a v d F)(h0:0<=F.A.nx)(hn:F.A.nx<=4611686018427387904)(hk:∀ w' R',Ab R w w'->Sb R R' w->Fo R' w' f a v d (wG F)->K (.tuple #[Yn F.A.nx,Yn 0]) w'):A7 Yt EQ #[Yo v] w K:=by
 obtain⟨Ra,hA,hRa,hc⟩:=h.alc;obtain⟨Rv,hv,hRv,hc2⟩:=hA.vol;refine vU hv h0 hn fun w' m hv'=>?_;obtain⟨c1,c2,c3⟩:=hc2 w' Rv F.A.V F.A.W (F.A.nx+1) F.A.hs m (Sb.refl _ _) hv' hA.hd;obtain⟨k1,k2,k3⟩:=hc w' _ _ c1 c2 c3;exact hk w' _ k1 k2 k3
theorem yC{n:Int}(h63:n<=9223372036854775807)(h:Fo R w f a v d F)(hlast:F.A.V.last+1<=1000000)(hk:∀ w' R',Ab R w w'->Sb R R' w->Fo R' w' f a v d (IV F n)->K (.tuple #[Yn (Db F.A n).2.1,Yn (Db F.A n).2.2.1,Yn (Db F.A n).2.2.2]) w'):A7 Yt Dn #[Yo a,Yn n] w K:=by
 obtain⟨Ra,hA,hRa,hc⟩:=h.alc;refine wX h63 hA hlast fun w' R' m s hA'=>?_;obtain⟨k1,k2,k3⟩:=hc w' R' _ m s hA';exact hk w' _ k1 k2 k3
theorem zZ(A:Az)(b:Int):(Db A b).1.s=A.s/\A.V.last<=(Db A b).1.V.last/\(Db A b).1.V.last<=A.V.last+1/\(Db A b).1.nx=A.nx/\(∀ x,A.V.opn x=true->(Db A b).1.V.opn x=true)/\(Df A.s.geo=true->∀ s,A1 (Db A b).1.V A.s.geo s=A1 A.V A.s.geo s):=by
 unfold Db;split
 ·rename_i x _;refine⟨rfl,(Hl _ _ _ _ _).1,(Hl _ _ _ _ _).2,rfl,fun x hx=>LG _ _ _ _ hx,fun hg s=>Qb hg (fun k j hj=>?_) s⟩;show A3 (BF A.V (2+(x.1:Int)*A.s.geo.gr) 0 _ []) _=_;generalize Rz A.s.geo _=B;by_cases hE:E0 A.V (2+(x.1:Int)*A.s.geo.gr) 0 B []=0
  ·rw[Cf hE,if_neg (VJ hg hj)]
  ·unfold BF;rw[if_neg hE]
 ·exact⟨rfl,by simp only;omega,by simp only;omega,rfl,fun _ h=>h,fun _ _=>rfl⟩
theorem ON.slt(h:ON F)(n:Int):ON (IV F n):=by
 obtain⟨_,b1,_,_,b3,_⟩:=zZ F.A n;intro k x hx;obtain⟨o1,o2,o3⟩:=h k x hx;exact⟨b3 x o1,o2,by show x<=((Db F.A n).1.V.last:Int);omega⟩
end
theorem YF:Cw Yt 250=true:=by kernel_rfl
theorem wA:Hs Yt 250=some [.nilFunc]:=by kernel_rfl
theorem bL:Cw Yt 176=true:=by kernel_rfl
theorem gW:Hs Yt 176=some [.slice none 0 0]:=by kernel_rfl
section
variable{w w':World}{R R' Ra:Nat->Prop}{f a v d:Nat}{F:Fy}{K:Value->World->Prop}
theorem Ae1{i:Nd}(hw:E3 i):((nV i).drop 4).take 6=iL (i.p.take 6):=by
 show(iL i.p).take 6=_;unfold iL;rw[Lh4]
theorem XZ{b n dp:Int}{v3 v4 v5:Value}(h0:b=0)(hk:K (.tuple #[]) w):A7 Yt CO (#[Yn b,Yn dp,Yn n]++#[v3,v4,v5]) w K:=by
 refine Om _ _ _ _ _ _ w K ?_;unfold HK;exact tt (by rw[h0];rfl) hk
end
def gF:Gm:=⟨24,8,3⟩
def TO:Int->Bool:=fun _=>false
def hN:Nat->List Hd
 | 0=>[AE gF 0,AE gF 1,AE gF 2]
 | i+1=>(hN i).set 0 (BW false gF ((hN i).getD 0 hZ) ((i:Int)+2) true).1
theorem dT(a b d:Int):Al (Instr.build 69 #[(0,Yn a),(1,Yn b),(3,Yn d)]) (.agg ⟨nV ⟨a,b,0,d,[0,0,0,0,0,0,0,0]⟩⟩):=fun w=>by kernel_rfl
section
variable{w w':World}{R R' Ra:Nat->Prop}{f a v d p base:Nat}{F:Fy}{V0:Ps}{K:Value->World->Prop}{ra:Nat->Option Addr}{rc rl:Nat->Nat}{rx:Nat->List Value}
end
end Go.Z
end
