/- Parts of the proof, in order: what the statement leans on. -/
import Derived.Test.YtelhlihjihklbaaGreatBe
open Go.Proofs Go.Proofs.YtelhlihjihklbaaGreat
section
open Go Go.Den Go.Proofs
namespace Go.Z
section
variable{w0 w w':World}{R R':Nat->Prop}{rl:Nat->Nat}{sp c d mo mm:Nat}{ca oa:Nat->Nat}{Lo Lm:List (Int×Value)}{P V:Ps}{K:Value->World->Prop}
theorem Px.to(h:Px w0 R w sp d P)(h1:∀ x,R x->R' x)(h2:∀ x,R' x->w0.heap.size<=x/\x<w.heap.size):Px w0 R' w sp d P:=by
 obtain⟨hw,rl,c,mo,mm,ca,oa,Lo,Lm,h⟩:=h;exact⟨hw,rl,c,mo,mm,ca,oa,Lo,Lm,h.widen h1 h2⟩
theorem Px.lo(h:Px w0 R w sp d P):∀ x,R x->w0.heap.size<=x/\x<w.heap.size:=h.wf.2.2.2.2.2
theorem Px.notin{w1:World}(h:Px w0 R w sp d P){g:Nat}(hz:w.heap.size<=w1.heap.size)(hg:w1.heap.size<=g):¬ BJ R w w1 g:=by
 rintro(e|e)
 ·have:=(h.lo g e).2;omega
 ·omega
def Pz(w0:World)(R:Nat->Prop)(w:World)(sp d:Nat)(V:Ps):Prop:=∃ C,C.D=V.C.D/\C.most=V.C.most/\Px w0 R w sp d ⟨C,V.last,V.ons⟩
theorem Pz.nos(h:Pz w0 R w sp d V)(k:Ab No w w'):Pz w0 R w' sp d V:=by
 obtain⟨C,h1,h2,h⟩:=h;exact⟨C,h1,h2,h.nos k⟩
theorem Pz.lo(h:Pz w0 R w sp d V):∀ x,R x->w0.heap.size<=x/\x<w.heap.size:=by
 obtain⟨C,h1,h2,h⟩:=h;exact h.lo
theorem tH{C:Ca}(e:C.D=V.C.D)(b:Nat):EZ ⟨C,V.last,V.ons⟩ b=EZ V b:=by
 unfold EZ;show(match BQ V b with | some o=>AW o.base (o.l.filter fun x=>(Ia V.opn o.l).contains (x.id:Int)) | none=>DC C.D b)=_;rw[e]
 all_goals cases BQ V b<;>rfl
theorem jX{C:Ca}(e:C.D=V.C.D)(b:Nat):AH ⟨C,V.last,V.ons⟩ b=AH V b:=by
 unfold AH;show(match BQ V b with | some o=>AW o.base o.l | none=>DC C.D b)=_;rw[e]
 all_goals cases BQ V b<;>rfl
set_option maxRecDepth 100000 in
theorem uO{n:Int}(hP:Px w0 R w sp d P)(hk0:AD P.C.D n≠0->∀ w',Ab No w w'->K (.tuple #[.slice none 0 0,.int .i64 (AD P.C.D n)]) w')
  (hk:∀ b:Nat,n=b->b<P.C.D.vs.length->∀ w1 w' g cc C',Ab R w w1->Ab No w1 w'->Px w0 (BJ R w w1) w' sp d { P with C:=C' }->C'.D=P.C.D->C'.most=P.C.most->w1.heap.size<=g->A1 w' g 0 (Au (EZ P b))->K (.tuple #[.slice (some ⟨g,0,none⟩) 256 cc,.int .i64 0]) w') :
  A8 Tryz.prog Fp #[.pointer (some ⟨sp,0,none⟩),.int .i64 n] w K:=by
 apply OI;unfold Iq;refine lD hP (fun he w1 m1=>⟨_,_,_,_,rfl,?_⟩) fun b hb hlt w1 w2 a cc C' m1 m2 h2 eD eM hcont o2=>⟨_,_,_,_,rfl,?_⟩
 ·exact Ac.dup (tt (by simpa using he) ⟨_,rfl,tt rfl (hk0 he w1 m1)⟩)
 ·subst hb;have hcv:QV P b=AH P b:=by
   have hwf:=hP.wf;exact NX hwf.1 hwf.2.1 hwf.2.2.1 b
  rw[hcv]at o2;obtain⟨hw,rl,c,mo,mm,ca,oa,Lo,Lm,h⟩:=h2;refine Ac.dup (ff rfl ⟨_,rfl,_,h.lm,_,h.lookM b,?_⟩);cases ho:BQ P b with
  | none =>
   have ho':BQ { P with C:=C' } b=none:=ho;rw[ho'];refine⟨_,rfl,tt rfl ?_⟩;obtain⟨g,rfl,hg,hat⟩:=o2.sm (by omega);have e:EZ P b=AH P b:=by unfold EZ AH;rw[ho]
   exact hk b rfl hlt w1 w2 g cc C' m1 m2 ⟨hw,rl,c,mo,mm,ca,oa,Lo,Lm,h⟩ eD eM hg (by rw[e];exact hat)
  | some o =>
   have ho':BQ { P with C:=C' } b=some o:=ho;obtain⟨hom,hob⟩:=CB ho;have hobn:o.b=b:=by omega
   have hlk:=h.lookM (b:Int);rw[ho']at hlk |-;refine⟨_,rfl,ff rfl ⟨_,rfl,_,h.lm,_,hlk,?_⟩⟩;refine kU h hom fun w3 m m3 hm hmp=>⟨_,rfl,?_⟩;have hA:Ab No w3 (w3.alloc (.cells ⟨[.map (some m)]⟩ 167)):=(Ab.refl No w3).alloc _;have aA:At (w3.alloc (.cells ⟨[.map (some m)]⟩ 167)) w3.heap.size 0 [.map (some m)]:=A1.new.at;have sA:(w3.alloc (.cells ⟨[.map (some m)]⟩ 167)).heap.size=w3.heap.size+1:=by simp
   refine⟨_,_,WS _,_,ST (by kernel_rfl) rfl,?_⟩;generalize w3.alloc (.cells ⟨[.map (some m)]⟩ 167)=w4 at *;have M4:=m3.no hA;have h4:=h.nos M4;refine wS h4 hom (dJ h4 (fun x hx=>GH hom hx) aA (hmp.keep hA id)) fun w5 g cc5 m5 hg5 hat5=>⟨_,_,_,rfl,?_⟩;have M5:=M4.no m5;have hz2:=m2.size;have hz4:=M4.size;refine hk b rfl hlt w1 w5 g cc5 C' m1 (m2.no M5) ⟨hw,rl,c,mo,mm,ca,oa,Lo,Lm,h.nos M5⟩ eD eM (by omega) ?_
   have e:EZ P b=AW o.base (o.l.filter fun x=>(Ia P.opn o.l).contains (x.id:Int)):=by unfold EZ;rw[ho]
   rw[e];exact hat5
theorem H5.store{q:Nat}{x:Ch}(h:H5 w rl q x)(h5:rl q≠5)(b:Bool):∃ w',Eh (Instr.storeAt 4 (.pointer (some (Addr.add ⟨q,0,none⟩ 5))) (.bool b)) w w'/\H5 w' rl q { x with out:=b }/\Ab (fun z=>z=q) w w':=by
 obtain⟨gd,cd,aa,cc,h1,h2,h3,h4,h6⟩:=h;obtain⟨w',u1,u2,u3,u4⟩:=h1.store (P:=Tryz.prog) (T:=4) (i:=5) (v:=.bool b) (by kernel_rfl) (by simp) rfl;refine⟨w',by rw[Ad];exact u1,⟨gd,cd,aa,cc,by simpa using u2,h2.keep u3 (fun e=>?_),h3,h4.keep u3 fun q' hq' e=>?_,h6⟩,u3⟩
 ·have e:gd=q:=e;rw[e]at h3;exact h5 h3
 ·have e:q'.block=q:=e
  have:=h6 q' hq'
  rw[e]at this;exact h5 this
theorem AdR{o : On}{b m : Nat}(h : EO w0 R rl w sp c d mo mm ca oa Lo Lm P)(hom : o ∈ P.ons)(ho : BQ P b = some o)(hmp : Bj w m (gU (Ia P.opn o.l)))(hm : ¬ R m){la : Option Addr}{lc : Nat}(hl : Bl w la (pL (o.l.map fun x => ca x.id)))(hll : o.l.length ≤ lc)(h9 : ∀ q, la = some q → rl q.block = 9 + 3 * o.b)
    (hk : ∀ w', Ab R w w' → EO w0 (BJ R w w') rl w' sp c d mo mm ca oa Lo Lm ⟨P.C, P.last, Rz P (By P b)⟩ → K (.int .i64 0) w') :
    A6 (fun k_3 x_3 w6 =>
 ∃ n68 : Int, Ap x_3 0 = .int .i64 n68 ∧ (bif decide (n68 < (o.l.length : Int))then
 ∃ q70 : Addr, Al (Instr.indexAt 169 (.slice la o.l.length lc) (.int .i64 n68)) (.pointer (some q70)) ∧ ∃ p71 : Option Addr, Ru (Instr.loadAt 172 (.pointer (some q70))) w6 (.pointer p71) w6 ∧ Ac (fun k_4 => ∃ q74 : Addr, (.pointer p71 : Value) = .pointer (some q74) ∧ ∃ b76 : Bool, Ru (Instr.loadAt 4 (.pointer (some (Addr.add q74 5)))) w6 (.bool b76) w6 ∧ (bif b76 then ∃ q85 : Addr, (.pointer p71 : Value) = .pointer (some q85) ∧ ∃ w7 : World, Eh (Instr.storeAt 4 (.pointer (some (Addr.add q85 5))) (.bool true)) w6 w7 ∧ k_4 [] w7 else ∃ q80 : Addr, (.pointer p71 : Value) = .pointer (some q80) ∧ ∃ n82 : Int, Ru (Instr.loadAt 2 (.pointer (some (Addr.add q80 0)))) w6 (.int .i64 n82) w6 ∧ ∃ b83 : Bool, Ru (Instr.lookup 167 (.map (some m)) (.int .i64 n82) false) w6 (.bool b83) w6 ∧ ∃ q85_2 : Addr, (.pointer p71 : Value) = .pointer (some q85_2) ∧ ∃ w8 : World, Eh (Instr.storeAt 4 (.pointer (some (Addr.add q85_2 5))) (.bool b83)) w6 w8 ∧ k_4 [] w8)) fun x_4 w9 =>
 k_3 [.int .i64 (IntKind.i64.wrap (n68 + 1))] w9
 else
 K (.int .i64 0) w6)) [.int .i64 0] w := by
  obtain⟨_, hob⟩ := CB ho;have hob : o.b = b := by omega
  have hlast := h.wf.last;have hlen := h.wf.llen o hom;have hL := Hs P b;have hmb : bU P b = Ia P.opn o.l := by unfold bU;rw[ho]
  have hoa := fun x hx => GH hom (x := x) hx;have hinj : ∀{i j : Nat}(hi : i < o.l.length)(hj : j < o.l.length), ca o.l[i].id = ca o.l[j].id → i = j := fun {i j} hi hj e => by
    have := h.inj (hoa _ (Tx hi)) (hoa _ (Tx hj)) e
    have hnd : o.l.Nodup := GG (gN h.wf hom);exact(List.getElem_inj hnd).1 this
  have hrl : ∀ x ∈ o.l, rl (ca x.id) = 10 + 3 * x.id := fun x hx => (h.chs x (hoa x hx)).2.1;have hSR : ∀ z, (∃ x ∈ o.l, z = ca x.id) → rl z ≠ 0 ∧ R z := fun z ⟨x, hx, e⟩ => by
    subst e
    have := hrl x hx
    exact⟨by omega, h.reg _ (by omega)⟩
  refine⟨fun x w6 => ∃ i : Nat, i ≤ o.l.length ∧ x = [.int .i64 i] ∧ Ab (fun z => ∃ x ∈ o.l, z = ca x.id) w w6 ∧ ∀(j : Nat)(hj : j < o.l.length), H5 w6 rl (ca o.l[j].id) (if j < i then By P b o.l[j]else o.l[j]),
    fun x _ => (o.l.length - nI x 0).toNat, ⟨0, by omega, rfl, Ab.refl _ _, fun j hj => by rw[if_neg (by omega)];exact(h.chs _ (hoa _ (Tx hj))).2.2⟩, ?_⟩
  rintro x w6 ⟨i, hi, rfl, M6, hch⟩;refine⟨_, rfl, Aa (fun hb => ?_) (fun hb => ?_)⟩
  · have hi : i < o.l.length := by have := Lc hb;omega
    have hxm := Tx hi;have hlr : Bl w6 la (pL (o.l.map fun x => ca x.id)) := hl.keep M6 fun q hq ⟨x, hx, e⟩ => by
      have h1 := h9 q hq;have h2 := hrl x hx;rw[← e]at h2;omega
    obtain⟨b3, o3, hla, hat3⟩ := Hu hlr (i := i) (by simp;exact hi);subst hla;have hld := hat3.load (P := Tryz.prog) (T := 172) (by kernel_rfl) (SN (i := i) (by simp;exact hi));rw[Le6]at hld;refine⟨_, Ar (k := 1) (by kernel_rfl) (by omega) (by omega), ?_⟩;rw[Ad, show(i : Int).toNat * 1 = i by omega];refine⟨_, hld, ?_⟩;have hc := hch i hi;rw[if_neg (by omega)]at hc
    have hr5 : rl (ca o.l[i].id) ≠ 5 := by have := hrl _ hxm;omega
    have hm6 : Bj w6 m (gU (Ia P.opn o.l)) := hmp.keep M6 fun e => hm (hSR _ e).2;have hmark : By P b o.l[i] = { o.l[i]with out := o.l[i].out || (Ia P.opn o.l).contains (o.l[i].id : Int) } := by
      unfold By;rw[if_pos (by rw[h.wf.chb o hom _ hxm];exact hob), hmb]
    have step : ∀(bb : Bool)(w7 : World), bb = (o.l[i].out || (Ia P.opn o.l).contains (o.l[i].id : Int)) → H5 w7 rl (ca o.l[i].id) { o.l[i]with out := bb } → Ab (fun z => z = ca o.l[i].id) w6 w7 →
        Ab (fun z => ∃ x ∈ o.l, z = ca x.id) w w7 ∧ ∀(j : Nat)(hj : j < o.l.length), H5 w7 rl (ca o.l[j].id) (if j < i + 1 then By P b o.l[j]else o.l[j]) := by
      intro bb w7 hbb hc7 m7;refine⟨M6.trans m7 fun z _ e => ⟨_, hxm, e⟩, fun j hj => ?_⟩;by_cases e : j = i
      · subst e
        rw[if_pos (by omega), hmark, ← hbb];exact hc7
      · have hk := hch j hj
        have : (if j < i + 1 then By P b o.l[j]else o.l[j]) = if j < i then By P b o.l[j]else o.l[j] := by
          by_cases hji : j < i
          · rw[if_pos hji, if_pos (by omega)]
          · rw[if_neg hji, if_neg (by omega)]
        rw[this];exact hk.keep m7 (fun e2 => e (hinj hj hi e2)) fun z hz e2 => hr5 (by rw[← e2];exact hz)
    refine Ac.cut (fun _ w7 => Ab (fun z => ∃ x ∈ o.l, z = ca x.id) w w7 ∧ ∀(j : Nat)(hj : j < o.l.length), H5 w7 rl (ca o.l[j].id) (if j < i + 1 then By P b o.l[j]else o.l[j])) ⟨_, rfl, _, hc.ld (j := 5) (by kernel_rfl) (fun _ _ _ _ => rfl), Aa (fun hout => ?_) (fun hout => ?_)⟩ ?_
    · obtain⟨w7, u1, u2, u3⟩ := hc.store hr5 true
      exact⟨_, rfl, w7, u1, step true w7 (by rw[hout, Bool.true_or]) u2 u3⟩
    · obtain⟨w7, u1, u2, u3⟩ := hc.store hr5 ((Ia P.opn o.l).contains (o.l[i].id : Int))
      exact⟨_, rfl, _, hc.ld (j := 0) (by kernel_rfl) (fun _ _ _ _ => rfl), _, YN hm6 _, _, rfl, w7, u1, step _ w7 (by rw[hout, jF]) u2 u3⟩
    · rintro z w7 ⟨M7, hch7⟩
      rw[Ag (x := (i : Int) + 1) (by omega) (by omega)];exact⟨⟨i + 1, by omega, rfl, M7, hch7⟩, by simp[nI, Ap];omega⟩
  · have hil : i = o.l.length := by have := Lb hb;omega
    have hch' : ∀ x ∈ o.l, H5 w6 rl (ca x.id) (By P b x) := fun x hx => by
      obtain⟨j, hj, rfl⟩ := Lq4 hx
      have := hch j hj
      rwa [if_pos (by omega)]at this
    refine hk w6 (M6.mono fun z _ e => (hSR z e).2) ?_;have hxo : ∀{p : On}, p ∈ P.ons → p.b ≠ b → { p with l := p.l.map (By P b) } = p := fun {p} hp e => by
      rw[bT fun x hx => by rw[h.wf.chb p hp x hx];exact e]
    refine h.step (P' := ⟨P.C, P.last, Rz P (By P b)⟩) rfl M6 (TU.refl _ _ _) (fun _ e => e) (fun z _ ⟨x, hx, e⟩ => by have := hrl x hx;rw[← e]at this;omega)
      (h.cell.keep M6 fun⟨x, hx, e⟩ => by have := hrl x hx;rw[← e, h.rsp]at this;omega) (h.mapO.keep M6 fun⟨x, hx, e⟩ => by have := hrl x hx;rw[← e, h.rmo]at this;omega) (h.mapM.keep M6 fun⟨x, hx, e⟩ => by have := hrl x hx;rw[← e, h.rmm]at this;omega) ?_ ?_ ?_ ?_ (h.wf.mapX hL rfl rfl)
    · intro y hy
      rw[HF]at hy;obtain⟨x, hx, rfl⟩ := Li.1 hy;obtain⟨p, hp, hxp⟩ := GF.1 hx;by_cases e : p.b = b
      · have := H2 h.wf hp hom (by omega)
        subst this;obtain⟨k1, k2, _⟩ := h.chs x hx;right;rw[hL.id];exact⟨k1, k2, hch' x hxp⟩
      · have hxb : x.b ≠ b := by rw[h.wf.chb p hp x hxp];exact e
        have hid : By P b x = x := by unfold By;rw[if_neg hxb]
        rw[hid];left;refine⟨hx, rfl, rfl, fun q ⟨z, hz, eq⟩ hq => ?_⟩;subst eq;rw[hrl z hz]at hq;have ez : z = x := EA h.wf.ids (hoa z hz) hx (by omega);exact hxb (by rw[← ez, h.wf.chb o hom z hz];exact hob)
    · intro p' hp'
      obtain⟨p, hp, rfl⟩ := Li.1 hp';by_cases e : p.b = b
      · have := H2 h.wf hp hom (by omega)
        subst this;obtain⟨k1, k2, k3⟩ := h.ons p hp;right;refine⟨k1, k2, ?_⟩;have k4 := k3.keep M6 (fun⟨x, hx, e⟩ => by have := hrl x hx;rw[← e, k2]at this;omega) (fun z hz ⟨x, hx, e⟩ => by have := hrl x hx;rw[← e, hz]at this;omega) fun z hz ⟨x, hx, e⟩ => by have := hrl x hx;rw[← e, hz]at this;omega
        obtain⟨g, cc, la', lc', a1, a2, a3, a4, a5⟩ := k4;refine⟨g, cc, la', lc', ?_, a2, a3, ?_, a5⟩
        · show A1 w6 _ 0 [_, .slice la' (p.l.map (By P b)).length lc']
          rw[jL];exact a1
        · show Ow Tryz.prog w6 w0.heap.size _ 1 la' (p.l.map (By P b)).length lc' (pL ((p.l.map (By P b)).map fun x => ca x.id))
          rw[jL, qJ];have : ((fun x => ca x.id) ∘ By P b) = fun x => ca x.id := by funext x;simp only[Function.comp];rw[hL.id]
          rw[this];exact a4
      · have := hxo hp e
        rw[this];left;exact⟨hp, rfl, rfl, fun _ _ => rfl, fun q ⟨y, hy, eq⟩ => by have := hrl y hy;rw[← eq]at this;omega⟩
    · intro p hp
      obtain⟨x, hx, e⟩ := h.keysO p hp;refine⟨By P b x, ?_, by rw[hL.id];exact e⟩;rw[HF];exact Li.2 ⟨x, hx, rfl⟩
    · intro p hp
      obtain⟨q, hq, e⟩ := h.keysM p hp;exact⟨{ q with l := q.l.map (By P b) }, Li.2 ⟨q, hq, rfl⟩, e⟩
theorem Hh.cache{C:Ca}(h:Hh P)(hD:C.D.vs.length=P.C.D.vs.length)(hm:C.most=P.C.most):Hh ⟨C,P.last,P.ons⟩ where
 full:=by show C.D.vs.length<=C.most;rw[hD,hm];exact h.full
 onsN:=h.onsN
 onlt:=fun o ho=>by show o.b<C.D.vs.length;rw[hD];exact h.onlt o ho
 base:=h.base
 llen:=h.llen
 ids:=h.ids
 idr:=h.idr
 chb:=h.chb
 dat:=h.dat
 aft:=h.aft
 last:=h.last
set_option maxRecDepth 100000 in
theorem uQ{n:Int}(hP:Px w0 R w sp d P)(hb9:∀ v∈P.C.D.vs,v.length<=999999)
  (hk:∀ w' C',Ab R w w'->Px w0 (BJ R w w') w' sp d ⟨C',(Jw P n).last,(Jw P n).ons⟩->C'.D=(Jw P n).C.D->C'.most=P.C.most->K (.int .i64 (Kn P n)) w') :
  A8 Tryz.prog CH #[.pointer (some ⟨sp,0,none⟩),.int .i64 n] w K:=by
 have hP0:=hP;obtain⟨hw,rl,c,mo,mm,ca,oa,Lo,Lm,h⟩:=hP;apply OK;unfold Is;have hgro:Px w0 (BJ R w w) w sp d P:=hP0.to (fun x hx=>.inl hx) fun x hx=>by
  rcases hx with hx|hx
  ·exact hP0.lo x hx
  ·omega
 refine ff rfl (Ac.cut (fun x w1=>w=w1/\x=[.bool (decide (AD P.C.D n≠0))]) (Aa (fun hb=>?_) (fun hb=>?_)) ?_)
 ·have hb:=Lc hb;have:AD P.C.D n≠0:=by unfold AD;rw[if_pos (by omega)];omega
  rw[Le this];exact⟨rfl,rfl⟩
 ·have hb:=Lb hb;refine⟨_,rfl,_,h.llen',rfl,?_⟩
  congr 2
  unfold AD;by_cases hn:(P.C.D.vs.length:Int)<=n
  ·rw[if_pos (.inr hn),Le hn];rfl
  ·rw[if_neg (by omega),Lf hn];rfl
 rintro x w1 ⟨rfl,rfl⟩;refine⟨_,rfl,?_⟩;by_cases he:AD P.C.D n≠0
 ·have hE:Kn P n=3:=by unfold Kn;rw[if_pos he]
  have hV:Jw P n=P:=by unfold Jw;rw[if_neg (by rw[hE];omega)]
  refine tt (Le he) ?_
  have:=hk w P.C (Ab.refl _ _) (by rw[hV];exact hgro) (by rw[hV]) rfl
  rw[hE]at this;exact this
 refine ff (Lf he) ⟨_,rfl,_,h.lm,_,h.lookM n,?_⟩;cases ho:BQ P n with
 | none =>
  have hE:Kn P n=20:=by unfold Kn;rw[if_neg he,ho];rfl
  have hV:Jw P n=P:=by unfold Jw;rw[if_neg (by rw[hE];omega)]
  refine tt rfl ?_
  have:=hk w P.C (Ab.refl _ _) (by rw[hV];exact hgro) (by rw[hV]) rfl
  rw[hE]at this;exact this
 | some o =>
  obtain⟨hom,hob⟩:=CB ho;refine ff rfl (uO hP0 (fun he'=>absurd he' he) fun b hb hlt w1 w2 g cc C' m1 m2 h2 eD eM hg hat=>⟨_,_,_,_,rfl,?_⟩);subst hb;have hE:Kn P (b:Int)=0:=by unfold Kn;rw[if_neg he,ho];rfl
  have hV:Jw P (b:Int)=⟨{ P.C with D:=B8 P.C.D b (EZ P b) },P.last,Rz P (By P b)⟩:=by unfold Jw;rw[if_pos hE,Lr]
  have hnot:=hP0.notin (w1:=w1) m1.size hg;obtain⟨hw2,rl2,c2,mo2,mm2,ca2,oa2,Lo2,Lm2,h2⟩:=h2;have hcw:=h2.cx.wf;have hlt':b<C'.D.vs.length:=by rw[eD];exact hlt
  obtain⟨C2,hask⟩:=UV hcw.1 h2.wf.full hlt';obtain⟨l0,y,A⟩:=NQ hcw.1 hcw.2.1 hlt' hask;have hil:(EZ P b).length=256:=by
   have hwf:=hP0.wf;exact YL hwf.2.1 hwf.2.2.2.1 hlt
  have hwf2:=UP.ask hw2 h2.wf hcw.1 A;have hrun:C2.D.left=-1:=hwf2.run;have hwr:=wV (D:=C2.D) (b:=b) (ys:=EZ P b) (by rw[A.D];exact hlt') hil hrun;have hwX:lZ C' b (EZ P b)=({ C2 with D:=B8 C2.D b (EZ P b) },0):=by
   unfold lZ;have he2:AD C'.D (b:Int)=0:=by rw[eD];exact Tw.1 he
   rw[if_neg (by rw[he2];simp),if_neg (by omega),Lr,hask];simp only;rw[if_neg (by omega),hwr.1]
  refine Ac.cut (fun x w4=>x=[.int .i64 0]/\Ab (fun z=>rl2 z=1) w2 w4/\Cx w0 (BJ (fun z=>rl2 z=1) w2 w4) w4 c2 d { C2 with D:=B8 C2.D b (EZ P b) }) (tt rfl ⟨_,rfl,_,h2.lc,?_⟩) ?_
  ·refine rR (ys:=EZ P b) h2.cx (by show ∀ v∈C'.D.vs,_;rw[eD];exact hb9) hil (.inr ⟨_,_,rfl,hat.at⟩) (fun _ q hq e=>?_) fun w4 m4 x4=>⟨_,rfl,?_⟩
   ·have:q.block=g:=by cases hq;rfl
    have e1:rl2 q.block=1:=e;rw[this]at e1;exact hnot (h2.reg g (by omega))
   ·have x4':Cx w0 (BJ (fun z=>rl2 z=1) w2 w4) w4 c2 d (lZ C' b (EZ P b)).1:=x4;rw[hwX]at x4';show _/\_;have e0:(lZ C' (b:Int) (EZ P b)).2=0:=by rw[hwX]
    show [Value.int .i64 (lZ C' (b:Int) (EZ P b)).2]=_/\_;rw[e0];exact⟨rfl,m4,x4'⟩
  ·rintro x w4 ⟨rfl,m4,x4⟩;have h4:=h2.cache (w':=w4) m4 (Ab.refl _ _) x4 (by show(B8 C2.D b (EZ P b)).vs.length=C'.D.vs.length;rw[gQ,A.D]) (by show C2.most=C'.most;exact A.most);obtain⟨rl4,h4,hr4⟩:=h4;have ho4:BQ (⟨{ C2 with D:=B8 C2.D b (EZ P b) },P.last,P.ons⟩:Ps) b=some o:=ho;have hlk4:=h4.lookM (b:Int);have hlk4':Ru (Instr.lookup 162 (.map (some mm2)) (.int .i64 b) false) w4 (.pointer (some ⟨oa2 o.b,0,none⟩)) w4:=by
    have e:BQ ({ ({ P with C:=C' }:Ps)with C:={ C2 with D:=B8 C2.D b (EZ P b) } }:Ps) b=some o:=ho;rw[e]at hlk4;exact hlk4
   refine⟨_,rfl,ff rfl ⟨_,rfl,_,h4.lm,_,hlk4',kU h4 hom fun w5 m m5 hm hmp=>⟨_,rfl,?_⟩⟩⟩;have h5:=h4.nos m5;obtain⟨la,lc,l1,l2,l3,l4⟩:=(h5.ons o hom).2.2.ldL;refine⟨_,rfl,_,h5.lm,_,?_,_,rfl,la,_,lc,l1,?_⟩
   ·have:=h5.lookM (b:Int)
    have e:BQ ({ ({ P with C:=C' }:Ps)with C:={ C2 with D:=B8 C2.D b (EZ P b) } }:Ps) b=some o:=ho;rw[e]at this;exact this
   refine AdR (b:=b) h5 hom ho hmp (fun e=>?_) l2 l3 l4 fun w6 m6 h6=>?_
   ·have:=h4.lo m e
    omega
   have hz1:=m1.size;have hz2:=m2.size;have hz4:=m4.size;have hz5:=m5.size;have hz6:=m6.size;have hw0:=hP0.wf.2.2.2.2.1.size;have hreg2:∀ z,rl2 z=1->BJ R w w1 z:=fun z hz=>h2.reg z (by omega);have hR5:∀ z,BJ (BJ R w w1) w2 w4 z->BJ R w w6 z:=fun z hz=>by
    rcases hz with (hz|hz)|hz
    ·exact .inl hz
    ·exact .inr (by omega)
    ·exact .inr (by omega)
   have hM:Ab R w w6:=by
    have k1:Ab R w w2:=m1.no m2;have k2:Ab R w w4:=k1.trans m4 fun z hz e=>by
     rcases hreg2 z e with e|e
     ·exact e
     ·omega
    have k3:Ab R w w5:=k2.no m5;exact k3.trans m6 fun z hz e=>by
     rcases e with (e|e)|e
     ·exact e
     ·omega
     ·omega
   have eD2:C2.D=P.C.D:=by rw[A.D];exact eD
   have eM2:C2.most=P.C.most:=by rw[A.most];exact eM
   have hwfS:Hh ⟨C2,P.last,P.ons⟩:=Hh.cache hP0.wf.2.1 (by rw[eD2]) eM2;have hf:=UP.mark (P:=⟨C2,P.last,P.ons⟩) hwf2 hwfS (by show WF C2.D;rw[eD2];exact hP0.wf.2.2.2.1) ho;rw[tH eD2]at hf
   have:=hk w6 { C2 with D:=B8 C2.D b (EZ P b) } hM ?_ ?_ ?_
   ·rw[hE]at this;exact this
   ·rw[hV];refine⟨hf,rl4,c2,mo2,mm2,ca2,oa2,Lo2,Lm2,h6.widen (fun z hz=>?_) fun z hz=>?_⟩
    ·rcases hz with hz|hz
     ·exact hR5 z hz
     ·exact .inr (by omega)
    ·rcases hz with hz|hz
     ·have:=hP0.lo z hz;omega
     ·omega
   ·rw[hV];show B8 C2.D b (EZ P b)=B8 P.C.D b (EZ P b);rw[eD2]
   ·exact eM2
end
end Go.Z
open Go Go.Den Go.Proofs
namespace Go.Z
theorem rM(w:World)(a:Option Addr)(l cc:Nat):(Instr.build 171 #[(0,.slice a l cc)]).run Tryz.prog w=.ok (.agg ⟨[.slice a l cc,.slice none 0 0]⟩) w:=by kernel_rfl
theorem Ac7(w:World)(cs:List Value):(Instr.box 171 (.agg ⟨cs⟩)).run Tryz.prog w=.ok (.pointer (some ⟨w.heap.size,0,none⟩)) (w.alloc (.cells ⟨cs⟩ 171)):=rfl
theorem rL(w:World)(i b f:Int)(a:Option Addr)(l cc:Nat):(Instr.build 174 #[(0,.int .i64 i),(1,.int .i64 b),(2,.int .i64 f),(3,.slice a l cc)]).run Tryz.prog w=.ok (.agg ⟨[.int .i64 i,.int .i64 b,.int .i64 f,.slice a l cc,.slice none 0 0,.bool false]⟩) w:=by kernel_rfl
theorem Ac6(w:World)(cs:List Value):(Instr.box 174 (.agg ⟨cs⟩)).run Tryz.prog w=.ok (.pointer (some ⟨w.heap.size,0,none⟩)) (w.alloc (.cells ⟨cs⟩ 174)):=rfl
theorem rN(w:World)(v:Int):(Instr.buildSlice 159 1 #[(0,.int .i64 v)]).run Tryz.prog w=.ok (.slice (some ⟨w.heap.size,0,none⟩) 1 1) (w.alloc (.cells ⟨[.int .i64 v]⟩ 2)):=by kernel_rfl
theorem yV(w:World)(p:Option Addr):(Instr.buildSlice 169 1 #[(0,.pointer p)]).run Tryz.prog w=.ok (.slice (some ⟨w.heap.size,0,none⟩) 1 1) (w.alloc (.cells ⟨[.pointer p]⟩ 172)):=by kernel_rfl
section
variable{w0 w w':World}{R R':Nat->Prop}{rl:Nat->Nat}{sp c d mo mm:Nat}{ca oa:Nat->Nat}{Lo Lm:List (Int×Value)}{P V:Ps}{K:Value->World->Prop}
theorem EO.take(h:EO w0 R rl w sp c d mo mm ca oa Lo Lm P){g:Nat}(hg:rl g=0)(h0:w0.heap.size<=g)(h1:g<w.heap.size):EO w0 (fun x=>R x\/x=g) (ro rl g 5) w sp c d mo mm ca oa Lo Lm P:=by
 have hs:∀ z,rl z≠0->ro rl g 5 z=rl z:=fun z hz=>Cd _ fun e=>hz (by rw[e];exact hg)
 exact {
  cx:=by
   have e:(fun x=>ro rl g 5 x=1)=fun x=>rl x=1:=by
    funext x;apply propext;by_cases e:x=g
    ·subst e;rw[Ce,hg];omega
    ·rw[Cd _ e]
   rw[e];exact h.cx
  cell:=h.cell
  mapO:=h.mapO
  mapM:=h.mapM
  rsp:=by rw[hs _ (by rw[h.rsp];omega)];exact h.rsp
  rmo:=by rw[hs _ (by rw[h.rmo];omega)];exact h.rmo
  rmm:=by rw[hs _ (by rw[h.rmm];omega)];exact h.rmm
  chs:=fun x hx=>by
   obtain⟨h1,h2,h3⟩:=h.chs x hx;exact⟨h1,by rw[hs _ (by omega)];exact h2,h3.role fun z hz=>by rw[hs z (by omega)];exact hz⟩
  ons:=fun o ho=>by
   obtain⟨h1,h2,h3⟩:=h.ons o ho;exact⟨h1,by rw[hs _ (by omega)];exact h2,h3.role hs fun _ _=>rfl⟩
  keysO:=h.keysO
  keysM:=h.keysM
  wf:=h.wf
  reg:=fun x hx=>by
   by_cases e:x=g
   ·exact .inr e
   ·rw[Cd _ e]at hx;exact .inl (h.reg x hx)
  lo:=fun x hx=>by
   rcases hx with hx|rfl
   ·exact h.lo x hx
   ·exact⟨h0,h1⟩
  mod:=h.mod }
theorem EO.newOn(h:EO w0 R rl w sp c d mo mm ca oa Lo Lm P){b g cc:Nat}(hno:BQ P b=none)(hb:b<P.C.D.vs.length)(hl:(AH P b).length=256)(hg:rl g=5)(hat:At w g 0 (Au (AH P b))) :
  ∃ w7,Eh (Instr.mapUpdate 162 (.map (some mm)) (.int .i64 b) (.pointer (some ⟨w.heap.size,0,none⟩))) (w.alloc (.cells ⟨[.slice (some ⟨g,0,none⟩) 256 cc,.slice none 0 0]⟩ 171)) w7 /\
   EO w0 (BJ R w w7) (ro rl w.heap.size (8+3*b)) w7 sp c d mo mm ca (fun k=>if k=b then w.heap.size else oa k) Lo (Km b (pV w.heap.size) Lm) (BE P b)/\Ab (fun z=>z=mm) w w7:=by
 have m1:Ab No w (w.alloc (.cells ⟨[.slice (some ⟨g,0,none⟩) 256 cc,.slice none 0 0]⟩ 171)):=(Ab.refl No w).alloc _;have a1:A1 (w.alloc (.cells ⟨[.slice (some ⟨g,0,none⟩) 256 cc,.slice none 0 0]⟩ 171)) w.heap.size 0 [.slice (some ⟨g,0,none⟩) 256 cc,.slice none 0 0]:=A1.new;have s1:(w.alloc (.cells ⟨[.slice (some ⟨g,0,none⟩) 256 cc,.slice none 0 0]⟩ 171)).heap.size=w.heap.size+1:=by simp
 generalize w.alloc (.cells ⟨[.slice (some ⟨g,0,none⟩) 256 cc,.slice none 0 0]⟩ 171)=w1 at *;have h1:=h.nos m1;have hz:=h.out_of (x:=w.heap.size) (Ld _);obtain⟨w7,u1,u2,u3,u4⟩:=Hw (P:=Tryz.prog) (T:=162) (k:=(b:Int)) (v:=.pointer (some ⟨w.heap.size,0,none⟩)) gR h1.mapM;have M7:Ab (fun z=>z=mm) w w7:=m1.anys.trans u3 fun _ _ e=>e;refine⟨w7,u1,?_,M7⟩;have hne:∀{z},rl z≠4->z≠mm:=fun hz e=>hz (by rw[e];exact h.rmm)
 have hq:w.heap.size≠mm:=hne (by rw[hz];omega);have hno':=Gj hno;have hnO:BE P b={ P with ons:=P.ons++[⟨b,AH P b,[]⟩] }:=by unfold BE;rw[hno]
 have hx:TU w w7 rl (ro rl w.heap.size (8+3*b)):=(TU.refl _ _ _).ro (.inr ⟨Ld _,by omega,hz⟩) (by omega) (by omega);obtain⟨eC,eL⟩:=Qb (V:=P) (b:=b);refine h.step (P':=BE P b) (Lo':=Lo) (Lm':=Km b (pV w.heap.size) Lm) (ca':=ca) eC M7 hx (fun z e=>?_) (fun z _ e=>by rw[show z=mm from e,h.rmm];omega) ?_ (h.mapO.keep M7 (hne (by rw[h.rmo];omega))) u2 ?_ ?_ ?_ ?_ (h.wf.newO hb hl)
 ·by_cases e1:z=w.heap.size
  ·subst e1;rw[Ce]at e;omega
  ·rw[Cd _ e1]at e;exact e
 ·rw[eL];exact h.cell.keep M7 (hne (by rw[h.rsp];omega))
 ·intro x hx;rw[Jk]at hx;exact .inl ⟨hx,rfl,rfl,fun q e hq=>by rw[show q=mm from e,h.rmm]at hq;omega⟩
 ·intro o ho;rw[hnO]at ho;rcases Lq.1 ho with ho | ho
  ·left
   have:=hno' o ho
   refine⟨ho,?_,?_,fun _ _=>rfl,fun q e=>by rw[show q=mm from e,h.rmm];omega⟩
   ·rw[Ep,if_neg (by omega)]
   ·exact if_neg (by omega)
  ·simp only[List.mem_singleton]at ho;subst ho;right;refine⟨by rw[Ep,if_pos rfl];simp,by simp[Ce],?_⟩;refine⟨g,cc,none,0,?_,?_,?_,Ow.nil S6,fun q hq=>by cases hq⟩
   ·have:=a1.keep u3 hq
    simpa using this
   ·exact(hat.keep m1 id).keep u3 (hne (by rw[hg];omega))
   ·rw[Cd _ (fun e=>by rw[e,hz]at hg;omega)];exact hg
 ·intro p hp;obtain⟨x,hx,e⟩:=h.keysO p hp;exact⟨x,by rw[Jk];exact hx,e⟩
 ·intro p hp;rcases RJ p hp with e | hp
  ·exact⟨⟨b,AH P b,[]⟩,by rw[hnO];simp,e⟩
  ·obtain⟨o,ho,e⟩:=h.keysM p hp;exact⟨o,by rw[hnO];exact Lq.2 (.inl ho),e⟩
theorem EO.bump(h:EO w0 R rl w sp c d mo mm ca oa Lo Lm P)(hl:P.last+1<=1000000):∃ w',Eh (Instr.storeAt 2 (.pointer (some (Addr.add ⟨sp,0,none⟩ 2))) (.int .i64 ((P.last+1:Nat):Int))) w w' /\
  EO w0 (BJ R w w') rl w' sp c d mo mm ca oa Lo Lm { P with last:=P.last+1 }/\Ab (fun z=>z=sp) w w':=by
 obtain⟨w',u1,u2,u3,u4⟩:=h.cell.store (P:=Tryz.prog) (T:=2) (i:=2) (v:=.int .i64 ((P.last+1:Nat):Int)) (by kernel_rfl) (by simp) rfl;have hne:∀{z},rl z≠2->z≠sp:=fun hz e=>hz (by rw[e];exact h.rsp);refine⟨w',by rw[Ad];exact u1,?_,u3⟩;refine h.step (P':={ P with last:=P.last+1 }) rfl u3 (TU.refl _ _ _) (fun _ e=>e) (fun z _ e=>by rw[show z=sp from e,h.rsp];omega) (by simpa using u2) (h.mapO.keep u3 (hne (by rw[h.rmo];omega))) (h.mapM.keep u3 (hne (by rw[h.rmm];omega))) ?_ ?_ h.keysO h.keysM (h.wf.bump hl)
 ·intro x hx;exact .inl ⟨hx,rfl,rfl,fun q e hq=>by rw[show q=sp from e,h.rsp]at hq;omega⟩
 ·intro o ho;exact .inl ⟨ho,rfl,rfl,fun _ _=>rfl,fun q e=>by rw[show q=sp from e,h.rsp];omega⟩
theorem EO.appX{S:Nat->Prop}{x:Ch}{o:On}{q gd cd g cc:Nat}{aa la':Option Addr}{ac lc':Nat}(h:EO w0 R rl w sp c d mo mm ca oa Lo Lm P)(ho:o∈P.ons)(hob:o.b=x.b)(hid:P.last=x.id)(hnew:∀ y∈P.all,y.id≠x.id)(hwf:Hh (HH P x))
  (k:Ab S w w') (hS:∀ z,S z->z=mo\/z=oa x.b\/rl z=9+3*x.b) (hmO:Bj w' mo (Km x.id (pV q) Lo))
  (hq:w.heap.size<=q/\q<w'.heap.size) (hgd:w.heap.size<=gd/\gd<w'.heap.size) (haa:∀ a,aa=some a->w.heap.size<=a.block/\a.block<w'.heap.size/\a.block≠q/\a.block≠gd) (hqg:q≠gd)
  (hla:∀ a,la'=some a->rl a.block=9+3*x.b\/(w.heap.size<=a.block/\a.block<w'.heap.size/\a.block≠q/\a.block≠gd/\∀ e,aa=some e->a.block≠e.block))
  (c1:A1 w' q 0 [.int .i64 x.id,.int .i64 x.b,.int .i64 x.frm,.slice (some ⟨gd,0,none⟩) x.data.length cd,.slice aa x.after.length ac,.bool x.out]) (c2:At w' gd 0 (Au x.data)) (c3:Bl w' aa (iL x.after))
  (c4:A1 w' (oa x.b) 0 [.slice (some ⟨g,0,none⟩) 256 cc,.slice la' (o.l.length+1) lc']) (hg:rl g=5) (c5:At w' g 0 (Au o.base)) (c6:Ow Tryz.prog w' w0.heap.size 169 1 la' (o.l.length+1) lc' (pL (o.l.map fun y=>ca y.id)++[pV q])) :
  ∃ rl' ca',EO w0 (BJ R w w') rl' w' sp c d mo mm ca' oa (Km x.id (pV q) Lo) Lm (HH P x):=by
 classical
 have hbig:∀{z},w.heap.size<=z->rl z=0:=fun hz=>h.out_of hz;have hon:=h.ons o ho;rw[hob]at hon;have hrS:∀{z},S z->rl z=3\/rl z=8+3*x.b\/rl z=9+3*x.b:=fun {z} e=>by
  rcases hS z e with e|e|e
  ·left;rw[e];exact h.rmo
  ·right;left;rw[e];exact hon.2.1
  ·exact .inr (.inr e)
 -- the roles
 have hx1:TU w w' rl (ro rl gd 5):=(TU.refl _ _ _).ro (.inr ⟨hgd.1,hgd.2,hbig hgd.1⟩) (by omega) (by omega);have e1:ro rl gd 5 q=0:=by rw[Cd _ hqg];exact hbig hq.1
 have hx2:TU w w' rl (ro (ro rl gd 5) q (10+3*x.id)):=hx1.ro (.inr ⟨hq.1,hq.2,e1⟩) (by omega) (by omega);have hx3:∃ r3,TU w w' rl r3/\r3 gd=5/\r3 q=10+3*x.id/\(∀ e,aa=some e->r3 e.block=5)/\∀ z,r3 z≠rl z->z=gd\/z=q\/∃ e,aa=some e/\z=e.block:=by
  cases haa':aa with
  | none =>
   refine⟨_,hx2,by rw[Cd _ (xI hqg),Ce],Ce _ _ _,(fun e he=>by cases he),fun z hz=>?_⟩;by_cases a1:z=q
   ·exact .inr (.inl a1)
   ·by_cases a2:z=gd
    ·exact .inl a2
    ·rw[Cd _ a1,Cd _ a2]at hz;exact absurd rfl hz
  | some a =>
   obtain⟨b1,b2,b3,b4⟩:=haa a haa';have e2:ro (ro rl gd 5) q (10+3*x.id) a.block=0:=by rw[Cd _ b3,Cd _ b4];exact hbig b1
   refine⟨ro (ro (ro rl gd 5) q (10+3*x.id)) a.block 5,hx2.ro (.inr ⟨b1,b2,e2⟩) (by omega) (by omega),?_,?_,?_,fun z hz=>?_⟩
   ·rw[Cd _ (xI b4),Cd _ (xI hqg),Ce]
   ·rw[Cd _ (xI b3),Ce]
   ·intro e he;cases he;exact Ce _ _ _
   ·by_cases a0:z=a.block
    ·exact .inr (.inr ⟨a,rfl,a0⟩)
    ·by_cases a1:z=q
     ·exact .inr (.inl a1)
     ·by_cases a2:z=gd
      ·exact .inl a2
      ·rw[Cd _ a0,Cd _ a1,Cd _ a2]at hz;exact absurd rfl hz
 obtain⟨r3,x3,r3g,r3q,r3a,r3o⟩:=hx3;have hx4:∃ r4,TU w w' rl r4/\r4 gd=5/\r4 q=10+3*x.id/\(∀ e,aa=some e->r4 e.block=5)/\(∀ e,la'=some e->r4 e.block=9+3*x.b)/\∀ z,r4 z=1->rl z=1:=by
  have h31:∀ z,r3 z=1->rl z=1:=fun z hz=>by
   by_cases e:r3 z=rl z
   ·omega
   ·rcases r3o z e with rfl|rfl|⟨a,ha,rfl⟩
    ·omega
    ·omega
    ·have:=r3a a ha;omega
  cases hla':la' with
  | none=>exact⟨r3,x3,r3g,r3q,r3a,(fun e he=>by cases he),h31⟩
  | some a =>
   rcases hla a hla' with hr|⟨b1,b2,b3,b4,b5⟩
   ·have:r3 a.block=9+3*x.b:=by rw[x3.old _ (by omega)];exact hr
    exact⟨r3,x3,r3g,r3q,r3a,fun e he=>by cases he;exact this,h31⟩
   ·have e3:r3 a.block=0:=by
     by_cases e:r3 a.block=rl a.block
     ·rw[e];exact hbig b1
     ·rcases r3o _ e with e|e|⟨a2,ha2,e⟩
      ·exact absurd e b4
      ·exact absurd e b3
      ·exact absurd e (b5 a2 ha2)
    refine⟨ro r3 a.block (9+3*x.b),x3.ro (.inr ⟨b1,b2,e3⟩) (by omega) (by omega),?_,?_,?_,?_,fun z hz=>?_⟩
    ·rw[Cd _ (xI b4)];exact r3g
    ·rw[Cd _ (xI b3)];exact r3q
    ·intro e he;rw[Cd _ (fun e'=>b5 e he e'.symm)];exact r3a e he
    ·intro e he;cases he;exact Ce _ _ _
    ·by_cases a0:z=a.block
     ·rw[a0,Ce]at hz;omega
     ·rw[Cd _ a0]at hz;exact h31 z hz
 obtain⟨rl',x4,r4g,r4q,r4a,r4l,r41⟩:=hx4;obtain⟨s,t,d1,d2,d3,d4⟩:=QS h.wf ho hob;refine⟨rl',fun n=>if n=x.id then q else ca n,?_⟩
 refine h.step (P':=HH P x) rfl k x4 r41 (fun z _ e=>by have:=hrS e;omega) ?_ hmO (h.mapM.keep k fun e=>by have:=hrS e;rw[h.rmm]at this;omega) ?_ ?_ ?_ ?_ hwf
 ·have:(HH P x).last=P.last:=hid.symm;rw[this];exact h.cell.keep k fun e=>by have:=hrS e;rw[h.rsp]at this;omega
 ·intro y hy;rcases Lz.1 (d4.mem_iff.1 hy)with rfl | hy
  ·right;refine⟨by rw[Ep,if_pos rfl,if_pos rfl],by rw[if_pos rfl];exact r4q,?_⟩;rw[if_pos rfl];exact⟨gd,cd,aa,ac,c1,c2,r4g,c3,r4a⟩
  ·left
   have:=hnew y hy
   refine⟨hy,by rw[Ep,if_neg (by omega)],if_neg this,fun z e e2=>by have:=hrS e;omega⟩
 ·intro p hp;have hp':p∈s++{ o with l:=o.l++[x] }::t:=by rw[<- d2];exact hp
  have hca:∀ y∈P.all,(if y.id=x.id then q else ca y.id)=ca y.id:=fun y hy=>if_neg (hnew y hy);have hcase:(p∈P.ons/\p.b≠x.b)\/p={ o with l:=o.l++[x] }:=by
   simp only[Lq,Lz]at hp';rcases hp' with hp' | hp' | hp'
   ·exact .inl ⟨by rw[d1];simp[hp'],d3 p (by simp[hp'])⟩
   ·exact .inr hp'
   ·exact .inl ⟨by rw[d1];simp[hp'],d3 p (by simp[hp'])⟩
  rcases hcase with ⟨hp1,hpb⟩|rfl
  ·left;exact⟨hp1,rfl,rfl,fun y hy=>hca y (GH hp1 hy),fun z e=>by have:=hrS e;omega⟩
  ·right;refine⟨by show Ay Lm (o.b:Int)=_;rw[hob];exact hon.1,by show rl' (oa o.b)=8+3*o.b;rw[hob,x4.old _ (by rw[hon.2.1];omega)];exact hon.2.1,?_⟩;refine⟨g,cc,la',lc',?_,c5,by rw[x4.old g (by omega)];exact hg,?_,?_⟩
   ·show A1 w' (oa o.b) 0 [_,.slice la' (o.l++[x]).length lc'];rw[hob,Ls];exact c4
   ·show Ow Tryz.prog w' w0.heap.size _ 1 la' (o.l++[x]).length lc' (pL ((o.l++[x]).map fun y=>if y.id=x.id then q else ca y.id));have:pL ((o.l++[x]).map fun y=>if y.id=x.id then q else ca y.id)=pL (o.l.map fun y=>ca y.id)++[pV q]:=by
     rw[dT];unfold pL;rw[dT]
     congr 1
     ·congr 1
      exact xB fun y hy=>hca y (GH ho hy)
     ·simp
    rw[this,Ls];exact c6
   ·show ∀ e,la'=some e->rl' e.block=9+3*o.b;rw[hob];exact r4l
 ·intro p hp;rcases RJ p hp with e | hp
  ·exact⟨x,d4.mem_iff.2 (by simp),e⟩
  ·obtain⟨y,hy,e⟩:=h.keysO p hp;exact⟨y,d4.mem_iff.2 (by simp[hy]),e⟩
 ·intro p hp;obtain⟨o',ho',e⟩:=h.keysM p hp;rw[d1]at ho';simp only[Lq,Lz]at ho';show ∃ o''∈(HH P x).ons,_;rw[d2];rcases ho' with ho' | rfl | ho'
  ·exact⟨o',by simp[ho'],e⟩
  ·exact⟨{ o' with l:=o'.l++[x] },by simp,e⟩
  ·exact⟨o',by simp[ho'],e⟩
theorem dI{q:Nat}{xs:List Int}(h:EO w0 R rl w sp c d mo mm ca oa Lo Lm P)(hq:At w q 0 [.pointer (some ⟨sp,0,none⟩)]) :
  Pk (.func (.func Dh) #[] #[.pointer (some ⟨q,0,none⟩)]) w No (fun k=>!decide (1<=k/\k<=(P.last:Int))) xs:=by
 intro w' k x _ K hK;refine⟨_,_,_,rfl,?_⟩;show A8 Tryz.prog Dh #[.int .i64 x,.pointer (some ⟨q,0,none⟩)] w' K;apply MG;exact⟨_,(hq.keep k id).load (i:=0) (by kernel_rfl) rfl,kG (h.nos k) ⟨_,rfl,hK _ (Ab.refl _ _)⟩⟩
end
end Go.Z
open Go Go.Den Go.Proofs
namespace Go.Z
theorem Bl.keep2{w w':World}{S:Nat->Prop}{a:Option Addr}{xs:List Value}(h:Bl w a xs)(m:Ab S w w')(hs:∀ q,a=some q->q.block<w.heap.size->¬ S q.block):Bl w' a xs:=by
 rcases h with h|⟨b,o,e,hat⟩
 ·exact .inl h
 ·exact .inr ⟨b,o,e,hat.keep m (hs _ e hat.lt)⟩
theorem dK{l:List Bf}{z y:Bf}(h:y.b≠z.b):y∈I9 l z↔y∈l:=by
 constructor
 ·intro hy;rcases N7 hy with rfl | ⟨hy,_⟩
  ·exact absurd rfl h
  ·exact hy
 ·intro hy;exact Wj hy h
theorem oP{C:Ca}{b:Nat}{y:Bf}{ys:Bk}(h:Pm C)(hD:WF C.D)(hy:y∈C.l)(hb:y.b=b)(hl:ys.length=256) :
  ∃ C',Uf C b ys=(C',0)/\C'.D=C.D/\C'.most=C.most/\(∀ z,z.b≠b->(z∈C'.l↔z∈C.l))/\∃ z∈C'.l,z.b=b/\z.pins=y.pins/\z.data=ys:=by
 have hlt:b<C.D.vs.length:=by rw[<- hb];exact h.lt y hy
 have hf:Eo C.l b=some y:=by rw[<- hb];exact DH h.nodup hy
 have ha:KP C b=some { C with l:=Br C.l b++[y] }:=by unfold KP;rw[hf]
 have he:AD C.D (b:Int)=0:=(RK C.D hlt).1;refine⟨{ C with l:=I9 (Br C.l b++[y]) ⟨b,ys,Mf (Br C.l b++[y]) b⟩ },?_,rfl,rfl,fun z hz=>?_,⟨b,ys,Mf (Br C.l b++[y]) b⟩,Wi ⟨y,by simp,hb⟩,rfl,?_,rfl⟩
 ·unfold Uf;rw[if_neg (by rw[he];simp),if_neg (by omega),Lr,ha]
 ·show z∈I9 _ _↔_;rw[dK (by exact hz),Lq,Bm];constructor
  ·rintro(hz1|hz1)
   ·exact hz1.1
   ·simp at hz1;subst hz1;exact hy
  ·intro hz1;exact .inl ⟨hz1,hz⟩
 ·show Mf (Br C.l b++[y]) b=y.pins;have hn:((Br C.l b++[y]).map (·.b)).Nodup:=Qg (Me h.nodup _) fun z hz=>by rw[hb];exact(Bm.1 hz).2
  have:=hY hn (x:=y) (by simp)
  rw[hb]at this;exact this
theorem oY{C:Ca}{b:Nat}{y:Bf}(h:Pm C)(hy:y∈C.l)(hb:y.b=b) :
  ∃ C',oX C b=(C',0)/\C'.D=C.D/\C'.most=C.most/\(∀ z,z.b≠b->(z∈C'.l↔z∈C.l))/\∃ z∈C'.l,z.b=b/\z.pins=y.pins+1/\z.data=y.data:=by
 have hf:Eo C.l b=some y:=by rw[<- hb];exact DH h.nodup hy
 have hh:KY C b=some y:=by unfold KY;rw[if_neg (by omega),Lr,hf]
 refine⟨{ C with l:=I9 C.l { y with pins:=y.pins+1 } },by unfold oX;rw[hh],rfl,rfl,fun z hz=>dK (by show z.b≠y.b;rw[hb];exact hz),{ y with pins:=y.pins+1 },Wi ⟨y,hy,rfl⟩,hb,rfl,rfl⟩
theorem UP.pins{P:Ps}(h:UP P)(hs:Hh P)(hc:Pm P.C):∀ x∈P.C.l,x.pins<=1:=by
 intro x hx;by_cases ho:∃ o∈P.ons,o.b=x.b
 ·obtain⟨o,ho,e⟩:=ho;obtain⟨y,hy,e1,e2,_⟩:=h.pin o ho;have:y=x:=EA hc.nodup hy hx (by omega);rw[<- this,e2];omega
 ·rw[(h.unp x hx fun o ho' e=>ho ⟨o,ho',e⟩).1];omega
theorem bY{P:Ps}{C:Ca}(e:C.D=P.C.D)(b:Nat):(BE (⟨C,P.last,P.ons⟩:Ps) b).ons=(BE P b).ons:=by
 have hc:=jX (V:=P) (C:=C) e b;cases ho:BQ P b with
 | some o =>
  have ho':BQ (⟨C,P.last,P.ons⟩:Ps) b=some o:=ho;unfold BE;rw[ho,ho']
 | none =>
  have ho':BQ (⟨C,P.last,P.ons⟩:Ps) b=none:=ho;unfold BE;rw[ho,ho'];show P.ons++[_]=P.ons++[_];rw[hc]
def Jn(w0:World)(R:Nat->Prop)(w:World)(sp c d mo mm:Nat)(ca:Nat->Nat)(Lo:List (Int×Value))(P1:Ps)(b g:Nat)(x:List Value)(w9:World):Prop :=
 ∃ R9 rl9 C9 oa9 Lm9,EO w0 R9 rl9 w9 sp c d mo mm ca oa9 Lo Lm9 { BE P1 b with C:=C9 }/\(∀ z,R9 z->BJ R w w9 z)/\Ab R w w9/\At w9 w.heap.size 0 [.pointer (some ⟨sp,0,none⟩)]/\¬ R9 w.heap.size /\
  At w9 g 0 (Au (AH P1 b))/\C9.D=P1.C.D/\C9.most=P1.C.most/\(∀ z,z.b≠b->(z∈C9.l↔z∈P1.C.l))/\(∃ y∈C9.l,y.b=b/\y.pins=1/\y.data=AH P1 b)/\x=[.pointer (some ⟨oa9 b,0,none⟩)]
section
variable{w0 w w':World}{R R':Nat->Prop}{rl:Nat->Nat}{sp c d mo mm:Nat}{ca oa:Nat->Nat}{Lo Lm:List (Int×Value)}{P V:Ps}{K:Value->World->Prop}
theorem Af1{w3:World}{b g cc q5:Nat}{kk:List Value->World->Prop}{P1:Ps}{R3:Nat->Prop}{rl3:Nat->Nat}
  (hM:Ab R w w3) (hG:∀ z,R3 z->BJ R w w3 z) (hlo:∀ x,R x->w0.heap.size<=x/\x<w.heap.size) (h3:EO w0 R3 rl3 w3 sp c d mo mm ca oa Lo Lm P1) (hq5:At w3 q5 0 [.pointer (some ⟨sp,0,none⟩)]) (hqn:¬ R3 q5) (hqe:q5=w.heap.size)
  (hat:At w3 g 0 (Au (AH P1 b))) (hl:(AH P1 b).length=256) (hgn:¬ R3 g) (hg0:w0.heap.size<=g) (hgw:w.heap.size<g) (hb:b<P1.C.D.vs.length) (hno:BQ P1 b=none) (hw1:UP P1) (hy:∃ y∈P1.C.l,y.b=b)
  (hk:∀ x w9,Jn w0 R w sp c d mo mm ca Lo P1 b g x w9->kk x w9) :
  ∃ g78:Array Value,Al (Instr.build 171 #[(0,.slice (some ⟨g,0,none⟩) 256 cc)]) (.agg g78)/\∃ q79:Addr,∃ w6:World,Ru (Instr.box 171 (.agg g78)) w3 (.pointer (some q79)) w6/\∃ p80:Option Addr,Ru (Instr.loadAt 89 (.pointer (some ⟨q5,0,none⟩))) w6 (.pointer p80) w6/\∃ q81:Addr,(.pointer p80:Value)=.pointer (some q81)/\∃ m83:Option Nat,Ru (Instr.loadAt 162 (.pointer (some (Addr.add q81 4)))) w6 (.map m83) w6/\∃ w7:World,Eh (Instr.mapUpdate 162 (.map m83) (.int .i64 b) (.pointer (some q79))) w6 w7/\∃ p86:Option Addr,Ru (Instr.loadAt 89 (.pointer (some ⟨q5,0,none⟩))) w7 (.pointer p86) w7/\∃ q87:Addr,(.pointer p86:Value)=.pointer (some q87)/\∃ p89:Option Addr,Ru (Instr.loadAt 160 (.pointer (some (Addr.add q87 0)))) w7 (.pointer p89) w7/\A8 Tryz.prog E3 #[.pointer p89,.int .i64 b] w7 fun r91 w8=>∃ n91:Int,r91=.int .i64 n91/\kk [.pointer (some q79)] w8:=by
 subst hqe;have hz0:rl3 g=0:=by
  by_cases e:rl3 g=0
  ·exact e
  ·exact absurd (h3.reg g e) hgn
 have hq0:rl3 w.heap.size=0:=by
  by_cases e:rl3 w.heap.size=0
  ·exact e
  ·exact absurd (h3.reg _ e) hqn
 have ht:=h3.take hz0 hg0 hat.lt;have hrg:ro rl3 g 5 g=5:=Ce _ _ _;obtain⟨w5,u1,h5,M5⟩:=ht.newOn (cc:=cc) hno hb hl hrg hat;have m4:Ab No w3 (w3.alloc (.cells ⟨[.slice (some ⟨g,0,none⟩) 256 cc,.slice none 0 0]⟩ 171)):=(Ab.refl No w3).alloc _;have h4:=ht.nos m4;refine⟨_,fun w=>rM w _ _ _,_,_,Ac7 _ _,_,(hq5.keep m4 id).load (i:=0) (by kernel_rfl) rfl,_,rfl,_,h4.lm,w5,u1,?_⟩;have hqmm:w.heap.size≠mm:=fun e=>by have:=h3.rmm;rw[<- e,hq0]at this;omega
 have hq5':=hq5.keep M5 hqmm;refine⟨_,hq5'.load (i:=0) (by kernel_rfl) rfl,_,rfl,_,h5.lc,?_⟩;obtain⟨y,hyl,hyb⟩:=hy;have hc1:=h3.cx.wf.1;obtain⟨eC,eL⟩:=Qb (V:=P1) (b:=b);obtain⟨C9,p1,p2,p3,p4,z,z1,z2,z3,z4⟩:=oY hc1 hyl hyb;have hpins:∀ x∈P1.C.l,x.pins<=1:=hw1.pins h3.wf hc1;refine AdB (n:=(b:Int)) h5.cx (by rw[eC];exact fun x hx=>Up (hpins x hx) (by omega)) fun w6 m6 x6=>⟨_,rfl,?_⟩
 have x6:Cx w0 (BJ (fun x=>ro (ro rl3 g 5) w3.heap.size (8+3*b) x=1) w5 w6) w6 c d (oX P1.C b).1:=by rw[<- eC];exact x6
 rw[p1]at x6;obtain⟨rl6,h6,hr6⟩:=h5.cache m6 (Ab.refl _ _) x6 (by show C9.D.vs.length=_;rw[p2,eC]) (by show C9.most=_;rw[p3,eC]);have hs3:=hM.size;have hs5:=M5.size;have hs6:=m6.size;have hgl:=hat.lt;have hq3:=hq5.lt;have hsz4:w3.heap.size<w5.heap.size:=(h5.lo _ (h5.reg w3.heap.size (by rw[Ce];omega))).2;refine hk _ _ ⟨_,rl6,C9,_,_,h6,fun x hx=>?_,?_,?_,fun hx=>?_,?_,by rw[p2],by rw[p3],p4,⟨z,z1,z2,?_,?_⟩,?_⟩
 ·rcases hx with ((hx|hx)|hx)|hx
  ·rcases hG x hx with hx|hx
   ·exact .inl hx
   ·exact .inr (by omega)
  ·exact .inr (by omega)
  ·exact .inr (by omega)
  ·exact .inr (by omega)
 ·have k1:Ab R w w5:=hM.trans M5 fun z hz e=>by
   have:R3 z:=by rw[show z=mm from e];exact h3.reg mm (by rw[h3.rmm];omega)
   rcases hG z this with e2|e2
   ·exact e2
   ·omega
  refine k1.trans m6 fun z hz e=>?_;have e:ro (ro rl3 g 5) w3.heap.size (8+3*b) z=1:=e;rw[Cd _ (by omega),Cd _ (by omega)]at e;rcases hG z (h3.reg z (by omega))with e2 | e2
  ·exact e2
  ·omega
 ·refine hq5'.keep m6 fun e=>?_;have e:ro (ro rl3 g 5) w3.heap.size (8+3*b) w.heap.size=1:=e;rw[Cd _ (by omega),Cd _ (by omega)]at e;omega
 ·rcases hx with ((hx|hx)|hx)|hx
  ·exact hqn hx
  ·omega
  ·omega
  ·omega
 ·refine(hat.keep M5 fun e=>by have:=h3.rmm;rw[<- show g=mm from e,hz0]at this;omega).keep m6 fun e=>?_;have e:ro (ro rl3 g 5) w3.heap.size (8+3*b) g=1:=e;rw[Cd _ (by omega),Ce]at e;omega
 ·have:y.pins=0:=by
   refine(hw1.unp y hyl fun o ho e=>?_).1;exact Gj hno o ho (by omega)
  rw[z3,this]
 ·rw[z4]
  have:=NX hw1 h3.wf hc1 b
  rw[<- this];unfold QV;have hf:=DH hc1.nodup hyl;rw[hyb]at hf;rw[hf]
 ·simp
end
end Go.Z
open Go Go.Den Go.Proofs
namespace Go.Z
section
variable{w0 w w':World}{R R':Nat->Prop}{rl:Nat->Nat}{sp c d mo mm:Nat}{ca oa:Nat->Nat}{Lo Lm:List (Int×Value)}{P V:Ps}{K:Value->World->Prop}
theorem aT{l:List Int}{f:Int->Bool}{i:Nat}(hi:i<l.length):(l.take (i+1)).filter f=(l.take i).filter f++(if f l[i]=true then [l[i]]else []):=by
 rw[Ll hi,jG]
 congr 1
 by_cases hf:f l[i]=true
 ·rw[if_pos hf];simp[hf]
 ·rw[if_neg hf];simp[hf]
set_option maxRecDepth 100000 in
theorem uP{n frm:Int}{a3 a4:Option Addr}{l3 c3 l4 c4:Nat}{data:Bk}{after:List Int}(hP:Px w0 R w sp d P)(hlast:P.last+1<=1000000)(hd:data.length=l3)(hrd:Bl w a3 (Au data))(hdo:data≠[]->∀ q,a3=some q->¬ R q.block)(h63:l3<=9223372036854775807)
  (ha:after.length=l4) (ha6:l4<=1000000) (hra:Bl w a4 (iL after)) (hao:after≠[]->∀ q,a4=some q->¬ R q.block)
  (hk:∀ w' C',Ab R w w'->Px w0 (BJ R w w') w' sp d ⟨C',(Er P n frm data after).last,(Er P n frm data after).ons⟩->C'.D=P.C.D->C'.most=P.C.most->K (.tuple #[.int .i64 (SP P n frm data after),.int .i64 (Jv P n frm data after)]) w') :
  A8 Tryz.prog CG #[.pointer (some ⟨sp,0,none⟩),.int .i64 n,.int .i64 frm,.slice a3 l3 c3,.slice a4 l4 c4] w K:=by
 have hP0:=hP;obtain⟨hw,rl,c,mo,mm,ca,oa,Lo,Lm,h⟩:=hP;apply OJ;unfold Ir;have m1:Ab No w (w.alloc (.cells ⟨[.pointer (some ⟨sp,0,none⟩)]⟩ 89)):=(Ab.refl No w).alloc _;have a1:At (w.alloc (.cells ⟨[.pointer (some ⟨sp,0,none⟩)]⟩ 89)) w.heap.size 0 [.pointer (some ⟨sp,0,none⟩)]:=A1.new.at;have s1:(w.alloc (.cells ⟨[.pointer (some ⟨sp,0,none⟩)]⟩ 89)).heap.size=w.heap.size+1:=by simp
 refine⟨_,_,WW _ _,?_⟩;generalize w.alloc (.cells ⟨[.pointer (some ⟨sp,0,none⟩)]⟩ 89)=w1 at *;have h1:=h.nos m1;have hlo:=hP0.lo;have hw0:=h.mod.size
 -- an error: nothing Xx changed
 have bad:∀ w2 e,Ab No w w2->Jv P n frm data after=e->e≠0->K (.tuple #[.int .i64 0,.int .i64 e]) w2:=fun w2 e m he hne=>by
  have hS:Er P n frm data after=P:=by unfold Er;rw[if_neg (by rw[he];exact hne)]
  have hN:SP P n frm data after=0:=by unfold SP;rw[if_neg (by rw[he];exact hne)]
  have:=hk w2 P.C m.anys (by rw[hS];exact hP0.gro m) rfl rfl
  rw[hN,he]at this;exact this
 refine⟨_,a1.load (i:=0) (by kernel_rfl) rfl,ff rfl (Ac.cut (fun x w2=>w1=w2/\x=[.bool (decide (AD P.C.D n≠0))]) (Aa (fun hb=>?_) (fun hb=>?_)) ?_)⟩
 ·have hb:=Lc hb;have:AD P.C.D n≠0:=by unfold AD;rw[if_pos (by omega)];omega
  rw[Le this];exact⟨rfl,rfl⟩
 ·have hb:=Lb hb;refine⟨_,a1.load (i:=0) (by kernel_rfl) rfl,_,rfl,_,h1.llen',rfl,?_⟩
  congr 2
  unfold AD;by_cases hn:(P.C.D.vs.length:Int)<=n
  ·rw[if_pos (.inr hn),Le hn];rfl
  ·rw[if_neg (by omega),Lf hn];rfl
 rintro x w2 ⟨rfl,rfl⟩;refine⟨_,rfl,?_⟩;by_cases he:AD P.C.D n≠0
 ·exact tt (Le he) (bad w1 3 m1 (by unfold Jv;rw[if_pos he]) (by omega))
 refine ff (Lf he) ?_;have he0:AD P.C.D n=0:=Tw.1 he;refine Ac.cut (fun x w2=>w1=w2/\x=[.bool (decide (data.length=0\/frm<0\/256<frm\/256-frm<data.length))]) (Aa (fun hb=>⟨rfl,?_⟩) (fun hb=>Aa (fun hb2=>⟨rfl,?_⟩) (fun hb2=>Aa (fun hb3=>⟨rfl,?_⟩) (fun hb3=>⟨rfl,?_⟩)))) ?_
 ·have:(l3:Int)=0:=by simpa using hb
  rw[Le (.inl (by omega))]
 ·have:=Lc hb2
  rw[Le (.inr (.inl this))]
 ·have:=Lc hb3
  rw[Le (.inr (.inr (.inl (by omega))))]
 ·have hb:¬ (l3:Int)=0:=by simpa using hb
  have hb2:=Lb hb2;have hb3:=Lb hb3;rw[Ag (x:=256-frm) (by omega) (by omega)]
  congr 2
  rw[Lu];simp only[Lw];omega
 rintro x w2 ⟨rfl,rfl⟩;refine⟨_,rfl,?_⟩;by_cases hsz:data.length=0\/frm<0\/256<frm\/256-frm<data.length
 ·exact tt (Le hsz) (bad w1 4 m1 (by unfold Jv;rw[if_neg he,if_pos hsz]) (by omega))
 refine ff (Lf hsz) ?_;refine Q9 (S:=No) ha (by omega) (hra.nos m1) (dI h1 a1) fun w2 m2=>⟨_,rfl,?_⟩;have M2:=m1.no m2;by_cases hbad:yN P after=true
 ·exact tt hbad (bad w2 1 M2 (by unfold Jv;rw[if_neg he,if_neg hsz,if_pos hbad]) (by omega))
 refine ff (by simpa [yN] using hbad) ?_;have hE:Jv P n frm data after=0:=by unfold Jv;rw[if_neg he,if_neg hsz,if_neg hbad]
 obtain⟨b,rfl,hblt⟩:=KS he0;obtain⟨f,rfl⟩:∃ f:Nat,frm=f:=⟨frm.toNat,by omega⟩;have h2:=h.nos M2;have a2:=a1.keep m2 id;have hcw:=h2.cx.wf
 -- what is read
 obtain⟨C1,hask⟩:=UV hcw.1 h2.wf.full hblt;obtain⟨l0,y,A⟩:=NQ hcw.1 hcw.2.1 hblt hask;have hr0:Zc P.C b=(C1,0,Fe C1.l):=by unfold Zc;rw[if_neg (by rw[he0];simp),Lr,hask]
 have hyl:y∈C1.l:=by rw[A.l];simp
 have hly:Fe C1.l=y.data:=by unfold Fe;rw[A.l];simp
 have hw1:UP ⟨C1,P.last,P.ons⟩:=hw.ask h2.wf hcw.1 A;have hs1:Hh ⟨C1,P.last,P.ons⟩:=Hh.cache h.wf (by rw[A.D]) A.most;have hlen:(Fe C1.l).length=256:=by rw[hly];exact A.wf.data y hyl
 have hold:Fe C1.l=AH ⟨C1,P.last,P.ons⟩ b:=by
  rw[<- NX hw1 hs1 A.wf b];unfold QV
  have:=DH A.wf.nodup hyl
  rw[A.yb]at this;show _=(match Eo C1.l b with | some x=>x.data | none=>DC C1.D b);rw[this,hly]
 refine⟨_,a2.load (i:=0) (by kernel_rfl) rfl,_,rfl,_,h2.lc,jS h2.cx fun w3a w3 ag cg m3a m3 x3 o3=>⟨_,_,_,_,rfl,?_⟩⟩;simp only[hr0,hlen]at x3 o3 |-;obtain⟨rl3,h3,hr3⟩:=h2.cache m3a m3 x3 (by rw[A.D]) A.most;obtain⟨g,rfl,hg,hat⟩:=o3.sm (by omega);rw[hold]at hat;have hz2:=M2.size;have hz3a:=m3a.size;have hz3:=m3.size;have hzm2:=m2.size;have hq1:=a1.lt;have hR1:∀ z,rl z=1->R z:=fun z hz=>h.reg z (by omega)
 have M3:Ab R w w3:=(M2.anys.trans m3a fun z _ e=>hR1 z e).no m3;have hrq:∀ z,rl z≠0->z<w.heap.size:=fun z hz=>(hlo z (h.reg z hz)).2;have a3':At w3 w.heap.size 0 [.pointer (some ⟨sp,0,none⟩)]:=(a2.keep m3a fun e=>by have:=hrq w.heap.size (by have e:rl w.heap.size=1:=e;omega);omega).keep m3 id;have hlk:=h3.lookM (b:Int);refine ff rfl ⟨_,a3'.load (i:=0) (by kernel_rfl) rfl,_,rfl,_,h3.lm,_,hlk,?_⟩
 have hG3:∀ z,BJ R w2 w3a z->BJ R w w3 z:=fun z hz=>by
  rcases hz with hz|hz
  ·exact .inl hz
  ·exact .inr (by omega)
 have hqn:¬ BJ R w2 w3a w.heap.size:=by
  rintro(e|e)
  ·have:=(hlo _ e).2;omega
  ·omega
 have hgn:¬ BJ R w2 w3a g:=by
  rintro(e|e)
  ·have:=(hlo _ e).2;omega
  ·omega
 have hcl:(AH ⟨C1,P.last,P.ons⟩ b).length=256:=by rw[<- hold];exact hlen
 have hblt1:b<C1.D.vs.length:=by rw[A.D];exact hblt
 refine Ac.cut (Jn w0 R w sp c d mo mm ca Lo ⟨C1,P.last,P.ons⟩ b g) ?_ ?_
 ·cases ho:BQ P b with
  | none =>
   have ho':BQ { P with C:=C1 } b=none:=ho;rw[ho'];exact tt rfl (Af1 (P1:=⟨C1,P.last,P.ons⟩) M3 hG3 hlo h3 a3' hqn rfl hat.at hcl hgn (by omega) (by omega) hblt1 ho hw1 ⟨y,hyl,A.yb⟩ fun _ _ hj=>hj)
  | some o =>
   have ho':BQ { P with C:=C1 } b=some o:=ho;rw[ho'];obtain⟨hom,hob⟩:=CB ho;have hob:o.b=b:=by omega
   refine ff rfl ?_;have hnO:BE ⟨C1,P.last,P.ons⟩ b=⟨C1,P.last,P.ons⟩:=by unfold BE;rw[show BQ (⟨C1,P.last,P.ons⟩:Ps) b=some o from ho]
   obtain⟨y1,k1,k2,k3,k4⟩:=hw1.pin o hom;refine⟨_,rl3,C1,oa,Lm,by rw[hnO];exact h3,hG3,M3,a3',hqn,hat.at,rfl,rfl,fun _ _=>Iff.rfl,⟨y1,k1,by omega,k3,?_⟩,?_⟩
   ·have hcv:AH ⟨C1,P.last,P.ons⟩ b=AW o.base o.l:=by unfold AH;rw[show BQ (⟨C1,P.last,P.ons⟩:Ps) b=some o from ho]
    rw[hcv];exact k4
   ·rw[<- hob];rfl
 rintro x w9 ⟨R9,rl9,C9,oa9,Lm9,h9,hG9,M9,a9,hqn9,hat9,eD9,eM9,ht9,⟨y9,hy9,hy9b,hy9p,hy9d⟩,rfl⟩;clear hlk;have hz9:=M9.size;have hq9:=a9.lt
 -- the rows of the call
 have hrow:∀{wz:World}{a:Option Addr}{xs:List Value},Bl w a xs->(xs≠[]->∀ q,a=some q->¬ R q.block)->Ab R w wz->Bl wz a xs:=fun {wz a xs} hr ho hm=>by
  by_cases hx:xs=[]
  ·exact .inl hx
  ·exact Bl.keep2 hr hm fun q hq _=>ho hx q hq
 have hdo:Au data≠[]->∀ q,a3=some q->¬ R q.block:=fun hne=>hdo fun e=>hne (by rw[e];rfl);have hao:iL after≠[]->∀ q,a4=some q->¬ R q.block:=fun hne=>hao fun e=>hne (by rw[e];rfl);have hd1:1<=data.length:=by omega
 have hfit:f+data.length<=256:=by omega
 refine qP (b:=AH ⟨C1,P.last,P.ons⟩ b) (ys:=data) hcl hd (by omega) (by omega) (by omega) (.inr ⟨_,_,rfl,hat9⟩) (hrow hrd hdo M9) fun w10 m10 at10=>⟨_,_,_,_,rfl,?_⟩;have h10:=h9.nos m10;have a10:=a9.keep m10 id;refine⟨_,a10.load (i:=0) (by kernel_rfl) rfl,_,rfl,_,h10.lc,?_⟩;obtain⟨C11,e11,eD11,eM11,ht11,y11,hy11,hy11b,hy11p,hy11d⟩:=oP (ys:=B2 (AH ⟨C1,P.last,P.ons⟩ b) f data) h10.cx.wf.1 h10.cx.wf.2.1 hy9 hy9b (by rw[Gk (by omega)];exact hcl)
 have hz10:=m10.size;have hw9:rl9 w9.heap.size=0:=h9.out_of (Ld _);refine Ac9 (n:=(b:Int)) (ys:=B2 (AH ⟨C1,P.last,P.ons⟩ b) f data) h10.cx (by rw[Gk (by omega)];exact hcl) (.inr ⟨_,_,rfl,at10.at⟩) (fun _ q hq e=>by cases hq;have e:rl9 w9.heap.size=1:=e;omega) fun w11 m11 x11=>⟨_,rfl,?_⟩;have x11:Cx w0 (BJ (fun z=>rl9 z=1) w10 w11) w11 c d (Uf C9 b (B2 (AH ⟨C1,P.last,P.ons⟩ b) f data)).1:=x11
 rw[e11]at x11;obtain⟨rl11,h11,hr11⟩:=h10.cache m11 (Ab.refl _ _) x11 (by show C11.D.vs.length=C9.D.vs.length;rw[eD11]) (by show C11.most=C9.most;exact eM11);have hz11:=m11.size;have a11:At w11 w.heap.size 0 [.pointer (some ⟨sp,0,none⟩)]:=a10.keep m11 fun e=>hqn9 (h9.reg _ (by have e:rl9 w.heap.size=1:=e;omega));have hqn11:¬ BJ R9 w10 w11 w.heap.size:=by
  rintro(e|e)
  ·exact hqn9 e
  ·omega
 have M11:Ab R w w11:=(M9.no m10).trans m11 fun z hz e=>by
  have e:rl9 z=1:=e;rcases hG9 z (h9.reg z (by omega))with e2 | e2
  ·exact e2
  ·omega
 have hG11:∀ z,BJ R9 w10 w11 z->BJ R w w11 z:=fun z hz=>by
  rcases hz with hz|hz
  ·rcases hG9 z hz with e|e
   ·exact .inl e
   ·exact .inr (by omega)
  ·exact .inr (by omega)
 -- the number
 have eL:(BE ⟨C1,P.last,P.ons⟩ b).last=P.last:=Qb.2;obtain⟨w12,u12,h12,m12⟩:=h11.bump (by show(BE ⟨C1,P.last,P.ons⟩ b).last+1<=1000000;rw[eL];exact hlast);have hll:=h11.llast;have hz12:=m12.size;have eW:(IntKind.i64.wrap (((BE ⟨C1,P.last,P.ons⟩ b).last:Nat)+1:Int))=(((BE ⟨C1,P.last,P.ons⟩ b).last+1:Nat):Int):=by
  rw[eL,Ag (by omega) (by omega)];omega
 refine⟨_,a11.load (i:=0) (by kernel_rfl) rfl,_,rfl,_,hll,_,rfl,w12,?_,?_⟩
 ·show Eh (Instr.storeAt _ _ (.int .i64 (IntKind.i64.wrap (((BE ⟨C1,P.last,P.ons⟩ b).last:Nat)+1:Int)))) w11 w12;rw[eW];exact u12
 -- the change
 have m12d:Ab No w12 (Go.Den.Ah w12):=(Ab.refl No w12).drew;have sz12d:(Go.Den.Ah w12).heap.size=w12.heap.size:=rfl;have hsp:rl11 sp=2:=h11.rsp;have hrl11q:rl11 w.heap.size=0:=by
  by_cases e:rl11 w.heap.size=0
  ·exact e
  ·exact absurd (h11.reg _ e) hqn11
 have a12:At (Go.Den.Ah w12) w.heap.size 0 [.pointer (some ⟨sp,0,none⟩)]:=(a11.keep m12 fun e=>by have e:w.heap.size=sp:=e;rw[e]at hrl11q;omega).keep m12d id
 have M12:Ab R w (Go.Den.Ah w12):=(M11.trans m12 fun z hz e=>by
  have e:z=sp:=e;rcases hG11 z (h11.reg z (by rw[e,hsp];omega))with e2 | e2
  ·exact e2
  ·omega).no m12d
 obtain⟨Q,hQ⟩:∃ Q:Ps,Q={ ({ ({ BE ⟨C1,P.last,P.ons⟩ b with C:=C9 }:Ps)with C:=C11 }:Ps)with last:=(BE ⟨C1,P.last,P.ons⟩ b).last+1 }:=⟨_,rfl⟩;have h12':EO w0 (BJ (BJ R9 w10 w11) w11 w12) rl11 w12 sp c d mo mm ca oa9 Lo Lm9 Q:=by rw[hQ];exact h12
 have hQo:Q.ons=(BE ⟨C1,P.last,P.ons⟩ b).ons:=by rw[hQ]
 have hQl:Q.last=P.last+1:=by rw[hQ];show(BE ⟨C1,P.last,P.ons⟩ b).last+1=_;rw[eL]
 have hQC:Q.C=C11:=by rw[hQ]
 have hop:Q.opn=P.opn:=by
  have:=cH (V:=⟨C1,P.last,P.ons⟩) (b:=b)
  have e:Q.opn=(BE ⟨C1,P.last,P.ons⟩ b).opn:=by unfold Ps.opn Ps.all;rw[hQo]
  rw[e,this];rfl
 have h12d:=h12'.nos m12d;clear h12 h12' hQ;have hll2:=h12d.llast;rw[hQl]at hll2;refine⟨_,a12.load (i:=0) (by kernel_rfl) rfl,_,rfl,_,hll2,?_⟩;generalize Go.Den.Ah w12=w12d at *;have hrd12:=hrow hrd hdo M12;have ha3:a3≠none:=fun e=>by
  rcases hrd with hr|⟨_,_,e2,_⟩
  ·have:=Pi List.length hr
   rw[Ak]at this;have e0:([]:List Value).length=0:=rfl;omega
  ·rw[e]at e2;cases e2
 refine Q8 hrd12 hd (fun e=>absurd e ha3) (by omega) fun w13 a13 c13 o13 m13=>?_;have h13:=h12d.nos m13;have hll3:=h13.llast;rw[hQl]at hll3;have a13':=a12.keep m13 id;obtain⟨gd,rfl,hgd,hgat⟩:=o13.sm (by omega);have hgdl:=hgat.lt;refine⟨_,_,_,rfl,a13'.load (i:=0) (by kernel_rfl) rfl,hll3,_,fun w=>rL w _ _ _ _ _ _,_,_,Ac6 _ _,?_⟩;have m14:Ab No w13 (w13.alloc (.cells ⟨[.int .i64 ((P.last+1:Nat):Int),.int .i64 b,.int .i64 f,.slice (some ⟨gd,0,none⟩) l3 c13,.slice none 0 0,.bool false]⟩ 174)):=(Ab.refl No w13).alloc _
 have q14:A1 (w13.alloc (.cells ⟨[.int .i64 ((P.last+1:Nat):Int),.int .i64 b,.int .i64 f,.slice (some ⟨gd,0,none⟩) l3 c13,.slice none 0 0,.bool false]⟩ 174)) w13.heap.size 0 [.int .i64 ((P.last+1:Nat):Int),.int .i64 b,.int .i64 f,.slice (some ⟨gd,0,none⟩) l3 c13,.slice none 0 0,.bool false]:=A1.new;have s14:(w13.alloc (.cells ⟨[.int .i64 ((P.last+1:Nat):Int),.int .i64 b,.int .i64 f,.slice (some ⟨gd,0,none⟩) l3 c13,.slice none 0 0,.bool false]⟩ 174)).heap.size=w13.heap.size+1:=by simp
 generalize w13.alloc (.cells ⟨[.int .i64 ((P.last+1:Nat):Int),.int .i64 b,.int .i64 f,.slice (some ⟨gd,0,none⟩) l3 c13,.slice none 0 0,.bool false]⟩ 174)=w14 at *;have hz13:=m13.size
 refine⟨fun x w15=>∃(i k ac:Nat)(aa:Option Addr),i<=l4/\x=[.int .i64 i]/\k=((after.take i).filter P.opn).length/\A1 w15 w13.heap.size 0 [.int .i64 ((P.last+1:Nat):Int),.int .i64 b,.int .i64 f,.slice (some ⟨gd,0,none⟩) l3 c13,.slice aa k ac,.bool false] /\
   Ow Tryz.prog w15 w14.heap.size 159 1 aa k ac (iL ((after.take i).filter P.opn))/\Ab No w13 w15/\w14.heap.size<=w15.heap.size,
  fun x _=>(l4-nI x 0).toNat,⟨0,0,0,none,by omega,rfl,rfl,q14,Ow.nil aR,m14,Ld _⟩,?_⟩
 rintro x w15 ⟨i,k,ac,aa,hi,rfl,hkl,q15,o15,m15,sz15⟩;have hfl:((after.take i).filter P.opn).length<=i:=by
  have:=Lg2 P.opn (after.take i)
  simp at this;omega
 refine⟨_,rfl,Aa (fun hb=>?_) (fun hb=>?_)⟩
 ·have hi:i<l4:=by have:=Lc hb;omega
  have hix:i<after.length:=by omega
  have hra15:=hrow hra hao ((M12.no m13).no m15);obtain⟨b4,o4,rfl,hat4⟩:=LB hra15 hix;refine⟨_,Ar (k:=1) (by kernel_rfl) (by omega) (by omega),?_⟩;rw[Ad,show(i:Int).toNat*1=i by omega];refine⟨_,hat4.load (by kernel_rfl) (Ma hix),_,(a13'.keep m15 id).load (i:=0) (by kernel_rfl) rfl,_,rfl,_,(h13.nos m15).lo',?_⟩;obtain⟨p,hp,hpn,_⟩:=(h13.nos m15).lookO after[i];rw[hop]at hpn
  have hsplit:=aT (l:=after) (f:=P.opn) hix
  refine⟨p,hp,Ac.cut (fun _ w19=>∃(k ac:Nat)(aa:Option Addr),k=((after.take (i+1)).filter P.opn).length/\A1 w19 w13.heap.size 0 [.int .i64 ((P.last+1:Nat):Int),.int .i64 b,.int .i64 f,.slice (some ⟨gd,0,none⟩) l3 c13,.slice aa k ac,.bool false] /\
   Ow Tryz.prog w19 w14.heap.size 159 1 aa k ac (iL ((after.take (i+1)).filter P.opn))/\Ab No w13 w19/\w14.heap.size<=w19.heap.size) (Aa (fun hb=>?_) (fun hb=>?_)) ?_⟩
  ·have hopn:P.opn after[i]=true:=by
    have:p.isNone=false:=by simpa using hb
    rw[hpn]at this;simpa using this
   rw[if_pos hopn]at hsplit;have mA:Ab No w15 (w15.alloc (.cells ⟨[.int .i64 after[i]]⟩ 2)):=(Ab.refl No w15).alloc _;have aA:At (w15.alloc (.cells ⟨[.int .i64 after[i]]⟩ 2)) w15.heap.size 0 [.int .i64 after[i]]:=A1.new.at;have sA:(w15.alloc (.cells ⟨[.int .i64 after[i]]⟩ 2)).heap.size=w15.heap.size+1:=by simp
   refine⟨_,rfl,aa,k,ac,?_,_,_,_,_,rN _ _,?_⟩
   ·rw[Ad];exact q15.at.load (by kernel_rfl) rfl
   generalize w15.alloc (.cells ⟨[.int .i64 after[i]]⟩ 2)=w16 at *;obtain⟨q',c',w17,t1,t2,t3,t4⟩:=(o15.nos mA).app (ty:=159) (m:=1) (c2:=1) (ad:=⟨w15.heap.size,0,none⟩) (ys:=[.int .i64 after[i]]) aR (by omega) (.inr ⟨_,_,rfl,aA⟩) rfl (by omega) (by simp;rfl) (by omega) (by omega) (by omega);have t3':Ab (Of aa) w16 w17:=t3;have hnq:¬ Of aa w13.heap.size:=fun⟨q,hq,e⟩=>by have:=(o15.base hq).1;omega
   have q17:=(q15.keep mA id).keep t3' hnq;obtain⟨w18,u1,u2,u3,u4⟩:=q17.store (P:=Tryz.prog) (T:=159) (i:=4) (v:=.slice (some q') (k+1) c') (by kernel_rfl) (by simp) rfl;refine⟨_,_,_,w17,t1,_,rfl,w18,by rw[Ad];exact u1,k+1,c',some q',?_,?_,?_,?_,?_⟩
   ·rw[hsplit,Ls,<- hkl];rfl
   ·simpa using u2
   ·have e:iL ((after.take i).filter P.opn)++[.int .i64 after[i]]=iL ((after.take (i+1)).filter P.opn):=by rw[hsplit];simp[iL,I]
    rw[<- e];refine t2.keep u3 fun q hq e=>?_
    have:=(t2.base hq).1
    have e:q.block=w13.heap.size:=e;omega
   ·refine((m15.no mA).trans t3' fun z hz ⟨q,hq,e⟩=>?_).trans u3 fun z hz e=>?_
    ·have:=(o15.base hq).1
     omega
    ·have e:z=w13.heap.size:=e;omega
   ·have:=t3'.size
    have:=u3.size
    omega
  ·have hopn:P.opn after[i]=false:=by
    have:p.isNone=true:=by simpa using hb
    rw[hpn]at this;simpa using this
   rw[if_neg (by rw[hopn];simp),fH]at hsplit;rw[hsplit];exact⟨k,ac,aa,hkl,q15,o15,m15,sz15⟩
  ·rintro z w19 ⟨k,ac,aa,e1,e2,e3,e4,e5⟩;rw[Ag (x:=(i:Int)+1) (by omega) (by omega)];exact⟨⟨i+1,k,ac,aa,by omega,rfl,e1,e2,e3,e4,e5⟩,by simp[nI,Ap];omega⟩
 ·have hil:i=after.length:=by have:=Lb hb;omega
  subst hil;rw[xG]at hkl o15;have md:Ab No w15 (Go.Den.Ah w15):=(Ab.refl No w15).drew;have szd:(Go.Den.Ah w15).heap.size=w15.heap.size:=rfl;have m15d:=m15.no md;have q15d:=q15.keep md id;have o15d:=o15.nos md;generalize Go.Den.Ah w15=w15d at *;have h15:=h13.nos m15d;refine⟨_,(a13'.keep m15d id).load (i:=0) (by kernel_rfl) rfl,_,rfl,_,h15.lo',_,rfl,_,by rw[Ad];exact q15d.at.load (by kernel_rfl) rfl,?_⟩
  obtain⟨w20,u1,u2,u3,u4⟩:=Hw (P:=Tryz.prog) (T:=161) (k:=((P.last+1:Nat):Int)) (v:=.pointer (some ⟨w13.heap.size,0,none⟩)) YQ h15.mapO;obtain⟨o,ho,hob⟩:=YS (V:=⟨C1,P.last,P.ons⟩) (b:=b);rw[<- hQo]at ho;obtain⟨k1,k2,g9,cc9,la,lc,c1,c2,c3,c4,c5⟩:=h15.ons o ho;rw[hob]at k1 k2 c1 c5;have hrmo:rl11 mo=3:=h15.rmo;have hnmo:∀{z},rl11 z≠3->z≠mo:=fun hz e=>hz (by rw[e];exact hrmo)
  have hout:∀{z},w12d.heap.size<=z->rl11 z=0:=fun hz=>h12d.out_of hz;have d1:=c1.keep u3 (hnmo (by rw[k2];omega));refine⟨w20,u1,_,rfl,_,rfl,la,_,lc,by rw[Ad];exact d1.at.load (by kernel_rfl) rfl,_,_,_,_,yV _ _,?_⟩;have m21:Ab No w20 (w20.alloc (.cells ⟨[.pointer (some ⟨w13.heap.size,0,none⟩)]⟩ 172)):=(Ab.refl No w20).alloc _;have a21:At (w20.alloc (.cells ⟨[.pointer (some ⟨w13.heap.size,0,none⟩)]⟩ 172)) w20.heap.size 0 [.pointer (some ⟨w13.heap.size,0,none⟩)]:=A1.new.at
  have s21:(w20.alloc (.cells ⟨[.pointer (some ⟨w13.heap.size,0,none⟩)]⟩ 172)).heap.size=w20.heap.size+1:=by simp
  generalize w20.alloc (.cells ⟨[.pointer (some ⟨w13.heap.size,0,none⟩)]⟩ 172)=w21 at *;have hlaS:∀{z},rl11 z≠9+3*b->¬ Of la z:=fun hz ⟨q,hq,e⟩=>hz (by rw[e];exact c5 q hq);have hlen2:=h15.wf.llen o ho;have hlast2:=h15.wf.last;have hw023:=h15.mod.size;obtain⟨q',c',w22,t1,t2,t3,t4⟩:=((c4.keep u3 fun q hq=>hnmo (by rw[c5 q hq];omega)).nos m21).app (ty:=169) (m:=1) (c2:=1) (ad:=⟨w20.heap.size,0,none⟩) (ys:=[.pointer (some ⟨w13.heap.size,0,none⟩)]) S6 (by omega) (.inr ⟨_,_,rfl,a21⟩) rfl (by omega) (by simp;rfl) (by omega) (by omega) (by omega)
  have t3':Ab (Of la) w21 w22:=t3;have d2:=(d1.keep m21 id).keep t3' (hlaS (by rw[k2];omega));obtain⟨w23,v1,v2,v3,v4⟩:=d2.store (P:=Tryz.prog) (T:=169) (i:=1) (v:=.slice (some q') (o.l.length+1) c') (by kernel_rfl) (by simp) rfl;have hrq:rl11 w13.heap.size=0:=hout (by omega);have hnoa:∀{z},rl11 z≠8+3*b->z≠oa9 b:=fun hz e=>hz (by rw[e];exact k2);have q23:=(((q15d.keep u3 (hnmo (by omega))).keep m21 id).keep t3' (hlaS (by omega))).keep v3 (hnoa (by omega))
  refine⟨_,_,_,w22,t1,_,rfl,w23,by rw[Ad];exact v1,_,rfl,_,by rw[Ad];exact q23.at.load (by kernel_rfl) rfl,?_⟩
  -- what it is now
  have hx:GP P b f data after=⟨P.last+1,b,f,data,after.filter P.opn,false⟩:=rfl;have hfl2:(after.filter P.opn).length<=after.length:=Lg2 _ _;have hng:∀ k∈after,1<=k/\k<=(P.last:Int):=fun k hk'=>by
   have:=Lg3.1 (by simpa [yN] using hbad:(after.any fun k=>!decide (1<=k/\k<=(P.last:Int)))=false) k hk'
   simpa using this
  have hF1:Fit (⟨C1,P.last,P.ons⟩:Ps) (GP P b f data after):=⟨rfl,hblt1,⟨hd1,hfit⟩,by show(after.filter P.opn).length<=_;omega,fun k hk'=>by
   have:=hng k (QM.1 hk').1
   show k<((P.last+1:Nat):Int)
   omega,rfl⟩
  have hsN:=hs1.newO hblt1 hcl;have eD11':C11.D=C1.D:=by rw[eD11];exact eD9
  have eM11':C11.most=C1.most:=by rw[eM11];exact eM9
  have eN:=Qb (V:=⟨C1,P.last,P.ons⟩) (b:=b);have hsQ:Hh (⟨C11,(BE ⟨C1,P.last,P.ons⟩ b).last,(BE ⟨C1,P.last,P.ons⟩ b).ons⟩:Ps):=Hh.cache hsN (by rw[eD11',eN.1]) (by rw[eM11',eN.1]);have eQ:HH Q (GP P b f data after)=HH (⟨C11,(BE ⟨C1,P.last,P.ons⟩ b).last,(BE ⟨C1,P.last,P.ons⟩ b).ons⟩:Ps) (GP P b f data after):=by
   unfold HH;rw[hQo,hQC]
  have hwfA:Hh (HH Q (GP P b f data after)):=by
   rw[eQ];exact hsQ.app (by rw[<- hQo];exact ho) hob ⟨by show P.last+1=_;rw[eL],by show b<C11.D.vs.length;rw[eD11'];exact hblt1,hF1.dat,hF1.aft,hF1.afl,rfl⟩ hlast
  have hM23:Ab (fun z=>z=mo\/z=oa9 b\/rl11 z=9+3*b) w12d w23:=by
   have k0:Ab No w12d w15d:=m13.no m15d;refine(((k0.anys.trans u3 fun z _ e=>.inl e).no m21).trans t3' fun z _ e=>?_).trans v3 fun z _ e=>.inr (.inl e);obtain⟨q,hq,e⟩:=e;exact .inr (.inr (by rw[e];exact c5 q hq))
  have hz15:=m15d.size;have hz20:=u3.size;have hz22:=t3'.size;have hz23:=v3.size;have haaO:∀ e,aa=some e->w14.heap.size<=e.block/\e.block<w15d.heap.size:=fun e he=>o15d.base he;obtain⟨rl',ca',hfin⟩:=h12d.appX (S:=fun z=>z=mo\/z=oa9 b\/rl11 z=9+3*b) (x:=GP P b f data after) (o:=o) (q:=w13.heap.size) (gd:=gd) (cd:=c13) (g:=g9) (cc:=cc9) (aa:=aa) (la':=some q') (ac:=ac) (lc':=c') ho hob hQl
   (fun z hz=>by
    have:z∈P.all:=by
     have e:Q.all=(BE ⟨C1,P.last,P.ons⟩ b).all:=by unfold Ps.all;rw[hQo]
     rw[e,Jk]at hz;exact hz
    have:=h.wf.idr z this
    show z.id≠P.last+1
    omega) hwfA hM23 (fun z e=>e) (by
     refine((u2.keep m21 id).keep t3' (hlaS (by rw[hrmo];omega))).keep v3 (hnoa (by rw[hrmo];omega))) ⟨by omega,by omega⟩ ⟨hgd,by omega⟩
   (fun e he=>by have:=haaO e he;exact⟨by omega,by omega,by omega,by omega⟩) (by omega) (fun e he=>by
    cases he;have hlt:=(t2.base (q:=q') rfl).2;rcases t4 with ⟨q2,hq2,e2⟩ | e2
    ·left;rw[e2];exact c5 q2 hq2
    ·right;refine⟨by omega,by omega,by omega,by omega,fun e he=>?_⟩
     have:=haaO e he
     omega)
   (by
    show A1 w23 w13.heap.size 0 [.int .i64 ((P.last+1:Nat):Int),.int .i64 b,.int .i64 f,.slice (some ⟨gd,0,none⟩) data.length c13,.slice aa (after.filter P.opn).length ac,.bool false]
    rw[hd,<- hkl];exact q23)
   ((((((hgat.keep m15d id).keep u3 (hnmo (by rw[hout hgd];omega))).keep m21 id).keep t3' (hlaS (by rw[hout hgd];omega))).keep v3 (hnoa (by rw[hout hgd];omega))).at)
   (by
    show Bl w23 aa (iL (after.filter P.opn));have r0:=o15d.rowU.row;have hr:∀ e,aa=some e->rl11 e.block=0:=fun e he=>hout (by have:=haaO e he;omega)
    exact(((r0.keep u3 fun e he=>hnmo (by rw[hr e he];omega)).nos m21).keep t3' fun e he=>hlaS (by rw[hr e he];omega)).keep v3 fun e he=>hnoa (by rw[hr e he];omega))
   (by show A1 w23 (oa9 b) 0 _;simpa using v2) c3 ((((c2.keep u3 (hnmo (by rw[c3];omega))).keep m21 id).keep t3' (hlaS (by rw[c3];omega))).keep v3 (hnoa (by rw[c3];omega)))
   (by
    refine(t2.keep v3 fun e he=>?_);cases he;rcases t4 with ⟨q2,hq2,e2⟩ | e2
    ·exact hnoa (by rw[e2,c5 q2 hq2];omega)
    ·exact hnoa (by rw[hout (by omega)];omega))
  have hS:Er P b f data after=KM P (GP P b f data after):=by unfold Er;rw[if_pos hE];simp
  have hN:SP P b f data after=((P.last+1:Nat):Int):=by unfold SP;rw[if_pos hE]
  have hoE:(KM (⟨C1,P.last,P.ons⟩:Ps) (GP P b f data after)).ons=(KM P (GP P b f data after)).ons:=by
   show(BE ⟨C1,P.last,P.ons⟩ b).ons.map _=(BE P b).ons.map _;rw[bY A.D]
  have hadd:=hw1.add (x:=GP P b f data after) (C3:=C11) hs1 hF1 hcl hlast eD11' (fun z hz=>(ht11 z hz).trans (ht9 z hz)) (by
   have:=h15.cx.wf.1
   rw[hQC]at this
   exact this.nodup) ⟨y11,hy11,hy11b,by rw[hy11p,hy9p],hy11d⟩
  have:=hk w23 C11 ?_ ?_ (by rw[eD11'];exact A.D) (by rw[eM11'];exact A.most)
  ·rw[hN,hE]at this;exact this
  ·refine M12.trans hM23 fun z hz e=>?_;have hnz:rl11 z≠0:=by
    rcases e with e|e|e
    ·rw[e,hrmo];omega
    ·rw[e,k2];omega
    ·omega
   rcases h12d.reg z hnz with e2|e2
   ·rcases hG11 z e2 with e3|e3
    ·exact e3
    ·omega
   ·omega
  ·rw[hS];refine⟨?_,rl',c,mo,mm,ca',oa9,Km ((GP P b f data after).id:Int) (pV w13.heap.size) Lo,Lm9,?_⟩
   ·have:(⟨C11,(KM P (GP P b f data after)).last,(KM P (GP P b f data after)).ons⟩:Ps)={ KM (⟨C1,P.last,P.ons⟩:Ps) (GP P b f data after)with C:=C11 }:=by
     rw[<- hoE];rfl
    rw[this];exact hadd
   ·have:(⟨C11,(KM P (GP P b f data after)).last,(KM P (GP P b f data after)).ons⟩:Ps)=HH Q (GP P b f data after):=by
     rw[<- hoE,eQ];rfl
    rw[this];refine hfin.widen (fun z hz=>?_) fun z hz=>?_
    ·rcases hz with (hz|hz)|hz
     ·rcases hG11 z hz with e|e
      ·exact .inl e
      ·exact .inr (by omega)
     ·exact .inr (by omega)
     ·exact .inr (by omega)
    ·rcases hz with hz|hz
     ·have:=hlo z hz;omega
     ·omega
end
end Go.Z
end
section
open Go Go.Den Go.Proofs
namespace Go.Den
structure MM(w:World)(r mb:Nat)(Es:List OV)(clock:Nat)(seen:List Nat):Prop where
 map:w.heap[mb]?=some (.map (Es.map Jt).toArray clock)
 iter:w.heap[r]?=some (.mapIter (some mb) clock seen.toArray clock)
 born:∀ e∈Es,e.2.2<clock
 all:(Es.map (·.2.2)).Nodup
 keys:(Es.map (·.1)).Nodup
section
variable{P:Program}{w:World}
theorem MM.at{r mb clock:Nat}{Es:List OV}{seen:List Nat}(h:MM w r mb Es clock seen):Bj w mb (Es.map kv):=⟨Es,clock,h.map,rfl,h.keys,h.born,h.all⟩
theorem MM.keep{S:Nat->Prop}{r mb clock:Nat}{Es:List OV}{seen:List Nat}{w':World}(h:MM w r mb Es clock seen)(m:Ab S w w')(h1:¬ S r)(h2:¬ S mb):MM w' r mb Es clock seen :=
 ⟨m.keep h.map h2,m.keep h.iter h1,h.born,h.all,h.keys⟩
theorem MM.togo{r mb clock:Nat}{Es:List OV}{seen:List Nat}(h:MM w r mb Es clock seen):Mo mb r w=(leftOf (Es.map Jt).toArray seen.toArray).size:=by
 unfold Go.Den.Mo;rw[h.map,TC h.iter]
theorem bP(Es:List OV)(seen:List Nat):(leftOf (Es.map Jt).toArray seen.toArray).size=(Es.filter fun e=>!seen.contains e.2.2).length:=by
 have e:leftOf (Es.map Jt).toArray seen.toArray=((Es.map Jt).filter fun e=>!seen.toArray.contains e.born).toArray:=by unfold leftOf;simp
 rw[e,List.size_toArray,Lu4,jL]
 congr 1
 apply Lh3;intro x _;show(!(seen.toArray.contains (Jt x).born))=!(seen.contains x.2.2)
 congr 1
 rw[Lu];simp[Jt]
theorem MM.next{r mb clock:Nat}{ty:TypeId}{Es:List OV}{seen:List Nat}(h:MM w r mb Es clock seen) :
  ((∀ e∈Es,e.2.2∈seen)/\(Instr.next (.pointer (some ⟨r,0,none⟩)) false ty).run P w=.ok (.tuple #[.bool false]) w) \/
  ∃ e∈Es,e.2.2 ∉ seen/\∃ w',(Instr.next (.pointer (some ⟨r,0,none⟩)) false ty).run P w=.ok (.tuple #[.bool true,.int .i64 e.1,e.2.1]) w'/\(Instr.entry (.pointer (some ⟨r,0,none⟩))).run P w'=.ok (.tuple #[.int .i64 e.1,e.2.1]) w' /\
   MM w' r mb Es clock (seen++[e.2.2])/\Ab (fun x=>x=r) w w'/\Go.Den.Mo mb r w'<Go.Den.Mo mb r w:=by
 have hborn:∀ x∈((Es.map Jt).toArray).toList,x.born<clock:=by
  intro x hx;simp only[Li]at hx;obtain⟨e,he,rfl⟩:=hx;exact h.born e he
 have hnd:(((Es.map Jt).toArray).toList.map (·.born)).Nodup:=by
  have:=h.all
  rw[qJ];exact this
 rcases bZ (P:=P) (ty:=ty) h.iter h.map hborn (Ld _)with ⟨h0,hrun⟩|⟨e,he,w',hrun,hit,hm,hsz⟩
 ·refine .inl ⟨fun a ha=>?_,hrun⟩
  have:=all_seen _ _ h0 (Jt a) (by simp only[Li];exact⟨a,ha,rfl⟩)
  simpa [Jt] using this
 ·right;obtain⟨hin,hns⟩:=mem_left he;simp only[Li]at hin;obtain⟨x,hx,rfl⟩:=hin;have hnx:x.2.2 ∉ seen:=by
   intro hc;have:seen.toArray.contains (Jt x).born=true:=by simpa [Jt] using hc
   rw[this]at hns;cases hns
  have hne:mb≠r:=by
   rintro rfl;have h1:=h.map;rw[h.iter]at h1;cases h1
  have hmap':=hm.keep h.map hne;have hR:MM w' r mb Es clock (seen++[x.2.2]):=by
   refine⟨hmap',?_,h.born,h.all,h.keys⟩;rw[hit];simp[Jt]
  refine⟨x,hx,hnx,w',hrun,?_,hR,hm,?_⟩
  ·exact Xk (e:=Jt x) hit hmap' (by simp only[Li];exact⟨x,hx,rfl⟩) hnd
  ·rw[hR.togo,h.togo]
   have:=left_shrinks _ _ _ he
   simpa [Jt] using this
theorem MM.del{T T2 ty:TypeId}{z:Value}{r mb clock:Nat}{Es:List OV}{seen:List Nat}{k:Int}(hT:RA P T=some z)(h:MM w r mb Es clock seen) :
  ∃ w',(Builtin.delete_ #[T,T2] ty #[.map (some mb),.int .i64 k]).run P w=.ok (.tuple #[]) w'/\MM w' r mb (Es.filter fun e=>!decide (e.1=k)) clock seen/\Ab (fun x=>x=mb) w w'/\Go.Den.Mo mb r w'<=Go.Den.Mo mb r w:=by
 obtain⟨kt,e,i,h1,h2,h3,h4⟩:=Og hT;have hund:(underlying T).run P w=.ok (.map kt e) w:=AI h1 w;have hmod:∀ o,Ab (fun x=>x=mb) w (NA w mb o):=fun o=>(Ab.refl (fun x=>x=mb) w).put (.inr rfl) _;have hsub:(Es.filter fun e=>!decide (e.1=k)).Sublist Es:=Lo5;have hne:r≠mb:=by
  rintro rfl;have h1:=h.map;rw[h.iter]at h1;cases h1
 have fin:∀(w':World),w'=NA w mb (.map ((Es.filter fun e=>!decide (e.1=k)).map Jt).toArray clock)->(Builtin.delete_ #[T,T2] ty #[.map (some mb),.int .i64 k]).run P w=.ok (.tuple #[]) w' ->
   ∃ w',(Builtin.delete_ #[T,T2] ty #[.map (some mb),.int .i64 k]).run P w=.ok (.tuple #[]) w'/\MM w' r mb (Es.filter fun e=>!decide (e.1=k)) clock seen/\Ab (fun x=>x=mb) w w'/\Go.Den.Mo mb r w'<=Go.Den.Mo mb r w:=by
  rintro w' rfl hr;have hR:MM (NA w mb (.map ((Es.filter fun e=>!decide (e.1=k)).map Jt).toArray clock)) r mb (Es.filter fun e=>!decide (e.1=k)) clock seen :=
   ⟨AZ (AK h.map),by rw[N1 hne];exact h.iter,fun x hx=>h.born x (hsub.subset hx),(hsub.map _).nodup h.all,(hsub.map _).nodup h.keys⟩
  refine⟨_,hr,hR,hmod _,?_⟩;rw[hR.togo,h.togo,bP,bP];exact(hsub.filter _).length_le
 cases hf:Fy k Es 0 with
 | none =>
  have hall:=S8 k Es 0 hf;refine fin (NA w mb (.map (Es.map Jt).toArray clock)) (by rw[hall]) ?_;simp[Builtin.delete_,hund,Ek h.map,Dw h2,DV h2,hf,FU h.map]
 | some q =>
  obtain⟨j,u⟩:=q;obtain⟨_,e2,e3⟩:=Nw k Es 0 j u h.keys hf;rw[Lg6]at e2 e3;refine fin (NA w mb (.map ((Es.eraseIdx j).map Jt).toArray clock)) (by rw[e3]) ?_;simp[Builtin.delete_,hund,Ek h.map,Dw h2,DV h2,hf,FU h.map,S7]
end
end Go.Den
namespace Go.Z
section
variable{w0 w w':World}{R R':Nat->Prop}{rl:Nat->Nat}{sp c d mo mm:Nat}{ca oa:Nat->Nat}{Lo Lm:List (Int×Value)}{P V:Ps}{K:Value->World->Prop}
theorem Zj{S:Nat->Prop}{F:FuncId}{l:List Ch}(h:EO w0 R rl w sp c d mo mm ca oa Lo Lm P)(hl:∀ x∈l,x∈P.all)(hS:∀ x∈l,¬ S (ca x.id))(h5:∀ z,rl z=5->¬ S z)
  (hF:∀(p0:Option Addr)(w:World)(K:Value->World->Prop),(∃ q4:Addr,(.pointer p0:Value)=.pointer (some q4)/\∃ b6:Bool,Ru (Instr.loadAt 4 (.pointer (some (Addr.add q4 5)))) w (.bool b6) w/\K (.bool b6) w)->A8 Tryz.prog F #[.pointer p0] w K) :
  Kj (.func (.func F) #[] #[]) w S (pOf ca (·.out) l) (l.map fun x=>ca x.id):=by
 intro w' k qx hqx K hK;obtain⟨x,hx,rfl⟩:=Li.1 hqx;refine⟨_,_,_,rfl,?_⟩;show A8 Tryz.prog F #[.pointer (some ⟨ca x.id,0,none⟩)] w' K;have hc:=(h.chs x (hl x hx)).2.2.keep k (hS x hx) h5;refine hF _ _ _ ⟨_,rfl,_,hc.ld (j:=5) (by kernel_rfl) (fun _ _ _ _=>rfl),?_⟩
 have:=hK w' (Ab.refl _ _)
 rwa [h.pOf hl hx]at this
def TZ(Lo:List (Int×Value))(l:List Ch):List (Int×Value):=Lo.filter fun p=>!(l.any fun x=>x.out&&decide ((x.id:Int)=p.1))
theorem bS{L:List (Int×Value)}{f:Int×Value->Bool}{k:Int}(h:∀ v,f (k,v)=true):Ay (L.filter f) k=Ay L k:=by
 induction L with
 | nil=>rfl
 | cons p r ih =>
  obtain⟨k',v⟩:=p;by_cases e:k=k'
  ·subst e;rw[Lj2 (h v)];simp[Ay]
  ·by_cases hf:f (k',v)=true
   ·rw[Lj2 hf];simp only[Ay];rw[ih]
   ·rw[Le3 (by simpa using hf),ih];simp only[Ay];rw[if_neg (fun e2=>e (by first | exact e2 | exact e2.symm))]
theorem EO.flS{S:Nat->Prop}{o:On}{b g cc l' lc:Nat}{la:Option Addr}{Lm':List (Int×Value)}(h:EO w0 R rl w sp c d mo mm ca oa Lo Lm P)(ho:o∈P.ons)(hob:o.b=b)
  (k:Ab S w w') (hS:∀ z,S z->z=mo\/z=oa b\/rl z=9+3*b\/z=mm) (hg:w.heap.size<=g/\g<w'.heap.size)
  (hmO:Bj w' mo (TZ Lo o.l)) (hmM:Bj w' mm Lm') (hk1:∀ n:Int,n≠b->Ay Lm' n=Ay Lm n) (hk2:∀ p∈Lm',p∈Lm)
  (hno:Cu o=none->∀ p∈Lm',p.1≠b)
  (hyes:Cu o≠none->Ay Lm' b=Ay Lm b/\A1 w' (oa b) 0 [.slice (some ⟨g,0,none⟩) 256 cc,.slice la l' lc]/\At w' g 0 (Au (AW o.base (o.l.filter (·.out))))/\l'=(o.l.filter fun x=>!x.out).length /\
   Ow Tryz.prog w' w0.heap.size 169 1 la l' lc (pL ((o.l.filter fun x=>!x.out).map fun x=>ca x.id))/\∀ q,la=some q->rl q.block=9+3*b) :
  EO w0 (BJ R w w') (ro rl g 5) w' sp c d mo mm ca oa (TZ Lo o.l) Lm' ⟨P.C,P.last,P.ons.filterMap (MP fun n=>decide (n=b))⟩:=by
 have hon:=h.ons o ho;rw[hob]at hon;have hrS:∀{z},S z->rl z=3\/rl z=8+3*b\/rl z=9+3*b\/rl z=4:=fun {z} e=>by
  rcases hS z e with e|e|e|e
  ·left;rw[e];exact h.rmo
  ·right;left;rw[e];exact hon.2.1
  ·exact .inr (.inr (.inl e))
  ·right;right;right;rw[e];exact h.rmm
 have hgz:=h.out_of (x:=g) hg.1;have hx:TU w w' rl (ro rl g 5):=(TU.refl _ _ _).ro (.inr ⟨hg.1,hg.2,hgz⟩) (by omega) (by omega);have hxo:∀{p p':On},p∈P.ons->MP (fun n=>decide (n=b)) p=some p'->(p.b≠b/\p'=p)\/(p=o/\Cu o=some p'):=fun {p p'} hp e=>by
  unfold MP at e
  split at e
  ·rename_i hb;have hb:p.b=b:=by simpa using hb
   have:=H2 h.wf hp ho (by omega)
   subst this;exact .inr ⟨rfl,e⟩
  ·rename_i hb;have hb:p.b≠b:=by simpa using hb
   exact .inl ⟨hb,(Ln e).symm⟩
 have hflo:∀{p'},Cu o=some p'->p'={ o with base:=AW o.base (o.l.filter (·.out)),l:=o.l.filter fun x=>!x.out }:=fun {p'} e=>by
  unfold Cu at e
  split at e
  ·cases e
  ·exact(Ln e).symm
 -- a change that stays
 have hstay:∀ y,y∈Ps.all ⟨P.C,P.last,P.ons.filterMap (MP fun n=>decide (n=b))⟩↔y∈P.all/\(y.b=b->y.out=false):=by
  intro y;rw[GF];constructor
  ·rintro⟨p',hp',hy⟩;obtain⟨p,hp,e⟩:=Yv.1 hp';rcases hxo hp e with ⟨hb,rfl⟩|⟨rfl,e2⟩
   ·exact⟨GH hp hy,fun e3=>absurd (by rw[<- h.wf.chb _ hp y hy];exact e3) hb⟩
   ·rw[hflo e2]at hy;obtain⟨h1,h2⟩:=QM.1 hy;exact⟨GH hp h1,fun _=>by simpa using h2⟩
  ·rintro⟨hy,hout⟩;obtain⟨p,hp,hyp⟩:=GF.1 hy;by_cases hb:p.b=b
   ·have:=H2 h.wf hp ho (by omega)
    subst this;have hyo:=hout (by rw[h.wf.chb _ hp y hyp];exact hb);have hmem:y∈p.l.filter fun x=>!x.out:=QM.2 ⟨hyp,by rw[hyo];rfl⟩;refine⟨{ p with base:=AW p.base (p.l.filter (·.out)),l:=p.l.filter fun x=>!x.out },Yv.2 ⟨p,hp,?_⟩,hmem⟩;unfold MP Cu;rw[if_pos (by simpa using hb),if_neg];intro he;rw[Ln3.1 he]at hmem;cases hmem
   ·refine⟨p,Yv.2 ⟨p,hp,?_⟩,hyp⟩;unfold MP;rw[if_neg (by simpa using hb)]
 have hcutk:∀ y∈P.all,(y.b=b->y.out=false)->∀ v:Value,(!(o.l.any fun x=>x.out&&decide ((x.id:Int)=((y.id:Int),v).1)))=true:=fun y hy hout v=>by
  rw[TW,Lg3];intro x hx hxe;simp only[Lp,Lw]at hxe
  have:=EA h.wf.ids (GH ho hx) hy (by omega)
  subst this;rw[hout (by rw[h.wf.chb _ ho x hx];exact hob)]at hxe;cases hxe.1
 refine h.step (P':=⟨P.C,P.last,P.ons.filterMap (MP fun n=>decide (n=b))⟩) rfl k hx (fun z e=>?_) (fun z _ e=>by have:=hrS e;omega) (h.cell.keep k fun e=>by have:=hrS e;rw[h.rsp]at this;omega) hmO hmM ?_ ?_ ?_ ?_ (h.wf.fl rfl rfl)
 ·by_cases e1:z=g
  ·subst e1;rw[Ce]at e;omega
  ·rw[Cd _ e1]at e;exact e
 ·intro y hy;obtain⟨hy1,hy2⟩:=(hstay y).1 hy;left;exact⟨hy1,bS (hcutk y hy1 hy2),rfl,fun q e e2=>by have:=hrS e;omega⟩
 ·intro p' hp';obtain⟨p,hp,e⟩:=Yv.1 hp';rcases hxo hp e with ⟨hb,rfl⟩ | ⟨rfl,e2⟩
  ·left;exact⟨hp,hk1 _ (by omega),rfl,fun _ _=>rfl,fun q e=>by have:=hrS e;omega⟩
  ·right;have hne:Cu p≠none:=by rw[e2];simp
   obtain⟨y1,y2,y3,y4,y5,y6⟩:=hyes hne;rw[hflo e2];refine⟨by show Ay Lm' (p.b:Int)=_;rw[hob,y1];exact hon.1,by show ro rl g 5 (oa p.b)=8+3*p.b;rw[hob,hx.old _ (by rw[hon.2.1];omega)];exact hon.2.1,?_⟩;refine⟨g,cc,la,lc,?_,y3,Ce _ _ _,?_,?_⟩
   ·show A1 w' (oa p.b) 0 [_,.slice la (p.l.filter fun x=>!x.out).length lc];rw[hob,<- y4];exact y2
   ·rw[<- y4];exact y5
   ·intro q hq;show ro rl g 5 q.block=9+3*p.b
    have:=y6 q hq
    rw[hx.old _ (by omega),hob];exact this
 ·intro p hp;obtain⟨hp1,hp2⟩:=QM.1 hp;obtain⟨y,hy,e⟩:=h.keysO p hp1;refine⟨y,(hstay y).2 ⟨hy,fun hyb=>?_⟩,e⟩;obtain⟨q,hq,hyq⟩:=GF.1 hy
  have:=H2 h.wf hq ho (by rw[<- h.wf.chb _ hq y hyq,hyb,hob])
  subst this;cases hyo:y.out with
  | false=>rfl
  | true =>
   exfalso;rw[TW,Lg3]at hp2;exact hp2 y hyq (by rw[hyo,e];simp)
 ·intro p hp;obtain⟨q,hq,e⟩:=h.keysM p (hk2 p hp);by_cases hb:q.b=b
  ·have:=H2 h.wf hq ho (by omega)
   subst this;cases hf:Cu q with
   | none=>exact absurd (by rw[e,hb]) (hno hf p hp)
   | some q' =>
    refine⟨q',Yv.2 ⟨q,hq,?_⟩,?_⟩
    ·unfold MP;rw[if_pos (by simpa using hb)];exact hf
    ·rw[hflo hf];exact e
  ·refine⟨q,Yv.2 ⟨q,hq,?_⟩,e⟩;unfold MP;rw[if_neg (by simpa using hb)]
end
end Go.Z
open Go Go.Den Go.Proofs
namespace Go.Z
theorem LX{α β:Type}{f g:α->Option β}:∀{l:List α},(∀ x∈l,f x=g x)->l.filterMap f=l.filterMap g
 | [],_=>rfl
 | x::r,h=>by
  have ih:=LX (f:=f) (g:=g) (l:=r) fun y hy=>h y (by simp[hy]);have hx:=h x (by simp);cases hf:f x with
  | none=>rw[Lw3 hf,Lw3 (by rw[<- hx];exact hf),ih]
  | some y=>rw[Lx3 hf,Lx3 (by rw[<- hx];exact hf),ih]
theorem nP(Lo:List (Int×Value))(l:List Ch)(x:Ch):TZ Lo (l++[x])=if x.out=true then QW (x.id:Int) (TZ Lo l)else TZ Lo l:=by
 unfold TZ QW;by_cases h:x.out=true
 ·rw[if_pos h,List.filter_filter];apply Lh3;intro p _;rw[List.any_append];simp only[List.any_cons,List.any_nil,Lt4,h,Ws];have:decide ((x.id:Int)=p.1)=decide (p.1=(x.id:Int)):=ZH.2 ⟨Eq.symm,Eq.symm⟩;rw[this];cases l.any (fun x=>x.out&&decide ((x.id:Int)=p.1))<;>cases decide (p.1=(x.id:Int))<;>rfl
 ·rw[if_neg h];apply Lh3;intro p _;rw[List.any_append];simp[h]
theorem sB(Lo:List (Int×Value)):TZ Lo []=Lo:=by
 unfold TZ;exact qU.2 fun _ _=>rfl
def fC(P:Ps)(vis:List Nat)(z:Bf):Bf:=if (P.ons.any fun o=>decide (o.b=z.b)&&vis.contains o.b&&(Cu o).isNone)=true then { z with pins:=0 }else z
theorem AhN(P:Ps)(vis:List Nat)(z:Bf):(fC P vis z).b=z.b:=by unfold fC;split<;>rfl
theorem AdJ{o o':On}(h:Cu o=some o'):o'.b=o.b:=by
 unfold Cu at h
 split at h
 ·cases h
 ·rw[<- Ln h]
theorem cC(l:List On)(vis:List Nat){b:Nat}(hb:b ∉ vis):(l.filterMap (MP fun n=>vis.contains n)).filterMap (MP fun n=>decide (n=b))=l.filterMap (MP fun n=>(vis++[b]).contains n):=by
 rw[List.filterMap_filterMap];apply LX;intro o _;have e:(vis++[b]).contains o.b=(vis.contains o.b || decide (o.b=b)):=by
  rw[Lu];simp
 by_cases hv:vis.contains o.b=true
 ·have e1:MP (fun n=>vis.contains n) o=Cu o:=by unfold MP;rw[if_pos hv]
  have e2:MP (fun n=>(vis++[b]).contains n) o=Cu o:=by unfold MP;rw[if_pos (by show(vis++[b]).contains o.b=true;rw[e,hv];rfl)]
  rw[e1,e2];cases hf:Cu o with
  | none=>rfl
  | some o' =>
   have hne:o'.b≠b:=fun e3=>hb (by rw[<- e3,AdJ hf];simpa using hv);show MP (fun n=>decide (n=b)) o'=some o';unfold MP;rw[if_neg (by simpa using hne)]
 ·have e1:MP (fun n=>vis.contains n) o=some o:=by unfold MP;rw[if_neg hv]
  rw[e1];show MP (fun n=>decide (n=b)) o=_;have hv':vis.contains o.b=false:=by simpa using hv
  unfold MP;show(if decide (o.b=b)=true then Cu o else some o)=if (vis++[b]).contains o.b=true then Cu o else some o
  rw[e,hv',jF]
section
variable{w0 w w':World}{R R':Nat->Prop}{rl:Nat->Nat}{sp c d mo mm:Nat}{ca oa:Nat->Nat}{Lo Lm:List (Int×Value)}{P V:Ps}{K:Value->World->Prop}
structure FlI(w0:World)(R:Nat->Prop)(w:World)(r sp c d mo mm:Nat)(ca oa:Nat->Nat)(clock:Nat)(P:Ps)(w3:World)(vis:List Nat)(R3:Nat->Prop)(rl3:Nat->Nat)(Lo3:List (Int×Value))(C3:Ca)(Es3:List OV)(seen:List Nat):Prop where
 pin:EO w0 R3 rl3 w3 sp c d mo mm ca oa Lo3 (Es3.map kv) ⟨C3,P.last,P.ons.filterMap (MP fun n=>vis.contains n)⟩
 gro:∀ z,R3 z->BJ R w w3 z
 nr:¬ R3 r
 M:Ab R w w3
 D:C3.D=Dj P.C.D
 most:C3.most=P.C.most
 l:C3.l=P.C.l.map (fC P vis)
 ran:MM w3 r mm Es3 clock seen
 vis_:∀ e∈Es3,e.2.2∈seen↔∃ b∈vis,e.1=((b:Nat):Int)
theorem FlI.on{r clock:Nat}{w3:World}{vis:List Nat}{R3:Nat->Prop}{rl3:Nat->Nat}{Lo3:List (Int×Value)}{C3:Ca}{Es3:List OV}{seen:List Nat}{e:OV}(h:FlI w0 R w r sp c d mo mm ca oa clock P w3 vis R3 rl3 Lo3 C3 Es3 seen)(he:e∈Es3)(hs:e.2.2 ∉ seen) :
  ∃ o,o∈P.ons/\o∈P.ons.filterMap (MP fun n=>vis.contains n)/\e.1=(o.b:Int)/\o.b ∉ vis/\e.2.1=pV (oa o.b):=by
 obtain⟨o,ho,e1⟩:=h.pin.keysM (kv e) (Li.2 ⟨e,he,rfl⟩);have e1:e.1=(o.b:Int):=e1;have hnv:o.b ∉ vis:=fun hv=>hs ((h.vis_ e he).2 ⟨o.b,hv,e1⟩);obtain⟨o0,ho0,e2⟩:=Yv.1 ho;have hb:=(Gf e2).1;have heq:o=o0:=by
  unfold MP at e2;rw[if_neg (by rw[<- hb];simpa using hnv)]at e2;exact(Ln e2).symm
 subst heq;refine⟨o,ho0,ho,e1,hnv,?_⟩;have h1:=(h.pin.ons o ho).1;have h2:=TD (L:=Es3.map kv) (k:=e.1) (v:=e.2.1) h.pin.mapM.nodup (Li.2 ⟨e,he,rfl⟩);rw[e1,h1]at h2;exact(Ln h2).symm
theorem zD{vis:List Nat}{o:On}(hs:Hh P)(ho:o∈P.ons)(hv:o.b ∉ vis)(hf:Cu o≠none)(z:Bf):fC P (vis++[o.b]) z=fC P vis z:=by
 unfold fC;have:(P.ons.any fun o'=>decide (o'.b=z.b)&&(vis++[o.b]).contains o'.b&&(Cu o').isNone)=P.ons.any fun o'=>decide (o'.b=z.b)&&vis.contains o'.b&&(Cu o').isNone:=by
  rw[Lu,WC,WC];constructor
  ·rintro⟨p,hp,e⟩;simp only[Lp,Lw]at e;have hmem:p.b∈vis++[o.b]:=by simpa using e.1.2
   rcases Lq.1 hmem with hm|hm
   ·exact⟨p,hp,by rw[Lp,Lp];exact⟨⟨Le e.1.1,by simp[hm]⟩,e.2⟩⟩
   ·have:p.b=o.b:=by simpa using hm
    have:=H2 hs hp ho this
    subst this
    have:=e.2
    cases hfo:Cu p with
    | none=>exact absurd hfo hf
    | some _=>rw[hfo]at this;cases this
  ·rintro⟨p,hp,e⟩;simp only[Lp,Lw]at e;have hmem:p.b∈vis:=by simpa using e.1.2
   exact⟨p,hp,by rw[Lp,Lp];exact⟨⟨Le e.1.1,by simp[hmem]⟩,e.2⟩⟩
 rw[this]
theorem AdI{vis:List Nat}{o:On}{x:Bf}(hs:Hh P)(hn:(P.C.l.map (·.b)).Nodup)(ho:o∈P.ons)(hf:Cu o=none)(hx:x∈P.C.l)(hxb:x.b=o.b):I9 (P.C.l.map (fC P vis)) { x with pins:=0 }=P.C.l.map (fC P (vis++[o.b])):=by
 unfold I9;rw[qJ];apply xB;intro z hz;simp only[Function.comp];rw[AhN];by_cases e:z.b=x.b
 ·have:=EA hn hz hx e
  subst this;rw[if_pos rfl];unfold fC;rw[if_pos];rw[WC];exact⟨o,ho,by simp[hxb,hf]⟩
 ·rw[if_neg e];unfold fC;have:(P.ons.any fun o'=>decide (o'.b=z.b)&&(vis++[o.b]).contains o'.b&&(Cu o').isNone)=P.ons.any fun o'=>decide (o'.b=z.b)&&vis.contains o'.b&&(Cu o').isNone:=by
   rw[Lu,WC,WC];constructor
   ·rintro⟨p,hp,e2⟩;simp only[Lp,Lw]at e2;have hmem:p.b∈vis++[o.b]:=by simpa using e2.1.2
    rcases Lq.1 hmem with hm|hm
    ·exact⟨p,hp,by rw[Lp,Lp];exact⟨⟨Le e2.1.1,by simp[hm]⟩,e2.2⟩⟩
    ·have:p.b=o.b:=by simpa using hm
     omega
   ·rintro⟨p,hp,e2⟩;simp only[Lp,Lw]at e2;have hmem:p.b∈vis:=by simpa using e2.1.2
    exact⟨p,hp,by rw[Lp,Lp];exact⟨⟨Le e2.1.1,by simp[hmem]⟩,e2.2⟩⟩
  rw[this]
theorem FlI.done{r clock:Nat}{w3:World}{vis:List Nat}{R3:Nat->Prop}{rl3:Nat->Nat}{Lo3:List (Int×Value)}{C3:Ca}{Es3:List OV}{seen:List Nat}(h:FlI w0 R w r sp c d mo mm ca oa clock P w3 vis R3 rl3 Lo3 C3 Es3 seen)(hall:∀ e∈Es3,e.2.2∈seen)(hP:Px w0 R w sp d P) :
  Px w0 (BJ R w w3) w3 sp d ⟨C3,P.last,P.ons.filterMap Cu⟩:=by
 have hwf:=hP.wf;have hv:∀ o∈P.ons,o.b∈vis:=fun o ho=>by
  by_cases hv:o.b∈vis
  ·exact hv
  ·have hm:o∈P.ons.filterMap (MP fun n=>vis.contains n):=Yv.2 ⟨o,ho,by unfold MP;rw[if_neg (by simpa using hv)]⟩;have hl:=Jp (h.pin.ons o hm).1;obtain⟨e,he,e2⟩:=Li.1 hl;obtain⟨b,hb,e3⟩:=(h.vis_ e he).1 (hall e he);have:e.1=(o.b:Int):=Pi Prod.fst e2;have:b=o.b:=by omega
   rw[<- this];exact hb
 have e1:P.ons.filterMap (MP fun n=>vis.contains n)=P.ons.filterMap Cu:=by
  apply LX;intro o ho;unfold MP;rw[if_pos (by simpa using hv o ho)]
 have hpin:=h.pin;rw[e1]at hpin;have hC:C3={ P.C with D:=Dj P.C.D,l:=P.C.l.map fun x=>if (P.ons.any fun o=>decide (o.b=x.b)&&(Cu o).isNone)=true then { x with pins:=0 }else x }:=by
  have hl:=h.l;have hD:=h.D;have hm:=h.most;have e2:P.C.l.map (fC P vis)=P.C.l.map fun x=>if (P.ons.any fun o=>decide (o.b=x.b)&&(Cu o).isNone)=true then { x with pins:=0 }else x:=by
   apply xB;intro z _;unfold fC;have:(P.ons.any fun o=>decide (o.b=z.b)&&vis.contains o.b&&(Cu o).isNone)=P.ons.any fun o=>decide (o.b=z.b)&&(Cu o).isNone:=by
    rw[Lu,WC,WC];constructor
    ·rintro⟨p,hp,e⟩;simp only[Lp]at e;exact⟨p,hp,by rw[e.1.1,e.2];rfl⟩
    ·rintro⟨p,hp,e⟩;simp only[Lp]at e
     have:=hv p hp
     exact⟨p,hp,by rw[e.1,e.2];simp[this]⟩
   rw[this]
  rw[e2]at hl;cases C3;simp only at hl hD hm;rw[hl,hD,hm]
 have hw:=hwf.1.flush hwf.2.1 hwf.2.2.1.nodup;have hw:UP ⟨C3,P.last,P.ons.filterMap Cu⟩:=by rw[hC];exact hw
 have hz:=h.M.size;have hw0:=hwf.2.2.2.2.1.size;refine⟨hw,rl3,c,mo,mm,ca,oa,Lo3,_,hpin.widen h.gro fun z hz=>?_⟩;rcases hz with hz | hz
 ·have:=hP.lo z hz;omega
 ·omega
end
end Go.Z
open Go Go.Den Go.Proofs
namespace Go.Z
section
variable{w0 w w':World}{R R':Nat->Prop}{rl:Nat->Nat}{sp c d mo mm:Nat}{ca oa:Nat->Nat}{Lo Lm:List (Int×Value)}{P V:Ps}{K:Value->World->Prop}
theorem AgA:Tryz.prog.underlying 162=some (.map 3 165):=by kernel_rfl
theorem WG{l:List Ch}{p:Nat->Bool}(hp:∀ x∈l,p (ca x.id)=x.out):(l.map fun x=>ca x.id).filter (fun q=>!p q)=(l.filter fun x=>!x.out).map fun x=>ca x.id:=by
 rw[Lu4]
 congr 1
 apply Lh3;intro x hx;simp only[Function.comp];rw[hp x hx]
theorem nU{o:On}(h:Cu o=none):(o.l.filter fun x=>!x.out).length=0:=by
 unfold Cu at h
 split at h
 ·rename_i he;rw[Ln3.1 he];rfl
 ·cases h
theorem nW{o:On}(h:Cu o≠none):(o.l.filter fun x=>!x.out).length≠0:=by
 unfold Cu at h
 split at h
 ·exact absurd rfl h
 ·rename_i he;intro h0;exact he (Ln3.2 (fE h0))
set_option maxRecDepth 100000 in
theorem uN(hP:Px w0 R w sp d P)(hk:∀ w' C',Ab R w w'->Px w0 (BJ R w w') w' sp d ⟨C',P.last,P.ons.filterMap Cu⟩->C'.D=Dj P.C.D->C'.most=P.C.most->K (.int .i64 0) w') :
  A8 Tryz.prog CF #[.pointer (some ⟨sp,0,none⟩)] w K:=by
 have hP0:=hP;obtain⟨hw,rl,c,mo,mm,ca,oa,Lo,Lm,h⟩:=hP;apply OH;unfold Ip;refine ff rfl ⟨_,rfl,_,h.lc,rP h.cx fun w1 m1 x1=>⟨_,rfl,ff rfl ?_⟩⟩;obtain⟨rl1,h1,hr1⟩:=h.cache m1 (Ab.refl _ _) x1 (AdM _) rfl;have hz1:=m1.size;have hlo:=hP0.lo;have hw0:=h.mod.size;have M1:Ab R w w1:=m1.mono fun z _ e=>h.reg z (by have e:rl z=1:=e;omega);obtain⟨Es,clock,g1,g2,g3,g4,g5⟩:=h1.mapM
 refine⟨_,rfl,_,h1.lm,_,_,XM AgA g1,?_⟩;have m2:Ab No w1 (w1.alloc (.mapIter (some mm) clock #[] clock)):=(Ab.refl No w1).alloc _;have hR2:MM (w1.alloc (.mapIter (some mm) clock #[] clock)) w1.heap.size mm Es clock []:=⟨m2.keep g1 id,BC w1 _,g4,g5,g3⟩;have s2:(w1.alloc (.mapIter (some mm) clock #[] clock)).heap.size=w1.heap.size+1:=by simp
 generalize w1.alloc (.mapIter (some mm) clock #[] clock)=w2 at *;have h2:=h1.nos m2;have e0:P.ons.filterMap (MP fun n=>([]:List Nat).contains n)=P.ons:=by
  have:P.ons.filterMap (MP fun n=>([]:List Nat).contains n)=P.ons.filterMap some:=LX fun o _=>rfl;rw[this,List.filterMap_some]
 refine⟨fun _ w3=>∃ vis R3 rl3 Lo3 C3 Es3 seen,FlI w0 R w w1.heap.size sp c d mo mm ca oa clock P w3 vis R3 rl3 Lo3 C3 Es3 seen,fun _ w3=>Mo mm w1.heap.size w3,
  ⟨[],BJ R w w1,rl1,Lo,{ P.C with D:=Dj P.C.D },Es,[],?_⟩,?_⟩
 ·exact {
   pin:=by rw[e0,g2];exact h2
   gro:=fun z hz=>by
    rcases hz with hz|hz
    ·exact .inl hz
    ·exact .inr (by omega)
   nr:=fun hz=>by
    rcases hz with hz|hz
    ·have:=hlo _ hz;omega
    ·omega
   M:=M1.no m2
   D:=rfl
   most:=rfl
   l:=by
    show P.C.l=_
    conv=>lhs;rw[<- List.map_id P.C.l]
    apply xB;intro z _;show z=fC P [] z;unfold fC;rw[if_neg];rw[WC];rintro⟨o,_,e⟩;simp at e
   ran:=hR2
   vis_:=fun e _=>by simp }
 rintro x w3 ⟨vis,R3,rl3,Lo3,C3,Es3,seen,I⟩;have hz3:=I.M.size;have hrl3:w1.heap.size<w3.heap.size:=AK I.ran.iter;rcases I.ran.next (P:=Tryz.prog) (ty:=0)with ⟨hall,hrun⟩|⟨e,he,hns,w4,hrun,hent,hR4,m4,hlt⟩
 ·refine⟨_,_,hrun,false,fun _=>rfl,ff rfl ?_⟩;exact hk w3 C3 I.M (I.done hall hP0) I.D I.most
 obtain⟨o,ho,ho3,ek,hnv,ev⟩:=I.on he hns;rw[ek,ev]at hrun hent;refine⟨_,w4,hrun,true,fun _=>rfl,tt rfl ⟨_,hent,_,fun _=>rfl,_,fun _=>rfl,?_⟩⟩
 -- the parts at w4
 have hrr:rl3 w1.heap.size=0:=by
  by_cases e:rl3 w1.heap.size=0
  ·exact e
  ·exact absurd (I.pin.reg _ e) I.nr
 have h4:=I.pin.keepS m4 (fun z hz e=>I.nr (by rw[<- show z=w1.heap.size from e];exact hz)) fun z hz e=>by have e:z=w1.heap.size:=e;omega
 have hz4:=m4.size;have hoa:=fun x hx=>GH (P:=⟨C3,P.last,P.ons.filterMap (MP fun n=>vis.contains n)⟩) ho3 (x:=x) hx;have hbl:=h4.wf.base o ho3;refine wS h4 ho3 (f:=(·.out)) (dH h4 hoa fun _ _ _ hh=>by apply MD;exact hh) fun w5 g cc m5 hg hat=>⟨_,_,_,rfl,_,rfl,?_⟩;have h5:=h4.nos m5;have hz5:=m5.size;obtain⟨k1,k2,g9,cc9,la,lc,c1,c2,c3,c4,c5⟩:=h5.ons o ho3;have hrmo:=h5.rmo
 have hrmm:=h5.rmm;have hout4:∀{z},w4.heap.size<=z->rl3 z=0:=fun hz=>h4.out_of hz;have hlast:=h5.wf.last;have hlen:=h5.wf.llen o ho3;obtain⟨w6,u1,u2,u3,u4⟩:=c1.store (P:=Tryz.prog) (T:=88) (i:=0) (v:=.slice (some ⟨g,0,none⟩) 256 cc) (by kernel_rfl) (by simp) rfl;have u2:A1 w6 (oa o.b) 0 [.slice (some ⟨g,0,none⟩) 256 cc,.slice la o.l.length lc]:=by simpa using u2
 have hnoa:∀{z},rl3 z≠8+3*o.b->z≠oa o.b:=fun hz e=>hz (by rw[e];exact k2);have hnmo:∀{z},rl3 z≠3->z≠mo:=fun hz e=>hz (by rw[e];exact hrmo);have hnmm:∀{z},rl3 z≠4->z≠mm:=fun hz e=>hz (by rw[e];exact hrmm);have hlaS:∀{z},rl3 z≠9+3*o.b->¬ Of la z:=fun hz ⟨q,hq,e⟩=>hz (by rw[e];exact c5 q hq);have r6:Ow Tryz.prog w6 w0.heap.size 169 1 la o.l.length lc (pL (o.l.map fun x=>ca x.id)):=c4.keep u3 fun q hq=>hnoa (by rw[c5 q hq];omega)
 have hat6:=hat.keep u3 (hnoa (by rw[hout4 hg];omega));refine⟨w6,by rw[Ad];exact u1,_,rfl,la,_,lc,by rw[Ad];exact u2.at.load (by kernel_rfl) rfl,?_⟩;have hz6:=u3.size;have hcut3:TZ Lo3 (o.l.take 0)=Lo3:=by rw[xE];exact sB _
 refine⟨fun x w7=>∃ i:Nat,i<=o.l.length/\x=[.int .i64 i]/\Bj w7 mo (TZ Lo3 (o.l.take i))/\Ab (fun z=>z=mo) w6 w7,fun x _=>(o.l.length-nI x 0).toNat,⟨0,by omega,rfl,by rw[hcut3];exact h5.mapO.keep u3 (hnoa (by rw[hrmo];omega)),Ab.refl _ _⟩,?_⟩;rintro x w7 ⟨i,hi,rfl,mp7,M7⟩;refine⟨_,rfl,Aa (fun hb=>?_) (fun hb=>?_)⟩
 ·have hi:i<o.l.length:=by have:=Lc hb;omega
  have hxm:=Tx hi;have hxa:=hoa _ hxm;have hr7:Bl w7 la (pL (o.l.map fun x=>ca x.id)):=(r6.keep M7 fun q hq=>hnmo (by rw[c5 q hq];omega)).rowU.row;obtain⟨b3,o3,hla,hat3⟩:=Hu hr7 (i:=i) (by simp;exact hi);subst hla;have hld:=hat3.load (P:=Tryz.prog) (T:=172) (by kernel_rfl) (SN (i:=i) (by simp;exact hi));rw[Le6]at hld;refine⟨_,Ar (k:=1) (by kernel_rfl) (by omega) (by omega),?_⟩
  rw[Ad,show(i:Int).toNat*1=i by omega];obtain⟨ch1,ch2,ch3⟩:=h5.chs _ hxa;have ch7:=(ch3.keep u3 (hnoa (by rw[ch2];omega)) fun z hz=>hnoa (by rw[hz];omega)).keep M7 (hnmo (by rw[ch2];omega)) fun z hz=>hnmo (by rw[hz];omega);refine⟨_,hld,_,rfl,_,ch7.ld (j:=5) (by kernel_rfl) (fun _ _ _ _=>rfl),?_⟩;have hcs:=nP Lo3 (o.l.take i) o.l[i];rw[<- Ll hi]at hcs
  refine Ac.cut (fun _ w9=>Bj w9 mo (TZ Lo3 (o.l.take (i+1)))/\Ab (fun z=>z=mo) w6 w9) (Aa (fun hf=>?_) (fun hf=>?_)) ?_
  ·have md:Ab No w7 (Go.Den.Ah w7):=(Ab.refl No w7).drew;have ch7d:=ch7.keep md id fun _ _=>id;have hc7:A1 w7 sp 0 [.pointer (some ⟨c,0,none⟩),.int .i64 C3.D.vs.length,.int .i64 P.last,.map (some mo),.map (some mm)]:=(h5.cell.keep u3 (hnoa (by rw[h5.rsp];omega))).keep M7 (hnmo (by rw[h5.rsp];omega));obtain⟨w8,v1,v2,v3,v4⟩:=Vi (P:=Tryz.prog) (T:=161) (T2:=2) (ty:=0) (k:=(o.l[i].id:Int)) YQ (mp7.keep md id)
   refine⟨_,rfl,_,by rw[Ad];exact(hc7.keep md id).at.load (by kernel_rfl) rfl,_,rfl,_,ch7d.ld (j:=0) (by kernel_rfl) (fun _ _ _ _=>rfl),w8,v1,?_,(M7.no md).trans v3 fun _ _ e=>e⟩;rw[hcs,if_pos hf];exact v2
  ·rw[hcs,if_neg (by rw[hf];simp)];exact⟨mp7,M7⟩
  ·rintro z w9 ⟨mp9,M9⟩;rw[Ag (x:=(i:Int)+1) (by omega) (by omega)];exact⟨⟨i+1,by omega,rfl,mp9,M9⟩,by simp[nI,Ap];omega⟩
 have hil:i=o.l.length:=by have:=Lb hb;omega
 subst hil;rw[xG]at mp7;have a7:=u2.keep M7 (hnmo (by rw[k2];omega));have r7:=r6.keep M7 fun q hq=>hnmo (by rw[c5 q hq];omega);have hz7:=M7.size;refine⟨_,rfl,la,_,lc,by rw[Ad];exact a7.at.load (by kernel_rfl) rfl,?_⟩;have hT5:Kj (.func (.func Df) #[] #[]) w5 (fun z=>z=mo\/z=oa o.b\/rl3 z=9+3*o.b) (pOf ca (·.out) o.l) (o.l.map fun x=>ca x.id) :=
  Zj h5 hoa (fun x hx e=>by
   have:=(h5.chs x (hoa x hx)).2.1
   rcases e with e|e|e
   ·rw[e,hrmo]at this;omega
   ·rw[e,k2]at this;omega
   ·omega) (fun z hz e=>by
   rcases e with e|e|e
   ·rw[e,hrmo]at hz;omega
   ·rw[e,k2]at hz;omega
   ·omega) fun _ _ _ hh=>by apply ME;exact hh
 have hT7:Kj (.func (.func Df) #[] #[]) w7 (Of la) (pOf ca (·.out) o.l) (o.l.map fun x=>ca x.id):=fun w' k=>hT5 w' (((u3.mono fun z _ e=>.inr (.inl e)).trans M7 fun z _ e=>.inl e).trans k fun z _ e=>by
  obtain⟨q,hq,e⟩:=e
  exact .inr (.inr (by rw[e];exact c5 q hq)))
 refine W7 r7 (by omega) hT7 fun w10 l' o10 hl' m10=>⟨_,_,_,rfl,_,rfl,?_⟩;have hfm:=WG (ca:=ca) (l:=o.l) (p:=pOf ca (·.out) o.l) fun x hx=>h5.pOf hoa hx;rw[hfm]at o10 hl';rw[jL]at hl';have a10:=a7.keep m10 (hlaS (by rw[k2];omega));obtain⟨w11,v1,v2,v3,v4⟩:=a10.store (P:=Tryz.prog) (T:=169) (i:=1) (v:=.slice la l' lc) (by kernel_rfl) (by simp) rfl;have v2:A1 w11 (oa o.b) 0 [.slice (some ⟨g,0,none⟩) 256 cc,.slice la l' lc]:=by simpa using v2
 refine⟨w11,by rw[Ad];exact v1,_,rfl,la,l',lc,by rw[Ad];exact v2.at.load (by kernel_rfl) rfl,?_⟩;have hz10:=m10.size;have hz11:=v3.size
 -- from w4 to w11
 have M11:Ab (fun z=>z=mo\/z=oa o.b\/rl3 z=9+3*o.b\/z=mm) w4 w11 :=
  (((m5.anys.trans u3 fun z _ e=>.inr (.inl e)).trans M7 fun z _ e=>.inl e).trans m10 fun z _ ⟨q,hq,e⟩=>.inr (.inr (.inl (by rw[e];exact c5 q hq)))).trans v3 fun z _ e=>.inr (.inl e)
 have mp11:Bj w11 mo (TZ Lo3 o.l):=(mp7.keep m10 (hlaS (by rw[hrmo];omega))).keep v3 (hnoa (by rw[hrmo];omega));have o11:Ow Tryz.prog w11 w0.heap.size 169 1 la l' lc (pL ((o.l.filter fun x=>!x.out).map fun x=>ca x.id)):=o10.keep v3 fun q hq=>hnoa (by rw[c5 q hq];omega);have g11:At w11 g 0 (Au (AW o.base (o.l.filter (·.out)))):=(((hat6.keep M7 (hnmo (by rw[hout4 hg];omega))).keep m10 (hlaS (by rw[hout4 hg];omega))).keep v3 (hnoa (by rw[hout4 hg];omega))).at
 have hgl:=g11.lt;have hrS:∀{z:Nat},rl3 z=0->¬ (z=mo\/z=oa o.b\/rl3 z=9+3*o.b):=fun hz e=>by
  rcases e with e|e|e
  ·rw[e,hrmo]at hz;omega
  ·rw[e,k2]at hz;omega
  ·omega
 have hmmS:¬ (mm=mo\/mm=oa o.b\/rl3 mm=9+3*o.b):=fun e=>by
  rcases e with e|e|e
  ·rw[e,hrmo]at hrmm;omega
  ·rw[e,k2]at hrmm;omega
  ·omega
 have M11':Ab (fun z=>z=mo\/z=oa o.b\/rl3 z=9+3*o.b) w4 w11 :=
  (((m5.anys.trans u3 fun z _ e=>.inr (.inl e)).trans M7 fun z _ e=>.inl e).trans m10 fun z _ ⟨q,hq,e⟩=>.inr (.inr (by rw[e];exact c5 q hq))).trans v3 fun z _ e=>.inr (.inl e)
 have hR11:=hR4.keep M11' (hrS hrr) hmmS;have hvis':∀ e'∈Es3,(e'.2.2∈seen++[e.2.2]↔∃ b∈vis++[o.b],e'.1=((b:Nat):Int)):=fun e' he'=>by
  constructor
  ·intro hm;rcases Lq.1 hm with hm | hm
   ·obtain⟨b,hb,e2⟩:=(I.vis_ e' he').1 hm;exact⟨b,Lq.2 (.inl hb),e2⟩
   ·have:e'.2.2=e.2.2:=by simpa using hm
    rw[jQ I.ran.all he' he this];exact⟨o.b,by simp,ek⟩
  ·rintro⟨b,hb,e2⟩;rcases Lq.1 hb with hb|hb
   ·exact Lq.2 (.inl ((I.vis_ e' he').2 ⟨b,hb,e2⟩))
   ·have hb:b=o.b:=by simpa using hb
    have:e'=e:=EA I.ran.keys he' he (by rw[e2,ek,hb]);rw[this];simp
 have hR3M:∀{z},z<w.heap.size->rl3 z≠0->R z:=fun {z} hz hn=>by
  rcases I.gro z (I.pin.reg z hn)with e|e
  ·exact e
  ·omega
 have MR4:Ab R w w4:=I.M.trans m4 fun z hz e=>by have e:z=w1.heap.size:=e;omega
 have MR11:Ab R w w11:=MR4.trans M11' fun z hz e=>hR3M hz (fun e0=>hrS e0 e);have hG:∀ w',w4.heap.size<=w'.heap.size->∀ z,BJ R3 w4 w' z->BJ R w w' z:=fun w' hw z hz=>by
  rcases hz with hz|hz
  ·rcases I.gro z hz with e|e
   ·exact .inl e
   ·exact .inr (by omega)
  ·exact .inr (by omega)
 have hnr:∀ w',¬ BJ R3 w4 w' w1.heap.size:=fun w' hz=>by
  rcases hz with hz|hz
  ·exact I.nr hz
  ·omega
 refine Ac.dup (Aa (fun hl0=>?_) (fun hl0=>?_))
 ·-- none is left
  have hl0:l'=0:=by
   have:(l':Int)=0:=by simpa using hl0
   omega
  have hfn:Cu o=none:=by
   cases hf:Cu o with
   | none=>rfl
   | some o'=>exact absurd (by rw[<- hl',hl0]) (nW (o:=o) (by rw[hf];simp))
  have hc11:A1 w11 sp 0 [.pointer (some ⟨c,0,none⟩),.int .i64 C3.D.vs.length,.int .i64 P.last,.map (some mo),.map (some mm)]:=h4.cell.keep M11' (fun e=>by
   have hsp:=h4.rsp;rcases e with e | e | e
   ·rw[e,hrmo]at hsp;omega
   ·rw[e,k2]at hsp;omega
   ·omega)
  obtain⟨w12,d1,d2,d3,d4⟩:=hR11.del (P:=Tryz.prog) (T:=162) (T2:=3) (ty:=0) (k:=(o.b:Int)) gR;refine⟨_,rfl,_,by rw[Ad];exact hc11.at.load (by kernel_rfl) rfl,w12,d1,?_⟩;have hz12:=d3.size;have hkv:(Es3.filter fun e=>!decide (e.1=(o.b:Int))).map kv=QW (o.b:Int) (Es3.map kv):=by
   unfold QW;rw[Lu4];rfl
  have h12:=h4.flS (w':=w12) (b:=o.b) (g:=g) (cc:=cc) (l':=l') (lc:=lc) (la:=la) (Lm':=QW (o.b:Int) (Es3.map kv)) ho3 rfl (M11.trans d3 fun z _ e=>.inr (.inr (.inr e))) (fun _ e=>e) ⟨hg,by omega⟩
   (mp11.keep d3 (hnmm (by rw[hrmo];omega))) (by rw[<- hkv];exact d2.at) (fun n hn=>by rw[bR,if_neg hn]) (fun p hp=>(Y9.1 hp).1) (fun _ p hp=>(Y9.1 hp).2) (fun hne=>absurd hfn hne)
  rw[cC P.ons vis hnv,<- hkv]at h12;refine⟨_,rfl,_,h12.lc,?_⟩
  -- the pin
  obtain⟨x,hx,x1,x2,x3⟩:=hw.pin o ho;have hfx:fC P vis x=x:=by
   unfold fC;rw[if_neg];rw[WC];rintro⟨p,hp,e⟩;simp only[Lp,Lw]at e;apply hnv;have:p.b=o.b:=by omega
   rw[<- this];simpa using e.1.2
  have hx3:x∈C3.l:=by rw[I.l];exact Li.2 ⟨x,hx,hfx⟩
  have hn:=h.cx.wf.1.nodup;have hn3:=I.pin.cx.wf.1.nodup;have hheld:KY C3 (o.b:Int)=some x:=by
   unfold KY;rw[if_neg (by omega),Lr]
   have:=DH hn3 hx3
   rw[x1]at this;exact this
  have hun:SV C3 (o.b:Int)=({ C3 with l:=P.C.l.map (fC P (vis++[o.b])) },0):=by
   unfold SV;rw[hheld];simp only;rw[if_neg (by omega),x2]
   have:=AdI (vis:=vis) h.wf hn ho hfn hx x1
   rw[I.l];show(({ C3 with l:=I9 (P.C.l.map (fC P vis)) { x with pins:=0 } }:Ca),(0:Int))=_;rw[this]
  refine rQ (n:=(o.b:Int)) h12.cx fun w13 m13 x13=>⟨_,rfl,?_⟩;have x13:Cx w0 (BJ (fun z=>ro rl3 g 5 z=1) w12 w13) w13 c d (SV C3 (o.b:Int)).1:=x13;rw[hun]at x13;obtain⟨rl13,h13,hr13⟩:=h12.cache m13 (Ab.refl _ _) x13 rfl rfl;have hz13:=m13.size;have hro1:∀{z},ro rl3 g 5 z=1->rl3 z=1:=fun {z} e=>by
   by_cases e1:z=g
   ·subst e1;rw[Ce]at e;omega
   ·rw[Cd _ e1]at e;exact e
  have hR13:=d2.keep m13 (fun e=>by have:=hro1 e;omega) (fun e=>by have:=hro1 e;omega)
  refine⟨⟨vis++[o.b],BJ (BJ R3 w4 w12) w12 w13,rl13,_,_,_,_,{
   pin:=h13
   gro:=fun z hz=>by
    rcases hz with hz|hz
    ·rcases hG w12 (by omega) z hz with e|e
     ·exact .inl e
     ·exact .inr (by omega)
    ·exact .inr (by omega)
   nr:=fun hz=>by
    rcases hz with hz|hz
    ·exact hnr w12 hz
    ·omega
   M:=(MR11.trans d3 fun z hz e=>hR3M hz (by rw[show z=mm from e,hrmm];omega)).trans m13 fun z hz e=>hR3M hz (by have:=hro1 e;omega)
   D:=I.D
   most:=I.most
   l:=rfl
   ran:=hR13
   vis_:=fun e' he'=>hvis' e' (QM.1 he').1 }⟩,?_⟩
  ·show Mo mm w1.heap.size w13<Mo mm w1.heap.size w3;have e1:Mo mm w1.heap.size w13=Mo mm w1.heap.size w12:=by rw[hR13.togo,d2.togo]
   have e2:Mo mm w1.heap.size w11=Mo mm w1.heap.size w4:=by rw[hR11.togo,hR4.togo]
   omega
 ·-- some are left
  have hl0:l'≠0:=fun e=>by rw[e]at hl0;simp at hl0
  have hfn:Cu o≠none:=fun hf=>hl0 (by rw[hl',nU hf]);have h11:=h4.flS (w':=w11) (b:=o.b) (g:=g) (cc:=cc) (l':=l') (lc:=lc) (la:=la) (Lm':=Es3.map kv) ho3 rfl M11 (fun _ e=>e) ⟨hg,by omega⟩
   mp11 hR11.at (fun _ _=>rfl) (fun _ hp=>hp) (fun hf=>absurd hf hfn) (fun _=>⟨rfl,v2,g11,hl',o11,c5⟩)
  rw[cC P.ons vis hnv]at h11
  refine⟨⟨vis++[o.b],BJ R3 w4 w11,ro rl3 g 5,_,C3,Es3,_,{
   pin:=h11
   gro:=hG w11 (by omega)
   nr:=hnr w11
   M:=MR11
   D:=I.D
   most:=I.most
   l:=by rw[I.l];exact xB fun z _=>(zD h.wf ho hnv hfn z).symm
   ran:=hR11
   vis_:=hvis' }⟩,?_⟩
  ·show Mo mm w1.heap.size w11<Mo mm w1.heap.size w3;have e2:Mo mm w1.heap.size w11=Mo mm w1.heap.size w4:=by rw[hR11.togo,hR4.togo]
   omega
end
end Go.Z
open Go Go.Den Go.Proofs
namespace Go.Z
section
variable{w0 w w':World}{R R':Nat->Prop}{rl:Nat->Nat}{sp c d mo mm:Nat}{ca oa:Nat->Nat}{Lo Lm:List (Int×Value)}{P V:Ps}{K:Value->World->Prop}
theorem AdT{C:Ca}{b f:Nat}{data:Bk}{after:List Int}:GP ⟨C,V.last,V.ons⟩ b f data after=GP V b f data after:=rfl
theorem gY{C:Ca}{n f:Int}{data:Bk}{after:List Int}(e:C.D=V.C.D):Jv ⟨C,V.last,V.ons⟩ n f data after=Jv V n f data after:=by
 unfold Jv;show(if AD C.D n≠0 then(3:Int)else _)=_;rw[e];rfl
theorem uR{C:Ca}{n f:Int}{data:Bk}{after:List Int}(e:C.D=V.C.D):(Er ⟨C,V.last,V.ons⟩ n f data after).last=(Er V n f data after).last/\(Er ⟨C,V.last,V.ons⟩ n f data after).ons=(Er V n f data after).ons/\(Er V n f data after).C=V.C:=by
 unfold Er;rw[gY e,AdT];by_cases h:Jv V n f data after=0
 ·rw[if_pos h,if_pos h];refine⟨rfl,?_,(Qb (V:=V)).1⟩;show(BE ⟨C,V.last,V.ons⟩ _).ons.map _=(BE V _).ons.map _;rw[bY e]
 ·rw[if_neg h,if_neg h];exact⟨rfl,rfl,rfl⟩
theorem AdW{C:Ca}{n f:Int}{data:Bk}{after:List Int}(e:C.D=V.C.D):SP ⟨C,V.last,V.ons⟩ n f data after=SP V n f data after:=by unfold SP;rw[gY e]
theorem cK{n frm:Int}{a3 a4:Option Addr}{l3 c3 l4 c4:Nat}{data:Bk}{after:List Int}(hP:Pz w0 R w sp d V)(hlast:V.last+1<=1000000)(hd:data.length=l3)(hrd:Bl w a3 (Au data))(hdo:data≠[]->∀ q,a3=some q->¬ R q.block)(h63:l3<=9223372036854775807)
  (ha:after.length=l4) (ha6:l4<=1000000) (hra:Bl w a4 (iL after)) (hao:after≠[]->∀ q,a4=some q->¬ R q.block)
  (hk:∀ w',Ab R w w'->Pz w0 (BJ R w w') w' sp d (Er V n frm data after)->K (.tuple #[.int .i64 (SP V n frm data after),.int .i64 (Jv V n frm data after)]) w') :
  A8 Tryz.prog CG #[.pointer (some ⟨sp,0,none⟩),.int .i64 n,.int .i64 frm,.slice a3 l3 c3,.slice a4 l4 c4] w K:=by
 obtain⟨C,eD,eM,hP⟩:=hP;refine uP (n:=n) (frm:=frm) hP hlast hd hrd hdo h63 ha ha6 hra hao fun w' C' M h e1 e2=>?_;obtain⟨p1,p2,p3⟩:=uR (V:=V) (C:=C) (n:=n) (f:=frm) (data:=data) (after:=after) eD;rw[AdW eD,gY eD];refine hk w' M ⟨C',?_,?_,?_⟩
 ·rw[p3,e1];exact eD
 ·rw[p3,e2];exact eM
 ·rw[<- p1,<- p2];exact h
theorem wT{C:Ca}{n:Int}(e:C.D=V.C.D):Kn ⟨C,V.last,V.ons⟩ n=Kn V n:=by
 unfold Kn;show(if AD C.D n≠0 then(3:Int)else _)=_;rw[e];rfl
theorem AgF{C:Ca}{n:Int}(e:C.D=V.C.D):(Jw ⟨C,V.last,V.ons⟩ n).last=(Jw V n).last/\(Jw ⟨C,V.last,V.ons⟩ n).ons=(Jw V n).ons/\(Jw ⟨C,V.last,V.ons⟩ n).C.D=(Jw V n).C.D/\(Jw V n).C.most=V.C.most:=by
 unfold Jw;rw[wT e,tH e];by_cases h:Kn V n=0
 ·rw[if_pos h,if_pos h];refine⟨rfl,rfl,?_,rfl⟩;show B8 C.D n _=B8 V.C.D n _;rw[e]
 ·rw[if_neg h,if_neg h];exact⟨rfl,rfl,e,rfl⟩
theorem uW{n:Int}(hP:Pz w0 R w sp d V)(hb9:∀ v∈V.C.D.vs,v.length<=999999)(hk:∀ w',Ab R w w'->Pz w0 (BJ R w w') w' sp d (Jw V n)->K (.int .i64 (Kn V n)) w') :
  A8 Tryz.prog CH #[.pointer (some ⟨sp,0,none⟩),.int .i64 n] w K:=by
 obtain⟨C,eD,eM,hP⟩:=hP;refine uQ (n:=n) hP (by show ∀ v∈C.D.vs,_;rw[eD];exact hb9) fun w' C' M h e1 e2=>?_;obtain⟨p1,p2,p3,p4⟩:=AgF (V:=V) (C:=C) (n:=n) eD;rw[wT eD];refine hk w' M ⟨C',?_,?_,?_⟩
 ·rw[e1,p3]
 ·rw[p4,e2];exact eM
 ·rw[<- p1,<- p2];exact h
theorem uV(hP:Pz w0 R w sp d V)(hk:∀ w',Ab R w w'->Pz w0 (BJ R w w') w' sp d (aV V)->K (.int .i64 0) w'):A8 Tryz.prog CF #[.pointer (some ⟨sp,0,none⟩)] w K:=by
 obtain⟨C,eD,eM,hP⟩:=hP;refine uN hP fun w' C' M h e1 e2=>hk w' M ⟨C',?_,?_,h⟩
 ·rw[e1];show Dj C.D=Dj V.C.D;rw[eD]
 ·rw[e2];exact eM
def Pt(V:Ps)(n:Int):Bool:=decide (1<=n/\n<=(V.last:Int))&&!V.opn n
theorem AaP{n:Int}(hP:Pz w0 R w sp d V)(hk:K (.bool (Pt V n)) w):A8 Tryz.prog FL #[.pointer (some ⟨sp,0,none⟩),.int .i64 n] w K:=by
 obtain⟨C,eD,eM,hw,rl,c,mo,mm,ca,oa,Lo,Lm,h⟩:=hP;apply PL;unfold Jc;obtain⟨p,hp,hpn,_⟩:=h.lookO n;refine Ac.cut (fun x w'=>w=w'/\x=[.bool (Pt V n)]) (tt rfl (kG h ⟨_,rfl,Aa (fun hb=>?_) (fun hb=>?_)⟩)) ?_
 ·refine⟨_,rfl,_,h.lo',p,hp,rfl,?_⟩;unfold Pt;rw[show decide (1<=n/\n<=(V.last:Int))=true from hb,Ws];have:p.isNone=!V.opn n:=hpn;rw[this]
 ·refine⟨rfl,?_⟩;unfold Pt;rw[show decide (1<=n/\n<=(V.last:Int))=false from hb,Ln4]
 ·rintro x w' ⟨rfl,rfl⟩;exact⟨_,rfl,hk⟩
end
end Go.Z
open Go Go.Den Go.Proofs
namespace Go.Z
theorem ZZ(w:World)(p:Option Addr)(n:Int)(m1 m2:Option Nat):(Instr.build 164 #[(0,.pointer p),(1,.int .i64 n),(3,.map m1),(4,.map m2)]).run Tryz.prog w=.ok (.agg ⟨[.pointer p,.int .i64 n,.int .i64 0,.map m1,.map m2]⟩) w:=by kernel_rfl
theorem yS(w:World)(cs:List Value):(Instr.box 164 (.agg ⟨cs⟩)).run Tryz.prog w=.ok (.pointer (some ⟨w.heap.size,0,none⟩)) (w.alloc (.cells ⟨cs⟩ 164)):=rfl
def AgG(k n:Nat):Ps:=⟨⟨Bp k,n,[]⟩,0,[]⟩
section
variable{w0 w w':World}{R R':Nat->Prop}{sp c d sb mb sc:Nat}{L:List (Int×Value)}{P V:Ps}{K:Value->World->Prop}
set_option maxRecDepth 100000 in
theorem AdY{D:St}{k:Nat}(hd:AF w R d sb mb sc L D)(hsm:Fd D)(hlo:∀ x,R x->w0.heap.size<=x/\x<w.heap.size)(hm:Ab No w0 w)(hrun:D.left=-1)(h1:1<=k)(h2:k<=4096)(hf:D.vs.length<=k)
  (hk:∀ w' sp,Ab No w w'->Pz w0 (BJ R w w') w' sp d ⟨⟨D,k,[]⟩,0,[]⟩->K (.tuple #[.pointer (some ⟨sp,0,none⟩),.int .i64 0]) w'):A8 Tryz.prog LR #[.pointer (some ⟨d,0,none⟩),.int .i64 k] w K:=by
 classical
 apply Yo;unfold QH;refine AdA (w0:=w0) hd hsm hlo hm (fun h=>by omega) fun k' hk' _ _ w2 c m2 x2=>⟨_,_,rfl,ff rfl ?_⟩;have:k'=k:=by omega
 subst this;have hx2:=x2;obtain⟨rl,m,sb',mb',sc',lc',la',L',mp',hC⟩:=x2;refine ZI hC.disk ⟨_,rfl,_,_,Gi,_,_,Gi,_,fun w=>ZZ w _ _ _ _,_,_,yS _ _,?_⟩;have m3:Ab No w2 (w2.alloc (.map #[] 0)):=(Ab.refl No w2).alloc _;have p3:Bj (w2.alloc (.map #[] 0)) w2.heap.size []:=Bj.new;have s3:(w2.alloc (.map #[] 0)).heap.size=w2.heap.size+1:=by simp
 generalize w2.alloc (.map #[] 0)=w3 at *;have m4:Ab No w3 (w3.alloc (.map #[] 0)):=(Ab.refl No w3).alloc _;have p4:Bj (w3.alloc (.map #[] 0)) w3.heap.size []:=Bj.new;have s4:(w3.alloc (.map #[] 0)).heap.size=w3.heap.size+1:=by simp
 generalize w3.alloc (.map #[] 0)=w4 at *;have m5:Ab No w4 (w4.alloc (.cells ⟨[.pointer (some ⟨c,0,none⟩),.int .i64 D.vs.length,.int .i64 0,.map (some w2.heap.size),.map (some w3.heap.size)]⟩ 164)):=(Ab.refl No w4).alloc _;have a5:A1 (w4.alloc (.cells ⟨[.pointer (some ⟨c,0,none⟩),.int .i64 D.vs.length,.int .i64 0,.map (some w2.heap.size),.map (some w3.heap.size)]⟩ 164)) w4.heap.size 0 [.pointer (some ⟨c,0,none⟩),.int .i64 D.vs.length,.int .i64 0,.map (some w2.heap.size),.map (some w3.heap.size)]:=A1.new
 have s5:(w4.alloc (.cells ⟨[.pointer (some ⟨c,0,none⟩),.int .i64 D.vs.length,.int .i64 0,.map (some w2.heap.size),.map (some w3.heap.size)]⟩ 164)).heap.size=w4.heap.size+1:=by simp
 generalize w4.alloc (.cells ⟨[.pointer (some ⟨c,0,none⟩),.int .i64 D.vs.length,.int .i64 0,.map (some w2.heap.size),.map (some w3.heap.size)]⟩ 164)=w5 at *;have M5:Ab No w2 w5:=(m3.no m4).no m5;have hz2:=m2.size;have hw0:=hm.size;have hG:∀ x,BJ R w w2 x->w0.heap.size<=x/\x<w2.heap.size:=fun x hx=>by
  rcases hx with hx|hx
  ·have:=hlo x hx;omega
  ·omega
 refine hk w5 w4.heap.size (m2.no M5) ⟨⟨D,k',[]⟩,rfl,rfl,?_,fun x=>if x=w4.heap.size then 2 else if x=w2.heap.size then 3 else if x=w3.heap.size then 4 else if BJ R w w2 x then 1 else 0,c,w2.heap.size,w3.heap.size,fun _=>0,fun _=>0,[],[],?_⟩
 ·exact {
   lne:=fun o ho=>(by cases ho)
   pin:=fun o ho=>(by cases ho)
   unp:=fun x hx=>(by cases hx)
   run:=hrun
   acc:=fun o ho=>(by cases ho)
   may:=fun o ho=>(by cases ho)
   cls:=fun o ho=>(by cases ho)
   afl:=fun x hx=>(by cases hx) }
 have e1:(fun x=>(if x=w4.heap.size then 2 else if x=w2.heap.size then 3 else if x=w3.heap.size then 4 else if BJ R w w2 x then 1 else 0)=1)=BJ R w w2:=by
  funext x;apply propext;constructor
  ·intro e;by_cases h1:x=w4.heap.size
   ·rw[if_pos h1]at e;omega
   ·rw[if_neg h1]at e;by_cases h2:x=w2.heap.size
    ·rw[if_pos h2]at e;omega
    ·rw[if_neg h2]at e;by_cases h3:x=w3.heap.size
     ·rw[if_pos h3]at e;omega
     ·rw[if_neg h3]at e;by_cases h4:BJ R w w2 x
      ·exact h4
      ·rw[if_neg h4]at e;omega
  ·intro hx
   have:=hG x hx
   rw[if_neg (by omega),if_neg (by omega),if_neg (by omega),if_pos hx]
 exact {
  cx:=by rw[e1];exact hx2.nos M5
  cell:=a5
  mapO:=(p3.keep m4 id).keep m5 id
  mapM:=p4.keep m5 id
  rsp:=if_pos rfl
  rmo:=by rw[if_neg (by omega),if_pos rfl]
  rmm:=by rw[if_neg (by omega),if_neg (by omega),if_pos rfl]
  chs:=fun x hx=>(by cases hx)
  ons:=fun o ho=>(by cases ho)
  keysO:=fun p hp=>(by cases hp)
  keysM:=fun p hp=>(by cases hp)
  wf:={ full:=hf,onsN:=Lk6,onlt:=fun o ho=>(by cases ho),base:=fun o ho=>(by cases ho),llen:=fun o ho=>(by cases ho),ids:=Lk6,idr:=fun x hx=>(by cases hx),chb:=fun o ho=>(by cases ho),dat:=fun x hx=>(by cases hx),aft:=fun x hx=>(by cases hx),last:=Lz5 _ }
  reg:=fun x hx=>by
   by_cases h4:BJ R w w2 x
   ·rcases h4 with h4|h4
    ·exact .inl h4
    ·exact .inr (by omega)
   ·right;by_cases h1:x=w4.heap.size
    ·omega
    ·by_cases h2:x=w2.heap.size
     ·omega
     ·by_cases h3:x=w3.heap.size
      ·omega
      ·rw[if_neg h1,if_neg h2,if_neg h3,if_neg h4]at hx;omega
  lo:=fun x hx=>by
   rcases hx with hx|hx
   ·have:=hlo x hx;omega
   ·omega
  mod:=((hm.no m2).no M5) }
theorem lit(w:World)(v:UInt8):Ab No w (w.alloc (.cells ⟨[.int .u8 (v.toNat:Int)]⟩ 5 (1,2)))/\Bl (w.alloc (.cells ⟨[.int .u8 (v.toNat:Int)]⟩ 5 (1,2))) (some ⟨w.heap.size,0,none⟩) (Au [v]) :=
 ⟨(Ab.refl No w).alloc _,.inr ⟨_,_,rfl,_,_,_,BC w _,by simp[Au],by simp[Au,u8]⟩⟩
def p0:Ps:=AgG 8 8
def p1:Ps:=Er p0 5 0 [97] []
def p2:Ps:=Er p1 6 0 [98] [1]
def p3:Ps:=Er p2 5 1 [99] [2]
def p4:Ps:=Jw p3 5
def p5:Ps:=aV p4
def p6:Ps:=Jw p5 6
def p7:Ps:=aV p6
end
structure A3 where
 k:Int
 n:Int
 xs:List UInt8
section
variable{w w0:World}{K:Value->World->Prop}
end
theorem wW{V:Ps}(n:Int):(Jw V n).opn=V.opn/\(Jw V n).last=V.last/\(Jw V n).ons.map (·.b)=V.ons.map (·.b)/\(Jw V n).C.D.vs.length=V.C.D.vs.length:=by
 unfold Jw;split
 ·have hL:=Hs V n.toNat;refine⟨cG hL,rfl,?_,gQ _ _ _⟩;show(Rz V (By V n.toNat)).map (·.b)=_;unfold Rz;rw[qJ];rfl
 ·exact⟨rfl,rfl,rfl,rfl⟩
theorem AbE{V:Ps}(hs:Hh V){o:On}(ho:o∈V.ons):Kn V (o.b:Int)=0:=by
 unfold Kn;rw[if_neg (by rw[(RK V.C.D (hs.onlt o ho)).1];simp),RF hs ho];rfl
theorem rF(V:Ps):(aV V).all=V.all.filter fun x=>!x.out:=by
 unfold aV Ps.all;show(V.ons.filterMap Cu).flatMap (·.l)=(V.ons.flatMap (·.l)).filter _;generalize V.ons=l
 induction l with
 | nil=>rfl
 | cons o r ih =>
  rw[Lh4,jG,<- ih];unfold Cu;by_cases h:(o.l.filter fun x=>!x.out).isEmpty=true
  ·rw[Lw3 (by rw[if_pos h]),Ln3.1 h];rfl
  ·rw[Lx3 (by rw[if_neg h]),Lh4]
end Go.Z
open Go Go.Den Go.Proofs
namespace Go.Z
section
variable{w w' w0:World}{R:Nat->Prop}{sp d:Nat}{V:Ps}{K:Value->World->Prop}
theorem Pz.wf(h:Pz w0 R w sp d V):Hh V/\(∀ x∈V.all,∀ k∈x.after,k<(x.id:Int))/\(∀ o∈V.ons,o.l≠[])/\V.C.D.left=-1/\WF V.C.D:=by
 obtain⟨C,eD,eM,hP⟩:=h;have hwf:=hP.wf;refine⟨?_,hwf.1.afl,hwf.1.lne,?_,?_⟩
 ·exact Hh.cache (P:=⟨C,V.last,V.ons⟩) (C:=V.C) hwf.2.1 (by rw[eD]) eM.symm
 ·rw[<- eD];exact hwf.1.run
 ·rw[<- eD];exact hwf.2.2.2.1
end
end Go.Z
open Go Go.Den Go.Proofs
namespace Go.Z
section
variable{w w' w0:World}{R:Nat->Prop}{sp d:Nat}{V:Ps}{K:Value->World->Prop}
theorem Ad3{xs:List UInt8}(h:xs≠[]):Au xs≠[]:=fun e=>h (fE (by have:=Pi List.length e;rw[Ak]at this;exact this))
theorem Yd{D:St}(h:D.left=-1){m:Nat}(hm:1<=m):Sa (Dj D) m:=by
 intro v hv;have e:Dj D=⟨D.vs.map fun v=>[BU v],Ut D.left⟩:=by unfold Dj;rw[if_neg (by omega)]
 rw[e]at hv;obtain⟨u,_,rfl⟩:=Li.1 hv;exact hm
end
structure Mk where
 b:Nat
 after:List Nat
theorem lB{V:Ps}{n:Int}:V.opn n=true↔∃ x∈V.all,(x.id:Int)=n:=by
 unfold Ps.opn;rw[WC];constructor
 ·rintro⟨x,hx,e⟩;exact⟨x,hx,by simpa using e⟩
 ·rintro⟨x,hx,e⟩;exact⟨x,hx,by simpa using e⟩
theorem AaK{V:Ps}{n:Int}:V.opn n=false↔∀ x∈V.all,(x.id:Int)≠n:=by
 rw[<- Bool.not_eq_true,lB];constructor
 ·intro h x hx e;exact h ⟨x,hx,e⟩
 ·rintro h ⟨x,hx,e⟩;exact h x hx e
def bL(bs:List Bool):List Value:=bs.map .bool
@[simp] theorem X3 (bs:List Bool):(bL bs).length=bs.length:=by simp[bL]
theorem gC:D5 Tryz.prog 83 1 (.bool false) 1:=by unfold D5;kernel_rfl
section
variable{w w' w0:World}{R R':Nat->Prop}{sp d base lc:Nat}{la:Option Addr}{ms:List Mk}{V:Ps}{K:Value->World->Prop}
theorem Vt{H:List (List Value)}(hH:∀ c∈H,c.length=3):∀{k j:Nat}{c:List Value}{v:Value},H[k]?=some c->c[j]?=some v->H.flatten[k*3+j]?=some v:=by
 induction H with
 | nil=>intro k j c v h;simp at h
 | cons u r ih =>
  intro k j c v h hv;have hu:=hH u (by simp);rw[mN];cases k with
  | zero =>
   simp at h;subst h;rw[Lq6,Pj,xW (by have:=(Lh.1 hv).1;omega)];exact hv
  | succ k =>
   rw[Le2 (by omega)];have e:(k+1)*3+j-u.length=k*3+j:=by omega
   rw[e];exact ih (fun c hc=>hH c (by simp[hc])) (by simpa using h) hv
end
section
variable{w w' w0:World}{R R':Nat->Prop}{sp d base lc:Nat}{la:Option Addr}{ms:List Mk}{V:Ps}{K:Value->World->Prop}
theorem Ab2{p q:Prop}[Decidable p][Decidable q](h:p↔q):[Value.bool (decide p)]=[Value.bool (decide q)]:=by rw[ZH.2 h]
theorem Pz.keep{S:Nat->Prop}(h:Pz w0 R w sp d V)(k:Ab S w w')(hs:∀ x,R x->¬ S x)(hw:∀ x,x<w0.heap.size->¬ S x):Pz w0 R w' sp d V:=by
 obtain⟨C,e1,e2,hw',rl,c,mo,mm,ca,oa,Lo,Lm,h⟩:=h;exact⟨C,e1,e2,hw',rl,c,mo,mm,ca,oa,Lo,Lm,h.keepS k hs hw⟩
end
end Go.Z
end
section
open Go Go.Den Go.Proofs
namespace Go.Den
section
variable{P:Program}{w:World}
def AcE(P:Program)(S T:TypeId):Bool :=
 match P.underlying S with
 | some .string=>match P.underlying T with
  | some (.slice e)=>match P.underlying e with | some (.int .u8)=>true | _=>false
  | _=>false
 | _=>false
theorem NV{S T:TypeId}{xs:List UInt8}(hT:AcE P S T=true):∃ c w',(convert S T (.string ⟨xs.toArray⟩)).run P w=.ok (.slice (some ⟨w.heap.size,0,none⟩) xs.length c) w'/\A1 w' w.heap.size 0 (Au xs)/\Ab No w w'/\xs.length<=c:=by
 have hT':∃ e,P.underlying S=some .string/\P.underlying T=some (.slice e)/\P.underlying e=some (.int .u8):=by
  unfold AcE at hT
  split at hT
  ·rename_i h0
   split at hT
   ·rename_i e he
    split at hT
    ·rename_i h1;exact⟨e,h0,he,h1⟩
    ·cases hT
   ·cases hT
  ·cases hT
 obtain⟨e,h1,h2,h3⟩:=hT';have hsz:(⟨xs.toArray⟩:ByteArray).size=xs.length:=by simp[ByteArray.size]
 have h:=run_bytes_of_string (P:=P) w S T e ⟨xs.toArray⟩ h1 h2 h3;rw[hsz]at h;have hl:(bytesRow ⟨xs.toArray⟩ (grownCap w xs.length 0 e)).toList=Au xs++List.replicate (grownCap w xs.length 0 e-xs.length) (.int .u8 0):=by
  unfold bytesRow;rw[hsz];simp[Au,u8]
 have hs2:xs.length<=(bytesRow ⟨xs.toArray⟩ (grownCap w xs.length 0 e)).size:=by
  rw[<- Array.length_toList,hl];simp
 generalize bytesRow ⟨xs.toArray⟩ (grownCap w xs.length 0 e)=arr at *;refine⟨_,_,h,⟨arr.toList,e,(arr.size,arr.size+1),BC w.drew _,?_,?_,fun j _ hj hc=>?_⟩,(((Ab.refl No w).drew (b:=w)).alloc _:Ab No w (w.drew.alloc _)),grownCap_ge w xs.length 0 e⟩
 ·rw[hl];simp
 ·rw[hl];simp
 ·simp at hj;omega
end
def MO(x:Bk):Value:=.string ⟨x.toArray⟩
def Rn(hs:List (Nat×Nat))(vs:List (List Bk)):List Value:=List.zipWith (fun h v=>.slice (some ⟨h.1,0,none⟩) (List.length v) h.2) hs vs
def N2(D:St):Bool:=decide (D.left≠-1)
def Pq(D:St):Int:=if D.left=-1 then 0 else D.left
structure BA(w:World)(R:Nat->Prop)(b vb vc:Nat)(hs:List (Nat×Nat))(D:St):Prop where
 cell:A1 w b 0 [.slice (some ⟨vb,0,none⟩) D.vs.length vc,.bool (N2 D),.int .i64 (Pq D)]
 vec:A1 w vb 0 (Rn hs D.vs)
 cap:D.vs.length<=vc
 hl:hs.length=D.vs.length
 row:∀(i:Nat)(v:List Bk),D.vs[i]?=some v->∃ q c,hs[i]?=some (q,c)/\v.length<=c/\At w q 0 (v.map MO)/\R q/\q≠b/\q≠vb
 rb:R b
 rv:R vb
 ne:b≠vb
 wf:WF D
 lt:∀ x,R x->x<w.heap.size
section
variable{w:World}{R:Nat->Prop}{b vb vc:Nat}{hs:List (Nat×Nat)}{D:St}
theorem BA.keep{S:Nat->Prop}{w':World}(h:BA w R b vb vc hs D)(m:Ab S w w')(hS:∀ x,R x->¬ S x):BA w' R b vb vc hs D where
 cell:=h.cell.keep m (hS _ h.rb)
 vec:=h.vec.keep m (hS _ h.rv)
 cap:=h.cap
 hl:=h.hl
 row:=fun i v hv=>by
  obtain⟨q,c,h1,h2,h3,h4,h5⟩:=h.row i v hv;exact⟨q,c,h1,h2,h3.keep m (hS _ h4),h4,h5⟩
 rb:=h.rb
 rv:=h.rv
 ne:=h.ne
 wf:=h.wf
 lt:=fun x hx=>jJ (h.lt x hx) m.size
theorem BA.nos{w':World}(h:BA w R b vb vc hs D)(m:Ab No w w'):BA w' R b vb vc hs D:=h.keep m fun _ _=>id
theorem BA.drew(h:BA w R b vb vc hs D):BA (Ah w) R b vb vc hs D:=h.nos (Ab.refl No w).drew
theorem bG{i q c:Nat}{vs:List (List Bk)}{v:List Bk}(h1:hs[i]?=some (q,c))(h2:vs[i]?=some v):(Rn hs vs)[i]?=some (.slice (some ⟨q,0,none⟩) v.length c):=by
 simp[Rn,List.getElem?_zipWith,h1,h2]
end
end Go.Den
namespace Go.Z
section
variable{w:World}{R:Nat->Prop}{b vb vc:Nat}{hs:List (Nat×Nat)}{D:St}{K:Value->World->Prop}
theorem rv(h:BA w R b vb vc hs D):Ru (Instr.loadAt 221 (.pointer (some (Addr.add ⟨b,0,none⟩ 0)))) w (.slice (some ⟨vb,0,none⟩) D.vs.length vc) w:=by
 rw[Ad];exact h.cell.at.load (by kernel_rfl) rfl
theorem rh(h:BA w R b vb vc hs D):Ru (Instr.loadAt 4 (.pointer (some (Addr.add ⟨b,0,none⟩ 1)))) w (.bool (N2 D)) w:=by
 rw[Ad];exact h.cell.at.load (by kernel_rfl) rfl
theorem rl(h:BA w R b vb vc hs D):Ru (Instr.loadAt 3 (.pointer (some (Addr.add ⟨b,0,none⟩ 2)))) w (.int .i64 (Pq D)) w:=by
 rw[Ad];exact h.cell.at.load (by kernel_rfl) rfl
theorem Oe{a:Addr}{n c i:Nat}(hi:i<n):Al (Instr.indexAt 221 (.slice (some a) n c) (.int .i64 i)) (.pointer (some (a.add i))):=by
 intro w'
 have:=Ar (P:=Tryz.prog) (T:=221) (k:=1) (a:=a) (n:=n) (c:=c) (kk:=.i64) (i:=i) (by kernel_rfl) (by omega) (by omega) w'
 rwa [Lr,qI]at this
theorem YK{a:Addr}{n c i:Nat}(hi:i<n):Al (Instr.indexAt 178 (.slice (some a) n c) (.int .i64 i)) (.pointer (some (a.add i))):=by
 intro w'
 have:=Ar (P:=Tryz.prog) (T:=178) (k:=1) (a:=a) (n:=n) (c:=c) (kk:=.i64) (i:=i) (by kernel_rfl) (by omega) (by omega) w'
 rwa [Lr,qI]at this
theorem rrow(h:BA w R b vb vc hs D){i:Nat}{v:List Bk}(hv:D.vs[i]?=some v):∃ q c,Ru (Instr.loadAt 178 (.pointer (some (Addr.add (Addr.add ⟨vb,0,none⟩ i) 0)))) w (.slice (some ⟨q,0,none⟩) v.length c) w/\v.length<=c/\At w q 0 (v.map MO)/\R q/\q≠b/\q≠vb/\hs[i]?=some (q,c):=by
 obtain⟨q,c,h1,h2,h3,h4,h5,h6⟩:=h.row i v hv;refine⟨q,c,?_,h2,h3,h4,h5,h6,h1⟩;rw[Ad,Ad,Lo6];exact h.vec.at.load (by kernel_rfl) (bG h1 hv)
theorem We{w:World}{q i:Nat}{v:List Bk}{x:Bk}(h:At w q 0 (v.map MO))(hx:v[i]?=some x):Ru (Instr.loadAt 9 (.pointer (some (Addr.add ⟨q,0,none⟩ i)))) w (.string ⟨x.toArray⟩) w:=by
 rw[Ad];exact h.load (by kernel_rfl) (by rw[jK,hx];rfl)
theorem V9{v:List Bk}(h:v≠[]):v[v.length-1]?=some (BU v):=by
 rw[<- List.getLast?_eq_getElem?];unfold BU;rw[Lj4,List.getLast?_eq_some_getLast h];rfl
theorem Zk(h:BA w R b vb vc hs D){n:Int}(hk:K (.bool (decide (AD D n=0))) w):A8 Tryz.prog C8 #[.pointer (some ⟨b,0,none⟩),.int .i64 n] w K:=by
 apply Ku;unfold FY;refine Ac.cut (fun x w'=>x=[.bool (decide (AD D n=0))]/\w'=w) (Aa (fun hb=>?_) (fun hb=>?_)) ?_
 ·have hb:=Lc hb;refine⟨_,rfl,_,_,_,rv h,?_,rfl⟩
  congr 2;rw[Lu];simp only[Lw]
  unfold AD;split<;>omega
 ·have hb:=Lb hb;refine⟨?_,rfl⟩;have:AD D n=3:=by unfold AD;rw[if_pos (by omega)]
  rw[this];rfl
 ·rintro x w' ⟨rfl,rfl⟩;exact⟨_,rfl,hk⟩
theorem pD(h:BA w R b vb vc hs D)(hsm:Fd D){n:Int}(hk:∀ w' a c,Ab No w w'->QK w w' a (HU D n)->K (.tuple #[.slice a (HU D n).length c,.int .i64 (AD D n)]) w'):A8 Tryz.prog B3 #[.pointer (some ⟨b,0,none⟩),.int .i64 n] w K:=by
 apply Gq;unfold DZ;refine Zk h ⟨_,rfl,?_⟩;rcases Ew (D:=D) n with ⟨he,_⟩ | ⟨he,i,v,rfl,hv,hver⟩
 ·have hb:HU D n=[]:=by unfold HU;rw[if_neg (by omega)]
  refine tt (by rw[he];rfl) ?_
  have:=hk w none 0 (Ab.refl _ _) (.inl ⟨rfl,hb⟩)
  rw[hb,he]at this;exact this
 ·have hb:HU D i=BU v:=by unfold HU;rw[if_pos he,hver]
  have hvne:=(h.wf.ver v (Ly hv)).1;have hvp:=Lr4.2 hvne;have hvl:=hsm v (Ly hv);obtain⟨q,c,hl,hc,hat,_⟩:=rrow h hv;refine ff (by rw[he];rfl) ⟨_,rfl,_,_,_,rv h,_,Oe (Lh.1 hv).1,_,_,_,hl,?_⟩;rw[Ag (x:=(v.length:Int)-1) (by omega) (by omega),show(v.length:Int)-1=((v.length-1:Nat):Int) by omega];refine⟨_,YK (by omega),_,We hat (V9 hvne),?_⟩
  obtain⟨c2,w2,h2,at2,m2,_⟩:=NV (P:=Tryz.prog) (w:=w) (S:=9) (T:=88) (xs:=BU v) (by kernel_rfl);refine⟨_,_,_,w2,h2,?_⟩
  have:=hk w2 (some ⟨w.heap.size,0,none⟩) c2 m2 (.inr ⟨_,rfl,Ld _,by rw[hb];exact at2⟩)
  rw[hb,he]at this;exact this
theorem Zd(h:BA w R b vb vc hs D)(hk:K (.bool (decide (D.left=0))) w):A8 Tryz.prog Dl #[.pointer (some ⟨b,0,none⟩)] w K:=by
 apply Ju;unfold Fc;refine Ac.dup ⟨_,rfl,_,rh h,Aa (fun hb=>?_) (fun hb=>?_)⟩
 ·have hb:D.left≠-1:=by unfold N2 at hb;exact Lc hb
  refine⟨_,rfl,_,rl h,_,rfl,?_⟩;have:(Pq D==0)=decide (D.left=0):=by unfold Pq;rw[if_neg hb];rfl
  rw[this];exact hk
 ·have hb:D.left=-1:=by unfold N2 at hb;simpa using Lb hb
  refine⟨_,rfl,?_⟩;rw[hb]at hk;exact hk
end
end Go.Z
end
section
open Go Go.Den Go.Proofs
namespace Go.Den
theorem AbH{w:World}{q g o o':Nat}{x y:Value}{r r':List Value}(h:At w q o (x::r))(k:At w g o' (y::r'))(ho:o=o')(hne:x≠y):q≠g:=by
 rintro rfl;subst ho;obtain⟨l,t,fz,h1,h2,h3⟩:=h;obtain⟨l',t',fz',k1,k2,k3⟩:=k;rw[h1]at k1;simp at k1;obtain⟨rfl,_⟩:=k1;have a1:=F0 h3 0 (by simp);have a2:=F0 k3 0 (by simp);rw[a1]at a2;simp at a2;exact hne a2
theorem oJ{hs:List (Nat×Nat)}{vs:List (List Bk)}(h:hs.length=vs.length)(q c:Nat)(v:List Bk):Rn (hs++[(q,c)]) (vs++[v])=Rn hs vs++[.slice (some ⟨q,0,none⟩) v.length c]:=by
 unfold Rn;rw[List.zipWith_append h];rfl
end Go.Den
namespace Go.Z
theorem Vn:D5 Tryz.prog 221 1 (.slice none 0 0) 24:=by unfold D5;kernel_rfl
theorem PV:D5 Tryz.prog 178 1 (.string ByteArray.empty) 16:=by unfold D5;kernel_rfl
theorem NU(w:World)(s:ByteArray):(Instr.buildSlice 178 1 #[(0,.string s)]).run Tryz.prog w=.ok (.slice (some ⟨w.heap.size,0,none⟩) 1 1) (w.alloc (.cells ⟨[.string s]⟩ 9)):=by kernel_rfl
theorem mY(w:World)(a:Option Addr)(l c:Nat):(Instr.build 226 #[(0,.slice a l c)]).run Tryz.prog w=.ok (.agg ⟨[.slice a l c]⟩) w:=by kernel_rfl
theorem nD(w:World)(a:Option Addr)(l c:Nat):(Instr.buildSlice 221 1 #[(0,.agg ⟨[.slice a l c]⟩)]).run Tryz.prog w=.ok (.slice (some ⟨w.heap.size,0,none⟩) 1 1) (w.alloc (.cells ⟨[.slice a l c]⟩ 226)):=by kernel_rfl
theorem mZ(w:World):(Instr.build 223 #[]).run Tryz.prog w=.ok (.agg ⟨[.slice none 0 0,.bool false,.int .i64 0]⟩) w:=by kernel_rfl
structure dQ(w0 w:World)(b:Nat)(a:Option Addr)(l c:Nat)(hs:List (Nat×Nat))(vs:List (List Bk)):Prop where
 cell:A1 w b 0 [.slice a l c,.bool false,.int .i64 0]
 own:Ow Tryz.prog w (b+1) 221 1 a l c (Rn hs vs)
 hl:hs.length=vs.length
 row:∀(i:Nat)(v:List Bk),vs[i]?=some v->∃ q cc,hs[i]?=some (q,cc)/\v.length<=cc/\At w q 0 (v.map MO)/\v≠[]/\b<q
 mod:Ab No w0 w
 b0:w0.heap.size<=b
section
variable{w0 w:World}{b l c:Nat}{a:Option Addr}{hs:List (Nat×Nat)}{vs:List (List Bk)}{K:Value->World->Prop}
theorem dQ.len(h:dQ w0 w b a l c hs vs):l=vs.length:=by
 have:=h.own.len
 simp[Rn,h.hl]at this;exact this.symm
theorem dQ.nos{w':World}(h:dQ w0 w b a l c hs vs)(m:Ab No w w'):dQ w0 w' b a l c hs vs where
 cell:=h.cell.keep m id
 own:=h.own.nos m
 hl:=h.hl
 row:=fun i v hv=>by
  obtain⟨q,cc,h1,h2,h3,h4⟩:=h.row i v hv;exact⟨q,cc,h1,h2,h3.keep m id,h4⟩
 mod:=h.mod.no m
 b0:=h.b0
theorem dQ.ld(h:dQ w0 w b a l c hs vs):Ru (Instr.loadAt 221 (.pointer (some (Addr.add ⟨b,0,none⟩ 0)))) w (.slice a l c) w:=by
 rw[Ad];exact h.cell.at.load (by kernel_rfl) rfl
theorem dQ.start(w:World):dQ w (w.alloc (.cells (Value.agg ⟨[.slice none 0 0,.bool false,.int .i64 0]⟩).cells 223)) w.heap.size none 0 0 [] [] where
 cell:=A1.new
 own:=Ow.nil Vn
 hl:=rfl
 row:=fun i v hv=>by simp at hv
 mod:=(Ab.refl No w).alloc _
 b0:=Ld _
theorem Xy{i:Nat}{v:List Bk}(hl:hs.length=vs.length)(hv:vs[i]?=some v):∃ q cc u r,Rn hs vs=.slice (some ⟨q,0,none⟩) (List.length (u:List Bk)) cc::r:=by
 cases vs with
 | nil=>simp at hv
 | cons u r =>
  cases hs with
  | nil=>simp at hl
  | cons p r'=>exact⟨p.1,p.2,u,_,rfl⟩
theorem dQ.step(h : dQ w0 w b a l c hs vs)(x : Bk)(hl : l ≤ 5000) :
    ∃ a' c' w6 w7, Ru (Builtin.append_ #[221, 221] 221 #[.slice a l c, .slice (some ⟨(w.alloc (.cells ⟨[.string ⟨x.toArray⟩]⟩ 9)).heap.size, 0, none⟩) 1 1])
        ((w.alloc (.cells ⟨[.string ⟨x.toArray⟩]⟩ 9)).alloc (.cells ⟨[.slice (some ⟨w.heap.size, 0, none⟩) 1 1]⟩ 226)) (.slice a' (l + 1) c') w6 ∧
      Eh (Instr.storeAt 221 (.pointer (some (Addr.add ⟨b, 0, none⟩ 0))) (.slice a' (l + 1) c')) w6 w7 ∧ dQ w0 w7 b a' (l + 1) c' (hs ++ [(w.heap.size, 1)]) (vs ++ [[x]]) := by
  have m1 : Ab No w (w.alloc (.cells ⟨[.string ⟨x.toArray⟩]⟩ 9)) := (Ab.refl No w).alloc _;have atx : At (w.alloc (.cells ⟨[.string ⟨x.toArray⟩]⟩ 9)) w.heap.size 0 ([x].map MO) := A1.new.at;have hs1 : (w.alloc (.cells ⟨[.string ⟨x.toArray⟩]⟩ 9)).heap.size = w.heap.size + 1 := by simp
  have hb := h.cell.lt;generalize w.alloc (.cells ⟨[.string ⟨x.toArray⟩]⟩ 9) = w4 at *;have m2 : Ab No w4 (w4.alloc (.cells ⟨[.slice (some ⟨w.heap.size, 0, none⟩) 1 1]⟩ 226)) := (Ab.refl No w4).alloc _;have aty : At (w4.alloc (.cells ⟨[.slice (some ⟨w.heap.size, 0, none⟩) 1 1]⟩ 226)) w4.heap.size 0 [.slice (some ⟨w.heap.size, 0, none⟩) 1 1] := A1.new.at;have hs2 : (w4.alloc (.cells ⟨[.slice (some ⟨w.heap.size, 0, none⟩) 1 1]⟩ 226)).heap.size = w4.heap.size + 1 := by simp
  generalize w4.alloc (.cells ⟨[.slice (some ⟨w.heap.size, 0, none⟩) 1 1]⟩ 226) = w5 at *;have h5 := (h.nos m1).nos m2;have atx5 := atx.keep m2 id;obtain⟨a', c', w6, h6, o6, m6⟩ := h5.own.append' (ty := 221) (a2 := some ⟨w4.heap.size, 0, none⟩) (m := 1) (c2 := 1) (ys := [.slice (some ⟨w.heap.size, 0, none⟩) 1 1]) Vn (by omega) (.inr ⟨_, _, rfl, aty⟩) rfl (by simp) (by simp;rfl) (by omega) (by omega) (by omega)
  have hbq : ∀ q, a = some q → b + 1 ≤ q.block := fun q hq => (h5.own.base hq).1;have hbq2 : ∀ q, a = some q → q.block < w.heap.size := fun q hq => (h.own.base hq).2;have c6 := h5.cell.keep m6 (fun⟨q, hq, e⟩ => by have := hbq q hq;omega);obtain⟨w7, s1, s2, s3, s4⟩ := c6.store (P := Tryz.prog) (T := 221) (i := 0) (v := .slice a' (l + 1) c') (by kernel_rfl) (by simp) rfl;refine⟨a', c', w6, w7, h6, by rw[Ad];exact s1, ?_⟩
  exact { cell := by simpa using s2
          own := by
            rw[oJ h.hl];exact o6.keep s3 fun q hq e => by have := (o6.base hq).1;omega
          hl := by simp[h.hl]
          row := fun i v hv => by
            by_cases hi : i < vs.length
            · rw[xW hi]at hv
              obtain⟨q, cc, r1, r2, r3, r4, r5⟩ := h5.row i v hv;refine⟨q, cc, by rw[xW (by rw[h.hl];exact hi)];exact r1, r2, (r3.keep m6 fun⟨p, hp, e⟩ => ?_).keep s3 (by omega), r4, r5⟩;obtain⟨q1, c1, u1, r, hf⟩ := Xy h.hl hv;have hpos : 0 < l := by rw[h.len];omega
              obtain⟨g, hg, _, hat⟩ := h5.own.sm hpos;rw[hf]at hat;cases v with
              | nil => exact r4 rfl
              | cons y rr =>
                have := AbH r3 hat.at rfl (by simp[MO])
                rw[hg]at hp;cases hp;exact this e
            · have hi2 : i = vs.length := by
                have := (Lh.1 hv).1
                simp at this;omega
              subst hi2;rw[Le2 (Ld _), fG]at hv;simp at hv;subst hv;refine⟨w.heap.size, 1, by rw[← h.hl];simp, by simp, (atx5.keep m6 fun⟨p, hp, e⟩ => ?_).keep s3 (by omega), by simp, hb⟩
              have := hbq2 p hp;omega
          mod := ((h5.mod.trans m6 fun y hy ⟨q, hq, e⟩ => by have := hbq q hq;have := h.b0;omega).trans s3 fun y hy e => by have := h.b0;omega)
          b0 := h.b0 }
theorem dQ.done(h : dQ w0 w b a l c hs vs)(hwf : WF ⟨vs, -1⟩) : ∃ vb, BA w (fun x => w0.heap.size ≤ x ∧ x < w.heap.size) b vb c hs ⟨vs, -1⟩ := by
  have hlo := hwf.lo;have hlen := h.len;simp only at hlo;obtain⟨g, rfl, hg, hat⟩ := h.own.sm (by omega);have hcap := h.own.cap;have hb0 := h.b0;refine⟨g, ?_⟩
  exact { cell := by have := h.cell; rw [hlen] at this; exact this
          vec := hat
          cap := by simp only;omega
          hl := h.hl
          row := fun i v hv => by
            obtain⟨q, cc, r1, r2, r3, r4, r5⟩ := h.row i v hv;refine⟨q, cc, r1, r2, r3, ⟨by omega, r3.lt⟩, by omega, ?_⟩;obtain⟨q1, c1, u1, r, hf⟩ := Xy h.hl hv;rw[hf]at hat;cases v with
            | nil => exact absurd rfl r4
            | cons y rr => exact AbH r3 hat.at rfl (by simp[MO])
          rb := ⟨hb0, h.cell.lt⟩
          rv := ⟨by omega, hat.lt⟩
          ne := by omega
          wf := hwf
          lt := fun x hx => hx.2 }
end
section
variable{w:World}{K:Value->World->Prop}
theorem AdU(hk:∀ w',Ab No w w'->K (.string ⟨Dk.toArray⟩) w'):A8 Tryz.prog G1 #[] w K:=by
 apply Qv;unfold J8;obtain⟨w1,hm1,hat1,hmod1,hsz1⟩:=D3 (P:=Tryz.prog) (w:=w) (n:=256) AE (by omega) (by omega) (by omega);have hz:List.replicate (256*1) (Value.int .u8 0)=Au Dk:=by unfold Au Dk;rw[Ls5];rfl
 rw[hz]at hat1;exact⟨_,_,_,w1,hm1,_,GL (by kernel_rfl) (.inr ⟨_,_,rfl,hat1.at⟩) TV,hk w1 hmod1⟩
theorem vE{n:Int}(h0:-9223372036854775808<=n)(h1:n<=9223372036854775807)(hbad:n<1\/4096<n->K (.tuple #[.pointer none,.int .i64 1]) w)
  (hok:∀ k:Nat,n=k->1<=k->k<=4096->∀ w' b vb vc hs,Ab No w w'->BA w' (fun x=>w.heap.size<=x/\x<w'.heap.size) b vb vc hs (Bp k)->K (.tuple #[.pointer (some ⟨b,0,none⟩),.int .i64 0]) w') :
  A8 Tryz.prog Ha #[.int .i64 n] w K:=by
 apply Sk;unfold K6;refine Ac.or ⟨_,rfl,Aa (fun hb=>?_) (fun hb=>?_)⟩
 ·exact hbad (by simpa using hb)
 have hn:¬ (n<1\/4096<n):=by simpa using hb
 obtain⟨k,rfl⟩:=Wq (show 0<=n by omega);refine⟨_,fun w=>mZ w,_,_,I6,?_⟩;refine⟨fun x w2=>∃(i:Nat)(a:Option Addr)(c:Nat)(hs:List (Nat×Nat)),i<=k/\x=[.int .i64 i]/\dQ w w2 w.heap.size a i c hs (List.replicate i [Dk]),fun x _=>(k-nI x 0).toNat,⟨0,none,0,[],by omega,rfl,dQ.start w⟩,?_⟩;rintro x w2 ⟨i,a,c,hs,hi,rfl,hB⟩;refine⟨_,rfl,Aa (fun hb=>?_) (fun hb=>?_)⟩
 ·have hi:i<k:=by have:=Lc hb;omega
  have hBd:=hB.nos (Ab.refl No w2).drew;refine⟨_,rfl,_,_,_,hBd.ld,AdU fun w3 m3=>⟨_,rfl,(hBd.nos m3).ld,_,_,_,_,NU _ _,?_⟩⟩;have hB3:=hBd.nos m3;have m4:Ab No w3 (w3.alloc (.cells ⟨[.string ⟨Dk.toArray⟩]⟩ 9)):=(Ab.refl No w3).alloc _;refine⟨(hB3.nos m4).ld,_,fun w=>mY w _ _ _,_,_,_,_,nD _ _ _ _,?_⟩;have m5:Ab No (w3.alloc (.cells ⟨[.string ⟨Dk.toArray⟩]⟩ 9)) ((w3.alloc (.cells ⟨[.string ⟨Dk.toArray⟩]⟩ 9)).alloc (.cells ⟨[.slice (some ⟨w3.heap.size,0,none⟩) 1 1]⟩ 226)):=(Ab.refl No _).alloc _
  refine⟨((hB3.nos m4).nos m5).ld,?_⟩;obtain⟨a',c',w6,w7,s1,s2,s3⟩:=hB3.step Dk (by omega);refine⟨_,_,_,w6,s1,_,rfl,w7,s2,?_⟩;rw[Ag (x:=(i:Int)+1) (by omega) (by omega)];refine⟨⟨i+1,a',c',hs++[(w3.heap.size,1)],by omega,rfl,?_⟩,by simp[nI,Ap];omega⟩;have e:List.replicate (i+1) [Dk]=List.replicate i [Dk]++[[Dk]]:=List.replicate_succ';rw[e];exact s3
 ·have hik:i=k:=by have:=Lb hb;omega
  subst hik;obtain⟨vb,hR⟩:=hB.done (WF.new (by omega) (by omega));exact hok i rfl (by omega) (by omega) w2 _ vb c hs hB.mod hR
end
section
variable{w:World}{R:Nat->Prop}{b vb vc:Nat}{hs:List (Nat×Nat)}{D:St}{K:Value->World->Prop}
theorem mQ(h:BA w R b vb vc hs D){w':World}{left:Int}(hc:A1 w' b 0 [.slice (some ⟨vb,0,none⟩) D.vs.length vc,.bool (N2 ⟨D.vs,left⟩),.int .i64 (Pq ⟨D.vs,left⟩)])(m:Ab (fun x=>x=b) w w')(h0:-1<=left)(h1:left<=9223372036854775807) :
  BA w' R b vb vc hs ⟨D.vs,left⟩ where
 cell:=hc
 vec:=h.vec.keep m h.ne.symm
 cap:=h.cap
 hl:=h.hl
 row:=fun i v hv=>by
  obtain⟨q,c,r1,r2,r3,r4,r5,r6⟩:=h.row i v hv;exact⟨q,c,r1,r2,r3.keep m r5,r4,r5,r6⟩
 rb:=h.rb
 rv:=h.rv
 ne:=h.ne
 wf:={ ver:=h.wf.ver,lo:=h.wf.lo,hi:=h.wf.hi,l0:=h0,l1:=h1 }
 lt:=fun x hx=>jJ (h.lt x hx) m.size
theorem WO(h : BA w R b vb vc hs D){R' : Nat → Prop}{i q' c' : Nat}{v v' : List Bk}(hv : D.vs[i]? = some v)(hR : ∀ x, R x → R' x)(hq : R' q')(hlt : ∀ x, R' x → x < w.heap.size)
    (hat : At w q' 0 (v'.map MO)) (hqb : q' ≠ b) (hqv : q' ≠ vb) (hne : v' ≠ []) (hx : ∀ x ∈ v', x.length = 256) (hc : v'.length ≤ c') :
    ∃ w', Eh (Instr.storeAt 178 (.pointer (some (Addr.add (Addr.add ⟨vb, 0, none⟩ i) 0))) (.slice (some ⟨q', 0, none⟩) v'.length c')) w w' ∧ BA w' R' b vb vc (hs.set i (q', c')) ⟨D.vs.set i v', D.left⟩ ∧ Ab (fun x => x = vb) w w' := by
  have hilt := (Lh.1 hv).1;have hhl := h.hl;have hlen : (Rn hs D.vs).length = D.vs.length := by simp[Rn, h.hl]
  obtain⟨w', s1, s2, s3, s4⟩ := h.vec.store (P := Tryz.prog) (T := 178) (i := i) (v := .slice (some ⟨q', 0, none⟩) v'.length c') (by kernel_rfl) (by omega) rfl;refine⟨w', ?_, ?_, s3⟩
  · rw[Ad, Ad, Lo6];exact s1
  have hset : (Rn hs D.vs).set i (.slice (some ⟨q', 0, none⟩) v'.length c') = Rn (hs.set i (q', c')) (D.vs.set i v') := by
    apply mM;intro j;by_cases hj : i = j
    · subst hj
      rw[Zp (by omega), bG (Zp (by omega)) (Zp hilt)]
    · rw[ZK hj]
      simp[Rn, List.getElem?_zipWith, ZK hj]
  rw[hset]at s2
  exact { cell := by have := h.cell.keep s3 h.ne; simpa [N2, Pq] using this
          vec := s2
          cap := by simpa using h.cap
          hl := by simpa using h.hl
          row := fun j u hu => by
            by_cases hj : i = j
            · subst hj
              rw[Zp hilt]at hu
              have := Ln hu
              subst this;exact⟨q', c', Zp (by omega), hc, hat.keep s3 hqv, hq, hqb, hqv⟩
            · rw[ZK hj]at hu
              obtain⟨q, c, r1, r2, r3, r4, r5, r6⟩ := h.row j u hu;exact⟨q, c, by rw[ZK hj];exact r1, r2, r3.keep s3 r6, hR _ r4, r5, r6⟩
          rb := hR _ h.rb
          rv := hR _ h.rv
          ne := h.ne
          wf := { ver := fun y hy => by
                    rcases Lk4 hy with hy|rfl
                    · exact h.wf.ver y hy
                    · exact⟨hne, hx⟩
                  lo := by simpa using h.wf.lo
                  hi := by simpa using h.wf.hi
                  l0 := h.wf.l0
                  l1 := h.wf.l1 }
          lt := fun x hx => jJ (hlt x hx) s3.size }
theorem XO(h:BA w R b vb vc hs D)(h0:D.left=0->K (.bool false) w)
  (h1:D.left≠0->∀ w',BA w' R b vb vc hs ⟨D.vs,Ut D.left⟩->Ab (fun x=>x=b) w w'->K (.bool true) w'):A8 Tryz.prog CN #[.pointer (some ⟨b,0,none⟩)] w K:=by
 apply LI;unfold Gt;refine Zd h ⟨_,rfl,Aa (fun hb=>?_) (fun hb=>?_)⟩
 ·exact h0 (Lc hb)
 have hnz:=Lb hb;have hl0:=h.wf.l0;have hl1:=h.wf.l1;refine⟨_,rfl,_,rh h,Ac.dup (Aa (fun hb=>?_) (fun hb=>?_))⟩
 ·have hb:D.left≠-1:=by unfold N2 at hb;exact Lc hb
  have hlB:Pq D=D.left:=by unfold Pq;rw[if_neg hb]
  have hd:Ut D.left=D.left-1:=by unfold Ut;rw[if_neg (by omega)]
  obtain⟨w',s1,s2,s3,s4⟩:=h.cell.store (P:=Tryz.prog) (T:=3) (i:=2) (v:=.int .i64 (D.left-1)) (by kernel_rfl) (by simp) rfl;refine⟨_,rfl,_,rl h,_,rfl,w',?_,?_⟩
  ·rw[hlB,Ag (by omega) (by omega),Ad];exact s1
  refine h1 hnz w' (mQ h ?_ s3 (by rw[hd];omega) (by rw[hd];omega)) s3;have e1:N2 D=N2 ⟨D.vs,Ut D.left⟩:=by unfold N2;rw[hd];simp only;rw[Lu];simp only[Lw];omega
  have e2:Pq ⟨D.vs,Ut D.left⟩=D.left-1:=by unfold Pq;rw[hd];simp only;rw[if_neg (by omega)]
  rw[e2,<- e1];simpa using s2
 ·have hb:D.left=-1:=by unfold N2 at hb;simpa using Lb hb
  have hd:Ut D.left=D.left:=by rw[hb];rfl
  refine h1 hnz w ?_ (Ab.refl _ _);rw[hd];exact h
theorem SD{R:Nat->Prop}{w0 w':World}(hR:∀ x,R x->x<w0.heap.size)(hs:w0.heap.size<=w'.heap.size):∀ x,BJ R w0 w' x->x<w'.heap.size:=fun x hx=>by
 rcases hx with hx|hx
 ·have:=hR x hx;omega
 ·exact hx.2
theorem iE(h : BA w R b vb vc hs D)(hsm : ∀ v ∈ D.vs, v.length ≤ 999999){n : Int}{a : Option Addr}{l c : Nat}{ys : List UInt8}(hl : ys.length = l)(hr : Bl w a (Au ys))(hdis : ys ≠ [] → ∀ q, a = some q → ¬ R q.block)
    (hk : ∀ w' hs', Ab R w w' → BA w' (BJ R w w') b vb vc hs' (B8 D n ys) → K (.int .i64 (Um D n ys)) w') : A8 Tryz.prog Bh #[.pointer (some ⟨b, 0, none⟩), .int .i64 n, .slice a l c] w K := by
  apply Kt;unfold FX;have gro : ∀{w' : World}{hs' : List (Nat × Nat)} {D' : St}, BA w' R b vb vc hs' D' → BA w' (BJ R w w') b vb vc hs' D' := fun h' =>
    { cell := h'.cell, vec := h'.vec, cap := h'.cap, hl := h'.hl,
      row := fun i v hv => by obtain⟨q, c, r1, r2, r3, r4, r5⟩ := h'.row i v hv;exact⟨q, c, r1, r2, r3, .inl r4, r5⟩
      rb := .inl h'.rb, rv := .inl h'.rv, ne := h'.ne, wf := h'.wf
      lt := fun x hx => by
        rcases hx with hx|hx
        · exact h'.lt x hx
        · exact hx.2 }
  refine Zk h ⟨_, rfl, ?_⟩;rcases Ew (D := D) n with ⟨he, ho⟩ | ⟨he, i, v, rfl, hv, hver⟩
  · have hw : Um D n ys = 3 := by unfold Um;rw[he, if_pos (by omega)]
    have hS : B8 D n ys = D := by unfold B8;rw[if_pos (.inl (by omega))]
    refine tt (by rw[he];rfl) ?_
    have := hk w hs (Ab.refl _ _) (by rw[hS];exact gro h)
    rw[hw]at this;exact this
  refine ff (by rw[he];rfl) (Aa (fun hb => ?_) (fun hb => ?_))
  · have hne : ys.length ≠ 256 := by simp at hb;omega
    have hw : Um D i ys = 4 := by unfold Um;rw[he, if_neg (by omega), if_pos hne]
    have hS : B8 D i ys = D := by unfold B8;rw[if_pos (.inl (by omega))]
    have := hk w hs (Ab.refl _ _) (by rw[hS];exact gro h)
    rw[hw]at this;exact this
  have hl2 : l = 256 := by simp at hb;omega
  subst hl2;have hw : Um D i ys = 0 := by unfold Um;rw[he, if_neg (by omega), if_neg (by omega)]
  rw[hw]at hk;refine XO h (fun hz => ⟨_, rfl, tt rfl ?_⟩) fun hnz w2 h2 m2 => ⟨_, rfl, ff rfl ?_⟩
  · have hS : B8 D i ys = D := by unfold B8;rw[if_pos (.inr hz)]
    exact hk w hs (Ab.refl _ _) (by rw[hS];exact gro h)
  have hS : B8 D i ys = ⟨D.vs.set i (v ++ [ys]), Ut D.left⟩ := by unfold B8;rw[if_neg (by omega), hver];rfl
  rw[hS]at hk;have hilt := (Lh.1 hv).1;have hvne := (h.wf.ver v (Ly hv)).1;have hvlen := hsm v (Ly hv);obtain⟨q, cq, hrow, hcq, hat, hRq, hqb, hqv, _⟩ := rrow h2 (D := ⟨D.vs, Ut D.left⟩) hv;refine⟨_, rfl, _, _, _, rv h2, _, Oe hilt, _, _, _, hrow, ?_⟩;have YV : ∀(u : List Bk), ∀ y ∈ u.map MO, y.oneCell' = true := fun u y hy => by
    obtain⟨z, _, rfl⟩ := Li.1 hy;rfl
  obtain⟨a3, c3, w3, h3, o3, m3⟩ := (Ow.nil (P := Tryz.prog) (w := w2) (base := w2.heap.size) PV).append (ty := 178) PV (by omega) (a2 := some ⟨q, 0, none⟩) (m := v.length) (c2 := cq) (ys := v.map MO) (.inr ⟨_, _, rfl, hat⟩) (by simp) (fun e => by cases e) (YV v) (by omega) (by omega) (Ld _);simp only[Pj, QN]at h3 o3;have m3' : Ab No w2 w3 := (Ab.refl No w2).up m3 (Ld _)
  have hyne : ys ≠ [] := fun e => by rw[e]at hl;simp at hl
  have hb2 : ∀ q', a = some q' → q'.block ≠ b := fun q' hq' e => hdis hyne q' hq' (by rw[e];exact h.rb);have hr3 : Bl (Ah w3) a (Au ys) := ((hr.keep m2 fun q' hq' => hb2 q' hq').nos m3').nos (Ab.refl No w3).drew;have h3R := (h2.nos m3').drew;refine⟨_, _, _, w3, h3, _, rfl, _, _, _, rv h3R, _, GL (by kernel_rfl) hr3 hl, _, _, _, _, NU _ _, ?_⟩;have m4 : Ab No (Ah w3) ((Ah w3).alloc (.cells ⟨[.string ⟨ys.toArray⟩]⟩ 9)) := (Ab.refl No _).alloc _
  refine⟨rv (h3R.nos m4), ?_⟩;have hs4 : ((Ah w3).alloc (.cells ⟨[.string ⟨ys.toArray⟩]⟩ 9)).heap.size = w3.heap.size + 1 := by simp
  have aty : At ((Ah w3).alloc (.cells ⟨[.string ⟨ys.toArray⟩]⟩ 9)) (Ah w3).heap.size 0 ([ys].map MO) := A1.new.at;have h4R := h3R.nos m4;have o4 := (o3.nos (Ab.refl No w3).drew).nos m4;generalize (Ah w3).alloc (.cells ⟨[.string ⟨ys.toArray⟩]⟩ 9) = w4 at *;have hz2 := m2.size;have hz3 := m3'.size;obtain⟨a5, c5, w5, h5, o5, m5⟩ := o4.append (ty := 178) PV (by omega) (a2 := some ⟨(Ah w3).heap.size, 0, none⟩) (m := 1) (c2 := 1) (ys := [ys].map MO) (.inr ⟨_, _, rfl, aty⟩) (by simp) (fun e => by cases e) (YV [ys]) (by omega) (by omega) (by omega)
  have hlt2 : ∀ x, R x → x < w2.heap.size := h2.lt;have h5R := h4R.keep m5 fun x hx e => by have := hlt2 x hx;omega
  obtain⟨g, rfl, hg, hgat⟩ := o5.sm (by omega);have hz5 := m5.size;have hglt := hgat.lt;have hgat' : At w5 g 0 ((v ++ [ys]).map MO) := by rw[dT];exact hgat.at
  have hcap5 := o5.cap;refine⟨_, _, _, w5, h5, rv h5R, _, Oe hilt, ?_⟩;have hrb := hlt2 b h.rb;have hrvb := hlt2 vb h.rv;obtain⟨w6, t1, t2, t3⟩ := WO h5R (D := ⟨D.vs, Ut D.left⟩) (R' := BJ R w w5) (q' := g) (c' := c5) (v' := v ++ [ys]) hv (fun x hx => .inl hx) (.inr ⟨by omega, hglt⟩) (SD h.lt (by omega)) hgat' (by omega) (by omega) (by simp)
    (fun x hx => by
      rcases Lq.1 hx with hx|hx
      · exact(h.wf.ver v (Ly hv)).2 x hx
      · simp at hx;subst hx;omega) (by simp;omega)
  have hlv : (v ++ [ys]).length = v.length + 1 := by simp
  rw[hlv]at t1;refine⟨w6, t1, ?_⟩;have M2 : Ab R w w2 := m2.mono fun x _ e => by subst e;exact h.rb
  have M5 : Ab R w w5 := (((M2.no m3').no (Ab.refl No w3).drew).no m4).trans m5 fun x hx e => by omega
  have hz6 := t3.size;refine hk w6 (hs.set i (g, c5)) (M5.trans t3 fun x _ e => by subst e;exact h.rv) ?_
  exact { cell := t2.cell, vec := t2.vec, cap := t2.cap, hl := t2.hl
          row := fun j u hu => by
            obtain⟨q, cc, r1, r2, r3, r4, r5⟩ := t2.row j u hu
            exact ⟨q, cc, r1, r2, r3, by rcases r4 with r4 | r4
                                         · exact .inl r4
                                         · exact .inr ⟨r4.1, by omega⟩, r5⟩
          rb := .inl h.rb, rv := .inl h.rv, ne := h.ne, wf := t2.wf
          lt := SD h.lt (by omega) }
end
def NJ(D:St)(ks:List Nat)(f:Nat->List Bk->Bk):St:=⟨D.vs.mapIdx fun i v=>if i∈ks then [f i v]else v,D.left⟩
section
variable{w:World}{R:Nat->Prop}{b vb vc:Nat}{hs:List (Nat×Nat)}{D:St}{K:Value->World->Prop}
theorem AcY{A B:St}(h1:A.vs=B.vs)(h2:A.left=B.left):A=B:=by
 cases A;cases B;simp only at h1 h2;rw[h1,h2]
theorem RS{ks:List Nat}{f:Nat->List Bk->Bk}{i:Nat}{v:List Bk}(hv:D.vs[i]?=some v):(NJ D ks f).vs[i]?=some (if i∈ks then [f i v]else v):=by
 simp[NJ,qS,hv]
theorem pZ{ks:List Nat}{f:Nat->List Bk->Bk}{i:Nat}{v:List Bk}(hv:D.vs[i]?=some v):(NJ D ks f).vs.set i [f i v]=(NJ D (ks++[i]) f).vs:=by
 apply mM;intro j;by_cases hj:i=j
 ·subst hj;have hlt:i<(NJ D ks f).vs.length:=by simp[NJ];exact(Lh.1 hv).1
  rw[Zp hlt,RS hv,if_pos (by simp)]
 ·rw[ZK hj];cases hw:D.vs[j]? with
  | none=>simp[NJ,qS,hw]
  | some u =>
   rw[RS hw,RS hw];have:(j∈ks++[i])↔j∈ks:=by simp;intro e;exact absurd e.symm hj
   simp only[this]
theorem wL(D:St)(f:Nat->List Bk->Bk):NJ D [] f=D:=by
 have:(D.vs.mapIdx fun i v=>if i∈([]:List Nat)then [f i v]else v)=D.vs:=by
  apply mM;intro i;rw[qS];cases D.vs[i]?<;>simp
 unfold NJ;rw[this]
theorem wK{ks:List Nat}{f:Nat->List Bk->Bk}(h:∀ i v,D.vs[i]?=some v->i ∉ ks->v=[f i v]):(NJ D ks f).vs=(oZ D f).vs:=by
 unfold NJ oZ;apply mM;intro i;rw[qS,qS];cases hv:D.vs[i]? with
 | none=>rfl
 | some v =>
  simp only[La4];by_cases hi:i∈ks
  ·rw[if_pos hi]
  ·rw[if_neg hi,<- h i v hv hi]
theorem ZG{w0 w1 w2:World}(h:w1.heap.size<=w2.heap.size):∀ x,BJ R w0 w1 x->BJ R w0 w2 x:=fun x hx=>by
 rcases hx with hx|hx
 ·exact .inl hx
 ·exact .inr ⟨hx.1,by omega⟩
theorem _root_.Go.Den.BA.widen{R':Nat->Prop}(h:BA w R b vb vc hs D)(h1:∀ x,R x->R' x)(h2:∀ x,R' x->x<w.heap.size):BA w R' b vb vc hs D where
 cell:=h.cell
 vec:=h.vec
 cap:=h.cap
 hl:=h.hl
 row:=fun i v hv=>by obtain⟨q,c,r1,r2,r3,r4,r5⟩:=h.row i v hv;exact⟨q,c,r1,r2,r3,h1 _ r4,r5⟩
 rb:=h1 _ h.rb
 rv:=h1 _ h.rv
 ne:=h.ne
 wf:=h.wf
 lt:=h2
theorem AaI{w0:World}(hR:∀ x,R x->x<w0.heap.size)(hrb:R b)(hrv:R vb)(h:BA w (BJ R w0 w) b vb vc hs D)(hz:w0.heap.size<=w.heap.size){i:Nat}{v:List Bk}{x:Bk}(hv:D.vs[i]?=some v)(hx:x.length=256) :
  BA (w.alloc (.cells ⟨[.string ⟨x.toArray⟩]⟩ 9)) (BJ R w0 (w.alloc (.cells ⟨[.string ⟨x.toArray⟩]⟩ 9))) b vb vc hs D /\
  ∃ w',Eh (Instr.storeAt 178 (.pointer (some (Addr.add (Addr.add ⟨vb,0,none⟩ i) 0))) (.slice (some ⟨w.heap.size,0,none⟩) 1 1)) (w.alloc (.cells ⟨[.string ⟨x.toArray⟩]⟩ 9)) w' /\
   BA w' (BJ R w0 w') b vb vc (hs.set i (w.heap.size,1)) ⟨D.vs.set i [x],D.left⟩/\Ab R w w':=by
 have m1:Ab No w (w.alloc (.cells ⟨[.string ⟨x.toArray⟩]⟩ 9)):=(Ab.refl No w).alloc _;have hat:At (w.alloc (.cells ⟨[.string ⟨x.toArray⟩]⟩ 9)) w.heap.size 0 ([x].map MO):=A1.new.at;have hs1:(w.alloc (.cells ⟨[.string ⟨x.toArray⟩]⟩ 9)).heap.size=w.heap.size+1:=by simp
 generalize w.alloc (.cells ⟨[.string ⟨x.toArray⟩]⟩ 9)=w1 at *;have h1:=(h.nos m1).widen (R':=BJ R w0 w1) (ZG (by omega)) (SD hR (by omega));refine⟨h1,?_⟩;have hb:=hR b hrb;have hvb:=hR vb hrv;obtain⟨w2,s1,s2,s3⟩:=WO h1 (R':=BJ R w0 w1) (q':=w.heap.size) (c':=1) (v':=[x]) hv (fun _ h=>h) (.inr ⟨by omega,by omega⟩) h1.lt hat (by omega) (by omega) (by simp) (fun y hy=>by simp at hy;subst hy;exact hx) (by simp)
 have hz2:=s3.size;exact⟨w2,s1,s2.widen (ZG (by omega)) (SD hR (by omega)),(m1.mono fun _ _ h=>h.elim).trans s3 fun y _ e=>by subst e;exact hrv⟩
theorem iD(h:BA w R b vb vc hs D)(hsm:Fd D)(hk:∀ w' hs',Ab R w w'->BA w' (BJ R w w') b vb vc hs' (Dj D)->K (.int .i64 0) w'):A8 Tryz.prog Bv #[.pointer (some ⟨b,0,none⟩)] w K:=by
 apply Ks;unfold FW;refine XO h (fun hz=>⟨_,rfl,tt rfl ?_⟩) fun hnz w2 h2 m2=>⟨_,rfl,ff rfl ?_⟩
 ·have e:Dj D=D:=by unfold Dj;rw[if_pos hz]
  exact hk w hs (Ab.refl _ _) (by rw[e];exact h.widen (fun x hx=>.inl hx) (SD h.lt (Ld _)))
 have eF:Dj D=⟨D.vs.map fun v=>[BU v],Ut D.left⟩:=by unfold Dj;rw[if_neg hnz]
 rw[eF]at hk;have hhi:=h.wf.hi;have hz2:=m2.size;have M2:Ab R w w2:=m2.mono fun x _ e=>by subst e;exact h.rb
 generalize hD2:(⟨D.vs,Ut D.left⟩:St)=D2 at *;have hvs:D2.vs=D.vs:=by rw[<- hD2]
 have hn2:D2.vs.length=D.vs.length:=by rw[hvs]
 have hlt2:D2.left=Ut D.left:=by rw[<- hD2]
 refine⟨fun x w3=>∃(i:Nat)(hs':List (Nat×Nat)),i<=D2.vs.length/\x=[.int .i64 i]/\BA w3 (BJ R w w3) b vb vc hs' (NJ D2 (List.range i) fun _ v=>BU v)/\Ab R w w3/\w.heap.size<=w3.heap.size,fun x _=>(D2.vs.length-nI x 0).toNat,
  ⟨0,hs,by omega,rfl,by rw[List.range_zero,wL];exact h2.widen (fun x hx=>.inl hx) (SD h.lt hz2),M2,hz2⟩,?_⟩
 rintro x w3 ⟨i,hs',hi,rfl,h3,M3,hz3⟩;have hn3:(NJ D2 (List.range i) fun _ v=>BU v).vs.length=D2.vs.length:=by simp[NJ]
 have hrv3:=rv h3;rw[hn3]at hrv3;refine⟨_,rfl,_,rfl,_,_,_,hrv3,Aa (fun hb=>?_) (fun hb=>?_)⟩
 ·have hi:i<D2.vs.length:=by have:=Lc hb;omega
  have hv:D2.vs[i]?=some D2.vs[i]:=by simp[hi]
  have hv3:(NJ D2 (List.range i) fun _ v=>BU v).vs[i]?=some D2.vs[i]:=by rw[RS hv,if_neg (by simp)]
  have hvm:D2.vs[i]∈D.vs:=by rw[<- hvs];exact Tx hi
  have hvne:=(h.wf.ver _ hvm).1;have hvp:=Lr4.2 hvne;have hvl:=hsm _ hvm;have hll:(BU D2.vs[i]).length=256:=h2.wf.lastLen hv;obtain⟨q,cq,hrow,hcq,hat,_⟩:=rrow h3 hv3;refine⟨_,rfl,_,_,_,hrv3,_,Oe hi,_,_,_,hrow,_,rfl,?_⟩;have h3d:=h3.drew;have hrv3d:=rv h3d;rw[hn3]at hrv3d;refine⟨_,_,_,hrv3d,?_⟩;rw[Ag (x:=(D2.vs[i].length:Int)-1) (by omega) (by omega),show(D2.vs[i].length:Int)-1=((D2.vs[i].length-1:Nat):Int) by omega]
  refine⟨_,YK (by omega),_,We (show At (Ah w3) q 0 _ from hat) (V9 hvne),_,_,_,_,NU _ _,?_⟩;have h3g:BA (Ah w3) (BJ R w (Ah w3)) b vb vc hs' (NJ D2 (List.range i) fun _ v=>BU v):=h3d;obtain⟨h4,w5,s1,s2,s3⟩:=AaI (w0:=w) h.lt h.rb h.rv h3g hz3 hv3 hll;have hrv4:=rv h4;rw[hn3]at hrv4;refine⟨hrv4,_,Oe hi,w5,s1,?_⟩;rw[Ag (x:=(i:Int)+1) (by omega) (by omega)]
  have M5:Ab R w w5:=(M3.no (Ab.refl No w3).drew).trans s3 fun _ _ h=>h;refine⟨⟨i+1,hs'.set i ((Ah w3).heap.size,1),by omega,rfl,?_,M5,M5.size⟩,by simp[nI,Ap];omega⟩;have e:=pZ (ks:=List.range i) (f:=fun _ v=>BU v) hv;rw[<- Lw4]at e;rw[e]at s2;exact s2
 ·have hik:i=D2.vs.length:=by have:=Lb hb;omega
  subst hik;refine hk w3 hs' M3 ?_;have e:NJ D2 (List.range D2.vs.length) (fun _ v=>BU v)=⟨D.vs.map fun v=>[BU v],Ut D.left⟩:=by
   have h1:=wK (D:=D2) (ks:=List.range D2.vs.length) (f:=fun _ v=>BU v) (fun i v hv hi=>by
    have:=(Lh.1 hv).1
    simp at hi;omega)
   rw[VP]at h1;exact AcY (by rw[h1,<- hvs]) hlt2
  rw[e]at h3;exact h3
end
structure Rs where
 D:St
 base:List Bk
 l:List Ch
 last:Nat
structure WFR(S:Rs):Prop where
 len:S.base.length=S.D.vs.length
 small:Fd S.D
 bl:∀ b∈S.base,b.length=256
 dat:∀ x∈S.l,1<=x.data.length/\x.frm+x.data.length<=256
 blt:∀ x∈S.l,x.b<S.base.length
 srt:S.l.Pairwise fun x y=>x.id<y.id
 idr:∀ x∈S.l,1<=x.id/\x.id<=S.last
 aft:∀ x∈S.l,∀ k∈x.after,k<(x.id:Int)
 aftn:∀ x∈S.l,x.after.length<=1000000
 last:S.last<=1000000
theorem WFR.llen{S:Rs}(h:WFR S):S.l.length<=S.last:=by
 have hn:(S.l.map (·.id)).Nodup:=List.Pairwise.map _ (fun a b h=>by have h:a.id<b.id:=h;omega) h.srt
 have:=Lu3 hn (l₂:=(List.range S.last).map (·+1)) fun k hk=>by
  obtain⟨x,hx,rfl⟩:=Li.1 hk
  have:=h.idr x hx
  exact Li.2 ⟨x.id-1,Ty.2 (by omega),by omega⟩
 simpa using this
def dY(x:Ch)(h:Option Addr×Nat):List Value:=[.int .i64 x.id,.int .i64 x.b,.int .i64 x.frm,.string ⟨x.data.toArray⟩,.slice h.1 x.after.length h.2,.bool x.out]
def iI(l:List Ch)(H:List (Option Addr×Nat)):List Value:=(List.zipWith dY l H).flatten
theorem cR:∀{l:List Ch}{H:List (Option Addr×Nat)},H.length=l.length->(iI l H).length=l.length*6
 | [],[],_=>rfl
 | x::l,h::H,e=>by
  have e:H.length=l.length:=by simpa using e
  have:=cR e
  unfold iI at this |-;simp only[List.zipWith_cons_cons,mN,Ls,this,mO];simp[dY];omega
theorem VV:∀{l:List Ch}{H:List (Option Addr×Nat)} {i:Nat} {x:Ch} {h:Option Addr×Nat},l[i]?=some x->H[i]?=some h->((iI l H).drop (i*6)).take 6=dY x h
 | [],_,i,x,h,e,_=>by simp at e
 | _::_,[],i,x,h,_,e=>by simp at e
 | y::l,k::H,0,x,h,e1,e2=>by
  simp at e1 e2;subst e1;subst e2;simp[iI,dY]
 | y::l,k::H,i+1,x,h,e1,e2=>by
  have:=VV (l:=l) (H:=H) (i:=i) (x:=x) (h:=h) (by simpa using e1) (by simpa using e2)
  rw[<- this];unfold iI;rw[List.zipWith_cons_cons,mN,show(i+1)*6=(dY y k).length+i*6 by simp[dY];omega,<- UO];simp
theorem pK{l:List Ch}{H:List (Option Addr×Nat)}{i j:Nat}{x:Ch}{h:Option Addr×Nat}{v:Value}(h1:l[i]?=some x)(h2:H[i]?=some h)(hj:(dY x h)[j]?=some v):(iI l H)[i*6+j]?=some v:=by
 have hj6:j<6:=by have:=(Lh.1 hj).1;simpa [dY] using this
 rw[<- VV h1 h2,Lp3,if_pos hj6,Lv2]at hj;exact hj
structure ZL(w0:World)(R:Nat->Prop)(rl:Nat->Nat)(w:World)(rp r vb vc:Nat)(hs:List (Nat×Nat))(ba:Option Addr)(bc:Nat)(la:Option Addr)(lc:Nat)(H:List (Option Addr×Nat))(S:Rs):Prop where
 disk:BA w (fun x=>rl x=4) r vb vc hs S.D
 cell:A1 w rp 0 [.pointer (some ⟨r,0,none⟩),.slice ba S.base.length bc,.slice la S.l.length lc,.int .i64 S.last]
 base:Ow Tryz.prog w w0.heap.size 178 1 ba S.base.length bc (S.base.map MO)
 row:Ow Tryz.prog w w0.heap.size 179 6 la S.l.length lc (iI S.l H)
 hl:H.length=S.l.length
 aft:∀(i:Nat)(x:Ch)(h:Option Addr×Nat),S.l[i]?=some x->H[i]?=some h->Bl w h.1 (iL x.after)/\(x.after≠[]->∀ q,h.1=some q->rl q.block=5)
 rp1:rl rp=1
 rba:∀ q,ba=some q->rl q.block=2
 rla:∀ q,la=some q->rl q.block=3
 wf:WFR S
 reg:∀ x,rl x≠0->R x
 lo:∀ x,R x->w0.heap.size<=x/\x<w.heap.size
 mod:Ab No w0 w
section
variable{w0 w w':World}{R:Nat->Prop}{rl:Nat->Nat}{rp r vb vc bc lc:Nat}{hs:List (Nat×Nat)}{ba la:Option Addr}{H:List (Option Addr×Nat)}{S:Rs}{K:Value->World->Prop}
theorem ZL.keepS{Z:Nat->Prop}(h:ZL w0 R rl w rp r vb vc hs ba bc la lc H S)(k:Ab Z w w')(hsr:∀ x,R x->¬ Z x)(hw:∀ x,x<w0.heap.size->¬ Z x):ZL w0 R rl w' rp r vb vc hs ba bc la lc H S:=by
 have hr:∀{x},rl x≠0->¬ Z x:=fun hx=>hsr _ (h.reg _ hx)
 exact {
  disk:=h.disk.keep k fun x hx=>hr (by omega)
  cell:=h.cell.keep k (hr (by rw[h.rp1];omega))
  base:=h.base.keep k fun q hq=>hr (by rw[h.rba q hq];omega)
  row:=h.row.keep k fun q hq=>hr (by rw[h.rla q hq];omega)
  hl:=h.hl
  aft:=fun i x p h1 h2=>by
   obtain⟨g1,g2⟩:=h.aft i x p h1 h2;refine⟨?_,g2⟩;by_cases hne:x.after=[]
   ·rw[hne];exact .inl rfl
   ·exact g1.keep k fun q hq=>hr (by rw[g2 hne q hq];omega)
  rp1:=h.rp1
  rba:=h.rba
  rla:=h.rla
  wf:=h.wf
  reg:=h.reg
  lo:=fun x hx=>by have:=h.lo x hx;have:=k.size;omega
  mod:=h.mod.trans k fun x hx e=>absurd e (hw x hx) }
theorem ZL.nos(h:ZL w0 R rl w rp r vb vc hs ba bc la lc H S)(k:Ab No w w'):ZL w0 R rl w' rp r vb vc hs ba bc la lc H S:=h.keepS k (fun _ _=>id) fun _ _=>id
theorem ZL.lb(h:ZL w0 R rl w rp r vb vc hs ba bc la lc H S):Ru (Instr.loadAt 178 (.pointer (some (Addr.add ⟨rp,0,none⟩ 1)))) w (.slice ba S.base.length bc) w:=by
 rw[Ad];exact h.cell.at.load (by kernel_rfl) rfl
theorem ZL.ll(h:ZL w0 R rl w rp r vb vc hs ba bc la lc H S):Ru (Instr.loadAt 179 (.pointer (some (Addr.add ⟨rp,0,none⟩ 2)))) w (.slice la S.l.length lc) w:=by
 rw[Ad];exact h.cell.at.load (by kernel_rfl) rfl
theorem yI:Ei Tryz.prog 189=some 6:=by kernel_rfl
theorem gB:Nt Tryz.prog 179 6 72:=Nu (by kernel_rfl)
theorem ZL.at{i:Nat}{x:Ch}(h:ZL w0 R rl w rp r vb vc hs ba bc la lc H S)(hx:S.l[i]?=some x):∃ g p,la=some ⟨g,0,none⟩/\H[i]?=some p/\Al (Instr.indexAt 179 (.slice la S.l.length lc) (.int .i64 i)) (.pointer (some ⟨g,i*6,none⟩)) /\
  (∀(j:Nat)(T:TypeId)(v:Value),DQ Tryz.prog T=true->(dY x p)[j]?=some v->Ru (Instr.loadAt T (.pointer (some (Addr.add ⟨g,i*6,none⟩ j)))) w v w) /\
  Ru (Instr.loadAt 189 (.pointer (some ⟨g,i*6,none⟩))) w (.agg ⟨dY x p⟩) w/\Bl w p.1 (iL x.after):=by
 have hi:=(Lh.1 hx).1;obtain⟨g,rfl,hg,hat⟩:=h.row.sm (by omega);obtain⟨p,hp⟩:∃ p,H[i]?=some p:=⟨H[i]'(by rw[h.hl];exact hi),Lk (by rw[h.hl];exact hi)⟩;refine⟨g,p,rfl,hp,fun w'=>?_,fun j T v hT hj=>?_,?_,(h.aft i x p hx hp).1⟩
 ·have:=Ar (P:=Tryz.prog) (T:=179) (k:=6) (a:=⟨g,0,none⟩) (n:=S.l.length) (c:=lc) (kk:=.i64) (i:=i) (by kernel_rfl) (by omega) (by omega) w'
  rw[Ad,show 0+(i:Int).toNat*6=i*6 by omega]at this;exact this
 ·rw[Ad]
  have:=hat.at.load (P:=Tryz.prog) (i:=i*6+j) hT (pK hx hp hj)
  rwa [Pj]at this
 ·have:=hat.at.loadAgg (P:=Tryz.prog) (i:=i*6) yI (by rw[cR h.hl];omega)
  rw[VV hx hp,Pj]at this;exact this
theorem vL(h:ZL w0 R rl w rp r vb vc hs ba bc la lc H S){n:Int}(hk:K (.bool (decide (0<=n/\n<S.base.length))) w):A8 Tryz.prog Dz #[.pointer (some ⟨rp,0,none⟩),.int .i64 n] w K:=by
 apply Kg;unfold Fu;refine Ac.dup (Aa (fun hb=>⟨_,rfl,_,_,_,h.lb,_,rfl,?_⟩) (fun hb=>⟨_,rfl,?_⟩))
 ·have hb:=Lc hb;rw[show decide (n<(S.base.length:Int))=decide (0<=n/\n<S.base.length) by rw[Lu];simp only[Lw];omega];exact hk
 ·have hb:=Lb hb;rw[show false=decide (0<=n/\n<S.base.length) by rw[Lu];simp;omega];exact hk
theorem yQ(w:World)(cs:List Value):(Instr.box 189 (.agg ⟨cs⟩)).run Tryz.prog w=.ok (.pointer (some ⟨w.heap.size,0,none⟩)) (w.alloc (.cells ⟨cs⟩ 189)):=rfl
def AfZ(x y:Ch):Bool:=decide (x.b=y.b)&&HN x y
end
section
variable{w0 w w':World}{R:Nat->Prop}{rl:Nat->Nat}{rp r vb vc bc lc:Nat}{hs:List (Nat×Nat)}{ba la:Option Addr}{H:List (Option Addr×Nat)}{S:Rs}{K:Value->World->Prop}
theorem lH{a0 a2:Option Addr}{l0 c0 l2 c2 i:Nat}{b ys:List UInt8}(hb:b.length=l0)(hy:ys.length=l2)(hin:i+l2<=l0)(h63:l0<=1048576)(hc:l0<=c0)(h0:Bl w a0 (Au b))(h2:Bl w a2 (Au ys))(hn0:a0≠none)(hn2:a2≠none)
  (hk:∀ w' a c,Ab No w w'->Ow Tryz.prog w' w.heap.size 88 1 a l0 c (Au (B2 b i ys))->K (.tuple #[.slice a l0 c,.int .i64 0]) w'):A8 Tryz.prog EU #[.slice a0 l0 c0,.int .i64 i,.slice a2 l2 c2] w K:=by
 subst hb;subst hy;apply Si;unfold K4;refine Ac.cut (fun z w1=>w=w1/\z=[.bool false]) (ff (by simp) (ff (by simp;omega) ⟨rfl,?_⟩)) ?_
 ·rw[Ag (x:=(b.length:Int)-i) (by omega) (by omega),Lf (by omega)]
 rintro z w1 ⟨rfl,rfl⟩;refine⟨_,rfl,ff rfl ⟨_,_,_,H4 (k:=1) (by kernel_rfl) (by omega) (by omega),?_⟩⟩;rw[show(i:Int).toNat=i by omega];have hcut:∀ k,Cb a0 c0 k 1≠none:=fun k=>by
  unfold Cb;split
  ·exact hn0
  ·obtain⟨q,rfl⟩:=Option.ne_none_iff_exists'.1 hn0;simp
 have r1:Bl w (Cb a0 c0 0 1) (Au (b.take i)):=by
  by_cases hm:i=0
  ·left;rw[hm];rfl
  ·have:=h0.sub (i:=0) (m:=i) (c:=c0) (by omega) hc (by omega)
   rwa [Uq]at this
 obtain⟨a3,c3,w2,run2,o2,m2⟩:=(Ow.nil (P:=Tryz.prog) (w:=w) (base:=w.heap.size) AE).append' (ty:=88) (m:=i) (c2:=c0) AE (by omega) r1 (by simp;omega) (hcut 0) (BF _) (by omega) (by omega) (Ld _);have M2:Ab No w w2:=m2.mono fun x _ ⟨q,e,_⟩=>by cases e
 refine⟨_,_,_,w2,run2,?_⟩;have hz2:=M2.size;obtain⟨a4,c4,w3,run3,o3,m3⟩:=o2.append' (ty:=88) (m:=ys.length) (c2:=c2) AE (by omega) (h2.nos M2) (by simp) hn2 (BF _) (by omega) (by omega) (by omega);have M3:Ab No w w3:=M2.trans m3 fun x hx ⟨q,e,e2⟩=>by have:=(o2.base e).1;omega
 refine⟨_,_,_,w3,run3,?_⟩;have hz3:=M3.size;rw[Ag (x:=(i:Int)+(ys.length:Int)) (by omega) (by omega)];refine⟨_,_,_,F7 (k:=1) (by kernel_rfl) (by omega) (by omega),?_⟩;rw[show((i:Int)+(ys.length:Int)).toNat=i+ys.length by omega];have r4:Bl w3 (Cb a0 c0 (i+ys.length) 1) (Au (b.drop (i+ys.length))):=by
  by_cases hm:b.length-(i+ys.length)=0
  ·left;rw[Lt (by omega)];rfl
  ·have:=(h0.nos M3).sub (i:=i+ys.length) (m:=b.length-(i+ys.length)) (c:=c0) (by omega) hc (by omega)
   rwa [Lg (by simp)]at this
 have hn4:=hcut (i+ys.length);obtain⟨a5,c5,w4,run4,o4,m4⟩:=o3.append' (ty:=88) (m:=b.length-(i+ys.length)) (c2:=c0-(i+ys.length)) AE (by omega) r4 (by simp) hn4 (BF _) (by omega) (by omega) (by omega);have M4:Ab No w w4:=M3.trans m4 fun x hx ⟨q,e,e2⟩=>by have:=(o3.base e).1;omega
 refine⟨_,_,_,w4,run4,?_⟩;have hl:0+i+ys.length+(b.length-(i+ys.length))=b.length:=by omega
 rw[hl]at o4 |-;refine hk w4 a5 c5 M4 ?_;have e:[]++Au (b.take i)++Au ys++Au (b.drop (i+ys.length))=Au (B2 b i ys):=by
  unfold B2 Au;simp
 rwa [e]at o4
theorem Ad4{a0:Option Addr}{c0:Nat}{b:Bk}{x:Ch}{p:Option Addr×Nat}(hb:b.length=256)(hx:x.frm+x.data.length<=256)(hc:256<=c0)(h0:Bl w a0 (Au b))
  (hk:∀ w' a c,Ab No w w'->Ow Tryz.prog w' w.heap.size 88 1 a 256 c (Au (B2 b x.frm x.data))->K (.slice a 256 c) w'):A8 Tryz.prog G5 #[.slice a0 256 c0,.agg ⟨dY x p⟩] w K:=by
 apply Q2;unfold JF;refine⟨_,_,yQ _ _,?_⟩;have a1:At (w.alloc (.cells ⟨dY x p⟩ 189)) w.heap.size 0 (dY x p):=A1.new.at;have m1:Ab No w (w.alloc (.cells ⟨dY x p⟩ 189)):=(Ab.refl No w).alloc _;generalize w.alloc (.cells ⟨dY x p⟩ 189)=w1 at *;have l1:∀(j:Nat)(T:TypeId)(v:Value),DQ Tryz.prog T=true->(dY x p)[j]?=some v->Ru (Instr.loadAt T (.pointer (some (Addr.add ⟨w.heap.size,0,none⟩ j)))) w1 v w1:=fun j T v hT hj=>by rw[Ad];exact a1.load hT hj
 obtain⟨cc,w2,c1,c2,c3,c4⟩:=NV (P:=Tryz.prog) (w:=w1) (S:=9) (T:=88) (xs:=x.data) (by kernel_rfl);refine⟨_,l1 2 _ _ (by kernel_rfl) rfl,_,l1 3 _ _ (by kernel_rfl) rfl,_,_,_,w2,c1,?_⟩;have hz1:=m1.size;have hz3:=c3.size;have hn0:a0≠none:=by
  rcases h0 with h0|⟨q,o,e,_⟩
  ·exact absurd h0 (Ad3 (fun e=>by rw[e]at hb;simp at hb))
  ·rw[e];simp
 refine lH (b:=b) (ys:=x.data) hb rfl hx (by omega) hc ((h0.nos m1).nos c3) (.inr ⟨_,_,rfl,c2.at⟩) hn0 (by simp) fun w3 a c m3 o3=>⟨_,_,_,_,rfl,?_⟩;exact hk w3 a c ((m1.no c3).no m3) (o3.mono (by omega))
def rdR(S:Rs)(b:Nat)(f:Ch->Bool):Bk:=AW ((S.base[b]?).getD []) (S.l.filter f)
theorem vC{S:Rs}{b i:Nat}{f:Ch->Bool}(hi:i<S.l.length):AW ((S.base[b]?).getD []) ((S.l.take (i+1)).filter f)=if f S.l[i]=true then B2 (AW ((S.base[b]?).getD []) ((S.l.take i).filter f)) S.l[i].frm S.l[i].data else AW ((S.base[b]?).getD []) ((S.l.take i).filter f):=by
 rw[Ll hi,jG];split
 ·rename_i e;rw[show [S.l[i]].filter f=[S.l[i]] by simp[e],Qi]
 ·rename_i e;rw[show [S.l[i]].filter f=[] by simp[e],fH]
theorem ZL.bas(h:ZL w0 R rl w rp r vb vc hs ba bc la lc H S){b:Nat}(hb:b<S.base.length):∃ g,ba=some ⟨g,0,none⟩/\Al (Instr.indexAt 178 (.slice ba S.base.length bc) (.int .i64 b)) (.pointer (some ⟨g,b,none⟩))/\Ru (Instr.loadAt 9 (.pointer (some ⟨g,b,none⟩))) w (.string ⟨S.base[b].toArray⟩) w/\S.base[b].length=256:=by
 obtain⟨g,rfl,hg,hat⟩:=h.base.sm (by omega);refine⟨g,rfl,fun w'=>?_,?_,h.wf.bl _ (Tx hb)⟩
 ·have:=Ar (P:=Tryz.prog) (T:=178) (k:=1) (a:=⟨g,0,none⟩) (n:=S.base.length) (c:=bc) (kk:=.i64) (i:=b) (by kernel_rfl) (by omega) (by omega) w'
  rw[Ad,show 0+(b:Int).toNat*1=b by omega]at this;exact this
 ·have:=hat.at.load (P:=Tryz.prog) (T:=9) (i:=b) (v:=MO S.base[b]) (by kernel_rfl) (by simp[hb])
  rwa [Pj]at this
theorem AaS(h:WFR S){b n:Nat}{f:Ch->Bool}(hb:b<S.base.length):(AW ((S.base[b]?).getD []) ((S.l.take n).filter f)).length=256:=by
 refine LF ?_ _ fun x hx=>(h.dat x (Ly3 (QM.1 hx).1)).2;rw[Lk hb];exact h.bl _ (Tx hb)
end
section
variable{w:World}{K:Value->World->Prop}
def nmF(xs:List UInt8)(j:Nat):Nd:={ CS xs with p:=(List.range 8).map fun k=>if k<j then Fa xs k else 0 }
theorem AaD(xs:List UInt8)(j:Nat):(nV (nmF xs j)).length=12:=rfl
theorem AaE{xs:List UInt8}{j:Nat}(hj:j<8):(nV (nmF xs j)).set (4+j) (.int .i64 (Fa xs j))=nV (nmF xs (j+1)):=by
 match j,hj with
 | 0,_=>rfl
 | 1,_=>rfl
 | 2,_=>rfl
 | 3,_=>rfl
 | 4,_=>rfl
 | 5,_=>rfl
 | 6,_=>rfl
 | 7,_=>rfl
set_option maxRecDepth 8000 in
theorem pG{a : Option Addr}{l c : Nat}{xs : List UInt8}(hl : xs.length = l)(hc : l ≤ c)(hr : Bl w a (Au xs))(h63 : l ≤ 1048576)
    (hk : ∀ w', Ab No w w' → K (.tuple #[.agg ⟨nV (Kk xs).1⟩, .int .i64 (Kk xs).2]) w') : A8 Tryz.prog Hc #[.slice a l c] w K := by
  apply Ss;unfold KD;obtain⟨w1, b1, b2, b3, b4⟩ := A9 (P := Tryz.prog) (w := w) (T := 218) DP;have fin : ∀(w' : World)(i : Nd)(e : Int), Ab No w1 w' → (i, e) = Kk xs → ∃ w3 : World, Eh (Instr.storeAt 218 (.pointer (some ⟨w.heap.size, 0, none⟩)) (.agg ⟨nV i⟩)) w' w3 ∧ ∃ gR2 : Array Value, Ru (Instr.loadAt 218 (.pointer (some ⟨w.heap.size, 0, none⟩))) w3 (.agg gR2) w3 ∧ K (.tuple #[.agg gR2, .int .i64 e]) w3 := fun w' i e m he => by
    have hw : Ui i := by have := YM xs;rw[← he]at this;exact this
    obtain⟨w3, c1, c2, c3, c4⟩ := (b2.keep m id).put (T := 218) (vs := nV i) AS rfl (C4 hw) (Ht _);refine⟨w3, c1, _, c2.at.all AS (C4 hw), ?_⟩
    have := hk w3 ((b3.no m).own c3 (Ld _))
    rw[← he]at this;exact this
  refine⟨_, w1, b1, ?_⟩;rw[Di];refine Aa (fun h => ⟨_, CY, ?_⟩) (fun h => ?_)
  · have h := Lc h
    exact fin w1 nZ 4 (Ab.refl _ _) (by unfold Kk;rw[if_pos (by omega)])
  have hl2 : xs.length = 64 := by have := Lb h;omega
  have hl' : l = 64 := by omega
  subst hl';have hr1 := hr.nos b3;have h00 : 0 < xs.length := by omega
  obtain⟨bb, oo, rfl, _⟩ := Mi hr h00;have at0 : ∀{w' : World}, Ab No w1 w' → At w' bb oo (Au xs) := fun m => by
    obtain⟨b', o', e, h⟩ := Mi (hr1.nos m) h00;cases e;exact h
  have ex0 : (xs.getD 0 0) = xs[0] := by rw[Lj, Lk h00];rfl
  have l0 : ∀{w' : World}, Ab No w1 w' → Ru (Instr.loadAt 5 (.pointer (some (Addr.add ⟨bb, oo, none⟩ ((0 : Int).toNat * 1))))) w' (.int .u8 (xs[0].toNat : Int)) w' := fun m => by
    rw[Ad];exact(at0 m).load (i := 0) LC (CP h00)
  have n2 : BW ((xs.drop 2).take 2) < 256 ^ 2 := Dv (by omega);have n4 : BW ((xs.drop 4).take 4) < 256 ^ 4 := Dv (by omega);have hx0 := xs[0].toNat_lt;have eN : (⟨IntKind.i64.wrap (xs[0].toNat : Int), IntKind.i64.wrap (BW ((xs.drop 2).take 2) : Int), IntKind.i64.wrap (BW ((xs.drop 4).take 4) : Int), IntKind.i64.wrap (BW ((xs.drop 8).take 8) : Int), [0, 0, 0, 0, 0, 0, 0, 0]⟩ : Nd) = NC xs := by
    unfold NC CS;rw[Ag (x := (xs[0].toNat : Int)) (by omega) (by omega), Ag (x := (BW ((xs.drop 2).take 2) : Int)) (by omega) (by omega), Ag (x := (BW ((xs.drop 4).take 4) : Int)) (by omega) (by omega), ex0]
  have tail : ∀(w5 : World)(q : Nat), Ab No w1 w5 → w1.heap.size ≤ q → A1 w5 q 0 (nV nZ) →
      ∃ w7 : World, Eh (Instr.storeAt 218 (.pointer (some ⟨q, 0, none⟩)) (.agg ⟨nV (NC xs)⟩)) w5 w7 ∧ A6 (fun k x w8 =>
       ∃ n5 : Int, Ap x 0 = .int .i64 n5 ∧ (bif decide (n5 < 6)then
       ∃(a41 : Option Addr)(l41 c41 : Nat), Al (Instr.sliceAt 88 (.slice (some ⟨bb, oo, none⟩) 64 c) (some (.int .i64 (IntKind.i64.wrap (16 + (IntKind.i64.wrap (2 * n5)))))) (some (.int .i64 (IntKind.i64.wrap (18 + (IntKind.i64.wrap (2 * n5)))))) none) (.slice a41 l41 c41) ∧ A8 Tryz.prog Ai #[.slice a41 l41 c41] w8 fun r42 w9 => ∃ n42 : Int, r42 = .int .u64 n42 ∧ ∃ q45 : Addr, Al (Instr.indexAt 216 (.pointer (some (Addr.add ⟨q, 0, none⟩ 4))) (.int .i64 n5)) (.pointer (some q45)) ∧ ∃ w10 : World, Eh (Instr.storeAt 3 (.pointer (some q45)) (.int .i64 (IntKind.i64.wrap n42))) w9 w10 ∧ k [.int .i64 (IntKind.i64.wrap (n5 + 1))] w10
       else
       ∃(a47 : Option Addr)(l47 c47 : Nat), Al (Instr.sliceAt 88 (.slice (some ⟨bb, oo, none⟩) 64 c) (some (.int .i64 28)) (some (.int .i64 30)) none) (.slice a47 l47 c47) ∧ A8 Tryz.prog Ai #[.slice a47 l47 c47] w8 fun r48 w11 => ∃ n48 : Int, r48 = .int .u64 n48 ∧ ∃ w12 : World, Eh (Instr.storeAt 3 (.pointer (some (Addr.add ⟨q, 0, none⟩ 10))) (.int .i64 (IntKind.i64.wrap n48))) w11 w12 ∧ ∃(a52 : Option Addr)(l52 c52 : Nat), Al (Instr.sliceAt 88 (.slice (some ⟨bb, oo, none⟩) 64 c) (some (.int .i64 30)) (some (.int .i64 32)) none) (.slice a52 l52 c52) ∧ A8 Tryz.prog Ai #[.slice a52 l52 c52] w12 fun r53 w13 => ∃ n53 : Int, r53 = .int .u64 n53 ∧ ∃ w14 : World, Eh (Instr.storeAt 3 (.pointer (some (Addr.add ⟨q, 0, none⟩ 11))) (.int .i64 (IntKind.i64.wrap n53))) w13 w14 ∧ ∃ g57 : Array Value, Ru (Instr.loadAt 218 (.pointer (some ⟨q, 0, none⟩))) w14 (.agg g57) w14 ∧ A8 Tryz.prog BO #[.agg g57] w14 fun r58 w15 => ∃(a58a : Option Addr)(l58a c58a : Nat), ∃ n58b : Int, r58 = .tuple #[.slice a58a l58a c58a, .int .i64 n58b] ∧ Ac (fun k_2 => (bif n58b != 0 then k_2 [.bool true] w15 else ∃ s65 : ByteArray, Ru (convert 88 9 (.slice a58a l58a c58a)) w15 (.string s65) w15 ∧ ∃ s67 : ByteArray, Ru (convert 88 9 (.slice (some ⟨bb, oo, none⟩) 64 c)) w15 (.string s67) w15 ∧ k_2 [.bool (!((ByteArray.toList s65) == (ByteArray.toList s67)))] w15)) fun x_2 w16 =>
       ∃ b69 : Bool, Ap x_2 0 = .bool b69 ∧ (bif b69 then
       ∃ g70 : Array Value, Al (Instr.build 218 #[]) (.agg g70) ∧ ∃ w17 : World, Eh (Instr.storeAt 218 (.pointer (some ⟨w.heap.size, 0, none⟩)) (.agg g70)) w16 w17 ∧ ∃ gR2_2 : Array Value, Ru (Instr.loadAt 218 (.pointer (some ⟨w.heap.size, 0, none⟩))) w17 (.agg gR2_2) w17 ∧ K (.tuple #[.agg gR2_2, .int .i64 8]) w17
       else
       ∃ g71 : Array Value, Ru (Instr.loadAt 218 (.pointer (some ⟨q, 0, none⟩))) w16 (.agg g71) w16 ∧ ∃ w18 : World, Eh (Instr.storeAt 218 (.pointer (some ⟨w.heap.size, 0, none⟩)) (.agg g71)) w16 w18 ∧ ∃ gR2_3 : Array Value, Ru (Instr.loadAt 218 (.pointer (some ⟨w.heap.size, 0, none⟩))) w18 (.agg gR2_3) w18 ∧ K (.tuple #[.agg gR2_3, .int .i64 0]) w18))) [.int .i64 0] w7 := by
    intro w5 q m5 hq hat;obtain⟨w7, c1, c2, c3, c4⟩ := hat.put (T := 218) (vs := nV (NC xs)) AS rfl rfl (Ht _);have m7 : Ab No w1 w7 := m5.own c3 hq;refine⟨w7, c1, ?_⟩;have c2 : A1 w7 q 0 (nV (nmF xs 0)) := c2;refine⟨fun x w9 => ∃ j : Nat, j ≤ 6 ∧ x = [.int .i64 j] ∧ A1 w9 q 0 (nV (nmF xs j)) ∧ Ab No w1 w9, fun x _ => (6 - nI x 0).toNat, ⟨0, by omega, rfl, c2, m7⟩, ?_⟩;rintro x w9 ⟨j, hj, rfl, ha, m9⟩
    refine⟨_, rfl, Aa (fun hl => ?_) (fun hl => ?_)⟩
    · have hl := Lc hl
      have e1 : IntKind.i64.wrap (16 + (IntKind.i64.wrap (2 * (j : Int)))) = ((16 + 2 * j : Nat) : Int) := by rw[Ag (x := 2 * (j : Int)) (by omega) (by omega), Ag (by omega) (by omega)];omega
      have e2 : IntKind.i64.wrap (18 + (IntKind.i64.wrap (2 * (j : Int)))) = ((18 + 2 * j : Nat) : Int) := by rw[Ag (x := 2 * (j : Int)) (by omega) (by omega), Ag (by omega) (by omega)];omega
      rw[e1, e2];have nj : BW ((xs.drop (16 + 2 * j)).take 2) < 256 ^ 2 := Dv (by omega);refine⟨_, _, _, Be Am (by omega) (by omega) (by omega), ?_⟩;rw[show((16 + 2 * j : Nat) : Int).toNat = 16 + 2 * j by omega];refine Ud (i := 16 + 2 * j) (m := 2) hl2 hc (hr1.nos m9) (by omega) (by omega) (by omega) ⟨_, rfl, _, B5 WU (by omega) (by omega), ?_⟩;rw[Ag (x := (BW ((xs.drop (16 + 2 * j)).take 2) : Int)) (by omega) (by omega)]
      obtain⟨w11, p1, p2, p3, p4⟩ := ha.putE (P := Tryz.prog) (T := 3) (j := 4) (i := j) (v := .int .i64 (Fa xs j)) Aj (by rw[AaD];omega) rfl;rw[AaE (by omega)]at p2;rw[Ag (x := (j : Int) + 1) (by omega) (by omega)];exact⟨w11, p1, ⟨j + 1, by omega, by simp, p2, m9.own p3 hq⟩, by simp[nI, Ap];omega⟩
    have hl := Lb hl;have hj6 : j = 6 := by omega
    subst hj6;have n28 : BW ((xs.drop 28).take 2) < 256 ^ 2 := Dv (by omega);have n30 : BW ((xs.drop 30).take 2) < 256 ^ 2 := Dv (by omega);refine⟨_, _, _, Be Am (by omega) (by omega) (by omega), ?_⟩;refine Ud (i := 28) (m := 2) hl2 hc (hr1.nos m9) (by omega) (by omega) rfl ⟨_, rfl, ?_⟩;rw[Ag (x := (BW ((xs.drop 28).take 2) : Int)) (by omega) (by omega)];obtain⟨w13, s1, s2, s3, s4⟩ := ha.putF (P := Tryz.prog) (T := 3) (j := 10) (v := .int .i64 (Fa xs 6)) Aj (show 10 < 12 by decide) rfl
    have m13 := m9.own s3 hq;refine⟨w13, s1, _, _, _, Be Am (by omega) (by omega) (by omega), ?_⟩;refine Ud (i := 30) (m := 2) hl2 hc (hr1.nos m13) (by omega) (by omega) rfl ⟨_, rfl, ?_⟩;rw[Ag (x := (BW ((xs.drop 30).take 2) : Int)) (by omega) (by omega)];obtain⟨w14, t1, t2, t3, t4⟩ := s2.putF (P := Tryz.prog) (T := 3) (j := 11) (v := .int .i64 (Fa xs 7)) Aj (show 11 < 12 by decide) rfl
    have t2 : A1 w14 q 0 (nV (CS xs)) := t2;have M14 : Ab No w1 w14 := m13.own t3 hq;refine⟨w14, t1, _, t2.at.all AS rfl, ?_⟩
    have last : ∀(w12 : World)(b : Bool), Ab No w14 w12 → (b = false ↔ RC (CS xs) = true ∧ MN (CS xs) = xs) → ∃ b69 : Bool, Ap [.bool b] 0 = .bool b69 ∧ (bif b69 then
       ∃ g70 : Array Value, Al (Instr.build 218 #[]) (.agg g70) ∧ ∃ w17 : World, Eh (Instr.storeAt 218 (.pointer (some ⟨w.heap.size, 0, none⟩)) (.agg g70)) w12 w17 ∧ ∃ gR2_2 : Array Value, Ru (Instr.loadAt 218 (.pointer (some ⟨w.heap.size, 0, none⟩))) w17 (.agg gR2_2) w17 ∧ K (.tuple #[.agg gR2_2, .int .i64 8]) w17
       else
       ∃ g71 : Array Value, Ru (Instr.loadAt 218 (.pointer (some ⟨q, 0, none⟩))) w12 (.agg g71) w12 ∧ ∃ w18 : World, Eh (Instr.storeAt 218 (.pointer (some ⟨w.heap.size, 0, none⟩)) (.agg g71)) w12 w18 ∧ ∃ gR2_3 : Array Value, Ru (Instr.loadAt 218 (.pointer (some ⟨w.heap.size, 0, none⟩))) w18 (.agg gR2_3) w18 ∧ K (.tuple #[.agg gR2_3, .int .i64 0]) w18) := by
      intro w12 b m12 hb;refine⟨_, rfl, Aa (fun h => ⟨_, CY, ?_⟩) (fun h => ⟨_, (t2.keep m12 id).at.all AS rfl, ?_⟩)⟩
      · exact fin w12 nZ 8 (M14.no m12) (by rw[bM hl2, if_neg fun e => by rw[hb.2 e]at h;cases h])
      · exact fin w12 (CS xs) 0 (M14.no m12) (by rw[bM hl2, if_pos (hb.1 h)])
    refine XR (VR xs) (fun ho w11 m11 => ⟨_, _, _, _, rfl, Ac.dup (tt rfl ?_)⟩) (fun ho w11 d e m11 o11 => ⟨_, _, _, _, rfl, Ac.dup (ff rfl ⟨_, GL (xs := MN (CS xs)) JZ o11.rowU.row (Rq (VR xs)), _, GL (xs := xs) JZ (hr1.nos (M14.no m11)) hl2, ?_⟩)⟩)
    · refine last w11 true m11 ⟨fun e => (by cases e), fun e => ?_⟩
      rw[ho]at e;cases e.1
    · rw[Jl]
      refine last w11 _ m11 ?_;rw[Zq, Wv];exact⟨fun e => ⟨ho, e⟩, fun e => e.2⟩
  have md : Ab No w1 (Go.Den.Ah w1) := (Ab.refl No w1).drew;obtain⟨w2, e1, e2, e3, e4⟩ := A9 (P := Tryz.prog) (w := Go.Den.Ah w1) (T := 218) DP;have m2 : Ab No w1 w2 := md.no e3;have t2 := tail w2 _ m2 (Ld _) e2;have bN := UZ (IntKind.i64.wrap (xs[0].toNat : Int)) (IntKind.i64.wrap (BW ((xs.drop 2).take 2) : Int)) (IntKind.i64.wrap (BW ((xs.drop 4).take 4) : Int)) (IntKind.i64.wrap (BW ((xs.drop 8).take 8) : Int))
  rw[eN]at bN;have g2 : ∀{w' : World}{Q : Value → World → Prop}, Ab No w1 w' → Q (.int .u64 (BW ((xs.drop 2).take 2) : Int)) w' → A8 Tryz.prog Ai #[.slice (Cb (some ⟨bb, oo, none⟩) c (2 : Int).toNat 1) ((4 : Int).toNat - (2 : Int).toNat) (c - (2 : Int).toNat)] w' Q := fun m hq => Ud (i := 2) (m := 2) hl2 hc (hr1.nos m) (by omega) (by omega) rfl hq;have g4 : ∀{w' : World}{Q : Value → World → Prop}, Ab No w1 w' → Q (.int .u64 (BW ((xs.drop 4).take 4) : Int)) w' → A8 Tryz.prog Ai #[.slice (Cb (some ⟨bb, oo, none⟩) c (4 : Int).toNat 1) ((8 : Int).toNat - (4 : Int).toNat) (c - (4 : Int).toNat)] w' Q := fun m hq => Ud (i := 4) (m := 4) hl2 hc (hr1.nos m) (by omega) (by omega) rfl hq
  have g8 : ∀{w' : World}{Q : Value → World → Prop}, Ab No w1 w' → Q (.int .u64 (BW ((xs.drop 8).take 8) : Int)) w' → A8 Tryz.prog Ai #[.slice (Cb (some ⟨bb, oo, none⟩) c (8 : Int).toNat 1) ((16 : Int).toNat - (8 : Int).toNat) (c - (8 : Int).toNat)] w' Q := fun m hq => Ud (i := 8) (m := 8) hl2 hc (hr1.nos m) (by omega) (by omega) rfl hq;refine⟨_, Ar Am (by omega) (by omega), _, l0 md, _, _, _, Be Am (by omega) (by omega) (by omega), _, _, _, Be Am (by omega) (by omega) (by omega), _, _, _, Be Am (by omega) (by omega) (by omega), ?_⟩
  exact⟨g2 md ⟨_, rfl, l0 md, g4 md ⟨_, rfl, l0 md, g8 md ⟨_, rfl, l0 md, _, bN, _, w2, e1, l0 m2, t2⟩, _, w2, e1, l0 m2, g8 m2 ⟨_, rfl, l0 m2, _, bN, t2⟩⟩, _, w2, e1, l0 m2, g4 m2 ⟨_, rfl, l0 m2, g8 m2 ⟨_, rfl, l0 m2, _, bN, t2⟩⟩⟩, _, w2, e1, l0 m2, g2 m2 ⟨_, rfl, l0 m2, g4 m2 ⟨_, rfl, l0 m2, g8 m2 ⟨_, rfl, l0 m2, _, bN, t2⟩⟩⟩⟩
end
end Go.Z
end
section
open Go Go.Den Go.Proofs
namespace Go.Den
section
variable{P:Program}{w:World}
theorem nO{T:TypeId}{base k l c n:Nat}{a:Option Addr}{xs:List Value}(h:Ow P w base T k a l c xs):Cb a n 0 k=a:=by
 obtain⟨e,he,h1,h2⟩:=h;unfold Cb;split
 ·rfl
 ·rcases h2 with ⟨hv,_⟩|⟨g,cap,GT,hv,_⟩
  ·simp at hv;rw[hv.1];rfl
  ·simp at hv;rw[hv.1];simp[Ad]
theorem Ow.cut3{T:TypeId}{base k l c:Nat}{a:Option Addr}{xs:List Value}(h:Ow P w base T k a l c xs)(hT:Ge P T=some k)(w':World) :
  (Instr.sliceAt T (.slice a l c) none (some (.int .i64 l)) (some (.int .i64 l))).run P w'=.ok (.slice a l l) w':=by
 have:=lT (a:=a) hT h.cap.1 w'
 rwa [nO h]at this
theorem Ow.full{base k bytes l c c2:Nat}{T ty:TypeId}{a:Option Addr}{ad:Addr}{xs ys:List Value}(hT:Nt P T k bytes)(h:Ow P w base T k a l c xs)(hr:Bl w (some ad) ys)(hl:ys.length=k)
  (h63:(l+1)*bytes<=140737488355328) (hb:0<bytes) (hbase:base<=w.heap.size) :
  ∃ c' w',(Builtin.append_ #[T,T] ty #[.slice a l l,.slice (some ad) 1 c2]).run P w=.ok (.slice (some ⟨w.heap.size,0,none⟩) (l+1) c') w'/\Ow P w' base T k (some ⟨w.heap.size,0,none⟩) (l+1) c' (xs++ys)/\Ab No w w'/\w.heap.size<w'.heap.size:=by
 obtain⟨e,i,zv,he,hi,hsz,hz,hzc,hby⟩:=hT;obtain⟨e',he',how⟩:=h;have:e'=e:=by rw[he]at he';simpa using he'.symm
 subst this;have hcell:∀ j u,ys[j]?=some u->w.cell? (ad.add j)=some u:=by
  intro j u hj;rcases hr with hr | ⟨b,o,e,hat⟩
  ·subst hr;simp at hj
  ·simp at e;subst e;exact hat.cell hj
 have hle:l+1<=(l+1)*bytes:=Lf3 _ hb;have hm:∀ o:Obj,Ab No w (w.drew.alloc o):=fun o=>((Ab.refl No w).drew (b:=w)).alloc o;have hlen:(xs++ys).length=(l+1)*k:=by rw[Ls,how.1,hl,Ln5,Nat.one_mul]
 have hcm:∀ old,grownCap w (l+1) old e'<=maxLen:=fun old=>grownCap_le_maxLen w (l+1) old e' (by simp[maxLen];omega);have hown:∀(old:Nat)(arr:Array Value),arr.toList=xs++ys->Ow P (w.drew.alloc (.cells (arr++Builtin.zeroCells zv.cells (grownCap w (l+1) old e'-(l+1))) e')) base T k (some ⟨w.heap.size,0,none⟩) (l+1) (grownCap w (l+1) old e') (xs++ys):=by
  intro old arr harr;have hge:=grownCap_ge w (l+1) old e';have hasz:arr.size=(l+1)*k:=by rw[<- hlen,<- harr,Array.length_toList]
  refine⟨e',he,hlen,.inr ⟨w.heap.size,_,_,rfl,hbase,BC w.drew _,hge,hcm old,?_,?_⟩⟩
  ·rw[Array.size_append,size_zeroCells,hzc,hasz,<- Ln5]
   congr 1;omega
  ·rw[Lp4,harr,<- hlen];exact List.take_left
 rcases how.2 with ⟨hv,hx⟩|⟨g,cap,GT,hv,hbg,hg,hnc,hcm',hcs,htake⟩
 ·simp at hv;obtain⟨rfl,rfl,rfl⟩:=hv;have hx0:xs=[]:=fE (by have:=how.1;omega);subst hx0;have hr2:=run_append_nil (P:=P) w T ty e' i zv he hi hz ad 1 c2 ys (by rw[hsz];omega) hcell (by omega) (by omega) (by rw[hby];omega);refine⟨_,_,hr2,?_,hm _,F6 _⟩
  have:=hown 0 ys.toArray (by simp)
  simpa using this
 ·simp at hv;obtain⟨rfl,rfl⟩:=hv;have holds:∀ j u,xs[j]?=some u->w.cell? ((⟨g,0,none⟩:Addr).add j)=some u:=how.cells (g:=g) rfl;have hr2:=run_append_grow (P:=P) w T ty e' i zv he hi hz ⟨g,0,none⟩ l l xs (by rw[hsz];exact how.1) holds ad 1 c2 ys (by rw[hsz];omega) hcell (by omega) (by omega) (growslice_fits (by omega) (by rw[hby];exact h63));exact⟨_,_,hr2,hown l (xs.toArray++ys.toArray) (by simp),hm _,F6 _⟩
end
end Go.Den
namespace Go.Z
def Rx(w0:World)(R:Nat->Prop)(w:World)(rp r:Nat)(S:Rs):Prop:=∃ rl vb vc hs ba bc la lc H,ZL w0 R rl w rp r vb vc hs ba bc la lc H S
section
variable{w0 w w':World}{R:Nat->Prop}{rl:Nat->Nat}{rp r vb vc bc lc:Nat}{hs:List (Nat×Nat)}{ba la:Option Addr}{H:List (Option Addr×Nat)}{S:Rs}{K:Value->World->Prop}
theorem Rx.nos(h:Rx w0 R w rp r S)(k:Ab No w w'):Rx w0 R w' rp r S:=by
 obtain⟨rl,vb,vc,hs,ba,bc,la,lc,H,h⟩:=h;exact⟨rl,vb,vc,hs,ba,bc,la,lc,H,h.nos k⟩
theorem Rx.keep{Z:Nat->Prop}(h:Rx w0 R w rp r S)(k:Ab Z w w')(hsr:∀ x,R x->¬ Z x)(hw:∀ x,x<w0.heap.size->¬ Z x):Rx w0 R w' rp r S:=by
 obtain⟨rl,vb,vc,hs,ba,bc,la,lc,H,h⟩:=h;exact⟨rl,vb,vc,hs,ba,bc,la,lc,H,h.keepS k hsr hw⟩
theorem Rx.wf(h:Rx w0 R w rp r S):WFR S/\WF S.D/\Ab No w0 w/\∀ x,R x->w0.heap.size<=x/\x<w.heap.size:=by
 obtain⟨rl,vb,vc,hs,ba,bc,la,lc,H,h⟩:=h;exact⟨h.wf,h.disk.wf,h.mod,h.lo⟩
end
section
variable{w0 w w':World}{R:Nat->Prop}{rl:Nat->Nat}{rp r vb vc bc lc:Nat}{hs:List (Nat×Nat)}{ba la:Option Addr}{H:List (Option Addr×Nat)}{S:Rs}{K:Value->World->Prop}
theorem nA(w:World)(p:Option Addr):(Instr.build 181 #[(0,.pointer p)]).run Tryz.prog w=.ok (.agg ⟨[.pointer p,.slice none 0 0,.slice none 0 0,.int .i64 0]⟩) w:=by kernel_rfl
theorem yR(w:World)(cs:List Value):(Instr.box 181 (.agg ⟨cs⟩)).run Tryz.prog w=.ok (.pointer (some ⟨w.heap.size,0,none⟩)) (w.alloc (.cells ⟨cs⟩ 181)):=rfl
theorem Vk:Nt Tryz.prog 178 1 16:=Nu (by kernel_rfl)
def VI(D:St):Rs:=⟨D,(List.range D.vs.length).map fun b=>DC D b,[],0⟩
theorem XL{D:St}(hd:BA w R r vb vc hs D)(hsm:Fd D)(hlo:∀ x,R x->w0.heap.size<=x/\x<w.heap.size)(hm:Ab No w0 w)
  (hk:∀ w' rp,Ab No w w'->Rx w0 (BJ R w w') w' rp r (VI D)->K (.pointer (some ⟨rp,0,none⟩)) w'):A8 Tryz.prog E7 #[.pointer (some ⟨r,0,none⟩)] w K:=by
 classical
 apply Q1;unfold JE;refine⟨_,fun w=>nA w _,_,_,yR _ _,?_⟩;have hhi:=hd.wf.hi;have m1:Ab No w (w.alloc (.cells ⟨[.pointer (some ⟨r,0,none⟩),.slice none 0 0,.slice none 0 0,.int .i64 0]⟩ 181)):=(Ab.refl No w).alloc _;have a1:A1 (w.alloc (.cells ⟨[.pointer (some ⟨r,0,none⟩),.slice none 0 0,.slice none 0 0,.int .i64 0]⟩ 181)) w.heap.size 0 [.pointer (some ⟨r,0,none⟩),.slice none 0 0,.slice none 0 0,.int .i64 0]:=A1.new
 have s1:(w.alloc (.cells ⟨[.pointer (some ⟨r,0,none⟩),.slice none 0 0,.slice none 0 0,.int .i64 0]⟩ 181)).heap.size=w.heap.size+1:=by simp
 generalize w.alloc (.cells ⟨[.pointer (some ⟨r,0,none⟩),.slice none 0 0,.slice none 0 0,.int .i64 0]⟩ 181)=w1 at *
 refine⟨fun x w2=>∃(i:Nat)(a:Option Addr)(c:Nat),x=[.int .i64 i]/\i<=D.vs.length/\A1 w2 w.heap.size 0 [.pointer (some ⟨r,0,none⟩),.slice a i c,.slice none 0 0,.int .i64 0]/\Ow Tryz.prog w2 w1.heap.size 178 1 a i c (((List.range i).map fun b=>DC D b).map MO)/\Ab No w w2,fun x _=>(D.vs.length-nI x 0).toNat,
  ⟨0,none,0,rfl,by omega,a1,Ow.nilG Vk,m1⟩,?_⟩
 rintro x w2 ⟨i,a,c,rfl,hi,a2,o2,m2⟩;have hd2:=hd.nos m2;have hz2:=m2.size;have hlt2:=a2.lt;have ob:∀{q},a=some q->_:=fun {q} hq=>o2.base (q:=q) hq;refine⟨_,rfl,_,rfl,_,_,_,rv hd2,Aa (fun hb=>?_) (fun hb=>?_)⟩
 ·have hi:i<D.vs.length:=by have:=Lc hb;omega
  have hat:=RK D hi;refine pD (n:=(i:Int)) hd2 hsm fun w3 a3 c3 m3 f3=>⟨_,_,_,_,rfl,_,rfl,?_⟩;rw[hat.2]at f3 |-;have M3:=m2.no m3;have a3':=(a2.keep m3 id).drew;have f3':=f3.nos (Ab.refl No w3).drew;have hl256:(DC D i).length=256:=by
   unfold DC;rw[NK hi];exact hd.wf.lastLen (Lk hi)
  have ld:∀{w':World}(_:A1 w' w.heap.size 0 [.pointer (some ⟨r,0,none⟩),.slice a i c,.slice none 0 0,.int .i64 0]),Ru (Instr.loadAt 178 (.pointer (some (Addr.add ⟨w.heap.size,0,none⟩ 1)))) w' (.slice a i c) w':=fun h=>by rw[Ad];exact h.at.load (by kernel_rfl) rfl
  refine⟨_,_,_,ld a3',_,GL (by kernel_rfl) f3'.row rfl,_,_,_,_,NU _ _,?_⟩;have m4:Ab No (Ah w3) ((Ah w3).alloc (.cells ⟨[.string ⟨(DC D i).toArray⟩]⟩ 9)):=(Ab.refl No _).alloc _;have r4:Bl ((Ah w3).alloc (.cells ⟨[.string ⟨(DC D i).toArray⟩]⟩ 9)) (some ⟨(Ah w3).heap.size,0,none⟩) [MO (DC D i)]:=.inr ⟨_,_,rfl,A1.new.at⟩;generalize (Ah w3).alloc (.cells ⟨[.string ⟨(DC D i).toArray⟩]⟩ 9)=w4 at *
  have a4:=a3'.keep m4 id;have hz3:=m3.size;have hz4:w3.heap.size<=w4.heap.size:=m4.size;obtain⟨q,c',w5,run,p5,mm,hq5⟩:=(((o2.nos m3).nos (Ab.refl No w3).drew).nos m4).appG (ty:=178) (m:=1) (c2:=1) Vk (by omega) r4 rfl (by omega) (by intro v hv;rw[List.mem_singleton.1 hv];rfl) (by omega) (by omega) (by omega);have hz5:=mm.size;have a5:=a4.keep mm fun⟨q',hq',e⟩=>by have:=(ob hq').1;omega
  obtain⟨w6,st6,a6,m6,_⟩:=a5.store (P:=Tryz.prog) (T:=178) (i:=1) (v:=.slice (some q) (i+1) c') (by kernel_rfl) (by simp) rfl;refine⟨ld a4,_,_,_,w5,run,_,rfl,w6,by rw[Ad];exact st6,?_⟩;rw[Ag (x:=(i:Int)+1) (by omega) (by omega)];refine⟨⟨i+1,some q,c',rfl,by omega,a6,?_,((((m2.no m3).no (Ab.refl No w3).drew).no m4).trans mm fun z hz ⟨q',hq',e⟩=>by have:=(ob hq').1;omega).trans m6 fun z hz e=>by have e:z=w.heap.size:=e;omega⟩,by simp[nI,Ap];omega⟩
  rw[Lw4,dT,dT];exact p5.keep m6 fun q' hq' e=>by
   cases hq';have e:q.block=w.heap.size:=e;rcases hq5 with ⟨q',hq',e2⟩ | e2
   ·have:=(ob hq').1;omega
   ·omega
 ·have hi:i=D.vs.length:=by have:=Lb hb;omega
  subst hi;have hw0:=hm.size;have hR:∀ x,R x->x≠w.heap.size:=fun x hx=>by have:=hlo x hx;omega
  refine hk w2 w.heap.size m2 ⟨fun x=>if x=w.heap.size then 1 else if R x then 4 else if w1.heap.size<=x/\x<w2.heap.size then 2 else 0,vb,vc,hs,a,c,none,0,[],{
   disk:=?_
   cell:=by
    show A1 w2 w.heap.size 0 [.pointer (some ⟨r,0,none⟩),.slice a ((List.range D.vs.length).map fun b=>DC D b).length c,.slice none 0 0,.int .i64 0];rw[jL,Le5];exact a2
   base:=by
    show Ow Tryz.prog w2 w0.heap.size 178 1 a ((List.range D.vs.length).map fun b=>DC D b).length c _;rw[jL,Le5];exact o2.mono (by omega)
   row:=Ow.nilG gB
   hl:=rfl
   aft:=fun i x p hx=>by cases hx
   rp1:=by rw[if_pos rfl]
   rba:=fun q hq=>by
    have:=ob hq
    have hn:¬ R q.block:=fun e=>by have:=hlo _ e;omega
    rw[if_neg (by omega),if_neg hn,if_pos (by omega)]
   rla:=fun q hq=>by cases hq
   wf:={
    len:=by show((List.range D.vs.length).map fun b=>DC D b).length=D.vs.length;rw[jL,Le5]
    small:=hsm
    bl:=fun b hb=>by
     obtain⟨i,hi,rfl⟩:=Li.1 hb;have hi:=Ty.1 hi;unfold DC;rw[NK hi];exact hd.wf.lastLen (Lk hi)
    dat:=fun x hx=>by cases hx
    blt:=fun x hx=>by cases hx
    srt:=List.Pairwise.nil
    idr:=fun x hx=>by cases hx
    aft:=fun x hx=>by cases hx
    aftn:=fun x hx=>by cases hx
    last:=by show 0<=1000000;omega }
   reg:=fun x hx=>by
    by_cases hRx:R x
    ·exact .inl hRx
    ·right;by_cases e1:x=w.heap.size
     ·omega
     ·rw[if_neg e1,if_neg hRx]at hx
      split at hx
      ·omega
      ·exact absurd rfl hx
   lo:=fun x hx=>by
    rcases hx with hx|hx
    ·have:=hlo x hx;omega
    ·omega
   mod:=hm.no m2 }⟩
  have e4:(fun x=>(if x=w.heap.size then 1 else if R x then 4 else if w1.heap.size<=x/\x<w2.heap.size then 2 else 0)=4)=R:=by
   funext x;apply propext;constructor
   ·intro e
    split at e
    ·omega
    ·split at e
     ·assumption
     ·split at e<;>omega
   ·intro hx;rw[if_neg (hR x hx),if_pos hx]
  rw[e4];exact hd2
end
def VT:Nd:=⟨2,1,0,1,[0,0,0,0,0,0,0,0]⟩
theorem VU:Ui VT:=rfl
theorem cP:RC VT=true:=by decide
def RV(g:Gm)(k i:Nat):Bk:=if i=0 then Fz g (AG g k)else if k=0/\i=1 then B2 Dk 64 (MN VT)else Dk
def NL(g:Gm)(k i:Nat):Int×Bk:=(2+k*g.gr+i,RV g k i)
def IA(g:Gm)(k n:Nat):List (Int×Bk):=(List.range n).map (NL g k)
def Jq(g:Gm):Nat:=1+(AM g).toNat
def CL(g:Gm)(n:Nat):List (Int×Bk):=(List.range n).flatMap fun k=>IA g k (Jq g)
def Dd(D:St)(l:List (Int×Bk)):St:=l.foldl (fun D x=>B8 D x.1 x.2) D
def Ub(D:St):St:=Dj (B8 (B8 D 0 Dk) 1 Dk)
def Uc(D:St)(g:Gm):St:=Dj (Dd (Ub D) (CL g g.gs.toNat))
def DJ(D:St)(g:Gm):St:=Dj (B8 (Uc D g) 1 (DR ⟨1,g⟩))
def KV(D:St)(g:Gm):Int:=if CU g=false then 1 else if (D.vs.length:Int)<AJ g then 4 else 0
theorem Ez:Dk.length=256:=TV
theorem RW(g:Gm)(k i:Nat):(RV g k i).length=256:=by
 unfold RV;split
 ·exact Jo (Da _ _)
 split
 ·rw[Gk (by rw[Rq VU,Ez];omega),Ez]
 ·exact Ez
theorem SW(g:Gm)(k n:Nat):IA g k (n+1)=IA g k n++[NL g k n]:=by
 unfold IA;rw[Lw4,dT];rfl
theorem Ox(g:Gm)(n:Nat):CL g (n+1)=CL g n++IA g n (Jq g):=by
 unfold CL;rw[Lw4,List.flatMap_append];simp
theorem Wo(D:St)(l:List (Int×Bk))(x:Int×Bk):Dd D (l++[x])=B8 (Dd D l) x.1 x.2:=by
 unfold Dd;rw[Ld5];rfl
theorem qB(D:St)(l m:List (Int×Bk)):Dd D (l++m)=Dd (Dd D l) m:=Ld5
theorem Jr(D:St)(n:Int)(ys:Bk):(B8 D n ys).vs.length=D.vs.length:=by
 unfold B8;split
 ·rfl
 ·simp
theorem De{D:St}(h:D.left=-1)(n:Int)(ys:Bk):(B8 D n ys).left=-1:=by
 unfold B8;split
 ·exact h
 ·show Ut D.left=-1;rw[h];rfl
theorem Vr(D:St):(Dj D).vs.length=D.vs.length:=by
 unfold Dj;split
 ·rfl
 ·simp
theorem Vs{D:St}(h:D.left=-1):(Dj D).left=-1:=by
 unfold Dj;split
 ·exact h
 ·show Ut D.left=-1;rw[h];rfl
theorem SX(D:St)(l:List (Int×Bk)):(Dd D l).vs.length=D.vs.length:=by
 induction l generalizing D with
 | nil=>rfl
 | cons x l ih=>exact(ih _).trans (Jr _ _ _)
theorem Oz{D:St}(h:D.left=-1)(l:List (Int×Bk)):(Dd D l).left=-1:=by
 induction l generalizing D with
 | nil=>exact h
 | cons x l ih=>exact ih (De h _ _)
theorem Uo{D:St}{m:Nat}(h:Sa D m)(l:List (Int×Bk)):Sa (Dd D l) (m+l.length):=by
 induction l generalizing D m with
 | nil=>exact h
 | cons x l ih =>
  have:=ih (LG h x.1 x.2)
  rw[mO];exact this.mono (by omega)
theorem RX(g:Gm)(k n:Nat):(IA g k n).length=n:=by simp[IA]
theorem Qh{g:Gm}(h:CU g=true):(Jq g:Int)=1+g.no / 4/\Jq g<=17:=by
 have e:AM g=g.no / 4:=by unfold AM;rw[if_pos h]
 obtain⟨_,_,_,_,h5,h6,_⟩:=Av.1 h;unfold Jq;rw[e];constructor<;>omega
theorem RY{g:Gm}(h:CU g=true)(n:Nat):(CL g n).length<=17*n:=by
 induction n with
 | zero=>exact Ld _
 | succ n ih =>
  have:=(Qh h).2
  rw[Ox,Ls,RX];omega
theorem RZ{g:Gm}(h:CU g=true){k i n:Nat}(hk:(k:Int)<g.gs)(hi:i<Jq g)(hn:AJ g<=n):2<=(NL g k i).1/\(NL g k i).1<n:=by
 have hv:=(Qh h).1;have e:AJ g=2+g.gs*g.gr:=by unfold AJ;rw[if_pos h]
 obtain⟨h1,h2,h3,h4,h5,h6,h7,h8,h9⟩:=Av.1 h;have hmul:((k:Int)+1)*g.gr<=g.gs*g.gr:=Lt3 (by omega) (by omega);have hp:0<=(k:Int)*g.gr:=xC (by omega) (by omega);have hs:((k:Int)+1)*g.gr=k*g.gr+g.gr:=by rw[Int.add_mul,Ly5]
 show 2<=2+(k:Int)*g.gr+i/\2+(k:Int)*g.gr+i<n;omega
theorem KU{D:St}(h:D.left=-1):(Ub D).left=-1:=Vs (De (De h _ _) _ _)
theorem Vx(D:St):(Ub D).vs.length=D.vs.length:=by unfold Ub;rw[Vr,Jr,Jr]
theorem Nx{D:St}(h:D.left=-1)(g:Gm):(Uc D g).left=-1:=Vs (Oz (KU h) _)
theorem Rf(D:St)(g:Gm):(Uc D g).vs.length=D.vs.length:=by unfold Uc;rw[Vr,SX,Vx]
theorem nX{D:St}(h:D.left=-1)(g:Gm):(DJ D g).left=-1:=Vs (De (Nx h g) _ _)
theorem Oa(D:St)(g:Gm):(DJ D g).vs.length=D.vs.length:=by unfold DJ;rw[Vr,Jr,Rf]
theorem Vw{D:St}(h:D.left=-1):Sa (Ub D) 1:=Yd (De (De h _ _) _ _) (Ld _)
theorem Re{D:St}(h:D.left=-1)(g:Gm):Sa (Uc D g) 1:=Yd (Oz (KU h) _) (Ld _)
theorem Xp{D:St}(h:D.left=-1)(g:Gm):Sa (DJ D g) 1:=Yd (De (Nx h g) _ _) (Ld _)
def Cn(D:St)(g:Gm)(k:Int):Hd×Int:=if (Bc g k).2≠0 then(hZ,(Bc g k).2)else HL g (HU D (Bc g k).1)
def AV(D:St)(g:Gm)(s:Int):Nd×Int:=if (B9 g s).2.2≠0 then(nZ,(B9 g s).2.2)else GU (HU D (B9 g s).1) (B9 g s).2.1
theorem Xz(D:St)(g:Gm)(k:Int):Fq (Cn D g k).1:=by unfold Cn;split;exact DK;exact kM _ _
theorem LD(D:St)(g:Gm)(s:Int):Ui (AV D g s).1:=by unfold AV;split;exact uC;exact V7 _ _
def FP(D:St)(g:Gm)(k:Nat):Bool:=decide ((Cn D g k).2=0/\(Cn D g k).1.no=k)
def GK(D:St)(g:Gm):Bool:=decide ((AV D g 1).2=0/\(AV D g 1).1.kind=2)
def GV(D:St)(g:Gm):Bool:=(List.range g.gs.toNat).all (FP D g)&&GK D g
def A7(D:St):Sp×Int×Int:=BR (HU D 0) (HU D 1) D.vs.length
def Ug(D:St):Sp×Int:=if (A7 D).2.2≠0 then(sZ,(A7 D).2.2)else if GV D (A7 D).1.geo=true then((A7 D).1,0)else(sZ,8)
def Cv(D:St)(g:Gm):Nat->Int
 | 0=>0
 | n+1=>if (AV D g n).1.id > Cv D g n then(AV D g n).1.id else Cv D g n
theorem SK(D:St)(g:Gm):∀ n,0<=Cv D g n
 | 0=>xU _
 | n+1=>by
  have:=SK D g n
  unfold Cv;split<;>omega
theorem zO(xs:List UInt8):0<=(Kk xs).1.id/\(Kk xs).1.id<=4611686018427387904:=by
 unfold Kk;split
 ·decide
 split
 ·rename_i h
  have:=kX h.2.2
  exact⟨this.2.2.2.2.2.2.1,this.2.2.2.2.2.2.2.1⟩
 ·decide
theorem AcC:0<=nZ.id/\nZ.id<=4611686018427387904:=by decide
theorem pR(D:St)(g:Gm)(s:Int):0<=(AV D g s).1.id/\(AV D g s).1.id<=4611686018427387904:=by
 unfold AV;split
 ·exact AcC
 unfold GU;split
 ·exact AcC
 ·exact zO _
theorem VJ(D:St)(g:Gm):∀ n,Cv D g n<=4611686018427387904
 | 0=>by show(0:Int)<=_;decide
 | n+1=>by
  have:=VJ D g n
  have:=(pR D g n).2
  unfold Cv;split<;>omega
theorem tI(xs:List UInt8)(h:(Kk xs).2≠0):(Kk xs).1=nZ:=by
 unfold Kk at *;split
 ·rfl
 split
 ·rename_i h1 h2;rw[if_neg h1,if_pos h2]at h;exact absurd rfl h
 ·rfl
theorem iR{D:St}{g:Gm}{s:Int}(h:(AV D g s).2≠0):(AV D g s).1=nZ:=by
 unfold AV at *;split
 ·rfl
 rename_i h1;rw[if_neg h1]at h;unfold GU at *;split
 ·rfl
 rename_i h2;rw[if_neg h2]at h;exact tI _ h
theorem Rk{g:Gm}(h:CU g=true){k:Int}(h0:0<=k)(h1:k<g.gs):I8 g (AG g k)=true:=by
 have hv:=Qh h;have hn:1+(AM g).toNat=Jq g:=rfl;obtain⟨g1,g2,g3,g4,g5,g6,g7,g8,g9⟩:=Av.1 h;refine Co.2 ⟨h,⟨h0,h1⟩,fun i hi=>⟨fun e=>?_,fun e=>?_⟩,fun i hi=>⟨fun e=>?_,fun e e2=>?_⟩⟩
 ·show AN (DG (1+(AM g).toNat)) i=true;rw[hn,NR (by omega),Wv];omega
 ·show AN (DG (1+(AM g).toNat)) i=false;rw[hn,NR (by omega),xZ];omega
 ·show AN (My k) i=false;rw[PS,xP,xZ,xZ];omega
 ·show AN (My k) i=true;have e1:k=0:=e;rw[PS,Le e1,Le e2];rfl
theorem Ad8{D:St}{n:Int}{ys:Bk}(h0:0<=n)(h1:n<D.vs.length)(h:ys.length=256):Um D n ys=0:=by
 have e:AD D n=0:=by unfold AD;rw[if_neg (by omega)]
 unfold Um;rw[e,if_neg (by decide),if_neg (by omega)]
def GC(g:Gm)(h:Hd)(i f t:Int):Int:=if I8 g h=false then 1 else if i<f\/t<=i then 3 else 0
def EN(g:Gm)(h:Hd)(i:Int)(on:Bool):Hd×Int :=
 if GC g h i (1+AM g) g.gr≠0 then(hZ,GC g h i (1+AM g) g.gr)else if AN h.bs i.toNat=on then(hZ,6)else(⟨h.no,HO h.bs i.toNat on,h.ss⟩,0)
def iQ(h:Hd):Int:=if h.no=0 then 2 else 0
def Iy(g:Gm)(h:Hd)(i:Int)(on:Bool):Hd×Int :=
 if GC g h i (iQ h) g.no≠0 then(hZ,GC g h i (iQ h) g.no)else if AN h.ss i.toNat=on then(hZ,6)else(⟨h.no,h.bs,HO h.ss i.toNat on⟩,0)
theorem Ux{g:Gm}{h:Hd}{i f t:Int}(e:GC g h i f t=0):I8 g h=true/\f<=i/\i<t:=by
 unfold GC at e
 split at e
 ·cases e
 ·rename_i h1
  split at e
  ·cases e
  ·rename_i h2;exact⟨by simpa using h1,by omega,by omega⟩
theorem wN{g:Gm}{h:Hd}(hw:Fq h)(i:Int)(on:Bool):Fq (EN g h i on).1:=by
 unfold EN;split
 ·exact DK
 split
 ·exact DK
 ·exact⟨by show(HO _ _ _).length=16;rw[HP];exact hw.1,hw.2⟩
theorem wP{g:Gm}{h:Hd}(hw:Fq h)(i:Int)(on:Bool):Fq (Iy g h i on).1:=by
 unfold Iy;split
 ·exact DK
 split
 ·exact DK
 ·exact⟨hw.1,by show(HO _ _ _).length=8;rw[HP];exact hw.2⟩
theorem bC{g:Gm}(h:CU g=true):AM g=g.no / 4:=by unfold AM;rw[if_pos h]
theorem RU{g:Gm}{h:Hd}{i:Int}{on:Bool}(hw:Fq h)(e:(EN g h i on).2=0) :
  I8 g (EN g h i on).1=true/\(EN g h i on).1=⟨h.no,HO h.bs i.toNat on,h.ss⟩/\I8 g h=true/\AN h.bs i.toNat≠on/\1+AM g<=i/\i<g.gr:=by
 unfold EN at e |-
 split at e
 ·rename_i h1;exact absurd e h1
 rename_i h1;have h1:=Tw.1 h1
 split at e
 ·cases e
 rename_i h2;rw[if_neg (by rw[h1];decide),if_neg h2];obtain⟨k1,k2,k3⟩:=Ux h1;refine⟨?_,rfl,k1,h2,k2,k3⟩;obtain⟨g1,g2,g3,g4⟩:=Co.1 k1;have hT:=bC g1;obtain⟨q1,q2,_⟩:=Av.1 g1;have hi:i.toNat<8*h.bs.length:=by rw[hw.1];omega
 refine Co.2 ⟨g1,g2,fun j hj=>⟨fun hjt=>?_,fun hjt=>?_⟩,g4⟩
 ·show AN (HO h.bs i.toNat on) j=true;rw[IB hi,if_neg (by omega)];exact(g3 j hj).1 hjt
 ·show AN (HO h.bs i.toNat on) j=false;rw[IB hi,if_neg (by omega)];exact(g3 j hj).2 hjt
theorem wO{g:Gm}{h:Hd}{i:Int}{on:Bool}(hw:Fq h)(e:(Iy g h i on).2=0) :
  I8 g (Iy g h i on).1=true/\(Iy g h i on).1=⟨h.no,h.bs,HO h.ss i.toNat on⟩/\I8 g h=true/\AN h.ss i.toNat≠on/\iQ h<=i/\i<g.no:=by
 unfold Iy at e |-
 split at e
 ·rename_i h1;exact absurd e h1
 rename_i h1;have h1:=Tw.1 h1
 split at e
 ·cases e
 rename_i h2;rw[if_neg (by rw[h1];decide),if_neg h2];obtain⟨k1,k2,k3⟩:=Ux h1;refine⟨?_,rfl,k1,h2,k2,k3⟩;obtain⟨g1,g2,g3,g4⟩:=Co.1 k1;obtain⟨_,_,_,_,q5,q6,_⟩:=Av.1 g1;have hf:0<=iQ h:=by unfold iQ;split<;>decide
 have hi:i.toNat<8*h.ss.length:=by rw[hw.2];omega
 refine Co.2 ⟨g1,g2,g3,fun j hj=>⟨fun hjt=>?_,fun hn hjt=>?_⟩⟩
 ·show AN (HO h.ss i.toNat on) j=false;rw[IB hi,if_neg (by omega)];exact(g4 j hj).1 hjt
 ·show AN (HO h.ss i.toNat on) j=true;have hn:h.no=0:=hn;have:iQ h=2:=by unfold iQ;rw[if_pos hn]
  rw[IB hi,if_neg (by omega)];exact(g4 j hj).2 hn hjt
def FO(g:Gm)(h:Hd)(f:Int):Int:=if I8 g h=true then GA h.bs g.gr f else -1
def Hp(g:Gm)(h:Hd)(f:Int):Int:=if I8 g h=true then GA h.ss g.no f else -1
theorem gD{g:Gm}{h:Hd}{f:Int}(hw:Fq h)(e:0<=FO g h f):(EN g h (FO g h f) true).2=0/\FO g h f<g.gr:=by
 unfold FO at e |-;by_cases ho:I8 g h=true
 ·rw[if_pos ho]at e |-;obtain⟨i,h1,h2,h3,h4⟩:=TA e;rw[h1];obtain⟨g1,g2,g3,g4⟩:=Co.1 ho;have hT:=bC g1;obtain⟨q1,q2,_⟩:=Av.1 g1;have hge:1+AM g<=(i:Int):=by
   refine Ly1 fun hn=>?_;rw[(g3 i (by omega)).1 (by omega)]at h2;cases h2
  have hm:GC g h i (1+AM g) g.gr=0:=by unfold GC;rw[if_neg (by rw[ho];decide),if_neg (by omega)]
  unfold EN;rw[hm,if_neg (by decide),Lr,if_neg (by rw[h2];decide)];exact⟨rfl,h3⟩
 ·rw[if_neg ho]at e;omega
theorem gF{g:Gm}{h:Hd}{f:Int}(hw:Fq h)(e:0<=Hp g h f):(Iy g h (Hp g h f) true).2=0/\Hp g h f<g.no:=by
 unfold Hp at e |-;by_cases ho:I8 g h=true
 ·rw[if_pos ho]at e |-;obtain⟨i,h1,h2,h3,h4⟩:=TA e;rw[h1];obtain⟨g1,g2,g3,g4⟩:=Co.1 ho;obtain⟨_,_,_,_,q5,q6,_⟩:=Av.1 g1;have hge:iQ h<=(i:Int):=by
   unfold iQ;split
   ·rename_i hn;refine Ly1 fun hlt=>?_;rw[(g4 i (by omega)).2 hn (by omega)]at h2;cases h2
   ·omega
  have hm:GC g h i (iQ h) g.no=0:=by unfold GC;rw[if_neg (by rw[ho];decide),if_neg (by omega)]
  unfold Iy;rw[hm,if_neg (by decide),Lr,if_neg (by rw[h2];decide)];exact⟨rfl,h3⟩
 ·rw[if_neg ho]at e;omega
theorem iC{g:Gm}{h:Hd}(hw:Fq h)(ho:I8 g h=true):DM (Fz g h)=h:=by
 obtain⟨g1,g2,_⟩:=Co.1 ho;obtain⟨q1,q2,q3,q4,_⟩:=Av.1 g1;have hfl:=EJ g h;have e1:(Fz g h).drop 4=Bg 2 h.no.toNat++(Bg 2 (Bd g h).1.toNat++Bg 2 (Bd g h).2.toNat++List.replicate 6 0++h.bs++h.ss++List.replicate 216 0):=by
  unfold Fz HY KW;simp only[WB];rfl
 have e16:(Fz g h).drop 16=h.bs++(h.ss++List.replicate 216 0):=by
  unfold Fz;have hl16:(HY g h++List.replicate 6 0).length=16:=by rw[Ls,hfl];rfl
  rw[WB,WB,WD,Lt (by rw[hl16];exact Ld _),QN,hl16];rfl
 have e32:(Fz g h).drop 32=h.ss++List.replicate 216 0:=by
  rw[show 32=16+16 by rfl,<- UO,e16,WD,Lt (by rw[hw.1];exact Ld _),hw.1,QN];rfl
 unfold DM;rw[e1,e16,e32,Lv (by rw[Cm];exact Ld _),Lg (by rw[Cm];exact Ld _),Lv (by rw[hw.1];exact Ld _),Lg (by rw[hw.1];exact Ld _),Lv (by rw[hw.2];exact Ld _),Lg (by rw[hw.2];exact Ld _)]
 have:BW (Bg 2 h.no.toNat)=h.no.toNat:=Rt _ _ (by omega);rw[this];cases h;simp only[Hd.mk.injEq,and_true];simp only at g2;omega
theorem Xv{g:Gm}{h:Hd}(hw:Fq h)(ho:I8 g h=true):HL g (Fz g h)=(h,0):=by
 have hr:=iC hw ho;unfold HL;rw[if_neg (by rw[(Co.1 ho).1];decide),if_neg (by rw[Jo hw];decide),hr,if_pos ⟨ho,rfl⟩]
theorem sY{g:Gm}{h h':Hd}(hw:Fq h)(hw':Fq h'):B2 (Fz g h) 0 ((Fz g h').take 64)=Fz g h':=by
 have cut:∀{h:Hd},Fq h->(Fz g h).drop 64=List.replicate 192 0:=fun {h} hw=>by
  have:(HY g h++List.replicate 6 0++h.bs++h.ss).length=40:=by
   rw[Ls,Ls,Ls,EJ,hw.1,hw.2,TV]
  unfold Fz;rw[WD,Lt (by omega),QN,this];rfl
 have hl:((Fz g h').take 64).length=64:=by rw[xF,Jo hw'];rfl
 unfold B2;rw[hl,xE,QN,Pj,cut hw,<- cut hw',Lh2]
section
variable{w:World}{K:Value->World->Prop}
theorem lM{p:Int}{w1:World}{C:List Value->World->Prop}(hk:C [.bool (decide (p<0\/4<=p))] w1):Ac (fun k=>(bif decide (p<0)then k [.bool true] w1 else k [.bool (decide (p > 3))] w1)) C:=by
 refine Ac.cut (fun z w4=>w4=w1/\z=[.bool (decide (p<0\/4<=p))]) (Aa (fun h1=>⟨rfl,?_⟩) (fun h1=>⟨rfl,?_⟩)) ?_
 ·have h1:=Lc h1;rw[Le (show p<0\/4<=p from .inl h1)]
 ·have h1:=Lb h1;by_cases h2:p > 3
  ·rw[Le h2,Le (show p<0\/4<=p by omega)]
  ·rw[Lf h2,Lf (show ¬ (p<0\/4<=p) by omega)]
 rintro z w4 ⟨rfl,rfl⟩;exact hk
theorem iF{a:Option Addr}{l c:Nat}{p:Int}{xs:List UInt8}(hl:xs.length=l)(hc:l<=c)(hr:Bl w a (Au xs))(h63:l<=1048576)
  (hk:∀ w',Ab No w w'->K (.tuple #[.agg ⟨nV (GU xs p).1⟩,.int .i64 (GU xs p).2]) w'):A8 Tryz.prog G4 #[.slice a l c,.int .i64 p] w K:=by
 apply Q0;unfold JD;obtain⟨w1,b1,b2,b3,b4⟩:=A9 (P:=Tryz.prog) (w:=w) (T:=218) DP;have fin:∀(w':World)(i:Nd)(e:Int),Ab No w1 w'->(i,e)=GU xs p->∃ w3:World,Eh (Instr.storeAt 218 (.pointer (some ⟨w.heap.size,0,none⟩)) (.agg ⟨nV i⟩)) w' w3/\∃ gR2:Array Value,Ru (Instr.loadAt 218 (.pointer (some ⟨w.heap.size,0,none⟩))) w3 (.agg gR2) w3/\K (.tuple #[.agg gR2,.int .i64 e]) w3:=fun w' i e m he=>by
  have hw:Ui i:=by have:=V7 xs p;rw[<- he]at this;exact this
  obtain⟨w3,c1,c2,c3,c4⟩:=(b2.keep m id).put (T:=218) (vs:=nV i) AS rfl (C4 hw) (Ht _);refine⟨w3,c1,_,c2.at.all AS (C4 hw),?_⟩
  have:=hk w3 ((b3.no m).own c3 (Ld _))
  rw[<- he]at this;exact this
 refine⟨_,w1,b1,?_⟩;rw[Di];refine Aa (fun h=>⟨_,CY,?_⟩) (fun h=>?_)
 ·have h:=Lc h;have e:LE l p=4:=by unfold LE;rw[if_pos (by omega)]
  exact fin w1 nZ 4 (Ab.refl _ _) (by unfold GU;rw[hl,e,if_pos (by decide)])
 have h:=Lb h;have hl':l=256:=by omega
 subst hl';refine lM ⟨_,rfl,Aa (fun h1=>⟨_,CY,?_⟩) (fun h1=>?_)⟩
 ·have e:LE 256 p=3:=by unfold LE;rw[if_neg (by omega),if_pos (Lc h1)]
  exact fin w1 nZ 3 (Ab.refl _ _) (by unfold GU;rw[hl,e,if_pos (by decide)])
 have e:LE 256 p=0:=by unfold LE;rw[if_neg (by omega),if_neg (Lb h1)]
 obtain⟨_,hp0,hp4⟩:=Ou e;obtain⟨k,rfl⟩:∃ k:Nat,p=k:=⟨p.toNat,by omega⟩;have e1:IntKind.i64.wrap (64*(k:Int))=((64*k:Nat):Int):=by rw[Ag (by omega) (by omega)];omega
 have e2:IntKind.i64.wrap (((64*k:Nat):Int)+64)=((64*k+64:Nat):Int):=by rw[Ag (by omega) (by omega)];omega
 rw[e1,e2];refine⟨_,_,_,Be Am (by omega) (by omega) (by omega),?_⟩;rw[show((64*k:Nat):Int).toNat=64*k by omega,show((64*k+64:Nat):Int).toNat-64*k=64 by omega];refine pG (xs:=(xs.drop (64*k)).take 64) (by simp;omega) (by omega) ((hr.nos b3).cut (by omega) (by omega)) (by omega) fun w4 m4=>⟨_,_,rfl,?_⟩;exact fin w4 _ _ m4 (by unfold GU;rw[hl,if_neg (by omega)];rfl)
theorem pH{a:Option Addr}{l c:Nat}{p:Int}{xs:List UInt8}{i:Nd}(hw:Ui i)(hl:xs.length=l)(hc:l<=c)(hr:Bl w a (Au xs))(ha:a≠none)(h63:l<=1048576)(hm:LE l p=0)(ho:RC i=true)
  (hk:∀ w' a' c',Ab No w w'->Ow Tryz.prog w' w.heap.size 88 1 a' 256 c' (Au (B2 xs (64*p.toNat) (MN i)))->K (.tuple #[.slice a' 256 c',.int .i64 0]) w'):A8 Tryz.prog He #[.slice a l c,.int .i64 p,.agg ⟨nV i⟩] w K:=by
 apply Su;unfold KE;obtain⟨w1,a1,a2,a3,a4⟩:=AC (P:=Tryz.prog) (w:=w) (T:=218) (cs:=nV i);obtain⟨rfl,hp0,hp4⟩:=Ou hm;refine⟨_,w1,a1,ff rfl (lM ⟨_,rfl,ff (by rw[Lf (by omega)]) ?_⟩)⟩;obtain⟨k,rfl⟩:∃ k:Nat,p=k:=⟨p.toNat,by omega⟩;have e1:IntKind.i64.wrap (64*(k:Int))=((64*k:Nat):Int):=by rw[Ag (by omega) (by omega)];omega
 rw[e1];refine⟨_,a2.at.all AS (C4 hw),XR hw (fun h=>by rw[ho]at h;cases h) fun _ w3 q d m3 o3=>⟨_,_,_,_,rfl,ff rfl ?_⟩⟩;have M3:=a3.no m3;have hq:q≠none:=fun e=>by
  obtain⟨g,h,_⟩:=o3.sm (by omega);rw[e]at h;cases h
 refine lH (b:=xs) (ys:=MN i) hl (Rq hw) (by omega) (by omega) hc (hr.nos M3) o3.rowU.row ha hq fun w4 a4 c4 m4 o4=>⟨_,_,_,_,rfl,?_⟩;exact hk w4 a4 c4 (M3.no m4) (o4.mono M3.size)
end
def Dx(wb:World)(R0:Nat->Prop)(N:Nat)(w:World)(d:Nat)(D:St):Prop :=
 ∃ R sb mb sc L,AF w R d sb mb sc L D/\(∀ x,R x->(R0 x\/wb.heap.size<=x)/\x<N)/\Ab R0 wb w/\N<=w.heap.size
section
variable{wb w w':World}{R0:Nat->Prop}{N d:Nat}{D:St}{K:Value->World->Prop}
theorem Dx.nos(h:Dx wb R0 N w d D)(m:Ab No w w'):Dx wb R0 N w' d D:=by
 obtain⟨R,sb,mb,sc,L,h1,h2,h3,h4⟩:=h;exact⟨R,sb,mb,sc,L,h1.nos m,h2,h3.no m,Up h4 m.size⟩
theorem Dx.mod(h:Dx wb R0 N w d D):Ab R0 wb w:=by obtain⟨_,_,_,_,_,_,_,h,_⟩:=h;exact h
theorem Dx.size(h:Dx wb R0 N w d D):N<=w.heap.size:=by obtain⟨_,_,_,_,_,_,_,_,h⟩:=h;exact h
theorem Dx.start{R:Nat->Prop}{sb mb sc:Nat}{L:List (Int×Value)}(h:AF w R d sb mb sc L D)(m:Ab No w wb):Dx wb R w.heap.size wb d D :=
 ⟨R,sb,mb,sc,L,h.nos m,fun x hx=>⟨.inl hx,h.lt x hx⟩,Ab.refl _ _,m.size⟩
theorem Dx.write(h:Dx wb R0 N w d D)(hs:∀ v∈D.vs,v.length<=999999){n:Int}{a:Option Addr}{l c:Nat}{ys:List UInt8}(hl:ys.length=l)(hr:Bl w a (Au ys))(hdis:∀ q,a=some q->N<=q.block)
  (hk:∀ w',Dx wb R0 w'.heap.size w' d (B8 D n ys)->K (.int .i64 (Um D n ys)) w'):A8 Tryz.prog Bo #[.pointer (some ⟨d,0,none⟩),.int .i64 n,.slice a l c] w K:=by
 obtain⟨R,sb,mb,sc,L,h1,h2,h3,h4⟩:=h;refine jN h1 hs hl hr (fun q hq hR=>?_) fun w' L' m hd'=>hk w' ⟨BJ R w w',sb,mb,sc,L',hd',fun x hx=>?_,h3.trans m fun x hx hR=>?_,Ld _⟩
 ·have:=(h2 _ hR).2
  have:=hdis q hq
  omega
 ·rcases hx with hx|hx
  ·have h5:=h2 x hx;have:=m.size;exact⟨h5.1,by omega⟩
  ·have:=h3.size
   exact⟨.inr (by omega),hx.2⟩
 ·exact((h2 x hR).1).resolve_right (by omega)
theorem Dx.flush(h:Dx wb R0 N w d D)(hs:Fd D)(hk:∀ w',Dx wb R0 w'.heap.size w' d (Dj D)->K (.int .i64 0) w'):A8 Tryz.prog BX #[.pointer (some ⟨d,0,none⟩)] w K:=by
 obtain⟨R,sb,mb,sc,L,h1,h2,h3,h4⟩:=h;refine jE h1 hs fun w' L' m hd'=>hk w' ⟨R,sb,mb,sc,L',hd',fun x hx=>?_,h3.trans m fun x hx hR=>?_,Ld _⟩
 ·have h5:=h2 x hx;have:=m.size;exact⟨h5.1,by omega⟩
 ·exact((h2 x hR).1).resolve_right (by omega)
theorem Dx.len(h:Dx wb R0 N w d D)(hk:K (.int .i64 D.vs.length) w):A8 Tryz.prog Ck #[.pointer (some ⟨d,0,none⟩)] w K:=by
 obtain⟨R,sb,mb,sc,L,h1,h2,h3,h4⟩:=h;exact ZI h1 hk
theorem Va:Al (Instr.build 218 #[(0,.int .i64 2),(1,.int .i64 1),(3,.int .i64 1)]) (.agg ⟨nV VT⟩):=fun w=>by kernel_rfl
theorem mC{m:Nat}(h:Sa D m)(hm:m<=999999):∀ v∈D.vs,v.length<=999999:=fun v hv=>Up (h v hv) hm
theorem eI{m:Nat}(h:Sa D m)(hm:m<=999999):Fd D:=fun v hv=>Up (h v hv) (by omega)
set_option maxRecDepth 8000 in
theorem AdF{R:Nat->Prop}{sb mb sc:Nat}{L:List (Int×Value)}{g:Gm}(h:AF w R d sb mb sc L D)(hg:CU g=true)(hn:AJ g<=D.vs.length)(hb:Sa D 1)
  (hk:∀ w1 N w',Ab No w w1->w.heap.size<=N->Dx w1 R N w' d (Dd D (CL g g.gs.toNat))->K (.int .i64 0) w') :
  A8 Tryz.prog PQ #[.agg ⟨gV g⟩,.int .i64 0,.func (.func Bo) #[.pointer (some ⟨d,0,none⟩)] #[]] w K:=by
 apply eZ;unfold UL;obtain⟨w1,a1,a2,a3,a4⟩:=AC (P:=Tryz.prog) (w:=w) (T:=40) (cs:=gV g);have hnR:¬ R w.heap.size:=fun e=>Ll5 _ (h.lt _ e);have hq:∀{w2:World}{N:Nat}{D':St},Dx w1 R N w2 d D'->A1 w2 w.heap.size 0 (gV g):=fun x=>a2.keep x.mod hnR;obtain⟨g1,g2,g3,g4,g5,g6,g7,g8,g9⟩:=Av.1 hg;have hvn:=Qh hg;have hlen:=h.wf.hi
 refine⟨_,w1,a1,fun x w2=>∃(k N:Nat)(y1 y2 y3:Value),(k:Int)<=g.gs/\x=[.int .i64 k,y1,y2,y3]/\w.heap.size<=N/\Dx w1 R N w2 d (Dd D (CL g k)),fun x _=>(g.gs-nI x 0).toNat,
  ⟨0,_,undef,undef,undef,by omega,rfl,Ld _,Dx.start h a3⟩,?_⟩
 rintro x w2 ⟨k,N,y1,y2,y3,hkg,rfl,hN,hx⟩;refine⟨_,rfl,_,(hq hx).at.fld Aj rfl,Aa (fun hl=>?_) (fun hl=>?_)⟩
 ·have hl:(k:Int)<g.gs:=Lc hl;have eF:GD g k=(AG g k,0):=by unfold GD;rw[if_pos ⟨hg,by omega,hl⟩]
  have eH:Bc g k=(2+k*g.gr,0):=by unfold Bc;rw[if_pos hg,if_pos ⟨by omega,hl⟩]
  refine⟨_,(hq hx).at.all Aq rfl,kC fun w3 m3=>⟨_,_,rfl,?_⟩⟩;rw[eF];have x3:=hx.nos m3;obtain⟨w4,b1,b2,b3,b4⟩:=A9 (P:=Tryz.prog) (w:=w3) (T:=119) B7;have x4:=x3.nos b3;obtain⟨w5,c1,c2,c3,c4⟩:=b2.put (T:=119) (vs:=hV (AG g k)) Ax rfl (Aw (Da _ _)) (Db _);have m5:Ab No w3 w5:=b3.own c3 (Ld _);have x5:=x3.nos m5;refine⟨_,w4,b1,w5,c1,_,(hq x5).at.all Aq rfl,_,c2.at.all Ax (Aw (Da _ _)),gK (Da _ _) (fun e=>by rw[Rk hg (by omega) hl]at e;cases e) fun _ w6 q m6 hq6 h6=>⟨_,_,_,_,rfl,?_⟩⟩
  have x6:=x5.nos m6;refine⟨_,(hq x6).at.all Aq rfl,Hq fun w7 m7=>⟨_,_,rfl,?_⟩⟩;have x7:=x6.nos m7;refine⟨_,(hq x7).at.all Aq rfl,Oc fun w8 m8=>⟨_,rfl,?_⟩⟩;have x8:=x7.nos m8;rw[eH];have hNq:N<=q:=by have:=hx.size;have:=m3.size;have:=m5.size;omega
  have hrow:=((h6.keep m7 id).keep m8 id);have eT:IntKind.i64.wrap (1+AM g)=(Jq g:Int):=by
   have e:AM g=g.no / 4:=by unfold AM;rw[if_pos hg]
   rw[Ag (by omega) (by omega),hvn.1,e]
  refine⟨fun x w9=>∃(i N':Nat)(a:Option Addr)(l c:Nat)(y:Value),i<=Jq g/\x=[.slice a l c,.int .i64 i,y]/\w.heap.size<=N'/\Dx w1 R N' w9 d (Dd (Dd D (CL g k)) (IA g k i))/\(i=0->∃ q,a=some ⟨q,0,none⟩/\l=256/\c=256/\N'<=q/\A1 w9 q 0 (Au (Fz g (AG g k)))),
   fun x _=>(Jq g-nI x 1).toNat,⟨0,N,_,_,_,_,by omega,rfl,hN,x8,fun _=>⟨q,rfl,rfl,rfl,hNq,hrow⟩⟩,?_⟩
  rintro x w9 ⟨i,N',a,l,c,y,hi,rfl,hN',x9,hi0⟩;rw[eT];refine⟨_,rfl,Aa (fun hl2=>?_) (fun hl2=>?_)⟩
  ·have hl2:i<Jq g:=by have:=Lc hl2;omega
   have hvx:=RZ hg (n:=D.vs.length) hl hl2 hn;refine Ac.cut (fun z w11=>∃ q',z=[.slice (some ⟨q',0,none⟩) 256 256]/\N'<=q'/\A1 w11 q' 0 (Au (if i=0 then Fz g (AG g k)else Dk))/\Ab No w9 w11) (Aa (fun hp=>?_) (fun hp=>?_)) ?_
   ·have hp:0<i:=by have:=Lc hp;omega
    obtain⟨w10,s1,s2,s3,s4⟩:=Fs (w:=w9) (n:=256) (by omega);exact⟨_,_,_,w10,s1,_,rfl,x9.size,by rw[if_neg (by omega)];exact s2,s3⟩
   ·have hp:i=0:=by have:=Lb hp;omega
    obtain⟨q',e1,e2,e3,e4,e5⟩:=hi0 hp;subst e1 e2 e3;exact⟨q',rfl,e4,by rw[if_pos hp];exact e5,Ab.refl _ _⟩
   rintro z w11 ⟨q',rfl,hq',h11,m11⟩;refine Ac.cut (fun z w12=>z=[.bool (decide (k=0/\i=1))]/\w12=w11) ?_ ?_
   ·rw[GO];refine Aa (fun hp=>⟨?_,rfl⟩) (fun hp=>⟨?_,rfl⟩)
    ·have hp:k=0:=by have:=Lc hp;omega
     congr 2
     rw[GO,Lu,Wv,Wv];omega
    ·have hp:¬ k=0:=by have:=Lb hp;omega
     rw[Lf (fun e=>hp e.1)]
   rintro z w12 ⟨rfl,rfl⟩;refine⟨_,rfl,?_⟩;refine Ac.cut (fun z w14=>∃ q',z=[.slice (some ⟨q',0,none⟩) 256 256]/\N'<=q'/\A1 w14 q' 0 (Au (RV g k i))/\Ab No w9 w14) (Aa (fun hp=>?_) (fun hp=>?_)) ?_
   ·have hp:=Lc hp;refine⟨_,_,_,rfl,_,Va,?_⟩;rw[if_neg (by omega)]at h11;refine tK VU Ez (.inr ⟨_,_,rfl,h11.at⟩) (by omega) (by decide) cP fun w13 q'' m13 hq'' h13=>⟨_,_,_,_,rfl,q'',rfl,?_,?_,m11.no m13⟩
    ·have:=x9.size;have:=m11.size;omega
    ·unfold RV;rw[if_neg (by omega),if_pos hp];exact h13
   ·have hp:=Lb hp;refine⟨q',rfl,hq',?_,m11⟩;unfold RV;by_cases h0:i=0
    ·rw[if_pos h0];rw[if_pos h0]at h11;exact h11
    ·rw[if_neg h0,if_neg hp];rw[if_neg h0]at h11;exact h11
   rintro z w14 ⟨q'',rfl,hq'',h14,m14⟩;have x14:=x9.nos m14;have e1:IntKind.i64.wrap (2+(k:Int)*g.gr+i)=(NL g k i).1:=by
    show _=2+(k:Int)*g.gr+i
    have:=hvx
    unfold NL at this;simp only at this;rw[Ag (by omega) (by omega)]
   refine⟨_,_,_,rfl,?_⟩;rw[e1];have hB:Sa (Dd (Dd D (CL g k)) (IA g k i)) 999999:=by
    have h1:=Uo (Uo hb (CL g k)) (IA g k i);have h2:=RY hg k;rw[RX]at h1;exact h1.mono (by omega)
   have hvl:(Dd (Dd D (CL g k)) (IA g k i)).vs.length=D.vs.length:=by rw[SX,SX]
   refine⟨_,_,_,rfl,?_⟩;show A8 Tryz.prog Bo #[.pointer (some ⟨d,0,none⟩),.int .i64 (NL g k i).1,.slice (some ⟨q'',0,none⟩) 256 256] w14 _;refine x14.write hB (RW g k i) (.inr ⟨_,_,rfl,h14.at⟩) (fun q3 e3=>by cases e3;exact hq'') fun w15 x15=>⟨_,rfl,ff ?_ ?_⟩
   ·rw[Ad8 (by omega) (by rw[hvl];omega) (RW g k i)];rfl
   have e2:B8 (Dd (Dd D (CL g k)) (IA g k i)) (NL g k i).1 (RV g k i)=Dd (Dd D (CL g k)) (IA g k (i+1)):=by
    rw[SW,Wo];rfl
   rw[e2]at x15;rw[Ag (x:=(i:Int)+1) (by omega) (by omega)];exact⟨⟨i+1,_,_,_,_,_,by omega,rfl,by have:=x9.size;have:=m14.size;have:=x15.size;have:=x15.mod.size;have:=a3.size;omega,x15,fun e=>by omega⟩,by simp[nI,Ap];omega⟩
  ·have hl2:i=Jq g:=by have:=Lb hl2;omega
   subst hl2;rw[Ag (x:=(k:Int)+1) (by omega) (by omega)];refine⟨⟨k+1,N',_,_,_,by omega,rfl,hN',?_⟩,by simp[nI,Ap];omega⟩;rw[Ox,qB];exact x9
 ·have hl:(k:Int)=g.gs:=by have:=Lb hl;omega
  have e:g.gs.toNat=k:=by omega
  refine hk w1 N w2 a3 hN ?_;rw[e];exact hx
end
section
variable{wb w w':World}{R0:Nat->Prop}{N d:Nat}{D:St}{K:Value->World->Prop}
theorem Dx.comp{R':Nat->Prop}{w1:World}{N':Nat}{D':St}(h2:∀ x,R' x->R0 x\/wb.heap.size<=x)(hm:Ab R0 wb w)(m:Ab No w w1)(k:Dx w1 R' N' w' d D'):Dx wb R0 N' w' d D':=by
 obtain⟨R,sb,mb,sc,L,k1,k2,k3,k4⟩:=k;refine⟨R,sb,mb,sc,L,k1,fun x hx=>⟨?_,(k2 x hx).2⟩,(hm.no m).trans k3 fun x hx e=>(h2 x e).resolve_right (by omega),k4⟩;rcases(k2 x hx).1 with e|e
 ·exact h2 x e
 ·have:=hm.size;have:=m.size;exact .inr (by omega)
def wrZ(D:St):Nat->St
 | 0=>D
 | n+1=>B8 (wrZ D n) n Dk
theorem Zn(hb:Sa D 1):∀ n,Sa (wrZ D n) (n+1)
 | 0=>hb
 | n+1=>LG (Zn hb n) _ _
theorem lO{g:Gm}(h:CU g=true):OZ ⟨1,g⟩=true:=H3.2 ⟨⟨xU _,by show(1:Int)<=4611686018427387904;decide⟩,h⟩
set_option maxRecDepth 8000 in
theorem qA{R:Nat->Prop}{sb mb sc:Nat}{L:List (Int×Value)}{g:Gm}(h:AF w R d sb mb sc L D)(hrun:D.left=-1)(hb:Sa D 1)
  (hk0:KV D g≠0->∀ w',Ab No w w'->K (.int .i64 (KV D g)) w')
  (hk:KV D g=0->∀ w1 N w',Ab No w w1->Dx w1 R N w' d (DJ D g)->K (.int .i64 0) w') :
  A8 Tryz.prog LS #[.pointer (some ⟨d,0,none⟩),.agg ⟨gV g⟩] w K:=by
 apply Yr;unfold QI;obtain⟨w1,a1,a2,a3,a4⟩:=AC (P:=Tryz.prog) (w:=w) (T:=40) (cs:=gV g);have hnR:¬ R w.heap.size:=fun e=>Ll5 _ (h.lt _ e);have hq:∀{w2:World}{N:Nat}{D':St},Dx w1 R N w2 d D'->A1 w2 w.heap.size 0 (gV g):=fun x=>a2.keep x.mod hnR;refine⟨_,w1,a1,ff rfl ⟨_,a2.at.all Aq rfl,Hr fun w2 m2=>⟨_,rfl,Aa (fun hg=>?_) (fun hg=>?_)⟩⟩⟩
 ·have e:KV D g=1:=by unfold KV;rw[if_pos (by simpa using hg)]
  have:=hk0 (by rw[e];decide) w2 (a3.no m2)
  rwa [e]at this
 have hg:CU g=true:=by simpa using hg
 have md:Ab No w1 (Go.Den.Ah w2):=m2.drew;have xd:Dx w1 R w.heap.size (Go.Den.Ah w2) d D:=(Dx.start h a3).nos md;refine⟨_,(hq xd).at.all Aq rfl,xd.len ⟨_,rfl,(hq xd).at.all Aq rfl,SC fun w4 m4=>⟨_,rfl,Aa (fun hl=>?_) (fun hl=>?_)⟩⟩⟩
 ·have hl:=Lc hl;have e:KV D g=4:=by unfold KV;rw[if_neg (by rw[hg];decide),if_pos hl]
  have:=hk0 (by rw[e];decide) w4 (a3.no (md.no m4))
  rwa [e]at this
 have hl:=Lb hl;have eE:KV D g=0:=by unfold KV;rw[if_neg (by rw[hg];decide),if_neg hl]
 have x4:=xd.nos m4;refine⟨fun x w5=>∃ i N:Nat,i<=2/\x=[.int .i64 i]/\Dx w1 R N w5 d (wrZ D i),fun x _=>(2-nI x 0).toNat,⟨0,_,by omega,rfl,x4⟩,?_⟩;rintro x w5 ⟨i,N,hi,rfl,x5⟩;refine⟨_,rfl,Aa (fun hl2=>?_) (fun hl2=>?_)⟩
 ·have hl2:=Lc hl2;obtain⟨w6,s1,s2,s3,s4⟩:=Fs (w:=w5) (n:=256) (by omega);refine⟨_,_,_,w6,s1,?_⟩;refine(x5.nos s3).write (mC (Zn hb i) (by omega)) Ez (.inr ⟨_,_,rfl,s2.at⟩) (fun q e=>by cases e;exact x5.size) fun w7 x7=>⟨_,rfl,?_⟩;rw[Ag (x:=(i:Int)+1) (by omega) (by omega)];exact⟨⟨i+1,_,by omega,by simp,x7⟩,by simp[nI,Ap];omega⟩
 have hl2:=Lb hl2;have hi2:i=2:=by omega
 subst hi2;refine x5.flush (eI (Zn hb 2) (by omega)) fun w8 x8=>⟨_,rfl,?_⟩;have x8:Dx w1 R w8.heap.size w8 d (Ub D):=x8;refine⟨_,(hq x8).at.all Aq rfl,?_⟩;have hm8:=x8.mod;obtain⟨R8,sb8,mb8,sc8,L8,k1,k2,k3,k4⟩:=x8;refine AdF k1 hg (by rw[Vx];omega) (Vw hrun) fun w9 N9 w10 m9 hN9 x10=>⟨_,rfl,?_⟩;have x10:=x10.comp (fun x hx=>(k2 x hx).1) hm8 m9;have hB:Sa (Dd (Ub D) (CL g g.gs.toNat)) 999999:=by
  have h1:=Uo (Vw hrun) (CL g g.gs.toNat);have h2:=RY hg g.gs.toNat;obtain⟨_,_,_,g4,_⟩:=Av.1 hg;exact h1.mono (by omega)
 refine x10.flush (eI hB (by omega)) fun w11 x11=>⟨_,rfl,_,(hq x11).at.all Aq rfl,_,WY 1 g,?_⟩;have x11:Dx w1 R w11.heap.size w11 d (Uc D g):=x11;refine wF (s:=⟨1,g⟩) (fun e=>by rw[lO hg]at e;cases e) fun _ w12 q m12 hq12 h12=>⟨_,_,_,_,rfl,?_⟩;refine(x11.nos m12).write (mC (Re hrun g) (by omega)) (HR _) (.inr ⟨_,_,rfl,h12.at⟩) (fun q' e=>by cases e;exact hq12) fun w13 x13=>⟨_,rfl,?_⟩
 refine x13.flush (eI (LG (Re hrun g) _ _) (by omega)) fun w14 x14=>⟨_,rfl,?_⟩;exact hk eE w1 _ w14 a3 x14
end
end Go.Z
end
