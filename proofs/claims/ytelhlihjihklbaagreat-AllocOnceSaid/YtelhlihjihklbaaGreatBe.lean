/- Parts of the proof, in order: what the statement leans on. -/
import Derived.Test.YtelhlihjihklbaaGreatBd
open Go.Proofs Go.Proofs.YtelhlihjihklbaaGreat
section
open Go Go.Den Go.Proofs
namespace Go.Den
section
variable{P:Program}{w:World}
theorem At.pre{g:Nat}{e:TypeId}{fz:Nat×Nat}{arr:Array Value}{cs rest:List Value}(h:w.heap[g]?=some (.cells arr e fz))(ha:arr.toList=cs++rest):At w g 0 cs :=
 ⟨arr.toList,e,fz,h,by rw[ha];simp,by rw[ha];simp⟩
theorem F6(o:Obj):w.heap.size<(w.drew.alloc o).heap.size:=by
 show w.heap.size<(w.heap.push o).size;simp
theorem ZR{T ty:TypeId}{k bytes l q:Nat}{z:Value}{a:Option Addr}{xs ys:List Value}(hT:D5 P T k z bytes)(hk:0<k)(hx:xs.length=l*k)
  (hr:(l=0/\a=none)\/(0<l/\∃ b,a=some ⟨b,0,none⟩/\At w b 0 xs)) (hy:ys.length=k) (hyr:At w q 0 ys) (h63:(l+1)*bytes<=140737488355328) (hb:0<bytes) :
  ∃ c' w',(Builtin.append_ #[T,T] ty #[.slice a l l,.slice (some ⟨q,0,none⟩) 1 1]).run P w=.ok (.slice (some ⟨w.heap.size,0,none⟩) (l+1) c') w'/\l+1<=c'/\At w' w.heap.size 0 (xs++ys)/\Ab No w w'/\w.heap.size<w'.heap.size:=by
 obtain⟨e,i,zv,he,hi,hsz,hz,hzc,hby⟩:=hT.is;have hnews:∀ j v,ys[j]?=some v->w.cell? (Addr.add ⟨q,0,none⟩ j)=some v:=fun j v hj=>hyr.cell hj;have hle:l+1<=(l+1)*bytes:=Lf3 _ hb;have hm:∀ o:Obj,Ab No w (w.drew.alloc o):=fun o=>((Ab.refl No w).drew (b:=w)).alloc o;rcases hr with ⟨rfl,rfl⟩|⟨hl,b,rfl,hat⟩
 ·have hx0:xs=[]:=fE (by omega);subst hx0;refine⟨_,_,run_append_nil w T ty e i zv he hi hz ⟨q,0,none⟩ 1 1 ys (by rw[hsz];omega) hnews (by omega) (by omega) (by rw[hby];omega),?_,?_,hm _,F6 _⟩
  ·exact grownCap_ge w 1 0 e
  ·exact At.pre (BC w.drew _) (by rw[Lp4];rfl)
 ·have holds:∀ j v,xs[j]?=some v->w.cell? (Addr.add ⟨b,0,none⟩ j)=some v:=fun j v hj=>hat.cell hj;refine⟨_,_,run_append_grow w T ty e i zv he hi hz ⟨b,0,none⟩ l l xs (by rw[hsz];exact hx) holds ⟨q,0,none⟩ 1 1 ys (by rw[hsz];omega) hnews (by omega) (by omega) (growslice_fits (by omega) (by rw[hby];exact h63)),?_,?_,hm _,F6 _⟩
  ·exact grownCap_ge w (l+1) l e
  ·exact At.pre (BC w.drew _) (by rw[Lp4,Lp4])
end
def Wr(b sb mb:Nat):Nat->Prop:=fun x=>x=b\/x=sb\/x=mb
theorem AF.wr{w:World}{R:Nat->Prop}{b sb mb sc:Nat}{L:List (Int×Value)}{D:St}(h:AF w R b sb mb sc L D){x:Nat}(hx:Wr b sb mb x):R x:=by
 rcases hx with rfl|rfl|rfl
 ·exact h.rb
 ·exact h.rs
 ·exact h.rm
theorem AF.gro{w':World}{R:Nat->Prop}{b sb mb sc:Nat}{L:List (Int×Value)}{D:St}(w0:World)(h:AF w' R b sb mb sc L D):AF w' (BJ R w0 w') b sb mb sc L D where
 cell:=h.cell
 cap:=h.cap
 safe:=h.safe
 map:=h.map
 rb:=.inl h.rb
 rs:=.inl h.rs
 rm:=.inl h.rm
 ne:=h.ne
 opn:=fun i v hv=>by
  rcases h.opn i v hv with h|⟨h1,vb,c,h2,h3,h4,h5,h6⟩
  ·exact .inl h
  ·exact .inr ⟨h1,vb,c,h2,h3,h4,.inl h5,h6⟩
 keys:=h.keys
 wf:=h.wf
 lt:=fun x hx=>by
  rcases hx with hx|hx
  ·exact h.lt x hx
  ·exact hx.2
end Go.Den
namespace Go.Z
section
variable{w:World}{R:Nat->Prop}{b sb mb sc:Nat}{L:List (Int×Value)}{D:St}{K:Value->World->Prop}
def Um(D:St)(n:Int)(ys:List UInt8):Int:=if AD D n≠0 then AD D n else if ys.length≠256 then 4 else 0
def B8(D:St)(n:Int)(ys:List UInt8):St:=if Um D n ys≠0\/D.left=0 then D else⟨D.vs.set n.toNat (Iz D n++[ys]),Ut D.left⟩
theorem WE(a:Option Addr)(c:Nat):Al (Instr.arrayAt 278 (.slice a 256 c)) (.pointer a):=fun _=>by kernel_rfl
theorem aC{ys:List UInt8}(hy:ys.length=256)(w:World):(Instr.buildSlice 206 1 #[(0,.agg ⟨Au ys⟩)]).run Tryz.prog w=.ok (.slice (some ⟨w.heap.size,0,none⟩) 1 1) (w.alloc (.cells ⟨Au ys⟩ 278)):=by
 obtain⟨e,i,zv,he,hi,hsz,hz,hzc,hby⟩:=LW.is;have hee:e=278:=by
  have:Tryz.prog.underlying 206=some (.slice 278):=by kernel_rfl
  rw[this]at he;simpa using he.symm
 subst hee;have hf:=Go.Great.fill_whole (s:=256) (by omega) [Value.agg ⟨Au ys⟩] ((Array.range (1*i.size)).map (zv.cells[· % zv.cells.size]!)) (by simp[Value.cells,hy]) (by simp[hsz])
 have:=run_buildSlice w 206 278 1 #[(0,.agg ⟨Au ys⟩)] ⟨Au ys⟩ i zv he hi hz (by rw[hsz];decide) (by rw[hsz];decide) (by rw[hsz]at hf |-;simpa [Value.cells] using hf)
 exact this
theorem wG{v:List Bk}(hv:v≠[])(y:Bk):(v++[y]).tail=v.tail++[y]/\hd (v++[y])=hd v:=by
 cases v with
 | nil=>exact absurd rfl hv
 | cons a r=>exact⟨rfl,rfl⟩
set_option maxRecDepth 100000 in
theorem yC(h : AF w R b sb mb sc L D)(hs : ∀ v ∈ D.vs, v.length ≤ 999999){n : Int}{a : Option Addr}{l c : Nat}{ys : List UInt8}(hl : ys.length = l)(hr : Bl w a (Au ys))(hdis : ∀ q, a = some q → ¬ R q.block)
    (hk : ∀ w' L', Ab (Wr b sb mb) w w' → AF w' (BJ R w w') b sb mb sc L' (B8 D n ys) → K (.int .i64 (Um D n ys)) w') : A8 Tryz.prog Bo #[.pointer (some ⟨b, 0, none⟩), .int .i64 n, .slice a l c] w K := by
  apply Qr;unfold J4;refine tW h ⟨_, rfl, ?_⟩;rcases Ew (D := D) n with ⟨he, ho⟩ | ⟨he, i, v, rfl, hv, hver⟩
  · have hw : Um D n ys = 3 := by unfold Um;rw[he, if_pos (by omega)]
    have hS : B8 D n ys = D := by unfold B8;rw[if_pos (.inl (by omega))]
    refine tt (by rw[he];rfl) ?_
    have := hk w L (Ab.refl _ _) (by rw[hS];exact h.gro w)
    rw[hw]at this;rw[he];exact this
  refine ff (by rw[he];rfl) (Aa (fun hb => ?_) (fun hb => ?_))
  · have hne : ys.length ≠ 256 := by simp at hb;omega
    have hw : Um D i ys = 4 := by unfold Um;rw[he, if_neg (by omega), if_pos hne]
    have hS : B8 D i ys = D := by unfold B8;rw[if_pos (.inl (by omega))]
    have := hk w L (Ab.refl _ _) (by rw[hS];exact h.gro w)
    rw[hw]at this;exact this
  have hl2 : l = 256 := by simp at hb;omega
  subst hl2;have hw : Um D i ys = 0 := by unfold Um;rw[he, if_neg (by omega), if_neg (by omega)]
  rw[hw]at hk;have hvlen := hs v (Ly hv);have hvne := (h.wf.ver v (Ly hv)).1;have hilt : i < D.vs.length := (Lh.1 hv).1;have htl : v.tail.length ≤ v.length := by simp
  -- what stands in the map
  have hopen : ∃ a0 l0 c0, Ru (Instr.lookup 207 (.map (some mb)) (.int .i64 i) false) w (.slice a0 l0 c0) w ∧ l0 = v.tail.length ∧ l0 ≤ c0 ∧ ((l0 = 0 ∧ a0 = none) ∨ (0 < l0 ∧ ∃ vb, a0 = some ⟨vb, 0, none⟩ ∧ At w vb 0 (Au v.tail.flatten) ∧ vb ≠ b)) := by
    rcases h.opn i v hv with ⟨ht, hl⟩|⟨ht, vb, c, hl, hc, hat, _, hvb, _⟩
    · exact⟨none, 0, 0, X7 h.map hl, by rw[ht];rfl, Ld _, .inl ⟨rfl, rfl⟩⟩
    · exact⟨_, _, c, X9 h.map hl, rfl, hc, .inr ⟨Lr4.2 ht, vb, rfl, hat, hvb⟩⟩
  obtain⟨a0, l0, c0, hlook, hl0, hc0, hrow0⟩ := hopen;refine⟨_, rfl, some mb, h.lm, a0, l0, c0, hlook, ?_⟩;refine sU h (fun hz => ⟨_, rfl, Ac.dup (ff rfl ?_)⟩) fun hnz w2 h2 m2 => ⟨_, rfl, Ac.dup (tt rfl ?_)⟩
  · have hS : B8 D i ys = D := by unfold B8;rw[if_pos (.inr hz)]
    exact hk w L (Ab.refl _ _) (by rw[hS];exact h.gro w)
  have hS : B8 D i ys = ⟨D.vs.set i (v ++ [ys]), Ut D.left⟩ := by unfold B8;rw[if_neg (by omega), hver];rfl
  rw[hS]at hk;have h2d := h2.drew;have hrne : ¬ Au ys = [] := fun e => by have := Pi List.length e;simp[hl]at this
  obtain⟨b2, o2, rfl, hat2⟩ := hr.resolve_left hrne;have hb2 : b2 ≠ b := fun e => hdis _ rfl (by rw[e];exact h.rb);have hat2' : At (Go.Den.Ah w2) b2 o2 (Au ys) := (hat2.keep m2 hb2).drew;have hload : Ru (Instr.loadAt 278 (.pointer (some ⟨b2, o2, none⟩))) (Go.Den.Ah w2) (.agg ⟨Au ys⟩) (Go.Den.Ah w2) := by
    have := hat2'.loadAgg (P := Tryz.prog) (i := 0) Hi (by simp;omega)
    have e : (Au ys).take 256 = Au ys := Lg (by simp;omega);simpa [e] using this
  have m3 : Ab No (Go.Den.Ah w2) ((Go.Den.Ah w2).alloc (.cells ⟨Au ys⟩ 278)) := (Ab.refl No _).alloc _;refine⟨_, rfl, some mb, h2d.lm, _, _, _, lT (k := 256) (by kernel_rfl) hc0, ⟨b2, o2, none⟩, WE _ _, ⟨Au ys⟩, hload, _, _, _, _, aC hl _, (h2d.nos m3).lm, ?_⟩;have hq : A1 ((Go.Den.Ah w2).alloc (.cells ⟨Au ys⟩ 278)) (Go.Den.Ah w2).heap.size 0 (Au ys) := A1.new
  have hsz3 : w2.heap.size < ((Go.Den.Ah w2).alloc (.cells ⟨Au ys⟩ 278)).heap.size := by simp
  have h3 := h2d.nos m3;have hqs : (Go.Den.Ah w2).heap.size = w2.heap.size := rfl;generalize (Go.Den.Ah w2).alloc (.cells ⟨Au ys⟩ 278) = w3 at *;have htfl := Rd v.tail (h.wf.tl hv);obtain⟨c4, w4, happ, hc4, hat4, m4, hsz4⟩ := ZR (P := Tryz.prog) (w := w3) (T := 206) (ty := 206) (l := l0) (a := Cb a0 l0 0 256) (xs := Au v.tail.flatten) (ys := Au ys) (q := (Go.Den.Ah w2).heap.size) LW (by omega) (by simp[htfl, hl0])
    (by
      rcases hrow0 with ⟨h1, h2⟩|⟨h1, vb, h2, h3, h4⟩
      · refine .inl ⟨h1, ?_⟩
        rw[h2];unfold Cb;split<;>rfl
      · refine .inr ⟨h1, vb, ?_, ((h3.keep m2 h4).drew).keep m3 id⟩
        rw[h2];unfold Cb;split
        · rfl
        · simp[Ad]) (by simp[hl]) hq.at (by omega) (by omega)
  refine⟨_, _, _, w4, happ, (h3.nos m4).lm, ?_⟩;have h4 := h3.nos m4;obtain⟨w5, hupd, hmap5, m5, hsz5⟩ := Hw (P := Tryz.prog) (k := (i : Int)) (v := .slice (some ⟨w3.heap.size, 0, none⟩) (l0 + 1) c4) Uy h4.map;refine⟨w5, hupd, ?_⟩;have hb3 := h3.lt b h3.rb;have hs3 := h3.lt sb h3.rs;have hm3 := h3.lt mb h3.rm;have M4 : Ab (fun x => x = b) w w4 := ((m2.drew).no m3).no m4;have M5 : Ab (Wr b sb mb) w w5 := (M4.mono fun x _ e => .inl e).trans m5 fun x _ e => .inr (.inr e)
  have hws := M4.size;have hw23 := m2.size;obtain⟨tl1, tl2⟩ := wG hvne ys;refine hk w5 (Km (i : Int) (.slice (some ⟨w3.heap.size, 0, none⟩) (l0 + 1) c4) L) M5 ?_;have hset : (D.vs.set i (v ++ [ys])).map hd = D.vs.map hd := by
    rw[Lt5, tl2];apply mM;intro j;by_cases hj : i = j
    · subst hj;rw[Zp (by simpa using hilt), jK, hv];rfl
    · rw[ZK hj]
  exact { cell := by
            have := h4.cell.keep m5 h4.nbm
            simpa [Ut] using this
          cap := by simpa using h.cap
          safe := by
            rw[hset];exact h4.safe.keep m5 h4.nsm
          map := hmap5
          rb := .inl h.rb
          rs := .inl h.rs
          rm := .inl h.rm
          ne := h.ne
          opn := fun j v' hv' => by
            by_cases hj : i = j
            · subst hj
              have : v' = v ++ [ys] := by
                rw[Zp hilt]at hv';exact(Ln hv').symm
              subst this;refine .inr ⟨by rw[tl1];simp, w3.heap.size, c4, ?_, ?_, ?_, .inr ⟨by omega, by omega⟩, by omega, by omega⟩
              · rw[Ep, if_pos rfl, tl1, Ls, ← hl0];rfl
              · rw[tl1, Ls, ← hl0];exact hc4
              · rw[tl1, List.flatten_append, EM]
                have e : [ys].flatten = ys := by simp
                rw[e];exact hat4.keep m5 (by omega)
            · rw[ZK hj]at hv'
              rcases h4.opn j v' hv' with ⟨t1, t2⟩|⟨t1, vb, c', t2, t3, t4, t5, t6, t7⟩
              · exact .inl ⟨t1, by rw[Ep, if_neg (by omega)];exact t2⟩
              · refine .inr ⟨t1, vb, c', by rw[Ep, if_neg (by omega)];exact t2, t3, t4.keep m5 ?_, .inl t5, t6, t7⟩
                exact h4.map.ne_cells t4
          keys := fun p hp => by
            rcases RJ p hp with e|hp
            · exact⟨i, e, by simpa using hilt⟩
            · obtain⟨j, e, hj⟩ := h.keys p hp
              exact⟨j, e, by simpa using hj⟩
          wf := { ver := fun x hx => by
                    rcases Lk4 hx with hx|rfl
                    · exact h.wf.ver x hx
                    · refine⟨by simp, fun y hy => ?_⟩
                      rcases Lq.1 hy with hy|hy
                      · exact(h.wf.ver v (Ly hv)).2 y hy
                      · simp at hy;subst hy;omega
                  lo := by simpa using h.wf.lo
                  hi := by simpa using h.wf.hi
                  l0 := h2.wf.l0
                  l1 := h2.wf.l1 }
          lt := fun x hx => by
            rcases hx with hx|hx
            · have := h.lt x hx;have := M5.size;omega
            · exact hx.2 }
theorem jN(h:AF w R b sb mb sc L D)(hs:∀ v∈D.vs,v.length<=999999){n:Int}{a:Option Addr}{l c:Nat}{ys:List UInt8}(hl:ys.length=l)(hr:Bl w a (Au ys))(hdis:∀ q,a=some q->¬ R q.block)
  (hk:∀ w' L',Ab R w w'->AF w' (BJ R w w') b sb mb sc L' (B8 D n ys)->K (.int .i64 (Um D n ys)) w'):A8 Tryz.prog Bo #[.pointer (some ⟨b,0,none⟩),.int .i64 n,.slice a l c] w K :=
 yC h hs hl hr hdis fun w' L' m hd=>hk w' L' (m.mono fun _ _ e=>h.wr e) hd
end
end Go.Z
end
section
open Go Go.Den Go.Proofs
namespace Go.Den
def lW(D:St)(ks:List Nat)(f:Nat->List Bk->Bk):St:=⟨D.vs.mapIdx fun i v=>if i∈ks then f i v::v.tail else v,D.left⟩
def rV(D:St):St:=⟨D.vs.map fun v=>[hd v],D.left⟩
def oZ(D:St)(f:Nat->List Bk->Bk):St:=⟨D.vs.mapIdx fun i v=>[f i v],D.left⟩
theorem RT{D:St}{ks:List Nat}{f:Nat->List Bk->Bk}{i:Nat}{v:List Bk}(hv:D.vs[i]?=some v):(lW D ks f).vs[i]?=some (if i∈ks then f i v::v.tail else v):=by
 simp[lW,qS,hv]
theorem wM{D:St}{ks:List Nat}{f:Nat->List Bk->Bk}{i:Nat}{v:List Bk}(hv:D.vs[i]?=some v):(lW D ks f).vs.set i (f i v::v.tail)=(lW D (ks++[i]) f).vs:=by
 apply mM;intro j;by_cases hj:i=j
 ·subst hj;have hlt:i<(lW D ks f).vs.length:=by simp[lW];exact(Lh.1 hv).1
  rw[Zp hlt,RT hv,if_pos (by simp)]
 ·rw[ZK hj];cases hw:D.vs[j]? with
  | none=>simp[lW,qS,hw]
  | some u =>
   rw[RT hw,RT hw];have:(j∈ks++[i])↔j∈ks:=by simp;intro e;exact absurd e.symm hj
   simp only[this]
theorem yW{D:St}{f:Nat->List Bk->Bk}(hf:∀ i v,D.vs[i]?=some v->v.tail=[]->f i v=hd v):rV (lW D (DL D) f)=oZ D f:=by
 unfold rV oZ
 congr 1
 apply mM;intro j;cases hw:D.vs[j]? with
 | none=>simp[lW,qS,hw]
 | some u =>
  rw[jK,RT hw,qS,hw];by_cases hj:j∈DL D
  ·rw[if_pos hj];rfl
  ·rw[if_neg hj];have ht:u.tail=[]:=by
    unfold DL at hj;rw[QM]at hj;have hlt:=(Lh.1 hw).1;simp only[Ty,hlt,true_and,N3,hw,Option.getD_some]at hj;simpa [Ln3] using hj
   simp[hf j u hw ht]
theorem Aa7(D:St)(f:Nat->List Bk->Bk):lW D [] f=D:=by
 have:(D.vs.mapIdx fun i v=>if i∈([]:List Nat)then f i v::v.tail else v)=D.vs:=by
  apply mM;intro i;rw[qS];cases D.vs[i]?<;>simp
 unfold lW;rw[this]
theorem VP(D:St)(g:List Bk->Bk):oZ D (fun _ v=>g v)=⟨D.vs.map fun v=>[g v],D.left⟩:=by
 unfold oZ;congr 1;apply mM;intro i;rw[qS,jK]
theorem uJ{D:St}{i:Nat}(h:i∈DL D):∃ v,D.vs[i]?=some v/\v.tail≠[]:=by
 unfold DL at h;obtain⟨h1,h2⟩:=QM.1 h;have hlt:=Ty.1 h1;refine⟨D.vs[i],by simp[hlt],?_⟩;unfold N3 at h2;simp[hlt,Ln3]at h2;exact fun e=>h2 e
theorem cE(D:St):(DL D).Nodup:=Lx5 (fun h=>by omega) ((Lc5 (n:=D.vs.length)).filter (N3 D))
theorem oT{ks:List Nat}(hn:ks.Nodup){j i:Nat}(hj:ks[j]?=some i):i ∉ ks.take j:=by
 intro hc;obtain⟨hlt,hi⟩:=Lh.1 hj;obtain⟨m,hm,he⟩:=Lq4 hc;have hml:m<j:=by simp at hm;omega
 rw[List.getElem_take]at he
 have:=(Lu2.1 hn) m j (by omega) hlt hml
 exact this (by rw[he,hi])
end Go.Den
namespace Go.Z
section
variable{w:World}{R:Nat->Prop}{b sb mb sc:Nat}{L:List (Int×Value)}{D:St}{K:Value->World->Prop}
theorem fB(h : AF w R b sb mb sc L D){i : Nat}{v : List Bk}{x : Bk}{w' : World}(hv : D.vs[i]? = some v)(hx : x.length = 256)(s2 : A1 w' sb 0 (AA (Au (D.vs.map hd).flatten) (i * 256) (Au x)))(s3 : Ab (fun x => x = sb) w w') :
    AF w' R b sb mb sc L ⟨D.vs.set i (x :: v.tail), D.left⟩ := by
  have hlt := (Lh.1 hv).1;have hvne := h.wf.ver v (Ly hv)
  exact { cell := by
            have := h.cell.keep s3 h.ne
            simpa using this
          cap := by simpa using h.cap
          safe := by
            rw[Mm, hx, aX (D.vs.map hd) h.wf.hd i x (by simpa using hlt) hx]at s2;rw[Lt5];exact s2
          map := h.map.keep s3 h.nsm.symm
          rb := h.rb
          rs := h.rs
          rm := h.rm
          ne := h.ne
          opn := fun j v' hv' => by
            by_cases hj : i = j
            · subst hj
              have e : v' = x :: v.tail := by
                rw[Zp hlt]at hv';exact(Ln hv').symm
              subst e
              have := (h.opn i v hv).keep s3 fun y _ e => .inr e
              exact this
            · rw[ZK hj]at hv'
              exact(h.opn j v' hv').keep s3 fun y _ e => .inr e
          keys := fun p hp => by
            obtain⟨j, e, hj⟩ := h.keys p hp;exact⟨j, e, by simpa using hj⟩
          wf := { ver := fun y hy => by
                    rcases Lk4 hy with hy|rfl
                    · exact h.wf.ver y hy
                    · refine⟨by simp, fun z hz => ?_⟩
                      rcases Lz.1 hz with rfl|hz
                      · exact hx
                      · exact hvne.2 z (List.mem_of_mem_tail hz)
                  lo := by simpa using h.wf.lo
                  hi := by simpa using h.wf.hi
                  l0 := h.wf.l0
                  l1 := h.wf.l1 }
          lt := fun y hy => jJ (h.lt y hy) s3.size }
theorem Yu(h:AF w R b sb mb sc L D){i:Nat}{v:List Bk}{x:Bk}(hv:D.vs[i]?=some v)(hx:x.length=256) :
  ∃ w',Eh (Instr.storeAt 278 (.pointer (some (Addr.add ⟨sb,0,none⟩ (i*256)))) (.agg ⟨Au x⟩)) w w'/\AF w' R b sb mb sc L ⟨D.vs.set i (x::v.tail),D.left⟩/\Ab (fun x=>x=sb) w w':=by
 have hlt:=(Lh.1 hv).1;have hfl:=Rd (D.vs.map hd) h.wf.hd;have hfl':(D.vs.map hd).flatten.length=D.vs.length*256:=by rw[hfl,jL]
 have hle:(i+1)*256<=D.vs.length*256:=mI _ hlt;obtain⟨w',s1,s2,s3,s4⟩:=h.safe.storeAgg (P:=Tryz.prog) (T:=278) (i:=i*256) (n:=256) (vs:=Au x) Hi (by simp[hx]) (by rw[Ak,hfl'];omega) (BF x);exact⟨w',by rw[Ad];exact s1,fB h hv hx s2 s3,s3⟩
theorem Yt(h : AF w R b sb mb sc L D){ty : TypeId} : ∃ w', Ru (Builtin.clear_ #[207] ty #[.map (some mb)]) w (.tuple #[]) w' ∧ AF w' R b sb mb sc [] (rV D) ∧ Ab (fun x => x = mb) w w' := by
  obtain⟨w', s1, s2, s3, s4⟩ := nK (P := Tryz.prog) (ty := ty) Uy h.map;refine⟨w', s1, ?_, s3⟩;have hh : (rV D).vs.map hd = D.vs.map hd := by
    unfold rV;rw[qJ];rfl
  exact { cell := by
            have := h.cell.keep s3 h.nbm
            simpa [rV] using this
          cap := by simpa [rV] using h.cap
          safe := by rw[hh];exact h.safe.keep s3 h.nsm
          map := s2
          rb := h.rb
          rs := h.rs
          rm := h.rm
          ne := h.ne
          opn := fun j v' hv' => by
            refine .inl ⟨?_, rfl⟩;simp[rV]at hv';obtain⟨u, _, rfl⟩ := hv';rfl
          keys := by simp
          wf := { ver := fun y hy => by
                    simp[rV]at hy;obtain⟨u, hu, rfl⟩ := hy;refine⟨by simp, fun z hz => ?_⟩;simp at hz;subst hz;exact h.wf.hd _ (Li.2 ⟨u, hu, rfl⟩)
                  lo := by simpa [rV] using h.wf.lo
                  hi := by simpa [rV] using h.wf.hi
                  l0 := h.wf.l0
                  l1 := h.wf.l1 }
          lt := fun y hy => jJ (h.lt y hy) s3.size }
theorem oV{D:St}{j:Nat}(hj:j<(DL D).length):(iL (GJ D))[j]?=some (.int .i64 ((DL D)[j]:Nat)):=by
 simp[iL,GJ,hj,I]
theorem oU{D:St}:(DL D).length<=D.vs.length:=by
 unfold DL;exact Up (Lg2 _ _) (by simp)
def Dj(D:St):St:=if D.left=0 then D else⟨D.vs.map fun v=>[BU v],Ut D.left⟩
theorem pU{ks:List Nat}{j:Nat}(hj:j<ks.length):ks.take (j+1)=ks.take j++[ks[j]]:=Ll hj
theorem jE(h:AF w R b sb mb sc L D)(hs:Fd D)(hk:∀ w' L',Ab R w w'->AF w' R b sb mb sc L' (Dj D)->K (.int .i64 0) w'):A8 Tryz.prog BX #[.pointer (some ⟨b,0,none⟩)] w K:=by
 apply Qq;unfold J3;refine ff rfl (sU h (fun hz=>⟨_,rfl,tt rfl ?_⟩) fun hnz w2 h2 m2=>⟨_,rfl,ff rfl ?_⟩)
 ·have e:Dj D=D:=by unfold Dj;rw[if_pos hz]
  exact hk w L (Ab.refl _ _) (by rw[e];exact h)
 have eF:Dj D=⟨D.vs.map fun v=>[BU v],Ut D.left⟩:=by unfold Dj;rw[if_neg hnz]
 rw[eF]at hk;have M2:Ab R w w2:=m2.mono fun x _ e=>by subst e;exact h.rb
 have hs2:Fd ⟨D.vs,Ut D.left⟩:=hs;have h2':AF w2 R b sb mb sc L ⟨D.vs,Ut D.left⟩:=h2;clear h2;generalize hD2:(⟨D.vs,Ut D.left⟩:St)=D2 at *;refine AcV h2' fun w3 a l c m3 o3=>⟨_,_,_,rfl,?_⟩;have h3:=h2'.nos m3;have hl:(DL D2).length=l:=by have:=o3.len;simpa [GJ] using this
 have hlb:=oU (D:=D2);have hhi:=h2'.wf.hi
 refine⟨fun x w4=>∃ j:Nat,j<=l/\x=[.int .i64 j]/\AF w4 R b sb mb sc L (lW D2 ((DL D2).take j) fun _ v=>BU v)/\Ow Tryz.prog w4 w2.heap.size 80 1 a l c (iL (GJ D2))/\Ab R w2 w4,fun x _=>(l-nI x 0).toNat,
  ⟨0,by omega,rfl,by rw[xE,Aa7];exact h3,o3,m3.mono fun _ _ h=>h.elim⟩,?_⟩
 rintro x w4 ⟨j,hj,rfl,h4,o4,M4⟩;refine⟨_,rfl,Aa (fun hb=>?_) (fun hb=>?_)⟩
 ·have hj:j<l:=by have:=Lc hb;omega
  obtain⟨g,rfl,hg,hrow⟩:=o4.sm (by omega);have hjo:j<(DL D2).length:=by omega
  have hget:(DL D2)[j]?=some (DL D2)[j]:=by simp[hjo]
  obtain⟨v,hv,hvt⟩:=uJ (Tx hjo);have hnt:=oT (cE D2) hget;have hv4:(lW D2 ((DL D2).take j) fun _ v=>BU v).vs[(DL D2)[j]]?=some v:=by rw[RT hv,if_neg hnt]
  refine⟨_,Ar (k:=1) (by kernel_rfl) (by omega) (by omega),?_⟩;rw[Ad,Lr,qI];refine⟨_,hrow.at.load (by kernel_rfl) (oV hjo),_,rfl,_,_,_,h4.drew.ls,?_⟩;refine gO h4.drew hv4 (hs2 v (Ly hv)) fun w5 m5=>⟨_,rfl,(h4.drew.nos m5).ls,?_⟩;have h5:=h4.drew.nos m5;obtain⟨w6,s1,s2,s3⟩:=Yu h5 hv4 (h2'.wf.lastLen hv);have hlt:(DL D2)[j]<(lW D2 ((DL D2).take j) fun _ v=>BU v).vs.length:=(Lh.1 hv4).1
  refine⟨_,fun _=>SG hlt _,w6,s1,?_⟩;rw[Ag (x:=(j:Int)+1) (by omega) (by omega)];have M45:Ab No w4 w5:=((Ab.refl No w4).drew).no m5;refine⟨⟨j+1,by omega,rfl,?_,(o4.nos M45).keep s3 fun q hq e=>?_,(M4.no M45).trans s3 fun x _ e=>by subst e;exact h.rs⟩,by simp[nI,Ap];omega⟩
  ·rw[pU hjo]
   have:=wM (ks:=(DL D2).take j) (f:=fun _ v=>BU v) hv
   rw[this]at s2;exact s2
  ·have:=(o4.base hq).1
   have:=h2'.lt sb h2'.rs
   omega
 ·have hjl:j=l:=by have:=Lb hb;omega
  subst hjl;have e1:(DL D2).take j=DL D2:=Lg (by omega);rw[e1]at h4;obtain⟨w6,s1,s2,s3⟩:=Yt h4 (ty:=0);refine⟨_,rfl,some mb,h4.lm,w6,s1,?_⟩;refine hk w6 [] ((M2.trans M4 fun _ _ h=>h).trans s3 fun x _ e=>by subst e;exact h.rm) ?_;rw[yW (fun i v _ ht=>bO ht)]at s2;rw[VP,<- hD2]at s2;exact s2
end
section
variable{w:World}{R:Nat->Prop}{b sb mb sc:Nat}{L:List (Int×Value)}{D:St}{K:Value->World->Prop}
def kOf(pick:List Int)(j m:Nat):Int:=if j<pick.length then(if (m:Int)<(if 0 > pick.getD j 0 then 0 else pick.getD j 0)then(m:Int)else(if 0 > pick.getD j 0 then 0 else pick.getD j 0))else 0
def XI(D:St)(pick:List Int)(i:Nat)(v:List Bk):Bk:=v.getD (kOf pick ((DL D).idxOf i) v.tail.length).toNat []
end
section
variable{w0 w:World}{N b:Nat}{D:St}{K:Value->World->Prop}
def D1:St:=B8 (Bp 3) 1 (kB [65])
def D2:St:=Dj D1
theorem sm(D:St)(h:(D.vs.all fun v=>decide (v.length<=999999))=true):∀ v∈D.vs,v.length<=999999:=by
 intro v hv
 have:=dR.1 h v hv
 exact Lc this
end
end Go.Z
end
section
open Go Go.Den Go.Proofs
namespace Go.Den
theorem TD:∀{L:List (Int×Value)} {k:Int} {v:Value},(L.map (·.1)).Nodup->(k,v)∈L->Ay L k=some v
 | p::r,k,v,hn,hm=>by
  rw[Wu,mP]at hn;simp only[Ay];rcases Lz.1 hm with e | hm
  ·subst e;rw[if_pos rfl]
  ·have hne:p.1≠k:=fun e=>hn.1 (by rw[e];exact Li.2 ⟨_,hm,rfl⟩);rw[if_neg hne];exact TD hn.2 hm
theorem uU{L:List (Int×Value)}{k:Int}{v:Value}(h:∀ p∈L,p.1≠k):Km k v L=L++[(k,v)]:=by
 induction L with
 | nil=>rfl
 | cons p r ih =>
  simp only[Km];rw[if_neg (h p (by simp)),ih fun q hq=>h q (by simp[hq])];rfl
theorem EA{α β:Type}{f:α->β}:∀{l:List α},(l.map f).Nodup->∀{x e:α},x∈l->e∈l->f x=f e->x=e
 | [],_,x,e,hx,_,_=>by cases hx
 | y::r,hn,x,e,hx,he,h=>by
  rw[Wu,mP]at hn;rcases Lz.1 hx with hx | hx
  ·rcases Lz.1 he with he|he
   ·rw[hx,he]
   ·exact absurd (Li.2 ⟨e,he,by rw[<- h,hx]⟩) hn.1
  ·rcases Lz.1 he with he|he
   ·exact absurd (Li.2 ⟨x,hx,by rw[h,he]⟩) hn.1
   ·exact EA hn.2 hx he h
end Go.Den
namespace Go.Z
section
variable{D:St}
def Sa(D:St)(m:Nat):Prop:=∀ v∈D.vs,v.length<=m
theorem Sa.mono{m m':Nat}(h:Sa D m)(hm:m<=m'):Sa D m':=fun v hv=>Up (h v hv) hm
theorem LG{m:Nat}(h:Sa D m)(n:Int)(ys:List UInt8):Sa (B8 D n ys) (m+1):=by
 unfold B8;split
 ·exact h.mono (by omega)
 ·intro v hv;rcases Lk4 hv with hv | rfl
  ·have:=h v hv;omega
  ·have:(Iz D n).length<=m:=by
    rcases Ew (D:=D) n with ⟨_,ho⟩|⟨_,i,u,rfl,hu,hver⟩
    ·rw[jA ho];simp
    ·rw[hver];exact h u (Ly hu)
   simp;omega
theorem gQ(D:St)(n:Int)(ys:List UInt8):(B8 D n ys).vs.length=D.vs.length:=by unfold B8;split<;>simp
end
end Go.Z
end
section
open Go Go.Den
namespace Go.Den
def QW(k:Int)(L:List (Int×Value)):List (Int×Value):=L.filter fun p=>!decide (p.1=k)
theorem Nw(k:Int):∀(Es:List OV)(i j:Nat)(u:Value),(Es.map (·.1)).Nodup->Fy k Es i=some (j,u)->i<=j/\j-i<Es.length/\Es.eraseIdx (j-i)=Es.filter fun e=>!decide (e.1=k)
 | [],_,_,_,_,h=>by cases h
 | e::r,i,j,u,hn,h=>by
  rw[Wu,mP]at hn;simp only[Fy]at h;by_cases he:e.1=k
  ·rw[if_pos he]at h;have h:=Ln h;simp only[Lc6]at h;obtain⟨rfl,_⟩:=h;refine⟨Ld _,by simp,?_⟩;rw[fG,List.eraseIdx_cons_zero,Le3 (by simp[he])];refine(qU.2 fun x hx=>?_).symm;have:x.1≠k:=fun e'=>hn.1 (Li.2 ⟨x,hx,by rw[e',he]⟩);simp[this]
  ·rw[if_neg he]at h;obtain⟨h1,h2,h3⟩:=Nw k r (i+1) j u hn.2 h;refine⟨by omega,by simp;omega,?_⟩;rw[show j-i=(j-(i+1))+1 by omega,List.eraseIdx_cons_succ,h3,Lj2 (by simp[he])]
theorem S8(k:Int):∀(Es:List OV)(i:Nat),Fy k Es i=none->(Es.filter fun e=>!decide (e.1=k))=Es
 | [],_,_=>rfl
 | e::r,i,h=>by
  simp only[Fy]at h;by_cases he:e.1=k
  ·rw[if_pos he]at h;cases h
  ·rw[if_neg he]at h;rw[Lj2 (by simp[he]),S8 k r (i+1) h]
theorem S7{α β:Type}(f:α->β):∀(l:List α)(j:Nat),(l.map f).eraseIdx j=(l.eraseIdx j).map f
 | [],_=>rfl
 | x::r,0=>rfl
 | x::r,j+1=>by simp[S7 f r j]
theorem bR(L:List (Int×Value))(k k':Int):Ay (QW k L) k'=if k'=k then none else Ay L k':=by
 induction L with
 | nil=>simp[QW,Ay]
 | cons p r ih =>
  unfold QW at ih |-;by_cases hp:p.1=k
  ·rw[Le3 (by simp[hp]),ih];by_cases hk:k'=k
   ·rw[if_pos hk,if_pos hk]
   ·rw[if_neg hk,if_neg hk];simp only[Ay];rw[if_neg (by omega)]
  ·rw[Lj2 (by simp[hp])];simp only[Ay];by_cases hk:p.1=k'
   ·rw[if_pos hk,if_pos hk,if_neg (by omega)]
   ·rw[if_neg hk,if_neg hk,ih]
theorem Y9{L:List (Int×Value)}{k:Int}{p:Int×Value}:p∈QW k L↔p∈L/\p.1≠k:=by
 unfold QW;rw[QM];simp
section
variable{P:Program}{w:World}
theorem X5{T:TypeId}{z:Value}{m:Nat}{L:List (Int×Value)}{k:Int}(hT:RA P T=some z)(h:Bj w m L) :
  (Instr.lookup T (.map (some m)) (.int .i64 k) true).run P w=.ok (.tuple #[(Ay L k).getD z,.bool (Ay L k).isSome]) w:=by
 obtain⟨kt,e,i,h1,h2,h3,h4⟩:=Og hT;obtain⟨Es,c,g1,rfl,_⟩:=h;have hl:=PW k Es 0;have hzero:(zeroValue e).run P w=.ok z w:=by simp[zeroValue,typeInfo,h3,h4]
 simp only[Instr.lookup,Sem.run_bind,AI h1,Result.andThen_ok,Ek g1,Sem.run_pure,Dw h2,DV h2];cases hf:Fy k Es 0 with
 | none =>
  rw[hf]at hl;simp only[Option.map_none]at hl;simp[<- hl,hzero]
 | some r =>
  rw[hf]at hl;simp only[La4]at hl;simp[<- hl]
theorem Vi{T T2 ty:TypeId}{z:Value}{m:Nat}{L:List (Int×Value)}{k:Int}(hT:RA P T=some z)(h:Bj w m L) :
  ∃ w',(Builtin.delete_ #[T,T2] ty #[.map (some m),.int .i64 k]).run P w=.ok (.tuple #[]) w'/\Bj w' m (QW k L)/\Ab (fun x=>x=m) w w'/\w'.heap.size=w.heap.size:=by
 obtain⟨kt,e,i,h1,h2,h3,h4⟩:=Og hT;obtain⟨Es,c,g1,rfl,g3,g4,g5⟩:=h;have hund:(underlying T).run P w=.ok (.map kt e) w:=AI h1 w;have hmod:∀ o,Ab (fun x=>x=m) w (NA w m o):=fun o=>(Ab.refl (fun x=>x=m) w).put (.inr rfl) _;have hkv:(Es.filter fun e=>!decide (e.1=k)).map kv=QW k (Es.map kv):=by
  unfold QW;rw[Lu4];rfl
 have hsub:(Es.filter fun e=>!decide (e.1=k)).Sublist Es:=Lo5;cases hf:Fy k Es 0 with
 | none =>
  have hall:=S8 k Es 0 hf;refine⟨NA w m (.map (Es.map Jt).toArray c),?_,⟨Es,c,AZ (AK g1),by rw[<- hkv,hall],g3,g4,g5⟩,hmod _,by simp⟩;simp[Builtin.delete_,hund,Ek g1,Dw h2,DV h2,hf,FU g1]
 | some r =>
  obtain⟨j,u⟩:=r;obtain⟨_,e2,e3⟩:=Nw k Es 0 j u g3 hf;rw[Lg6]at e2 e3;refine⟨NA w m (.map ((Es.eraseIdx j).map Jt).toArray c),?_,⟨Es.eraseIdx j,c,AZ (AK g1),by rw[e3,hkv],?_,?_,?_⟩,hmod _,by simp⟩
  ·simp[Builtin.delete_,hund,Ek g1,Dw h2,DV h2,hf,FU g1,S7]
  ·rw[e3];exact(hsub.map _).nodup g3
  ·rw[e3];exact fun x hx=>g4 x (hsub.subset hx)
  ·rw[e3];exact(hsub.map _).nodup g5
end
end Go.Den
end
section
open Go Go.Den Go.Proofs
namespace Go.Z
structure Bf where
 b:Nat
 data:Bk
 pins:Nat
deriving DecidableEq
structure Ca where
 D:St
 most:Nat
 l:List Bf
def FS(l:List Bf):List Int:=l.map fun x=>(x.b:Int)
def DC(D:St)(b:Nat):Bk:=BU (Iz D b)
def Xb(D:St)(x:Bf):Bool:=decide (x.data=DC D x.b)
def Br(l:List Bf)(b:Nat):List Bf:=l.filter fun x=>!decide (x.b=b)
def Eo(l:List Bf)(b:Nat):Option Bf:=l.find? fun x=>decide (x.b=b)
def Ix(D:St)(x:Bf):Bool:=decide (x.pins=0)&&Xb D x
def MA(C:Ca):Option Ca:=if C.l.length<C.most then some C else(C.l.find? (Ix C.D)).map fun x=>{ C with l:=Br C.l x.b }
def KP(C:Ca)(b:Nat):Option Ca :=
 match Eo C.l b with
 | some x=>some { C with l:=Br C.l b++[x] }
 | none=>(MA C).map fun C'=>{ C' with l:=C'.l++[⟨b,DC C.D b,0⟩] }
structure Pm(C:Ca):Prop where
 small:Fd C.D
 most0:1<=C.most
 most1:C.most<=4096
 len:C.l.length<=C.most
 nodup:(C.l.map (·.b)).Nodup
 lt:∀ x∈C.l,x.b<C.D.vs.length
 data:∀ x∈C.l,x.data.length=256
 pins:∀ x∈C.l,x.pins<=1000000
theorem EI{l:List Bf}{b:Nat}{x:Bf}(h:Eo l b=some x):x∈l/\x.b=b:=by
 unfold Eo at h;exact⟨Lt2 h,by simpa using Lq5 h⟩
theorem Ho{l:List Bf}{b:Nat}(h:Eo l b=none):∀ x∈l,x.b≠b:=by
 unfold Eo at h;intro x hx
 have:=Lv4.1 h x hx
 simpa using this
theorem DH{l:List Bf}(hn:(l.map (·.b)).Nodup){x:Bf}(hx:x∈l):Eo l x.b=some x:=by
 cases h:Eo l x.b with
 | none=>exact absurd rfl (Ho h x hx)
 | some y =>
  obtain⟨hy,e⟩:=EI h;rw[EA hn hy hx e]
theorem Bm{l:List Bf}{b:Nat}{x:Bf}:x∈Br l b↔x∈l/\x.b≠b:=by
 unfold Br;rw[QM];simp
theorem cA(l:List Bf)(b:Nat):FS (Br l b)=(FS l).filter fun k=>!decide (k=(b:Int)):=by
 unfold FS Br;rw[Lu4]
 congr 1
 apply Lh3;intro x _;simp only[Function.comp]
 congr 2
 rw[eq_iff_iff];omega
theorem Me{l:List Bf}(hn:(l.map (·.b)).Nodup)(b:Nat):((Br l b).map (·.b)).Nodup:=(List.filter_sublist.map _).nodup hn
theorem VM(l:List Bf)(b:Nat):(Br l b).length<=l.length:=Lg2 _ _
theorem SM{l:List Bf}{x:Bf}(hx:x∈l):(Br l x.b).length<l.length:=by
 unfold Br;rw[List.length_filter_lt_length_iff_exists];exact⟨x,hx,by simp⟩
theorem Qg{l:List Bf}(hn:(l.map (·.b)).Nodup){x:Bf}(hx:∀ y∈l,y.b≠x.b):((l++[x]).map (·.b)).Nodup:=by
 rw[dT];refine Li4.2 ⟨hn,by simp,?_⟩;intro a ha b hb;simp at hb;subst hb;obtain⟨y,hy,rfl⟩:=Li.1 ha;exact hx y hy
theorem Pm.move{C:Ca}(h:Pm C){x:Bf}(hx:x∈C.l):Pm { C with l:=Br C.l x.b++[x] } where
 small:=h.small
 most0:=h.most0
 most1:=h.most1
 len:=by have:=SM hx;have:=h.len;simp;omega
 nodup:=Qg (Me h.nodup _) fun y hy=>(Bm.1 hy).2
 lt:=fun y hy=>by
  rcases Lq.1 hy with hy|hy
  ·exact h.lt y (Bm.1 hy).1
  ·simp at hy;subst hy;exact h.lt _ hx
 data:=fun y hy=>by
  rcases Lq.1 hy with hy|hy
  ·exact h.data y (Bm.1 hy).1
  ·simp at hy;subst hy;exact h.data _ hx
 pins:=fun y hy=>by
  rcases Lq.1 hy with hy|hy
  ·exact h.pins y (Bm.1 hy).1
  ·simp at hy;subst hy;exact h.pins _ hx
theorem Pm.out{C:Ca}(h:Pm C)(b:Nat):Pm { C with l:=Br C.l b } where
 small:=h.small
 most0:=h.most0
 most1:=h.most1
 len:=Up (VM _ _) h.len
 nodup:=Me h.nodup _
 lt:=fun y hy=>h.lt y (Bm.1 hy).1
 data:=fun y hy=>h.data y (Bm.1 hy).1
 pins:=fun y hy=>h.pins y (Bm.1 hy).1
theorem Pm.add{C:Ca}(h:Pm C){x:Bf}(hr:C.l.length<C.most)(hx:∀ y∈C.l,y.b≠x.b)(h1:x.b<C.D.vs.length)(h2:x.data.length=256)(h3:x.pins<=1000000):Pm { C with l:=C.l++[x] } where
 small:=h.small
 most0:=h.most0
 most1:=h.most1
 len:=by simp;omega
 nodup:=Qg h.nodup hx
 lt:=fun y hy=>by
  rcases Lq.1 hy with hy|hy
  ·exact h.lt y hy
  ·simp at hy;subst hy;exact h1
 data:=fun y hy=>by
  rcases Lq.1 hy with hy|hy
  ·exact h.data y hy
  ·simp at hy;subst hy;exact h2
 pins:=fun y hy=>by
  rcases Lq.1 hy with hy|hy
  ·exact h.pins y hy
  ·simp at hy;subst hy;exact h3
def I9(l:List Bf)(y:Bf):List Bf:=l.map fun x=>if x.b=y.b then y else x
theorem wJ(l:List Bf)(y:Bf):(I9 l y).map (·.b)=l.map (·.b):=by
 unfold I9;rw[qJ];apply xB;intro x _;simp only[Function.comp];split
 ·rename_i h;exact h.symm
 ·rfl
theorem pX(l:List Bf)(y:Bf):FS (I9 l y)=FS l:=by
 have:=wJ l y
 unfold FS;have e:∀ l:List Bf,(l.map fun x=>(x.b:Int))=(l.map (·.b)).map fun n:Nat=>(n:Int):=fun l=>by rw[qJ];rfl
 rw[e,e,this]
theorem N7{l:List Bf}{y z:Bf}(h:z∈I9 l y):z=y\/(z∈l/\z.b≠y.b):=by
 unfold I9 at h;obtain⟨x,hx,e⟩:=Li.1 h
 split at e
 ·exact .inl e.symm
 ·rename_i hne;subst e;exact .inr ⟨hx,hne⟩
theorem Pm.turn{C:Ca}(h:Pm C){y:Bf}(h1:y.b<C.D.vs.length)(h2:y.data.length=256)(h3:y.pins<=1000000):Pm { C with l:=I9 C.l y } where
 small:=h.small
 most0:=h.most0
 most1:=h.most1
 len:=by have:=h.len;simpa [Go.Z.I9] using this
 nodup:=by rw[wJ];exact h.nodup
 lt:=fun z hz=>by
  rcases N7 hz with rfl|⟨hz,_⟩
  ·exact h1
  ·exact h.lt z hz
 data:=fun z hz=>by
  rcases N7 hz with rfl|⟨hz,_⟩
  ·exact h2
  ·exact h.data z hz
 pins:=fun z hz=>by
  rcases N7 hz with rfl|⟨hz,_⟩
  ·exact h3
  ·exact h.pins z hz
structure Hx(w0:World)(R:Nat->Prop)(rl:Nat->Nat)(w:World)(c d m sb mb sc lc:Nat)(la:Option Addr)(L mp:List (Int×Value))(C:Ca):Prop where
 disk:AF w (fun x=>rl x=4) d sb mb sc L C.D
 cell:A1 w c 0 [.pointer (some ⟨d,0,none⟩),.int .i64 C.most,.map (some m),.slice la C.l.length lc]
 map:Bj w m mp
 row:Ow Tryz.prog w w0.heap.size 80 1 la C.l.length lc (iL (FS C.l))
 rc:rl c=1
 rm:rl m=2
 rrow:∀ q,la=some q->rl q.block=3
 bufs:∀ x∈C.l,∃ q g cc,Ay mp x.b=some (.pointer (some ⟨q,0,none⟩))/\rl q=6+x.b/\rl g=5/\A1 w q 0 [.slice (some ⟨g,0,none⟩) 256 cc,.int .i64 x.pins]/\At w g 0 (Au x.data)
 keys:∀ p∈mp,∃ x∈C.l,p.1=(x.b:Int)
 wf:Pm C
 reg:∀ x,rl x≠0->R x
 lo:∀ x,R x->w0.heap.size<=x/\x<w.heap.size
 mod:Ab No w0 w
section
variable{w0 w w':World}{R:Nat->Prop}{rl:Nat->Nat}{c d m sb mb sc lc:Nat}{la:Option Addr}{L mp:List (Int×Value)}{C:Ca}
theorem Hx.nos(h:Hx w0 R rl w c d m sb mb sc lc la L mp C)(k:Ab No w w'):Hx w0 R rl w' c d m sb mb sc lc la L mp C where
 disk:=h.disk.nos k
 cell:=h.cell.keep k id
 map:=h.map.keep k id
 row:=h.row.nos k
 rc:=h.rc
 rm:=h.rm
 rrow:=h.rrow
 bufs:=fun x hx=>by
  obtain⟨q,g,cc,h1,h2,h3,h4,h6⟩:=h.bufs x hx;exact⟨q,g,cc,h1,h2,h3,h4.keep k id,h6.keep k id⟩
 keys:=h.keys
 wf:=h.wf
 reg:=h.reg
 lo:=fun x hx=>by have:=h.lo x hx;have:=k.size;omega
 mod:=h.mod.no k
theorem Hx.drew(h:Hx w0 R rl w c d m sb mb sc lc la L mp C):Hx w0 R rl (Go.Den.Ah w) c d m sb mb sc lc la L mp C:=h.nos (Ab.refl No w).drew
theorem Hx.widen{R':Nat->Prop}(h:Hx w0 R rl w c d m sb mb sc lc la L mp C)(h1:∀ x,R x->R' x)(h2:∀ x,R' x->w0.heap.size<=x/\x<w.heap.size):Hx w0 R' rl w c d m sb mb sc lc la L mp C :=
 { h with reg:=fun x hx=>h1 x (h.reg x hx),lo:=h2 }
def ro(rl:Nat->Nat)(a r:Nat):Nat->Nat:=fun z=>if z=a then r else rl z
theorem Ce(rl:Nat->Nat)(a r:Nat):ro rl a r a=r:=by unfold ro;rw[if_pos rfl]
theorem Cd(rl:Nat->Nat){a r x:Nat}(h:x≠a):ro rl a r x=rl x:=by unfold ro;rw[if_neg h]
structure TU(w w':World)(rl rl':Nat->Nat):Prop where
 old:∀ x,rl x≠0->rl' x=rl x
 new:∀ x,rl x=0->rl' x≠0->w.heap.size<=x/\x<w'.heap.size
 dsk:∀ x,rl' x=4->rl x=4
theorem TU.refl(w w':World)(rl:Nat->Nat):TU w w' rl rl:=⟨fun _ _=>rfl,fun _ h k=>absurd h k,fun _ h=>h⟩
theorem TU.ro{rl':Nat->Nat}(h:TU w w' rl rl'){a r:Nat}(ha:rl' a=r\/(w.heap.size<=a/\a<w'.heap.size/\rl' a=0))(h4:r≠4)(h0:r≠0):TU w w' rl (ro rl' a r) where
 old:=fun x hx=>by
  by_cases e:x=a
  ·subst e;rw[Ce]
   have:=h.old x hx
   rcases ha with ha|⟨_,_,ha⟩
   ·rw[<- this,ha]
   ·omega
  ·rw[Cd _ e];exact h.old x hx
 new:=fun x hx hn=>by
  by_cases e:x=a
  ·subst e;rcases ha with ha | ⟨h1,h2,_⟩
   ·exact h.new x hx (by omega)
   ·exact⟨h1,h2⟩
  ·rw[Cd _ e]at hn;exact h.new x hx hn
 dsk:=fun x hx=>by
  by_cases e:x=a
  ·subst e;rw[Ce]at hx;exact absurd hx h4
  ·rw[Cd _ e]at hx;exact h.dsk x hx
theorem Hx.step{S:Nat->Prop}{rl':Nat->Nat}{lc':Nat}{la':Option Addr}{mp':List (Int×Value)}{l':List Bf}(h:Hx w0 R rl w c d m sb mb sc lc la L mp C)(k:Ab S w w')(hx:TU w w' rl rl')
  (hS:∀ x,x<w.heap.size->S x->rl x≠0/\rl x≠4/\rl x≠5)
  (hcell:A1 w' c 0 [.pointer (some ⟨d,0,none⟩),.int .i64 C.most,.map (some m),.slice la' l'.length lc']) (hmap:Bj w' m mp')
  (hrow:Ow Tryz.prog w' w0.heap.size 80 1 la' l'.length lc' (iL (FS l'))) (hla:∀ q,la'=some q->rl' q.block=3)
  (hl:∀ x∈l',(x∈C.l/\Ay mp' x.b=Ay mp x.b/\∀ q,S q->rl q≠6+x.b) \/
   ∃ q g cc,Ay mp' x.b=some (.pointer (some ⟨q,0,none⟩))/\rl' q=6+x.b/\rl' g=5/\A1 w' q 0 [.slice (some ⟨g,0,none⟩) 256 cc,.int .i64 x.pins]/\At w' g 0 (Au x.data))
  (hk:∀ p∈mp',∃ x∈l',p.1=(x.b:Int)) (hwf:Pm { C with l:=l' }) :
  Hx w0 (BJ R w w') rl' w' c d m sb mb sc lc' la' L mp' { C with l:=l' } where
 disk:=by
  have h4:=h.disk.keep k fun x hx e=>by
   have:=hS x (h.disk.lt x hx) e
   omega
  have e:(fun x=>rl' x=4)=fun x=>rl x=4:=by
   funext x;exact propext ⟨hx.dsk x,fun e=>by rw[hx.old x (by omega)];exact e⟩
  rw[e];exact h4
 cell:=hcell
 map:=hmap
 row:=hrow
 rc:=by rw[hx.old c (by rw[h.rc];omega)];exact h.rc
 rm:=by rw[hx.old m (by rw[h.rm];omega)];exact h.rm
 rrow:=hla
 bufs:=fun x hx'=>by
  rcases hl x hx' with ⟨hx1,hx2,hx3⟩|hn
  ·obtain⟨q,g,cc,h1,h2,h3,h4,h6⟩:=h.bufs x hx1;refine⟨q,g,cc,hx2.trans h1,?_,?_,h4.keep k fun e=>hx3 q e h2,h6.keep k fun e=>?_⟩
   ·rw[hx.old q (by omega)];exact h2
   ·rw[hx.old g (by omega)];exact h3
   ·exact(hS g h6.lt e).2.2 h3
  ·exact hn
 keys:=hk
 wf:=hwf
 reg:=fun x hn=>by
  by_cases e:rl x=0
  ·exact .inr (hx.new x e hn)
  ·exact .inl (h.reg x e)
 lo:=fun x hx=>by
  have:=k.size
  have:=h.mod.size
  rcases hx with hx|hx
  ·have:=h.lo x hx;omega
  ·omega
 mod:=h.mod.trans k fun x hx e=>by
  have:=h.mod.size
  have:=hS x (by omega) e
  have:=h.lo x (h.reg x (by omega))
  omega
theorem Hx.dsk{S : Nat → Prop}{L' : List (Int × Value)}{D' : St}(h : Hx w0 R rl w c d m sb mb sc lc la L mp C)(k : Ab S w w')(hS : ∀ x, S x → rl x = 4)
    (hd : AF w' (BJ (fun x => rl x = 4) w w') d sb mb sc L' D') (hsm : Fd D') (hn : D'.vs.length = C.D.vs.length) :
    ∃ rl', Hx w0 (BJ R w w') rl' w' c d m sb mb sc lc la L' mp { C with D := D' } := by
  have hold : ∀ x, rl x ≠ 0 → x < w.heap.size := fun x hx => (h.lo x (h.reg x hx)).2;have hsame : ∀ x, rl x ≠ 0 → (if w.heap.size ≤ x ∧ x < w'.heap.size then 4 else rl x) = rl x := by
    intro x hx;rw[if_neg (by have := hold x hx;omega)]
  have hz := k.size;have hw0 := h.mod.size;refine⟨fun x => if w.heap.size ≤ x ∧ x < w'.heap.size then 4 else rl x, ?_⟩
  exact { disk := by
            have e : (fun x => (if w.heap.size ≤ x ∧ x < w'.heap.size then 4 else rl x) = 4) = BJ (fun x => rl x = 4) w w' := by
              funext x;unfold BJ;apply propext;constructor
              · intro e
                split at e
                · rename_i hn;exact .inr hn
                · exact .inl e
              · rintro(e | e)
                · rw[hsame x (by omega)];exact e
                · rw[if_pos e]
            rw[e];exact hd
          cell := h.cell.keep k fun e => by have := hS c e;have := h.rc;omega
          map := h.map.keep k fun e => by have := hS m e;have := h.rm;omega
          row := h.row.keep k fun q hq e => by have := hS _ e;have := h.rrow q hq;omega
          rc := by show(if _ then 4 else rl c) = 1;rw[hsame c (by rw[h.rc];omega)];exact h.rc
          rm := by show(if _ then 4 else rl m) = 2;rw[hsame m (by rw[h.rm];omega)];exact h.rm
          rrow := fun q hq => by
            show(if _ then 4 else rl q.block) = 3;rw[hsame q.block (by rw[h.rrow q hq];omega)];exact h.rrow q hq
          bufs := fun x hx => by
            obtain⟨q, g, cc, h1, h2, h3, h4, h6⟩ := h.bufs x hx;refine⟨q, g, cc, h1, ?_, ?_, h4.keep k fun e => by have := hS q e;omega, h6.keep k fun e => by have := hS g e;omega⟩
            · show(if _ then 4 else rl q) = _;rw[hsame q (by omega)];exact h2
            · show(if _ then 4 else rl g) = _;rw[hsame g (by omega)];exact h3
          keys := h.keys
          wf := { small := hsm, most0 := h.wf.most0, most1 := h.wf.most1, len := h.wf.len, nodup := h.wf.nodup, lt := fun x hx => by rw[hn];exact h.wf.lt x hx, data := h.wf.data, pins := h.wf.pins }
          reg := fun x hx => by
            by_cases hn : w.heap.size ≤ x ∧ x < w'.heap.size
            · exact .inr hn
            · simp only[if_neg hn]at hx
              exact .inl (h.reg x hx)
          lo := fun x hx => by
            rcases hx with hx|hx
            · have := h.lo x hx;omega
            · omega
          mod := h.mod.trans k fun x hx e => by
            have := hS x e
            have := h.lo x (h.reg x (by omega))
            omega }
end
end Go.Z
end
section
open Go Go.Den Go.Proofs
namespace Go.Den
section
variable{P:Program}{w:World}
theorem Ow.app{base k bytes l c m c2:Nat}{T ty:TypeId}{z:Value}{a:Option Addr}{ad:Addr}{xs ys:List Value}(hT:D5 P T k z bytes)(hk:0<k)(h:Ow P w base T k a l c xs)
  (hr:Bl w (some ad) ys) (hl:ys.length=m*k) (hm:0<m) (h1:∀ v∈ys,v.oneCell'=true) (h63:(l+m)*bytes<=140737488355328) (hb:0<bytes) (hbase:base<=w.heap.size) :
  ∃ q c' w',(Builtin.append_ #[T,T] ty #[.slice a l c,.slice (some ad) m c2]).run P w=.ok (.slice (some q) (l+m) c') w'/\Ow P w' base T k (some q) (l+m) c' (xs++ys)/\Ab (fun x=>∃ q,a=some q/\x=q.block) w w' /\
   ((∃ q',a=some q'/\q.block=q'.block)\/w.heap.size<=q.block):=by
 obtain⟨a',c',w',hrun,ho,hmod⟩:=h.append' (ty:=ty) hT hk hr hl (c2:=c2) (by simp) h1 h63 hb hbase;obtain⟨e,i,zv,he,hi,hsz,hz,hzc,hby⟩:=hT.is;obtain⟨e',he',how⟩:=h;have:e'=e:=by rw[he]at he';simpa using he'.symm
 subst this;have hlm:l+m<=(l+m)*bytes:=Lf3 _ hb;have hmb:m*bytes<=(l+m)*bytes:=mI _ (by omega);have hcell:∀ j u,ys[j]?=some u->w.cell? (ad.add j)=some u:=by
  intro j u hj;rcases hr with hr | ⟨b,o,e,hat⟩
  ·subst hr;simp at hj
  ·simp at e;subst e;exact hat.cell hj
 rcases how.2 with ⟨hv,hx⟩|⟨g,cap,GT,hv,hbg,hg,hnc,hcm,hcs,htake⟩
 ·simp at hv;obtain⟨rfl,rfl,rfl⟩:=hv;have hr2:=run_append_nil (P:=P) w T ty e' i zv he hi hz ad m c2 ys (by rw[hsz];exact hl) hcell hm (by omega) (by rw[hby];omega);have hrun':=hrun;rw[hr2]at hrun';simp only[Result.ok.injEq,Value.slice.injEq]at hrun';obtain⟨⟨rfl,_,_⟩,_⟩:=hrun';exact⟨_,c',w',hrun,ho,hmod,.inr (Ld _)⟩
 ·simp at hv;obtain⟨rfl,rfl⟩:=hv;by_cases hroom:l+m<=c
  ·have hr2:=run_append_room (P:=P) w T ty e' i he hi g l c GT hg ad m c2 ys (by rw[hsz];exact hl) hcell h1 hroom (by rw[hsz,hl,hcs,<- Ln5];exact mI _ hroom);have hrun':=hrun;rw[hr2]at hrun';simp only[Result.ok.injEq,Value.slice.injEq]at hrun';obtain⟨⟨rfl,_,_⟩,_⟩:=hrun';exact⟨_,c',w',hrun,ho,hmod,.inl ⟨_,rfl,rfl⟩⟩
  ·have holds:∀ j u,xs[j]?=some u->w.cell? ((⟨g,0,none⟩:Addr).add j)=some u:=how.cells (g:=g) rfl;have hr2:=run_append_grow (P:=P) w T ty e' i zv he hi hz ⟨g,0,none⟩ l c xs (by rw[hsz];exact how.1) holds ad m c2 ys (by rw[hsz];exact hl) hcell (by omega) (by omega) (growslice_fits (by omega) (by rw[hby];exact h63));have hrun':=hrun;rw[hr2]at hrun';simp only[Result.ok.injEq,Value.slice.injEq]at hrun'
   obtain⟨⟨rfl,_,_⟩,_⟩:=hrun';exact⟨_,c',w',hrun,ho,hmod,.inr (Ld _)⟩
end
theorem YI{R:Nat->Prop}{w w1 w2:World}(h1:w.heap.size<=w1.heap.size)(h2:w1.heap.size<=w2.heap.size):BJ (BJ R w w1) w1 w2=BJ R w w2:=by
 funext x;unfold BJ;apply propext;constructor
 ·rintro((h|h)|h)
  ·exact .inl h
  ·exact .inr (by omega)
  ·exact .inr (by omega)
 ·rintro(h|h)
  ·exact .inl (.inl h)
  ·by_cases hx:x<w1.heap.size
   ·exact .inl (.inr (by omega))
   ·exact .inr (by omega)
theorem Ab.anys{R:Nat->Prop}{w w1:World}(h1:Ab No w w1):Ab R w w1:=h1.mono fun _ _ h=>h.elim
end Go.Den
namespace Go.Z
section
variable{w0 w w':World}{R:Nat->Prop}{rl:Nat->Nat}{c d m sb mb sc lc:Nat}{la:Option Addr}{L mp:List (Int×Value)}{C:Ca}{K:Value->World->Prop}
theorem N5:RA Tryz.prog 250=some (.pointer none):=by kernel_rfl
theorem Hx.ld(h:Hx w0 R rl w c d m sb mb sc lc la L mp C):Ru (Instr.loadAt 134 (.pointer (some (Addr.add ⟨c,0,none⟩ 0)))) w (.pointer (some ⟨d,0,none⟩)) w:=by
 rw[Ad];exact h.cell.at.load (by kernel_rfl) rfl
theorem Hx.lmost(h:Hx w0 R rl w c d m sb mb sc lc la L mp C):Ru (Instr.loadAt 3 (.pointer (some (Addr.add ⟨c,0,none⟩ 1)))) w (.int .i64 C.most) w:=by
 rw[Ad];exact h.cell.at.load (by kernel_rfl) rfl
theorem Hx.lm(h:Hx w0 R rl w c d m sb mb sc lc la L mp C):Ru (Instr.loadAt 250 (.pointer (some (Addr.add ⟨c,0,none⟩ 2)))) w (.map (some m)) w:=by
 rw[Ad];exact h.cell.at.load (by kernel_rfl) rfl
theorem YO{l0:Nat}{v0 v1 v2:Value}(h:A1 w c 0 [v0,v1,v2,.slice la l0 lc]):Ru (Instr.loadAt 80 (.pointer (some (Addr.add ⟨c,0,none⟩ 3)))) w (.slice la l0 lc) w:=by
 rw[Ad];exact h.at.load (by kernel_rfl) rfl
theorem Hx.gro(h:Hx w0 R rl w c d m sb mb sc lc la L mp C)(k:Ab No w w'):Hx w0 (BJ R w w') rl w' c d m sb mb sc lc la L mp C :=
 (h.nos k).widen (fun x hx=>.inl hx) fun x hx=>by
  have:=k.size
  have:=h.mod.size
  rcases hx with hx|hx
  ·have:=h.lo x hx;omega
  ·omega
theorem Hx.out_of{x:Nat}(h:Hx w0 R rl w c d m sb mb sc lc la L mp C)(hx:w.heap.size<=x):rl x=0:=by
 by_cases e:rl x=0
 ·exact e
 ·have:=h.lo x (h.reg x e);omega
theorem RK(D:St){b:Nat}(hb:b<D.vs.length):AD D (b:Int)=0/\HU D (b:Int)=DC D b:=by
 have e:AD D (b:Int)=0:=by unfold AD;rw[if_neg (by omega)]
 exact⟨e,by unfold HU DC;rw[if_pos e]⟩
theorem Hx.atLen(h:Hx w0 R rl w c d m sb mb sc lc la L mp C){b:Nat}(hb:b<C.D.vs.length):(DC C.D b).length=256:=by
 have hv:C.D.vs[b]?=some C.D.vs[b]:=by simp[hb]
 have e:Iz C.D b=C.D.vs[b]:=by
  unfold Iz;rw[if_neg (by omega),Lr,hv];rfl
 unfold DC;rw[e];exact h.disk.wf.lastLen hv
theorem Hx.look(h:Hx w0 R rl w c d m sb mb sc lc la L mp C){k:Int}{v:Value}(hl:Ay mp k=some v):Ru (Instr.lookup 250 (.map (some m)) (.int .i64 k) false) w v w:=by
 have:=FR (P:=Tryz.prog) N5 h.map (k:=k)
 rwa [hl]at this
theorem gP{q g cc:Nat}{v:Value}(h:A1 w q 0 [.slice (some ⟨g,0,none⟩) 256 cc,v]):Ru (Instr.loadAt 88 (.pointer (some (Addr.add (Addr.add ⟨q,0,none⟩ 0) 0)))) w (.slice (some ⟨g,0,none⟩) 256 cc) w:=by
 rw[Ad,Ad];exact h.at.load (by kernel_rfl) rfl
theorem kT{q:Nat}{v:Value}{n:Int}(h:A1 w q 0 [v,.int .i64 n]):Ru (Instr.loadAt 3 (.pointer (some (Addr.add ⟨q,0,none⟩ 1)))) w (.int .i64 n) w:=by
 rw[Ad];exact h.at.load (by kernel_rfl) rfl
theorem yZ(h:Hx w0 R rl w c d m sb mb sc lc la L mp C){x:Bf}(hx:x∈C.l)(hk:∀ w',Ab No w w'->K (.bool (!Xb C.D x)) w'):A8 Tryz.prog Fj #[.pointer (some ⟨c,0,none⟩),.int .i64 x.b] w K:=by
 apply OB;unfold Ik;obtain⟨q,g,cc,b1,b2,b3,b4,b6⟩:=h.bufs x hx;obtain⟨r1,r2⟩:=RK C.D (h.wf.lt x hx);have hal:=h.atLen (h.wf.lt x hx);have hxl:=h.wf.data x hx;refine⟨_,rfl,_,h.ld,qW h.disk h.wf.small fun w1 a1 c1 m1 f1=>?_⟩;rw[r2]at f1 |-;rw[r1,hal];refine⟨_,_,_,_,rfl,_,rfl,some m,(h.nos m1).lm,_,(h.nos m1).look b1,_,rfl,_,_,_,gP (b4.keep m1 id),?_⟩
 refine qN hal hxl (by omega) f1.row (.inr ⟨_,_,rfl,b6.keep m1 id⟩) fun w2 f la' m2 hf=>⟨_,_,rfl,?_⟩;have e:(decide (f >= 0))=!Xb C.D x:=by
  unfold Xb;by_cases he:x.data=DC C.D x.b
  ·have:¬ 0<=f:=fun h=>(hf.1 h) he.symm;simp[he];omega
  ·have:0<=f:=hf.2 fun e=>he e.symm;simp[he];omega
 rw[e];exact hk w2 (m1.no m2)
theorem jR(w:World)(n:Int):(Instr.box 3 (.int .i64 n)).run Tryz.prog w=.ok (.pointer (some ⟨w.heap.size,0,none⟩)) (w.alloc (.cells ⟨[.int .i64 n]⟩ 3)):=rfl
theorem mV(w:World)(p:Option Addr):(Instr.box 160 (.pointer p)).run Tryz.prog w=.ok (.pointer (some ⟨w.heap.size,0,none⟩)) (w.alloc (.cells ⟨[.pointer p]⟩ 160)):=rfl
theorem HG{rl:Nat->Nat}{a b i j:Nat}(h1:rl a=i)(h2:rl b=j)(h:i≠j):a≠b:=fun e=>h (by rw[<- h1,<- h2,e])
theorem pW{S:Nat->Prop}{q b:Nat}{xs:List Int}(hat:At w q 0 [.int .i64 b])(hS:¬ S q):Pk (.func (.func D7) #[] #[.pointer (some ⟨q,0,none⟩)]) w S (fun k=>k==(b:Int)) xs:=by
 intro w' m x _ K hK;refine⟨_,_,_,rfl,?_⟩;show A8 Tryz.prog D7 #[.int .i64 x,.pointer (some ⟨q,0,none⟩)] w' K;apply OC;exact⟨_,(hat.keep m hS).load (i:=0) (by kernel_rfl) rfl,hK w' (Ab.refl _ _)⟩
theorem Yc{S:Nat->Prop}{q b:Nat}{xs:List Int}(hat:At w q 0 [.int .i64 b])(hS:¬ S q):Pk (.func (.func CE) #[] #[.pointer (some ⟨q,0,none⟩)]) w S (fun k=>k==(b:Int)) xs:=by
 intro w' m x _ K hK;refine⟨_,_,_,rfl,?_⟩;show A8 Tryz.prog CE #[.int .i64 x,.pointer (some ⟨q,0,none⟩)] w' K;apply OA;exact⟨_,(hat.keep m hS).load (i:=0) (by kernel_rfl) rfl,hK w' (Ab.refl _ _)⟩
theorem Po(l:List Bf)(b:Nat):((FS l).filter fun x=>!(x==(b:Int)))=FS (Br l b):=by
 rw[cA];apply Lh3;intro x _
 congr 1
theorem RE(l:List Bf):(FS l).length=l.length:=by simp[FS]
theorem cS{q b:Nat}{f:FuncId}(h:Hx w0 R rl w c d m sb mb sc lc la L mp C)
  (ht:Pk (.func (.func f) #[] #[.pointer (some ⟨q,0,none⟩)]) w (Of la) (fun k=>k==(b:Int)) (FS C.l))
  (hk:∀ w',Ow Tryz.prog w' w0.heap.size 80 1 la (Br C.l b).length lc (iL (FS (Br C.l b)))->Ab (Of la) w w'->K (.slice la (Br C.l b).length lc) w') :
  A8 Tryz.prog Bx #[.slice la C.l.length lc,.func (.func f) #[] #[.pointer (some ⟨q,0,none⟩)]] w K:=by
 have h1:=h.wf.len;have h2:=h.wf.most1;refine QJ h.row (by omega) ht fun w' l' o hl' m'=>?_;rw[Po]at o hl';rw[RE]at hl';subst hl';exact hk w' o m'
theorem Hx.of3(h:Hx w0 R rl w c d m sb mb sc lc la L mp C){x:Nat}(hx:Of la x):rl x=3:=by
 obtain⟨q,hq,rfl⟩:=hx;exact h.rrow q hq
def OW(rl:Nat->Nat):Nat->Prop:=fun x=>rl x=1\/rl x=2\/rl x=3
set_option maxRecDepth 100000 in
theorem Af6(h:Hx w0 R rl w c d m sb mb sc lc la L mp C){b:Nat}
  (hk:∀ w' mp',Hx w0 (BJ R w w') rl w' c d m sb mb sc lc la L mp' { C with l:=Br C.l b }->Ab R w w'->K (.tuple #[]) w'):A8 Tryz.prog Gy #[.pointer (some ⟨c,0,none⟩),.int .i64 b] w K:=by
 apply Qp;unfold J2;have m1:Ab No w (w.alloc (.cells ⟨[.int .i64 b]⟩ 3)):=(Ab.refl No w).alloc _;have h1:=(h.nos m1).drew;have hq:At (Ah (w.alloc (.cells ⟨[.int .i64 b]⟩ 3))) w.heap.size 0 [.int .i64 b]:=A1.new.at.drew;have hsz:(Ah (w.alloc (.cells ⟨[.int .i64 b]⟩ 3))).heap.size=w.heap.size+1:=by simp
 refine⟨_,_,jR _ _,_,rfl,some m,h1.lm,_,hq.load (i:=0) (by kernel_rfl) rfl,?_⟩;have m1':Ab No w (Ah (w.alloc (.cells ⟨[.int .i64 b]⟩ 3))):=m1.drew;generalize hW:Ah (w.alloc (.cells ⟨[.int .i64 b]⟩ 3))=w1 at *;have hq0:=h.out_of (x:=w.heap.size) (Ld _);obtain⟨w2,s1,s2,s3,s4⟩:=Vi (P:=Tryz.prog) (T2:=303) (ty:=0) (k:=(b:Int)) N5 h1.map;have hc2:=h1.cell.keep s3 (HG h1.rc h1.rm (by omega))
 refine⟨w2,s1,_,rfl,_,_,_,YO hc2,?_⟩;have hrow2:=h1.row.keep s3 fun q hq'=>HG (h1.rrow q hq') h1.rm (by omega);have hq2:=hq.keep s3 (HG hq0 h1.rm (by omega));have hl1:=h1.wf.len;have hl2:=h1.wf.most1;refine QJ hrow2 (by omega) (pW hq2 fun e=>by have:=h1.of3 e;omega) fun w3 l3 o3 hl3 m3=>⟨_,_,_,rfl,_,rfl,?_⟩;rw[Po]at o3 hl3;rw[RE]at hl3;subst hl3;have hc3:=hc2.keep m3 fun e=>by have:=h1.of3 e;have:=h1.rc;omega
 obtain⟨w4,t1,t2,t3,t4⟩:=hc3.store (P:=Tryz.prog) (T:=80) (i:=3) (v:=.slice la (Br C.l b).length lc) (by kernel_rfl) (by simp) rfl;refine⟨w4,by rw[Ad];exact t1,?_⟩;have M:Ab (OW rl) w w4:=((m1'.anys.trans (S':=OW rl) (s3.mono fun x _ e=>.inr (.inl (by rw[e];exact h.rm))) fun _ _ e=>e).trans (m3.mono fun x _ e=>.inr (.inr (h1.of3 e))) fun _ _ e=>e).trans (t3.mono fun x _ e=>.inl (by rw[e];exact h.rc)) fun _ _ e=>e
 refine hk w4 (QW b mp) ?_ (M.mono fun x _ e=>h.reg x (by unfold OW at e;omega));refine h.step M (TU.refl _ _ _) (fun x _ e=>by unfold OW at e;omega) (by simpa using t2) ((s2.keep m3 fun e=>by have:=h1.of3 e;have:=h1.rm;omega).keep t3 (HG h1.rm h1.rc (by omega)))
  (o3.keep t3 fun q hq'=>HG (h1.rrow q hq') h1.rc (by omega)) h.rrow (fun x hx=>.inl ⟨(Bm.1 hx).1,?_,fun q e=>by unfold OW at e;omega⟩) (fun p hp=>?_) (h.wf.out b)
 ·rw[bR,if_neg (by have:=(Bm.1 hx).2;omega)]
 ·obtain⟨hp1,hp2⟩:=Y9.1 hp;obtain⟨x,hx,e⟩:=h.keys p hp1;exact⟨x,Bm.2 ⟨hx,by omega⟩,e⟩
end
section
variable{w0 w w':World}{R:Nat->Prop}{rl:Nat->Nat}{c d m sb mb sc lc:Nat}{la:Option Addr}{L mp:List (Int×Value)}{C:Ca}{K:Value->World->Prop}
def pI(C:Ca)(k:Int):Bool:=match Eo C.l k.toNat with | some x=>Ix C.D x | none=>false
theorem YZ(h:Pm C){x:Bf}(hx:x∈C.l):pI C (x.b:Int)=Ix C.D x:=by
 unfold pI;rw[Lr,DH h.nodup hx]
theorem iY{q:Nat}(h:Hx w0 R rl w c d m sb mb sc lc la L mp C)(hq:At w q 0 [.pointer (some ⟨c,0,none⟩)]):Pk (.func (.func Ds) #[] #[.pointer (some ⟨q,0,none⟩)]) w No (pI C) (FS C.l):=by
 intro w' k xk hx K hK;unfold FS at hx;obtain⟨y,hy,rfl⟩:=Li.1 hx;refine⟨_,_,_,rfl,?_⟩;show A8 Tryz.prog Ds #[.int .i64 y.b,.pointer (some ⟨q,0,none⟩)] w' K;apply MT;unfold H9;have h':=h.nos k;have hq':=(hq.keep k id).load (P:=Tryz.prog) (T:=160) (i:=0) (v:=.pointer (some ⟨c,0,none⟩)) (by kernel_rfl) rfl;obtain⟨q2,g,cc,b1,b2,b3,b4,b6⟩:=h'.bufs y hy
 refine Ac.cut (fun z w2=>z=[.bool (Ix C.D y)]/\Ab No w' w2) ⟨_,hq',_,rfl,some m,h'.lm,_,h'.look b1,_,rfl,_,kT b4,Aa (fun hb=>?_) (fun hb=>?_)⟩ ?_
 ·have hp:y.pins=0:=by simpa using hb
  exact⟨_,hq',yZ h' hy fun w2 m2=>⟨_,rfl,by simp[Ix,hp],m2⟩⟩
 ·have hp:¬ y.pins=0:=by simpa using hb
  exact⟨by simp[Ix,hp],Ab.refl _ _⟩
 ·rintro z w2 ⟨rfl,m2⟩;refine⟨_,rfl,?_⟩
  have:=hK w2 m2
  rwa [YZ h.wf hy]at this
theorem uF{l:List Bf}{j:Nat}{k:Int}(h:(FS l)[j]?=some k):∃ x,l[j]?=some x/\k=(x.b:Int):=by
 unfold FS at h;rw[jK]at h;cases hx:l[j]? with
 | none=>rw[hx]at h;cases h
 | some x=>rw[hx]at h;exact⟨x,rfl,(Ln h).symm⟩
theorem sL(h:Pm C):(E2 (pI C) (FS C.l) 0=-1/\C.l.find? (Ix C.D)=none)\/∃(j:Nat)(x:Bf),E2 (pI C) (FS C.l) 0=(j:Int)/\C.l[j]?=some x/\C.l.find? (Ix C.D)=some x:=by
 rcases FQ (pI C) (FS C.l) 0 with ⟨e,hno⟩|⟨j,k,e,hj,hp,hbef⟩
 ·refine .inl ⟨e,Lv4.2 fun x hx=>?_⟩
  have:=hno (x.b:Int) (Li.2 ⟨x,hx,rfl⟩)
  rw[YZ h hx]at this;rw[this];simp
 ·obtain⟨x,hx,rfl⟩:=uF hj;have hxm:=Ly hx;obtain⟨hlt,hxe⟩:=Lh.1 hx;refine .inr ⟨j,x,by rw[e,Pj],hx,?_⟩;rw[YZ h hxm]at hp;refine List.find?_eq_some_iff_append.2 ⟨hp,C.l.take j,C.l.drop (j+1),?_,fun y hy=>?_⟩
  ·conv=>lhs;rw[<- Lh2 j C.l,List.drop_eq_getElem_cons hlt,hxe]
  ·have hyl:=Ly3 hy
   have:=hbef (y.b:Int) (by unfold FS;rw[<- Lf4];exact Li.2 ⟨y,hy,rfl⟩)
   rw[YZ h hyl]at this;rw[this];rfl
theorem AdZ(h:Hx w0 R rl w c d m sb mb sc lc la L mp C)
  (hk1:∀ C',MA C=some C'->∀ w' mp',Hx w0 (BJ R w w') rl w' c d m sb mb sc lc la L mp' C'->Ab R w w'->K (.int .i64 0) w')
  (hk2:MA C=none->∀ w',Ab No w w'->K (.int .i64 5) w'):A8 Tryz.prog FE #[.pointer (some ⟨c,0,none⟩)] w K:=by
 apply P7;unfold IP;have m1:Ab No w (Ah (w.alloc (.cells ⟨[.pointer (some ⟨c,0,none⟩)]⟩ 160))):=((Ab.refl No w).alloc _).drew;have hq:At (Ah (w.alloc (.cells ⟨[.pointer (some ⟨c,0,none⟩)]⟩ 160))) w.heap.size 0 [.pointer (some ⟨c,0,none⟩)]:=A1.new.at.drew;have h1:=h.nos m1;refine⟨_,_,mV _ _,?_⟩;generalize hW:Ah (w.alloc (.cells ⟨[.pointer (some ⟨c,0,none⟩)]⟩ 160))=w1 at *
 have lq:∀{w2:World},Ab No w1 w2->Ru (Instr.loadAt 160 (.pointer (some ⟨w.heap.size,0,none⟩))) w2 (.pointer (some ⟨c,0,none⟩)) w2:=fun k=>(hq.keep k id).load (i:=0) (by kernel_rfl) rfl;have hl1:=h.wf.len;have hl2:=h.wf.most1;refine⟨_,lq (Ab.refl _ _),_,rfl,_,_,_,YO h1.cell,_,lq (Ab.refl _ _),_,rfl,_,h1.lmost,Aa (fun hb=>?_) (fun hb=>?_)⟩
 ·have hlt:C.l.length<C.most:=by have:=Lc hb;omega
  exact hk1 C (by unfold MA;rw[if_pos hlt]) w1 mp (h.gro m1) m1.anys
 ·have hge:¬ C.l.length<C.most:=by have:=Lb hb;omega
  refine⟨_,lq (Ab.refl _ _),_,rfl,_,_,_,YO h1.cell,Tv (S:=No) (RE _) (by omega) h1.row.rowU.row (iY h1 hq) fun w2 m2=>⟨_,rfl,?_⟩⟩;rcases sL h.wf with ⟨e,hf⟩ | ⟨j,x,e,hx,hf⟩
  ·rw[e];refine tt rfl (hk2 ?_ w2 (m1.no m2));unfold MA;rw[if_neg hge,hf];rfl
  ·rw[e];have hlt:=(Lh.1 hx).1;have m2':=m2.drew;have h2:=h1.nos m2';have hrow:=h2.row.rowU.row;obtain⟨b2,o2,hla,hat⟩:=LB (i:=j) hrow (by rw[RE];exact hlt);subst hla;refine ff (by simp) ⟨_,lq m2',_,lq m2',_,rfl,_,_,_,YO h2.cell,_,Ar (k:=1) (by kernel_rfl) (by omega) (by omega),?_⟩;rw[Ad,show(j:Int).toNat*1=j by omega];have hv:(iL (FS C.l))[j]?=some (.int .i64 x.b):=by simp[iL,FS,hx,I]
   refine⟨_,hat.load (by kernel_rfl) hv,Af6 h2 fun w3 mp' h3 m3=>⟨rfl,?_⟩⟩;have M:Ab No w (Ah w2):=m1.no m2';refine hk1 _ (by unfold MA;rw[if_neg hge,hf];rfl) w3 mp' (h3.widen (fun y hy=>?_) fun y hy=>?_) (M.anys.trans m3 fun y hy e=>e)
   ·have:=M.size
    rcases hy with hy|hy
    ·exact .inl hy
    ·exact .inr (by omega)
   ·have:=M.size
    have:=m3.size
    have:=h.mod.size
    rcases hy with hy|hy
    ·have:=h.lo y hy;omega
    ·omega
theorem jP{S:World->Prop}{w3:World}{z b:Nat}{x:Bf}(h:Hx w0 R rl w c d m sb mb sc lc la L mp C)(M:Ab (Of la) w w3)
  (o3:Ow Tryz.prog w3 w0.heap.size 80 1 la (Br C.l b).length lc (iL (FS (Br C.l b)))) (hz:At w3 z 0 [.int .i64 b]) (hx:x∈C.l) (hxb:x.b=b)
  (hk:∀ w' rl' lc' la',Hx w0 (BJ R w w') rl' w' c d m sb mb sc lc' la' L mp { C with l:=Br C.l b++[x] }->Ab R w w'->S w') :
  ∃(a31:Option Addr)(l31 c31:Nat),∃ w4:World,Ru (Builtin.append_ #[80,80] 80 #[.slice la (Br C.l b).length lc,.slice (some ⟨z,0,none⟩) 1 1]) w3 (.slice a31 l31 c31) w4/\∃ q32:Addr,(.pointer (some ⟨c,0,none⟩):Value)=.pointer (some q32) /\
   ∃ w5:World,Eh (Instr.storeAt 80 (.pointer (some (Addr.add q32 3))) (.slice a31 l31 c31)) w4 w5/\S w5:=by
 have hl1:=h.wf.len;have hl2:=h.wf.most1;have hol:=VM C.l b;have hzM:=M.size;have hw0:=h.mod.size;obtain⟨q',c',w4,s1,s2,s3,s4⟩:=o3.app (ty:=80) (m:=1) (c2:=1) (ad:=⟨z,0,none⟩) (ys:=[.int .i64 b]) Hn (by omega) (.inr ⟨_,_,rfl,hz⟩) rfl (by omega) (by simp;rfl) (by omega) (by omega) (by omega);refine⟨_,_,_,w4,s1,_,rfl,?_⟩;have s3':Ab (Of la) w3 w4:=s3;have hc4:=(h.cell.keep M fun e=>by have:=h.of3 e;have:=h.rc;omega).keep s3' fun e=>by have:=h.of3 e;have:=h.rc;omega
 obtain⟨w5,t1,t2,t3,t4⟩:=hc4.store (P:=Tryz.prog) (T:=80) (i:=3) (v:=.slice (some q') ((Br C.l b).length+1) c') (by kernel_rfl) (by simp) rfl;refine⟨w5,by rw[Ad];exact t1,?_⟩;have hzs:=s3'.size;have hzt:=t3.size;have M4:Ab (Of la) w w4:=M.trans s3' fun _ _ e=>e;have M5:Ab (OW rl) w w5:=(M4.mono fun x _ e=>.inr (.inr (h.of3 e))).trans t3 fun x _ e=>.inl (by rw[e];exact h.rc);have hnew:rl q'.block=3\/(w.heap.size<=q'.block/\q'.block<w5.heap.size/\rl q'.block=0):=by
  rcases s4 with ⟨q2,hq2,e⟩|e
  ·left;rw[e];exact h.rrow q2 hq2
  ·right
   have:=(s2.base (q:=q') rfl).2
   exact⟨by omega,by omega,h.out_of (by omega)⟩
 refine hk w5 (ro rl q'.block 3) c' (some q') ?_ (M5.mono fun x _ e=>h.reg x (by unfold OW at e;omega));have hlen:(Br C.l b++[x]).length=(Br C.l b).length+1:=by simp
 have hnum:iL (FS (Br C.l b))++[.int .i64 b]=iL (FS (Br C.l b++[x])):=by simp[FS,iL,I,hxb]
 subst hxb;refine h.step M5 ((TU.refl _ _ _).ro hnew (by omega) (by omega)) (fun y _ e=>by unfold OW at e;omega) ?_ (((h.map.keep M4 fun e=>by have:=h.of3 e;have:=h.rm;omega)).keep t3 (HG h.rm h.rc (by omega))) ?_
  (fun q hq=>by have:=Ln hq;subst this;exact Ce _ _ _) (fun y hy=>.inl ⟨?_,rfl,fun q e=>by unfold OW at e;omega⟩) (fun p hp=>?_) (h.wf.move hx)
 ·rw[hlen];simpa using t2
 ·rw[hlen,<- hnum];refine s2.keep t3 fun q hq e=>?_
  have:=Ln hq
  subst this;have hrc:=h.rc;rcases hnew with hn | ⟨_,_,hn⟩
  ·rw[e]at hn;omega
  ·rw[e]at hn;omega
 ·rcases Lq.1 hy with hy|hy
  ·exact(Bm.1 hy).1
  ·simp at hy;subst hy;exact hx
 ·obtain⟨y,hy,e⟩:=h.keys p hp;by_cases hyx:y.b=x.b
  ·exact⟨x,by simp,by rw[e,hyx]⟩
  ·exact⟨y,Lq.2 (.inl (Bm.2 ⟨hy,hyx⟩)),e⟩
end
section
variable{w0 w w':World}{R:Nat->Prop}{rl:Nat->Nat}{c d m sb mb sc lc:Nat}{la:Option Addr}{L mp:List (Int×Value)}{C:Ca}{K:Value->World->Prop}
def Cq(w0:World)(R:Nat->Prop)(w:World)(c d b q:Nat)(C:Ca):Prop :=
 ∃ rl m sb mb sc lc la L mp,Hx w0 R rl w c d m sb mb sc lc la L mp C/\Ay mp (b:Int)=some (.pointer (some ⟨q,0,none⟩))
def Cx(w0:World)(R:Nat->Prop)(w:World)(c d:Nat)(C:Ca):Prop:=∃ rl m sb mb sc lc la L mp,Hx w0 R rl w c d m sb mb sc lc la L mp C
theorem ZW(w:World)(a:Option Addr)(l cc:Nat):(Instr.build 247 #[(0,.slice a l cc)]).run Tryz.prog w=.ok (.agg ⟨[.slice a l cc]⟩) w:=by kernel_rfl
theorem Y5(w:World)(a:Option Addr)(l cc:Nat):(Instr.build 249 #[(0,.agg ⟨[.slice a l cc]⟩)]).run Tryz.prog w=.ok (.agg ⟨[.slice a l cc,.int .i64 0]⟩) w:=by kernel_rfl
theorem fQ(w:World)(cs:List Value):(Instr.box 249 (.agg ⟨cs⟩)).run Tryz.prog w=.ok (.pointer (some ⟨w.heap.size,0,none⟩)) (w.alloc (.cells ⟨cs⟩ 249)):=rfl
theorem Hx.noKey(h:Hx w0 R rl w c d m sb mb sc lc la L mp C){b:Nat}(hf:Eo C.l b=none):Ay mp (b:Int)=none:=by
 cases hl:Ay mp (b:Int)with
 | none=>rfl
 | some v =>
  obtain⟨x,hx,e⟩:=h.keys _ (Jp hl);have e':(b:Int)=x.b:=e;exact absurd (by omega) (Ho hf x hx)
set_option maxRecDepth 100000 in
theorem rH(h:Hx w0 R rl w c d m sb mb sc lc la L mp C){b:Nat}(hb:b<C.D.vs.length)
  (hk1:∀ C',KP C b=some C'->∀ w' q,Cq w0 (BJ R w w') w' c d b q C'->Ab R w w'->K (.tuple #[.pointer (some ⟨q,0,none⟩),.int .i64 0]) w')
  (hk2:KP C b=none->∀ w',Ab No w w'->K (.tuple #[.pointer none,.int .i64 5]) w'):A8 Tryz.prog Dp #[.pointer (some ⟨c,0,none⟩),.int .i64 b] w K:=by
 apply Qn;unfold J0;have m1:Ab No w (Ah (w.alloc (.cells ⟨[.int .i64 b]⟩ 3))):=((Ab.refl No w).alloc _).drew;have hq:At (Ah (w.alloc (.cells ⟨[.int .i64 b]⟩ 3))) w.heap.size 0 [.int .i64 b]:=A1.new.at.drew;have h1:=h.nos m1;have hz0:=h.out_of (x:=w.heap.size) (Ld _);refine⟨_,_,jR _ _,_,rfl,some m,h1.lm,_,hq.load (i:=0) (by kernel_rfl) rfl,?_⟩;have hsz1:(Ah (w.alloc (.cells ⟨[.int .i64 b]⟩ 3))).heap.size=w.heap.size+1:=by simp
 generalize hW:Ah (w.alloc (.cells ⟨[.int .i64 b]⟩ 3))=w1 at *;have hlk:=X5 (P:=Tryz.prog) N5 h1.map (k:=(b:Int));cases hf:Eo C.l b with
 | some x =>
  obtain⟨hx,hxb⟩:=EI hf;obtain⟨q,g,cc,b1,b2,b3,b4,b6⟩:=h.bufs x hx;rw[hxb]at b1;rw[b1]at hlk;have hask:KP C b=some { C with l:=Br C.l b++[x] }:=by unfold KP;rw[hf]
  have h2:=h1.drew;have m2:Ab No w (Ah w1):=m1.drew;have lz:∀{w2:World},Ab (Of la) (Ah w1) w2->At w2 w.heap.size 0 [.int .i64 b]:=fun k=>hq.drew.keep k fun e=>by have:=h.of3 e;omega
  have fin:∀ w' rl' lc' la',Hx w0 (BJ R w w') rl' w' c d m sb mb sc lc' la' L mp { C with l:=Br C.l b++[x] }->Ab R w w'->K (.tuple #[.pointer (some ⟨q,0,none⟩),.int .i64 0]) w' :=
   fun w' rl' lc' la' hC hM=>hk1 _ hask w' q ⟨rl',m,sb,mb,sc,lc',la',L,mp,hC,b1⟩ hM
  refine⟨some ⟨q,0,none⟩,true,hlk,tt rfl ⟨_,rfl,_,_,_,YO h2.cell,_,(lz (Ab.refl _ _)).load (i:=0) (by kernel_rfl) rfl,?_,?_⟩⟩
  ·refine cS h2 (Yc (lz (Ab.refl _ _)) fun e=>by have:=h.of3 e;omega) fun w3 o3 m3=>⟨_,_,_,rfl,(lz m3).load (i:=0) (by kernel_rfl) rfl,_,_,_,_,Vb _ _,?_,?_⟩
   ·exact YO ((h2.cell.keep m3 fun e=>by have:=h.of3 e;have:=h.rc;omega).keep (S:=No) ((Ab.refl No w3).alloc _) id)
   ·have m4:Ab No w3 (w3.alloc (.cells ⟨[.int .i64 b]⟩ 3)):=(Ab.refl No w3).alloc _;exact jP (S:=fun w'=>K (.tuple #[.pointer (some ⟨q,0,none⟩),.int .i64 0]) w') h ((m2.anys.trans m3 fun _ _ e=>e).no m4) (o3.nos m4) A1.new.at hx hxb fin
  ·have m3:Ab No (Ah w1) ((Ah w1).alloc (.cells ⟨[.int .i64 b]⟩ 3)):=(Ab.refl No _).alloc _;have h3:=h2.nos m3;have hz3:At ((Ah w1).alloc (.cells ⟨[.int .i64 b]⟩ 3)) (Ah w1).heap.size 0 [.int .i64 b]:=A1.new.at;have hzq:=h1.out_of (x:=(Ah w1).heap.size) (Ld _);refine⟨_,_,_,_,Vb _ _,YO h3.cell,cS h3 (Yc (lz m3.anys) fun e=>by have:=h.of3 e;omega) fun w4 o4 m4=>⟨_,_,_,rfl,(lz (m3.anys.trans m4 fun _ _ e=>e)).load (i:=0) (by kernel_rfl) rfl,?_⟩⟩
   exact jP (S:=fun w'=>K (.tuple #[.pointer (some ⟨q,0,none⟩),.int .i64 0]) w') h ((m2.no m3).anys.trans m4 fun _ _ e=>e) o4 (hz3.keep m4 fun e=>by have:=h.of3 e;omega) hx hxb fin
 | none =>
  rw[h.noKey hf]at hlk;refine⟨none,false,hlk,ff rfl ?_⟩;refine AdZ h1 (fun C' hr w10 mp' h10 m10=>⟨_,rfl,ff rfl ?_⟩) fun hr w10 m10=>⟨_,rfl,tt rfl (hk2 (by unfold KP;rw[hf];simp only[hr];rfl) w10 (m1.no m10))⟩;have hroom:C'.D=C.D/\(∀ x∈C'.l,x∈C.l)/\C'.l.length<C'.most:=by
   unfold MA at hr
   split at hr
   ·rename_i hl
    have:=Ln hr
    subst this;exact⟨rfl,fun x hx=>hx,hl⟩
   ·cases hfi:C.l.find? (Ix C.D)with
    | none=>rw[hfi]at hr;cases hr
    | some z =>
     rw[hfi]at hr
     have:=Ln hr
     subst this
     have:=SM (Lt2 hfi)
     have:=h.wf.len
     exact⟨rfl,fun x hx=>(Bm.1 hx).1,by show(Br C.l z.b).length<C.most;omega⟩
  obtain⟨hD,hsub,hlt⟩:=hroom;have hask:KP C b=some { C' with l:=C'.l++[⟨b,DC C.D b,0⟩] }:=by unfold KP;rw[hf];simp only[hr];rfl
  have hno:∀ y∈C'.l,y.b≠b:=fun y hy=>Ho hf y (hsub y hy);have hb':b<C'.D.vs.length:=by rw[hD];exact hb
  have hl1:=h10.wf.len;have hl2:=h10.wf.most1;have hqR:¬ R w.heap.size:=fun e=>by have:=(h.lo _ e).2;omega
  have hq10:=hq.keep m10 hqR;have hlq10:=hq10.lt;obtain⟨r1,r2⟩:=RK C'.D hb';have hal:=h10.atLen hb';refine⟨_,rfl,_,h10.drew.ld,_,hq10.drew.load (i:=0) (by kernel_rfl) rfl,qW h10.drew.disk h10.wf.small fun w11 a cc m11 f11=>?_⟩;rw[r2]at f11 |-;rw[r1,hal];rcases f11 with ⟨_,e⟩ | ⟨g,rfl,hg,hat⟩
  ·rw[e]at hal;cases hal
  have hgl:=hat.lt;refine⟨_,_,_,_,rfl,ff rfl ⟨_,fun w=>ZW w _ _ _,_,fun w=>Y5 w _ _ _,_,_,fQ _ _,_,rfl,some m,?_⟩⟩;have m12:Ab No w11 (Ah (w11.alloc (.cells ⟨[.slice (some ⟨g,0,none⟩) 256 cc,.int .i64 0]⟩ 249))):=((Ab.refl No w11).alloc _).drew;have hbuf:A1 (Ah (w11.alloc (.cells ⟨[.slice (some ⟨g,0,none⟩) 256 cc,.int .i64 0]⟩ 249))) w11.heap.size 0 [.slice (some ⟨g,0,none⟩) 256 cc,.int .i64 0]:=A1.new.drew
  have hsz12:(Ah (w11.alloc (.cells ⟨[.slice (some ⟨g,0,none⟩) 256 cc,.int .i64 0]⟩ 249))).heap.size=w11.heap.size+1:=by simp
  generalize hW12:Ah (w11.alloc (.cells ⟨[.slice (some ⟨g,0,none⟩) 256 cc,.int .i64 0]⟩ 249))=w12 at *;have M12:Ab No w10 w12:=((Ab.refl No w10).drew.no m11).no m12;have h12:=h10.nos M12;have hs11:=m11.size;have hs10d:(Ah w10).heap.size=w10.heap.size:=rfl;have hq12:=hq10.keep M12 id;have hzz:=h10.out_of (x:=w12.heap.size);obtain⟨w13,s1,s2,s3,s4⟩:=Hw (P:=Tryz.prog) (k:=(b:Int)) (v:=.pointer (some ⟨w11.heap.size,0,none⟩)) N5 h12.map
  have hrm:=h12.rm;have hrc:=h12.rc;have hbR:rl w11.heap.size=0:=h10.out_of (by omega);have hgR:rl g=0:=h10.out_of (by omega);have hc13:=h12.cell.keep s3 (HG hrc hrm (by omega));have hrlq:rl w.heap.size=0:=hz0;have hq13:=hq12.keep s3 (HG hrlq hrm (by omega));refine⟨h12.lm,_,hq12.load (i:=0) (by kernel_rfl) rfl,w13,s1,_,rfl,_,_,_,YO hc13.drew,_,hq13.drew.load (i:=0) (by kernel_rfl) rfl,_,_,_,_,Vb _ _,?_⟩
  have m14:Ab No w13 ((Ah w13).alloc (.cells ⟨[.int .i64 b]⟩ 3)):=(Ab.refl No w13).drew.no ((Ab.refl No _).alloc _);have hnew14:At ((Ah w13).alloc (.cells ⟨[.int .i64 b]⟩ 3)) (Ah w13).heap.size 0 [.int .i64 b]:=A1.new.at;generalize hW14:(Ah w13).alloc (.cells ⟨[.int .i64 b]⟩ 3)=w14 at *;have hrow14:=(h12.row.keep s3 fun q hq'=>HG (h12.rrow q hq') hrm (by omega)).nos m14;have hs14:=m14.size
  have hw0:=h10.mod.size;have hs12:=M12.size;obtain⟨q',c',w15,t1,t2,t3,t4⟩:=hrow14.app (ty:=80) (m:=1) (c2:=1) (ad:=⟨(Ah w13).heap.size,0,none⟩) (ys:=[.int .i64 b]) Hn (by omega) (.inr ⟨_,_,rfl,hnew14⟩) rfl (by omega) (by simp;rfl) (by omega) (by omega) (by omega);have t3':Ab (Of la) w14 w15:=t3;have hc15:=(hc13.keep m14 id).keep t3' fun e=>by have:=h12.of3 e;omega
  refine⟨YO (hc13.keep m14 id),_,_,_,w15,t1,_,rfl,?_⟩;obtain⟨w16,u1,u2,u3,u4⟩:=hc15.store (P:=Tryz.prog) (T:=80) (i:=3) (v:=.slice (some q') (C'.l.length+1) c') (by kernel_rfl) (by simp) rfl;refine⟨w16,by rw[Ad];exact u1,?_⟩;have M13:Ab (OW rl) w10 w13:=M12.anys.trans (s3.mono fun x _ e=>.inr (.inl (by rw[e];exact hrm))) fun _ _ e=>e;have M15:Ab (OW rl) w10 w15:=(M13.no m14).trans (t3'.mono fun x _ e=>.inr (.inr (h12.of3 e))) fun _ _ e=>e
  have M16:Ab (OW rl) w10 w16:=M15.trans (u3.mono fun x _ e=>.inl (by rw[e];exact hrc)) fun _ _ e=>e;have hs15:=t3'.size;have hs16:=u3.size;have hs13:=s3.size;have hq'lt:=(t2.base (q:=q') rfl).2;have hq'new:rl q'.block=3\/(w13.heap.size<=q'.block/\rl q'.block=0):=by
   rcases t4 with ⟨q2,hq2,e⟩|e
   ·left;rw[e];exact h12.rrow q2 hq2
   ·right;exact⟨by omega,h10.out_of (by omega)⟩
  have hq'g:q'.block≠g:=fun e=>by
   rcases hq'new with hn|⟨hn,_⟩
   ·rw[e]at hn;omega
   ·omega
  have hq'b:q'.block≠w11.heap.size:=fun e=>by
   rcases hq'new with hn|⟨hn,_⟩
   ·rw[e]at hn;omega
   ·omega
  have hgb:w11.heap.size≠g:=by omega
  have e1:ro rl g 5 w11.heap.size=0:=by rw[Cd _ hgb];exact hbR
  have x1:TU w10 w16 rl (ro rl g 5):=(TU.refl _ _ _).ro (.inr ⟨by omega,by omega,hgR⟩) (by omega) (by omega);have x2:TU w10 w16 rl (ro (ro rl g 5) w11.heap.size (6+b)):=x1.ro (.inr ⟨by omega,by omega,e1⟩) (by omega) (by omega);have e2:ro (ro rl g 5) w11.heap.size (6+b) q'.block=rl q'.block:=by rw[Cd _ hq'b,Cd _ hq'g]
  have x3:TU w10 w16 rl (ro (ro (ro rl g 5) w11.heap.size (6+b)) q'.block 3):=x2.ro (by
   rw[e2];rcases hq'new with hn | ⟨hn,hn2⟩
   ·exact .inl hn
   ·exact .inr ⟨by omega,by omega,hn2⟩) (by omega) (by omega)
  have hlen:(C'.l++[(⟨b,DC C.D b,0⟩:Bf)]).length=C'.l.length+1:=by simp
  have hnum:iL (FS C'.l)++[.int .i64 b]=iL (FS (C'.l++[⟨b,DC C.D b,0⟩])):=by simp[FS,iL,I]
  have hS:∀ x,OW rl x->rl x≠0/\rl x≠4/\rl x≠5/\rl x<4:=fun x e=>by unfold OW at e;omega
  have hstep:=h10.step (l':=C'.l++[⟨b,DC C.D b,0⟩]) (la':=some q') (lc':=c') (mp':=Km (b:Int) (.pointer (some ⟨w11.heap.size,0,none⟩)) mp') M16 x3 (fun x _ e=>⟨(hS x e).1,(hS x e).2.1,(hS x e).2.2.1⟩) (by rw[hlen];simpa using u2)
   (((s2.keep m14 id).keep t3' fun e=>by have:=h12.of3 e;omega).keep u3 (HG hrm hrc (by omega)))
   (by
    rw[hlen,<- hnum];refine t2.keep u3 fun q hq e=>?_
    have:=Ln hq
    subst this
    rcases hq'new with hn|⟨_,hn⟩<;>(rw[e]at hn;omega))
   (fun q hq=>by have:=Ln hq;subst this;exact Ce _ _ _)
   (fun y hy=>by
    rcases Lq.1 hy with hy|hy
    ·refine .inl ⟨hy,?_,fun q e e'=>by have:=hS q e;omega⟩;rw[Ep,if_neg (by have:=hno y hy;omega)]
    ·simp only[List.mem_singleton]at hy;subst hy;have n1:¬ OW rl w11.heap.size:=fun e=>by have:=hS _ e;omega
     have n2:¬ OW rl g:=fun e=>by have:=hS _ e;omega
     refine .inr ⟨w11.heap.size,g,cc,by rw[Ep,if_pos rfl],?_,?_,?_,?_⟩
     ·rw[Cd _ (xI hq'b),Ce]
     ·rw[Cd _ (xI hq'g),Cd _ (xI hgb),Ce]
     ·refine(((hbuf.keep s3 (HG hbR hrm (by omega))).keep m14 id).keep t3' fun e=>by have:=h12.of3 e;omega).keep u3 (HG hbR hrc (by omega))
     ·rw[<- hD]
      refine((((hat.keep m12 id).keep s3 (HG hgR hrm (by omega))).keep m14 id).keep t3' fun e=>by have:=h12.of3 e;omega).at.keep u3 (HG hgR hrc (by omega)))
   (fun p hp=>by
    rcases RJ p hp with e|hp
    ·exact⟨⟨b,DC C.D b,0⟩,by simp,e⟩
    ·obtain⟨y,hy,e⟩:=h10.keys p hp
     exact⟨y,Lq.2 (.inl hy),e⟩)
   (h10.wf.add hlt hno hb' (by rw[<- hD];exact hal) (by simp))
  have hz1:=m1.size;have hz10:=m10.size;have hz16:=M16.size;have MR1:Ab R w w10:=m1.anys.trans m10 fun _ _ e=>e;have hG:BJ (BJ R w1 w10) w10 w16=fun x=>R x\/(w1.heap.size<=x/\x<w16.heap.size):=YI (by omega) (by omega);have hw:=h.mod.size;refine hk1 _ hask w16 w11.heap.size ⟨_,m,sb,mb,sc,c',some q',L,_,hstep.widen (R':=BJ R w w16) (fun x hx=>?_) (fun x hx=>?_),by rw[Ep,if_pos rfl]⟩ (MR1.trans M16 fun x hx e=>?_)
  ·rw[hG]at hx;rcases hx with hx | hx
   ·exact .inl hx
   ·exact .inr (by omega)
  ·rcases hx with hx|hx
   ·have:=h.lo x hx;omega
   ·omega
  ·have:=h10.reg x (hS x e).1
   rcases this with this|this
   ·exact this
   ·omega
end
structure qL(C C':Ca)(b:Nat)(l0:List Bf)(y:Bf):Prop where
 l:C'.l=l0++[y]
 yb:y.b=b
 D:C'.D=C.D
 most:C'.most=C.most
 wf:Pm C'
 from_:∀ x∈C'.l,x∈C.l\/(x=⟨b,DC C.D b,0⟩/\Eo C.l b=none)
 keep:∀ x∈C.l,Ix C.D x=false->x∈C'.l
 here:∀ x∈C.l,x.b=b->x∈C'.l
 l0:∀ x∈l0,x∈C.l/\x.b≠b
theorem yL{C:Ca}(h:WF C.D){b:Nat}(hb:b<C.D.vs.length):(DC C.D b).length=256:=by
 have hv:C.D.vs[b]?=some C.D.vs[b]:=by simp[hb]
 have e:Iz C.D b=C.D.vs[b]:=by
  unfold Iz;rw[if_neg (by omega),Lr,hv];rfl
 unfold DC;rw[e];exact h.lastLen hv
theorem iG{C C':Ca}(h:Pm C)(ha:MA C=some C'):C'.D=C.D/\C'.most=C.most/\Pm C'/\C'.l.length<C'.most/\(∀ x∈C'.l,x∈C.l)/\∀ x∈C.l,Ix C.D x=false->x∈C'.l:=by
 unfold MA at ha
 split at ha
 ·rename_i hl
  have:=Ln ha
  subst this;exact⟨rfl,rfl,h,hl,fun x hx=>hx,fun x hx _=>hx⟩
 ·cases hf:C.l.find? (Ix C.D)with
  | none=>rw[hf]at ha;cases ha
  | some z =>
   rw[hf]at ha
   have:=Ln ha
   subst this;have hz:=Lt2 hf;have hi:Ix C.D z=true:=Lq5 hf;refine⟨rfl,rfl,h.out _,?_,fun x hx=>(Bm.1 hx).1,fun x hx hn=>Bm.2 ⟨hx,fun e=>?_⟩⟩
   ·have:=SM hz;have:=h.len
    show(Br C.l z.b).length<C.most;omega
   ·rw[EA h.nodup hx hz e,hi]at hn;cases hn
theorem NQ{C C':Ca}{b:Nat}(h:Pm C)(hD:WF C.D)(hb:b<C.D.vs.length)(ha:KP C b=some C'):∃ l0 y,qL C C' b l0 y:=by
 unfold KP at ha
 split at ha
 ·rename_i x hx
  have:=Ln ha
  subst this;obtain⟨h1,h2⟩:=EI hx;subst h2
  exact⟨Br C.l x.b,x,{
   l:=rfl,yb:=rfl,D:=rfl,most:=rfl,wf:=h.move h1
   from_:=fun z hz=>by
    rcases Lq.1 hz with hz|hz
    ·exact .inl (Bm.1 hz).1
    ·simp at hz;subst hz;exact .inl h1
   keep:=fun z hz _=>by
    by_cases e:z.b=x.b
    ·rw[EA h.nodup hz h1 e];simp
    ·exact Lq.2 (.inl (Bm.2 ⟨hz,e⟩))
   here:=fun z hz e=>by rw[EA h.nodup hz h1 e];simp
   l0:=fun z hz=>Bm.1 hz }⟩
 ·rename_i hx;cases hr:MA C with
  | none=>rw[hr]at ha;cases ha
  | some C1 =>
   rw[hr]at ha
   have:=Ln ha
   subst this;obtain⟨r1,r2,r3,r4,r5,r6⟩:=iG h hr;have hno:=Ho hx
   exact⟨C1.l,⟨b,DC C.D b,0⟩,{
    l:=rfl,yb:=rfl,D:=r1,most:=r2
    wf:=r3.add r4 (fun y hy=>hno y (r5 y hy)) (by rw[r1];exact hb) (yL hD hb) (by simp)
    from_:=fun z hz=>by
     rcases Lq.1 hz with hz|hz
     ·exact .inl (r5 z hz)
     ·simp at hz;subst hz;exact .inr ⟨rfl,hx⟩
    keep:=fun z hz hi=>Lq.2 (.inl (r6 z hz hi))
    here:=fun z hz e=>absurd e (hno z hz)
    l0:=fun z hz=>⟨r5 z hz,hno z (r5 z hz)⟩ }⟩
def Mf(l:List Bf)(n:Nat):Nat:=match Eo l n with | some x=>x.pins | none=>0
theorem hY{l:List Bf}(hn:(l.map (·.b)).Nodup){x:Bf}(hx:x∈l):Mf l x.b=x.pins:=by
 unfold Mf;rw[DH hn hx]
theorem Wi{l:List Bf}{y:Bf}(h:∃ x∈l,x.b=y.b):y∈I9 l y:=by
 obtain⟨x,hx,e⟩:=h;exact Li.2 ⟨x,hx,by rw[if_pos e]⟩
theorem Wj{l:List Bf}{y x:Bf}(hx:x∈l)(e:x.b≠y.b):x∈I9 l y:=Li.2 ⟨x,hx,by rw[if_neg e]⟩
def Fe(l:List Bf):Bk:=match l.getLast? with | some x=>x.data | none=>[]
def Zc(C:Ca)(n:Int):Ca×Int×Bk :=
 if AD C.D n≠0 then(C,AD C.D n,[])else match KP C n.toNat with | none=>(C,5,[]) | some C'=>(C',0,Fe C'.l)
def Uf(C:Ca)(n:Int)(ys:Bk):Ca×Int :=
 if AD C.D n≠0 then(C,AD C.D n)else if ys.length≠256 then(C,4)else match KP C n.toNat with | none=>(C,5) | some C'=>({ C' with l:=I9 C'.l ⟨n.toNat,ys,Mf C'.l n.toNat⟩ },0)
def lZ(C:Ca)(n:Int)(ys:Bk):Ca×Int :=
 if AD C.D n≠0 then(C,AD C.D n)else if ys.length≠0/\ys.length≠256 then(C,4)else match KP C n.toNat with
  | none=>(C,5)
  | some C'=>({ C' with D:=B8 C'.D n (if ys.length=0 then Fe C'.l else ys) },Um C'.D n (if ys.length=0 then Fe C'.l else ys))
def KY(C:Ca)(n:Int):Option Bf:=if n<0 then none else Eo C.l n.toNat
def oX(C:Ca)(n:Int):Ca×Int:=match KY C n with | none=>(C,20) | some x=>({ C with l:=I9 C.l { x with pins:=x.pins+1 } },0)
def SV(C:Ca)(n:Int):Ca×Int:=match KY C n with | none=>(C,20) | some x=>if x.pins=0 then(C,6)else({ C with l:=I9 C.l { x with pins:=x.pins-1 } },0)
theorem V5{C:Ca}{n:Int}{x:Bf}(h:KY C n=some x):x∈C.l/\n=(x.b:Int):=by
 unfold KY at h
 split at h
 ·cases h
 ·have:=EI h;exact⟨this.1,by omega⟩
section
variable{w0 w w':World}{R:Nat->Prop}{rl:Nat->Nat}{c d m sb mb sc lc:Nat}{la:Option Addr}{L mp:List (Int×Value)}{C:Ca}{K:Value->World->Prop}
theorem bH(h:Hx w0 R rl w c d m sb mb sc lc la L mp C)(n:Int):(KY C n=none/\Ay mp n=none)\/∃ x q,KY C n=some x/\Ay mp n=some (.pointer (some ⟨q,0,none⟩)):=by
 unfold KY;by_cases hn:n<0
 ·rw[if_pos hn];refine .inl ⟨rfl,?_⟩;cases hl:Ay mp n with
  | none=>rfl
  | some v =>
   obtain⟨x,_,e⟩:=h.keys _ (Jp hl);have e':n=x.b:=e;omega
 ·rw[if_neg hn];obtain⟨b,rfl⟩:=Wq (show 0<=n by omega);rw[Lr];cases hf:Eo C.l b with
  | none=>exact .inl ⟨rfl,h.noKey hf⟩
  | some x =>
   obtain⟨hx,e⟩:=EI hf;obtain⟨q,g,cc,b1,_⟩:=h.bufs x hx;rw[e]at b1;exact .inr ⟨x,q,rfl,b1⟩
def Mc(D:St)(n:Int)(l:Nat)(xs:List Int):Int:=if AD D n≠0 then AD D n else if xs≠[]/\(l:Int) ∉ xs then 4 else 0
theorem Y7{a2 a3:Option Addr}{l2 c2 l3 c3:Nat}{xs:List Int}{n:Int}(h:Hx w0 R rl w c d m sb mb sc lc la L mp C)(hl:xs.length=l3)(h63:l3<=1000)(hr:Bl w a3 (iL xs))
  (hk:K (.int .i64 (Mc C.D n l2 xs)) w):A8 Tryz.prog Dq #[.pointer (some ⟨c,0,none⟩),.int .i64 n,.slice a2 l2 c2,.slice a3 l3 c3] w K:=by
 apply Qo;unfold J1;refine ff rfl (Ac.cut (fun x w'=>x=[.bool (decide (n<0\/C.D.vs.length<=n))]/\w'=w) (Aa (fun hb=>?_) (fun hb=>?_)) ?_)
 ·have:=Lc hb
  exact⟨by simp[this],rfl⟩
 ·have:=Lb hb
  refine⟨_,rfl,_,h.ld,ZI h.disk ⟨_,rfl,?_,rfl⟩⟩
  congr 2;rw[Lu];simp only[Lw];omega
 rintro x w' ⟨rfl,rfl⟩;refine⟨_,rfl,Aa (fun hb=>?_) (fun hb=>?_)⟩
 ·have:=Lc hb
  have e:AD C.D n=3:=by unfold AD;rw[if_pos this]
  unfold Mc at hk;rw[e]at hk;exact hk
 ·have:=Lb hb
  have e:AD C.D n=0:=by unfold AD;rw[if_neg this]
  unfold Mc at hk;rw[e,if_neg (by omega)]at hk;refine Ac.cut (fun x w2=>x=[.bool (decide (xs≠[]/\(l2:Int) ∉ xs))]/\w2=w') (Aa (fun hb=>?_) (fun hb=>?_)) ?_
  ·have hl3:0<l3:=by have:=Lc hb;omega
   have hne:xs≠[]:=fun e=>by subst e;simp at hl;omega
   refine fA hl (by omega) hr ⟨_,rfl,?_,rfl⟩;simp[hne]
  ·have hl3:l3=0:=by have:=Lb hb;omega
   have hne:xs=[]:=fE (by omega);exact⟨by simp[hne],rfl⟩
  ·rintro x w2 ⟨rfl,rfl⟩;refine⟨_,rfl,Aa (fun hb=>?_) (fun hb=>?_)⟩
   ·rw[if_pos (Lc hb)]at hk;exact hk
   ·rw[if_neg (Lb hb)]at hk;exact hk
theorem Cx.nos(h:Cx w0 R w c d C)(k:Ab No w w'):Cx w0 R w' c d C:=by
 obtain⟨rl,m,sb,mb,sc,lc,la,L,mp,h⟩:=h;exact⟨rl,m,sb,mb,sc,lc,la,L,mp,h.nos k⟩
theorem Cx.gro(h:Cx w0 R w c d C)(k:Ab No w w'):Cx w0 (BJ R w w') w' c d C:=by
 obtain⟨rl,m,sb,mb,sc,lc,la,L,mp,h⟩:=h;exact⟨rl,m,sb,mb,sc,lc,la,L,mp,h.gro k⟩
theorem Cx.wf(h:Cx w0 R w c d C):Pm C/\WF C.D/\Ab No w0 w/\(∀ x,R x->w0.heap.size<=x/\x<w.heap.size):=by
 obtain⟨rl,m,sb,mb,sc,lc,la,L,mp,h⟩:=h;exact⟨h.wf,h.disk.wf,h.mod,h.lo⟩
theorem Cq.x{b q:Nat}(h:Cq w0 R w c d b q C):Cx w0 R w c d C:=by
 obtain⟨rl,m,sb,mb,sc,lc,la,L,mp,h,_⟩:=h;exact⟨rl,m,sb,mb,sc,lc,la,L,mp,h⟩
theorem Cx.keep{S:Nat->Prop}(h:Cx w0 R w c d C)(k:Ab S w w')(hs:∀ x,R x->¬ S x)(hw:∀ x,x<w0.heap.size->¬ S x):Cx w0 R w' c d C:=by
 obtain⟨rl,m,sb,mb,sc,lc,la,L,mp,h⟩:=h;have hr:∀{x},rl x≠0->¬ S x:=fun hx=>hs _ (h.reg _ hx)
 exact⟨rl,m,sb,mb,sc,lc,la,L,mp,{
  disk:=h.disk.keep k fun x hx=>hr (by omega)
  cell:=h.cell.keep k (hr (by rw[h.rc];omega))
  map:=h.map.keep k (hr (by rw[h.rm];omega))
  row:=h.row.keep k fun q hq=>hr (by rw[h.rrow q hq];omega)
  rc:=h.rc
  rm:=h.rm
  rrow:=h.rrow
  bufs:=fun x hx=>by
   obtain⟨q,g,cc,h1,h2,h3,h4,h6⟩:=h.bufs x hx;exact⟨q,g,cc,h1,h2,h3,h4.keep k (hr (by omega)),h6.keep k (hr (by omega))⟩
  keys:=h.keys
  wf:=h.wf
  reg:=h.reg
  lo:=fun x hx=>by have:=h.lo x hx;have:=k.size;omega
  mod:=h.mod.trans k fun x hx e=>absurd e (hw x hx) }⟩
theorem SH{C':Ca}{b:Nat}(h:Pm C)(hD:WF C.D)(hb:b<C.D.vs.length)(ha:KP C b=some C'):∃ x∈C'.l,x.b=b/\Fe C'.l=x.data/\Eo C'.l b=some x/\Pm C'/\C'.D=C.D:=by
 obtain⟨l0,y,A⟩:=NQ h hD hb ha;refine⟨y,by rw[A.l];simp,A.yb,by unfold Fe;rw[A.l];simp,?_,A.wf,A.D⟩
 have:=DH A.wf.nodup (x:=y) (by rw[A.l];simp)
 rwa [A.yb]at this
theorem KS{D:St}{n:Int}(h:AD D n=0):∃ b:Nat,n=b/\b<D.vs.length:=by
 rcases Ew (D:=D) n with ⟨e,_⟩|⟨_,i,v,rfl,hv,_⟩
 ·omega
 ·exact⟨i,rfl,(Lh.1 hv).1⟩
theorem jS{n:Int}(hC:Cx w0 R w c d C)
  (hk:∀ w1 w' a cc,Ab R w w1->Ab No w1 w'->Cx w0 (BJ R w w1) w' c d (Zc C n).1->Ow Tryz.prog w' w1.heap.size 88 1 a (Zc C n).2.2.length cc (Au (Zc C n).2.2)->K (.tuple #[.slice a (Zc C n).2.2.length cc,.int .i64 (Zc C n).2.1]) w') :
  A8 Tryz.prog Ed #[.pointer (some ⟨c,0,none⟩),.int .i64 n] w K:=by
 have hX:=hC;obtain⟨rl,m,sb,mb,sc,lc,la,L,mp,h⟩:=hC;apply IH;unfold IN;refine Y7 (xs:=[]) h rfl (by omega) (.inl rfl) ⟨_,rfl,?_⟩;have hm:Mc C.D n 0 []=AD C.D n:=by
  unfold Mc;split
  ·rfl
  ·rename_i e;simp at e |-;exact e.symm
 rw[hm];by_cases he:AD C.D n=0
 ·rw[he];refine ff rfl ?_;obtain⟨b,rfl,hb⟩:=KS he;have hr0:Zc C b=match KP C b with | none=>(C,5,[]) | some C'=>(C',0,Fe C'.l):=by unfold Zc;rw[if_neg (by omega),Lr]
  rw[hr0]at hk;refine rH h hb (fun C' ha w1 q hq m1=>⟨_,_,rfl,ff rfl ⟨_,rfl,?_⟩⟩) fun ha w1 m1=>⟨_,_,rfl,tt rfl ?_⟩
  ·rw[ha]at hk;obtain⟨x,hx,hxb,hxd,hxf,hwf,hD⟩:=SH h.wf h.disk.wf hb ha;have hxl:=hwf.data x hx;have hqx:=hq.x;obtain⟨rl',m',sb',mb',sc',lc',la',L',mp',h',hl'⟩:=hq;obtain⟨q2,g,cc,b1,b2,b3,b4,b6⟩:=h'.bufs x hx;rw[hxb,hl']at b1;simp only[xY,Value.pointer.injEq,Addr.mk.injEq,and_true]at b1;subst b1;refine⟨_,_,_,gP b4,Q8 (.inr ⟨_,_,rfl,b6⟩) hxl (fun e=>by cases e) (by omega) fun w2 a2 c2 o2 m2=>⟨_,_,_,rfl,?_⟩⟩
   have:=hk w1 w2 a2 c2 m1 m2 (hqx.nos m2)
   simp only[hxd,hxl]at this;exact this o2
  ·rw[ha]at hk;exact hk w1 w1 none 0 m1.anys (Ab.refl _ _) (hX.gro m1) (Ow.nil AE)
 ·have hr0:Zc C n=(C,AD C.D n,[]):=by unfold Zc;rw[if_pos he]
  rw[hr0]at hk;refine tt (by simpa using he) ?_;exact hk w w none 0 (Ab.refl _ _) (Ab.refl _ _) (hX.gro (Ab.refl _ _)) (Ow.nil AE)
end
section
variable{w0 w w':World}{R:Nat->Prop}{rl:Nat->Nat}{c d m sb mb sc lc:Nat}{la:Option Addr}{L mp:List (Int×Value)}{C:Ca}{K:Value->World->Prop}
theorem dL(l:List Bf)(y:Bf):(I9 l y).length=l.length:=by simp[I9]
theorem Hx.turn{S:Nat->Prop}{y:Bf}{q g cc:Nat}(h:Hx w0 R rl w c d m sb mb sc lc la L mp C)(k:Ab S w w')(hS:∀ z,S z->rl z=6+y.b)(hm:∃ x∈C.l,x.b=y.b)
  (hq:Ay mp (y.b:Int)=some (.pointer (some ⟨q,0,none⟩))) (hrq:rl q=6+y.b) (hg:rl g=5\/(w.heap.size<=g/\g<w'.heap.size)) (h4:A1 w' q 0 [.slice (some ⟨g,0,none⟩) 256 cc,.int .i64 y.pins]) (h6:At w' g 0 (Au y.data))
  (hwf:Pm { C with l:=I9 C.l y }):∃ rl',Hx w0 (BJ R w w') rl' w' c d m sb mb sc lc la L mp { C with l:=Go.Z.I9 C.l y }:=by
 have hrc:=h.rc;have hrm:=h.rm;have hg':rl g=5\/(w.heap.size<=g/\g<w'.heap.size/\rl g=0):=by
  rcases hg with hg|hg
  ·exact .inl hg
  ·exact .inr ⟨hg.1,hg.2,h.out_of hg.1⟩
 have hqg:q≠g:=fun e=>by
  rcases hg' with hg'|⟨_,_,hg'⟩
  ·rw[<- e]at hg';omega
  ·rw[<- e]at hg';omega
 refine⟨ro rl g 5,h.step k ((TU.refl _ _ _).ro hg' (by omega) (by omega)) (fun x _ e=>by have:=hS x e;omega) ?_ (h.map.keep k fun e=>by have:=hS _ e;omega) ?_ (fun q2 hq2=>?_) (fun z hz=>?_) (fun p hp=>?_) hwf⟩
 ·rw[dL];exact h.cell.keep k fun e=>by have:=hS _ e;omega
 ·rw[dL,pX];exact h.row.keep k fun q2 hq2 e=>by have:=hS _ e;have:=h.rrow q2 hq2;omega
 ·have hr:=h.rrow q2 hq2;have:q2.block≠g:=fun e=>by
   rcases hg' with hg'|⟨_,_,hg'⟩
   ·rw[<- e]at hg';omega
   ·rw[<- e]at hg';omega
  rw[Cd _ this];exact hr
 ·rcases N7 hz with rfl|⟨hz,hne⟩
  ·exact .inr ⟨q,g,cc,hq,by rw[Cd _ hqg];exact hrq,Ce _ _ _,h4,h6⟩
  ·exact .inl ⟨hz,rfl,fun q2 e e'=>by have:=hS q2 e;omega⟩
 ·obtain⟨x,hx,e⟩:=h.keys p hp;obtain⟨x2,hx2,e2⟩:=hm;by_cases hxy:x.b=y.b
  ·exact⟨y,Wi ⟨x2,hx2,e2⟩,by rw[e,hxy]⟩
  ·exact⟨x,Wj hx hxy,e⟩
theorem Cx.up{w1:World}(h:Cx w0 (BJ R w1 w') w' c d C)(hlo:∀ x,R x->w0.heap.size<=x/\x<w.heap.size)(hw:w0.heap.size<=w.heap.size)(h1:w.heap.size<=w1.heap.size)(h2:w.heap.size<=w'.heap.size):Cx w0 (BJ R w w') w' c d C:=by
 obtain⟨rl,m,sb,mb,sc,lc,la,L,mp,h⟩:=h;refine⟨rl,m,sb,mb,sc,lc,la,L,mp,h.widen (fun x hx=>?_) fun x hx=>?_⟩
 ·rcases hx with hx|hx
  ·exact .inl hx
  ·exact .inr (by omega)
 ·rcases hx with hx|hx
  ·have:=hlo x hx;omega
  ·omega
theorem _root_.Go.Den.Bl.region{a:Option Addr}{xs:List Value}(h:Bl w a xs)(m:Ab R w w')(hd:xs≠[]->∀ q,a=some q->¬ R q.block):Bl w' a xs:=by
 by_cases e:xs=[]
 ·exact .inl e
 ·exact h.keep m (hd e)
theorem Ac9{n:Int}{a2:Option Addr}{l2 c2:Nat}{ys:Bk}(hC:Cx w0 R w c d C)(hl:ys.length=l2)(hr:Bl w a2 (Au ys))(hd:ys≠[]->∀ q,a2=some q->¬ R q.block)
  (hk:∀ w',Ab R w w'->Cx w0 (BJ R w w') w' c d (Uf C n ys).1->K (.int .i64 (Uf C n ys).2) w'):A8 Tryz.prog Gx #[.pointer (some ⟨c,0,none⟩),.int .i64 n,.slice a2 l2 c2] w K:=by
 have hX:=hC;obtain⟨rl,m,sb,mb,sc,lc,la,L,mp,h⟩:=hC;apply Ql;unfold Jy;have m1:Ab No w (w.alloc (.cells ⟨[.int .i64 256]⟩ 3)):=(Ab.refl No w).alloc _;have hrow:Bl (w.alloc (.cells ⟨[.int .i64 256]⟩ 3)) (some ⟨w.heap.size,0,none⟩) (iL [256]):=.inr ⟨_,_,rfl,A1.new.at⟩;refine⟨_,_,_,_,Vb _ _,Y7 (xs:=[256]) (h.nos m1) rfl (by omega) hrow ⟨_,rfl,?_⟩⟩;generalize hW:w.alloc (.cells ⟨[.int .i64 256]⟩ 3)=w1 at *
 have hs1:=m1.size;have hw0:=h.mod.size;by_cases he:AD C.D n=0
 ·by_cases h256:ys.length=256
  ·have hm:Mc C.D n l2 [256]=0:=by unfold Mc;rw[if_neg (by omega),if_neg (by simp;omega)]
   rw[hm];refine ff rfl ?_;obtain⟨b,rfl,hb⟩:=KS he;have hr0:Uf C b ys=match KP C b with | none=>(C,5) | some C'=>({ C' with l:=I9 C'.l ⟨b,ys,Mf C'.l b⟩ },0):=by unfold Uf;rw[if_neg (by omega),if_neg (by omega),Lr]<;>rfl
   rw[hr0]at hk;refine rH (h.nos m1) hb (fun C' ha w3 q hq m3=>⟨_,_,rfl,Ac.dup (tt rfl ?_)⟩) fun ha w3 m3=>⟨_,_,rfl,Ac.dup (ff rfl ?_)⟩
   ·rw[ha]at hk;obtain⟨x,hx,hxb,hxd,hxf,hwf,hD⟩:=SH h.wf h.disk.wf hb ha;obtain⟨rl',m',sb',mb',sc',lc',la',L',mp',h',hl'⟩:=hq;obtain⟨q2,g,cc,b1,b2,b3,b4,b6⟩:=h'.bufs x hx;rw[hxb,hl']at b1;simp only[xY,Value.pointer.injEq,Addr.mk.injEq,and_true]at b1;subst b1;have hune:Au ys≠[]:=fun e=>by have:=Pi List.length e;simp at this;rw[this]at h256;simp at h256
    have hyne:ys≠[]:=fun e=>by rw[e]at h256;simp at h256
    have hr3:=Bl.region (hr.nos m1) m3 fun _=>hd hyne;have h0:a2≠none:=fun e=>by
     rcases hr with hr|⟨_,_,e2,_⟩
     ·exact hune hr
     ·rw[e]at e2;cases e2
    refine Q8 hr3 hl (fun e=>absurd e h0) (by omega) fun w4 a4 c4 o4 m4=>⟨_,_,_,rfl,_,rfl,?_⟩;subst hl;obtain⟨g4,rfl,hg4,hat4⟩:=o4.sm (by omega);obtain⟨w5,t1,t2,t3,t4⟩:=(b4.keep m4 id).store (P:=Tryz.prog) (T:=88) (i:=0) (v:=.slice (some ⟨g4,0,none⟩) ys.length c4) (by kernel_rfl) (by simp) rfl;refine⟨w5,by rw[Ad,Ad];exact t1,?_⟩;have hp:Mf C'.l b=x.pins:=by unfold Mf;rw[hxf]
    simp only[hp]at hk;have hx':(⟨b,ys,x.pins⟩:Bf).b=x.b:=hxb.symm;have hg4l:=hat4.lt;have hs5:=t3.size;have hs4:=m4.size;have hs3:=m3.size;have hgq:g4≠q:=fun e=>by have:=h'.out_of (x:=g4) (by omega);rw[e]at this;omega
    have M:Ab (fun z=>z=q) w3 w5:=(m4.anys.trans t3 fun _ _ e=>e);obtain⟨rl5,h5⟩:=h'.turn (y:=⟨b,ys,x.pins⟩) (q:=q) (g:=g4) (cc:=c4) M (fun z e=>by rw[e];rw[b2,hxb]) ⟨x,hx,hxb⟩ hl' (by rw[b2,hxb]) (.inr ⟨by omega,by omega⟩) (by simpa [h256] using t2) (hat4.at.keep t3 hgq)
     (hwf.turn (by show b<C'.D.vs.length;rw[hD];exact hb) h256 (hwf.pins x hx))
    have hgg:=YI (R:=R) (w:=w1) (w1:=w3) (w2:=w5) (by omega) (by omega);rw[hgg]at h5;refine hk w5 ((m1.anys.trans m3 fun _ _ e=>e).trans M fun z hz e=>?_) (Cx.up ⟨rl5,m',sb',mb',sc',lc',la',L',mp',h5⟩ h.lo hw0 hs1 (by omega))
    have:=h'.reg z (by rw[e,b2];omega)
    rcases this with this|this
    ·exact this
    ·omega
   ·rw[ha]at hk;exact hk w3 (m1.no m3).anys (hX.gro (m1.no m3))
  ·have hm:Mc C.D n l2 [256]=4:=by unfold Mc;rw[if_neg (by omega),if_pos (by simp;omega)]
   have hr0:Uf C n ys=(C,4):=by unfold Uf;rw[if_neg (by omega),if_pos h256]
   rw[hr0]at hk;rw[hm];exact tt rfl (hk w1 m1.anys (hX.gro m1))
 ·have hm:Mc C.D n l2 [256]=AD C.D n:=by unfold Mc;rw[if_pos he]
  have hr0:Uf C n ys=(C,AD C.D n):=by unfold Uf;rw[if_pos he]
  rw[hr0]at hk;rw[hm];exact tt (by simpa using he) (hk w1 m1.anys (hX.gro m1))
theorem yT(w:World):(Instr.buildSlice 80 2 #[(0,.int .i64 0),(1,.int .i64 256)]).run Tryz.prog w=.ok (.slice (some ⟨w.heap.size,0,none⟩) 2 2) (w.alloc (.cells ⟨[.int .i64 0,.int .i64 256]⟩ 3)):=by kernel_rfl
theorem qX{D:St}(h:∀ v∈D.vs,v.length<=999999)(n:Int)(ys:Bk):Fd (B8 D n ys):=fun v hv=>by
 have:=LG (m:=999999) h n ys v hv
 omega
theorem rR{n : Int}{a2 : Option Addr}{l2 c2 : Nat}{ys : Bk}(hC : Cx w0 R w c d C)(hb9 : ∀ v ∈ C.D.vs, v.length ≤ 999999)(hl : ys.length = l2)(hr : Bl w a2 (Au ys))(hd : ys ≠ [] → ∀ q, a2 = some q → ¬ R q.block)
    (hk : ∀ w', Ab R w w' → Cx w0 (BJ R w w') w' c d (lZ C n ys).1 → K (.int .i64 (lZ C n ys).2) w') : A8 Tryz.prog Fi #[.pointer (some ⟨c, 0, none⟩), .int .i64 n, .slice a2 l2 c2] w K := by
  have hX := hC;obtain⟨rl, m, sb, mb, sc, lc, la, L, mp, h⟩ := hC;apply O9;unfold Ij;have m1 : Ab No w (w.alloc (.cells ⟨[.int .i64 0, .int .i64 256]⟩ 3)) := (Ab.refl No w).alloc _;have hrow : Bl (w.alloc (.cells ⟨[.int .i64 0, .int .i64 256]⟩ 3)) (some ⟨w.heap.size, 0, none⟩) (iL [0, 256]) := .inr ⟨_, _, rfl, A1.new.at⟩;refine⟨_, _, _, _, yT _, Y7 (xs := [0, 256]) (h.nos m1) rfl (by omega) hrow ⟨_, rfl, ?_⟩⟩
  generalize hW : w.alloc (.cells ⟨[.int .i64 0, .int .i64 256]⟩ 3) = w1 at *;have hs1 := m1.size;have hw0 := h.mod.size;by_cases he : AD C.D n = 0
  · by_cases h256 : ys.length ≠ 0 ∧ ys.length ≠ 256
    · have hm : Mc C.D n l2 [0, 256] = 4 := by unfold Mc;rw[if_neg (by omega), if_pos (by simp;omega)]
      have hr0 : lZ C n ys = (C, 4) := by unfold lZ;rw[if_neg (by omega), if_pos h256]
      rw[hr0]at hk;rw[hm];exact tt rfl (hk w1 m1.anys (hX.gro m1))
    · have hm : Mc C.D n l2 [0, 256] = 0 := by unfold Mc;rw[if_neg (by omega), if_neg (by simp;omega)]
      rw[hm];refine ff rfl ?_;obtain⟨b, rfl, hb⟩ := KS he;have hr0 : lZ C b ys = match KP C b with | none => (C, 5) | some C' => ({ C' with D := B8 C'.D b (if ys.length = 0 then Fe C'.l else ys) }, Um C'.D b (if ys.length = 0 then Fe C'.l else ys)) := by unfold lZ;rw[if_neg (by omega), if_neg h256, Lr]<;>rfl
      rw[hr0]at hk;refine rH (h.nos m1) hb (fun C' ha w3 q hq m3 => ⟨_, _, rfl, ff rfl ?_⟩) fun ha w3 m3 => ⟨_, _, rfl, tt rfl ?_⟩
      · rw[ha]at hk
        obtain⟨x, hx, hxb, hxd, hxf, hwf, hD⟩ := SH h.wf h.disk.wf hb ha;obtain⟨rl', m', sb', mb', sc', lc', la', L', mp', h', hl'⟩ := hq;obtain⟨q2, g, cc, b1, b2, b3, b4, b6⟩ := h'.bufs x hx;rw[hxb, hl']at b1;simp only[xY, Value.pointer.injEq, Addr.mk.injEq, and_true]at b1;subst b1;have hxl := hwf.data x hx;have hs3 := m3.size;refine Ac.cut (fun z w4 => w4 = w3 ∧ ∃(a4 : Option Addr)(l4 c4 : Nat), z = [.slice a4 l4 c4] ∧ (if ys.length = 0 then Fe C'.l else ys).length = l4 ∧ Bl w3 a4 (Au (if ys.length = 0 then Fe C'.l else ys)) ∧ ∀ q5, a4 = some q5 → rl' q5.block ≠ 4)
          (Aa (fun hb => ?_) (fun hb => ?_)) ?_
        · have hl0 : ys.length = 0 := by have : (l2 : Int) = 0 := by simpa using hb
                                         omega
          refine⟨_, rfl, _, _, _, gP b4, rfl, _, _, _, rfl, ?_, ?_, fun q5 e => ?_⟩
          · rw[if_pos hl0, hxd];exact hxl
          · rw[if_pos hl0, hxd];exact .inr ⟨_, _, rfl, b6⟩
          · have := Ln e
            subst this;show rl' g ≠ 4;omega
        · have hl0 : ¬ ys.length = 0 := fun e => by
            have : ((l2 : Int) == 0) = true := by simp;omega
            rw[this]at hb;cases hb
          have hyne : ys ≠ [] := fun e => hl0 (by rw[e];rfl);refine⟨rfl, _, _, _, rfl, by rw[if_neg hl0];exact hl, by rw[if_neg hl0];exact Bl.region (hr.nos m1) m3 fun _ => hd hyne, fun q5 e e4 => ?_⟩;have hnR := hd hyne q5 e
          have := h'.reg q5.block (by omega)
          rcases this with this|this
          · exact hnR this
          · have hune : Au ys ≠ [] := fun e => by have := Pi List.length e;simp at this;exact hyne this
            obtain⟨b5, o5, e5, hat5⟩ := hr.resolve_left hune;rw[e]at e5
            have := Ln e5
            subst this
            have := hat5.lt
            simp only at *;omega
        · rintro z w4 ⟨rfl, a4, l4, c4, rfl, hl4, hr4, hd4⟩
          refine⟨_, rfl, _, h'.ld, _, _, _, rfl, jN h'.disk (by rw[hD];exact hb9) hl4 hr4 hd4 fun w5 L5 m5 h5 => ⟨_, rfl, ?_⟩⟩;have hs5 := m5.size;obtain⟨rl5, k5⟩ := h'.dsk m5 (fun _ e => e) h5 (qX (by rw[hD];exact hb9) _ _) (gQ _ _ _);have hgg := YI (R := R) (w := w1) (w1 := w4) (w2 := w5) (by omega) (by omega);rw[hgg]at k5;refine hk w5 ((m1.anys.trans m3 fun _ _ e => e).trans m5 fun z hz e => ?_) (Cx.up ⟨rl5, m', sb', mb', sc', lc', la', L5, mp', k5⟩ h.lo hw0 hs1 (by omega))
          have e4 : rl' z = 4 := e
          have := h'.reg z (by omega)
          rcases this with this|this
          · exact this
          · omega
      · rw[ha]at hk
        exact hk w3 (m1.no m3).anys (hX.gro (m1.no m3))
  · have hm : Mc C.D n l2 [0, 256] = AD C.D n := by unfold Mc;rw[if_pos he]
    have hr0 : lZ C n ys = (C, AD C.D n) := by unfold lZ;rw[if_pos he]
    rw[hr0]at hk;rw[hm];exact tt (by simpa using he) (hk w1 m1.anys (hX.gro m1))
end
section
variable{w0 w w':World}{R:Nat->Prop}{rl:Nat->Nat}{c d m sb mb sc lc:Nat}{la:Option Addr}{L mp:List (Int×Value)}{C:Ca}{K:Value->World->Prop}
theorem tE{n:Int}(h:Hx w0 R rl w c d m sb mb sc lc la L mp C)(hk1:KY C n=none->K (.tuple #[.pointer none,.int .i64 20]) w)
  (hk2:∀ x q,KY C n=some x->Ay mp n=some (.pointer (some ⟨q,0,none⟩))->K (.tuple #[.pointer (some ⟨q,0,none⟩),.int .i64 0]) w):A8 Tryz.prog Ee #[.pointer (some ⟨c,0,none⟩),.int .i64 n] w K:=by
 apply P6;unfold IO;have hlk:=X5 (P:=Tryz.prog) N5 h.map (k:=n);refine ff rfl ⟨_,rfl,some m,h.lm,?_⟩;rcases bH h n with ⟨e1,e2⟩ | ⟨x,q,e1,e2⟩
 ·rw[e2]at hlk;exact⟨none,false,hlk,tt rfl (hk1 e1)⟩
 ·rw[e2]at hlk;exact⟨some ⟨q,0,none⟩,true,hlk,ff rfl (hk2 x q e1 e2)⟩
theorem VN{x:Bf}{q p:Nat}(h:Hx w0 R rl w c d m sb mb sc lc la L mp C)(hx:x∈C.l)(hq:Ay mp (x.b:Int)=some (.pointer (some ⟨q,0,none⟩)))(hp:p<=1000000) :
  ∃ w',Eh (Instr.storeAt 3 (.pointer (some (Addr.add ⟨q,0,none⟩ 1))) (.int .i64 p)) w w'/\Ab R w w'/\Cx w0 (BJ R w w') w' c d { C with l:=I9 C.l { x with pins:=p } }:=by
 obtain⟨q2,g,cc,b1,b2,b3,b4,b6⟩:=h.bufs x hx;rw[hq]at b1;simp only[xY,Value.pointer.injEq,Addr.mk.injEq,and_true]at b1;subst b1;obtain⟨w1,t1,t2,t3,t4⟩:=b4.store (P:=Tryz.prog) (T:=3) (i:=1) (v:=.int .i64 p) (by kernel_rfl) (by simp) rfl;refine⟨w1,by rw[Ad];exact t1,t3.mono fun z _ e=>h.reg z (by rw[e,b2];omega),?_⟩;obtain⟨rl',h'⟩:=h.turn (y:={ x with pins:=p }) (q:=q) (g:=g) (cc:=cc) t3 (fun z e=>by rw[e];exact b2) ⟨x,hx,rfl⟩ hq b2 (.inl b3) (by simpa using t2) (b6.keep t3 fun e=>by rw[e]at b3;omega)
  (h.wf.turn (h.wf.lt x hx) (h.wf.data x hx) hp)
 exact⟨rl',m,sb,mb,sc,lc,la,L,mp,h'⟩
theorem AdB{n:Int}(hC:Cx w0 R w c d C)(hp:∀ x∈C.l,x.pins<=999999)(hk:∀ w',Ab R w w'->Cx w0 (BJ R w w') w' c d (oX C n).1->K (.int .i64 (oX C n).2) w'):A8 Tryz.prog E3 #[.pointer (some ⟨c,0,none⟩),.int .i64 n] w K:=by
 have hX:=hC;obtain⟨rl,m,sb,mb,sc,lc,la,L,mp,h⟩:=hC;apply Qm;unfold Jz;unfold oX at hk;refine tE h (fun e=>⟨_,_,rfl,Ac.dup (ff rfl ?_)⟩) fun x q e hq=>⟨_,_,rfl,Ac.dup (tt rfl ?_)⟩
 ·rw[e]at hk;exact hk w (Ab.refl _ _) (hX.gro (Ab.refl _ _))
 ·rw[e]at hk;obtain⟨hx,rfl⟩:=V5 e;obtain⟨q2,g,cc,b1,b2,b3,b4,b6⟩:=h.bufs x hx;have hpx:=hp x hx;have hq':=hq;rw[hq]at b1;simp only[xY,Value.pointer.injEq,Addr.mk.injEq,and_true]at b1;subst b1;obtain⟨w1,t1,t2,t3⟩:=VN (p:=x.pins+1) h hx hq' (by omega);refine⟨_,rfl,_,kT b4,_,rfl,w1,?_,hk w1 t2 t3⟩;rw[Ag (x:=(x.pins:Int)+1) (by omega) (by omega)];exact t1
theorem rQ{n:Int}(hC:Cx w0 R w c d C)(hk:∀ w',Ab R w w'->Cx w0 (BJ R w w') w' c d (SV C n).1->K (.int .i64 (SV C n).2) w'):A8 Tryz.prog Fh #[.pointer (some ⟨c,0,none⟩),.int .i64 n] w K:=by
 have hX:=hC;obtain⟨rl,m,sb,mb,sc,lc,la,L,mp,h⟩:=hC;apply O8;unfold Ii;unfold SV at hk;refine tE h (fun e=>⟨_,_,rfl,tt rfl ?_⟩) fun x q e hq=>⟨_,_,rfl,ff rfl ?_⟩
 ·rw[e]at hk;exact hk w (Ab.refl _ _) (hX.gro (Ab.refl _ _))
 ·rw[e]at hk;obtain⟨hx,rfl⟩:=V5 e;obtain⟨q2,g,cc,b1,b2,b3,b4,b6⟩:=h.bufs x hx;have hpx:=h.wf.pins x hx;have hq':=hq;rw[hq]at b1;simp only[xY,Value.pointer.injEq,Addr.mk.injEq,and_true]at b1;subst b1;refine⟨_,rfl,_,kT b4,Aa (fun hb=>?_) (fun hb=>?_)⟩
  ·have h0:x.pins=0:=by simpa using hb
   simp only[h0,if_pos]at hk;exact hk w (Ab.refl _ _) (hX.gro (Ab.refl _ _))
  ·have h0:¬ x.pins=0:=by simpa using hb
   simp only[h0,if_neg,not_false_eq_true]at hk;obtain⟨w1,t1,t2,t3⟩:=VN (p:=x.pins-1) h hx hq' (by omega);refine⟨_,rfl,_,kT b4,_,rfl,w1,?_,hk w1 t2 t3⟩;rw[Ag (x:=(x.pins:Int)-1) (by omega) (by omega),show(x.pins:Int)-1=((x.pins-1:Nat):Int) by omega];exact t1
theorem rP(hC:Cx w0 R w c d C)(hk:∀ w',Ab R w w'->Cx w0 (BJ R w w') w' c d { C with D:=Dj C.D }->K (.int .i64 0) w'):A8 Tryz.prog Fg #[.pointer (some ⟨c,0,none⟩)] w K:=by
 obtain⟨rl,m,sb,mb,sc,lc,la,L,mp,h⟩:=hC;apply O7;unfold Ih;refine ff rfl ⟨_,rfl,_,h.ld,jE h.disk h.wf.small fun w1 L1 m1 h1=>⟨_,rfl,?_⟩⟩;have hsm:Fd (Dj C.D):=by
  unfold Dj;split
  ·exact h.wf.small
  ·intro v hv;simp at hv;obtain⟨u,_,rfl⟩:=hv;simp
 obtain⟨rl',h'⟩:=h.dsk m1 (fun _ e=>e) (h1.gro w) hsm (by unfold Dj;split<;>simp);exact hk w1 (m1.mono fun z _ e=>h.reg z (by have e4:rl z=4:=e;omega)) ⟨rl',m,sb,mb,sc,lc,la,L1,mp,h'⟩
theorem ZX(w:World)(p:Option Addr)(n:Int)(mm:Option Nat):(Instr.build 252 #[(0,.pointer p),(1,.int .i64 n),(2,.map mm)]).run Tryz.prog w=.ok (.agg ⟨[.pointer p,.int .i64 n,.map mm,.slice none 0 0]⟩) w:=by kernel_rfl
theorem AdA{D:St}{n:Int}(hd:AF w R d sb mb sc L D)(hsm:Fd D)(hlo:∀ x,R x->w0.heap.size<=x/\x<w.heap.size)(hm:Ab No w0 w)
  (hk1:n<1\/4096<n->K (.tuple #[.pointer none,.int .i64 1]) w)
  (hk2:∀ k:Nat,n=k->1<=k->k<=4096->∀ w' c,Ab No w w'->Cx w0 (BJ R w w') w' c d ⟨D,k,[]⟩->K (.tuple #[.pointer (some ⟨c,0,none⟩),.int .i64 0]) w'):A8 Tryz.prog Ni #[.pointer (some ⟨d,0,none⟩),.int .i64 n] w K:=by
 classical
 apply Zv;unfold Tc;refine ff rfl (Ac.or ⟨_,rfl,Aa (fun hb=>?_) (fun hb=>?_)⟩)
 ·exact hk1 (by simpa using hb)
 have hn:¬ (n<1\/4096<n):=by simpa using hb
 obtain⟨k,rfl⟩:=Wq (show 0<=n by omega);refine⟨_,_,Gi,_,fun w=>ZX w _ _ _,_,_,I6,?_⟩;have m1:Ab No w (w.alloc (.map #[] 0)):=(Ab.refl No w).alloc _;have m2:Ab No (w.alloc (.map #[] 0)) ((w.alloc (.map #[] 0)).alloc (.cells ⟨[.pointer (some ⟨d,0,none⟩),.int .i64 k,.map (some w.heap.size),.slice none 0 0]⟩ 252)):=(Ab.refl No _).alloc _;have hs1:(w.alloc (.map #[] 0)).heap.size=w.heap.size+1:=by simp
 have hs2:((w.alloc (.map #[] 0)).alloc (.cells ⟨[.pointer (some ⟨d,0,none⟩),.int .i64 k,.map (some w.heap.size),.slice none 0 0]⟩ 252)).heap.size=w.heap.size+2:=by simp
 refine hk2 k rfl (by omega) (by omega) ((w.alloc (.map #[] 0)).alloc (.cells ⟨[.pointer (some ⟨d,0,none⟩),.int .i64 k,.map (some w.heap.size),.slice none 0 0]⟩ 252)) _ (m1.no m2) ?_;have hw0:=hm.size;have hR:∀ x,R x->x≠w.heap.size/\x≠w.heap.size+1:=fun x hx=>by have:=hlo x hx;omega
 refine⟨fun x=>if x=w.heap.size+1 then 1 else if x=w.heap.size then 2 else if R x then 4 else 0,w.heap.size,sb,mb,sc,0,none,L,[],?_⟩
 have e4:(fun x=>(if x=w.heap.size+1 then 1 else if x=w.heap.size then 2 else if R x then 4 else 0)=4)=R:=by
  funext x;apply propext;constructor
  ·intro e
   split at e
   ·omega
   ·split at e
    ·omega
    ·split at e
     ·assumption
     ·omega
  ·intro hx;rw[if_neg (hR x hx).2,if_neg (hR x hx).1,if_pos hx]
 exact {
  disk:=by rw[e4];exact(hd.nos m1).nos m2
  cell:=by rw[hs1];rw[<- hs1];exact A1.new
  map:=Bj.new.keep m2 id
  row:=Ow.nil Hn
  rc:=by rw[hs1];simp
  rm:=by simp
  rrow:=fun q hq=>by cases hq
  bufs:=fun x hx=>by cases hx
  keys:=fun p hp=>by cases hp
  wf:={ small:=hsm,most0:=by show 1<=k;omega,most1:=by show k<=4096;omega,len:=Lz5 _,nodup:=by simp,lt:=fun x hx=>(by cases hx),data:=fun x hx=>(by cases hx),pins:=fun x hx=>(by cases hx) }
  reg:=fun x hx=>by
   by_cases hRx:R x
   ·exact .inl hRx
   ·right;by_cases e1:x=w.heap.size+1
    ·omega
    ·by_cases e2:x=w.heap.size
     ·omega
     ·simp[e1,e2,hRx]at hx
  lo:=fun x hx=>by
   rcases hx with hx|hx
   ·have:=hlo x hx;omega
   ·omega
  mod:=(hm.no m1).no m2 }
end
section
variable{w0 w w':World}{R:Nat->Prop}{c d:Nat}{C:Ca}{K:Value->World->Prop}
def k0:Ca:=⟨Bp 4,2,[]⟩
def k1:Ca:=(Zc k0 1).1
def k2:Ca:=(Zc k1 2).1
def k3:Ca:=(Zc k2 1).1
def k4:Ca:=(Zc k3 3).1
def k5:Ca:=(Uf k4 1 (kB [120])).1
def k6:Ca:=(lZ k5 1 []).1
end
end Go.Z
end
section
open Go Go.Den Go.Proofs
namespace Go.Den
def pV(q:Nat):Value:=.pointer (some ⟨q,0,none⟩)
def pL(qs:List Nat):List Value:=qs.map pV
@[simp] theorem Ae1 (qs:List Nat):(pL qs).length=qs.length:=by simp[pL]
theorem SN{qs:List Nat}{i:Nat}(hi:i<qs.length):(pL qs)[i]?=some (.pointer (some ⟨qs[i],0,none⟩)):=by simp[pL,hi,pV]
theorem Hu{w:World}{a:Option Addr}{xs:List Nat}{i:Nat}(h:Bl w a (pL xs))(hi:i<xs.length):∃ b o,a=some ⟨b,o,none⟩/\At w b o (pL xs):=by
 refine h.resolve_left fun e=>?_
 have:=Pi List.length e
 simp at this;rw[this]at hi;simp at hi
end Go.Den
namespace Go.Z
theorem S6:D5 Tryz.prog 169 1 (.pointer none) 8:=by unfold D5;kernel_rfl
theorem aR:D5 Tryz.prog 159 1 (.int .i64 0) 8:=by unfold D5;kernel_rfl
def Kj(v:Value)(w0:World)(S:Nat->Prop)(p:Nat->Bool)(xs:List Nat):Prop :=
 ∀ w',Ab S w0 w'->∀ x∈xs,∀ K:Value->World->Prop,(∀ w'',Ab No w' w''->K (.bool (p x)) w'')->WN Tryz.prog v #[.pointer (some ⟨x,0,none⟩)] w' K
section
variable{w:World}{K:Value->World->Prop}
theorem W9{a:Option Addr}{l c:Nat}{xs:List Int}{v:Value}{p:Int->Bool}{S:Nat->Prop}(hl:xs.length=l)(h63:l<=9223372036854775806)(hr:Bl w a (iL xs))(ht:Pk v w S p xs)
  (hk:∀ w',Ab No w w'->K (.int .i64 (E2 p xs 0)) w'):A8 Tryz.prog D0 #[.slice a l c,v] w K:=by
 apply Kh;unfold Fv;refine⟨fun x w1=>∃ i:Nat,i<=l/\x=[.int .i64 i]/\Ab No w w1/\E2 p xs 0=E2 p (xs.drop i) i,fun x _=>(l-nI x 0).toNat,⟨0,by omega,rfl,Ab.refl _ _,rfl⟩,?_⟩;rintro x w1 ⟨i,hi,rfl,hm,hidx⟩;refine⟨_,rfl,Aa (fun hb=>?_) (fun hb=>?_)⟩
 ·have hi:i<l:=by have:=Lc hb;omega
  have hix:i<xs.length:=by omega
  obtain⟨b,o,rfl,hat⟩:=LB hr hix;refine⟨_,Ar (k:=1) (by kernel_rfl) (by omega) (by omega),?_⟩;rw[Ad,show(i:Int).toNat*1=i by omega];refine⟨_,(hat.keep hm id).load (by kernel_rfl) (Ma hix),ht w1 (hm.mono fun _ _ h=>h.elim) _ (Tx hix) _ fun w2 m2=>⟨_,rfl,Aa (fun hp=>?_) (fun hp=>?_)⟩⟩
  ·have e:E2 p xs 0=i:=by rw[hidx,Em hix];simp only[E2];rw[if_pos hp]
   rw[<- e];exact hk w2 (hm.no m2)
  ·rw[Ag (x:=(i:Int)+1) (by omega) (by omega)];refine⟨⟨i+1,by omega,rfl,hm.no m2,?_⟩,by simp[nI,Ap];omega⟩;rw[hidx,Em hix];simp only[E2];rw[if_neg (by rw[hp];simp)]
 ·have hil:i=l:=by have:=Lb hb;omega
  have e:E2 p xs 0=-1:=by rw[hidx,Lt (by omega)];rfl
  rw[<- e];exact hk w1 hm
theorem Q9{a:Option Addr}{l c:Nat}{xs:List Int}{v:Value}{p:Int->Bool}{S:Nat->Prop}(hl:xs.length=l)(h63:l<=9223372036854775806)(hr:Bl w a (iL xs))(ht:Pk v w S p xs)
  (hk:∀ w',Ab No w w'->K (.bool (xs.any p)) w'):A8 Tryz.prog BS #[.slice a l c,v] w K:=by
 apply I0;refine W9 hl h63 hr ht fun w' m=>⟨_,rfl,?_⟩;have e:decide (E2 p xs 0 >= 0)=xs.any p:=by
  rcases FQ p xs 0 with ⟨h1,h2⟩|⟨j,x,h1,h2,h3,_⟩
  ·rw[h1]
   symm
   rw[show decide ((-1:Int) >= 0)=false from rfl,Lg3];intro x hx;rw[h2 x hx];simp
  ·rw[h1,Le (by omega)]
   symm
   exact WC.2 ⟨x,Ly h2,h3⟩
 rw[e];exact hk w' m
theorem QL{a:Option Addr}{l c:Nat}{xs:List Nat}{v:Value}{p:Nat->Bool}{S:Nat->Prop}(hl:xs.length=l)(h63:l<=9223372036854775806)(hr:Bl w a (pL xs))(ht:Kj v w S p xs)
  (hk:∀ w',Ab No w w'->K (.int .i64 (E2 p xs 0)) w'):A8 Tryz.prog Bz #[.slice a l c,v] w K:=by
 apply GN;unfold D4;refine⟨fun x w1=>∃ i:Nat,i<=l/\x=[.int .i64 i]/\Ab No w w1/\E2 p xs 0=E2 p (xs.drop i) i,fun x _=>(l-nI x 0).toNat,⟨0,by omega,rfl,Ab.refl _ _,rfl⟩,?_⟩;rintro x w1 ⟨i,hi,rfl,hm,hidx⟩;refine⟨_,rfl,Aa (fun hb=>?_) (fun hb=>?_)⟩
 ·have hi:i<l:=by have:=Lc hb;omega
  have hix:i<xs.length:=by omega
  obtain⟨b,o,rfl,hat⟩:=Hu hr hix;refine⟨_,Ar (k:=1) (by kernel_rfl) (by omega) (by omega),?_⟩;rw[Ad,show(i:Int).toNat*1=i by omega];refine⟨_,(hat.keep hm id).load (by kernel_rfl) (SN hix),ht w1 (hm.mono fun _ _ h=>h.elim) _ (Tx hix) _ fun w2 m2=>⟨_,rfl,Aa (fun hp=>?_) (fun hp=>?_)⟩⟩
  ·have e:E2 p xs 0=i:=by rw[hidx,Em hix];simp only[E2];rw[if_pos hp]
   rw[<- e];exact hk w2 (hm.no m2)
  ·rw[Ag (x:=(i:Int)+1) (by omega) (by omega)];refine⟨⟨i+1,by omega,rfl,hm.no m2,?_⟩,by simp[nI,Ap];omega⟩;rw[hidx,Em hix];simp only[E2];rw[if_neg (by rw[hp];simp)]
 ·have hil:i=l:=by have:=Lb hb;omega
  have e:E2 p xs 0=-1:=by rw[hidx,Lt (by omega)];rfl
  rw[<- e];exact hk w1 hm
theorem W7{base:Nat}{a:Option Addr}{l c:Nat}{xs:List Nat}{v:Value}{p:Nat->Bool}(h:Ow Tryz.prog w base 169 1 a l c (pL xs))(h63:l<=1000000000)(ht:Kj v w (Of a) p xs)
  (hk:∀ w' l',Ow Tryz.prog w' base 169 1 a l' c (pL (xs.filter fun x=>!p x))->l'=(xs.filter fun x=>!p x).length->Ab (Of a) w w'->K (.slice a l' c) w'):A8 Tryz.prog BZ #[.slice a l c,v] w K:=by
 have hlen:xs.length=l:=by have:=h.len;simpa using this
 apply Gr;unfold Dm;refine QL hlen (by omega) h.rowU.row ht fun w1 m1=>⟨_,rfl,?_⟩;rcases FQ p xs 0 with ⟨e,hno⟩ | ⟨i0,x0,e,hx0,hp0,hbef⟩
 ·rw[e];refine tt rfl ?_;have hf:xs.filter (fun x=>!p x)=xs:=qU.2 fun x hx=>by simp[hno x hx]
  exact hk w1 l (by rw[hf];exact h.nos m1) (by rw[hf];exact hlen.symm) (m1.mono fun _ _ h=>h.elim)
 rw[e,Pj];obtain⟨hi0,hx0'⟩:=Lh.1 hx0;have hla:0<l:=by omega
 obtain⟨g,rfl,hg,_⟩:=h.sm hla;have hcap:=h.cap
 refine ff (by simp<;>omega) ⟨fun x w2=>∃(i j:Nat)(ys:List Nat),x=[.int .i64 i,.int .i64 j]/\i<j/\j<=l/\Ow Tryz.prog w2 base 169 1 (some ⟨g,0,none⟩) l c (pL ys)/\ys.take i=((xs.take j).filter fun x=>!p x)/\ys.drop j=xs.drop j/\Ab (Of (some ⟨g,0,none⟩)) w w2,
  fun x _=>(l-nI x 1).toNat,⟨i0,i0+1,xs,?_,by omega,by omega,h.nos m1,?_,rfl,m1.mono fun _ _ h=>h.elim⟩,?_⟩
 ·rw[Ag (x:=(i0:Int)+1) (by omega) (by omega)];rfl
 ·rw[Ll hi0,jG,hx0'];have e1:(xs.take i0).filter (fun x=>!p x)=xs.take i0:=qU.2 fun x hx=>by simp[hbef x hx]
  rw[e1];simp[hp0]
 rintro x w2 ⟨i,j,ys,rfl,hij,hjl,o2,h1,h2,M2⟩;have hyl:ys.length=l:=by have:=o2.len;simpa using this
 refine⟨_,rfl,Aa (fun hb=>?_) (fun hb=>?_)⟩
 ·have hj:j<l:=by have:=Lc hb;omega
  have hjx:j<xs.length:=by omega
  have hjy:j<ys.length:=by omega
  have hyx:ys[j]=xs[j]:=by
   have e1:=(Em hjy).symm.trans (h2.trans (Em hjx));exact(La6 e1).1
  obtain⟨b2,o,e2,hat⟩:=Hu o2.rowU.row hjy;simp at e2;obtain⟨rfl,rfl⟩:=e2;refine⟨_,Ar (k:=1) (by kernel_rfl) (by omega) (by omega),?_⟩;rw[Ad,show(j:Int).toNat*1=j by omega];refine⟨_,hat.load (by kernel_rfl) (SN hjy),ht w2 M2 _ (by rw[hyx];exact Tx hjx) _ fun w3 m3=>⟨_,rfl,?_⟩⟩;rw[hyx];refine Ac.cut (fun z w4=>∃(i':Nat)(ys':List Nat),z=[.int .i64 i']/\i'<j+1/\Ow Tryz.prog w4 base 169 1 (some ⟨g,0,none⟩) l c (pL ys')/\ys'.take i'=((xs.take (j+1)).filter fun x=>!p x)/\ys'.drop (j+1)=xs.drop (j+1)/\Ab (Of (some ⟨g,0,none⟩)) w w4)
   (Aa (fun hp=>?_) (fun hp=>?_)) ?_
  ·have hp:p xs[j]=false:=by simpa using hp
   refine⟨_,rfl,_,Ar (k:=1) (by kernel_rfl) (by omega) (by omega),?_⟩;rw[Ad,show 0+(i:Int).toNat*1=i by omega];obtain⟨w4,s1,s2,s3⟩:=(o2.nos m3).set (T':=172) (i:=i) (v:=.pointer (some ⟨xs[j],0,none⟩)) (by kernel_rfl) (by omega) rfl;refine⟨w4,s1,?_⟩;obtain⟨k1,k2⟩:=X1 h1 h2 (by omega) hij hjx hp;rw[Ag (x:=(i:Int)+1) (by omega) (by omega)];refine⟨i+1,ys.set i xs[j],rfl,by omega,?_,k1,k2,(M2.no m3).trans s3 fun x _ e=>⟨_,rfl,e⟩⟩
   have e3:(pL ys).set i (.pointer (some ⟨xs[j],0,none⟩))=pL (ys.set i xs[j]):=by simp[pL,Lt5,pV]
   rw[e3]at s2;exact s2
  ·have hp:p xs[j]=true:=by simpa using hp
   refine⟨i,ys,rfl,by omega,o2.nos m3,?_,?_,M2.no m3⟩
   ·rw[h1,Ll hjx,jG];simp[hp]
   ·rw[<- UO,h2,UO]
  ·rintro z w4 ⟨i',ys',rfl,hij',o4,k1,k2,M4⟩;rw[Ag (x:=(j:Int)+1) (by omega) (by omega)];exact⟨⟨i',j+1,ys',rfl,hij',by omega,o4,k1,k2,M4⟩,by simp[nI,Ap];omega⟩
 ·have hjl:j=l:=by have:=Lb hb;omega
  subst hjl;refine⟨_,rfl,_,_,_,F7 (k:=1) (by kernel_rfl) (by omega) (by omega),?_⟩;rw[Lr];obtain⟨w3,zs,s1,s2,s3⟩:=o2.clear (ty:=0) S6 (i:=i) (by omega) rfl;refine⟨w3,s1,_,_,_,H4 (k:=1) (by kernel_rfl) (by omega) (by omega),?_⟩;have hcut:Cb (some ⟨g,0,none⟩) c 0 1=some ⟨g,0,none⟩:=by
   unfold Cb;rw[if_neg (by omega)];simp[Ad]
  rw[hcut,Lr];have hxall:xs.take j=xs:=Lg (by omega);rw[hxall]at h1;have hsh:=s2.shrink (i:=i) (by omega) (by simp);have e5:((pL ys).take i++zs).take i=pL (xs.filter fun x=>!p x):=by
   rw[<- h1];have:((pL ys).take i).length=i:=by simp;omega
   rw[Lv (by omega),Lg (by omega)];simp[pL,Lf4]
  rw[e5]at hsh;refine hk w3 i hsh ?_ (M2.trans s3 fun x _ e=>⟨_,rfl,e⟩);rw[<- h1];simp;omega
theorem ZD{a:Option Addr}{l c:Nat}{xs:List Nat}{v:Value}{p:Nat->Bool}{S:Nat->Prop}(hl:xs.length=l)(h63:l<=9223372036854775806)(hr:Bl w a (pL xs))(ht:Kj v w S p xs)
  (hk:∀ w',Ab No w w'->K (.bool (xs.any p)) w'):A8 Tryz.prog BI #[.slice a l c,v] w K:=by
 apply F8;refine QL hl h63 hr ht fun w' m=>⟨_,rfl,?_⟩;have e:decide (E2 p xs 0 >= 0)=xs.any p:=by
  rcases FQ p xs 0 with ⟨h1,h2⟩|⟨j,x,h1,h2,h3,_⟩
  ·rw[h1]
   symm
   rw[show decide ((-1:Int) >= 0)=false from rfl,Lg3];intro x hx;rw[h2 x hx];simp
  ·rw[h1,Le (by omega)]
   symm
   exact WC.2 ⟨x,Ly h2,h3⟩
 rw[e];exact hk w' m
def B2(b:List UInt8)(i:Nat)(ys:List UInt8):List UInt8:=b.take i++ys++b.drop (i+ys.length)
theorem Gk{b ys:List UInt8}{i:Nat}(h:i+ys.length<=b.length):(B2 b i ys).length=b.length:=by unfold B2;simp;omega
theorem qP{a0 a2:Option Addr}{l0 c0 l2 c2 i:Nat}{b ys:List UInt8}(hb:b.length=l0)(hy:ys.length=l2)(hin:i+l2<=l0)(h63:l0<=1048576)(hl0:0<l0)(h0:Bl w a0 (Au b))(h2:Bl w a2 (Au ys))
  (hk:∀ w',Ab No w w'->A1 w' w.heap.size 0 (Au (B2 b i ys))->K (.tuple #[.slice (some ⟨w.heap.size,0,none⟩) l0 l0,.int .i64 0]) w'):A8 Tryz.prog NN #[.slice a0 l0 c0,.int .i64 i,.slice a2 l2 c2] w K:=by
 apply mE;unfold WK;have hwi:∀{K:Value->World->Prop},K (.bool true) w->A8 Tryz.prog LQ #[.slice a0 l0 c0,.int .i64 i,.int .i64 ((l2:Nat):Int)] w K:=fun hk=>by
  apply Yn;refine Ac.dup (tt (Le (by omega)) (tt (Le (by omega)) (tt (Le (by omega)) ⟨_,rfl,?_⟩)));rw[Ag (x:=(l0:Int)-i) (by omega) (by omega),Le (by omega)];exact hk
 refine hwi ⟨_,rfl,ff rfl ?_⟩;obtain⟨w1,hm1,hat1,hmod1,hsz1⟩:=D3 (P:=Tryz.prog) (w:=w) (n:=l0) AE (by omega) (by omega) (by omega);obtain⟨w2,hc1,hc2,hc3,hc4⟩:=aK (P:=Tryz.prog) (T:=88) (T2:=88) (ty:=3) (k:=1) (n:=l0) (c:=l0) (n2:=l0) (c2:=c0) (a2:=a0) (src:=Au b) (by kernel_rfl) hat1 (by rw[TV]) (h0.nos hmod1) (by rw[Ak,hb];omega) (BF b)
 have e1:AA (List.replicate (l0*1) (Value.int .u8 0)) 0 ((Au b).take (Nat.min l0 l0*1))=Au b:=by
  have:(Au b).take (Nat.min l0 l0*1)=Au b:=Lg (by rw[Ak,hb,qI];exact mK (Nat.min_self l0).symm);rw[this];exact Wd (by rw[Ak,hb,TV];omega)
 rw[e1]at hc2;have M2:Ab No w w2:=hmod1.trans hc3 fun x hx e=>by omega
 have h2':=h2.nos M2;refine⟨_,_,_,w1,hm1,_,w2,hc1,_,_,_,F7 (k:=1) (by kernel_rfl) (by omega) (by omega),?_⟩;rw[Lr];by_cases hil:i=l0
 ·have hy0:ys=[]:=fE (by omega);have hl20:l2=0:=by omega
  subst hy0;have hcut:Cb (some ⟨w.heap.size,0,none⟩) l0 i 1=some ⟨w.heap.size,0,none⟩:=by unfold Cb;rw[if_pos hil.symm]
  rw[hcut];obtain⟨w3,hd1,hd2,hd3,hd4⟩:=H1 (P:=Tryz.prog) (T:=88) (T2:=88) (ty:=3) (k:=1) (i:=0) (n:=l0-i) (c:=l0-i) (n2:=l2) (c2:=c2) (a2:=a2) (src:=Au []) (by kernel_rfl) hc2 (by simp;omega) h2' (by simp[hl20]) (BF []);refine⟨_,w3,hd1,hk w3 (M2.trans hd3 fun x hx e=>by omega) ?_⟩;have e2:AA (Au b) 0 ((Au []).take (Nat.min l2 (l0-i)*1))=Au (B2 b i []):=by simp[AA,Au,B2]
  rw[e2]at hd2;exact hd2
 ·have hcut:Cb (some ⟨w.heap.size,0,none⟩) l0 i 1=some ⟨w.heap.size,0+i,none⟩:=by
   unfold Cb;rw[if_neg (by omega)];simp[Ad]
  rw[hcut];obtain⟨w3,hd1,hd2,hd3,hd4⟩:=H1 (P:=Tryz.prog) (T:=88) (T2:=88) (ty:=3) (k:=1) (i:=i) (n:=l0-i) (c:=l0-i) (n2:=l2) (c2:=c2) (a2:=a2) (src:=Au ys) (by kernel_rfl) hc2 (by simp[hb];omega) h2' (by simp[hy]) (BF ys);refine⟨_,w3,hd1,hk w3 (M2.trans hd3 fun x hx e=>by omega) ?_⟩;have e2:AA (Au b) i ((Au ys).take (Nat.min l2 (l0-i)*1))=Au (B2 b i ys):=by
   have:(Au ys).take (Nat.min l2 (l0-i)*1)=Au ys:=Lg (by rw[Ak,hy,qI];exact mK (Le4 (by omega)).symm);rw[this,Mm];rfl
  rw[e2]at hd2;exact hd2
end
end Go.Z
open Go Go.Den Go.Proofs
namespace Go.Z
structure Ch where
 id:Nat
 b:Nat
 frm:Nat
 data:List UInt8
 after:List Int
 out:Bool
structure On where
 b:Nat
 base:Bk
 l:List Ch
structure Ps where
 C:Ca
 last:Nat
 ons:List On
def Ps.all(P:Ps):List Ch:=P.ons.flatMap (·.l)
def Ps.opn(P:Ps)(id:Int):Bool:=P.all.any fun c=>(c.id:Int)==id
def HN(c o:Ch):Bool:=decide (c.frm<o.frm+o.data.length)&&decide (o.frm<c.frm+c.data.length)
def KQ(op:Int->Bool)(pre:List Ch)(ok:List Int)(c:Ch):Bool:=(c.after.any fun id=>op id&&!(ok.contains id)) || (pre.any fun x=>HN x c&&!(ok.contains (x.id:Int)))
def C6(op:Int->Bool)(l:List Ch):Nat->List Int
 | 0=>[]
 | n+1=>match l[n]? with
  | some c=>if KQ op (l.take n) (C6 op l n) c=true then C6 op l n else C6 op l n++[(c.id:Int)]
  | none=>C6 op l n
def Ia(op:Int->Bool)(l:List Ch):List Int:=C6 op l l.length
def AW(base:Bk)(l:List Ch):Bk:=l.foldl (fun b c=>B2 b c.frm c.data) base
structure Hh(P:Ps):Prop where
 full:P.C.D.vs.length<=P.C.most
 onsN:(P.ons.map (·.b)).Nodup
 onlt:∀ o∈P.ons,o.b<P.C.D.vs.length
 base:∀ o∈P.ons,o.base.length=256
 llen:∀ o∈P.ons,o.l.length<=P.last
 ids:(P.all.map (·.id)).Nodup
 idr:∀ x∈P.all,1<=x.id/\x.id<=P.last
 chb:∀ o∈P.ons,∀ x∈o.l,x.b=o.b
 dat:∀ x∈P.all,1<=x.data.length/\x.frm+x.data.length<=256
 aft:∀ x∈P.all,x.after.length<=1000000
 last:P.last<=1000000
def xL(l:List Ch):Prop:=l.Pairwise fun x y=>y.out=true->HN x y=true->x.out=true
structure UP(P:Ps):Prop where
 lne:∀ o∈P.ons,o.l≠[]
 pin:∀ o∈P.ons,∃ x∈P.C.l,x.b=o.b/\x.pins=1/\x.data=AW o.base o.l
 unp:∀ x∈P.C.l,(∀ o∈P.ons,o.b≠x.b)->x.pins=0/\x.data=DC P.C.D x.b
 run:P.C.D.left=-1
 acc:∀ o∈P.ons,DC P.C.D o.b=AW o.base (o.l.filter (·.out))
 may:∀ o∈P.ons,∀ x∈o.l,x.out=true->(x.id:Int)∈Ia P.opn o.l
 cls:∀ o∈P.ons,xL o.l
 afl:∀ x∈P.all,∀ k∈x.after,k<(x.id:Int)
theorem GF{P:Ps}{x:Ch}:x∈P.all↔∃ o∈P.ons,x∈o.l:=by unfold Ps.all;rw[yA]
def H5(w:World)(rl:Nat->Nat)(q:Nat)(x:Ch):Prop :=
 ∃ gd cd aa ca,A1 w q 0 [.int .i64 x.id,.int .i64 x.b,.int .i64 x.frm,.slice (some ⟨gd,0,none⟩) x.data.length cd,.slice aa x.after.length ca,.bool x.out]/\At w gd 0 (Au x.data)/\rl gd=5/\Bl w aa (iL x.after)/\∀ q,aa=some q->rl q.block=5
def TX(w0 w:World)(rl:Nat->Nat)(ca:Nat->Nat)(q:Nat)(o:On):Prop :=
 ∃ g cc la lc,A1 w q 0 [.slice (some ⟨g,0,none⟩) 256 cc,.slice la o.l.length lc]/\At w g 0 (Au o.base)/\rl g=5/\Ow Tryz.prog w w0.heap.size 169 1 la o.l.length lc (pL (o.l.map fun x=>ca x.id))/\∀ q,la=some q->rl q.block=9+3*o.b
structure EO(w0:World)(R:Nat->Prop)(rl:Nat->Nat)(w:World)(sp c d mo mm:Nat)(ca oa:Nat->Nat)(Lo Lm:List (Int×Value))(P:Ps):Prop where
 cx:Cx w0 (fun x=>rl x=1) w c d P.C
 cell:A1 w sp 0 [.pointer (some ⟨c,0,none⟩),.int .i64 P.C.D.vs.length,.int .i64 P.last,.map (some mo),.map (some mm)]
 mapO:Bj w mo Lo
 mapM:Bj w mm Lm
 rsp:rl sp=2
 rmo:rl mo=3
 rmm:rl mm=4
 chs:∀ x∈P.all,Ay Lo x.id=some (pV (ca x.id))/\rl (ca x.id)=10+3*x.id/\H5 w rl (ca x.id) x
 ons:∀ o∈P.ons,Ay Lm o.b=some (pV (oa o.b))/\rl (oa o.b)=8+3*o.b/\TX w0 w rl ca (oa o.b) o
 keysO:∀ p∈Lo,∃ x∈P.all,p.1=(x.id:Int)
 keysM:∀ p∈Lm,∃ o∈P.ons,p.1=(o.b:Int)
 wf:Hh P
 reg:∀ x,rl x≠0->R x
 lo:∀ x,R x->w0.heap.size<=x/\x<w.heap.size
 mod:Ab No w0 w
section
variable{w0 w w':World}{R:Nat->Prop}{rl:Nat->Nat}{sp c d mo mm:Nat}{ca oa:Nat->Nat}{Lo Lm:List (Int×Value)}{P:Ps}
theorem H5.keep{S:Nat->Prop}{q:Nat}{x:Ch}(h:H5 w rl q x)(k:Ab S w w')(hq:¬ S q)(h5:∀ z,rl z=5->¬ S z):H5 w' rl q x:=by
 obtain⟨gd,cd,aa,ca,h1,h2,h3,h4,h6⟩:=h;exact⟨gd,cd,aa,ca,h1.keep k hq,h2.keep k (h5 _ h3),h3,h4.keep k fun q hq=>h5 _ (h6 q hq),h6⟩
theorem H5.role{rl':Nat->Nat}{q:Nat}{x:Ch}(h:H5 w rl q x)(hr:∀ z,rl z=5->rl' z=5):H5 w rl' q x:=by
 obtain⟨gd,cd,aa,ca,h1,h2,h3,h4,h6⟩:=h;exact⟨gd,cd,aa,ca,h1,h2,hr _ h3,h4,fun q hq=>hr _ (h6 q hq)⟩
theorem TX.keep{S:Nat->Prop}{q:Nat}{o:On}(h:TX w0 w rl ca q o)(k:Ab S w w')(hq:¬ S q)(h5:∀ z,rl z=5->¬ S z)(h9:∀ z,rl z=9+3*o.b->¬ S z):TX w0 w' rl ca q o:=by
 obtain⟨g,cc,la,lc,h1,h2,h3,h4,h6⟩:=h;exact⟨g,cc,la,lc,h1.keep k hq,h2.keep k (h5 _ h3),h3,h4.keep k fun q hq=>h9 _ (h6 q hq),h6⟩
theorem TX.role{rl':Nat->Nat}{ca':Nat->Nat}{q:Nat}{o:On}(h:TX w0 w rl ca q o)(hr:∀ z,rl z≠0->rl' z=rl z)(hc:∀ x∈o.l,ca' x.id=ca x.id):TX w0 w rl' ca' q o:=by
 obtain⟨g,cc,la,lc,h1,h2,h3,h4,h6⟩:=h;refine⟨g,cc,la,lc,h1,h2,by rw[hr g (by omega)];exact h3,?_,fun q hq=>by rw[hr q.block (by rw[h6 q hq];omega)];exact h6 q hq⟩;have e:(o.l.map fun x=>ca' x.id)=o.l.map fun x=>ca x.id:=xB hc;rw[e];exact h4
theorem EO.keepS{S:Nat->Prop}(h:EO w0 R rl w sp c d mo mm ca oa Lo Lm P)(k:Ab S w w')(hsr:∀ x,R x->¬ S x)(hw:∀ x,x<w0.heap.size->¬ S x):EO w0 R rl w' sp c d mo mm ca oa Lo Lm P:=by
 have hr:∀{x},rl x≠0->¬ S x:=fun hx=>hsr _ (h.reg _ hx)
 exact {
  cx:=h.cx.keep k (fun x hx=>hr (by have e:rl x=1:=hx;omega)) hw
  cell:=h.cell.keep k (hr (by rw[h.rsp];omega))
  mapO:=h.mapO.keep k (hr (by rw[h.rmo];omega))
  mapM:=h.mapM.keep k (hr (by rw[h.rmm];omega))
  rsp:=h.rsp
  rmo:=h.rmo
  rmm:=h.rmm
  chs:=fun x hx=>by
   obtain⟨h1,h2,h3⟩:=h.chs x hx;exact⟨h1,h2,h3.keep k (hr (by omega)) fun z hz=>hr (by omega)⟩
  ons:=fun o ho=>by
   obtain⟨h1,h2,h3⟩:=h.ons o ho;exact⟨h1,h2,h3.keep k (hr (by omega)) (fun z hz=>hr (by omega)) fun z hz=>hr (by omega)⟩
  keysO:=h.keysO
  keysM:=h.keysM
  wf:=h.wf
  reg:=h.reg
  lo:=fun x hx=>by have:=h.lo x hx;have:=k.size;omega
  mod:=h.mod.trans k fun x hx e=>absurd e (hw x hx) }
theorem EO.nos(h:EO w0 R rl w sp c d mo mm ca oa Lo Lm P)(k:Ab No w w'):EO w0 R rl w' sp c d mo mm ca oa Lo Lm P:=h.keepS k (fun _ _=>id) fun _ _=>id
theorem EO.widen{R':Nat->Prop}(h:EO w0 R rl w sp c d mo mm ca oa Lo Lm P)(h1:∀ x,R x->R' x)(h2:∀ x,R' x->w0.heap.size<=x/\x<w.heap.size):EO w0 R' rl w sp c d mo mm ca oa Lo Lm P :=
 { h with reg:=fun x hx=>h1 x (h.reg x hx),lo:=h2 }
theorem EO.gro(h:EO w0 R rl w sp c d mo mm ca oa Lo Lm P)(k:Ab No w w'):EO w0 (BJ R w w') rl w' sp c d mo mm ca oa Lo Lm P :=
 (h.nos k).widen (fun x hx=>.inl hx) fun x hx=>by
  have:=k.size
  have:=h.mod.size
  rcases hx with hx|hx
  ·have:=h.lo x hx;omega
  ·omega
theorem EO.out_of{x:Nat}(h:EO w0 R rl w sp c d mo mm ca oa Lo Lm P)(hx:w.heap.size<=x):rl x=0:=by
 by_cases e:rl x=0
 ·exact e
 ·have:=h.lo x (h.reg x e);omega
theorem EO.cache{w1:World}{C':Ca}(h:EO w0 R rl w sp c d mo mm ca oa Lo Lm P)(m1:Ab (fun x=>rl x=1) w w1)(m2:Ab No w1 w')(hc:Cx w0 (BJ (fun x=>rl x=1) w w1) w' c d C')(hD:C'.D.vs.length=P.C.D.vs.length)(hm:C'.most=P.C.most) :
  ∃ rl',EO w0 (BJ R w w1) rl' w' sp c d mo mm ca oa Lo Lm { P with C:=C' }/\(∀ x,rl x≠0->rl' x=rl x):=by
 have hold:∀ x,rl x≠0->x<w.heap.size:=fun x hx=>(h.lo x (h.reg x hx)).2;have hz1:=m1.size;have hz2:=m2.size;have hw0:=h.mod.size;have hsame:∀ x,rl x≠0->(if w.heap.size<=x/\x<w1.heap.size then 1 else rl x)=rl x:=by
  intro x hx;rw[if_neg (by have:=hold x hx;omega)]
 have k:Ab (fun x=>rl x=1) w w':=m1.no m2;have n1:∀{x},rl x≠0->rl x≠1->¬ (rl x=1):=fun _ h=>h;refine⟨fun x=>if w.heap.size<=x/\x<w1.heap.size then 1 else rl x,?_,hsame⟩
 exact {
  cx:=by
   have e:(fun x=>(if w.heap.size<=x/\x<w1.heap.size then 1 else rl x)=1)=BJ (fun x=>rl x=1) w w1:=by
    funext x;unfold BJ;apply propext;constructor
    ·intro e
     split at e
     ·rename_i hn;exact .inr hn
     ·exact .inl e
    ·rintro(e|e)
     ·rw[hsame x (by omega)];exact e
     ·rw[if_pos e]
   rw[e];exact hc
  cell:=by
   have:=h.cell.keep k (by rw[h.rsp];omega)
   show A1 w' sp 0 [_,.int .i64 C'.D.vs.length,_,_,_];rw[hD];exact this
  mapO:=h.mapO.keep k (by rw[h.rmo];omega)
  mapM:=h.mapM.keep k (by rw[h.rmm];omega)
  rsp:=by show(if _ then 1 else rl sp)=2;rw[hsame sp (by rw[h.rsp];omega)];exact h.rsp
  rmo:=by show(if _ then 1 else rl mo)=3;rw[hsame mo (by rw[h.rmo];omega)];exact h.rmo
  rmm:=by show(if _ then 1 else rl mm)=4;rw[hsame mm (by rw[h.rmm];omega)];exact h.rmm
  chs:=fun x hx=>by
   obtain⟨h1,h2,h3⟩:=h.chs x hx;refine⟨h1,?_,(h3.keep k (by omega) fun z hz=>by omega).role fun z hz=>?_⟩
   ·show(if _ then 1 else rl (ca x.id))=_;rw[hsame _ (by omega)];exact h2
   ·show(if _ then 1 else rl z)=5;rw[hsame z (by omega)];exact hz
  ons:=fun o ho=>by
   obtain⟨h1,h2,h3⟩:=h.ons o ho;refine⟨h1,?_,(h3.keep k (by omega) (fun z hz=>by omega) fun z hz=>by omega).role hsame fun _ _=>rfl⟩;show(if _ then 1 else rl (oa o.b))=_;rw[hsame _ (by omega)];exact h2
  keysO:=h.keysO
  keysM:=h.keysM
  wf:={ full:=(by show C'.D.vs.length<=C'.most;rw[hD,hm];exact h.wf.full),onsN:=h.wf.onsN,onlt:=(fun o ho=>by show o.b<C'.D.vs.length;rw[hD];exact h.wf.onlt o ho),base:=h.wf.base,llen:=h.wf.llen,ids:=h.wf.ids,idr:=h.wf.idr,chb:=h.wf.chb,dat:=h.wf.dat,aft:=h.wf.aft,last:=h.wf.last }
  reg:=fun x hx=>by
   by_cases hn:w.heap.size<=x/\x<w1.heap.size
   ·exact .inr hn
   ·simp only[if_neg hn]at hx;exact .inl (h.reg x hx)
  lo:=fun x hx=>by
   rcases hx with hx|hx
   ·have:=h.lo x hx;omega
   ·omega
  mod:=h.mod.trans k fun x hx e=>by
   have:=h.lo x (h.reg x (by omega))
   omega }
theorem EO.step{S:Nat->Prop}{rl' ca' oa':Nat->Nat}{Lo' Lm':List (Int×Value)}{P':Ps}(h:EO w0 R rl w sp c d mo mm ca oa Lo Lm P)(hC:P'.C=P.C)(k:Ab S w w')(hx:TU w w' rl rl')(hx1:∀ x,rl' x=1->rl x=1)
  (hS:∀ x,x<w.heap.size->S x->rl x≠0/\rl x≠1/\rl x≠5)
  (hcell:A1 w' sp 0 [.pointer (some ⟨c,0,none⟩),.int .i64 P.C.D.vs.length,.int .i64 P'.last,.map (some mo),.map (some mm)]) (hO:Bj w' mo Lo') (hM:Bj w' mm Lm')
  (hch:∀ x∈P'.all,(x∈P.all/\Ay Lo' x.id=Ay Lo x.id/\ca' x.id=ca x.id/\∀ q,S q->rl q≠10+3*x.id)\/(Ay Lo' x.id=some (pV (ca' x.id))/\rl' (ca' x.id)=10+3*x.id/\H5 w' rl' (ca' x.id) x))
  (hon:∀ o∈P'.ons,(o∈P.ons/\Ay Lm' o.b=Ay Lm o.b/\oa' o.b=oa o.b/\(∀ x∈o.l,ca' x.id=ca x.id)/\∀ q,S q->rl q≠8+3*o.b/\rl q≠9+3*o.b)\/(Ay Lm' o.b=some (pV (oa' o.b))/\rl' (oa' o.b)=8+3*o.b/\TX w0 w' rl' ca' (oa' o.b) o))
  (hkO:∀ p∈Lo',∃ x∈P'.all,p.1=(x.id:Int)) (hkM:∀ p∈Lm',∃ o∈P'.ons,p.1=(o.b:Int)) (hwf:Hh P') :
  EO w0 (BJ R w w') rl' w' sp c d mo mm ca' oa' Lo' Lm' P' where
 cx:=by
  have e:(fun x=>rl' x=1)=fun x=>rl x=1:=by
   funext x;exact propext ⟨hx1 x,fun e=>by rw[hx.old x (by omega)];exact e⟩
  rw[e,hC];refine h.cx.keep k (fun x hx' e=>?_) fun x hx' e=>?_
  ·have e1:rl x=1:=hx'
   have:=hS x (h.lo x (h.reg x (by omega))).2 e
   omega
  ·have:=h.mod.size
   have:=hS x (by omega) e
   have:=h.lo x (h.reg x (by omega))
   omega
 cell:=by rw[hC];exact hcell
 mapO:=hO
 mapM:=hM
 rsp:=by rw[hx.old sp (by rw[h.rsp];omega)];exact h.rsp
 rmo:=by rw[hx.old mo (by rw[h.rmo];omega)];exact h.rmo
 rmm:=by rw[hx.old mm (by rw[h.rmm];omega)];exact h.rmm
 chs:=fun x hx'=>by
  rcases hch x hx' with ⟨e1,e2,e3,e4⟩|hn
  ·obtain⟨h1,h2,h3⟩:=h.chs x e1;rw[e3];refine⟨e2.trans h1,by rw[hx.old _ (by omega)];exact h2,(h3.keep k (fun e=>e4 _ e h2) fun z hz e=>?_).role fun z hz=>by rw[hx.old z (by omega)];exact hz⟩
   have:=hS z (h.lo z (h.reg z (by omega))).2 e
   omega
  ·exact hn
 ons:=fun o ho=>by
  rcases hon o ho with ⟨e1,e2,e3,e4,e5⟩|hn
  ·obtain⟨h1,h2,h3⟩:=h.ons o e1;rw[e3];refine⟨e2.trans h1,by rw[hx.old _ (by omega)];exact h2,(h3.keep k (fun e=>(e5 _ e).1 h2) (fun z hz e=>?_) fun z hz e=>(e5 _ e).2 hz).role hx.old e4⟩
   have:=hS z (h.lo z (h.reg z (by omega))).2 e
   omega
  ·exact hn
 keysO:=hkO
 keysM:=hkM
 wf:=hwf
 reg:=fun x hn=>by
  by_cases e:rl x=0
  ·exact .inr (hx.new x e hn)
  ·exact .inl (h.reg x e)
 lo:=fun x hx=>by
  have:=k.size
  have:=h.mod.size
  rcases hx with hx|hx
  ·have:=h.lo x hx;omega
  ·omega
 mod:=h.mod.trans k fun x hx e=>by
  have:=h.mod.size
  have:=hS x (by omega) e
  have:=h.lo x (h.reg x (by omega))
  omega
end
end Go.Z
open Go Go.Den Go.Proofs
namespace Go.Z
section
variable{w0 w w':World}{R:Nat->Prop}{rl:Nat->Nat}{sp c d mo mm:Nat}{ca oa:Nat->Nat}{Lo Lm:List (Int×Value)}{P:Ps}{K:Value->World->Prop}
theorem YQ:RA Tryz.prog 161=some (.pointer none):=by kernel_rfl
theorem gR:RA Tryz.prog 162=some (.pointer none):=by kernel_rfl
theorem AcB:RA Tryz.prog 167=some (.bool false):=by kernel_rfl
theorem EO.lc(h:EO w0 R rl w sp c d mo mm ca oa Lo Lm P):Ru (Instr.loadAt 160 (.pointer (some (Addr.add ⟨sp,0,none⟩ 0)))) w (.pointer (some ⟨c,0,none⟩)) w:=by
 rw[Ad];exact h.cell.at.load (by kernel_rfl) rfl
theorem EO.llen'(h:EO w0 R rl w sp c d mo mm ca oa Lo Lm P):Ru (Instr.loadAt 3 (.pointer (some (Addr.add ⟨sp,0,none⟩ 1)))) w (.int .i64 P.C.D.vs.length) w:=by
 rw[Ad];exact h.cell.at.load (by kernel_rfl) rfl
theorem EO.llast(h:EO w0 R rl w sp c d mo mm ca oa Lo Lm P):Ru (Instr.loadAt 2 (.pointer (some (Addr.add ⟨sp,0,none⟩ 2)))) w (.int .i64 P.last) w:=by
 rw[Ad];exact h.cell.at.load (by kernel_rfl) rfl
theorem EO.lo'(h:EO w0 R rl w sp c d mo mm ca oa Lo Lm P):Ru (Instr.loadAt 161 (.pointer (some (Addr.add ⟨sp,0,none⟩ 3)))) w (.map (some mo)) w:=by
 rw[Ad];exact h.cell.at.load (by kernel_rfl) rfl
theorem EO.lm(h:EO w0 R rl w sp c d mo mm ca oa Lo Lm P):Ru (Instr.loadAt 162 (.pointer (some (Addr.add ⟨sp,0,none⟩ 4)))) w (.map (some mm)) w:=by
 rw[Ad];exact h.cell.at.load (by kernel_rfl) rfl
theorem EO.lookO(h:EO w0 R rl w sp c d mo mm ca oa Lo Lm P)(n:Int):∃ p:Option Addr,Ru (Instr.lookup 161 (.map (some mo)) (.int .i64 n) false) w (.pointer p) w/\p.isNone=!P.opn n/\∀ x∈P.all,(x.id:Int)=n->p=some ⟨ca x.id,0,none⟩:=by
 have hl:=FR (P:=Tryz.prog) YQ h.mapO (k:=n);cases hL:Ay Lo n with
 | none =>
  rw[hL]at hl;have hno:∀ x∈P.all,(x.id:Int)≠n:=fun x hx e=>by
   have:=(h.chs x hx).1
   rw[e,hL]at this;cases this
  refine⟨none,hl,?_,fun x hx e=>absurd e (hno x hx)⟩;have:P.opn n=false:=by
   unfold Ps.opn;rw[Lg3];intro x hx;simpa using hno x hx
  rw[this];rfl
 | some v =>
  rw[hL]at hl;obtain⟨x,hx,e⟩:=h.keysO _ (Jp hL);have e2:n=(x.id:Int):=e;have h1:=(h.chs x hx).1;rw[<- e2,hL]at h1
  have:=Ln h1
  subst this;have ho:P.opn n=true:=by
   unfold Ps.opn;rw[WC];exact⟨x,hx,by simp[e2]⟩
  refine⟨some ⟨ca x.id,0,none⟩,hl,by rw[ho];rfl,fun y hy ey=>?_⟩;have h2:=(h.chs y hy).1;rw[ey,hL]at h2
  have:=Ln h2
  simp[pV]at this;rw[this]
def BQ(P:Ps)(n:Int):Option On:=P.ons.find? fun o=>(o.b:Int)==n
theorem CB{P:Ps}{n:Int}{o:On}(h:BQ P n=some o):o∈P.ons/\n=(o.b:Int):=by
 unfold BQ at h;refine⟨Lt2 h,?_⟩
 have:=Lq5 h
 simp at this;exact this.symm
theorem Gj{P:Ps}{n:Int}(h:BQ P n=none):∀ o∈P.ons,(o.b:Int)≠n:=by
 unfold BQ at h;intro o ho
 have:=Lv4.1 h o ho
 simpa using this
theorem EO.lookM(h:EO w0 R rl w sp c d mo mm ca oa Lo Lm P)(n:Int):Ru (Instr.lookup 162 (.map (some mm)) (.int .i64 n) false) w (.pointer ((BQ P n).map fun o=>⟨oa o.b,0,none⟩)) w:=by
 have hl:=FR (P:=Tryz.prog) gR h.mapM (k:=n);cases ho:BQ P n with
 | none =>
  have hL:Ay Lm n=none:=by
   cases hL:Ay Lm n with
   | none=>rfl
   | some v =>
    obtain⟨o,ho',e⟩:=h.keysM _ (Jp hL);exact absurd (show(o.b:Int)=n from e.symm) (Gj ho o ho')
  rw[hL]at hl;exact hl
 | some o =>
  obtain⟨h1,rfl⟩:=CB ho;rw[(h.ons o h1).1]at hl;exact hl
theorem H5.ld{q j:Nat}{x:Ch}(h:H5 w rl q x){T:TypeId}{v:Value}(hT:DQ Tryz.prog T=true)
  (hj:∀ gd cd aa cc,([.int .i64 x.id,.int .i64 x.b,.int .i64 x.frm,.slice (some ⟨gd,0,none⟩) x.data.length cd,.slice aa x.after.length cc,.bool x.out]:List Value)[j]?=some v):Ru (Instr.loadAt T (.pointer (some (Addr.add ⟨q,0,none⟩ j)))) w v w:=by
 obtain⟨gd,cd,aa,cc,h1,_⟩:=h
 have:=h1.at.load (P:=Tryz.prog) hT (hj gd cd aa cc)
 rw[Pj]at this;rw[Ad,Pj];exact this
theorem H5.ldD{q:Nat}{x:Ch}(h:H5 w rl q x):∃ gd cd,Ru (Instr.loadAt 88 (.pointer (some (Addr.add ⟨q,0,none⟩ 3)))) w (.slice (some ⟨gd,0,none⟩) x.data.length cd) w/\At w gd 0 (Au x.data):=by
 obtain⟨gd,cd,aa,cc,h1,h2,_⟩:=h;exact⟨gd,cd,by rw[Ad];exact h1.at.load (by kernel_rfl) rfl,h2⟩
theorem H5.ldA{q:Nat}{x:Ch}(h:H5 w rl q x):∃ aa cc,Ru (Instr.loadAt 159 (.pointer (some (Addr.add ⟨q,0,none⟩ 4)))) w (.slice aa x.after.length cc) w/\Bl w aa (iL x.after):=by
 obtain⟨gd,cd,aa,cc,h1,_,_,h4,_⟩:=h;exact⟨aa,cc,by rw[Ad];exact h1.at.load (by kernel_rfl) rfl,h4⟩
theorem kG(h:EO w0 R rl w sp c d mo mm ca oa Lo Lm P){n:Int}(hk:K (.bool (decide (1<=n/\n<=P.last))) w):A8 Tryz.prog D8 #[.pointer (some ⟨sp,0,none⟩),.int .i64 n] w K:=by
 apply OL;unfold It;refine Ac.cut (fun x w'=>x=[.bool (decide (1<=n/\n<=P.last))]/\w'=w) (Aa (fun hb=>?_) (fun hb=>?_)) ?_
 ·have:=Lc hb
  refine⟨_,rfl,_,h.llast,?_,rfl⟩
  congr 2;rw[Lu];simp only[Lw];omega
 ·have:=Lb hb
  refine⟨?_,rfl⟩
  congr 2;rw[Lu];simp;omega
 ·rintro x w' ⟨rfl,rfl⟩;exact⟨_,rfl,hk⟩
set_option maxRecDepth 100000 in
theorem zX{q1 q2:Nat}{x y:Ch}(h1:H5 w rl q1 x)(h2:H5 w rl q2 y)(b1:x.frm+x.data.length<=256)(b2:y.frm+y.data.length<=256)(hk:∀ w',Ab No w w'->K (.bool (HN x y)) w'):A8 Tryz.prog EF #[.pointer (some ⟨q1,0,none⟩),.pointer (some ⟨q2,0,none⟩)] w K:=by
 apply MU;unfold HA;have md:Ab No w (Go.Den.Ah w):=(Ab.refl No w).drew;have h1d:H5 (Go.Den.Ah w) rl q1 x:=h1.keep md id fun _ _=>id;have h2d:H5 (Go.Den.Ah w) rl q2 y:=h2.keep md id fun _ _=>id;obtain⟨g1,c1,d1,_⟩:=h1d.ldD;obtain⟨g2,c2,d2,_⟩:=h2d.ldD;refine Ac.cut (fun z w'=>z=[.bool (HN x y)]/\w'=Go.Den.Ah w) ⟨_,rfl,_,h1d.ld (j:=2) (by kernel_rfl) (fun _ _ _ _=>rfl),_,rfl,_,h2d.ld (j:=2) (by kernel_rfl) (fun _ _ _ _=>rfl),_,rfl,_,_,_,d2,?_⟩ ?_
 ·rw[Ag (x:=(y.frm:Int)+(y.data.length:Int)) (by omega) (by omega)];refine Aa (fun hb=>?_) (fun hb=>?_)
  ·have hb:=Lc hb;refine⟨_,rfl,_,h2d.ld (j:=2) (by kernel_rfl) (fun _ _ _ _=>rfl),_,rfl,_,h1d.ld (j:=2) (by kernel_rfl) (fun _ _ _ _=>rfl),_,rfl,_,_,_,d1,?_,rfl⟩;rw[Ag (x:=(x.frm:Int)+(x.data.length:Int)) (by omega) (by omega)];unfold HN;have e1:decide (x.frm<y.frm+y.data.length)=true:=Le (by omega);rw[e1,Ws]
   congr 2;rw[Lu];simp only[Lw];omega
  ·have hb:=Lb hb;refine⟨?_,rfl⟩;unfold HN;have e1:decide (x.frm<y.frm+y.data.length)=false:=Lf (by omega);rw[e1,Ln4]
 ·rintro z w' ⟨rfl,rfl⟩;exact⟨_,rfl,hk _ md⟩
def gU(l:List Int):List (Int×Value):=l.map fun k=>(k,.bool true)
theorem kS:∀(l:List Int)(k:Int),Ay (gU l) k=if l.contains k then some (.bool true)else none
 | [],k=>rfl
 | x::r,k=>by
  have ih:=kS r k;unfold gU at ih |-;rw[Wu];simp only[Ay];by_cases h:x=k
  ·subst h;simp
  ·have h':¬ k=x:=fun e=>h e.symm;rw[if_neg h,ih];simp[h']
set_option maxRecDepth 100000 in
theorem YN{m:Nat}{l:List Int}(h:Bj w m (gU l))(k:Int):Ru (Instr.lookup 167 (.map (some m)) (.int .i64 k) false) w (.bool (l.contains k)) w:=by
 have:=FR (P:=Tryz.prog) AcB h (k:=k)
 rw[kS]at this;by_cases hc:l.contains k=true
 ·rw[if_pos hc]at this;rw[hc];exact this
 ·rw[if_neg hc]at this;have:l.contains k=false:=by simpa using hc
  rw[this];assumption
theorem iW{S:Nat->Prop}{q2 q5 m9:Nat}{ok xs:List Int}(h:EO w0 R rl w sp c d mo mm ca oa Lo Lm P)(hS:∀ x,¬ S x)(h2:At w q2 0 [.pointer (some ⟨sp,0,none⟩)])(h5:At w q5 0 [.map (some m9)])(h9:Bj w m9 (gU ok)) :
  Pk (.func (.func D9) #[] #[.pointer (some ⟨q2,0,none⟩),.pointer (some ⟨q5,0,none⟩)]) w S (fun id=>P.opn id&&!(ok.contains id)) xs:=by
 intro w' k x _ K hK;have k':Ab No w w':=k.mono fun z _ e=>absurd e (hS z);have h':=h.nos k';refine⟨_,_,_,rfl,?_⟩;show A8 Tryz.prog D9 #[.int .i64 x,.pointer (some ⟨q2,0,none⟩),.pointer (some ⟨q5,0,none⟩)] w' K;apply OM;obtain⟨p,hp,hpn,_⟩:=h'.lookO x;refine Ac.cut (fun z w2=>z=[.bool (P.opn x&&!(ok.contains x))]/\w2=w') ⟨_,(h2.keep k' id).load (i:=0) (by kernel_rfl) rfl,_,rfl,some mo,h'.lo',p,hp,Aa (fun hb=>?_) (fun hb=>?_)⟩ ?_
 ·have ho:P.opn x=true:=by
   have:p.isNone=false:=by simpa using hb
   rw[hpn]at this;simpa using this
  refine⟨some m9,(h5.keep k' id).load (i:=0) (by kernel_rfl) rfl,_,YN (h9.keep k' id) x,?_,rfl⟩;rw[ho,Ws]
 ·have ho:P.opn x=false:=by
   have:p.isNone=true:=by simpa using hb
   rw[hpn]at this;simpa using this
  rw[ho,Ln4];exact⟨rfl,rfl⟩
 ·rintro z w2 ⟨rfl,rfl⟩;exact⟨_,rfl,hK _ (Ab.refl _ _)⟩
theorem iX{S:Nat->Prop}{q7 q5 m9:Nat}{y:Ch}{ok:List Int}{l:List Ch}(h:EO w0 R rl w sp c d mo mm ca oa Lo Lm P)(hS:∀ x,¬ S x)(hl:∀ x∈l,x∈P.all)(hy:y∈P.all)(h7:At w q7 0 [.pointer (some ⟨ca y.id,0,none⟩)])(h5:At w q5 0 [.map (some m9)])(h9:Bj w m9 (gU ok))
  (p:Nat->Bool) (hp:∀ x∈l,p (ca x.id)=(HN x y&&!(ok.contains (x.id:Int)))) :
  Kj (.func (.func DA) #[] #[.pointer (some ⟨q7,0,none⟩),.pointer (some ⟨q5,0,none⟩)]) w S p (l.map fun x=>ca x.id):=by
 intro w' k qx hqx K hK;obtain⟨x,hx,rfl⟩:=Li.1 hqx;have k':Ab No w w':=k.mono fun z _ e=>absurd e (hS z);have md:Ab No w' (Go.Den.Ah w'):=(Ab.refl No w').drew;have k2:=k'.no md;have h':=h.nos k2;have hxa:=hl x hx;refine⟨_,_,_,rfl,?_⟩;show A8 Tryz.prog DA #[.pointer (some ⟨ca x.id,0,none⟩),.pointer (some ⟨q7,0,none⟩),.pointer (some ⟨q5,0,none⟩)] w' K;apply ON
 refine Ac.cut (fun z w2=>z=[.bool (HN x y&&!(ok.contains (x.id:Int)))]/\Ab No w' w2) ⟨_,(h7.keep k2 id).load (i:=0) (by kernel_rfl) rfl,zX (h'.chs x hxa).2.2 (h'.chs y hy).2.2 (h.wf.dat x hxa).2 (h.wf.dat y hy).2 fun w1 m1=>⟨_,rfl,Aa (fun hb=>?_) (fun hb=>?_)⟩⟩ ?_
 ·have h1:=h'.nos m1;have k3:=k2.no m1;refine⟨some m9,(h5.keep k3 id).load (i:=0) (by kernel_rfl) rfl,_,rfl,_,(h1.chs x hxa).2.2.ld (j:=0) (by kernel_rfl) (fun _ _ _ _=>rfl),_,YN (h9.keep k3 id) _,?_,md.no m1⟩;rw[hb,Ws]
 ·rw[hb,Ln4];exact⟨rfl,md.no m1⟩
 ·rintro z w2 ⟨rfl,m2⟩;refine⟨_,rfl,?_⟩
  have:=hK w2 m2
  rwa [hp x hx]at this
end
end Go.Z
open Go Go.Den Go.Proofs
namespace Go.Z
theorem Aa4{P:Ps}{o:On}(ho:o∈P.ons):o.l.Sublist P.all:=by
 unfold Ps.all;rw[List.flatMap_def];exact List.sublist_flatten_of_mem (Li.2 ⟨o,ho,rfl⟩)
theorem gN{P:Ps}(h:Hh P){o:On}(ho:o∈P.ons):(o.l.map (·.id)).Nodup:=((Aa4 ho).map _).nodup h.ids
theorem GH{P:Ps}{o:On}(ho:o∈P.ons){x:Ch}(hx:x∈o.l):x∈P.all:=GF.2 ⟨o,ho,hx⟩
theorem N6{op:Int->Bool}{l:List Ch}:∀(n:Nat)(k:Int),k∈C6 op l n->∃ x∈l.take n,k=(x.id:Int)
 | 0,k,h=>by simp[C6]at h
 | n+1,k,h=>by
  unfold C6 at h;cases hx:l[n]? with
  | none =>
   rw[hx]at h;obtain⟨x,h1,h2⟩:=N6 n k h;exact⟨x,List.take_subset_take_left l (by omega) h1,h2⟩
  | some c =>
   rw[hx]at h;obtain⟨hn,he⟩:=Lh.1 hx;have ht:l.take (n+1)=l.take n++[c]:=by rw[Ll hn,he]
   rw[ht];have h:k∈(if KQ op (l.take n) (C6 op l n) c=true then C6 op l n else C6 op l n++[(c.id:Int)]):=h
   split at h
   ·obtain⟨x,h1,h2⟩:=N6 n k h;exact⟨x,Lq.2 (.inl h1),h2⟩
   ·rcases Lq.1 h with h|h
    ·obtain⟨x,h1,h2⟩:=N6 n k h;exact⟨x,Lq.2 (.inl h1),h2⟩
    ·simp at h;exact⟨c,by simp,h⟩
theorem uG{l:List Int}{k:Int}(h:k ∉ l):Km k (.bool true) (gU l)=gU (l++[k]):=by
 rw[uU]
 ·simp[gU]
 ·intro p hp;unfold gU at hp;obtain⟨x,hx,rfl⟩:=Li.1 hp;intro e;exact h (by rw[<- e];exact hx)
def pOf(ca:Nat->Nat)(f:Ch->Bool)(l:List Ch)(q:Nat):Bool:=match l.find? fun x=>ca x.id==q with | some x=>f x | none=>false
section
variable{w0 w w':World}{R:Nat->Prop}{rl:Nat->Nat}{sp c d mo mm:Nat}{ca oa:Nat->Nat}{Lo Lm:List (Int×Value)}{P:Ps}{K:Value->World->Prop}
theorem EO.inj(h:EO w0 R rl w sp c d mo mm ca oa Lo Lm P){x y:Ch}(hx:x∈P.all)(hy:y∈P.all)(e:ca x.id=ca y.id):x=y:=by
 have h1:=(h.chs x hx).2.1;have h2:=(h.chs y hy).2.1;rw[e,h2]at h1;exact EA h.wf.ids hx hy (by omega)
theorem EO.pOf(h:EO w0 R rl w sp c d mo mm ca oa Lo Lm P){f:Ch->Bool}{l:List Ch}(hl:∀ x∈l,x∈P.all){x:Ch}(hx:x∈l):pOf ca f l (ca x.id)=f x:=by
 unfold Go.Z.pOf;cases hf:l.find? fun y=>ca y.id==ca x.id with
 | none =>
  have:=Lv4.1 hf x hx
  simp at this
 | some y =>
  have hy:=Lt2 hf;have he:=Lq5 hf;simp at he;rw[h.inj (hl y hy) (hl x hx) he]
theorem yJ(h:EO w0 R rl w sp c d mo mm ca oa Lo Lm P){f:Ch->Bool}{l:List Ch}(hl:∀ x∈l,x∈P.all):(l.map fun x=>ca x.id).any (Go.Z.pOf ca f l)=l.any f:=by
 rw[Ln6];rw[Lu,WC,WC];constructor
 ·rintro⟨x,hx,e⟩;simp only[Function.comp]at e;rw[h.pOf hl hx]at e;exact⟨x,hx,e⟩
 ·rintro⟨x,hx,e⟩;refine⟨x,hx,?_⟩;simp only[Function.comp];rw[h.pOf hl hx];exact e
theorem TX.ldL{o:On}{q:Nat}(h:TX w0 w rl ca q o):∃ la lc,Ru (Instr.loadAt 169 (.pointer (some (Addr.add ⟨q,0,none⟩ 1)))) w (.slice la o.l.length lc) w/\Bl w la (pL (o.l.map fun x=>ca x.id))/\o.l.length<=lc/\∀ q,la=some q->rl q.block=9+3*o.b:=by
 obtain⟨g,cc,la,lc,h1,h2,h3,h4,h5⟩:=h;exact⟨la,lc,by rw[Ad];exact h1.at.load (by kernel_rfl) rfl,h4.rowU.row,h4.cap.1,h5⟩
theorem TX.ldB{o:On}{q:Nat}(h:TX w0 w rl ca q o):∃ g cc,Ru (Instr.loadAt 88 (.pointer (some (Addr.add ⟨q,0,none⟩ 0)))) w (.slice (some ⟨g,0,none⟩) 256 cc) w/\At w g 0 (Au o.base):=by
 obtain⟨g,cc,la,lc,h1,h2,h3,h4,h5⟩:=h;exact⟨g,cc,by rw[Ad];exact h1.at.load (by kernel_rfl) rfl,h2⟩
theorem WW(w:World)(p:Option Addr):(Instr.box 89 (.pointer p)).run Tryz.prog w=.ok (.pointer (some ⟨w.heap.size,0,none⟩)) (w.alloc (.cells ⟨[.pointer p]⟩ 89)):=rfl
theorem WS(w:World):(Instr.alloc 167 true (.tuple #[])).run Tryz.prog w=.ok (.pointer (some ⟨w.heap.size,0,none⟩)) (w.alloc (.cells ⟨[.map none]⟩ 167)):=by kernel_rfl
theorem mT(w:World):(Instr.alloc 172 true (.tuple #[])).run Tryz.prog w=.ok (.pointer (some ⟨w.heap.size,0,none⟩)) (w.alloc (.cells ⟨[.pointer none]⟩ 172)):=by kernel_rfl
theorem ST{T:TypeId}{z v:Value}{t:TypeId}(hT:DQ Tryz.prog T=true)(hv:v.oneCell'=true):Eh (Instr.storeAt T (.pointer (some ⟨w.heap.size,0,none⟩)) v) (w.alloc (.cells ⟨[z]⟩ t)) (w.alloc (.cells ⟨[v]⟩ t)):=by
 have:=Mn (P:=Tryz.prog) (w:=w.alloc (.cells ⟨[z]⟩ t)) (T:=T) (b:=w.heap.size) (o:=0) (l:=[z]) (t:=t) (fz:=(0,0)) (v:=v) hT (BC w _) (by simp) (by simp) hv
 rw[lF]at this;exact this
set_option maxRecDepth 100000 in
theorem kU(h:EO w0 R rl w sp c d mo mm ca oa Lo Lm P){o:On}(ho:o∈P.ons)(hk:∀ w' m,Ab No w w'->w.heap.size<=m->Bj w' m (gU (Ia P.opn o.l))->K (.map (some m)) w') :
  A8 Tryz.prog E8 #[.pointer (some ⟨sp,0,none⟩),.pointer (some ⟨oa o.b,0,none⟩)] w K:=by
 apply Q3;unfold JG;have m1:Ab No w (w.alloc (.cells ⟨[.pointer (some ⟨sp,0,none⟩)]⟩ 89)):=(Ab.refl No w).alloc _;have a2:At (w.alloc (.cells ⟨[.pointer (some ⟨sp,0,none⟩)]⟩ 89)) w.heap.size 0 [.pointer (some ⟨sp,0,none⟩)]:=A1.new.at;have s1:(w.alloc (.cells ⟨[.pointer (some ⟨sp,0,none⟩)]⟩ 89)).heap.size=w.heap.size+1:=by simp
 refine⟨_,_,WW _ _,?_⟩;generalize w.alloc (.cells ⟨[.pointer (some ⟨sp,0,none⟩)]⟩ 89)=w1 at *;have m2:Ab No w1 (w1.alloc (.map #[] 0)):=(Ab.refl No w1).alloc _;have mp2:Bj (w1.alloc (.map #[] 0)) w1.heap.size []:=Bj.new;have s2:(w1.alloc (.map #[] 0)).heap.size=w1.heap.size+1:=by simp
 refine⟨_,_,Gi,?_⟩;generalize w1.alloc (.map #[] 0)=w2 at *;have m3:Ab No w2 (w2.alloc (.cells ⟨[.map (some w1.heap.size)]⟩ 167)):=(Ab.refl No w2).alloc _;have a5:At (w2.alloc (.cells ⟨[.map (some w1.heap.size)]⟩ 167)) w2.heap.size 0 [.map (some w1.heap.size)]:=A1.new.at;have s3:(w2.alloc (.cells ⟨[.map (some w1.heap.size)]⟩ 167)).heap.size=w2.heap.size+1:=by simp
 refine⟨_,_,WS _,_,ST (by kernel_rfl) rfl,_,rfl,?_⟩;generalize w2.alloc (.cells ⟨[.map (some w1.heap.size)]⟩ 167)=w4 at *;have M4:=(m1.no m2).no m3;have h4:=h.nos M4;obtain⟨la,lc,l1,l2,l3,l4⟩:=(h4.ons o ho).2.2.ldL;have hll:=h.wf.llen o ho;have hlast:=h.wf.last;have hoa:=fun x hx=>GH ho (x:=x) hx;refine⟨la,_,lc,l1,⟨fun x w5=>∃(i:Nat)(y:Value),i<=o.l.length/\x=[y,.int .i64 i]/\Bj w5 w1.heap.size (gU (C6 P.opn o.l i))/\Ab (fun z=>z=w1.heap.size) w4 w5,fun x _=>(o.l.length-nI x 1).toNat,⟨0,_,by omega,rfl,(mp2.keep m3 id),Ab.refl _ _⟩,?_⟩⟩
 rintro x w5 ⟨i,y,hi,rfl,mp5,M5⟩;have M5':Ab No w w5:=M4.anys.trans M5 fun z hz e=>by omega
 have h5:=h.nos M5';have a25:At w5 w.heap.size 0 [.pointer (some ⟨sp,0,none⟩)]:=((a2.keep m2 id).keep m3 id).keep M5 (by omega);have a55:At w5 w2.heap.size 0 [.map (some w1.heap.size)]:=a5.keep M5 (by omega);refine⟨_,rfl,Aa (fun hb=>?_) (fun hb=>?_)⟩
 ·have hi:i<o.l.length:=by have:=Lc hb;omega
  have hxm:=Tx hi;have hxa:=hoa _ hxm;have hlr:Bl w5 la (pL (o.l.map fun x=>ca x.id)):=l2.keep M5 fun q hq e=>by
   have h9:=l4 q hq;have h0:=h.out_of (x:=w1.heap.size) (by omega);rw[e]at h9;omega
  have hilm:i<(o.l.map fun x=>ca x.id).length:=by simp;exact hi
  obtain⟨b3,o3,hla,hat3⟩:=Hu hlr hilm;subst hla;have hld:=hat3.load (P:=Tryz.prog) (T:=172) (by kernel_rfl) (SN hilm);rw[Le6]at hld;refine⟨_,Ar (k:=1) (by kernel_rfl) (by omega) (by omega),?_⟩;rw[Ad,show(i:Int).toNat*1=i by omega];refine⟨_,hld,_,_,mT _,_,ST (by kernel_rfl) rfl,?_⟩;have m7:Ab No w5 (w5.alloc (.cells ⟨[.pointer (some ⟨ca o.l[i].id,0,none⟩)]⟩ 172)):=(Ab.refl No w5).alloc _
  have a7:At (w5.alloc (.cells ⟨[.pointer (some ⟨ca o.l[i].id,0,none⟩)]⟩ 172)) w5.heap.size 0 [.pointer (some ⟨ca o.l[i].id,0,none⟩)]:=A1.new.at;have s7:(w5.alloc (.cells ⟨[.pointer (some ⟨ca o.l[i].id,0,none⟩)]⟩ 172)).heap.size=w5.heap.size+1:=by simp
  generalize w5.alloc (.cells ⟨[.pointer (some ⟨ca o.l[i].id,0,none⟩)]⟩ 172)=w7 at *;have h7:=h5.nos m7;obtain⟨aa,ac,d1,d2⟩:=(h7.chs _ hxa).2.2.ldA;have haf:=h.wf.aft _ hxa;refine⟨_,a7.load (i:=0) (by kernel_rfl) rfl,_,rfl,_,_,_,d1,?_⟩;refine Q9 (S:=No) rfl (by omega) d2 (iW (S:=No) h7 (fun _=>id) (a25.keep m7 id) (a55.keep m7 id) (mp5.keep m7 id)) fun w8 m8=>⟨_,rfl,?_⟩;have m58:=m7.no m8
  have h8:=h7.nos m8;refine Ac.cut (fun z w10=>z=[.bool (KQ P.opn (o.l.take i) (C6 P.opn o.l i) o.l[i])]/\Ab No w5 w10/\At w10 w5.heap.size 0 [.pointer (some ⟨ca o.l[i].id,0,none⟩)]) (Aa (fun hb=>?_) (fun hb=>?_)) ?_
  ·unfold KQ;rw[hb,Bool.true_or];exact⟨rfl,m58,a7.keep m8 id⟩
  ·obtain⟨la',lc',l1',l2',l3',_⟩:=(h8.ons o ho).2.2.ldL;refine⟨_,rfl,la',_,lc',l1',_,_,_,H4 (k:=1) (by kernel_rfl) (by omega) (by omega),?_⟩;rw[Lr];have hsub:∀ x∈o.l.take i,x∈P.all:=fun x hx=>hoa x (Ly3 hx);have hrow':Bl w8 (Cb la' lc' 0 1) (pL ((o.l.take i).map fun x=>ca x.id)):=by
    by_cases h0:i=0
    ·subst h0;exact .inl rfl
    ·obtain⟨b4,o4,e4,hat4⟩:=Hu (i:=0) l2' (by simp;omega);right;refine⟨b4,o4,?_,?_⟩
     ·rw[e4];unfold Cb;rw[if_neg (by omega)];simp[Ad]
     ·have:=hat4.sub (i:=0) (m:=i) (by simp;omega)
      rw[Uq,Lo6]at this;have e5:(pL (o.l.map fun x=>ca x.id)).take i=pL ((o.l.take i).map fun x=>ca x.id):=by simp[pL,Lf4]
      rw[e5]at this;exact this
   refine ZD (S:=No) (xs:=(o.l.take i).map fun x=>ca x.id) (by simp;omega) (by omega) hrow'
    (iX (S:=No) h8 (fun _=>id) hsub hxa (a7.keep m8 id) (a55.keep m58 id) (mp5.keep m58 id) (Go.Z.pOf ca (fun x=>HN x o.l[i]&&!((C6 P.opn o.l i).contains (x.id:Int))) (o.l.take i)) fun x hx=>h8.pOf hsub hx) fun w9 m9=>⟨_,rfl,?_,m58.no m9,(a7.keep m8 id).keep m9 id⟩
   rw[yJ h8 hsub];unfold KQ;rw[hb,jF]
  ·rintro z w10 ⟨rfl,m10,a10⟩;have hsucc:C6 P.opn o.l (i+1)=if KQ P.opn (o.l.take i) (C6 P.opn o.l i) o.l[i]=true then C6 P.opn o.l i else C6 P.opn o.l i++[(o.l[i].id:Int)]:=by
    conv=>lhs;unfold C6
    rw[Lk hi]
   have M10:Ab (fun z=>z=w1.heap.size) w4 w10:=M5.no m10;refine⟨_,rfl,Ac.cut (fun z w12=>Bj w12 w1.heap.size (gU (C6 P.opn o.l (i+1)))/\Ab (fun z=>z=w1.heap.size) w4 w12) (Aa (fun hb=>?_) (fun hb=>?_)) ?_⟩
   ·have hbf:KQ P.opn (o.l.take i) (C6 P.opn o.l i) o.l[i]=false:=by simpa using hb
    have md:Ab No w10 (Go.Den.Ah w10):=(Ab.refl No w10).drew;have h10:=(h5.nos m10).nos md;have a7d:At (Go.Den.Ah w10) w5.heap.size 0 [.pointer (some ⟨ca o.l[i].id,0,none⟩)]:=a10.keep md id;have hnew:(o.l[i].id:Int) ∉ C6 P.opn o.l i:=fun hm=>by
     obtain⟨x,hx,e⟩:=N6 i _ hm;obtain⟨j,hj,hje⟩:=Lq4 hx;have hji:j<i:=by simp at hj;omega
     rw[List.getElem_take]at hje;have hnd:=Lu2.1 (gN h.wf ho) j i (by simp;omega) (by simp;omega) hji;simp at hnd;rw[hje]at hnd;omega
    obtain⟨w11,u1,u2,u3,u4⟩:=Hw (P:=Tryz.prog) (T:=167) (k:=(o.l[i].id:Int)) (v:=.bool true) AcB ((mp5.keep m10 id).keep md id);rw[uG hnew]at u2;refine⟨some w1.heap.size,((a55.keep m10 id).keep md id).load (i:=0) (by kernel_rfl) rfl,_,a7d.load (i:=0) (by kernel_rfl) rfl,_,rfl,_,(h10.chs _ hxa).2.2.ld (j:=0) (by kernel_rfl) (fun _ _ _ _=>rfl),w11,u1,?_,(M10.no md).trans u3 fun _ _ e=>e⟩
    rw[hsucc,if_neg (by rw[hbf];simp)];exact u2
   ·have hbt:KQ P.opn (o.l.take i) (C6 P.opn o.l i) o.l[i]=true:=by simpa using hb
    rw[hsucc,if_pos hbt];exact⟨mp5.keep m10 id,M10⟩
   ·rintro z w12 ⟨mp12,M12⟩;rw[Ag (x:=(i:Int)+1) (by omega) (by omega)];exact⟨⟨i+1,_,by omega,rfl,mp12,M12⟩,by simp[nI,Ap];omega⟩
 ·have hil:i=o.l.length:=by have:=Lb hb;omega
  refine⟨some w1.heap.size,a55.load (i:=0) (by kernel_rfl) rfl,hk w5 _ M5' (by omega) ?_⟩;unfold Ia;rw[<- hil];exact mp5
end
end Go.Z
open Go Go.Den Go.Proofs
namespace Go.Z
theorem Qi(base:Bk)(l:List Ch)(c:Ch):AW base (l++[c])=B2 (AW base l) c.frm c.data:=by unfold AW;rw[Ld5];rfl
theorem LF{base:Bk}(hb:base.length=256):∀ l:List Ch,(∀ x∈l,x.frm+x.data.length<=256)->(AW base l).length=256:=by
 intro l
 induction l generalizing base with
 | nil=>intro _;exact hb
 | cons c l ih =>
  intro h;have h2:=h c (by simp);exact ih (base:=B2 base c.frm c.data) (by rw[Gk (by omega),hb]) fun x hx=>h x (by simp[hx])
section
variable{w0 w w':World}{R:Nat->Prop}{rl:Nat->Nat}{sp c d mo mm:Nat}{ca oa:Nat->Nat}{Lo Lm:List (Int×Value)}{P:Ps}{K:Value->World->Prop}
set_option maxRecDepth 100000 in
theorem wS(h:EO w0 R rl w sp c d mo mm ca oa Lo Lm P){o:On}(ho:o∈P.ons){f:Ch->Bool}{v:Value}(ht:Kj v w (fun z=>w.heap.size<=z) (pOf ca f o.l) (o.l.map fun x=>ca x.id))
  (hk:∀ w' g cc,Ab No w w'->w.heap.size<=g->A1 w' g 0 (Au (AW o.base (o.l.filter f)))->K (.slice (some ⟨g,0,none⟩) 256 cc) w'):A8 Tryz.prog F3 #[.pointer (some ⟨oa o.b,0,none⟩),v] w K:=by
 apply TP;unfold Mt;obtain⟨g0,cc0,lb,atb⟩:=(h.ons o ho).2.2.ldB;have hbl:=h.wf.base o ho;refine⟨_,rfl,_,_,_,lb,Q8 (.inr ⟨_,_,rfl,atb⟩) hbl (fun e=>by cases e) (by omega) fun w1 a1 c1 o1 m1=>⟨_,_,_,rfl,_,rfl,?_⟩⟩;obtain⟨g,rfl,hg,hat⟩:=o1.sm (by omega);have hcap:=o1.cap;have h1:=h.nos m1;obtain⟨la,lc,l1,l2,l3,l4⟩:=(h1.ons o ho).2.2.ldL;have hll:=h.wf.llen o ho;have hlast:=h.wf.last
 have hoa:=fun x hx=>GH ho (x:=x) hx;have hz1:=m1.size;refine⟨la,_,lc,l1,⟨fun x w2=>∃ i:Nat,i<=o.l.length/\x=[.int .i64 i]/\A1 w2 g 0 (Au (AW o.base ((o.l.take i).filter f)))/\Ab (fun z=>z=g) w1 w2,fun x _=>(o.l.length-nI x 0).toNat,⟨0,by omega,rfl,hat,Ab.refl _ _⟩,?_⟩⟩;rintro x w2 ⟨i,hi,rfl,hat2,M2⟩;have M2':Ab No w w2:=m1.anys.trans M2 fun z hz e=>by omega
 have h2:=h.nos M2';refine⟨_,rfl,Aa (fun hb=>?_) (fun hb=>?_)⟩
 ·have hi:i<o.l.length:=by have:=Lc hb;omega
  have hxm:=Tx hi;have hxa:=hoa _ hxm;have hdat:=(h.wf.dat _ hxa);have hlr:Bl w2 la (pL (o.l.map fun x=>ca x.id)):=l2.keep M2 fun q hq e=>by
   have h9:=l4 q hq;have h0:=h.out_of (x:=g) hg;rw[e]at h9;omega
  have hilm:i<(o.l.map fun x=>ca x.id).length:=by simp;exact hi
  obtain⟨b3,o3,hla,hat3⟩:=Hu hlr hilm;subst hla;have hld:=hat3.load (P:=Tryz.prog) (T:=172) (by kernel_rfl) (SN hilm);rw[Le6]at hld;refine⟨_,Ar (k:=1) (by kernel_rfl) (by omega) (by omega),?_⟩;rw[Ad,show(i:Int).toNat*1=i by omega];refine⟨_,hld,ht w2 (M2'.mono fun _ _ e=>e.elim) _ (Li.2 ⟨_,hxm,rfl⟩) _ fun w3 m3=>⟨_,rfl,?_⟩⟩;rw[h.pOf hoa hxm];have hfs:(o.l.take (i+1)).filter f=(o.l.take i).filter f++(if f o.l[i]=true then [o.l[i]]else []):=by
   rw[Ll hi,jG]
   congr 1
   by_cases hf:f o.l[i]=true
   ·rw[if_pos hf];simp[hf]
   ·rw[if_neg hf];simp[hf]
  refine Ac.cut (fun z w5=>A1 w5 g 0 (Au (AW o.base ((o.l.take (i+1)).filter f)))/\Ab (fun z=>z=g) w1 w5) (Aa (fun hf=>?_) (fun hf=>?_)) ?_
  ·have md:Ab No w2 (Go.Den.Ah w3):=m3.drew;have h3:=(h2.nos md).chs _ hxa;obtain⟨gd,cd,d1,d2⟩:=h3.2.2.ldD;have hwl:(AW o.base ((o.l.take i).filter f)).length=256:=LF hbl _ fun x hx=>(h.wf.dat x (hoa x (Ly3 (QM.1 hx).1))).2;refine⟨_,rfl,_,h3.2.2.ld (j:=2) (by kernel_rfl) (fun _ _ _ _=>rfl),_,_,_,F7 (k:=1) (by kernel_rfl) (by omega) (by omega),_,rfl,_,_,_,d1,?_⟩
   rw[Lr];have hcut:Cb (some ⟨g,0,none⟩) c1 o.l[i].frm 1=some ⟨g,0+o.l[i].frm,none⟩:=by
    unfold Cb;rw[if_neg (by omega)];simp[Ad]
   rw[hcut];obtain⟨w4,c1',c2',c3',c4'⟩:=H1 (P:=Tryz.prog) (T:=88) (T2:=88) (ty:=3) (k:=1) (i:=o.l[i].frm) (n:=256-o.l[i].frm) (c:=c1-o.l[i].frm) (n2:=o.l[i].data.length) (c2:=cd) (a2:=some ⟨gd,0,none⟩) (src:=Au o.l[i].data) (by kernel_rfl) (hat2.keep md id) (by rw[Ak,hwl];omega) (.inr ⟨_,_,rfl,d2⟩) (by simp) (BF _);refine⟨_,w4,c1',?_,(M2.no md).trans c3' fun _ _ e=>e⟩;have e2:AA (Au (AW o.base ((o.l.take i).filter f))) o.l[i].frm ((Au o.l[i].data).take (Nat.min o.l[i].data.length (256-o.l[i].frm)*1))=Au (B2 (AW o.base ((o.l.take i).filter f)) o.l[i].frm o.l[i].data):=by
    have:(Au o.l[i].data).take (Nat.min o.l[i].data.length (256-o.l[i].frm)*1)=Au o.l[i].data:=Lg (by rw[Ak,qI];exact mK (Le4 (by omega)).symm);rw[this,Mm];rfl
   rw[e2]at c2';rw[hfs,if_pos hf,Qi];exact c2'
  ·rw[hfs,if_neg (by rw[hf];simp),fH];exact⟨hat2.keep m3 id,M2.no m3⟩
  ·rintro z w5 ⟨hat5,M5⟩;rw[Ag (x:=(i:Int)+1) (by omega) (by omega)];exact⟨⟨i+1,by omega,rfl,hat5,M5⟩,by simp[nI,Ap];omega⟩
 ·have hil:i=o.l.length:=by have:=Lb hb;omega
  rw[hil,xG]at hat2;exact hk w2 g c1 M2' hg hat2
theorem dH{F:FuncId}{l:List Ch}(h:EO w0 R rl w sp c d mo mm ca oa Lo Lm P)(hl:∀ x∈l,x∈P.all)
  (hF:∀(p0:Option Addr)(w:World)(K:Value->World->Prop),(∃ q4:Addr,(.pointer p0:Value)=.pointer (some q4)/\∃ b6:Bool,Ru (Instr.loadAt 4 (.pointer (some (Addr.add q4 5)))) w (.bool b6) w/\K (.bool b6) w)->A8 Tryz.prog F #[.pointer p0] w K) :
  Kj (.func (.func F) #[] #[]) w (fun z=>w.heap.size<=z) (pOf ca (·.out) l) (l.map fun x=>ca x.id):=by
 intro w' k qx hqx K hK;obtain⟨x,hx,rfl⟩:=Li.1 hqx;refine⟨_,_,_,rfl,?_⟩;show A8 Tryz.prog F #[.pointer (some ⟨ca x.id,0,none⟩)] w' K;have h':=h.keepS k (fun z hz e=>by have:=(h.lo z hz).2;omega) fun z hz e=>by have:=h.mod.size;omega
 refine hF _ _ _ ⟨_,rfl,_,(h'.chs x (hl x hx)).2.2.ld (j:=5) (by kernel_rfl) (fun _ _ _ _=>rfl),?_⟩
 have:=hK w' (Ab.refl _ _)
 rwa [h.pOf hl hx]at this
theorem dJ{q m9:Nat}{ok:List Int}{l:List Ch}(h:EO w0 R rl w sp c d mo mm ca oa Lo Lm P)(hl:∀ x∈l,x∈P.all)(hq:At w q 0 [.map (some m9)])(h9:Bj w m9 (gU ok)) :
  Kj (.func (.func Dg) #[] #[.pointer (some ⟨q,0,none⟩)]) w (fun z=>w.heap.size<=z) (pOf ca (fun x=>ok.contains (x.id:Int)) l) (l.map fun x=>ca x.id):=by
 intro w' k qx hqx K hK;obtain⟨x,hx,rfl⟩:=Li.1 hqx;refine⟨_,_,_,rfl,?_⟩;show A8 Tryz.prog Dg #[.pointer (some ⟨ca x.id,0,none⟩),.pointer (some ⟨q,0,none⟩)] w' K;have hql:=hq.lt;have h9l:=h9.lt;have k2:=k.no ((Ab.refl No w').drew);have h':=h.keepS k2 (fun z hz e=>by have:=(h.lo z hz).2;omega) fun z hz e=>by have:=h.mod.size;omega
 apply MF;refine⟨some m9,(hq.keep k2 (by omega)).load (i:=0) (by kernel_rfl) rfl,_,rfl,_,(h'.chs x (hl x hx)).2.2.ld (j:=0) (by kernel_rfl) (fun _ _ _ _=>rfl),_,YN (h9.keep k2 (by omega)) _,?_⟩
 have:=hK _ (Ab.refl No w').drew
 rwa [h.pOf hl hx]at this
def Px(w0:World)(R:Nat->Prop)(w:World)(sp d:Nat)(P:Ps):Prop:=UP P/\∃ rl c mo mm ca oa Lo Lm,EO w0 R rl w sp c d mo mm ca oa Lo Lm P
theorem Px.nos(h:Px w0 R w sp d P)(k:Ab No w w'):Px w0 R w' sp d P:=by
 obtain⟨hw,rl,c,mo,mm,ca,oa,Lo,Lm,h⟩:=h;exact⟨hw,rl,c,mo,mm,ca,oa,Lo,Lm,h.nos k⟩
theorem Px.gro(h:Px w0 R w sp d P)(k:Ab No w w'):Px w0 (BJ R w w') w' sp d P:=by
 obtain⟨hw,rl,c,mo,mm,ca,oa,Lo,Lm,h⟩:=h;exact⟨hw,rl,c,mo,mm,ca,oa,Lo,Lm,h.gro k⟩
theorem Px.wf(h:Px w0 R w sp d P):UP P/\Hh P/\Pm P.C/\WF P.C.D/\Ab No w0 w/\(∀ x,R x->w0.heap.size<=x/\x<w.heap.size):=by
 obtain⟨hw,rl,c,mo,mm,ca,oa,Lo,Lm,h⟩:=h;exact⟨hw,h.wf,h.cx.wf.1,h.cx.wf.2.1,h.mod,h.lo⟩
def QV(P:Ps)(b:Nat):Bk:=match Eo P.C.l b with | some x=>x.data | none=>DC P.C.D b
theorem UV{C:Ca}{b:Nat}(h:Pm C)(hf:C.D.vs.length<=C.most)(hb:b<C.D.vs.length):∃ C',KP C b=some C':=by
 unfold KP;cases hx:Eo C.l b with
 | some x=>exact⟨_,rfl⟩
 | none =>
  have hlt:C.l.length<C.most:=by
   have hno:=Ho hx;have h1:(b::C.l.map (·.b)).Nodup:=by
    rw[mP];refine⟨fun hm=>?_,h.nodup⟩;obtain⟨x,hx',e⟩:=Li.1 hm;exact hno x hx' e
   have h2:=Lu3 h1 (l₂:=List.range C.D.vs.length) fun k hk=>by
    rw[Ty];rcases Lz.1 hk with rfl | hk
    ·exact hb
    ·obtain⟨x,hx',rfl⟩:=Li.1 hk;exact h.lt x hx'
   simp at h2;omega
  have:MA C=some C:=by unfold MA;rw[if_pos hlt]
  rw[this];exact⟨_,rfl⟩
theorem UP.ask{C':Ca}{b:Nat}{l0:List Bf}{y:Bf}(h:UP P)(hs:Hh P)(hc:Pm P.C)(A:qL P.C C' b l0 y):UP { P with C:=C' } where
 lne:=h.lne
 pin:=fun o ho=>by
  obtain⟨x,hx,h1,h2,h3⟩:=h.pin o ho;exact⟨x,A.keep x hx (by simp[Ix,h2]),h1,h2,h3⟩
 unp:=fun x hx hno=>by
  show x.pins=0/\x.data=DC C'.D x.b;rw[A.D];rcases A.from_ x hx with hx' | ⟨rfl,_⟩
  ·exact h.unp x hx' hno
  ·exact⟨rfl,rfl⟩
 run:=by show C'.D.left=-1;rw[A.D];exact h.run
 acc:=fun o ho=>by show DC C'.D o.b=_;rw[A.D];exact h.acc o ho
 may:=h.may
 cls:=h.cls
 afl:=h.afl
theorem aI{C':Ca}{b:Nat}{l0:List Bf}{y:Bf}(h:UP P)(hc:Pm P.C)(A:qL P.C C' b l0 y)(n:Nat):QV { P with C:=C' } n=QV P n:=by
 unfold QV;show(match Eo C'.l n with | some x=>x.data | none=>DC C'.D n)=_;rw[A.D];cases hf:Eo C'.l n with
 | some x =>
  obtain⟨hx,hxb⟩:=EI hf;rcases A.from_ x hx with hx'|⟨rfl,hno⟩
  ·have:=DH hc.nodup hx'
   rw[hxb]at this;rw[this]
  ·have hxb:b=n:=hxb;subst hxb;rw[hno]
 | none =>
  cases hf2:Eo P.C.l n with
  | none=>rfl
  | some x =>
   obtain⟨hx,hxb⟩:=EI hf2;have hno:=Ho hf;by_cases hi:Ix P.C.D x=true
   ·have hcl:Xb P.C.D x=true:=by unfold Ix at hi;simp only[Lp]at hi;exact hi.2
    unfold Xb at hcl
    have:=Lc hcl
    show DC P.C.D n=x.data;rw[this,hxb]
   ·exact absurd hxb (hno x (A.keep x hx (by simpa using hi)))
set_option maxRecDepth 100000 in
theorem lD{n:Int}(hP:Px w0 R w sp d P)(hk0:AD P.C.D n≠0->∀ w',Ab No w w'->K (.tuple #[.slice none 0 0,.int .i64 (AD P.C.D n)]) w')
  (hk:∀ b:Nat,n=b->b<P.C.D.vs.length->∀ w1 w' a cc C',Ab R w w1->Ab No w1 w'->Px w0 (BJ R w w1) w' sp d { P with C:=C' }->C'.D=P.C.D->C'.most=P.C.most->(∀ m,QV { P with C:=C' } m=QV P m)->Ow Tryz.prog w' w1.heap.size 88 1 a 256 cc (Au (QV P b))->K (.tuple #[.slice a 256 cc,.int .i64 0]) w') :
  A8 Tryz.prog B0 #[.pointer (some ⟨sp,0,none⟩),.int .i64 n] w K:=by
 obtain⟨hw,rl,c,mo,mm,ca,oa,Lo,Lm,h⟩:=hP;apply PK;unfold Jb;have hcw:=h.cx.wf;by_cases he:AD P.C.D n=0
 ·obtain⟨b,rfl,hb⟩:=KS he;obtain⟨C',ha⟩:=UV hcw.1 h.wf.full hb;obtain⟨l0,y,A⟩:=NQ hcw.1 hcw.2.1 hb ha;have hr0:Zc P.C b=(C',0,Fe C'.l):=by unfold Zc;rw[if_neg (by omega),Lr,ha]
  have hyl:y∈C'.l:=by rw[A.l];simp
  have hld:Fe C'.l=QV P b:=by
   have h1:Fe C'.l=y.data:=by unfold Fe;rw[A.l];simp
   have h2:=aI hw hcw.1 A b;unfold QV at h2;have h3:=DH A.wf.nodup hyl;rw[A.yb]at h3;have h4:(match Eo C'.l b with | some x=>x.data | none=>DC C'.D b)=QV P b:=h2;rw[h3]at h4;rw[h1];exact h4
  have hlen:(Fe C'.l).length=256:=by
   have h1:Fe C'.l=y.data:=by unfold Fe;rw[A.l];simp
   rw[h1];exact A.wf.data y hyl
  refine ff rfl ⟨_,rfl,_,h.lc,jS h.cx fun w1 w2 a2 c2 m1 m2 x2 o2=>?_⟩;simp only[hr0,hlen]at x2 o2 |-;obtain⟨rl',h',_⟩:=h.cache m1 m2 x2 (by rw[A.D]) A.most;refine⟨_,_,_,_,rfl,?_⟩;rw[hld]at o2;exact hk b rfl hb w1 w2 a2 c2 C' (m1.mono fun z _ e=>h.reg z (by have e1:rl z=1:=e;omega)) m2 ⟨hw.ask h.wf hcw.1 A,rl',c,mo,mm,ca,oa,Lo,Lm,h'⟩ A.D A.most (aI hw hcw.1 A) o2
 ·have hr0:Zc P.C n=(P.C,AD P.C.D n,[]):=by unfold Zc;rw[if_pos he]
  refine ff rfl ⟨_,rfl,_,h.lc,?_⟩;obtain⟨rl3,m3,sb3,mb3,sc3,lc3,la3,L3,mp3,h3⟩:=h.cx;apply IH;refine Y7 (xs:=[]) h3 rfl (by omega) (.inl rfl) ⟨_,rfl,?_⟩;have hm:Mc P.C.D n 0 []=AD P.C.D n:=by unfold Mc;rw[if_pos he]
  rw[hm];exact tt (by simpa using he) ⟨_,_,_,_,rfl,hk0 he w (Ab.refl _ _)⟩
end
end Go.Z
open Go Go.Den Go.Proofs
namespace Go.Z
theorem Oj{b ys:List UInt8}{i:Nat}(h:i+ys.length<=b.length)(k:Nat):(B2 b i ys)[k]?=if i<=k/\k<i+ys.length then ys[k-i]? else b[k]?:=by
 unfold B2;have hl:(b.take i).length=i:=by simp;omega
 by_cases h1:k<i
 ·rw[if_neg (by omega),WB,xW (by omega),List.getElem?_take_of_lt h1]
 ·rw[WB,Le2 (by omega),hl];by_cases h2:k<i+ys.length
  ·rw[if_pos (by omega),xW (by omega)]
  ·rw[if_neg (by omega),Le2 (by omega),Lv2]
   congr 1;omega
theorem gX{b ys zs:List UInt8}{i j:Nat}(h1:i+ys.length<=b.length)(h2:j+zs.length<=b.length)(h:¬ (i<j+zs.length/\j<i+ys.length)):B2 (B2 b i ys) j zs=B2 (B2 b j zs) i ys:=by
 apply mM;intro k;rw[Oj (by rw[Gk h1];exact h2),Oj h1,Oj (by rw[Gk h2];exact h1),Oj h2];by_cases e1:i<=k/\k<i+ys.length
 ·rw[if_pos e1,if_pos e1,if_neg (by omega)]
 ·rw[if_neg e1,if_neg e1]
theorem Wn{c:Ch}:∀{l:List Ch}{b:Bk},b.length=256->c.frm+c.data.length<=256->(∀ x∈l,x.frm+x.data.length<=256)->(∀ x∈l,HN c x=false)->AW (B2 b c.frm c.data) l=B2 (AW b l) c.frm c.data
 | [],_,_,_,_,_=>rfl
 | x::r,b,hb,hc,hl,hm=>by
  have hx:=hl x (by simp);have hmx:=hm x (by simp)
  have e:B2 (B2 b c.frm c.data) x.frm x.data=B2 (B2 b x.frm x.data) c.frm c.data:=gX (by omega) (by omega) (by
   intro⟨h1,h2⟩;unfold HN at hmx;rw[Le h1,Le h2]at hmx
   cases hmx)
  show AW (B2 (B2 b c.frm c.data) x.frm x.data) r=_;rw[e];exact Wn (by rw[Gk (by omega),hb]) hc (fun y hy=>hl y (by simp[hy])) fun y hy=>hm y (by simp[hy])
theorem TL:∀{l:List Ch}{b:Bk},b.length=256->(∀ x∈l,x.frm+x.data.length<=256)->xL l->AW (AW b (l.filter (·.out))) (l.filter fun x=>!x.out)=AW b l
 | [],_,_,_,_=>rfl
 | c::r,b,hb,hl,hc=>by
  have hcl:=hl c (by simp);have hr:=fun y hy=>hl y (dV c hy);unfold xL at hc;rw[List.pairwise_cons]at hc;have ih:=TL (l:=r) (b:=B2 b c.frm c.data) (by rw[Gk (by omega),hb]) hr hc.2;by_cases ho:c.out=true
  ·rw[Lj2 (by exact ho),Le3 (by simp[ho])];exact ih
  ·rw[Le3 (by exact ho),Lj2 (by simp[ho])];show AW (B2 (AW b (r.filter (·.out))) c.frm c.data) _=AW (B2 b c.frm c.data) r;rw[<- ih,Wn hb hcl (fun x hx=>hr x (QM.1 hx).1) fun x hx=>?_];obtain⟨h1,h2⟩:=QM.1 hx
   have:=hc.1 x h1 (by simpa using h2)
   by_cases hm:HN c x=true
   ·exact absurd (this hm) ho
   ·simpa using hm
structure ZJ(f:Ch->Ch):Prop where
 id:∀ x,(f x).id=x.id
 b:∀ x,(f x).b=x.b
 frm:∀ x,(f x).frm=x.frm
 data:∀ x,(f x).data=x.data
 after:∀ x,(f x).after=x.after
theorem Oy{f:Ch->Ch}(hf:ZJ f):∀(l:List Ch)(b:Bk),AW b (l.map f)=AW b l
 | [],_=>rfl
 | x::r,b=>by
  show AW (B2 b (f x).frm (f x).data) (r.map f)=AW (B2 b x.frm x.data) r;rw[hf.frm,hf.data];exact Oy hf r _
theorem XB{f:Ch->Ch}(hf:ZJ f)(x y:Ch):HN (f x) (f y)=HN x y:=by unfold HN;rw[hf.frm,hf.data,hf.frm,hf.data]
theorem rJ{f:Ch->Ch}(hf:ZJ f)(op:Int->Bool)(pre:List Ch)(ok:List Int)(c:Ch):KQ op (pre.map f) ok (f c)=KQ op pre ok c:=by
 unfold KQ;rw[hf.after,Ln6]
 congr 2
 funext x;simp only[Function.comp];rw[XB hf,hf.id]
theorem bW{f:Ch->Ch}(hf:ZJ f)(op:Int->Bool)(l:List Ch):∀ n,C6 op (l.map f) n=C6 op l n
 | 0=>rfl
 | n+1=>by
  have ih:=bW hf op l n;unfold C6;rw[jK];cases hx:l[n]? with
  | none=>exact ih
  | some c =>
   simp only[La4];rw[ih,<- Lf4,rJ hf,hf.id]
theorem tV{f:Ch->Ch}(hf:ZJ f)(op:Int->Bool)(l:List Ch):Ia op (l.map f)=Ia op l:=by unfold Ia;rw[bW hf,jL]
theorem fP{op op':Int->Bool}{pre:List Ch}{ok:List Int}{c:Ch}(h:∀ k∈c.after,op k=op' k):KQ op pre ok c=KQ op' pre ok c:=by
 unfold KQ
 congr 1
 rw[Lu,WC,WC];constructor
 ·rintro⟨k,hk,e⟩;exact⟨k,hk,by rw[<- h k hk];exact e⟩
 ·rintro⟨k,hk,e⟩;exact⟨k,hk,by rw[h k hk];exact e⟩
theorem VH{op op':Int->Bool}{l:List Ch}(h:∀ x∈l,∀ k∈x.after,op k=op' k):∀ n,C6 op l n=C6 op' l n
 | 0=>rfl
 | n+1=>by
  have ih:=VH h n;unfold C6;cases hx:l[n]? with
  | none=>exact ih
  | some c =>
   simp only;rw[ih,fP (h c (Ly hx))]
theorem VG{op op':Int->Bool}{l:List Ch}(h:∀ x∈l,∀ k∈x.after,op k=op' k):Ia op l=Ia op' l:=VH h _
theorem TE{op:Int->Bool}{l r:List Ch}:∀ n,n<=l.length->C6 op (l++r) n=C6 op l n
 | 0,_=>rfl
 | n+1,h=>by
  have ih:=TE (op:=op) (l:=l) (r:=r) n (by omega);unfold C6;rw[xW (by omega),Lv (by omega),ih]
theorem XA{op : Int → Bool}{l : List Ch}{k : Int} : ∀{n m : Nat}, n ≤ m → k ∈ C6 op l n → k ∈ C6 op l m := by
  intro n m h hk
  induction m with
  | zero => have : n = 0 := by omega
            subst this;exact hk
  | succ m ih =>
    by_cases e : n = m + 1
    · subst e;exact hk
    · have hm := ih (by omega)
      unfold C6;split
      · split
        · exact hm
        · exact Lq.2 (.inl hm)
      · exact hm
theorem oR{op:Int->Bool}{l:List Ch}(hn:(l.map (·.id)).Nodup):∀{n:Nat}{i:Nat}(hi:i<l.length),i<n->(l[i].id:Int)∈C6 op l n->KQ op (l.take i) (C6 op l i) l[i]=false:=by
 intro n
 induction n with
 | zero=>intro i hi hin;omega
 | succ n ih =>
  intro i hi hin hk;by_cases e:i=n
  ·subst e;unfold C6 at hk;rw[Lk hi]at hk;have hk:(l[i].id:Int)∈(if KQ op (l.take i) (C6 op l i) l[i]=true then C6 op l i else C6 op l i++[(l[i].id:Int)]):=hk
   split at hk
   ·exfalso;obtain⟨x,hx,ex⟩:=N6 i _ hk;obtain⟨j,hj,hje⟩:=Lq4 hx;have hji:j<i:=by simp at hj;omega
    rw[List.getElem_take]at hje;have hnd:=Lu2.1 hn j i (by simp;omega) (by simp;omega) hji;simp at hnd;rw[hje]at hnd;omega
   ·rename_i hb;simpa using hb
  ·have hk':(l[i].id:Int)∈C6 op l n:=by
    unfold C6 at hk
    split at hk
    ·rename_i c hc
     split at hk
     ·exact hk
     ·rcases Lq.1 hk with hk|hk
      ·exact hk
      ·exfalso;simp at hk;obtain⟨hn2,hce⟩:=Lh.1 hc;have hnd:=Lu2.1 hn i n (by simp;omega) (by simp;omega) (by omega);simp at hnd;rw[hce]at hnd;omega
    ·exact hk
   exact ih hi (by omega) hk'
theorem gS{op:Int->Bool}{l:List Ch}(hn:(l.map (·.id)).Nodup):l.Pairwise fun x y=>(y.id:Int)∈Ia op l->HN x y=true->(x.id:Int)∈Ia op l:=by
 rw[Lu2];intro i j hi hj hij hy hm;have hg:=oR hn hj hj hy;unfold KQ at hg;rw[Lz2]at hg;have hx:l[i]∈l.take j:=List.mem_take_iff_getElem.2 ⟨i,by omega,rfl⟩
 have:=Lg3.1 hg.2 _ hx
 rw[hm]at this;simp at this;exact XA (n:=j) (by omega) this
end Go.Z
open Go Go.Den Go.Proofs
namespace Go.Z
def AH(V:Ps)(b:Nat):Bk:=match BQ V b with | some o=>AW o.base o.l | none=>DC V.C.D b
def BE(V:Ps)(b:Nat):Ps:=match BQ V b with | some _=>V | none=>{ V with ons:=V.ons++[⟨b,AH V b,[]⟩] }
def HH(V:Ps)(x:Ch):Ps:={ V with last:=x.id,ons:=V.ons.map fun o=>if o.b=x.b then { o with l:=o.l++[x] }else o }
def KM(V:Ps)(x:Ch):Ps:=HH (BE V x.b) x
def GP(V:Ps)(b frm:Nat)(data:Bk)(after:List Int):Ch:=⟨V.last+1,b,frm,data,after.filter V.opn,false⟩
def yN(V:Ps)(after:List Int):Bool:=after.any fun k=>!decide (1<=k/\k<=(V.last:Int))
def Jv(V:Ps)(n frm:Int)(data:Bk)(after:List Int):Int :=
 if AD V.C.D n≠0 then 3 else if data.length=0\/frm<0\/256<frm\/256-frm<data.length then 4 else if yN V after=true then 1 else 0
def Er(V:Ps)(n frm:Int)(data:Bk)(after:List Int):Ps:=if Jv V n frm data after=0 then KM V (GP V n.toNat frm.toNat data after)else V
def SP(V:Ps)(n frm:Int)(data:Bk)(after:List Int):Int:=if Jv V n frm data after=0 then(V.last+1:Nat)else 0
def bU(V:Ps)(b:Nat):List Int:=match BQ V b with | some o=>Ia V.opn o.l | none=>[]
def EZ(V:Ps)(b:Nat):Bk:=match BQ V b with | some o=>AW o.base (o.l.filter fun x=>(Ia V.opn o.l).contains (x.id:Int)) | none=>DC V.C.D b
def By(V:Ps)(b:Nat)(x:Ch):Ch:=if x.b=b then { x with out:=x.out || (bU V b).contains (x.id:Int) }else x
def Rz(V:Ps)(f:Ch->Ch):List On:=V.ons.map fun o=>{ o with l:=o.l.map f }
def Kn(V:Ps)(n:Int):Int:=if AD V.C.D n≠0 then 3 else if (BQ V n).isNone=true then 20 else 0
def Jw(V:Ps)(n:Int):Ps:=if Kn V n=0 then { V with C:={ V.C with D:=B8 V.C.D n (EZ V n.toNat) },ons:=Rz V (By V n.toNat) }else V
def Cu(o:On):Option On:=if (o.l.filter fun x=>!x.out).isEmpty=true then none else some { o with base:=AW o.base (o.l.filter (·.out)),l:=o.l.filter fun x=>!x.out }
def aV(V:Ps):Ps:={ V with C:={ V.C with D:=Dj V.C.D },ons:=V.ons.filterMap Cu }
theorem Hs(V:Ps)(b:Nat):ZJ (By V b) where
 id:=fun x=>by unfold By;split<;>rfl
 b:=fun x=>by unfold By;split<;>rfl
 frm:=fun x=>by unfold By;split<;>rfl
 data:=fun x=>by unfold By;split<;>rfl
 after:=fun x=>by unfold By;split<;>rfl
theorem H2{P:Ps}(h:Hh P){o o':On}(ho:o∈P.ons)(ho':o'∈P.ons)(e:o.b=o'.b):o=o':=EA h.onsN ho ho' e
theorem RF{P:Ps}(h:Hh P){o:On}(ho:o∈P.ons):BQ P o.b=some o:=by
 cases hf:BQ P o.b with
 | none=>exact absurd rfl (Gj hf o ho)
 | some o' =>
  obtain⟨h1,h2⟩:=CB hf;rw[H2 h ho h1 (by omega)]
theorem NX{P:Ps}(h:UP P)(hs:Hh P)(hc:Pm P.C)(b:Nat):QV P b=AH P b:=by
 unfold QV AH;cases ho:BQ P b with
 | some o =>
  obtain⟨h1,h2⟩:=CB ho;obtain⟨x,hx,e1,e2,e3⟩:=h.pin o h1
  have:=DH hc.nodup hx
  rw[show x.b=b by omega]at this;rw[this];exact e3
 | none =>
  cases hf:Eo P.C.l b with
  | none=>rfl
  | some x =>
   obtain⟨hx,hb⟩:=EI hf
   have:=(h.unp x hx fun o ho' e=>Gj ho o ho' (by omega)).2
   rw[hb]at this;exact this
theorem wB{l:List On}(hn:(l.map (·.b)).Nodup){o:On}(ho:o∈l)(f:On->On):∃ s t,l=s++o::t/\(l.map fun p=>if p.b=o.b then f p else p)=s++f o::t/\∀ p∈s++t,p.b≠o.b:=by
 obtain⟨s,t,rfl⟩:=List.append_of_mem ho;have hno:∀ p∈s++t,p.b≠o.b:=by
  intro p hp e;rw[dT,Wu]at hn;have h1:=Li4.1 hn;have h2:=mP.1 h1.2.1;rcases Lq.1 hp with hp | hp
  ·exact h1.2.2 _ (Li.2 ⟨p,hp,rfl⟩) _ (by simp) e
  ·exact h2.1 (Li.2 ⟨p,hp,e⟩)
 have hid:∀ q:List On,(∀ p∈q,p.b≠o.b)->(q.map fun p=>if p.b=o.b then f p else p)=q:=by
  intro q hq
  conv=>rhs;rw[<- List.map_id q]
  apply xB;intro p hp;rw[if_neg (hq p hp)];rfl
 refine⟨s,t,rfl,?_,hno⟩;rw[dT,Wu,if_pos rfl,hid s fun p hp=>hno p (Lq.2 (.inl hp)),hid t fun p hp=>hno p (Lq.2 (.inr hp))]
theorem Jk{V:Ps}{b:Nat}:(BE V b).all=V.all:=by
 unfold BE;split
 ·rfl
 ·unfold Ps.all;simp
theorem cH{V:Ps}{b:Nat}:(BE V b).opn=V.opn:=by unfold Ps.opn;rw[Jk]
theorem Qb{V:Ps}{b:Nat}:(BE V b).C=V.C/\(BE V b).last=V.last:=by unfold BE;split<;>exact⟨rfl,rfl⟩
theorem YS{V:Ps}{b:Nat}:∃ o∈(BE V b).ons,o.b=b:=by
 unfold BE;split
 ·rename_i o ho;obtain⟨h1,h2⟩:=CB ho;exact⟨o,h1,by omega⟩
 ·exact⟨⟨b,AH V b,[]⟩,by simp,rfl⟩
theorem Hh.newO{V:Ps}(h:Hh V){b:Nat}(hb:b<V.C.D.vs.length)(hl:(AH V b).length=256):Hh (BE V b):=by
 unfold Go.Z.BE;cases ho:BQ V b with
 | some o=>exact h
 | none =>
  have hno:=Gj ho;have hall:Ps.all { V with ons:=V.ons++[⟨b,AH V b,[]⟩] }=V.all:=by unfold Ps.all;simp
  exact {
   full:=h.full
   onsN:=by
    rw[dT];refine Li4.2 ⟨h.onsN,by simp,?_⟩;intro a ha c hc;simp at hc;subst hc;obtain⟨o,ho,rfl⟩:=Li.1 ha
    have:=hno o ho;omega
   onlt:=fun o ho=>by
    rcases Lq.1 ho with ho|ho
    ·exact h.onlt o ho
    ·simp at ho;subst ho;exact hb
   base:=fun o ho=>by
    rcases Lq.1 ho with ho|ho
    ·exact h.base o ho
    ·simp at ho;subst ho;exact hl
   llen:=fun o ho=>by
    rcases Lq.1 ho with ho|ho
    ·exact h.llen o ho
    ·simp at ho;subst ho;simp
   ids:=by rw[hall];exact h.ids
   idr:=by rw[hall];exact h.idr
   chb:=fun o ho=>by
    rcases Lq.1 ho with ho|ho
    ·exact h.chb o ho
    ·simp at ho;subst ho;intro x hx;cases hx
   dat:=by rw[hall];exact h.dat
   aft:=by rw[hall];exact h.aft
   last:=h.last }
theorem Hh.bump{V:Ps}(h:Hh V)(hl:V.last+1<=1000000):Hh { V with last:=V.last+1 } where
 full:=h.full
 onsN:=h.onsN
 onlt:=h.onlt
 base:=h.base
 llen:=fun o ho=>by have:=h.llen o ho;show o.l.length<=V.last+1;omega
 ids:=h.ids
 idr:=fun x hx=>by have:=h.idr x hx;show 1<=x.id/\x.id<=V.last+1;omega
 chb:=h.chb
 dat:=h.dat
 aft:=h.aft
 last:=hl
structure Fit(V:Ps)(x:Ch):Prop where
 id:x.id=V.last+1
 lt:x.b<V.C.D.vs.length
 dat:1<=x.data.length/\x.frm+x.data.length<=256
 aft:x.after.length<=1000000
 afl:∀ k∈x.after,k<(x.id:Int)
 out:x.out=false
theorem QS{V:Ps}(h:Hh V){x:Ch}{o:On}(ho:o∈V.ons)(e:o.b=x.b):∃ s t,V.ons=s++o::t/\(HH V x).ons=s++{ o with l:=o.l++[x] }::t/\(∀ p∈s++t,p.b≠x.b)/\(HH V x).all.Perm (x::V.all):=by
 obtain⟨s,t,h1,h2,h3⟩:=wB h.onsN ho fun o=>{ o with l:=o.l++[x] };rw[e]at h3;have h2':(HH V x).ons=s++{ o with l:=o.l++[x] }::t:=by
  rw[<- h2];unfold HH;rw[<- e]
 refine⟨s,t,h1,h2',h3,?_⟩;unfold Ps.all;rw[h2',h1];simp only[List.flatMap_append,Lh4,WB]
 have:=(List.perm_middle (a:=x) (l₁:=s.flatMap (·.l)++o.l) (l₂:=t.flatMap (·.l)))
 simpa using this
theorem Hh.app{V:Ps}(h:Hh V){x:Ch}{o:On}(ho:o∈V.ons)(e:o.b=x.b)(hx:Fit V x)(hl:x.id<=1000000):Hh (HH V x):=by
 obtain⟨s,t,h1,h2,h3,hp⟩:=QS h ho e;have hid:=hx.id;have hmem:∀ y∈(HH V x).all,y=x\/y∈V.all:=fun y hy=>by simpa using hp.mem_iff.1 hy
 have hon:∀ p∈(HH V x).ons,p∈V.ons\/p={ o with l:=o.l++[x] }:=fun p hp=>by
  rw[h2]at hp;rw[h1];simp only[Lq,Lz]at hp |-;rcases hp with hp | hp | hp
  ·exact .inl (.inl hp)
  ·exact .inr hp
  ·exact .inl (.inr (.inr hp))
 exact {
  full:=h.full
  onsN:=by
   have:(HH V x).ons.map (·.b)=V.ons.map (·.b):=by rw[h2,h1];simp
   rw[this];exact h.onsN
  onlt:=fun p hp=>by
   rcases hon p hp with hp|rfl
   ·exact h.onlt p hp
   ·exact h.onlt o ho
  base:=fun p hp=>by
   rcases hon p hp with hp|rfl
   ·exact h.base p hp
   ·exact h.base o ho
  llen:=fun p hp=>by
   show p.l.length<=x.id;rcases hon p hp with hp | rfl
   ·have:=h.llen p hp;omega
   ·have:=h.llen o ho;simp;omega
  ids:=by
   rw[(hp.map (·.id)).nodup_iff,Wu,mP];refine⟨fun hm=>?_,h.ids⟩;obtain⟨y,hy,e⟩:=Li.1 hm
   have:=h.idr y hy
   omega
  idr:=fun y hy=>by
   show 1<=y.id/\y.id<=x.id;rcases hmem y hy with rfl | hy
   ·omega
   ·have:=h.idr y hy;omega
  chb:=fun p hp=>by
   rcases hon p hp with hp|rfl
   ·exact h.chb p hp
   ·intro y hy;rcases Lq.1 hy with hy | hy
    ·exact h.chb o ho y hy
    ·simp at hy;subst hy;exact e.symm
  dat:=fun y hy=>by
   rcases hmem y hy with rfl|hy
   ·exact hx.dat
   ·exact h.dat y hy
  aft:=fun y hy=>by
   rcases hmem y hy with rfl|hy
   ·exact hx.aft
   ·exact h.aft y hy
  last:=hl }
theorem AaJ{V:Ps}(h:Hh V){x:Ch}{o:On}(ho:o∈V.ons)(e:o.b=x.b)(k:Int):(HH V x).opn k=(decide ((x.id:Int)=k) || V.opn k):=by
 obtain⟨s,t,h1,h2,h3,hp⟩:=QS h ho e;unfold Ps.opn;rw[hp.any_eq,List.any_cons]
 congr 1
theorem UP.add{P:Ps}{C3:Ca}{x:Ch}(h:UP P)(hs:Hh P)(hx:Fit P x)(hbl:(AH P x.b).length=256)(hl:x.id<=1000000)(hD:C3.D=P.C.D)(ht:∀ y,y.b≠x.b->(y∈C3.l↔y∈P.C.l))(hn:(C3.l.map (·.b)).Nodup)
  (hy:∃ y∈C3.l,y.b=x.b/\y.pins=1/\y.data=B2 (AH P x.b) x.frm x.data):UP { KM P x with C:=C3 }:=by
 have hs1:=hs.newO hx.lt hbl;obtain⟨eC,eL⟩:=Qb (V:=P) (b:=x.b)
 -- the store behind BE,but for pins
 have g1:∀ o∈(BE P x.b).ons,(o∈P.ons)\/(o=⟨x.b,AH P x.b,[]⟩/\BQ P x.b=none):=by
  intro o ho;unfold BE at ho
  split at ho
  ·exact .inl ho
  ·rename_i hno;rcases Lq.1 ho with ho | ho
   ·exact .inl ho
   ·simp at ho;exact .inr ⟨ho,hno⟩
 have gs:∀ o∈P.ons,o∈(BE P x.b).ons:=by
  intro o ho;unfold BE;split
  ·exact ho
  ·exact Lq.2 (.inl ho)
 obtain⟨o,ho,e⟩:=YS (V:=P) (b:=x.b);have hx1:Fit (BE P x.b) x:=⟨by rw[eL];exact hx.id,by rw[eC];exact hx.lt,hx.dat,hx.aft,hx.afl,hx.out⟩;obtain⟨s,t,h1,h2,h3,hp⟩:=QS hs1 ho e;have hop:∀ k,(KM P x).opn k=(decide ((x.id:Int)=k) || P.opn k):=fun k=>by
  have:=AaJ hs1 ho e k
  rw[cH]at this;exact this
 have hoo:∀ k,k<(x.id:Int)->P.opn k=(KM P x).opn k:=fun k hk=>by
  rw[hop,Lf (by omega),jF]
 have hafl:∀ y∈P.all,∀ k∈y.after,k<(x.id:Int):=fun y hy k hk=>by
  have:=h.afl y hy k hk
  have:=hs.idr y hy
  have:=hx.id
  omega
 have hon:∀ p∈(KM P x).ons,(p∈(BE P x.b).ons/\p.b≠x.b)\/p={ o with l:=o.l++[x] }:=fun p hp=>by
  have hp:p∈(HH (BE P x.b) x).ons:=hp;rw[h2]at hp;rw[h1];simp only[Lq,Lz]at hp |-;rcases hp with hp | hp | hp
  ·exact .inl ⟨.inl hp,h3 p (by simp[hp])⟩
  ·exact .inr hp
  ·exact .inl ⟨.inr (.inr hp),h3 p (by simp[hp])⟩
 have hcov:∀ p∈(BE P x.b).ons,∃ p'∈(KM P x).ons,p'.b=p.b:=fun p hp=>by
  show ∃ p'∈(HH (BE P x.b) x).ons,p'.b=p.b;rw[h2];rw[h1]at hp;simp only[Lq,Lz]at hp;rcases hp with hp | rfl | hp
  ·exact⟨p,by simp[hp],rfl⟩
  ·exact⟨{ p with l:=p.l++[x] },by simp,rfl⟩
  ·exact⟨p,by simp[hp],rfl⟩
 have holdo:(BE P x.b).ons=P.ons\/o.l=[]:=by
  rcases g1 o ho with hm|⟨rfl,_⟩
  ·left;unfold BE;cases hno:BQ P x.b with
   | some _=>rfl
   | none=>exact absurd (by omega) (Gj hno o hm)
  ·exact .inr rfl
 have hcb:AW o.base o.l=AH P x.b:=by
  rcases g1 o ho with hm|⟨rfl,_⟩
  ·unfold AH
   have:=RF hs hm
   rw[e]at this;rw[this]
  ·rfl
 have hom:∀ y∈o.l,y∈P.all:=fun y hy=>by
  have:y∈(BE P x.b).all:=GF.2 ⟨o,ho,hy⟩
  rwa [Jk]at this
 exact {
  lne:=fun p hp=>by
   rcases hon p hp with ⟨hp,hb⟩|rfl
   ·rcases g1 p hp with hp|⟨rfl,_⟩
    ·exact h.lne p hp
    ·exact absurd rfl hb
   ·simp
  pin:=fun p hp=>by
   rcases hon p hp with ⟨hp,hb⟩|rfl
   ·rcases g1 p hp with hp|⟨rfl,_⟩
    ·obtain⟨y,hy1,hy2,hy3,hy4⟩:=h.pin p hp;exact⟨y,(ht y (by rw[hy2];exact hb)).2 hy1,hy2,hy3,hy4⟩
    ·exact absurd rfl hb
   ·obtain⟨y,hy1,hy2,hy3,hy4⟩:=hy;refine⟨y,hy1,by rw[hy2];exact e.symm,hy3,?_⟩;show y.data=AW o.base (o.l++[x]);rw[Qi,hcb];exact hy4
  unp:=fun y hy1 hno=>by
   show y.pins=0/\y.data=DC C3.D y.b;rw[hD];have hyb:y.b≠x.b:=fun e'=>by
    obtain⟨p',hp',e2⟩:=hcov o ho;exact hno p' hp' (by rw[e2,e,e'])
   refine h.unp y ((ht y hyb).1 hy1) fun p hp e'=>?_;obtain⟨p',hp',e2⟩:=hcov p (gs p hp);exact hno p' hp' (by rw[e2,e'])
  run:=by show C3.D.left=-1;rw[hD];exact h.run
  acc:=fun p hp=>by
   show DC C3.D p.b=_;rw[hD];rcases hon p hp with ⟨hp,hb⟩ | rfl
   ·rcases g1 p hp with hp|⟨rfl,_⟩
    ·exact h.acc p hp
    ·exact absurd rfl hb
   ·show DC P.C.D o.b=AW o.base ((o.l++[x]).filter (·.out));rw[jG,Le3 (by simp[hx.out]),List.filter_nil,fH];rcases g1 o ho with hm | ⟨rfl,hno⟩
    ·exact h.acc o hm
    ·show _=AH P x.b;unfold AH;rw[hno]
  may:=fun p hp y hy1 hyo=>by
   show(y.id:Int)∈Ia (KM P x).opn p.l;rcases hon p hp with ⟨hp,hb⟩ | rfl
   ·rcases g1 p hp with hp|⟨rfl,_⟩
    ·rw[<- VG (op:=P.opn) fun z hz k hk=>hoo k (hafl z (GF.2 ⟨p,hp,hz⟩) k hk)];exact h.may p hp y hy1 hyo
    ·exact absurd rfl hb
   ·have hyl:y∈o.l:=by
     rcases Lq.1 hy1 with hy1|hy1
     ·exact hy1
     ·simp at hy1;subst hy1;rw[hx.out]at hyo;cases hyo
    have hm:o∈P.ons:=by
     rcases g1 o ho with hm|⟨rfl,_⟩
     ·exact hm
     ·cases hyl
    have h5:=h.may o hm y hyl hyo;rw[VG (op:=P.opn) (op':=(KM P x).opn) fun z hz k hk=>hoo k (hafl z (hom z hz) k hk)]at h5;show(y.id:Int)∈C6 (KM P x).opn (o.l++[x]) (o.l++[x]).length;refine XA (n:=o.l.length) (by simp) ?_;rw[TE _ (Ld _)];exact h5
  cls:=fun p hp=>by
   rcases hon p hp with ⟨hp,hb⟩|rfl
   ·rcases g1 p hp with hp|⟨rfl,_⟩
    ·exact h.cls p hp
    ·exact absurd rfl hb
   ·show xL (o.l++[x]);unfold xL;rw[List.pairwise_append];refine⟨?_,by simp,fun a ha c hc hout=>?_⟩
    ·rcases g1 o ho with hm|⟨rfl,_⟩
     ·exact h.cls o hm
     ·exact List.Pairwise.nil
    ·simp at hc;subst hc;rw[hx.out]at hout;cases hout
  afl:=fun y hy=>by
   have hy:y∈(HH (BE P x.b) x).all:=hy
   have:=hp.mem_iff.1 hy
   rw[Jk]at this;rcases Lz.1 this with rfl | hy
   ·exact hx.afl
   ·exact h.afl y hy }
end Go.Z
open Go Go.Den Go.Proofs
namespace Go.Z
theorem wV{D:St}{b:Nat}{ys:Bk}(hb:b<D.vs.length)(hy:ys.length=256)(hl:D.left=-1):Um D b ys=0/\B8 D b ys=⟨D.vs.set b (D.vs[b]++[ys]),-1⟩:=by
 rcases Ew (D:=D) (b:Int)with ⟨_,ho⟩|⟨he,j,u,hj,hu,hver⟩
 ·omega
 ·have:j=b:=by omega
  subst this;have hv:D.vs[j]?=some D.vs[j]:=by simp[hb]
  have:u=D.vs[j]:=by rw[hu]at hv;exact Ln hv
  subst this;have hw:Um D j ys=0:=by unfold Um;rw[he,if_neg (by omega),if_neg (by omega)]
  refine⟨hw,?_⟩;unfold B8;rw[if_neg (by omega),hver,hl];rfl
theorem NK{D:St}{n:Nat}(h:n<D.vs.length):Iz D n=D.vs[n]:=by
 unfold Iz;rw[if_neg (by omega),Lr,Lk h];rfl
theorem I5{D:St}{b:Nat}{ys:Bk}(hb:b<D.vs.length)(hy:ys.length=256)(hl:D.left=-1)(n:Nat):DC (B8 D b ys) n=if n=b then ys else DC D n:=by
 obtain⟨_,e2⟩:=wV hb hy hl;rw[e2];by_cases hn:n<D.vs.length
 ·unfold DC;rw[NK (D:=⟨_,_⟩) (by simpa using hn)];by_cases h:n=b
  ·subst h;rw[if_pos rfl];simp only[List.getElem_set_self];unfold BU;rw[Lj4,List.getLast?_append];simp
  ·rw[if_neg h,NK hn];simp only;rw[List.getElem_set_ne (xI h)]
 ·have h:∀ E:St,E.vs.length=D.vs.length->DC E n=[]:=fun E hE=>by
   unfold DC Iz;rw[if_neg (by omega),Lr,xR (by omega)];rfl
  rw[if_neg (by omega),h _ (by simp),h _ rfl]
theorem LT{D:St}(hl:D.left=-1)(n:Nat):DC (Dj D) n=DC D n:=by
 unfold Dj;rw[if_neg (by omega)];unfold DC Iz;rw[if_neg (by omega),if_neg (by omega),Lr];simp only[jK];cases D.vs[n]?<;>rfl
theorem zF{D:St}(hl:D.left=-1):(Dj D).left=-1:=by unfold Dj;rw[if_neg (by omega),hl];rfl
theorem AdM(D:St):(Dj D).vs.length=D.vs.length:=by unfold Dj;split<;>simp
theorem HF{V:Ps}{C:Ca}{f:Ch->Ch}:Ps.all ⟨C,V.last,Rz V f⟩=V.all.map f:=by
 unfold Ps.all Rz;rw[List.flatMap_map,List.map_flatMap]
theorem cG{V:Ps}{C:Ca}{f:Ch->Ch}(hf:ZJ f):Ps.opn ⟨C,V.last,Rz V f⟩=V.opn:=by
 funext k;unfold Ps.opn;rw[HF,Ln6]
 congr 1
 funext x;simp only[Function.comp];rw[hf.id]
theorem Hh.mapX{V:Ps}{f:Ch->Ch}{C:Ca}(h:Hh V)(hf:ZJ f)(hD:C.D.vs.length=V.C.D.vs.length)(hm:C.most=V.C.most):Hh ⟨C,V.last,Go.Z.Rz V f⟩ where
 full:=by show C.D.vs.length<=C.most;rw[hD,hm];exact h.full
 onsN:=by
  have:(Go.Z.Rz V f).map (·.b)=V.ons.map (·.b):=by unfold Go.Z.Rz;rw[qJ];rfl
  show((Go.Z.Rz V f).map (·.b)).Nodup;rw[this];exact h.onsN
 onlt:=fun o ho=>by
  obtain⟨p,hp,rfl⟩:=Li.1 ho;show p.b<C.D.vs.length;rw[hD];exact h.onlt p hp
 base:=fun o ho=>by
  obtain⟨p,hp,rfl⟩:=Li.1 ho;exact h.base p hp
 llen:=fun o ho=>by
  obtain⟨p,hp,rfl⟩:=Li.1 ho;show(p.l.map f).length<=V.last;rw[jL];exact h.llen p hp
 ids:=by
  rw[HF,qJ];have:((·.id) ∘ f:Ch->Nat)=(·.id):=by funext x;exact hf.id x
  rw[this];exact h.ids
 idr:=fun x hx=>by
  rw[HF]at hx;obtain⟨y,hy,rfl⟩:=Li.1 hx;rw[hf.id];exact h.idr y hy
 chb:=fun o ho x hx=>by
  obtain⟨p,hp,rfl⟩:=Li.1 ho;obtain⟨y,hy,rfl⟩:=Li.1 hx;rw[hf.b];exact h.chb p hp y hy
 dat:=fun x hx=>by
  rw[HF]at hx;obtain⟨y,hy,rfl⟩:=Li.1 hx;rw[hf.data,hf.frm];exact h.dat y hy
 aft:=fun x hx=>by
  rw[HF]at hx;obtain⟨y,hy,rfl⟩:=Li.1 hx;rw[hf.after];exact h.aft y hy
 last:=h.last
theorem YL{P:Ps}(hs:Hh P)(hD:WF P.C.D){b:Nat}(hb:b<P.C.D.vs.length):(EZ P b).length=256:=by
 unfold EZ;cases ho:BQ P b with
 | none =>
  unfold DC;rw[NK hb];exact hD.lastLen (Lk hb)
 | some o =>
  obtain⟨h1,_⟩:=CB ho;exact LF (hs.base o h1) _ fun x hx=>(hs.dat x (GH h1 (QM.1 hx).1)).2
theorem rZ{P:Ps}(hs:Hh P)(hD:WF P.C.D){b:Nat}(hb:b<P.C.D.vs.length):(AH P b).length=256:=by
 unfold AH;cases ho:BQ P b with
 | none =>
  show(DC P.C.D b).length=256;unfold DC;rw[NK hb];exact hD.lastLen (Lk hb)
 | some o =>
  obtain⟨h1,_⟩:=CB ho;exact LF (hs.base o h1) _ fun x hx=>(hs.dat x (GH h1 hx)).2
theorem bT{V:Ps}{b:Nat}{l:List Ch}(h:∀ x∈l,x.b≠b):l.map (By V b)=l:=by
 conv=>rhs;rw[<- List.map_id l]
 apply xB;intro x hx;unfold By;rw[if_neg (h x hx)];rfl
theorem UP.mark{P:Ps}{b:Nat}{o:On}(h:UP P)(hs:Hh P)(hD:WF P.C.D)(ho:BQ P b=some o) :
  UP ⟨{ P.C with D:=B8 P.C.D b (EZ P b) },P.last,Rz P (By P b)⟩:=by
 obtain⟨hom,hob⟩:=CB ho;have hob:o.b=b:=by omega
 have hb:b<P.C.D.vs.length:=by rw[<- hob];exact hs.onlt o hom
 have hil:=YL hs hD hb;have hat:=I5 hb hil h.run;have hL:=Hs P b;have hmb:bU P b=Ia P.opn o.l:=by unfold bU;rw[ho]
 have hxb:∀ x∈o.l,x.b=b:=fun x hx=>by rw[hs.chb o hom x hx,hob]
 have hno:∀ p∈P.ons,p.b≠b->p.l.map (By P b)=p.l:=fun p hp e=>bT fun x hx=>by rw[hs.chb p hp x hx];exact e
 have hmo:∀ x∈o.l,(By P b x).out=(Ia P.opn o.l).contains (x.id:Int):=fun x hx=>by
  unfold By;rw[if_pos (hxb x hx),hmb];show(x.out || _)=_;cases hxo:x.out with
  | false=>rfl
  | true =>
   have:=h.may o hom x hx hxo
   rw[Bool.true_or];symm;simpa using this
 have hsame:∀ p∈P.ons,p.b=b->p=o:=fun p hp e=>H2 hs hp hom (by omega)
 exact {
  lne:=fun p hp=>by
   obtain⟨q,hq,rfl⟩:=Li.1 hp
   have:=h.lne q hq
   simpa using this
  pin:=fun p hp=>by
   obtain⟨q,hq,rfl⟩:=Li.1 hp;obtain⟨x,h1,h2,h3,h4⟩:=h.pin q hq;refine⟨x,h1,h2,h3,?_⟩;show x.data=AW q.base (q.l.map (By P b));rw[Oy hL];exact h4
  unp:=fun x hx hn=>by
   have hn':∀ q∈P.ons,q.b≠x.b:=fun q hq=>hn { q with l:=q.l.map (By P b) } (Li.2 ⟨q,hq,rfl⟩);obtain⟨h1,h2⟩:=h.unp x hx hn';refine⟨h1,?_⟩;show x.data=DC (B8 P.C.D b (EZ P b)) x.b;rw[hat,if_neg (fun e=>hn' o hom (by omega))];exact h2
  run:=by
   show(B8 P.C.D b (EZ P b)).left=-1;rw[(wV hb hil h.run).2]
  acc:=fun p hp=>by
   obtain⟨q,hq,rfl⟩:=Li.1 hp;show DC (B8 P.C.D b (EZ P b)) q.b=AW q.base ((q.l.map (By P b)).filter (·.out));rw[hat];by_cases e:q.b=b
   ·have:=hsame q hq e
    subst this;rw[if_pos e,Lu4,Oy hL];unfold EZ;rw[ho];show AW q.base _=AW q.base _
    congr 1
    apply Lh3;intro x hx;exact(hmo x hx).symm
   ·rw[if_neg e,hno q hq e];exact h.acc q hq
  may:=fun p hp x hx hxo=>by
   obtain⟨q,hq,rfl⟩:=Li.1 hp;rw[cG hL];show(x.id:Int)∈Ia P.opn (q.l.map (By P b));rw[tV hL];obtain⟨y,hy,rfl⟩:=Li.1 hx;rw[hL.id];by_cases e:q.b=b
   ·have:=hsame q hq e
    subst this;rw[hmo y hy]at hxo;simpa using hxo
   ·have:By P b y=y:=by unfold By;rw[if_neg (by rw[hs.chb q hq y hy];exact e)]
    rw[this]at hxo;exact h.may q hq y hy hxo
  cls:=fun p hp=>by
   obtain⟨q,hq,rfl⟩:=Li.1 hp;show xL (q.l.map (By P b));by_cases e:q.b=b
   ·have:=hsame q hq e
    subst this;unfold xL;rw[List.pairwise_map];refine(gS (op:=P.opn) (gN hs hq)).imp_of_mem fun {x y} hx hy hh=>?_;rw[hmo x hx,hmo y hy,XB hL];intro h1 h2
    have:=hh (by simpa using h1) h2
    simpa using this
   ·rw[hno q hq e];exact h.cls q hq
  afl:=fun x hx=>by
   rw[HF]at hx;obtain⟨y,hy,rfl⟩:=Li.1 hx
   rw[hL.after,hL.id];exact h.afl y hy }
def MP(vis:Nat->Bool)(o:On):Option On:=if vis o.b=true then Cu o else some o
theorem Gf{vis:Nat->Bool}{o o':On}(h:MP vis o=some o'):o'.b=o.b/\o'.l.Sublist o.l/\(o'=o\/(o'.base=AW o.base (o.l.filter (·.out))/\o'.l=o.l.filter fun x=>!x.out)):=by
 unfold MP at h
 split at h
 ·unfold Cu at h
  split at h
  ·cases h
  ·have:=Ln h
   subst this;exact⟨rfl,Lo5,.inr ⟨rfl,rfl⟩⟩
 ·have:=Ln h
  subst this;exact⟨rfl,List.Sublist.refl _,.inl rfl⟩
theorem Vv{g:On->Option On}(hg:∀ o o',g o=some o'->o'.l.Sublist o.l):∀ l:List On,((l.filterMap g).flatMap (·.l)).Sublist (l.flatMap (·.l))
 | []=>List.Sublist.refl _
 | o::r=>by
  have ih:=Vv hg r;rw[Lh4];cases h:g o with
  | none =>
   rw[Lw3 h];exact ih.trans (List.sublist_append_right _ _)
  | some o' =>
   rw[Lx3 h,Lh4];exact(hg o o' h).append ih
theorem Ab1{g:On->Option On}(hg:∀ o o',g o=some o'->o'.b=o.b):∀ l:List On,((l.filterMap g).map (·.b)).Sublist (l.map (·.b))
 | []=>List.Sublist.refl _
 | o::r=>by
  have ih:=Ab1 hg r;rw[Wu];cases h:g o with
  | none=>rw[Lw3 h];exact ih.cons _
  | some o' =>
   rw[Lx3 h,Wu,hg o o' h];exact ih.cons_cons _
theorem Hh.fl{V:Ps}{C:Ca}{vis:Nat->Bool}(h:Hh V)(hD:C.D.vs.length=V.C.D.vs.length)(hm:C.most=V.C.most):Hh ⟨C,V.last,V.ons.filterMap (MP vis)⟩:=by
 have hsub:(Ps.all ⟨C,V.last,V.ons.filterMap (MP vis)⟩).Sublist V.all:=Vv (fun o o' e=>(Gf e).2.1) _
 exact {
  full:=by show C.D.vs.length<=C.most;rw[hD,hm];exact h.full
  onsN:=(Ab1 (fun o o' e=>(Gf e).1) _).nodup h.onsN
  onlt:=fun o ho=>by
   obtain⟨p,hp,e⟩:=Yv.1 ho;show o.b<C.D.vs.length;rw[hD,(Gf e).1];exact h.onlt p hp
  base:=fun o ho=>by
   obtain⟨p,hp,e⟩:=Yv.1 ho;rcases(Gf e).2.2 with rfl|⟨e2,_⟩
   ·exact h.base o hp
   ·rw[e2];exact LF (h.base p hp) _ fun x hx=>(h.dat x (GH hp (QM.1 hx).1)).2
  llen:=fun o ho=>by
   obtain⟨p,hp,e⟩:=Yv.1 ho;exact Up (Gf e).2.1.length_le (h.llen p hp)
  ids:=(hsub.map _).nodup h.ids
  idr:=fun x hx=>h.idr x (hsub.subset hx)
  chb:=fun o ho x hx=>by
   obtain⟨p,hp,e⟩:=Yv.1 ho;rw[(Gf e).1];exact h.chb p hp x ((Gf e).2.1.subset hx)
  dat:=fun x hx=>h.dat x (hsub.subset hx)
  aft:=fun x hx=>h.aft x (hsub.subset hx)
  last:=h.last }
def AdK(P:Ps):Ps:=⟨{ P.C with D:=Dj P.C.D,l:=P.C.l.map fun x=>if (P.ons.any fun o=>decide (o.b=x.b)&&(Cu o).isNone)=true then { x with pins:=0 }else x },P.last,P.ons.filterMap Cu⟩
theorem UP.flush{P:Ps}(h:UP P)(hs:Hh P)(hn:(P.C.l.map (·.b)).Nodup):UP (AdK P):=by
 have hf:∀{o o':On},Cu o=some o'->o'.b=o.b/\o'.base=AW o.base (o.l.filter (·.out))/\o'.l=o.l.filter (fun x=>!x.out)/\o'.l≠[]:=fun {o o'} e=>by
  unfold Cu at e
  split at e
  ·cases e
  ·rename_i hne
   have:=Ln e
   subst this;refine⟨rfl,rfl,rfl,?_⟩;intro h0;apply hne;have h0:(o.l.filter fun x=>!x.out)=[]:=h0;rw[h0];rfl
 have hsub:(AdK P).all.Sublist P.all:=Vv (fun o o' e=>by rw[(hf e).2.2.1];exact Lo5) _;have hall:∀ x∈(AdK P).all,x.out=false:=fun x hx=>by
  obtain⟨o',ho',hx'⟩:=GF.1 hx;obtain⟨o,ho,e⟩:=Yv.1 ho';rw[(hf e).2.2.1]at hx'
  have:=(QM.1 hx').2
  simpa using this
 have hwl:∀ o∈P.ons,∀ x∈o.l,x.frm+x.data.length<=256:=fun o ho x hx=>(hs.dat x (GH ho hx)).2
 exact {
  lne:=fun o' ho'=>by
   obtain⟨o,ho,e⟩:=Yv.1 ho';exact(hf e).2.2.2
  pin:=fun o' ho'=>by
   obtain⟨o,ho,e⟩:=Yv.1 ho';obtain⟨h1,h2,h3,_⟩:=hf e;obtain⟨x,hx,k1,k2,k3⟩:=h.pin o ho;refine⟨x,Li.2 ⟨x,hx,?_⟩,by rw[h1];exact k1,k2,?_⟩
   ·rw[if_neg];rw[WC];rintro⟨p,hp,hpe⟩;simp only[Lp,Lw]at hpe
    have:=H2 hs hp ho (by omega)
    subst this;rw[e]at hpe;cases hpe.2
   ·rw[h2,h3,TL (hs.base o ho) (hwl o ho) (h.cls o ho)];exact k3
  unp:=fun z hz hno=>by
   obtain⟨x,hx,rfl⟩:=Li.1 hz;have hb:(if (P.ons.any fun o=>decide (o.b=x.b)&&(Cu o).isNone)=true then { x with pins:=0 }else x:Bf).b=x.b:=by split<;>rfl
   have hd:(if (P.ons.any fun o=>decide (o.b=x.b)&&(Cu o).isNone)=true then { x with pins:=0 }else x:Bf).data=x.data:=by split<;>rfl
   rw[hb]at hno |-;rw[hd];show _/\x.data=DC (Dj P.C.D) x.b;rw[LT h.run];by_cases hon:∃ o∈P.ons,o.b=x.b
   ·obtain⟨o,ho,e⟩:=hon;have hnone:Cu o=none:=by
     cases hfo:Cu o with
     | none=>rfl
     | some o'=>exact absurd (by rw[(hf hfo).1];exact e) (hno o' (Yv.2 ⟨o,ho,hfo⟩))
    refine⟨?_,?_⟩
    ·rw[if_pos (WC.2 ⟨o,ho,by rw[hnone,Le e];rfl⟩)]
    ·obtain⟨y,hy,k1,k2,k3⟩:=h.pin o ho;have hxy:∀ w∈P.C.l,w.b=o.b->w.data=AW o.base o.l->w.data=DC P.C.D x.b:=fun w hw _ hwd=>by
      rw[<- e,h.acc o ho,hwd];unfold Cu at hnone
      split at hnone
      ·rename_i hemp;have hall2:∀ z∈o.l,z.out=true:=by
        have:(o.l.filter fun x=>!x.out)=[]:=Ln3.1 hemp;rw[Lb5]at this;intro z hz;simpa using this z hz
       rw[qU.2 hall2]
      ·cases hnone
     by_cases hxd:x.data=AW o.base o.l
     ·exact hxy x hx e.symm hxd
     ·have:x=y:=EA hn hx hy (by omega);rw[this]at hxd;exact absurd k3 hxd
   ·rw[if_neg]
    ·exact h.unp x hx fun o ho e=>hon ⟨o,ho,e⟩
    ·rw[WC];rintro⟨o,ho,e⟩;simp only[Lp,Lw]at e;exact hon ⟨o,ho,e.1⟩
  run:=zF h.run
  acc:=fun o' ho'=>by
   obtain⟨o,ho,e⟩:=Yv.1 ho';obtain⟨h1,h2,h3,_⟩:=hf e;show DC (Dj P.C.D) o'.b=_;rw[LT h.run,h1,h2,h.acc o ho];have:o'.l.filter (·.out)=[]:=by
    rw[Lb5];intro x hx
    have:=hall x (GF.2 ⟨o',ho',hx⟩)
    rw[this];simp
   rw[this];rfl
  may:=fun o' ho' x hx hxo=>by
   have:=hall x (GF.2 ⟨o',ho',hx⟩)
   rw[this]at hxo;cases hxo
  cls:=fun o' ho'=>by
   show xL o'.l;unfold xL;rw[Lu2];intro i j hi hj _ hy
   have:=hall _ (GF.2 ⟨o',ho',Tx hj⟩)
   rw[this]at hy;cases hy
  afl:=fun x hx=>h.afl x (hsub.subset hx) }
def LE(l:Nat)(p:Int):Int:=if l≠256 then 4 else if p<0\/4<=p then 3 else 0
def GU(xs:List UInt8)(p:Int):Nd×Int:=if LE xs.length p≠0 then(nZ,LE xs.length p)else Kk ((xs.drop (64*p.toNat)).take 64)
theorem V7(xs:List UInt8)(p:Int):Ui (GU xs p).1:=by unfold GU;split;rfl;exact YM _
section
variable{w:World}{K:Value->World->Prop}
theorem dF{a:Option Addr}{l c:Nat}{p:Int}(hk:K (.int .i64 (LE l p)) w):A8 Tryz.prog JO #[.slice a l c,.int .i64 p] w K:=by
 apply Z8;unfold Tr;rw[Di];refine Aa (fun h=>?_) (fun h=>?_)
 ·have h:=Lc h;have e:LE l p=4:=by unfold LE;rw[if_pos (by omega)]
  rwa [e]at hk
 have h:=Lb h;refine Ac.cut (fun z w4=>w4=w/\z=[.bool (decide (p<0\/4<=p))]) (Aa (fun h1=>⟨rfl,?_⟩) (fun h1=>⟨rfl,?_⟩)) ?_
 ·have h1:=Lc h1;rw[Le (show p<0\/4<=p from .inl h1)]
 ·have h1:=Lb h1;by_cases h2:p >= 4
  ·rw[Le h2,Le (show p<0\/4<=p from .inr h2)]
  ·rw[Lf h2,Lf (show ¬ (p<0\/4<=p) by omega)]
 rintro z w4 ⟨rfl,rfl⟩;refine⟨_,rfl,Aa (fun h1=>?_) (fun h1=>?_)⟩
 ·have e:LE l p=3:=by unfold LE;rw[if_neg (by omega),if_pos (Lc h1)]
  rwa [e]at hk
 ·have e:LE l p=0:=by unfold LE;rw[if_neg (by omega),if_neg (Lb h1)]
  rwa [e]at hk
theorem Ou{l:Nat}{p:Int}(h:LE l p=0):l=256/\0<=p/\p<4:=by
 unfold LE at h
 split at h
 ·cases h
 split at h
 ·cases h
 exact⟨by omega,by omega,by omega⟩
theorem oM{a:Option Addr}{l c:Nat}{p:Int}{xs:List UInt8}(hl:xs.length=l)(hc:l<=c)(hr:Bl w a (Au xs))(h63:l<=1048576)
  (hk:∀ w',Ab No w w'->K (.tuple #[.agg ⟨nV (GU xs p).1⟩,.int .i64 (GU xs p).2]) w'):A8 Tryz.prog LP #[.slice a l c,.int .i64 p] w K:=by
 apply Ym;unfold QG;obtain⟨w1,b1,b2,b3,b4⟩:=A9 (P:=Tryz.prog) (w:=w) (T:=218) DP;have fin:∀(w':World)(i:Nd)(e:Int),Ab No w1 w'->(i,e)=GU xs p->∃ w3:World,Eh (Instr.storeAt 218 (.pointer (some ⟨w.heap.size,0,none⟩)) (.agg ⟨nV i⟩)) w' w3/\∃ gR2:Array Value,Ru (Instr.loadAt 218 (.pointer (some ⟨w.heap.size,0,none⟩))) w3 (.agg gR2) w3/\K (.tuple #[.agg gR2,.int .i64 e]) w3:=fun w' i e m he=>by
  have hw:Ui i:=by have:=V7 xs p;rw[<- he]at this;exact this
  obtain⟨w3,c1,c2,c3,c4⟩:=(b2.keep m id).put (T:=218) (vs:=nV i) AS rfl (C4 hw) (Ht _);refine⟨w3,c1,_,c2.at.all AS (C4 hw),?_⟩
  have:=hk w3 ((b3.no m).own c3 (Ld _))
  rw[<- he]at this;exact this
 refine⟨_,w1,b1,dF ⟨_,rfl,?_⟩⟩;rw[Di];refine Aa (fun h=>⟨_,CY,?_⟩) (fun h=>?_)
 ·have h:=Lc h;exact fin w1 nZ _ (Ab.refl _ _) (by unfold GU;rw[hl,if_pos h])
 have h:=Lb h;have hm:LE l p=0:=by omega
 obtain⟨rfl,hp0,hp4⟩:=Ou hm;obtain⟨k,rfl⟩:∃ k:Nat,p=k:=⟨p.toNat,by omega⟩;have e1:IntKind.i64.wrap ((k:Int)*64)=((64*k:Nat):Int):=by rw[Ag (by omega) (by omega)];omega
 have e2:IntKind.i64.wrap ((IntKind.i64.wrap ((k:Int)+1))*64)=((64*k+64:Nat):Int):=by rw[Ag (x:=(k:Int)+1) (by omega) (by omega),Ag (by omega) (by omega)];omega
 rw[e1,e2];refine⟨_,_,_,Be Am (by omega) (by omega) (by omega),?_⟩;rw[show((64*k:Nat):Int).toNat=64*k by omega,show((64*k+64:Nat):Int).toNat-64*k=64 by omega];refine tJ (xs:=(xs.drop (64*k)).take 64) (by simp;omega) (by omega) ((hr.nos b3).cut (by omega) (by omega)) (by omega) fun w4 m4=>⟨_,_,rfl,?_⟩;exact fin w4 _ _ m4 (by unfold GU;rw[hl,if_neg (by omega)];rfl)
theorem tK{a:Option Addr}{l c:Nat}{p:Int}{xs:List UInt8}{i:Nd}(hw:Ui i)(hl:xs.length=l)(hr:Bl w a (Au xs))(h63:l<=1048576)(hm:LE l p=0)(ho:RC i=true)
  (hk:∀ w' q,Ab No w w'->w.heap.size<=q->A1 w' q 0 (Au (B2 xs (64*p.toNat) (MN i)))->K (.tuple #[.slice (some ⟨q,0,none⟩) 256 256,.int .i64 0]) w'):A8 Tryz.prog Nm #[.slice a l c,.int .i64 p,.agg ⟨nV i⟩] w K:=by
 apply Z5;unfold To;obtain⟨w1,a1,a2,a3,a4⟩:=AC (P:=Tryz.prog) (w:=w) (T:=218) (cs:=nV i);refine⟨_,w1,a1,dF ⟨_,rfl,?_⟩⟩;rw[hm];obtain⟨rfl,hp0,hp4⟩:=Ou hm;obtain⟨k,rfl⟩:∃ k:Nat,p=k:=⟨p.toNat,by omega⟩;refine ff rfl ⟨_,a2.at.all AS (C4 hw),tL hw (fun h=>by rw[ho]at h;cases h) fun _ w3 q m3 hq hat=>⟨_,_,_,_,rfl,ff rfl ?_⟩⟩;have e1:IntKind.i64.wrap ((k:Int)*64)=((64*k:Nat):Int):=by rw[Ag (by omega) (by omega)];omega
 rw[e1];have M3:=a3.no m3;refine qP (b:=xs) (ys:=MN i) hl (Rq hw) (by omega) (by omega) (by omega) (hr.nos M3) (.inr ⟨_,_,rfl,hat.at⟩) fun w4 m4 h4=>⟨_,_,_,_,rfl,?_⟩;exact hk w4 _ (M3.no m4) M3.size h4
end
end Go.Z
end
section
open Go Go.Den Go.Proofs
namespace Go.Den
def nS1(i:Nd):Bool:=decide (1<=i.kind/\i.kind<=3)&&EL i
def kY(i:Nd):Bool:=nS1 i&&(!decide (i.kind=2) || decide (i.size % 256=0))&&(!decide (i.kind=3) || decide (1<=i.size/\i.size<=255))
theorem AaC{i:Nd}(h:i.kind≠0):RC i=(kY i&&i.p.all Uh):=by
 unfold RC kY nS1;rw[if_neg h,Bool.and_comm]
 congr 1
 by_cases h2:i.kind=2
 ·rw[if_pos h2,Le (show 1<=i.kind/\i.kind<=3 by omega),Le h2,Lf (show ¬ i.kind=3 by omega)];cases EL i<;>simp
 ·rw[if_neg h2,Lf h2];by_cases h1:i.kind=1
  ·rw[if_pos h1,Le (show 1<=i.kind/\i.kind<=3 by omega),Lf (show ¬ i.kind=3 by omega)];simp
  ·rw[if_neg h1];by_cases h3:i.kind=3
   ·rw[if_pos h3,Le (show 1<=i.kind/\i.kind<=3 by omega),Le h3];simp
   ·rw[if_neg h3,Lf (show ¬ (1<=i.kind/\i.kind<=3) by omega)];rfl
theorem uA{i:Nd}(h:i.kind=0):RC i=decide (i=nZ):=by
 unfold RC;rw[if_pos h];by_cases e:i=nZ
 ·subst e;rfl
 ·rw[Lf e,qR]
end Go.Den
namespace Go.Z
section
variable{w:World}{K:Value->World->Prop}
set_option maxRecDepth 8000 in
theorem cO{i:Nd}(hw:Ui i)(hk:∀ w',Ab No w w'->K (.bool (RC i)) w'):A8 Tryz.prog FJ #[.agg ⟨nV i⟩] w K:=by
 apply PH;unfold IZ;obtain⟨w1,a1,a2,a3,a4⟩:=AC (P:=Tryz.prog) (w:=w) (T:=218) (cs:=nV i);obtain⟨w2,b1,b2,b3,b4⟩:=A9 (P:=Tryz.prog) (w:=w1) (T:=218) DP;obtain⟨w3,c1,c2,c3,c4⟩:=b2.put (T:=218) (vs:=nV nZ) AS rfl rfl (Ht _);have m3:Ab No w1 w3:=b3.own c3 (Ld _);have M3:=a3.no m3;have q:=a2.keep m3 id;have hw8:i.p.length=8:=hw;have l0:Ru (Instr.loadAt 3 (.pointer (some (Addr.add ⟨w.heap.size,0,none⟩ 0)))) w3 (.int .i64 i.kind) w3:=q.at.fld Aj rfl
 have l1:Ru (Instr.loadAt 3 (.pointer (some (Addr.add ⟨w.heap.size,0,none⟩ 1)))) w3 (.int .i64 i.links) w3:=q.at.fld Aj rfl;have l2:Ru (Instr.loadAt 2 (.pointer (some (Addr.add ⟨w.heap.size,0,none⟩ 2)))) w3 (.int .i64 i.size) w3:=q.at.fld BL rfl;have l3:Ru (Instr.loadAt 2 (.pointer (some (Addr.add ⟨w.heap.size,0,none⟩ 3)))) w3 (.int .i64 i.id) w3:=q.at.fld BL rfl;refine⟨_,w1,a1,_,CY,_,w2,b1,w3,c1,_,l0,?_⟩
 rw[GO];refine Aa (fun h=>⟨_,q.at.all AS (C4 hw),_,c2.at.all AS rfl,_,ieq i nZ hw uC,?_⟩) (fun h=>?_)
 ·rw[<- uA (Lc h)];exact hk _ M3
 have h:=Lb h;have fz:∀{b:Bool},b=false->w3=w3/\[Value.bool false]=[.bool b]:=fun e=>⟨rfl,by rw[e]⟩;have s1f:(¬ (1<=i.kind/\i.kind<=3/\0<=i.links/\i.links<=1000/\0<=i.size/\i.size<=1066496/\1<=i.id))->nS1 i=false:=fun e=>by
  unfold nS1 EL;rw[<- Bool.decide_and];exact Lf fun e'=>e (by omega)
 refine Ac.cut (fun z w4=>w4=w3/\z=[.bool (nS1 i)]) ⟨_,l0,Aa (fun h1=>⟨_,l0,Aa (fun h2=>⟨_,l1,Aa (fun h3=>⟨_,l1,Aa (fun h4=>⟨_,l2,Aa (fun h5=>⟨_,l2,Aa (fun h6=>⟨_,l3,Aa (fun h7=>⟨_,l3,rfl,?_⟩) (fun h7=>fz (s1f fun e=>Lb h7 (by omega)))⟩) (fun h6=>fz (s1f fun e=>Lb h6 (by omega)))⟩) (fun h5=>fz (s1f fun e=>Lb h5 (by omega)))⟩) (fun h4=>fz (s1f fun e=>Lb h4 (by omega)))⟩) (fun h3=>fz (s1f fun e=>Lb h3 (by omega)))⟩) (fun h2=>fz (s1f fun e=>Lb h2 (by omega)))⟩) (fun h1=>fz (s1f fun e=>Lb h1 (by omega)))⟩ ?_
 ·have h1:=Lc h1;have h2:=Lc h2;have h3:=Lc h3;have h4:=Lc h4;have h5:=Lc h5;have h6:=Lc h6;have h7:=Lc h7;unfold nS1 EL;rw[Le (show 1<=i.kind/\i.kind<=3 from⟨h1,h2⟩),Ws];by_cases h8:i.id<=4611686018427387904
  ·rw[Le h8,Le (show _/\_/\_/\_/\_/\_ from⟨h3,h4,h5,h6,h7,h8⟩)]
  ·rw[Lf h8,Lf fun e=>h8 e.2.2.2.2.2]
 rintro z w4 ⟨rfl,rfl⟩;have third:∀(R:List Value->World->Prop),R [.bool (!decide (i.kind=3) || decide (1<=i.size/\i.size<=255))] w4->(bif i.kind != 3 then R [.bool true] w4 else ∃ n69:Int,Ru (Instr.loadAt 2 (.pointer (some (Addr.add ⟨w.heap.size,0,none⟩ 2)))) w4 (.int .i64 n69) w4/\(bif decide (n69 >= 1)then ∃ n73:Int,Ru (Instr.loadAt 2 (.pointer (some (Addr.add ⟨w.heap.size,0,none⟩ 2)))) w4 (.int .i64 n73) w4/\R [.bool (decide (n73<=255))] w4 else R [.bool false] w4)):=by
  intro R hR;rw[Di];refine Aa (fun h3=>?_) (fun h3=>⟨_,l2,Aa (fun h4=>⟨_,l2,?_⟩) (fun h4=>?_)⟩)
  ·rw[Lf (Lc h3)]at hR;exact hR
  ·have h3:=Tw.1 (Lb h3);have h4:=Lc h4;rw[Le h3]at hR;by_cases h5:i.size<=255
   ·rw[Le (show 1<=i.size/\i.size<=255 from⟨h4,h5⟩)]at hR;rw[Le h5];exact hR
   ·rw[Lf (show ¬ (1<=i.size/\i.size<=255)from fun e=>h5 e.2)]at hR;rw[Lf h5];exact hR
  ·have h3:=Tw.1 (Lb h3);have h4:=Lb h4;rw[Le h3,Lf (show ¬ (1<=i.size/\i.size<=255)from fun e=>h4 e.1)]at hR;exact hR
 have hm:Int.tmod i.size 256=0↔i.size % 256=0:=by
  rw[<- Int.dvd_iff_tmod_eq_zero,Int.dvd_iff_emod_eq_zero]
 refine Ac.cut (fun z w5=>w5=w4/\z=[.bool (kY i)]) ⟨_,rfl,Aa (fun h1=>⟨_,l0,?_⟩) (fun h1=>⟨rfl,?_⟩)⟩ ?_
 ·rw[Di];refine Aa (fun h2=>⟨_,l0,third (fun z w5=>w5=w4/\z=[.bool (kY i)]) ⟨rfl,?_⟩⟩) (fun h2=>⟨_,l2,?_⟩)
  ·unfold kY;rw[h1,Lf (Lc h2)];simp
  ·have h2:=Tw.1 (Lb h2);rw[GO];refine Aa (fun h3=>⟨_,l0,third (fun z w5=>w5=w4/\z=[.bool (kY i)]) ⟨rfl,?_⟩⟩) (fun h3=>⟨rfl,?_⟩)
   ·unfold kY;rw[h1,Le (hm.1 (Lc h3))];simp
   ·unfold kY;rw[h1,Le h2,Lf (fun e=>Lb h3 (hm.2 e))];rfl
 ·unfold kY;rw[h1];rfl
 rintro z w5 ⟨rfl,rfl⟩;have hcell:∀ j (hj:j<i.p.length),(nV i)[4+j]?=some (.int .i64 i.p[j]):=fun j hj=>by
  unfold nV ndL;rw[show 4+j=j+1+1+1+1 by omega];show(iL i.p)[j]?=_;exact Ma hj
 refine⟨fun x w6=>∃ j:Nat,j<=6/\x=[.bool (kY i&&(i.p.take j).all Uh),.int .i64 j]/\w6=w5,fun x _=>(6-nI x 1).toNat,⟨0,by omega,by simp[Ap],rfl⟩,?_⟩;rintro x w6 ⟨j,hj,rfl,rfl⟩;refine⟨_,rfl,Aa (fun hl=>?_) (fun hl=>?_)⟩
 ·have hl:=Lc hl;have hjp:j<i.p.length:=by omega
  refine Ac.cut (fun z w7=>w7=w6/\z=[.bool (kY i&&(i.p.take (j+1)).all Uh)]) ⟨_,rfl,Aa (fun h1=>⟨_,B5 WU (by omega) (by omega),_,q.at.elt (j:=4) Aj (hcell j hjp),Aa (fun h2=>⟨_,B5 WU (by omega) (by omega),_,q.at.elt (j:=4) Aj (hcell j hjp),rfl,?_⟩) (fun h2=>⟨rfl,?_⟩)⟩) (fun h1=>⟨rfl,?_⟩)⟩ ?_
  ·rw[Ll hjp,Lv3,<- Li6,h1];have h2:=Lc h2;by_cases h3:i.p[j]<4096
   ·simp[Uh,h3,h2]
   ·simp[Uh,h3]
  ·rw[Ll hjp,Lv3,<- Li6,h1];have h2:=Lb h2;simp[Uh];omega
  ·rw[Ll hjp,Lv3,<- Li6,h1];rfl
  ·rintro z w7 ⟨rfl,rfl⟩;rw[Ag (x:=(j:Int)+1) (by omega) (by omega)];exact⟨⟨j+1,by omega,by simp[Ap],rfl⟩,by simp[nI,Ap];omega⟩
 have hl:=Lb hl;have hj6:j=6:=by omega
 subst hj6;rw[AaC h]at hk;have e8:i.p=i.p.take 6++[i.p[6]]++[i.p[7]]:=by
  rw[<- Ll (by omega:6<i.p.length),<- Ll (by omega:7<i.p.length),Lg (by omega)]
 have ea:(kY i&&i.p.all Uh)=((kY i&&(i.p.take 6).all Uh)&&Uh i.p[6]&&Uh i.p[7]):=by
  conv=>lhs;rw[e8]
  rw[Lv3,Lv3];simp[Li6]
 rw[ea]at hk;have c10:(nV i)[10]?=some (.int .i64 i.p[6]):=hcell 6 (by omega);have c11:(nV i)[11]?=some (.int .i64 i.p[7]):=hcell 7 (by omega);refine Ac.cut (fun z w7=>w7=w6/\z=[.bool ((kY i&&(i.p.take 6).all Uh)&&Uh i.p[6]&&Uh i.p[7])]) ⟨_,rfl,Aa (fun h1=>⟨_,q.at.fld Aj c10,Aa (fun h2=>⟨_,q.at.fld Aj c10,Aa (fun h3=>⟨_,q.at.fld Aj c11,Aa (fun h4=>⟨_,q.at.fld Aj c11,rfl,?_⟩) (fun h4=>⟨rfl,?_⟩)⟩) (fun h3=>⟨rfl,?_⟩)⟩) (fun h2=>⟨rfl,?_⟩)⟩) (fun h1=>⟨rfl,?_⟩)⟩ ?_
 ·have h2:=Lc h2;have h3:=Lc h3;have h4:=Lc h4;rw[h1,show Uh i.p[6]=true from Le ⟨h2,h3⟩];unfold Uh;by_cases h5:i.p[7]<4096
  ·rw[Le h5,Le (show _/\_ from⟨h4,h5⟩)];rfl
  ·rw[Lf h5,Lf fun e=>h5 e.2];rfl
 ·have h4:=Lb h4;rw[show Uh i.p[7]=false from Lf fun e=>h4 e.1,qR]
 ·have h3:=Lb h3;rw[show Uh i.p[6]=false from Lf fun e=>h3 e.2,qR];rfl
 ·have h2:=Lb h2;rw[show Uh i.p[6]=false from Lf fun e=>h2 e.1,qR];rfl
 ·rw[h1];rfl
 ·rintro z w7 ⟨rfl,rfl⟩;exact⟨_,rfl,hk _ M3⟩
end
theorem fW(w:World)(v:Int):(Instr.buildSlice 88 2 #[(0,.int .u8 v),(1,.int .u8 0)]).run Tryz.prog w=.ok (.slice (some ⟨w.heap.size,0,none⟩) 2 2) (w.alloc (.cells ⟨[.int .u8 v,.int .u8 0]⟩ 5)):=by kernel_rfl
section
variable{w:World}{K:Value->World->Prop}
set_option maxRecDepth 8000 in
theorem XR{i:Nd}(hw:Ui i)(h1:RC i=false->∀ w',Ab No w w'->K (.tuple #[.slice none 0 0,.int .i64 1]) w')
  (h2:RC i=true->∀ w' a c,Ab No w w'->Ow Tryz.prog w' w.heap.size 88 1 a 64 c (Au (MN i))->K (.tuple #[.slice a 64 c,.int .i64 0]) w'):A8 Tryz.prog BO #[.agg ⟨nV i⟩] w K:=by
 apply Sv;unfold KF;obtain⟨w1,a1,a2,a3,a4⟩:=AC (P:=Tryz.prog) (w:=w) (T:=218) (cs:=nV i);refine⟨_,w1,a1,_,a2.at.all AS (C4 hw),cO hw fun w2 m2=>⟨_,rfl,Aa (fun h=>h1 (by simpa using h) _ (a3.no m2)) (fun h=>?_)⟩⟩;have ho:RC i=true:=by simpa using h
 have hb:=kX ho;have hw8:i.p.length=8:=hw;have hq2:=a2.at.keep m2 id;obtain⟨w3,hw3⟩:∃ w3,w3=w2.alloc (.cells ⟨Au [UInt8.ofNat i.kind.toNat,0]⟩ 5):=⟨_,rfl⟩;have ek:IntKind.u8.wrap i.kind=((i.kind.toNat:Nat):Int):=by rw[Ko];omega
 have ec:[Value.int .u8 (IntKind.u8.wrap i.kind),.int .u8 0]=Au [UInt8.ofNat i.kind.toNat,0]:=by
  rw[ek];have:(UInt8.ofNat i.kind.toNat).toNat=i.kind.toNat:=by rw[Lr3];omega
  simp[Au,u8,this]
 have hbt:=fW w2 (IntKind.u8.wrap i.kind);rw[ec,<- hw3]at hbt;have o3:Ow Tryz.prog w3 w1.heap.size 88 1 (some ⟨w2.heap.size,0,none⟩) 2 2 (Au [UInt8.ofNat i.kind.toNat,0]):=by rw[hw3];exact AaL Tryz.underlying88 rfl (by decide) m2.size
 have m3:Ab (fun x=>w1.heap.size<=x) w1 w3:=by rw[hw3];exact(m2.mono fun _ _ h=>h.elim).alloc _
 have nb:¬ (w1.heap.size<=w.heap.size):=by omega
 have ld:∀(j:Nat)(v:Value)(w':World)(T:TypeId),DQ Tryz.prog T=true->(nV i)[j]?=some v->Ab (fun x=>w1.heap.size<=x) w1 w'->Ru (Instr.loadAt T (.pointer (some (Addr.add ⟨w.heap.size,0,none⟩ j)))) w' v w':=fun j v w' T hT hv m=>(a2.at.keep m nb).fld hT hv;have tr:∀{a b:World},Ab (fun x=>w1.heap.size<=x) w1 a->Ab (fun x=>w1.heap.size<=x) a b->Ab (fun x=>w1.heap.size<=x) w1 b:=fun h k=>h.trans k fun _ _ h=>h
 have hcell:∀ j (hj:j<i.p.length),(nV i)[4+j]?=some (.int .i64 i.p[j]):=fun j hj=>by
  unfold nV ndL;rw[show 4+j=j+1+1+1+1 by omega];show(iL i.p)[j]?=_;exact Ma hj
 refine⟨_,hq2.fld Aj rfl,_,_,_,w3,hbt,_,ld 1 (.int .i64 i.links) w3 3 Aj rfl m3,?_⟩;refine Uj (m:=2) (l:=2) o3 (by omega) (by omega) (by omega) m3.size fun w4 e2 f2 e3 f3 w5 p5 m5 o5=>⟨_,_,_,rfl,_,_,_,w5,p5,?_⟩;have M5:=tr m3 m5;refine⟨_,ld 2 (.int .i64 i.size) w5 2 BL rfl M5,?_⟩;refine Uj (m:=4) (l:=4) o5 (by omega) (by omega) (by omega) M5.size fun w6 e2 f2 e3 f3 w7 p7 m7 o7=>⟨_,_,_,rfl,_,_,_,w7,p7,?_⟩
 have M7:=tr M5 m7;refine⟨_,ld 3 (.int .i64 i.id) w7 2 BL rfl M7,?_⟩;refine Uj (m:=8) (l:=8) o7 (by omega) (by omega) (by omega) M7.size fun w8 e2 f2 e9 f9 w9 p9 m9 o9=>⟨_,_,_,rfl,_,_,_,w9,p9,?_⟩;have M9:=tr M7 m9;have o9:Ow Tryz.prog w9 w1.heap.size 88 1 e9 16 f9 (Au (GE i++Ej (i.p.take 0))):=by
  rw[xE,show Ej []=[]from rfl,fH];exact o9
 refine⟨fun x w10=>∃(j l:Nat)(a:Option Addr)(c:Nat),j<=6/\l=16+2*j/\x=[.slice a l c,.int .i64 j]/\Ow Tryz.prog w10 w1.heap.size 88 1 a l c (Au (GE i++Ej (i.p.take j)))/\Ab (fun x=>w1.heap.size<=x) w1 w10,fun x _=>(6-nI x 1).toNat,
  ⟨0,16,_,_,by omega,rfl,rfl,o9,M9⟩,?_⟩
 rintro x w10 ⟨j,l,a,c,hj,hl,rfl,o10,M10⟩;have stepN:∀{k:Nat}(hk:k<i.p.length),(GE i++Ej (i.p.take k))++Bg 2 i.p[k].toNat=GE i++Ej (i.p.take (k+1)):=fun hk=>by rw[WB,<- TB hk]
 refine⟨_,rfl,Aa (fun hl2=>?_) (fun hl2=>?_)⟩
 ·have hl2:=Lc hl2;have hjp:j<i.p.length:=by omega
  have hv:=hb.2.2.2.2.2.2.2.2 _ (Tx hjp);refine⟨_,_,_,rfl,_,B5 WU (by omega) (by omega),_,(a2.at.keep M10 nb).elt (j:=4) Aj (hcell j hjp),?_⟩;refine Uj (m:=2) (l:=l) o10 hv.1 (by omega) (by omega) M10.size fun w11 e2 f2 e3 f3 w12 p12 m12 o12=>⟨_,_,_,rfl,_,_,_,w12,p12,?_⟩;rw[stepN hjp]at o12;rw[Ag (x:=(j:Int)+1) (by omega) (by omega)];exact⟨⟨j+1,l+2,e3,f3,by omega,by omega,by simp,o12,tr M10 m12⟩,by simp[nI,Ap];omega⟩
 have hl2:=Lb hl2;have hj6:j=6:=by omega
 have hl28:l=28:=by omega
 subst hj6;subst hl28;have v6:=hb.2.2.2.2.2.2.2.2 _ (Tx (show 6<i.p.length by omega));have v7:=hb.2.2.2.2.2.2.2.2 _ (Tx (show 7<i.p.length by omega));refine⟨_,_,_,rfl,_,ld 10 _ w10 3 Aj (hcell 6 (by omega)) M10,?_⟩;refine Uj (m:=2) (l:=28) o10 v6.1 (by omega) (by omega) M10.size fun w13 e2 f2 e3 f3 w14 p14 m14 o14=>⟨_,_,_,rfl,_,_,_,w14,p14,?_⟩;rw[stepN (by omega)]at o14
 have M14:=tr M10 m14;refine⟨_,ld 11 _ w14 3 Aj (hcell 7 (by omega)) M14,?_⟩;refine Uj (m:=2) (l:=30) o14 v7.1 (by omega) (by omega) M14.size fun w15 e2 f2 e3 f3 w16 p16 m16 o16=>⟨_,_,_,rfl,_,_,_,w16,p16,?_⟩;rw[stepN (by omega),Lg (by omega)]at o16;have M16:=tr M14 m16;refine sI (N:=64) (l:=32) o16 (by omega) rfl (by omega) M16.size fun w17 b11 d11 m17 o17=>?_;exact h2 ho w17 b11 d11 (a3.up (tr M16 m17) (by omega)) (o17.mono (by omega))
end
theorem Dc{xs:List UInt8}{m:Nat}(i:Nat):(xs.drop i).take m++xs.drop (i+m)=xs.drop i:=by
 rw[<- UO,Lh2]
theorem Af3(xs:List UInt8):WH xs 8=[Fa xs 0,Fa xs 1,Fa xs 2,Fa xs 3,Fa xs 4,Fa xs 5,Fa xs 6,Fa xs 7]:=rfl
theorem Ka{xs:List UInt8}(k:Nat)(h:18+2*k<=xs.length):Bg 2 (Fa xs k).toNat=(xs.drop (16+2*k)).take 2:=by
 unfold Fa;rw[Lr];exact HS (by omega)
theorem bJ{xs:List UInt8}(hl:xs.length=64):Ej (WH xs 8)++xs.drop 32=xs.drop 16:=by
 rw[Af3];unfold Ej;simp only[Lh4,List.flatMap_nil,fH,WB];rw[Ka 0 (by omega),Ka 1 (by omega),Ka 2 (by omega),Ka 3 (by omega),Ka 4 (by omega),Ka 5 (by omega),Ka 6 (by omega),Ka 7 (by omega)];rw[Dc (16+2*7),Dc (16+2*6),Dc (16+2*5),Dc (16+2*4),Dc (16+2*3),Dc (16+2*2),Dc (16+2*1),Dc (16+2*0)]
theorem zN{n:Nat}(h:n<18446744073709551616)(h0:0<=IntKind.i64.wrap (n:Int)):(IntKind.i64.wrap (n:Int)).toNat=n:=by
 unfold IntKind.wrap at *;simp[IntKind.signed,IntKind.bits]at *
 split at h0<;>omega
theorem pY{xs:List UInt8}(hl:xs.length=64):[xs.getD 0 0,xs.getD 1 0]++xs.drop 2=xs:=by
 match xs,hl with
 | a::b::r,_=>rfl
theorem bI{xs:List UInt8}(hl:xs.length=64)(h:RC (CS xs)=true):GE (CS xs)++xs.drop 16=[xs.getD 0 0,0]++xs.drop 2:=by
 have hid:(IntKind.i64.wrap (BW ((xs.drop 8).take 8):Int)).toNat=BW ((xs.drop 8).take 8):=by
  have h0:0<=IntKind.i64.wrap (BW ((xs.drop 8).take 8):Int):=(kX h).2.2.2.2.2.2.1;refine zN ?_ h0
  have:=VB ((xs.drop 8).take 8)
  rw[show((xs.drop 8).take 8).length=8 by simp;omega]at this;omega
 unfold GE CS;simp only[Lr,hid,UInt8.ofNat_toNat,WB];rw[HS (by omega),HS (by omega),HS (by omega),Dc 8,Dc 4,Dc 2]
theorem oL{xs:List UInt8}(hl:xs.length=64)(h:RC (CS xs)=true):MN (CS xs)=xs↔xs.getD 1 0=0/\(xs.drop 32).all (·==0)=true:=by
 have hN:(GE (CS xs)++Ej (CS xs).p).length=32:=by
  rw[Ls,PY,Mb];rfl
 have hr:(xs.drop 32).all (·==0)=true↔xs.drop 32=List.replicate 32 0:=by
  rw[dR,List.eq_replicate_iff];constructor
  ·intro h;exact⟨by simp;omega,fun b hb=>by simpa using h b hb⟩
  ·intro h b hb;simpa using h.2 b hb
 rw[hr];constructor
 ·intro e;refine⟨?_,?_⟩
  ·rw[<- e];rfl
  ·have e2:(MN (CS xs)).drop 32=xs.drop 32:=by rw[e]
   rw[<- e2];unfold MN;rw[List.drop_append_of_le_length (by omega),Lt (by omega),QN]
 ·intro⟨e1,e2⟩;have f:=bI hl h;rw[<- bJ hl,e2,<- WB]at f;have:MN (CS xs)=GE (CS xs)++Ej (WH xs 8)++List.replicate 32 0:=rfl;rw[this,f];have g:=pY hl;rw[e1]at g;exact g
theorem bM{xs:List UInt8}(hl:xs.length=64):Kk xs=if RC (CS xs)=true/\MN (CS xs)=xs then(CS xs,0)else(nZ,8):=by
 unfold Kk;rw[if_neg (by omega)];by_cases h:RC (CS xs)=true
 ·have e:=oL hl h;by_cases hb:MN (CS xs)=xs
  ·rw[if_pos ⟨(e.1 hb).1,(e.1 hb).2,h⟩,if_pos ⟨h,hb⟩]
  ·rw[if_neg fun x=>hb (e.2 ⟨x.1,x.2.1⟩),if_neg fun x=>hb x.2]
 ·rw[if_neg fun x=>h x.2.2,if_neg fun x=>h x.1]
end Go.Z
end
