/- Whole codes and whole functions over abstract values. No condition. -/
import Derived.RangeFuncIn
import Derived.Sort.LoopGhostIn
import Derived.Test.YtmglaebjmaomnaaGreatDoorTAvS
open Bool renaming and_eq_true→aG
open List renaming map_append→bC, append_assoc→bg, mem_singleton→cO, replicate→bM, append_nil→aS, nil_append→aC
open List.cons renaming injEq→aP
open Option renaming map_eq_some_iff→aQ, map_some→dV
open Option.some renaming injEq→au
set_option linter.unusedSimpArgs false
set_option linter.unusedVariables false
namespace Go.Av
open Go.RowKit
def lF.flat:lF→Bool
 | .seq a b | .cond _ a b=>a.flat&&b.flat
 | .block _ c | .loop c=>c.flat
 | .range .. => false
 |_=>true
def comp(P:Program)(H:Nat→List (Nat×List Nat)×List Nat):Code→Option lF
 | .skip=>some .skip
 | .label _=>some .skip
 | .scope c=>comp P H c
 | .region id ops draw=>if FI ops then (if draw then (if okS P ops (H id)then (Wu P ops (H id).1).map .row else none)else (sK P ops (List.range ops.size)).map .row)else none
 | .seq a b=>match comp P H a,comp P H b with
  |some x,some y=>some (.seq x y)
  |_,_=>none
 | .cond c a b=>if uG c then match comp P H a,comp P H b with
   |some x,some y=>some (.cond c x y)
   |_,_=>none
  else none
 | .block id c=>(comp P H c).map (.block id)
 | .loop c=>(comp P H c).map .loop
 | .exit id=>some (.exit id)
 | .ret=>some .ret
 | .rangeFunc f ps a b=>if uG f then match comp P H a,comp P H b with
   |some x,some y=>if x.flat&&y.flat then some (.range f ps.toList x y)else none
   |_,_=>none
  else none
 |_=>none
def awp(P:Program)(Γ:jG)(Kp:V→Store→Prop):lF→(Ex→St→Prop)→St→Prop
 | .skip,Q,st=>Q .normal st
 | .row l,Q,st=>sG P Γ Kp l (Q .normal) st
 | .seq a b,Q,st=>awp P Γ Kp a (wY (awp P Γ Kp b Q) Q) st
 | .cond c a b,Q,st=>match ev Γ st.t c with
  | .val (.bool t)=>(t=true→awp P Γ Kp a Q st)∧(t=false→awp P Γ Kp b Q st)
  |_=>False
 | .block id c,Q,st=>awp P Γ Kp c (nT id Q) st
 | .loop c,Q,st=>∃ (I:Nat→St→Prop) (n:Nat),I n st∧∀ n s,I n s→awp P Γ Kp c (wY (fun s' => ∃ n',n'<n∧I n' s') Q) s
 | .exit id,Q,st=>Q (.exit id) st
 | .ret,Q,st=>Q .ret st
 | .range f ps x y,Q,st=>match ev Γ st.t f with
  | .fn (.func g) first caps=>∀ H cx cy,comp P H cx=some x→comp P H cy=some y→∀ fn l D,st.m l=none →
    jB P Γ g (first++[.fn (.yield l) [] []]++caps) (st.m.set l (.loop true fn st.t ps.toArray cx cy D)) fun o m'=>match o with
     | .ret _=>∃ m₁,m'=m₁.set l (.loop true fn st.t ps.toArray cx cy D)∧m₁ l=none∧Q .normal { st with m:=m₁ }
     | .pan _=>False
  |_=>False
section
variable {P:Program} {Γ:jG} {B0:Nat} {mF:Store} {ds:List Deferred} {G G0:Gh} {st:St} {a:Act} {w w0:World}
def FM(D:Nat):Deferred:={ target:=.collected D,args:=#[] }
def dst(Ds:List Nat):Store:=fun b=>if b∈Ds then some .defer else none
structure OkD (mF:Store) (Ds:List Nat):Prop where
 nodup:Ds.Nodup
 none:∀ b∈Ds,mF b=none
theorem zeX:dst []=fun _=>none:=by funext b;simp[dst]
theorem rM(m:Store):m.or (dst [])=m:=by funext b;simp only[Store.or,zeX];cases m b<;>rfl
theorem Ny(m:Store)(A B:List Nat):(m.or (dst A)).or (dst B)=m.or (dst (B++A)):=by
 funext b;simp only[Store.or,dst,List.mem_append]
 cases m b with
 |some x=>rfl
 |none=>
  by_cases h1:b∈A
  ·simp[h1]
  ·by_cases h2:b∈B
   ·simp[h1,h2]
   ·simp[h1,h2]
theorem xe{m f:Store}{b:Nat}:(m.or f) b=none↔m b=none∧f b=none:=by
 constructor
 ·exact mX
 ·rintro⟨h1,h2⟩;simp[Store.or,h1,h2]
def qH(Γ:jG)(B0:Nat)(mF:Store)(ds:List Deferred)(G0:Gh)(w0:World)(fl:Bool)(Q:St→Prop)(a:Act)(w:World):Prop:=
 ∃ Ds:List Nat,(fl=true→Ds=[])∧OkD mF Ds∧GL Γ B0 (mF.or (dst Ds)) (Ds.map FM++ds) G0 w0 Q a w
def GK(Γ:jG)(B0:Nat)(mF:Store)(ds:List Deferred)(G0:Gh)(w0:World)(Kp:V→Store→Prop)(ch:List PanicEntry)(a:Act)(w:World):Prop:=
 ∃ Ds:List Nat,OkD mF Ds∧QP Γ B0 (mF.or (dst Ds)) (Ds.map FM++ds) G0 w0 Kp ch a w
theorem qH.of{fl:Bool}{Q:St→Prop}(h:GL Γ B0 mF ds G0 w0 Q a w):qH Γ B0 mF ds G0 w0 fl Q a w:=
 ⟨[],fun _=>rfl,⟨List.nodup_nil,fun _ h=>by cases h⟩,by rw[rM];exact h⟩
theorem GK.of{ch:List PanicEntry}{Kp:V→Store→Prop}(h:QP Γ B0 mF ds G0 w0 Kp ch a w):GK Γ B0 mF ds G0 w0 Kp ch a w:=
 ⟨[],⟨List.nodup_nil,fun _ h=>by cases h⟩,by rw[rM];exact h⟩
theorem OkD.app{A B:List Nat}(h:OkD mF A)(k:OkD (mF.or (dst A)) B):OkD mF (B++A) where
 nodup:=by
  rw[List.nodup_append];refine⟨k.nodup,h.nodup,fun x hx y hy e => ?_⟩;subst e;have:=(mX (k.none x hx)).2;simp[dst,hy]at this
 none:=fun b hb=>by
  rcases List.mem_append.1 hb with h1|h1
  ·exact(mX (k.none b h1)).1
  ·exact h.none b h1
theorem qH.trans{fl:Bool}{Ds:List Nat}{Q:St→Prop}(hf:fl=true→Ds=[])(hD:OkD mF Ds)(h:qH Γ B0 (mF.or (dst Ds)) (Ds.map FM++ds) G0 w0 fl Q a w):qH Γ B0 mF ds G0 w0 fl Q a w:=by
 obtain⟨Es,h1,h2,h3⟩:=h;refine⟨Es++Ds,fun k=>by rw[h1 k,hf k];rfl,hD.app h2,?_⟩;rw[Ny]at h3;rw[bC,bg];exact h3
theorem GK.trans{ch:List PanicEntry}{Kp:V→Store→Prop}{Ds:List Nat}(hD:OkD mF Ds)(h:GK Γ B0 (mF.or (dst Ds)) (Ds.map FM++ds) G0 w0 Kp ch a w):GK Γ B0 mF ds G0 w0 Kp ch a w:=by
 obtain⟨Es,h2,h3⟩:=h;refine⟨Es++Ds,hD.app h2,?_⟩;rw[Ny]at h3;rw[bC,bg];exact h3
theorem qH.mono{fl fl':Bool}{Q Q':St→Prop}(hf:fl'=true→fl=true)(hq:∀ s,Q s→Q' s)(h:qH Γ B0 mF ds G0 w0 fl Q a w):qH Γ B0 mF ds G0 w0 fl' Q' a w:=by
 obtain⟨Ds,h1,h2,G,st,h3,h4,h5,h6⟩:=h;exact⟨Ds,fun k=>h1 (hf k),h2,G,st,h3,h4,h5,hq _ h6⟩
def DI(Γ:jG)(B0:Nat)(mF:Store)(ds:List Deferred)(G0:Gh)(w0:World)(fl:Bool)(Kp:V→Store→Prop)(Q:Ex→St→Prop):Exit→Act→World→Prop
 | .normal,a,w=>qH Γ B0 mF ds G0 w0 fl (Q .normal) a w
 | .ret,a,w=>qH Γ B0 mF ds G0 w0 fl (Q .ret) a w
 | .exit id,a,w=>qH Γ B0 mF ds G0 w0 fl (Q (.exit id)) a w
 | .panic ch,a,w=>GK Γ B0 mF ds G0 w0 Kp ch a w
 |_,_,_=>False
theorem DI.trans{fl fl':Bool}{Kp:V→Store→Prop}{Q:Ex→St→Prop}{Ds:List Nat}(hf:fl=true→Ds=[])(hk:fl=true→fl'=true)(hD:OkD mF Ds){e:Exit}(h:DI Γ B0 (mF.or (dst Ds)) (Ds.map FM++ds) G0 w0 fl' Kp Q e a w):DI Γ B0 mF ds G0 w0 fl Kp Q e a w:=by
 cases e with
 |normal=>exact qH.trans hf hD (h.mono hk (fun _ q=>q))
 |ret=>exact qH.trans hf hD (h.mono hk (fun _ q=>q))
 |exit id=>exact qH.trans hf hD (h.mono hk (fun _ q=>q))
 |panic ch=>exact GK.trans hD h
 |goto l=>exact h
 |outgrown=>exact h
theorem DI.mono{fl fl':Bool}{Kp:V→Store→Prop}{Q:Ex→St→Prop}(hf:fl'=true→fl=true){e:Exit}(h:DI Γ B0 mF ds G0 w0 fl Kp Q e a w):DI Γ B0 mF ds G0 w0 fl' Kp Q e a w:=by
 cases e with
 |normal=>exact qH.mono hf (fun _ q=>q) h
 |ret=>exact qH.mono hf (fun _ q=>q) h
 |exit id=>exact qH.mono hf (fun _ q=>q) h
 |panic ch=>exact h
 |goto l=>exact h
 |outgrown=>exact h
theorem Uf{f:Operand}{ps:Array Tmp}{cx cy:Code}{x y:lF}{Kp:V→Store→Prop}{H:Nat→List (Nat×List Nat)×List Nat}{Q:Ex→St→Prop}(hop:uG f=true)(hx:comp P H cx=some x)(hy:comp P H cy=some y)
  (ha:awp P Γ Kp (.range f ps.toList x y) Q st) (h:SR Γ B0 mF ds G st a w) (hG:G0.le G) (hB:Below B0 w0 w):(Code.rangeFunc f ps cx cy).wpIn (Fr none) 0 P (DI Γ B0 mF ds G0 w0 false Kp Q) a w:=by
 simp only[awp]at ha
 split at ha
 ·rename_i g first caps hp;refine wpIn_rangeFunc fun fn _ => ?_;have hfv:=CX h hop;rw[hp]at hfv
  obtain⟨us,ws,e1,r1,r2⟩:∃ us ws,a.eval f = .func (.func g) us.toArray ws.toArray∧kE G first us∧kE G caps ws:=by
   generalize a.eval f=z at hfv
   cases hfv with
   |fn h1 h2=>exact⟨_,_,rfl,h1,h2⟩
  obtain⟨W1,hW1⟩:∃ W1,w.alloc (.deferred (some []))=W1:=⟨_,rfl⟩;obtain⟨W2,hW2⟩:∃ W2,W1.alloc (x9 true fn a.tmps.toList ps cx cy w.heap.size)=W2:=⟨_,rfl⟩;have s1:W1.heap.size=w.heap.size+1:=by rw[←hW1];simp
  have s2:W2.heap.size=w.heap.size+2:=by rw[←hW2];simp[s1]
  have k1:W1.heap[w.heap.size]? = some (.deferred (some [])):=by rw[←hW1];exact World.alloc_heap_new _ _
  have k2:W2.heap[W1.heap.size]? = some (x9 true fn a.tmps.toList ps cx cy w.heap.size):=by rw[←hW2];exact World.alloc_heap_new _ _
  have fr:=h.rep.fresh;have fr1:=mX fr
  have R1:Rep Γ B0 G (st.m.or (mF.or (dst [w.heap.size]))) W1:=by
   have:=(h.rep.alloc (.deferred (some []))).zbh (b:=w.heap.size) h.rep.base (by rw[hW1];exact k1) fr;rw[hW1]at this
   have e:(st.m.or mF).set w.heap.size .defer=st.m.or (mF.or (dst [w.heap.size])):=by
    funext b
    by_cases e:b=w.heap.size
    ·subst e;rw[Store.jv];simp[Store.or,fr1.1,fr1.2,dst]
    ·rw[Store.jw _ _ e];simp only[Store.or,dst,cO,e,if_false];cases st.m b with
     |some x=>rfl
     |none=>cases mF b<;>rfl
   rw[←e];exact this
  have fr2:=mX R1.fresh
  have D1:mQ st.m (mF.or (dst [w.heap.size])):=by
   intro b
   rcases h.disj b with q|q
   ·exact .inl q
   ·by_cases e:b=w.heap.size
    ·subst e;exact .inl fr1.1
    ·exact .inr (xe.2 ⟨q,by simp[dst,e]⟩)
  have R2:Rep Γ B0 G ((st.m.set W1.heap.size (.loop true fn st.t ps cx cy w.heap.size)).or (mF.or (dst [w.heap.size]))) W2:=by
   rw[xK];have:=(R1.alloc (x9 true fn a.tmps.toList ps cx cy w.heap.size)).Xv (b:=W1.heap.size) (r:=true) (f:=fn) (t:=st.t) (us:=a.tmps.toList) (ps:=ps) (x:=cx) (y:=cy) (D:=w.heap.size) R1.base (by rw[hW2];exact k2) h.tmps R1.fresh;rw[hW2]at this;exact this
  have B2:Below B0 w W2:=by
   rw[←hW2,←hW1];exact((Below.refl B0 w).alloc h.rep.base _).alloc (by have:=h.rep.base;simp;omega) _
  have hC:=ha H cx cy hx hy fn W1.heap.size w.heap.size fr2.1;have hY:ku G (.fn (.yield W1.heap.size) [] []) (.func (.yield W1.heap.size) #[] #[]):=.fn .nil .nil;have hcall:=hC.2 G B0 (mF.or (dst [w.heap.size])) W2 ((us++[.func (.yield W1.heap.size) #[] #[]])++ws) (D1.set _ fr2.2) R2 ((r1.append (.one hY)).append r2);refine⟨W1.heap.size,[FM w.heap.size],W2,{ target:=.fn (.func g) ws.toArray,args:=us.toArray ++ #[Value.func (.yield W1.heap.size) #[] #[]] },W2,g,((us++[Value.func (.yield W1.heap.size) #[] #[]])++ws).toArray,W2,?_,?_,fun _ _=>trivial,?_,(fun k=>by cases k),?_⟩
  ·have:=run_enterLoop_outer (P:=P) (w:=w) fn a.tmps ps cx cy;rw[hW1]at this;rw[show(Fr none).round=none from rfl,this,←hW2,s1];simp only[x9,Array.toArray_toList,FM];rfl
  ·simp only[resolve,e1];simp[go_sem]
  ·have hent:=hC.1;unfold enters at hent
   split at hent
   ·rename_i fd hfn;simp only[aG,bne_iff_ne,ne_eq]at hent
    have hbody:fd.body.isNone=false:=by
     cases hb:fd.body<;>simp_all
    simp only[invoke,callFunc,Sem.run_bind,run_program,Result.andThen_ok,hfn];simp[hent.1,hbody]
   ·cases hent
  ·refine(Dh.2 hcall).mono ?_;rintro e w' ⟨G',m',oo,g1,g2,g3,g4,g5,g6⟩
   cases g5 with
   |pan r=>exact g6.elim
   |ret r=>
    obtain⟨m₁,rfl,hn,hq⟩:=g6;have hl:=g3.loop W1.heap.size true fn st.t ps cx cy w.heap.size (oC (Store.jv _ _ _));obtain⟨hb0,us',hl',_⟩:=hl
    refine ⟨none,_,run_endLoop (P := P) hl' (by simp),[w.heap.size],(fun k => by cases k),⟨by simp,fun b hb => by
     rw[cO]at hb;subst hb
     exact fr1.2⟩,G',{ st with m:=m₁ },hG.trans g1,⟨?_,?_,h.tmps.mono g1,?_⟩,hB.trans (B2.trans (g4.trans ?_)),hq⟩
    ·refine Rep.putObj (g3.weaken ?_) hl' (fun _ _ _ k=>by cases k) (xe.2 ⟨hn,fr2.2⟩);intro b z hz;simp only[Store.or]at hz ⊢
     by_cases e:b=W1.heap.size
     ·subst e;have hz':(match m₁ W1.heap.size with|some x=>some x|none=>(mF.or (dst [w.heap.size])) W1.heap.size)=some z:=hz;rw[hn,fr2.2]at hz';cases hz'
     ·rw[Store.jw _ _ e];exact hz
    ·intro b
     rcases g2 b with q|q
     ·by_cases e:b=W1.heap.size
      ·subst e;exact .inl hn
      ·rw[Store.jw _ _ e]at q;exact .inl q
     ·exact .inr q
    ·show[FM w.heap.size]++a.defers=_;rw[h.defers];rfl
    ·exact yz hb0 (Below.refl B0 w')
 ·cases ha
theorem uC{P:Program}{b:Frame}{a:Act}{k:List Go.Item}{cs:List Frame}{w:World}{c:Code}:step P (lone (b.atR a (.code (.scope c)::k)) cs w) = .next (lone (b.atR a (.code c :: .inScope c::k)) cs w):=
 step_lone_go (by simp[stepG,stepG.exec,Frame.atR])
theorem OW{P:Program}{b:Frame}{a:Act}{k:List Go.Item}{cs:List Frame}{w:World}{c:Code}:step P (lone (b.atR a (.inScope c::k)) cs w) = .next (lone (b.atR a k) cs w):=
 step_lone_go (by simp[stepG,stepG.exec,Frame.atR])
theorem Vy{F:Fence}{n:Nat}{P:Program}{Q:Exit→Act→World→Prop}{a:Act}{w:World}{c:Code}(h:c.wpIn F n P (fun e a w=>match e with | .goto _=>False|e=>Q e a w) a w):(Code.scope c).wpIn F n P Q a w:=by
 intro b k cs hro hb hr;have h0:(lone (b.atR a (.code (.scope c)::k)) cs w).fenced P F:=fenced_calm hb hr rfl;obtain⟨e,a₁,w₁,hq,harr⟩:=h b (.inScope c::k) cs hro hb hr
 cases e with
 |normal=>exact⟨.normal,a₁,w₁,hq,.head h0 uC (StepsIn.trans harr (.one (fenced_calm hb hr rfl) OW))⟩
 |exit id=>
  have hx:exitTo id (.inScope c::k)=exitTo id k:=by simp[exitTo]
  exact ⟨.exit id,a₁,w₁,hq,fun k' hk => .head h0 uC (harr.1 k' (by rw [hx]; exact hk)),
   fun hr' hk=>let ⟨k₁,h1,h2⟩:=harr.2 hr' (by rw[hx];exact hk); ⟨k₁,h1,.head h0 uC h2⟩⟩
 |goto l=>exact hq.elim
 |ret=>exact⟨_,a₁,w₁,hq,.of_steps (.one h0 uC) harr⟩
 |panic ch=>exact⟨_,a₁,w₁,hq,.of_steps (.one h0 uC) harr⟩
 |outgrown=>exact⟨_,a₁,w₁,hq,.of_steps (.one h0 uC) harr⟩
theorem nH(hm:P.follows .mixedOrders=true){Kp:V→Store→Prop}(hKp:∀ v m b x,m b=none→Kp v m→Kp v (m.set b x)){H:Nat→List (Nat×List Nat)×List Nat}{r:Option Nat} :
  ∀ {c:Code} {ac:lF} {mF:Store} {ds:List Deferred} {Q:Ex→St→Prop} {G:Gh} {st:St} {a:Act} {w:World},comp P H c=some ac→(r=none∨ac.flat=true)→awp P Γ Kp ac Q st→SR Γ B0 mF ds G st a w→G0.le G→Below B0 w0 w→c.wpIn (Fr r) 0 P (DI Γ B0 mF ds G0 w0 ac.flat Kp Q) a w
 | .skip,ac,mF,ds,Q,G,st,a,w,hc,hr,ha,h,hG,hB=>by
  simp only[comp,au]at hc;subst hc;exact wpIn_skip (.of ⟨G,st,hG,h,hB,ha⟩)
 | .label l,ac,mF,ds,Q,G,st,a,w,hc,hr,ha,h,hG,hB=>by
  simp only[comp,au]at hc;subst hc;exact wpIn_label (.of ⟨G,st,hG,h,hB,ha⟩)
 | .region id ops draw,ac,mF,ds,Q,G,st,a,w,hc,hr,ha,h,hG,hB=>by
  simp only[comp]at hc
  split at hc
  ·rename_i hok
   split at hc
   ·rename_i hd
    split at hc
    ·rename_i hS;simp only[aQ]at hc;obtain⟨items,hi,rfl⟩:=hc;subst hd;refine wpIn_region_any hm ?_;exact VK hok hS hi (fun ch a w k=>.of k) (fun a w k=>.of k) hKp ha ⟨h.rep.drew,h.disj,h.tmps,h.defers⟩ hG hB.drew
    ·cases hc
   ·rename_i hd;simp only[aQ]at hc;obtain⟨items,hi,rfl⟩:=hc;have hd':draw=false:=by simpa using hd
    subst hd';refine wpIn_region ?_;exact MV hok (fun ch a w k=>.of k) (fun a w k=>.of k) _ (PG hi ha) h hG hB
  ·cases hc
 | .seq c d,ac,mF,ds,Q,G,st,a,w,hc,hr,ha,h,hG,hB=>by
  simp only[comp]at hc
  split at hc
  ·rename_i x y hx hy;simp only[au]at hc;subst hc;simp only[lF.flat,aG]at hr ⊢;refine wpIn_seq (wpIn_mono (nH hm hKp hx (hr.imp_right fun k=>k.1) ha h hG hB) ?_);intro e a' w' hq;have hfx:(x.flat&&y.flat)=true→x.flat=true:=fun k=>by simp at k;exact k.1
   cases e with
   |normal=>
    obtain⟨Ds,q1,q2,G',st',h1,h2,h3,h4⟩:=hq;exact wpIn_mono (nH hm hKp hy (hr.imp_right fun k=>k.2) h4 h2 h1 h3) fun e a'' w'' k=>DI.trans (fun k=>q1 (hfx k)) (fun k=>by simp at k;exact k.2) q2 k
   |ret=>exact qH.mono hfx (fun _ q=>q) hq
   |exit id=>exact qH.mono hfx (fun _ q=>q) hq
   |panic ch=>exact hq
   |goto l=>exact hq
   |outgrown=>exact hq
  ·cases hc
 | .cond c x y,ac,mF,ds,Q,G,st,a,w,hc,hr,ha,h,hG,hB=>by
  simp only[comp]at hc
  split at hc
  ·rename_i hop
   split at hc
   ·rename_i cx cy hx hy;simp only[au]at hc;subst hc;simp only[awp]at ha;simp only[lF.flat,aG]at hr ⊢
    split at ha
    ·rename_i t ht;have hr':=CX h hop;rw[ht]at hr'
     have hb:a.eval c = .bool t:=by
      generalize a.eval c=z at hr';cases hr';rfl
     exact wpIn_cond_split hb (fun k=>wpIn_mono (nH hm hKp hx (hr.imp_right fun k=>k.1) (ha.1 k) h hG hB) fun e a w q=>DI.mono (fun k=>by simp at k;exact k.1) q)
      (fun k=>wpIn_mono (nH hm hKp hy (hr.imp_right fun k=>k.2) (ha.2 k) h hG hB) fun e a w q=>DI.mono (fun k=>by simp at k;exact k.2) q)
    ·cases ha
   ·cases hc
  ·cases hc
 | .block id c,ac,mF,ds,Q,G,st,a,w,hc,hr,ha,h,hG,hB=>by
  simp only[comp,aQ]at hc;obtain⟨x,hx,rfl⟩:=hc;refine wpIn_block (wpIn_mono (nH hm hKp hx hr ha h hG hB) ?_);intro e a' w' hq
  cases e with
  |exit id' =>
   simp only[Exit.inBlock]
   split
   ·rename_i he;exact qH.mono (fun k=>k) (fun s q=>by simp only[nT]at q;rwa [if_pos he]at q) hq
   ·rename_i he;exact qH.mono (fun k=>k) (fun s q=>by simp only[nT]at q;rwa [if_neg he]at q) hq
  |normal=>exact hq
  |ret=>exact hq
  |panic ch=>exact hq
  |goto l=>exact hq
  |outgrown=>exact hq
 | .loop c,ac,mF,ds,Q,G,st,a,w,hc,hr,ha,h,hG,hB=>by
  simp only[comp,aQ]at hc;obtain⟨x,hx,rfl⟩:=hc;obtain⟨I,n0,hI,hround⟩:=ha;refine wpIn_loop_ghost (fun n a w=>qH Γ B0 mF ds G0 w0 x.flat (I n) a w) n0 (.of ⟨G,st,hG,h,hB,hI⟩) ?_;rintro n a' w' ⟨Ds,q1,q2,G',st',h1,h2,h3,h4⟩;refine wpIn_mono (nH hm hKp hx hr (hround n st' h4) h2 h1 h3) ?_;intro e a'' w'' hq;have hq':=DI.trans (fl:=x.flat) q1 (fun k=>k) q2 hq
  cases e with
  |normal=>
   obtain⟨Es,p1,p2,G2,st2,k1,k2,k3,n',hn,k4⟩:=hq';exact⟨n',hn,Es,p1,p2,G2,st2,k1,k2,k3,k4⟩
  |ret=>exact hq'
  |exit id=>exact hq'
  |panic ch=>exact hq'
  |goto l=>exact hq'
  |outgrown=>exact hq'
 | .exit id,ac,mF,ds,Q,G,st,a,w,hc,hr,ha,h,hG,hB=>by
  simp only[comp,au]at hc;subst hc;exact wpIn_exit (.of ⟨G,st,hG,h,hB,ha⟩)
 | .ret,ac,mF,ds,Q,G,st,a,w,hc,hr,ha,h,hG,hB=>by
  simp only[comp,au]at hc;subst hc;exact wpIn_ret (.of ⟨G,st,hG,h,hB,ha⟩)
 | .rangeFunc f ps cx cy,ac,mF,ds,Q,G,st,a,w,hc,hr,ha,h,hG,hB=>by
  simp only[comp]at hc
  split at hc
  ·rename_i hop
   split at hc
   ·rename_i x y hx hy
    split at hc
    ·simp only[au]at hc;subst hc
     rcases hr with rfl|hr
     ·exact Uf hop hx hy ha h hG hB
     ·cases hr
    ·cases hc
   ·cases hc
  ·cases hc
 | .scope c,ac,mF,ds,Q,G,st,a,w,hc,hr,ha,h,hG,hB=>by
  simp only[comp]at hc;refine Vy (wpIn_mono (nH hm hKp hc hr ha h hG hB) ?_);intro e a' w' q
  cases e with
  |goto l=>exact q
  |_=>exact q
 | .goto ..,_,_,_,_,_,_,_,_,hc,_,_,_,_,_=>by simp[comp]at hc
 | .refuse ..,_,_,_,_,_,_,_,_,hc,_,_,_,_,_=>by simp[comp]at hc
inductive oZ where
 |tmp (t:Tmp)
 |cell (t:Tmp) (s:Option Nat)
def oD(P:Program):List ResultVar→Option (List oZ)
 |[]=>some []
 | .tmp t::r=>(oD P r).map (.tmp t :: ·)
 | .cell t T::r=>match sQ P T,oD P r with
  |some s,some l=>some (.cell t s::l)
  |_,_=>none
def qJ(st:St):oZ→Option V
 | .tmp t=>some (st.t.getD t (.val undef))
 | .cell t s=>match st.t.getD t (.val undef)with
  | .ptr b o=>match st.m b with
   |some (.var _ cs)=>mW cs o s
   |_=>none
  |_=>none
def qo(st:St):List oZ→Option (List V)
 |[]=>some []
 |x::r=>match qJ st x,qo st r with
  |some v,some l=>some (v::l)
  |_,_=>none
def resV(rs:List oZ)(st:St):Option V:=match rs with
 |[x]=>qJ st x
 |rs=>(qo st rs).map .tup
structure AFn where
 ntmps:Nat
 res:List oZ
 body:lF
def qO(P:Program)(H:Nat→List (Nat×List Nat)×List Nat)(f:FuncId):Option AFn:=match P.funcs[f]? with
 |some fn=>match fn.body with
  | some c => if fn.name != "runtime.NumGoroutine" then match comp P H c, oD P fn.results.toList with
    |some b,some r=>some ⟨fn.ntmps,r,b⟩
    |_,_=>none
   else none
  |none=>none
 |none=>none
def start(n:Nat)(args:List V):List V:=args++bM (n-args.length) (.val undef)
def vT(rs:List oZ)(R:Out→Store→Prop):Ex→St→Prop
 | .exit _,_=>False
 |_,st=>∃ v,resV rs st=some v∧∃ m',(∀ b x,m' b=some x→st.m b=some x)∧R (.ret v) m'
theorem Rl(h:SR Γ B0 mF ds G st a w){r:ResultVar}{x:oZ}{v:V}(hx:oD P [r]=some [x])(hv:qJ st x=some v) :
  ∃ u,(match r with | .tmp t=>pure (a.tmps.getD t undef) | .cell c t=>do loadVar t (←asAddr (a.tmps.getD c undef)):Sem Value).run P w = .ok u w∧ku G v u:=by
 cases r with
 |tmp t=>
  simp only[oD,dV,au,aP,and_true]at hx;subst hx;simp only[qJ,au]at hv;subst hv;exact⟨_,rfl,CX (Γ:=Γ) h (x:=.tmp t) rfl⟩
 |cell c T=>
  simp only[oD]at hx
  split at hx
  ·rename_i s l hs hl;simp only[au]at hl;subst hl;simp only[au,aP,and_true]at hx;subst hx;simp only[qJ]at hv;have hr:=CX (Γ:=Γ) h (x:=.tmp c) rfl;simp only[ev,Act.eval]at hr
   obtain ⟨u,h1,h2⟩ := JV (m := st.m) h.rep (fun b c hb => oC hb) hs (x := st.t.getD c (.val undef)) (v := v) (by
    split at hv
    ·rename_i hp;rw[hp];exact hv
    ·cases hv) hr
   split at hv
   ·rename_i b o hp;rw[hp]at hr
    have hce:a.tmps.getD c undef = .pointer (some ⟨b,o,none⟩):=by
     generalize a.tmps.getD c undef=z at hr;cases hr;rfl
    rw[hce]at h1;exact⟨u,by simpa [hce,asAddr,Instr.loadAt,Instr.sureAddr] using h1,h2⟩
   ·cases hv
  ·cases hx
def Le(tmps:Array Value):ResultVar→Sem Value
 | .tmp t=>pure (tmps.getD t undef)
 | .cell c t=>do loadVar t (←asAddr (tmps.getD c undef))
theorem xW(h:SR Γ B0 mF ds G st a w):∀ {rs:List ResultVar} {xs:List oZ} {vs:List V},oD P rs=some xs→qo st xs=some vs→∃ us,(rs.mapM (Le a.tmps)).run P w = .ok us w∧kE G vs us∧us.length=rs.length
 |[],xs,vs,hx,hv=>by
  simp only[oD,au]at hx;subst hx;simp only[qo,au]at hv;subst hv;exact⟨[],by simp,.nil,rfl⟩
 |r::rs,xs,vs,hx,hv=>by
  have key:∃ x l,oD P [r]=some [x]∧oD P rs=some l∧xs=x::l:=by
   cases r with
   |tmp t=>
    simp only[oD,aQ]at hx;obtain⟨l,h1,rfl⟩:=hx;exact⟨.tmp t,l,rfl,h1,rfl⟩
   |cell c T=>
    simp only[oD]at hx
    split at hx
    ·rename_i s l hs hl;simp only[au]at hx;subst hx;exact⟨.cell c s,l,by simp[oD,hs],hl,rfl⟩
    ·cases hx
  obtain⟨x,l,h1,h2,rfl⟩:=key;simp only[qo]at hv
  split at hv
  ·rename_i v vs' hv1 hv2;simp only[au]at hv;subst hv;obtain⟨u,g1,g2⟩:=Rl h h1 hv1;obtain⟨us,k1,k2,k3⟩:=xW h h2 hv2;refine⟨u::us,?_,.cons g2 k2,by simp[k3]⟩;have g1':(Le a.tmps r).run P w = .ok u w:=by cases r<;>exact g1
   simp[List.mapM_cons,g1',k1]
  ·cases hv
theorem wP(h:SR Γ B0 mF ds G st a w){fn:Func}{rs:List oZ}{v:V}(hr:oD P fn.results.toList=some rs)(hv:resV rs st=some v):∃ u,(results fn a.tmps).run P w = .ok u w∧ku G v u:=by
 have hall:∀ {us:List Value},(fn.results.toList.mapM (Le a.tmps)).run P w = .ok us w→(results fn a.tmps).run P w = .ok (if h:us.toArray.size=1 then us.toArray[0]else .tuple us.toArray) w:=by
  intro us hus;have e:results fn a.tmps=(do let vs ←fn.results.mapM (Le a.tmps);pure (if h:vs.size=1 then vs[0]else .tuple vs)):=rfl;rw[e,Array.mapM_eq_mapM_toList];simp only[Sem.run_bind,Sem.run_map];rw[hus];simp
 have hone:∀ x,rs=[x]→∃ u,(results fn a.tmps).run P w = .ok u w∧ku G v u:=by
  rintro x rfl;simp only[resV]at hv;obtain⟨us,k1,k2,k3⟩:=xW (vs:=[v]) h hr (by simp[qo,hv]);obtain⟨u,ys,rfl,r1,r2⟩:=k2.cons_inv;obtain rfl:=r2.kN;exact⟨u,by rw[hall k1];simp,r1⟩
 cases rs with
 |nil=>
  simp only[resV,qo,dV,au]at hv;subst hv;obtain⟨us,k1,k2,k3⟩:=xW (vs:=[]) h hr rfl;obtain rfl:=k2.kN;exact⟨.tuple #[],by rw[hall k1];simp,.tup .nil⟩
 |cons x r=>
  cases r with
  |nil=>exact hone x rfl
  |cons y r=>
   simp only[resV,aQ]at hv;obtain⟨vs,hvs,rfl⟩:=hv;obtain⟨us,k1,k2,k3⟩:=xW h hr hvs
   have hlen:us.length≠1:=by
    have:vs.length=us.length:=k2.length;rw[←this];simp only[qo]at hvs
    split at hvs
    ·rename_i v1 l1 _ h2
     split at h2
     ·simp only[au]at h2 hvs;subst h2;subst hvs;simp
     ·cases h2
    ·cases hvs
   exact⟨.tuple us.toArray,by rw[hall k1];simp[hlen],.tup k2⟩
theorem Rx{m m' f:Store}(h:∀ b x,m' b=some x→m b=some x)(hD:mQ m f):∀ b x,(m'.or f) b=some x→(m.or f) b=some x:=by
 intro b x hx;simp only[Store.or]at hx ⊢
 cases hm' : m' b with
 |some y=>
  rw[hm']at hx;rw[h b y hm'];exact hx
 |none=>
  rw[hm']at hx
  rcases hD b with h1|h1
  ·rw[h1];exact hx
  ·rw[h1]at hx;cases hx
theorem yc{fn:Func}{tmps:Array Value}{R:Ending→World→Prop}{u:FrameMode}{M:Store}(hu:u ≠ .run):∀ (Ds:List Nat) {w:World},OkD M Ds→Rep Γ B0 G (M.or (dst Ds)) w→(∀ w',Rep Γ B0 G M w'→Below B0 w w'→LeavesIn (Fr none) 0 P fn tmps R [] u w')→LeavesInM (Fr none) 0 P fn tmps R (Ds.map FM) u w
 |[],w,hD,h,hk=>hk w (by rwa [rM]at h) (Below.refl _ _)
 |D::Ds,w,hD,h,hk=>by
  have hn:=hD.none D (List.mem_cons_self ..);have hnd:=List.nodup_cons.1 hD.nodup;obtain⟨h1,h2⟩:=h.defer D (by simp[Store.or,hn,dst]);refine⟨hu,.inl ⟨D,_,rfl,run_takeDeferred h2,?_⟩⟩;refine yc hu Ds ⟨hnd.2,fun b hb=>hD.none b (List.mem_cons_of_mem _ hb)⟩ ?_ (fun w' k1 k2=>hk w' k1 ((yz h1 (Below.refl B0 w)).trans k2));refine(h.weaken ?_).putObj h2 (fun _ _ _ k=>by cases k) (xe.2 ⟨hn,by simp[dst,hnd.1]⟩);intro b z hz;simp only[Store.or,dst]at hz ⊢
  cases hb:M b with
  |some y=>rw[hb]at hz;exact hz
  |none=>
   rw[hb]at hz
   by_cases e:b∈Ds
   ·simpa [e] using hz
   ·simp[e]at hz
theorem jE(hm:P.follows .mixedOrders=true){H:Nat→List (Nat×List Nat)×List Nat}{f:FuncId}{F:AFn}(hF:qO P H f=some F){args:List V}{m:Store}{R:Out→Store→Prop}(hR:∀ v m b x,m b=none→R (.pan v) m→R (.pan v) (m.set b x))
  (h:awp P Γ (fun v m'=>R (.pan v) m') F.body (vT F.res R) ⟨start F.ntmps args,m⟩):jB P Γ f args m R:=by
 unfold qO at hF
 split at hF
 ·rename_i fn hfn
  split at hF
  ·rename_i c hc
   split at hF
   ·rename_i hname
    split at hF
    ·rename_i b r hb hr;simp only[au]at hF;subst hF;refine⟨by simp only[enters,hfn,hname,hc];rfl,fun G B0 mF w cargs hD hRep hL => ?_⟩;refine Dh.1 (callsIn_of_wp_marks (F:=Fr none) (n:=0) hfn hc trivial ?_);have hlen:=hL.length
     have hSR:SR Γ B0 mF [] G ⟨start fn.ntmps args,m⟩ { tmps:=cargs.toArray++Array.replicate (fn.ntmps-cargs.toArray.size) undef,defers:=[] } w:=by
      refine⟨hRep,hD,?_,rfl⟩;simp only[start,Array.toList_append,Array.toList_replicate,List.size_toArray,←hlen];refine hL.append ?_;rw[show bM (fn.ntmps-args.length) (V.val undef)=(bM (fn.ntmps-args.length) undef).map V.val from by simp];exact kE.vals _ (fun v hv=>by rw[(List.mem_replicate.1 hv).2];rfl)
     refine wpIn_mono (nH (r:=none) hm hR hb (.inl rfl) h hSR (Gh.le.refl G) (Below.refl B0 w)) ?_;intro e a' w' hq
     have okM:∀ {m':Store} {Ds:List Nat},OkD mF Ds→mQ m' (mF.or (dst Ds))→OkD (m'.or mF) Ds∧mQ m' mF:=by
      intro m' Ds h1 h2;refine⟨⟨h1.nodup,fun b hb=>xe.2 ⟨?_,h1.none b hb⟩⟩,fun b => ?_⟩
      ·rcases h2 b with k|k
       ·exact k
       ·have:=(mX k).2;simp[dst,hb]at this
      ·rcases h2 b with k|k
       ·exact .inl k
       ·exact .inr (mX k).1
     have fin:∀ e,(e=Ex.normal∨e=Ex.ret)→qH Γ B0 mF [] G w b.flat (vT r R e) a' w'→LeavesInM (Fr none) 0 P fn a'.tmps (fun e w'' => ∃ G' m' o,G.le G' ∧ mQ m' mF∧Rep Γ B0 G' (m'.or mF) w''∧Below B0 w w'' ∧ zaK G' o e∧R o m') a'.defers .returning w':=by
      rintro e he ⟨Ds,_,q2,G',st',h1,h2,h3,h4⟩
      have h5:∃ v,resV r st'=some v∧∃ m',(∀ b x,m' b=some x→st'.m b=some x)∧R (.ret v) m':=by
       rcases he with rfl|rfl<;>exact h4
      obtain⟨v,hv,m',hsub,hRv⟩:=h5;obtain⟨ok1,ok2⟩:=okM q2 h2.disj;have hrep:=h2.rep;rw[←or_assoc]at hrep;rw[h2.defers,aS];refine yc (by simp) Ds ok1 hrep (fun w'' k1 k2 => ?_);obtain⟨u,k3,k4⟩:=wP (a:=a') (ds:=Ds.map FM++[]) ⟨k1,ok2,h2.tmps,h2.defers⟩ hr hv;refine⟨u,k3,G',m',.ret v,h1,fun b => ?_,k1.weaken (Rx hsub ok2),h3.trans k2,.ret k4,hRv⟩
      rcases ok2 b with k|k
      ·left
       cases hb' : m' b with
       |none=>rfl
       |some x=>rw[hsub b x hb']at k;cases k
      ·exact .inr k
     cases e with
     |normal=>exact fin .normal (.inl rfl) hq
     |ret=>exact fin .ret (.inr rfl) hq
     |exit id=>
      obtain⟨_,_,_,_,_,_,_,_,h4⟩:=hq;exact h4.elim
     |panic ch=>
      obtain⟨Ds,q2,G',m',v,u,h1,h2,h3,h4,h5,rfl,h6,h7⟩:=hq;obtain⟨ok1,ok2⟩:=okM q2 h3;rw[←or_assoc]at h2;show LeavesInM (Fr none) 0 P fn a'.tmps _ a'.defers _ w';rw[h4,aS];exact yc (by simp) Ds ok1 h2 (fun w'' k1 k2=>⟨G',m',.pan v,h1,ok2,k1,h5.trans k2,.pan h6,h7⟩)
     |goto l=>exact hq
     |outgrown=>exact hq.elim
    ·cases hF
   ·cases hF
  ·cases hF
 ·cases hF
def F6:List V→List Tmp→List V→List V
 |t,p::ps,v::vs=>F6 (t.set p v) ps vs
 |t,_,_=>t
theorem MP:∀ {t vs:List V} {us ws:List Value} (ps:List Tmp),kE G t us→kE G vs ws→kE G (F6 t ps vs) (((ps.zip ws).foldl (fun (x:Array Value) (y:Tmp×Value)=>x.setIfInBounds y.1 y.2) us.toArray)).toList
 |t,vs,us,ws,[],h,k=>by cases vs<;>simpa [F6] using h
 |t,[],us,ws,p::ps,h,k=>by
  obtain rfl:=k.kN
  simpa [F6] using h
 |t,v::vs,us,ws,p::ps,h,k=>by
  obtain⟨u,ws',rfl,r1,r2⟩:=k.cons_inv;have:=MP ps (h.set p r1) r2
  simpa [F6] using this
theorem Rep.turn{M:Store}(h:Rep Γ B0 G M w){l:Nat}{r r':Bool}{fn:FuncId}{t:List V}{ps:Array Tmp}{cx cy:Code}{D:Nat}(hl:M l=some (.loop r fn t ps cx cy D)) :
  ∃ us,w.heap[l]? = some (x9 r fn us ps cx cy D)∧kE G t us∧B0≤l∧Rep Γ B0 G (M.set l (.loop r' fn t ps cx cy D)) (w.putObj l (x9 r' fn us ps cx cy D)):=by
 obtain⟨hB,us,h1,h2⟩:=h.loop l r fn t ps cx cy D hl;refine⟨us,h1,h2,hB,?_⟩;obtain⟨N,hN⟩:∃ N:Store,(fun b=>if b=l then none else M b)=N:=⟨_,rfl⟩;have n1:N l=none:=by rw[←hN];simp
 have n2:∀ b x,N b=some x→M b=some x:=by
  intro b x hx;rw[←hN]at hx
  by_cases e:b=l
  ·simp[e]at hx
  ·simpa [e] using hx
 have n3:∀ x,M.set l x=N.set l x:=by
  intro x;funext b;rw[←hN]
  by_cases e:b=l
  ·subst e;rw[Store.jv,Store.jv]
  ·rw[Store.jw _ _ e,Store.jw _ _ e];simp[e]
 rw[n3];exact((h.weaken n2).putObj h1 (fun _ _ _ k=>by cases k) n1).Xv hB (World.putObj_heap_same (Array.getElem?_eq_some_iff.1 h1).1) h2 n1
theorem OJ(hm:P.follows .mixedOrders=true){H:Nat→List (Nat×List Nat)×List Nat}{cx cy:Code}{x y:lF}(hx:comp P H cx=some x)(hy:comp P H cy=some y)(fx:x.flat=true)(fy:y.flat=true){ps:List Tmp}{t args:List V}{m:Store}{fn:FuncId}{l D:Nat}{R:Store→Prop}(hl:m l=none)(hps:ps.length=args.length)
  (h:awp P Γ (fun _ _=>False) (.seq x y) (fun e s=>match e with | .normal=>R s.m|_=>False) ⟨F6 t ps args,m⟩) :
  oG P Γ l args (m.set l (.loop true fn t ps.toArray cx cy D)) fun o m'=>∃ m₁,m'=m₁.set l (.loop true fn t ps.toArray cx cy D)∧m₁ l=none∧o = .ret (.val (.bool true))∧R m₁:=by
 intro G B0 mF w cargs hD hRep hL;have hlF:mF l=none:=hD.CG (Store.jv _ _ _);rw[xK]at hRep;obtain⟨us,q1,q2,q3,_⟩:=hRep.turn (r':=true) (Store.jv _ _ _);have hlen:cargs.toArray.size=ps.toArray.size:=by simp[←hL.length,hps]
 have hrun:=run_yield (P:=P) (args:=cargs.toArray) q1 hlen;refine⟨fn,_,cx,cy,hrun,roundIn_of_wpIn (F:=Fence.wide) (n:=0) trivial ?_⟩
 have frameEq:∀ (m':Store) (z:Blk),m' l=none→(m'.or mF).set l z=m'.or (mF.set l z):=by
  intro m' z hm';funext b
  by_cases e:b=l
  ·subst e;simp only[Store.jv,Store.or,hm']
  ·rw[Store.jw _ _ e];simp only[Store.or];rw[Store.jw _ _ e]
 have hD1:∀ z,mQ m (mF.set l z):=by
  intro z b
  by_cases e:b=l
  ·subst e;exact .inl hl
  ·rw[Store.jw _ _ e]
   rcases hD b with k|k
   ·rw[Store.jw _ _ e]at k;exact .inl k
   ·exact .inr k
 have hDl:∀ {m':Store} {z:Blk},mQ m' (mF.set l z)→m' l=none:=by
  intro m' z hd
  rcases hd l with k|k
  ·exact k
  ·rw[Store.jv]at k;cases k
 have hDs:∀ {m':Store} {z:Blk} (z':Blk),mQ m' (mF.set l z)→mQ m' (mF.set l z'):=by
  intro m' z z' hd b
  by_cases e:b=l
  ·subst e;exact .inl (hDl hd)
  ·rcases hd b with k|k
   ·exact .inl k
   ·rw[Store.jw _ _ e]at k ⊢;exact .inr k
 have hSR:SR Γ B0 (mF.set l (.loop true fn t ps.toArray cx cy D)) [] G ⟨F6 t ps args,m⟩ { tmps:=(ps.toArray.zip cargs.toArray).foldl (fun tmps x=>tmps.setIfInBounds x.1 x.2) us.toArray,defers:=[] } w:=by
  refine⟨by rw[←frameEq _ _ hl];exact hRep,hD1 _,?_,rfl⟩;have:=MP ps q2 hL
  simpa using this
 simp only[awp]at h;refine wpIn_mono (nH (r:=some l) hm (fun _ _ _ _ _ k=>k) hx (.inr fx) h hSR (Gh.le.refl G) (Below.refl B0 w)) ?_;intro e a1 w1 hq
 cases e with
 |normal=>
  obtain⟨Ds,d1,_,G1,st1,h1,h2,h3,h4⟩:=hq;obtain rfl:=d1 fx;simp only[List.map_nil,aC,rM]at h2;have hn1:=hDl h2.disj;have hrep1:=h2.rep;rw[←frameEq _ _ hn1]at hrep1;obtain⟨us1,p1,p2,p3,p4⟩:=hrep1.turn (r':=false) (Store.jv _ _ _);rw[Store.kC,frameEq _ _ hn1]at p4;have hbr:=run_beginRound (P:=P) p1 rfl;refine⟨_,hbr,?_⟩;have hSR2:SR Γ B0 (mF.set l (.loop false fn t ps.toArray cx cy D)) [] G1 st1 a1 (w1.putObj l (x9 false fn us1 ps.toArray cx cy D)):=⟨p4,hDs _ h2.disj,h2.tmps,h2.defers⟩;refine wpIn_mono (nH (r:=some l) hm (fun _ _ _ _ _ k=>k) hy (.inr fy) h4 hSR2 h1 (yz p3 h3)) ?_;intro e a2 w2 hq
  cases e with
  |normal=>
   obtain⟨Es,d2,_,G2,st2,g1,g2,g3,g4⟩:=hq;obtain rfl:=d2 fy;simp only[List.map_nil,aC,rM]at g2;have hn2:=hDl g2.disj;have hrep2:=g2.rep;rw[←frameEq _ _ hn2]at hrep2;obtain⟨us2,e1,e2,e3,e4⟩:=hrep2.turn (r':=true) (Store.jv _ _ _);rw[Store.kC,←xK]at e4;have hen:=run_endRound (P:=P) none e1;refine⟨_,_,hen,G2,_,.ret (.val (.bool true)),g1,?_,e4,yz e3 g3,.ret (.val rfl),st2.m,rfl,hn2,rfl,g4⟩;intro b
   by_cases e:b=l
   ·subst e;exact .inr hlF
   ·rw[Store.jw _ _ e]
    rcases g2.disj b with k|k
    ·exact .inl k
    ·rw[Store.jw _ _ e]at k;exact .inr k
  |ret=>obtain⟨_,_,_,_,_,_,_,_,h4⟩:=hq;exact h4.elim
  |exit id=>obtain⟨_,_,_,_,_,_,_,_,h4⟩:=hq;exact h4.elim
  |panic ch=>obtain⟨_,_,_,_,_,_,_,_,_,_,_,_,_,h4⟩:=hq;exact h4.elim
  |goto l=>exact(show False from hq).elim
  |outgrown=>exact(show False from hq).elim
 |ret=>obtain⟨_,_,_,_,_,_,_,_,h4⟩:=hq;exact h4.elim
 |exit id=>obtain⟨_,_,_,_,_,_,_,_,h4⟩:=hq;exact h4.elim
 |panic ch=>obtain⟨_,_,_,_,_,_,_,_,_,_,_,_,_,h4⟩:=hq;exact h4.elim
 |goto l=>exact(show False from hq).elim
 |outgrown=>exact(show False from hq).elim
end
end Go.Av
