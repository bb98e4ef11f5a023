/- A function that defers one call: its contract. No condition. -/
import Derived.Test.YtmglaebjmaomnaaGreatDoorTAvD
open Bool renaming and_eq_true→aG
open Option.some renaming injEq→au
set_option linter.unusedSimpArgs false
set_option linter.unusedVariables false
namespace Go.Av
open Go.RowKit
inductive Et where
 |seq (a:lF) (b:Et)
 |defer (l:List Item) (f:Operand) (dst:Option Tmp) (q:BQ)
structure DFn where
 ntmps:Nat
 res:List oZ
 body:Et
def SN(ops:Array Oper):Option (Operand×Option Tmp):=match ops[ops.size-1]? with
 |some o=>match o.op with
  | .defer c=>match c.callee with
   | .value f=>if o.guard.isNone&&c.args.isEmpty&&uG f&&decide (0<ops.size)then some (f,o.dst)else none
   |_=>none
  |_=>none
 |none=>none
def U9:Code→Option (Array Oper×Operand×Option Tmp)
 | .region _ ops draw=>if draw then none else match SN ops with
  |some (f,d)=>if FI ops then some (ops,f,d)else none
  |none=>none
 |_=>none
def tJ(P:Program)(H:Nat→List (Nat×List Nat)×List Nat):Code→Option Et
 | .seq a b=>match U9 a with
  |some (ops,f,d)=>match sK P ops (List.range (ops.size-1)),Ei P H b with
   |some l,some q=>some (.defer l f d q)
   |_,_=>none
  |none=>match comp P H a,tJ P H b with
   |some x,some y=>if x.flat then some (.seq x y)else none
   |_,_=>none
 |_=>none
def zc8(P:Program)(H:Nat→List (Nat×List Nat)×List Nat)(f:FuncId):Option DFn:=match P.funcs[f]? with
 |some fn=>match fn.body with
  | some c => if fn.name != "runtime.NumGoroutine" then match tJ P H c, oD P fn.results.toList with
    |some b,some r=>some ⟨fn.ntmps,r,b⟩
    |_,_=>none
   else none
  |none=>none
 |none=>none
def zah(res:List oZ)(R:Out→Store→Prop)(t:List V)(m:Store):Prop:=
 ∃ v,resV res ⟨t,m⟩=some v∧∃ m',(∀ b x,m' b=some x→m b=some x)∧R (.ret v) m'
def leaveD(P:Program)(Γ:jG)(res:List oZ)(R:Out→Store→Prop)(g:FuncId)(caps:List V):Ex→St→Prop
 | .exit _,_=>False
 |_,s=>vO P Γ g caps s.m none (zah res R s.t)
def ze9(P:Program)(Γ:jG)(res:List oZ)(R:Out→Store→Prop):Et→St→Prop
 | .seq a b,st=>awp P Γ (fun v m'=>R (.pan v) m') a (wY (ze9 P Γ res R b) (vT res R)) st
 | .defer l f dst q,st => sG P Γ (fun _ _ => False) l (fun s => match ev Γ s.t f with
   | .fn (.func g) [] caps=>En P Γ (fun v s'=>vO P Γ g caps s'.m (some v) (zah res R s'.t)) q (leaveD P Γ res R g caps) (s.put dst (.val undef))
   |_=>False) st
section
variable {P:Program} {Γ:jG} {B0:Nat} {mF:Store} {ds:List Deferred} {G G0:Gh} {st:St} {a:Act} {w w0:World}
theorem Va{ops:Array Oper}{f:Operand}{d:Option Tmp}(h:SN ops=some (f,d)):∃ k o c,ops.size=k+1∧ops[k]? = some o∧o.op = .defer c∧c.callee = .value f∧o.guard=none∧c.args = #[]∧uG f=true∧o.dst=d:=by
 unfold SN at h
 split at h
 ·rename_i o ho
  split at h
  ·rename_i c hc
   split at h
   ·rename_i g hcal
    split at h
    ·rename_i hcc;simp only[au,Prod.mk.injEq]at h;obtain⟨rfl,rfl⟩:=h;simp only[aG,Option.isNone_iff_eq_none,Array.isEmpty_iff,decide_eq_true_eq]at hcc;obtain⟨⟨⟨h1,h2⟩,h3⟩,h4⟩:=hcc;exact⟨ops.size-1,o,c,by omega,ho,hc,hcal,h1,h2,h3,rfl⟩
    ·cases h
   ·cases h
  ·cases h
 ·cases h
theorem MX{ops:Array Oper}(hok:FI ops=true){Q:Exit→Act→World→Prop}{K:St→Prop}{rest:List Nat}(hK:∀ a w,GL Γ B0 mF ds G0 w0 K a w→wpOpsIn (Fr none) 0 P ops Q rest a w) :
  ∀ (l:List Nat) {items:List Item} {G:Gh} {st:St} {a:Act} {w:World},sK P ops l=some items→sG P Γ (fun _ _=>False) items K st→SR Γ B0 mF ds G st a w→G0.le G→Below B0 w0 w→wpOpsIn (Fr none) 0 P ops Q (l++rest) a w
 |[],items,G,st,a,w,hi,hr,h,hG,hB=>by
  simp only[sK,au]at hi;subst hi;exact hK _ _ ⟨G,st,hG,h,hB,hr⟩
 |i::l,items,G,st,a,w,hi,hr,h,hG,hB=>by
  simp only[sK]at hi
  split at hi
  ·rename_i x r hx hl;simp only[au]at hi;subst hi;rw[List.cons_append,wpOpsIn_cons];refine wpOpIn_mono ?_ (FY hok (Px hx hr) h hG hB ?_)
   ·rintro a' w' ⟨G',st',h1,h2,h3,h4⟩;exact MX hok hK l hl h4 h2 h1 h3
   ·rintro ch a' w' ⟨_,_,_,_,_,_,_,_,_,_,_,k⟩;exact k.elim
  ·cases hi
def zgS(Γ:jG)(B0:Nat)(mF:Store)(G0:Gh)(w0:World)(R:Out→Store→Prop)(e:Ending)(w'':World):Prop:=
 ∃ G' m' o,G0.le G' ∧ mQ m' mF∧Rep Γ B0 G' (m'.or mF) w''∧Below B0 w0 w'' ∧ zaK G' o e∧R o m'
theorem X8{fn:Func}{res:List oZ}(hres:oD P fn.results.toList=some res){R:Out→Store→Prop}{g:FuncId}{caps:List V}{ccaps:List Value}{p:Option V}{u:FrameMode}
  (hu : match p with
   |none=>u = .returning
   |some v=>∃ uv,ku G v uv∧u = .panicking [{ v:=uv,recovered:=false }])
  (hc:kE G caps ccaps) (h:SR Γ B0 mF [{ target:=.fn (.func g) ccaps.toArray,args:=#[] }] G st a w) (hG:G0.le G) (hB:Below B0 w0 w) (hd:vO P Γ g caps st.m p (zah res R st.t)) :
  LeavesInM (Fr none) 0 P fn a.tmps (zgS Γ B0 mF G0 w0 R) a.defers u w:=by
 rw[h.defers]
 have hne:u ≠ .run:=by
  cases p with
  |none=>subst hu;simp
  |some v=>obtain⟨uv,_,rfl⟩:=hu;simp
 obtain⟨hent,hd⟩:=hd;refine⟨hne,.inr ⟨(fun k=>by cases k),.func g,ccaps.toArray,g,ccaps.toArray,rfl,?_,(fun _ _=>trivial),?_⟩⟩
 ·unfold enters at hent
  split at hent
  ·rename_i fn' hfn;simp only[aG,bne_iff_ne,ne_eq]at hent
   have hbody:fn'.body.isNone=false:=by
    cases hb:fn'.body<;>simp_all
   simp only[invoke,callFunc,Sem.run_bind,run_program,Result.andThen_ok,hfn];simp[hent.1,hbody]
  ·cases hent
 ·refine(hd G B0 mF w ccaps u h.disj h.rep hc hu).mono ?_;rintro e u' w' ⟨uv,G',m',rfl,hset,h1,h2,h3,h4,v,hv,m'',hsub,hR⟩;show LeavesInM (Fr none) 0 P fn a.tmps _ [] (settle u') w';rw[hset];obtain⟨uw,k3,k4⟩:=wP (st:=⟨st.t,m'⟩) (a:=a) ⟨h3,h2,h.tmps.mono h1,h.defers⟩ hres hv;refine⟨uw,k3,G',m'',.ret v,hG.trans h1,fun b => ?_,h3.weaken (Rx hsub h2),hB.trans h4,.ret k4,hR⟩
  rcases h2 b with k|k
  ·left
   cases hb' : m'' b with
   |none=>rfl
   |some x=>rw[hsub b x hb']at k;cases k
  ·exact .inr k
theorem zer{fn:Func}{res:List oZ}(hres:oD P fn.results.toList=some res){R:Out→Store→Prop}(h:SR Γ B0 mF [] G st a w)(hG:G0.le G)(hB:Below B0 w0 w)(hd:zah res R st.t st.m) :
  LeavesInM (Fr none) 0 P fn a.tmps (zgS Γ B0 mF G0 w0 R) a.defers .returning w:=by
 rw[h.defers];obtain⟨v,hv,m'',hsub,hR⟩:=hd;obtain⟨uw,k3,k4⟩:=wP h hres hv;refine⟨uw,k3,G,m'',.ret v,hG,fun b => ?_,h.rep.weaken (Rx hsub h.disj),hB,.ret k4,hR⟩
 rcases h.disj b with k|k
 ·left
  cases hb' : m'' b with
  |none=>rfl
  |some x=>rw[hsub b x hb']at k;cases k
 ·exact .inr k
theorem Ky(hm:P.follows .mixedOrders=true){H:Nat→List (Nat×List Nat)×List Nat}{fn:Func}{res:List oZ}(hres:oD P fn.results.toList=some res){R:Out→Store→Prop}(hR:∀ v m b x,m b=none→R (.pan v) m→R (.pan v) (m.set b x)) :
  ∀ {c:Code} {d:Et} {G:Gh} {st:St} {a:Act} {w:World},tJ P H c=some d→ze9 P Γ res R d st→SR Γ B0 mF [] G st a w→G0.le G→Below B0 w0 w→c.wpIn (Fr none) 0 P (bodyPostM (Fr none) 0 P fn (zgS Γ B0 mF G0 w0 R)) a w
 | .seq x y,d,G,st,a,w,hc,ha,h,hG,hB=>by
  simp only[tJ]at hc
  split at hc
  ·rename_i ops f dst hrow
   split at hc
   ·rename_i l q hl hq;cases hc;unfold U9 at hrow
    split at hrow
    ·rename_i id ops' draw
     split at hrow
     ·cases hrow
     ·rename_i hdraw;have hdraw':draw=false:=by simpa using hdraw
      subst hdraw'
      split at hrow
      ·rename_i f' d' hdo
       split at hrow
       ·rename_i hok;simp only[au,Prod.mk.injEq]at hrow;obtain⟨rfl,rfl,rfl⟩:=hrow;obtain⟨k,o,cl,hsz,ho,hop,hcal,hg,hargs,hfok,rfl⟩:=Va hdo;refine wpIn_seq (wpIn_region ?_);rw[hsz]at hl ⊢;rw[List.range_succ];refine MX hok ?_ _ hl ha h (Gh.le.refl G) (Below.refl B0 w);rintro a1 w1 ⟨G1,s1,g1,h1,b1,hs⟩;rw[wpOpsIn_cons];unfold wpOpIn;have hw:∀ tm,Region.wanted o tm=true:=fun tm=>by simp[Region.wanted,hg]
        simp only[ho,hw,if_true];have hfv:=CX h1 hfok
        split at hs
        ·rename_i g caps hev;rw[hev]at hfv
         obtain⟨ws,e1,r2⟩:∃ ws,a1.eval f' = .func (.func g) #[] ws.toArray∧kE G1 caps ws:=by
          generalize a1.eval f'=z at hfv
          cases hfv with
          |fn h1 h2=>
           obtain rfl:=h1.kN;exact⟨_,rfl,h2⟩
         have hrun:(execOp a1.eval o).run P w1 = .ok (.defer { target:=.fn (.func g) ws.toArray,args:=#[] }) w1:=by
          simp[execOp,hop,resolve,hcal,e1,Deferred.ofValue,hargs]
         refine⟨fun _ _=>trivial,?_⟩;show Oper.uponIn _ _ _ _ _ _ _ ((Oper.semAt none a1.eval o).run P w1);rw[Oper.semAt_none,hrun,Oper.uponIn_defer]
         have s2:SR Γ B0 mF [{ target:=.fn (.func g) ws.toArray,args:=#[] }] G1 (s1.put o.dst (.val undef)) (({ a1 with defers:={ target:=.fn (.func g) ws.toArray,args:=#[] }::a1.defers }:Act).put o.dst undef) w1:=
          ⟨by rw[nP];exact h1.rep,by rw[nP];exact h1.disj,CE (a:={ a1 with defers:={ target:=.fn (.func g) ws.toArray,args:=#[] }::a1.defers }) h1.tmps (.val rfl) _,by rw[put_defers];simp only[h1.defers]⟩
         have hend:=uS (G0:=G1) (w0:=w1) hm hq hs s2 (Gh.le.refl G1) (Below.refl B0 w1);show Code.wpIn _ _ _ _ _ _ _;refine wpIn_mono hend ?_;intro e a2 w2 hq2
         have fin:∀ {Q:St→Prop},(∀ s,Q s→vO P Γ g caps s.m none (zah res R s.t))→GL Γ B0 mF [{ target:=.fn (.func g) ws.toArray,args:=#[] }] G1 w1 Q a2 w2→LeavesInM (Fr none) 0 P fn a2.tmps (zgS Γ B0 mF G0 w0 R) a2.defers .returning w2:=by
          rintro Q hQ ⟨G2,s2,g2,h2,b2,hs2⟩;exact X8 (p:=none) hres rfl (r2.mono g2) h2 (hG.trans (g1.trans g2)) (hB.trans (b1.trans b2)) (hQ _ hs2)
         cases e with
         |normal=>exact fin (fun s q=>q) hq2
         |ret=>exact fin (fun s q=>q) hq2
         |exit i=>
          obtain⟨_,_,_,_,_,k⟩:=hq2;exact k.elim
         |panic ch=>
          obtain⟨G2,s2,v,u,g2,h2,b2,rfl,hv,hs2⟩:=hq2;exact X8 (p:=some v) hres ⟨u,hv,rfl⟩ (r2.mono g2) h2 (hG.trans (g1.trans g2)) (hB.trans (b1.trans b2)) hs2
         |goto l=>exact hq2.elim
         |outgrown=>exact hq2.elim
        ·cases hs
       ·cases hrow
      ·cases hrow
    ·cases hrow
   ·cases hc
  ·split at hc
   ·rename_i p q hp hq
    split at hc
    ·rename_i hflat;cases hc;refine wpIn_seq (wpIn_mono (nH (r:=none) hm hR hp (.inl rfl) ha h hG hB) ?_);intro e a' w' hq'
     have key:∀ {Q:St→Prop},qH Γ B0 mF [] G0 w0 p.flat Q a' w'→GL Γ B0 mF [] G0 w0 Q a' w':=by
      rintro Q ⟨Ds,d1,_,hl⟩;obtain rfl:=d1 hflat
      simpa only[List.map_nil,List.nil_append,rM] using hl
     cases e with
     |normal=>
      obtain⟨G1,s1,g1,h1,b1,hs⟩:=key hq';exact Ky hm hres hR hq hs h1 g1 b1
     |ret=>
      obtain⟨G1,s1,g1,h1,b1,hs⟩:=key hq';exact zer hres h1 g1 b1 hs
     |exit i=>
      obtain⟨_,_,_,_,_,k⟩:=key hq';exact k.elim
     |panic ch=>
      obtain⟨Ds,q2,G',m',v,u,h1,h2,h3,h4,h5,rfl,h6,h7⟩:=hq'
      have ok1 : OkD (m'.or mF) Ds := ⟨q2.nodup,fun b hb => xe.2 ⟨by
       rcases h3 b with k|k
       ·exact k
       ·have:=(mX k).2
        simp[dst,hb]at this,q2.none b hb⟩⟩
      have ok2:mQ m' mF:=fun b=>by
       rcases h3 b with k|k
       ·exact .inl k
       ·exact .inr (mX k).1
      rw[←or_assoc]at h2;show LeavesInM (Fr none) 0 P fn a'.tmps _ a'.defers _ w';rw[h4,List.append_nil];exact yc (by simp) Ds ok1 h2 (fun w'' k1 k2=>⟨G',m',.pan v,h1,ok2,k1,h5.trans k2,.pan h6,h7⟩)
     |goto l=>exact hq'.elim
     |outgrown=>exact hq'.elim
    ·cases hc
   ·cases hc
 | .region ..,_,_,_,_,_,hc,_,_,_,_=>by simp[tJ]at hc
 | .cond ..,_,_,_,_,_,hc,_,_,_,_=>by simp[tJ]at hc
 | .block ..,_,_,_,_,_,hc,_,_,_,_=>by simp[tJ]at hc
 | .skip,_,_,_,_,_,hc,_,_,_,_=>by simp[tJ]at hc
 | .label _,_,_,_,_,_,hc,_,_,_,_=>by simp[tJ]at hc
 | .loop _,_,_,_,_,_,hc,_,_,_,_=>by simp[tJ]at hc
 | .exit _,_,_,_,_,_,hc,_,_,_,_=>by simp[tJ]at hc
 | .goto _,_,_,_,_,_,hc,_,_,_,_=>by simp[tJ]at hc
 | .scope _,_,_,_,_,_,hc,_,_,_,_=>by simp[tJ]at hc
 | .ret,_,_,_,_,_,hc,_,_,_,_=>by simp[tJ]at hc
 | .refuse _,_,_,_,_,_,hc,_,_,_,_=>by simp[tJ]at hc
 | .rangeFunc ..,_,_,_,_,_,hc,_,_,_,_=>by simp[tJ]at hc
theorem KU(hm:P.follows .mixedOrders=true){H:Nat→List (Nat×List Nat)×List Nat}{f:FuncId}{F:DFn}(hF:zc8 P H f=some F){args:List V}{m:Store}{R:Out→Store→Prop}(hR:∀ v m b x,m b=none→R (.pan v) m→R (.pan v) (m.set b x))
  (h:ze9 P Γ F.res R F.body ⟨start F.ntmps args,m⟩):jB P Γ f args m R:=by
 unfold zc8 at hF
 split at hF
 ·rename_i fn hfn
  split at hF
  ·rename_i c hc
   split at hF
   ·rename_i hname
    split at hF
    ·rename_i b r hb hr;simp only[au]at hF;subst hF;refine⟨by simp only[enters,hfn,hname,hc];rfl,fun G B0 mF w cargs hD hRep hL => ?_⟩;refine Dh.1 (callsIn_of_wp_marks (F:=Fr none) (n:=0) hfn hc trivial ?_);have hlen:=hL.length
     have hSR:SR Γ B0 mF [] G ⟨start fn.ntmps args,m⟩ { tmps:=cargs.toArray++Array.replicate (fn.ntmps-cargs.toArray.size) undef,defers:=[] } w:=by
      refine⟨hRep,hD,?_,rfl⟩;simp only[start,Array.toList_append,Array.toList_replicate,List.size_toArray,←hlen];refine hL.append ?_;rw[show List.replicate (fn.ntmps-args.length) (V.val undef)=(List.replicate (fn.ntmps-args.length) undef).map V.val from by simp];exact kE.vals _ (fun v hv=>by rw[(List.mem_replicate.1 hv).2];rfl)
     exact Ky hm hr hR hb h hSR (Gh.le.refl G) (Below.refl B0 w)
    ·cases hF
   ·cases hF
  ·cases hF
 ·cases hF
end
end Go.Av
