/- A function that defers one call, which may recover: its contract, out of its body's walk and of the deferred one's. No condition. -/
import Derived.RecoverIn
import Derived.Test.YtmglaebjmaomnaaGreatDoorTAvE
open List renaming nil_append→aC
open Option renaming map_eq_some_iff→aQ
open Option.some renaming injEq→au
set_option linter.unusedSimpArgs false
set_option linter.unusedVariables false
namespace Go.Av
open Go.RowKit
inductive BQ where
 |code (c:lF)
 |row (l:List Item)
 |seq (a b:BQ)
 |cond (c:Operand) (a b:BQ)
 |block (id:Nat) (c:BQ)
def Yz(P:Program)(H:Nat→List (Nat×List Nat)×List Nat)(c:Code):Option BQ:=match comp P H c with
 |some x=>if x.flat then some (.code x)else none
 |none=>none
def Ei(P:Program)(H:Nat→List (Nat×List Nat)×List Nat):Code→Option BQ
 | .region id ops draw=>if draw then Yz P H (.region id ops draw)else if FI ops then (sK P ops (List.range ops.size)).map .row else none
 | .seq a b=>match Ei P H a,Ei P H b with
  |some x,some y=>some (.seq x y)
  |_,_=>none
 | .cond c a b=>if uG c then match Ei P H a,Ei P H b with
   |some x,some y=>some (.cond c x y)
   |_,_=>none
  else none
 | .block id c=>(Ei P H c).map (.block id)
 |c=>Yz P H c
def Xr(P:Program)(Γ:jG)(Kp:V→St→Prop)(x:Item)(K:St→Prop)(st:St):Prop:=
 if kP x.g st.t then opE P Γ (ev Γ st.t) st.m (fun v m'=>K ({ st with m:=m' }.put x.dst v)) (fun v m'=>Kp v { st with m:=m' }) x.ao else K (st.put x.dst (.val undef))
def TS(P:Program)(Γ:jG)(Kp:V→St→Prop):List Item→(St→Prop)→St→Prop
 |[],K,st=>K st
 |x::l,K,st=>Xr P Γ Kp x (TS P Γ Kp l K) st
def En(P:Program)(Γ:jG)(Kp:V→St→Prop):BQ→(Ex→St→Prop)→St→Prop
 | .code c,Q,st=>awp P Γ (fun _ _=>False) c Q st
 | .row l,Q,st=>TS P Γ Kp l (Q .normal) st
 | .seq a b,Q,st=>En P Γ Kp a (wY (En P Γ Kp b Q) Q) st
 | .cond c a b,Q,st=>match ev Γ st.t c with
  | .val (.bool t)=>(t=true→En P Γ Kp a Q st)∧(t=false→En P Γ Kp b Q st)
  |_=>False
 | .block id c,Q,st=>En P Γ Kp c (nT id Q) st
section
variable {P:Program} {Γ:jG} {B0:Nat} {mF:Store} {ds:List Deferred} {G G0:Gh} {st:St} {a:Act} {w w0:World}
def Xf(Γ:jG)(B0:Nat)(mF:Store)(ds:List Deferred)(G0:Gh)(w0:World)(Kp:V→St→Prop)(ch:List PanicEntry)(a:Act)(w:World):Prop:=
 ∃ G st v u,G0.le G∧SR Γ B0 mF ds G st a w∧Below B0 w0 w∧ch=[{ v:=u,recovered:=false }]∧ku G v u∧Kp v st
def Xe(Γ:jG)(B0:Nat)(mF:Store)(ds:List Deferred)(G0:Gh)(w0:World)(Kp:V→St→Prop)(Q:Ex→St→Prop):Exit→Act→World→Prop
 | .normal,a,w=>GL Γ B0 mF ds G0 w0 (Q .normal) a w
 | .ret,a,w=>GL Γ B0 mF ds G0 w0 (Q .ret) a w
 | .exit id,a,w=>GL Γ B0 mF ds G0 w0 (Q (.exit id)) a w
 | .panic ch,a,w=>Xf Γ B0 mF ds G0 w0 Kp ch a w
 |_,_,_=>False
theorem TI{ops:Array Oper}(hok:FI ops=true){Kp:V→St→Prop}{Q:Exit→Act→World→Prop}{K:St→Prop}{i:Nat}{x:Item}(hx:tu P ops i []=some x)(hs:Xr P Γ Kp x K st)(h:SR Γ B0 mF ds G st a w)(hG:G0.le G)(hB:Below B0 w0 w)
  (hQ:∀ ch a w,Xf Γ B0 mF ds G0 w0 Kp ch a w→Q (.panic ch) a w):wpOpIn (Fr none) 0 P ops Q i (GL Γ B0 mF ds G0 w0 K) a w:=by
 unfold tu at hx
 split at hx
 ·cases hx
 ·rename_i o ho
  split at hx
  ·rename_i g ao hg hc;simp only[au]at hx;subst hx;unfold wpOpIn;rw[ho];simp only;rw[L9 h.tmps,GU hg];unfold Xr at hs;simp only at hs
   cases hw:kP g st.t with
   |false=>
    rw[hw]at hs;simp only[Bool.false_eq_true,if_false]at hs ⊢;exact⟨fun _ _=>trivial,G,_,hG,⟨by rw[nP];exact h.rep,by rw[nP];exact h.disj,CE h.tmps (.val rfl) _,by rw[put_defers];exact h.defers⟩,hB,hs⟩
   |true=>
    rw[hw]at hs;simp only[if_true]at hs ⊢;refine Nz hc ?_ (fun x hx=>CX h ?_) h.disj h.rep hs
    ·constructor
     ·intro v u m' G' w' h1 h2 h3 h4 h5 h6;refine⟨G',_,hG.trans h1,⟨by rw[nP];exact h3,by rw[nP];exact h2,CE (st:={ st with m:=m' }) (h.tmps.mono h1) h5 _,by rw[put_defers];exact h.defers⟩,hB.trans h4,h6⟩
     ·intro v u m' G' w' h1 h2 h3 h4 h5 h6;exact hQ _ _ _ ⟨G',{ st with m:=m' },v,u,hG.trans h1,⟨h3,h2,h.tmps.mono h1,h.defers⟩,hB.trans h4,rfl,h5,h6⟩
    ·have:=List.all_eq_true.1 hok o (Array.mem_toList_iff.2 (Array.mem_of_getElem? ho));exact List.all_eq_true.1 this x (Array.mem_toList_iff.2 hx)
  ·cases hx
theorem MS{ops:Array Oper}(hok:FI ops=true){Kp:V→St→Prop}{Q:Exit→Act→World→Prop}{K:St→Prop}(hQ:∀ ch a w,Xf Γ B0 mF ds G0 w0 Kp ch a w→Q (.panic ch) a w){rest:List Nat}(hK:∀ a w,GL Γ B0 mF ds G0 w0 K a w→wpOpsIn (Fr none) 0 P ops Q rest a w) :
  ∀ (l:List Nat) {items:List Item} {G:Gh} {st:St} {a:Act} {w:World},sK P ops l=some items→TS P Γ Kp items K st→SR Γ B0 mF ds G st a w→G0.le G→Below B0 w0 w→wpOpsIn (Fr none) 0 P ops Q (l++rest) a w
 |[],items,G,st,a,w,hi,hr,h,hG,hB=>by
  simp only[sK,au]at hi;subst hi;exact hK _ _ ⟨G,st,hG,h,hB,hr⟩
 |i::l,items,G,st,a,w,hi,hr,h,hG,hB=>by
  simp only[sK]at hi
  split at hi
  ·rename_i x r hx hl;simp only[au]at hi;subst hi;rw[List.cons_append,wpOpsIn_cons];refine wpOpIn_mono ?_ (TI hok hx hr h hG hB hQ);rintro a' w' ⟨G',st',h1,h2,h3,h4⟩;exact MS hok hQ hK l hl h4 h2 h1 h3
  ·cases hi
theorem oI(hm:P.follows .mixedOrders=true){H:Nat→List (Nat×List Nat)×List Nat}{Kp:V→St→Prop}{c:Code}{pc:BQ}{Q:Ex→St→Prop}(hc:Yz P H c=some pc)(ha:En P Γ Kp pc Q st)(h:SR Γ B0 mF ds G st a w)(hG:G0.le G)(hB:Below B0 w0 w) :
  c.wpIn (Fr none) 0 P (Xe Γ B0 mF ds G0 w0 Kp Q) a w:=by
 unfold Yz at hc
 split at hc
 ·rename_i x hx
  split at hc
  ·rename_i hf;cases hc;refine wpIn_mono (nH (r:=none) hm (fun _ _ _ _ _ k=>k) hx (.inl rfl) ha h hG hB) ?_
   have key:∀ {R:St→Prop} {a':Act} {w':World},qH Γ B0 mF ds G0 w0 x.flat R a' w'→GL Γ B0 mF ds G0 w0 R a' w':=by
    rintro R a' w' ⟨Ds,d1,_,hl⟩;obtain rfl:=d1 hf
    simpa only[List.map_nil,aC,rM] using hl
   intro e a' w' hq
   cases e with
   |normal=>exact key hq
   |ret=>exact key hq
   |exit id=>exact key hq
   |panic ch=>
    obtain⟨_,_,_,_,_,_,_,_,_,_,_,_,_,k⟩:=hq;exact k.elim
   |goto l=>exact hq
   |outgrown=>exact hq
  ·cases hc
 ·cases hc
theorem uS(hm:P.follows .mixedOrders=true){H:Nat→List (Nat×List Nat)×List Nat}{Kp:V→St→Prop} :
  ∀ {c:Code} {pc:BQ} {Q:Ex→St→Prop} {G:Gh} {st:St} {a:Act} {w:World},Ei P H c=some pc→En P Γ Kp pc Q st→SR Γ B0 mF ds G st a w→G0.le G→Below B0 w0 w→c.wpIn (Fr none) 0 P (Xe Γ B0 mF ds G0 w0 Kp Q) a w
 | .region id ops draw,pc,Q,G,st,a,w,hc,ha,h,hG,hB=>by
  simp only[Ei]at hc
  split at hc
  ·exact oI hm hc ha h hG hB
  ·rename_i hd;have hd':draw=false:=by simpa using hd
   subst hd'
   split at hc
   ·rename_i hok;simp only[aQ]at hc;obtain⟨items,hi,rfl⟩:=hc;refine wpIn_region ?_;have:=MS (rest:=[]) (Q:=Xe Γ B0 mF ds G0 w0 Kp Q) hok (fun ch a w k=>k) (fun a w k=>(show wpOpsIn (Fr none) 0 P ops _ [] a w from k)) _ hi ha h hG hB
    rwa [List.append_nil]at this
   ·cases hc
 | .seq c d,pc,Q,G,st,a,w,hc,ha,h,hG,hB=>by
  simp only[Ei]at hc
  split at hc
  ·rename_i x y hx hy;simp only[au]at hc;subst hc;refine wpIn_seq (wpIn_mono (uS hm hx ha h hG hB) ?_);intro e a' w' hq
   cases e with
   |normal=>
    obtain⟨G',st',h1,h2,h3,h4⟩:=hq;exact uS hm hy h4 h2 h1 h3
   |ret=>exact hq
   |exit id=>exact hq
   |panic ch=>exact hq
   |goto l=>exact hq
   |outgrown=>exact hq
  ·cases hc
 | .cond c x y,pc,Q,G,st,a,w,hc,ha,h,hG,hB=>by
  simp only[Ei]at hc
  split at hc
  ·rename_i hop
   split at hc
   ·rename_i cx cy hx hy;simp only[au]at hc;subst hc;simp only[En]at ha
    split at ha
    ·rename_i t ht;have hr':=CX h hop;rw[ht]at hr'
     have hb:a.eval c = .bool t:=by
      generalize a.eval c=z at hr';cases hr';rfl
     exact wpIn_cond_split hb (fun k=>uS hm hx (ha.1 k) h hG hB) (fun k=>uS hm hy (ha.2 k) h hG hB)
    ·cases ha
   ·cases hc
  ·cases hc
 | .block id c,pc,Q,G,st,a,w,hc,ha,h,hG,hB=>by
  simp only[Ei,aQ]at hc;obtain⟨x,hx,rfl⟩:=hc;refine wpIn_block (wpIn_mono (uS hm hx ha h hG hB) ?_);intro e a' w' hq
  cases e with
  |normal=>exact hq
  |ret=>exact hq
  |exit i=>
   obtain⟨G',st',h1,h2,h3,h4⟩:=hq;simp only[nT]at h4;simp only[Exit.inBlock]
   split
   ·rename_i e;rw[if_pos e]at h4;exact⟨G',st',h1,h2,h3,h4⟩
   ·rename_i e;rw[if_neg e]at h4;exact⟨G',st',h1,h2,h3,h4⟩
  |panic ch=>exact hq
  |goto l=>exact hq
  |outgrown=>exact hq
 | .skip,pc,Q,G,st,a,w,hc,ha,h,hG,hB=>oI hm hc ha h hG hB
 | .label _,pc,Q,G,st,a,w,hc,ha,h,hG,hB=>oI hm hc ha h hG hB
 | .loop _,pc,Q,G,st,a,w,hc,ha,h,hG,hB=>oI hm hc ha h hG hB
 | .exit _,pc,Q,G,st,a,w,hc,ha,h,hG,hB=>oI hm hc ha h hG hB
 | .goto _,pc,Q,G,st,a,w,hc,ha,h,hG,hB=>oI hm hc ha h hG hB
 | .scope _,pc,Q,G,st,a,w,hc,ha,h,hG,hB=>oI hm hc ha h hG hB
 | .ret,pc,Q,G,st,a,w,hc,ha,h,hG,hB=>oI hm hc ha h hG hB
 | .refuse _,pc,Q,G,st,a,w,hc,ha,h,hG,hB=>oI hm hc ha h hG hB
 | .rangeFunc ..,pc,Q,G,st,a,w,hc,ha,h,hG,hB=>oI hm hc ha h hG hB
def vO(P:Program)(Γ:jG)(g:FuncId)(caps:List V)(m:Store)(p:Option V)(R:Store→Prop):Prop:=
 enters P g=true∧∀ (G:Gh) (B0:Nat) (mF:Store) (w:World) (ccaps:List Value) (u:FrameMode),mQ m mF→Rep Γ B0 G (m.or mF) w→kE G caps ccaps →
  (match p with
   |none=>u = .returning
   |some v=>∃ uv,ku G v uv∧u = .panicking [{ v:=uv,recovered:=false }]) →
  CallsDIn (Fr none) 0 P g ccaps.toArray u w fun e u' w'=>∃ uv G' m',e = .returned uv∧settle u' = .returning∧G.le G' ∧ mQ m' mF∧Rep Γ B0 G' (m'.or mF) w'∧Below B0 w w' ∧ R m'
structure RFn where
 ntmps:Nat
 dst:Option Tmp
 dst2:Option Tmp
 x2:Nat
 res:List oZ
 body:lF
def zbt(ops:Array Oper):Option (Option Tmp×Option Tmp×Nat):=match ops.toList with
 |[o,o2]=>match o.op with
  | .call c=>match c.callee with
   | .builtin .recover=>if o.guard.isNone&&o2.guard.isNone then match o2.op with
     | .assign (.tmp x)=>some (o.dst,o2.dst,x)
     | .move (.tmp x)=>some (o.dst,o2.dst,x)
     |_=>none
    else none
   |_=>none
  |_=>none
 |_=>none
def zc7(P:Program)(H:Nat→List (Nat×List Nat)×List Nat)(g:FuncId):Option RFn:=match P.funcs[g]? with
 | some fn => if fn.name != "runtime.NumGoroutine" then match fn.body with
  |some (.seq (.region _ ops false) c)=>match zbt ops,comp P H c,oD P fn.results.toList with
   |some (d,d2,x),some ac,some rs=>if ac.flat then some ⟨fn.ntmps,d,d2,x,rs,ac⟩else none
   |_,_,_=>none
  |_=>none
  else none
 |none=>none
def caught:Option V→V
 |none=>.val .nilIface
 |some v=>v
def Jd(F:RFn)(caps:List V)(m:Store)(p:Option V):St:=
 let s:=(⟨start F.ntmps caps,m⟩:St).put F.dst (caught p)
 s.put F.dst2 (s.t.getD F.x2 (.val undef))
def znl(res:List oZ)(R:Store→Prop):Ex→St→Prop
 | .exit _,_=>False
 |_,s=>(∃ v,resV res s=some v)∧R s.m
theorem Zc{ops:Array Oper}{d d2:Option Tmp}{x:Nat}(h:zbt ops=some (d,d2,x)):∃ o o2 c,ops = #[o,o2]∧o.op = .call c∧c.callee = .builtin .recover∧o.guard=none∧o2.guard=none∧(o2.op = .assign (.tmp x)∨o2.op = .move (.tmp x))∧o.dst=d∧o2.dst=d2:=by
 unfold zbt at h
 split at h
 ·rename_i o o2 ho
  split at h
  ·rename_i c hc
   split at h
   ·rename_i hcal
    split at h
    ·rename_i hg;simp only[Bool.and_eq_true,Option.isNone_iff_eq_none]at hg
     split at h
     ·rename_i y hy;simp only[au,Prod.mk.injEq]at h;obtain⟨rfl,rfl,rfl⟩:=h;exact⟨o,o2,c,by apply Array.ext';simpa using ho,hc,hcal,hg.1,hg.2,.inl hy,rfl,rfl⟩
     ·rename_i y hy;simp only[au,Prod.mk.injEq]at h;obtain⟨rfl,rfl,rfl⟩:=h;exact⟨o,o2,c,by apply Array.ext';simpa using ho,hc,hcal,hg.1,hg.2,.inr hy,rfl,rfl⟩
     ·cases h
    ·cases h
   ·cases h
  ·cases h
 ·cases h
theorem Ep(hm:P.follows .mixedOrders=true){H:Nat→List (Nat×List Nat)×List Nat}{g:FuncId}{F:RFn}(hF:zc7 P H g=some F){caps:List V}{m:Store}{p:Option V}{R:Store→Prop}
  (h:awp P Γ (fun _ _=>False) F.body (znl F.res R) (Jd F caps m p)):vO P Γ g caps m p R:=by
 unfold zc7 at hF
 split at hF
 ·rename_i fn hfn
  split at hF
  ·rename_i hname
   split at hF
   ·rename_i id ops c hc
    split at hF
    ·rename_i d d2 x ac rs hrec hac hrs
     split at hF
     ·rename_i hflat;simp only[au]at hF;subst hF;obtain⟨o,o2,cl,rfl,hop,hcal,hg,hg2,hop2,rfl,rfl⟩:=Zc hrec;refine⟨by simp only[enters,hfn,hname,hc];rfl,fun G B0 mF w ccaps u hD hRep hL hp => ?_⟩;refine callsDIn_of_wpSIn hfn hc trivial fun c₀ cs hu => ?_;have hlen:=hL.length
      have hSR0:SR Γ B0 mF [] G ⟨start fn.ntmps caps,m⟩ { tmps:=ccaps.toArray++Array.replicate (fn.ntmps-ccaps.toArray.size) undef,defers:=[] } w:=by
       refine⟨hRep,hD,?_,rfl⟩;simp only[start,Array.toList_append,Array.toList_replicate,List.size_toArray,←hlen];refine hL.append ?_;rw[show List.replicate (fn.ntmps-caps.length) (V.val undef)=(List.replicate (fn.ntmps-caps.length) undef).map V.val from by simp];exact kE.vals _ (fun v hv=>by rw[(List.mem_replicate.1 hv).2];rfl)
      have hrun:∀ a:Act,(execOp a.eval o).run P w = .ok .recover w:=by
       intro a;simp[execOp,hop,resolve,hcal,invoke,builtin]
      have hrun2:∀ a:Act,(execOp a.eval o2).run P w = .ok (.value (a.eval (.tmp x))) w:=by
       intro a
       rcases hop2 with k|k<;>simp[execOp,k]
      -- the row,whatever is caught
      have fin:∀ (cv:Value) (cs':List Frame),ku G (caught p) cv→(∃ u',cs'={ c₀ with mode:=u' }::cs∧settle u' = .returning) →
        ∀ a0:Act,a0={ tmps:=ccaps.toArray++Array.replicate (fn.ntmps-ccaps.toArray.size) undef,defers:=[] } →
        Code.wpSIn (Fr none) 0 P c (bodyPostS P fn c₀ cs fun e u' w'=>∃ uv G' m',e = .returned uv∧settle u' = .returning∧G.le G' ∧ mQ m' mF∧Rep Γ B0 G' (m'.or mF) w'∧Below B0 w w' ∧ R m')
         ((a0.put o.dst cv).put o2.dst ((a0.put o.dst cv).eval (.tmp x))) cs' w:=by
       rintro cv cs' hcv ⟨u',rfl,hset⟩ a0 rfl;have s1:SR Γ B0 mF [] G ((⟨start fn.ntmps caps,m⟩:St).put o.dst (caught p)) _ w:=⟨by rw[nP];exact hRep,by rw[nP];exact hD,CE hSR0.tmps hcv o.dst,by rw[put_defers]⟩;have hx:=CX s1 (x:=.tmp x) rfl;have s2:SR Γ B0 mF [] G (Jd ⟨fn.ntmps,o.dst,o2.dst,x,rs,ac⟩ caps m p) _ w:=⟨by unfold Jd;rw[nP,nP];exact hRep,by unfold Jd;rw[nP,nP];exact hD,CE s1.tmps hx o2.dst,by rw[put_defers,put_defers]⟩;refine wpSIn_of_wpIn rfl (wpIn_mono (nH (r:=none) hm (fun _ _ _ _ _ k=>k) hac (.inl rfl) h s2 (Gh.le.refl G) (Below.refl B0 w)) ?_);intro e a' w' hq
       have key:∀ {Q:St→Prop},(∀ s,Q s→(∃ v,resV rs s=some v)∧R s.m)→qH Γ B0 mF [] G w ac.flat Q a' w' → a'.defers=[]∧∃ u'',({ c₀ with mode:=u' }::cs:List Frame)={ c₀ with mode:=u'' }::cs∧∃ v,(results fn a'.tmps).run P w' = .ok v w' ∧
         ∃ uv G' m',Ending.returned v = .returned uv∧settle u'' = .returning∧G.le G' ∧ mQ m' mF∧Rep Γ B0 G' (m'.or mF) w'∧Below B0 w w' ∧ R m':=by
        rintro Q hQ ⟨Ds,d1,_,hl⟩;obtain rfl:=d1 hflat;simp only[List.map_nil,aC,rM]at hl;obtain⟨G',st',h1,h2,h3,h4⟩:=hl;obtain⟨⟨v,hv⟩,hR⟩:=hQ _ h4;obtain⟨uv,k3,k4⟩:=wP h2 hrs hv;exact⟨h2.defers,u',rfl,uv,k3,uv,G',st'.m,rfl,hset,h1,h2.disj,h2.rep,h3,hR⟩
       cases e with
       |normal=>exact key (fun s q=>q) hq
       |ret=>exact key (fun s q=>q) hq
       |exit i=>
        obtain⟨_,_,_,_,_,_,_,_,k⟩:=hq;exact k.elim
       |panic ch=>
        obtain⟨_,_,_,_,_,_,_,_,_,_,_,_,_,k⟩:=hq;exact k.elim
       |goto l=>exact hq.elim
       |outgrown=>exact hq.elim
      refine wpSIn_seq (wpSIn_region ?_);have hl:List.range (#[o,o2]:Array Oper).size=[0,1]:=rfl;rw[hl];have hw:∀ tm,Region.wanted o tm=true:=fun tm=>by simp[Region.wanted,hg]
      have hw2:∀ tm,Region.wanted o2 tm=true:=fun tm=>by simp[Region.wanted,hg2]
      have e0:(#[o,o2]:Array Oper)[0]? = some o:=rfl;have e1:(#[o,o2]:Array Oper)[1]? = some o2:=rfl;simp only[wpOpsSIn,e0,e1,hw,hw2,if_true,hrun,hrun2];refine⟨fun _ _=>trivial,?_⟩
      cases p with
      |none=>
       have hr:recoverD (c₀::cs)=none:=by
        subst hp;simp only[recoverD,hu]
       rw[hr];refine⟨fun _ _=>trivial,?_⟩;exact fin .nilIface (c₀::cs) (.val rfl) ⟨u,by rw[←hu],by rw[hp];rfl⟩ _ rfl
      |some v=>
       obtain⟨uv,hv,rfl⟩:=hp
       have hr:recoverD (c₀::cs)=some (uv,{ c₀ with mode:=.panicking [{ v:=uv,recovered:=true }] }::cs):=by
        simp only[recoverD,hu]
       rw[hr];refine⟨fun _ _=>trivial,?_⟩;exact fin uv _ hv ⟨_,rfl,rfl⟩ _ rfl
     ·cases hF
    ·cases hF
   ·cases hF
  ·cases hF
 ·cases hF
end
end Go.Av
