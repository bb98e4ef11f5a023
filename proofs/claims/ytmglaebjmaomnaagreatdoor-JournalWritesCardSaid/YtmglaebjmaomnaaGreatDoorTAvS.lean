/- A row whose order is open: the order that is told stands for every order. No condition. -/
import Derived.Test.YtmglaebjmaomnaaGreatDoorTAvR
open Array renaming getElem?_eq_getElem→iq, getD_eq_getD_getElem? → bT, getElem?_setIfInBounds→gQ
open Bool renaming or_eq_true→cZ, not_eq_true'→eH, and_eq_true→aG, false_or→iG
open List renaming mem_cons_self→aU, mem_cons_of_mem→aX, contains_eq_mem→gW, map_cons→fU, mem_append_left→dH, map_append→bC, mem_append_right→fA
open List.cons renaming injEq→aP
open Nat renaming testBit_or→ig
open Option renaming map_some→dV
open Option.some renaming injEq→au
set_option linter.unusedSimpArgs false
set_option linter.unusedVariables false
namespace Go.Av
open Go.RowKit
section
variable {P:Program} {Γ:jG} {B0:Nat} {mF:Store} {ds:List Deferred} {G G0:Gh} {st:St} {a:Act} {w w0:World} {Kp:V→Store→Prop}
def YM(i:Item):List Item→Prop
 |[]=>True
 |x::pre=>Xh x i∧(kindOf x.ao ≠ .eff→x.still=[])∧(∀ y∈x.still,Aa i.dst y) ∧
  (kindOf x.ao = .load→kindOf i.ao = .eff→x.free x.dst∧∃ d,x.dst=some d∧(d,x.g,x.ao)∈i.still∧∀ z∈pre,Aa z.dst (d,x.g,x.ao))∧YM i pre
theorem move{i:Item}(hKp:∀ v m b x,m b=none→Kp v m→Kp v (m.set b x))(hi:kindOf i.ao ≠ .eff→i.still=[]){post:List Item}{K:St→Prop} :
  ∀ {pre:List Item} {Y:List (Tmp×Option (Tmp×Bool)×AOp)} {st:St},YM i pre→(∀ y∈Y,y∈i.still)→(∀ y∈Y,∀ x∈pre,Aa x.dst y)→Room st→sG P Γ Kp (pre++i::post) K st →
   kX P Γ Kp i (fun s=>SU P Γ Y s∧sG P Γ Kp (pre++post) K s) st
 |[],Y,st,_,hY,_,_,h=>by
  have h:kX P Γ Kp i (fun s=>(∀ y∈i.still,mV P Γ y s)∧sG P Γ Kp post K s) st:=h;exact qE (fun s hs=>⟨fun y hy=>hs.1 y (hY y hy),hs.2⟩) h
 |x::pre,Y,st,hp,hY,hcl,hroom,h=>by
  obtain⟨h1,h2,h3,h4,h5⟩:=hp;have h:kX P Γ Kp x (fun s=>(∀ y∈x.still,mV P Γ y s)∧sG P Γ Kp (pre++i::post) K s) st:=h;have hr:=TJ hroom h
  have hY0:kindOf i.ao ≠ .eff→Y=[]:=by
   intro he;have:=hi he
   cases Y with
   |nil=>rfl
   |cons y r=>
    have:=hY y (aU ..);rw[hi he]at this;cases this
  have key:kX P Γ Kp x (fun s1=>SU P Γ x.still s1∧kX P Γ Kp i (fun s2=>(kindOf x.ao = .load→kindOf i.ao = .eff→∀ d,x.dst=some d→mV P Γ (d,x.g,x.ao) s2)∧SU P Γ Y s2∧sG P Γ Kp (pre++post) K s2) s1) st:=by
   refine qE ?_ hr;rintro s ⟨⟨hsu,hrun⟩,hrm⟩;refine⟨hsu,?_⟩
   by_cases hl:kindOf x.ao = .load∧kindOf i.ao = .eff
   ·obtain⟨hxf,d,hd,hmem,hz⟩:=h4 hl.1 hl.2
    have := move hKp hi (pre := pre) (Y := (d,x.g,x.ao) :: Y) (st := s) h5 (by
     intro y hy
     rcases List.mem_cons.1 hy with rfl|hy
     ·exact hmem
     ·exact hY y hy) (by
     intro y hy z hz'
     rcases List.mem_cons.1 hy with rfl|hy
     ·exact hz z hz'
     ·exact hcl y hy z (aX _ hz')) hrm hrun
    refine qE ?_ this;rintro s2 ⟨k1,k2⟩;refine⟨fun _ _ d' hd' => ?_,fun y hy=>k1 y (aX _ hy),k2⟩;rw[hd]at hd';cases hd';exact k1 _ (aU ..)
   ·have:=move hKp hi (pre:=pre) (Y:=Y) (st:=s) h5 hY (fun y hy z hz=>hcl y hy z (aX _ hz)) hrm hrun;refine qE ?_ this;rintro s2 ⟨k1,k2⟩;exact⟨fun a b=>absurd ⟨a,b⟩ hl,k1,k2⟩
  exact swap2 h1 hKp hroom hY0 (fun y hy => hcl y hy x (aU ..)) h2 h3 (fun a b => by
   obtain⟨c,d,hd,_⟩:=h4 a b
   exact⟨c,d,hd⟩) key
structure Ent where
 idx:Nat
 U:List Nat
 it:Item
def vg(P:Program)(ops:Array Oper):List Nat→Option (List (Tmp×Option (Tmp×Bool)×AOp))
 |[]=>some []
 |l::r=>match (tu P ops l []).bind entryOf,vg P ops r with
  |some x,some y=>some (x::y)
  |_,_=>none
def Gy(P:Program)(ops:Array Oper):List (Nat×List Nat)→Option (List Ent)
 |[]=>some []
 |(i,u)::l=>match vg P ops u,Gy P ops l with
  |some s,some r=>(tu P ops i s).map fun x=>⟨i,u,x⟩::r
  |_,_=>none
def Wu(P:Program)(ops:Array Oper)(L:List (Nat×List Nat)):Option (List Item):=(Gy P ops L).map fun l=>l.map Ent.it
def needs(ops:Array Oper)(i:Nat):List Nat:=match ops[i]? with
 |some o=>(o.after.toList.filter (Region.binds .any)).map (·.on)
 |none=>[]
def zaR(ops:Array Oper)(tab:List Nat)(i:Nat):Nat:=(needs ops i).foldl (fun acc j=>acc ||| (2^j ||| (if j<i then tab.getD j 0 else 0))) 0
def za6(ops:Array Oper)(tab:List Nat):Bool:=(List.range ops.size).all fun i=>(tab.getD i 0 ||| zaR ops tab i)==zaR ops tab i
def WU(d:Option Tmp)(x:Item):Bool:=match x.dst,d with
 |some e,some d => !(slotsOf (e,x.g,x.ao)).contains d
 |some _,none=>true
 |none,_=>false
def isLoad(x:Item):Bool:=kindOf x.ao == .load
def D5(ops:Array Oper)(tab:List Nat)(x e:Ent):Bool:=
 !(needs ops x.idx).contains e.idx&&((tab.getD e.idx 0).testBit x.idx||zc9 (e.U.contains x.idx) x.it e.it)&&(!isLoad x.it||WU e.it.dst x.it)&&x.it.still.all (fun y=>match e.it.dst with|some d => !(slotsOf y).contains d|none=>true)
def zbi(ops:Array Oper)(loads:List Nat)(e:Ent):Bool:=
 !(needs ops e.idx).contains e.idx&&(kindOf e.it.ao == .eff||e.U.isEmpty)&&(!isLoad e.it||(match e.it.dst with|some d => !e.it.reads.contains d|none=>false))&&e.U.all (fun u=>loads.contains u)&&decide (e.idx<ops.size)&&(needs ops e.idx).all (fun j=>decide (j<ops.size))
def Ll(ops:Array Oper)(tab:List Nat):List Ent→Bool
 |[]=>true
 |x::r=>r.all (D5 ops tab x)&&Ll ops tab r
def Rf:List Ent→List Nat→Bool
 |[],_=>true
 |e::r,before=>e.U.all (fun u=>before.contains u)&&Rf r (if isLoad e.it then e.idx::before else before)
def okS(P:Program)(ops:Array Oper)(H:List (Nat×List Nat)×List Nat):Bool:=match Gy P ops H.1 with
 |none=>false
 |some es=>(decide (es.length=ops.size)&&(List.range ops.size).all (fun i=>(es.map Ent.idx).contains i))&&decide ((es.map Ent.idx).Nodup)&&za6 ops H.2&&Ll ops H.2 es&&es.all (zbi ops ((es.filter fun e=>isLoad e.it).map Ent.idx))&&Rf es []
theorem zhr{ops:Array Oper}{tab:List Nat}{i x:Nat}(h:(zaR ops tab i).testBit x=true):∃ j∈needs ops i,j=x∨(j<i∧(tab.getD j 0).testBit x=true):=by
 unfold zaR at h
 have key:∀ (l:List Nat) (acc:Nat),(l.foldl (fun acc j=>acc ||| (2^j ||| (if j<i then tab.getD j 0 else 0))) acc).testBit x=true→acc.testBit x=true∨∃ j∈l,j=x∨(j<i∧(tab.getD j 0).testBit x=true):=by
  intro l
  induction l with
  |nil=>intro acc h;exact .inl h
  |cons j l ih=>
   intro acc h
   rcases ih _ h with h|⟨k,hk,hh⟩
   ·rw[ig,ig,cZ,cZ]at h
    rcases h with h|h|h
    ·exact .inl h
    ·rw[Nat.testBit_two_pow]at h;exact .inr ⟨j,aU ..,.inl (by simpa using h)⟩
    ·by_cases hj:j<i
     ·rw[if_pos hj]at h;exact .inr ⟨j,aU ..,.inr ⟨hj,h⟩⟩
     ·rw[if_neg hj]at h;simp at h
   ·exact .inr ⟨k,aX _ hk,hh⟩
 rcases key _ _ h with h|h
 ·simp at h
 ·exact h
theorem Vw{ops:Array Oper}{tab:List Nat}(ht:za6 ops tab=true){done:Nat→Prop}(hcl:∀ i,done i→∀ j∈needs ops i,done j){x:Nat}:∀ (n i:Nat),i<n→i<ops.size→(∀ j∈needs ops i,done j)→(tab.getD i 0).testBit x=true→done x
 |0,i,h,_,_,_=>by omega
 |n+1,i,h,hi,hn,hb=>by
  have h1:=List.all_eq_true.1 ht i (List.mem_range.2 hi);simp only[beq_iff_eq]at h1;have h2:(zaR ops tab i).testBit x=true:=by rw[←h1,ig,hb,Bool.true_or]
  obtain⟨j,hj,hh⟩:=zhr h2
  rcases hh with rfl|⟨hlt,hbj⟩
  ·exact hn j hj
  ·exact Vw ht hcl n j (by omega) (by omega) (hcl j (hn j hj)) hbj
theorem S9{d:Option Tmp}{x:Item}(h:WU d x=true){e:Tmp}(he:x.dst=some e):Aa d (e,x.g,x.ao):=by
 unfold WU at h;rw[he]at h;intro f hf;subst hf;simp only[eH,gW,decide_eq_false_iff_not]at h;exact h
theorem Vu{x y:Item}(h:x.apart y=true):Sep x y.dst∧Sep y x.dst:=by
 unfold Item.apart at h;simp only[aG]at h;obtain⟨⟨h1,h2⟩,h3⟩:=h;refine⟨⟨fun e he => ?_,fun e f he hf => ?_⟩,⟨fun e he => ?_,fun e f he hf => ?_⟩⟩
 ·rw[he]at h2
  simpa using h2
 ·rw[he,hf]at h3;intro hef;subst hef;simp at h3
 ·rw[he]at h1
  simpa using h1
 ·rw[he,hf]at h3;intro hef;subst hef;simp at h3
theorem WS{seen:Bool}{x i:Item}(h:zc9 seen x i=true):Xh x i∧(kindOf x.ao = .load→kindOf i.ao = .eff→seen=true):=by
 unfold zc9 at h;rw[aG]at h;obtain⟨h1,h2⟩:=h;obtain⟨s1,s2⟩:=Vu h1;refine⟨⟨s1,s2,?_⟩,fun a b=>by rw[a,b]at h2;exact h2⟩
 cases hx:kindOf x.ao<;>cases hi:kindOf i.ao<;>rw[hx,hi]at h2<;>first|trivial|exact h2|(simp at h2)
theorem yf{ops:Array Oper}{i:Nat}{u:List (Tmp×Option (Tmp×Bool)×AOp)}{x:Item}(h:tu P ops i u=some x):x.still=u∧tu P ops i []=some { x with still:=[] }:=by
 unfold tu at h ⊢
 split at h
 ·cases h
 ·rename_i o ho
  split at h
  ·rename_i g ao hg hao;simp only[au]at h;subst h;exact⟨rfl,by simp[hg,hao]⟩
  ·cases h
theorem Ha{ops:Array Oper}:∀ {U:List Nat} {s:List (Tmp×Option (Tmp×Bool)×AOp)},vg P ops U=some s →
  (∀ u∈U,∃ x e,tu P ops u []=some x∧entryOf x=some e∧e∈s)∧(∀ e∈s,∃ u∈U,∃ x,tu P ops u []=some x∧entryOf x=some e)
 |[],s,h=>by
  simp only[vg,au]at h;subst h;exact⟨fun u hu=>(by cases hu),fun e he=>(by cases he)⟩
 |l::r,s,h=>by
  simp only[vg]at h
  split at h
  ·rename_i e y he hy;simp only[au]at h;subst h;obtain⟨x,hx,hxe⟩:=Option.bind_eq_some_iff.1 he;obtain⟨g1,g2⟩:=Ha hy;refine⟨fun u hu => ?_,fun e' he' => ?_⟩
   ·rcases List.mem_cons.1 hu with rfl|hu
    ·exact⟨x,e,hx,hxe,aU ..⟩
    ·obtain⟨x',e',a,b,c⟩:=g1 u hu;exact⟨x',e',a,b,aX _ c⟩
   ·rcases List.mem_cons.1 he' with rfl|he'
    ·exact⟨l,aU ..,x,hx,hxe⟩
    ·obtain⟨u,hu,x',a,b⟩:=g2 e' he';exact⟨u,aX _ hu,x',a,b⟩
  ·cases h
theorem Oo{ops:Array Oper}:∀ {L:List (Nat×List Nat)} {es:List Ent},Gy P ops L=some es→∀ e∈es,∃ s,vg P ops e.U=some s∧tu P ops e.idx s=some e.it
 |[],es,h,e,he=>by
  simp only[Gy,au]at h;subst h;cases he
 |(i,u)::l,es,h,e,he=>by
  simp only[Gy]at h
  split at h
  ·rename_i s r hs hr;simp only[Option.map_eq_some_iff]at h;obtain⟨x,hx,rfl⟩:=h
   rcases List.mem_cons.1 he with rfl|he
   ·exact⟨s,hs,hx⟩
   ·exact Oo hr e he
  ·cases h
theorem DZ{ops:Array Oper}{tab:List Nat}:∀ {es:List Ent},Ll ops tab es=true→es.Pairwise fun x e=>D5 ops tab x e=true
 |[],_=>.nil
 |x::r,h=>by
  simp only[Ll,aG]at h;exact .cons (fun e he=>List.all_eq_true.1 h.1 e he) (DZ h.2)
theorem List.xq{α β:Type}{f:α→β}:∀ {l:List α},(l.map f).Nodup→∀ {x y},x∈l→y∈l→f x=f y→x=y
 |[],_,x,y,hx,_,_=>by cases hx
 |a::l,h,x,y,hx,hy,he=>by
  rw[fU,List.nodup_cons]at h
  rcases List.mem_cons.1 hx with hx' | hx'
  ·rcases List.mem_cons.1 hy with hy' | hy'
   ·rw[hx',hy']
   ·subst hx';exact absurd (List.mem_map.2 ⟨y,hy',he.symm⟩) h.1
  ·rcases List.mem_cons.1 hy with hy' | hy'
   ·subst hy';exact absurd (List.mem_map.2 ⟨x,hx',he⟩) h.1
   ·exact List.xq h.2 hx' hy' he
structure zdx (P:Program) (ops:Array Oper) (tab:List Nat) (es:List Ent):Prop where
 htab:za6 ops tab=true
 nodup:(es.map Ent.idx).Nodup
 all:∀ i,i<ops.size→∃ e∈es,e.idx=i
 lt:∀ e∈es,e.idx<ops.size
 pair:es.Pairwise fun x e=>D5 ops tab x e=true
 len:es.length=ops.size
 inr:∀ e∈es,∀ j∈needs ops e.idx,j<ops.size
 self:∀ e∈es,¬ e.idx∈needs ops e.idx∧(kindOf e.it.ao ≠ .eff→e.U=[])∧(kindOf e.it.ao = .load→e.it.free e.it.dst∧∃ d,e.it.dst=some d)
 item:∀ e∈es,∃ s,vg P ops e.U=some s∧tu P ops e.idx s=some e.it
 seen:∀ pre e post,es=pre++e::post→∀ u∈e.U,∃ x∈pre,x.idx=u∧kindOf x.it.ao = .load
theorem Hm:∀ {es:List Ent} {before:List Nat},Rf es before=true→∀ pre e post,es=pre++e::post→∀ u∈e.U,u∈before∨∃ x∈pre,x.idx=u∧kindOf x.it.ao = .load
 |[],_,_,pre,e,post,he,_,_=>by cases pre<;>cases he
 |y::r,before,h,pre,e,post,he,u,hu=>by
  simp only[Rf,aG]at h
  cases pre with
  |nil=>
   simp only[List.nil_append,aP]at he;obtain⟨rfl,rfl⟩:=he;have:=List.all_eq_true.1 h.1 u hu;exact .inl (by simpa using this)
  |cons z pre=>
   simp only[List.cons_append,aP]at he;obtain⟨rfl,rfl⟩:=he
   rcases Hm h.2 pre e post rfl u hu with h1|⟨x,hx,h1⟩
   ·by_cases hl:isLoad y.it=true
    ·rw[if_pos hl]at h1
     rcases List.mem_cons.1 h1 with rfl|h1
     ·exact .inr ⟨y,aU ..,rfl,by simpa [isLoad] using hl⟩
     ·exact .inl h1
    ·rw[if_neg hl]at h1;exact .inl h1
   ·exact .inr ⟨x,aX _ hx,h1⟩
theorem ZG{ops:Array Oper}{H:List (Nat×List Nat)×List Nat}(h:okS P ops H=true):∃ es,Gy P ops H.1=some es∧zdx P ops H.2 es:=by
 unfold okS at h
 split at h
 ·cases h
 ·rename_i es hes;simp only[aG,decide_eq_true_eq]at h;obtain⟨⟨⟨⟨⟨h1,h2⟩,h3⟩,h4⟩,h5⟩,h6⟩:=h
  have hself:∀ e∈es,(¬ e.idx∈needs ops e.idx∧(kindOf e.it.ao ≠ .eff→e.U=[])∧(kindOf e.it.ao = .load→e.it.free e.it.dst∧∃ d,e.it.dst=some d))∧e.idx<ops.size∧∀ j∈needs ops e.idx,j<ops.size:=by
   intro e he;have:=List.all_eq_true.1 h5 e he;simp only[zbi,aG,decide_eq_true_eq]at this;obtain⟨⟨⟨⟨⟨a,b⟩,c⟩,d⟩,f⟩,g⟩:=this;refine⟨⟨by simpa using a,fun hk => ?_,fun hk => ?_⟩,f,fun j hj=>by simpa using List.all_eq_true.1 g j hj⟩
   ·simp only[cZ,beq_iff_eq,List.isEmpty_iff]at b;exact b.resolve_left hk
   ·have hl:isLoad e.it=true:=by simp[isLoad,hk]
    rw[hl]at c;simp only[Bool.not_true,iG]at c
    cases hd:e.it.dst with
    |none=>rw[hd]at c;cases c
    |some d=>
     rw[hd]at c;refine⟨fun f hf => ?_,d,rfl⟩;cases hf
     simpa using c
  refine⟨es,hes,h3,h2,?_,fun e he=>(hself e he).2.1,DZ h4,h1.1,fun e he=>(hself e he).2.2,fun e he=>(hself e he).1,fun e he=>Oo hes e he,fun pre e post he u hu => ?_⟩
  ·-- all numbers are there
   intro i hi;have h1':=List.all_eq_true.1 h1.2 i (List.mem_range.2 hi);have:i∈es.map Ent.idx:=by simpa using h1'
   obtain⟨e,he,hei⟩:=List.mem_map.1 this;exact⟨e,he,hei⟩
  ·rcases Hm h6 pre e post he u hu with h|h
   ·cases h
   ·exact h
theorem mem_ready{ops:Array Oper}{listed:Array Bool}{i:Nat}:i∈Region.ready .any ops listed↔i<ops.size∧listed.getD i true=false∧∀ j∈needs ops i,listed.getD j false=true:=by
 unfold Region.ready needs;rw[List.mem_filter,List.mem_range];refine and_congr_right fun hi => ?_;have ho:ops[i]? = some ops[i]:=iq hi;rw[ho];simp only[aG,eH,dV,Option.getD_some,Array.all_eq_true',cZ];refine and_congr_right fun _ => ?_;constructor
 ·intro h j hj;obtain⟨e,he,rfl⟩:=List.mem_map.1 hj;obtain⟨he1,he2⟩:=List.mem_filter.1 he
  rcases h e (Array.mem_toList_iff.1 he1)with h1|h1
  ·rw[he2]at h1;cases h1
  ·exact h1
 ·intro h e he
  cases hb:Region.binds .any e with
  |false=>exact .inl rfl
  |true=>exact .inr (h e.on (List.mem_map.2 ⟨e,List.mem_filter.2 ⟨Array.mem_toList_iff.2 he,hb⟩,rfl⟩))
theorem Uj{ops:Array Oper}{tab:List Nat}{es:List Ent}(ro:zdx P ops tab es){e:Ent}(he:e∈es):∀ {pre:List Ent},(∀ x∈pre,x∈es)→(∀ x∈pre,D5 ops tab x e=true∧(tab.getD e.idx 0).testBit x.idx=false)→(pre.Pairwise fun x z=>D5 ops tab x z=true)→YM e.it (pre.map Ent.it)
 |[],_,_,_=>trivial
 |x::pre,hmem,hp,hpw=>by
  have hx:=hmem x (aU ..);obtain⟨h1,h2⟩:=hp x (aU ..);have hrest:=Uj ro he (pre:=pre) (fun y hy=>hmem y (aX _ hy)) (fun y hy=>hp y (aX _ hy)) (List.pairwise_cons.1 hpw).2;have hlater:=(List.pairwise_cons.1 hpw).1;unfold D5 at h1;rw[h2]at h1;simp only[aG,iG]at h1;obtain⟨⟨⟨h3,h4⟩,h5⟩,h6⟩:=h1;obtain⟨hc,hseen⟩:=WS h4;obtain⟨s1,s2,s3⟩:=ro.self x hx;refine⟨hc,fun hk => ?_,fun y hy d hd => ?_,fun hkx hke => ?_,hrest⟩
  ·obtain⟨s,hs,hi⟩:=ro.item x hx;rw[s2 hk]at hs;simp only[vg,au]at hs;rw[(yf hi).1,hs]
  ·have:=List.all_eq_true.1 h6 y hy;rw[hd]at this
   simpa using this
  ·obtain⟨hfree,d,hd⟩:=s3 hkx;refine⟨hfree,d,hd,?_,fun z hz => ?_⟩
   ·obtain⟨s,hs,hi⟩:=ro.item e he;obtain⟨sx,hsx,hix⟩:=ro.item x hx;have hu:x.idx∈e.U:=by simpa using hseen hkx hke
    obtain⟨x',ent,g1,g2,g3⟩:=(Ha hs).1 x.idx hu;rw[(yf hi).1];have:=(yf hix).2;rw[this]at g1;simp only[au]at g1;subst g1;simp only[entryOf,hd,au]at g2;rw[g2];exact g3
   ·obtain⟨z',hz',rfl⟩:=List.mem_map.1 hz;have h7:=hlater z' hz';unfold D5 at h7;simp only[aG]at h7;have h8:=h7.1.2;have hl:isLoad x.it=true:=by simp[isLoad,hkx]
    rw[hl]at h8;simp only[Bool.not_true,iG]at h8;exact S9 h8 hd
theorem QN{r:Option Nat}{ops:Array Oper}{tab:List Nat}{es:List Ent}(hok:FI ops=true)(ro:zdx P ops tab es){Q:Exit→Act→World→Prop}{K:St→Prop}(hQ:∀ ch a w,QP Γ B0 mF ds G0 w0 Kp ch a w→Q (.panic ch) a w)(hK:∀ a w,GL Γ B0 mF ds G0 w0 K a w→Q .normal a w)
  (hKp:∀ v m b x,m b=none→Kp v m→Kp v (m.set b x)):∀ (n:Nat) (R:List Ent) (listed:Array Bool) {G:Gh} {st:St} {a:Act} {w:World},R.length=n→R.Sublist es→listed.size=ops.size→(∀ e∈es,listed.getD e.idx true=false↔e∈R) →
   (∀ e∈es,e∉R→∀ j∈needs ops e.idx,∀ x∈R,x.idx≠j)→sG P Γ Kp (R.map Ent.it) K st→SR Γ B0 mF ds G st a w→G0.le G→Below B0 w0 w→wpAnyIn (Fr r) 0 P .any ops Q n listed a w
 |0,R,listed,G,st,a,w,hn,hsub,hsz,hl,hcl,hr,h,hG,hB=>by
  obtain rfl:=List.eq_nil_of_length_eq_zero hn;refine⟨?_,hK _ _ ⟨G,st,hG,h,hB,hr⟩⟩;apply List.eq_nil_iff_forall_not_mem.2;intro i hi;obtain⟨h1,h2,_⟩:=mem_ready.1 hi;obtain⟨e,he,rfl⟩:=ro.all i h1;exact absurd ((hl e he).1 h2) (by simp)
 |n+1,R,listed,G,st,a,w,hn,hsub,hsz,hl,hcl,hr,h,hG,hB=>by
  have hidx:∀ x y,x∈es→y∈es→x.idx=y.idx→x=y:=by
   intro x y hx hy hxy;exact List.xq ro.nodup hx hy hxy
  have hdone:∀ j,j<ops.size→(listed.getD j false=true↔∀ x∈R,x.idx≠j):=by
   intro j hj;obtain⟨e,he,rfl⟩:=ro.all j hj;have hj':e.idx<listed.size:=by omega
   have e1:listed.getD e.idx false=listed.getD e.idx true:=by
    rw[bT,bT,iq hj'];rfl
   rw[e1];constructor
   ·intro ht x hx hxe;have:=hidx x e (hsub.subset hx) he hxe;subst this;rw[(hl x he).2 hx]at ht;cases ht
   ·intro hx
    cases hv:listed.getD e.idx true with
    |true=>rfl
    |false=>exact absurd rfl (hx e ((hl e he).1 hv))
  refine⟨fun hnil => ?_,fun i hi => ?_⟩
  ·-- the first of what is left is ready
   cases R with
   |nil=>simp at hn
   |cons e0 r=>
    have he0:e0∈es:=hsub.subset (aU ..)
    have:e0.idx∈Region.ready .any ops listed:=by
     refine mem_ready.2 ⟨ro.lt e0 he0,(hl e0 he0).2 (aU ..),fun j hj => ?_⟩;refine(hdone j (ro.inr e0 he0 j hj)).2 fun x hx hxj => ?_;subst hxj
     rcases List.mem_cons.1 hx with rfl|hx
     ·exact(ro.self x he0).1 hj
     ·have hpw:=ro.pair.sublist hsub;have:=(List.pairwise_cons.1 hpw).1 x hx;unfold D5 at this;simp only[aG]at this;have:=this.1.1.1;simp only[eH,gW,decide_eq_false_iff_not]at this;exact this hj
    rw[hnil]at this;cases this
  ·obtain⟨h1,h2,h3⟩:=mem_ready.1 hi;obtain⟨e,he,rfl⟩:=ro.all i h1;have heR:=(hl e he).1 h2;obtain⟨pre,post,rfl⟩:=List.append_of_mem heR;have hpw:=ro.pair.sublist hsub;have hpw2:=List.pairwise_append.1 hpw
   have hclosed:∀ i,(∀ x∈pre++e::post,x.idx≠i)→∀ j∈needs ops i,∀ x∈pre++e::post,x.idx≠j:=by
    intro i hi j hj x hx
    by_cases hlt:i<ops.size
    ·obtain⟨e',he',rfl⟩:=ro.all i hlt;exact hcl e' he' (fun k=>hi e' k rfl) j hj x hx
    ·unfold needs at hj;rw[Array.getElem?_eq_none (by omega)]at hj;cases hj
   have hpre:YM e.it (pre.map Ent.it):=by
    refine Uj ro he (fun x hx=>hsub.subset (dH _ hx)) (fun x hx=>⟨hpw2.2.2 x hx e (aU ..),?_⟩) hpw2.1
    cases hb:(tab.getD e.idx 0).testBit x.idx with
    |false=>rfl
    |true=>
     have:=Vw ro.htab (done:=fun i=>∀ x∈pre++e::post,x.idx≠i) hclosed (e.idx+1) e.idx (by omega) h1 (fun j hj=>(hdone j (ro.inr e he j hj)).1 (h3 j hj)) hb;exact absurd rfl (this x (dH _ hx))
   obtain⟨s,hs,hit⟩:=ro.item e he
   have hroom : Room st := ⟨w.heap.size,fun b hb => by
    cases hm:st.m b with
    |none=>rfl
    |some x=>have:=h.rep.lt (oC (f:=mF) hm);omega⟩
   have hst:kindOf e.it.ao ≠ .eff→e.it.still=[]:=by
    intro hk;have:=(ro.self e he).2.1 hk;rw[this]at hs;simp only[vg,au]at hs;rw[(yf hit).1,hs]
   rw[bC,fU]at hr;have hmv:=move hKp hst (Y:=[]) hpre (fun y hy=>by cases hy) (fun y hy=>by cases hy) hroom hr;have hstep:=ML hit (qE (fun s hs=>hs.2) hmv);refine wpOpIn_mono ?_ (FY hok hstep h hG hB hQ);rintro a' w' ⟨G',st',k1,k2,k3,k4⟩;have hndR:=ro.nodup.sublist (hsub.map Ent.idx)
   have hnot:∀ x,x∈pre++post→x.idx≠e.idx:=by
    intro x hx hxe
    have hxR:x∈pre++e::post:=by
     rcases List.mem_append.1 hx with h|h
     ·exact dH _ h
     ·exact fA _ (aX _ h)
    have hxeq:=hidx x e (hsub.subset hxR) he hxe;subst hxeq;rw[bC,fU,List.nodup_append]at hndR
    rcases List.mem_append.1 hx with h|h
    ·exact hndR.2.2 x.idx (List.mem_map.2 ⟨x,h,rfl⟩) x.idx (aU ..) rfl
    ·exact(List.nodup_cons.1 hndR.2.1).1 (List.mem_map.2 ⟨x,h,rfl⟩)
   have hsub2:(pre++post).Sublist (pre++e::post):=List.Sublist.append (List.Sublist.refl _) (List.sublist_cons_self _ _);refine QN hok ro hQ hK hKp n (pre++post) _ (by simp at hn ⊢;omega) (hsub2.trans hsub) (by simp[hsz]) (fun x hx => ?_) (fun x hx hxR j hj y hy => ?_) (by rw[bC];exact k4) k2 k1 k3
   ·by_cases hxe:x.idx=e.idx
    ·have:=hidx x e hx he hxe;subst this
     have e1:(listed.setIfInBounds x.idx true).getD x.idx true=true:=by
      rw[bT,gQ];simp[show x.idx<listed.size by omega]
     rw[e1];constructor
     ·intro k;cases k
     ·intro k;exact absurd rfl (hnot x k)
    ·have e1:(listed.setIfInBounds e.idx true).getD x.idx true=listed.getD x.idx true:=by
      rw[bT,gQ,if_neg (fun k=>hxe k.symm),bT]
     rw[e1,hl x hx];constructor
     ·intro k
      rcases List.mem_append.1 k with k|k
      ·exact dH _ k
      ·rcases List.mem_cons.1 k with rfl|k
       ·exact absurd rfl hxe
       ·exact fA _ k
     ·intro k;exact hsub2.subset k
   ·by_cases hxe:x.idx=e.idx
    ·have:=hidx x e hx he hxe;subst this;intro hyj;subst hyj;exact(hdone y.idx (ro.lt y (hsub.subset (hsub2.subset hy)))).1 (h3 y.idx hj) y (hsub2.subset hy) rfl
    ·refine hcl x hx (fun k=>hxR ?_) j hj y (hsub2.subset hy)
     rcases List.mem_append.1 k with k|k
     ·exact dH _ k
     ·rcases List.mem_cons.1 k with rfl|k
      ·exact absurd rfl hxe
      ·exact fA _ k
theorem VK{r:Option Nat}{ops:Array Oper}(hok:FI ops=true){H:List (Nat×List Nat)×List Nat}(hL:okS P ops H=true){items:List Item}(hi:Wu P ops H.1=some items){Q:Exit→Act→World→Prop}{K:St→Prop}
  (hQ:∀ ch a w,QP Γ B0 mF ds G0 w0 Kp ch a w→Q (.panic ch) a w) (hK:∀ a w,GL Γ B0 mF ds G0 w0 K a w→Q .normal a w)
  (hKp:∀ v m b x,m b=none→Kp v m→Kp v (m.set b x))
  (hr:sG P Γ Kp items K st) (h:SR Γ B0 mF ds G st a w) (hG:G0.le G) (hB:Below B0 w0 w):wpAnyIn (Fr r) 0 P .any ops Q ops.size (Array.replicate ops.size false) a w:=by
 obtain⟨es,hes,ro⟩:=ZG hL;unfold Wu at hi;rw[hes]at hi;simp only[dV,au]at hi;subst hi;refine QN hok ro hQ hK hKp ops.size es _ ro.len (List.Sublist.refl _) (by simp) (fun e he => ?_) (fun e he hne=>absurd he hne) hr h hG hB;have:=ro.lt e he;rw[bT,Array.getElem?_replicate,if_pos this];simp[he]
end
end Go.Av
