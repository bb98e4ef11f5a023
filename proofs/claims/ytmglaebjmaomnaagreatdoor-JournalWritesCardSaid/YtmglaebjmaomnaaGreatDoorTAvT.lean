/- Calls reckoned out whose answer is not closed; slices that are full or whose end is held. No condition. -/
import Derived.Test.YtmglaebjmaomnaaGreatDoorTAvJ
open Bool renaming and_eq_true→aG
set_option linter.unusedSimpArgs false
set_option linter.unusedVariables false
namespace Go.Av
mutual
def xJ:V→Bool
 | .val _=>true
 | .agg cs=>H8 cs
 | .tup cs=>H8 cs
 | .sl [] [] .full=>true
 |_=>false
def H8:List V→Bool
 |[]=>true
 |v::l=>xJ v&&H8 l
end
mutual
theorem Uk{R:Ren}:∀ {v v':V},xJ v=true→VR R v v' → v'=v
 | .val _,_,_,r=>by cases r;rfl
 | .agg cs,_,h,r=>by
  cases r with
  |agg r=>rw[Jr (by simpa only[xJ] using h) r]
 | .tup cs,_,h,r=>by
  cases r with
  |tup r=>rw[Jr (by simpa only[xJ] using h) r]
 | .sl es more tok,v',h,r=>by
  have hh:es=[]∧more=[]∧tok = .full:=by
   unfold xJ at h
   split at h<;>first|cases h|skip
   ·rename_i e;cases e
   ·rename_i e;cases e
   ·rename_i e;cases e
   ·rename_i e;cases e;exact⟨rfl,rfl,rfl⟩
  obtain⟨rfl,rfl,rfl⟩:=hh
  cases r with
  | @sl _ es' _ more' k1 k2 a b c=>
   rw[a.kN,b.kN]
   cases k2<;>first|rfl|exact c.elim
 | .ptr _ _,_,h,_=>by simp[xJ]at h
 | .elt _,_,h,_=>by simp[xJ]at h
 | .arr _ _ _ _,_,h,_=>by simp[xJ]at h
 | .res _ _ _ _,_,h,_=>by simp[xJ]at h
 | .fn _ _ _,_,h,_=>by simp[xJ]at h
 | .ifc _ _,_,h,_=>by simp[xJ]at h
theorem Jr{R:Ren}:∀ {v v':List V},H8 v=true→LR R v v' → v'=v
 |[],_,_,r=>r.kN
 |v::l,_,h,r=>by
  simp only[H8,aG]at h
  cases r with
  |cons a b=>rw[Uk h.1 a,Jr h.2 b]
end
def Xz:Option (Out×Hp)→Option V
 |some (.ret v,_)=>some v
 |_=>none
theorem Y9{r:Option (Out×Hp)}{v:V}(h:Xz r=some v):∃ h',r=some (.ret v,h'):=by
 unfold Xz at h
 split at h
 ·cases h;exact⟨_,rfl⟩
 ·cases h
section
variable {P:Program} {Γ Γ0:jG} {call:FuncId→List V→Hp→Option (Out×Hp)}
theorem Xd{f:FuncId}{args:List V}{v:V}{m:Store}(hc:Du P Γ call)(hr:Xz (call f args ⟨0,.nil⟩)=some v)(ha:LR (fun _ _=>False) args args) :
  jB P Γ f args m fun o m'=>(∃ (S:Ren) (u:V),VR S v u∧o = .ret u)∧m'=m:=by
 obtain⟨h',hr⟩:=Y9 hr;have h1:=hc _ _ _ _ hr (fun _ _=>False) args (fun _=>none) ha ⟨fun _ _ k=>k.elim,fun _ _ _ k=>k.elim,fun _ _ _ k=>k.elim⟩;have h2:=h1.frame (mF:=m) fun _=>.inl rfl;have e:(Store.or (fun _=>none) m)=m:=by funext b;rfl
 rw[e]at h2;refine h2.less ?_;rintro o m' ⟨m1,rfl,hD,S,s1,s2,s3⟩;refine⟨m,fun b x hb => ?_,?_,rfl⟩
 ·rcases hD b with k|k
  ·simp[Store.or,k,hb]
  ·rw[hb]at k;cases k
 ·cases o with
  |pan _=>exact s3.elim
  |ret u=>exact⟨S,u,s3,rfl⟩
theorem Tq{f:FuncId}{args:List V}{v:V}{m:Store}(hc:Du P Γ call)(hr:Xz (call f args ⟨0,.nil⟩)=some v)(ha:LR (fun _ _=>False) args args)(hv:xJ v=true) :
  jB P Γ f args m fun o m'=>o = .ret v∧m'=m:=
 (Xd hc hr ha).mono fun o m' ⟨⟨S,u,r,e⟩,hm⟩=>⟨by rw[e,Uk hv r],hm⟩
theorem zdc(hm:P.follows .mixedOrders=true)(hG:JQ Γ0 Γ){l:List (Nat×AFn)}(hl:OM P Γ0 l)(N n:Nat):Du P Γ (QI P Γ0 (fun _ _ _=>none) (look l) N n):=
 Vm hm hG (prim:=fun _ _ _=>none) (fun _ _ _ _ h=>by cases h) (fun g F hg=>hl.get g F hg) N n
end
def Eu(e:TypeId)(size:Nat)(m m':Store)(v:V)(es:List V):Prop:=oq size es=true ∧
 ((v = .sl es [] .full∧m'=m)∨(es≠[]∧∃ b k,m b=none∧m'=m.set b (.tip e k)∧v = .sl es [] (.tip b k)))
theorem Eu.start{e:TypeId}{size:Nat}{m:Store}:Eu e size m m (.sl [] [] .full) []:=⟨rfl,.inl ⟨rfl,rfl⟩⟩
theorem Eu.sub{e:TypeId}{size:Nat}{m m':Store}{v:V}{es:List V}(h:Eu e size m m' v es):∀ b x,m b=some x→m' b=some x:=by
 rcases h.2 with ⟨_,rfl⟩|⟨_,b,k,hb,rfl,_⟩
 ·exact fun _ _ h=>h
 ·exact KZ hb (fun _ _ h=>h)
theorem Eu.val{e:TypeId}{size:Nat}{m m':Store}{v:V}{es:List V}(h:Eu e size m m' v es):∃ tok,v = .sl es [] tok:=by
 rcases h.2 with ⟨h,_⟩|⟨_,b,k,_,_,h⟩
 ·exact⟨_,h⟩
 ·exact⟨_,h⟩
theorem Eu.add{e:TypeId}{size:Nat}{m m':Store}{v:V}{es:List V}(h:Eu e size m m' v es){b:Nat}{x:Blk}(hb:m' b=none):Eu e size (m.set b x) (m'.set b x) v es:=by
 refine⟨h.1,?_⟩
 rcases h.2 with ⟨h2,rfl⟩|⟨h1,t,k,ht,rfl,h2⟩
 ·exact .inl ⟨h2,rfl⟩
 ·have hne:t≠b:=by
   rintro rfl;rw[Store.jv]at hb;cases hb
  exact .inr ⟨h1,t,k,by rw[Store.jw _ _ hne,ht],set_comm _ _ _ hne,h2⟩
section
variable {P:Program} {Γ:jG} {Kp:V→Store→Prop} {l:List Item} {K:St→Prop} {t:List V} {m m':Store} {d:Option Tmp} {s:List (Tmp×Option (Tmp×Bool)×AOp)}
theorem zaG{e:TypeId}{bytes size:Nat}{v x:V}{es more:List V}{tok:Tok}(h:Eu e size m m' v es)(hx:x.cells.length=size)(h1:∀ c∈x.cells,oW c=true)(hl:(es.length+1)*bytes≤140737488355328)
  (hk:∀ m2 v2,Eu e size m m2 v2 (es++[x])→oH P Γ Kp s l K (qW t m2 d (some v2))):Tn P Γ Kp e bytes size v (.sl [x] more tok) d s l K t m':=by
 have hel:vM size [x]:=by
  intro y hy;rw[List.mem_singleton]at hy;subst hy;exact⟨hx,h1⟩
 have hsz:oq size (es++[x])=true:=by
  have:=h.1;simp only[oq,List.all_append,List.all_cons,List.all_nil,Bool.and_true,aG]at this ⊢;exact⟨this,by simp[hx]⟩
 rcases h.2 with ⟨rfl,rfl⟩|⟨hne,b,k,hb,rfl,rfl⟩
 ·refine Fv (by simp) h.1 hel (by simpa using hl) fun b hb => ?_;exact hk _ _ ⟨hsz,.inr ⟨by simp,b,0,hb,rfl,rfl⟩⟩
 ·refine OL (by simp) hne (Store.jv _ _ _) h.1 hel (by simpa using hl) ?_;rw[Store.kC];exact hk _ _ ⟨hsz,.inr ⟨by simp,b,k+1,hb,rfl,rfl⟩⟩
end
end Go.Av
