/- A row of operations in a given order, over abstract values. No condition. -/
import Derived.Orders
import Derived.OrdersIn
import Derived.Test.YtmglaebjmaomnaaGreatDoorTAv13
open Array renaming getD_eq_getD_getElem? → bY, getElem?_toList→iT, getElem?_eq_none→gK
open List renaming getElem?_eq_getElem→aI, getD_eq_getElem?_getD→aU, getElem?_eq_none→dB
set_option linter.unusedSimpArgs false
set_option linter.unusedVariables false
namespace Go.Av
open Go.RowKit
structure St where
 t:List V
 m:Store
def St.put(s:St)(d:Option Tmp)(v:V):St:=match d with
 |some d=>{ s with t:=s.t.set d v }
 |none=>s
structure SR (Γ:jI) (B0:Nat) (mF:Store) (ds:List Deferred) (G:Gh) (st:St) (a:Act) (w:World):Prop where
 rep:Rep Γ B0 G (st.m.or mF) w
 disj:mP st.m mF
 tmps:kD G st.t a.tmps.toList
 defers:a.defers=ds
section
variable {P:Program} {Γ:jI} {B0:Nat} {mF:Store} {ds:List Deferred} {G G0:Gh} {st:St} {a:Act} {w w0:World}
theorem CG(h:SR Γ B0 mF ds G st a w){x:Operand}(hx:uB x=true):ku G (ev Γ st.t x) (a.eval x):=by
 cases x with
 |tmp n=>
  simp only[ev,Act.eval];have hl:=h.tmps.length
  by_cases hn:n<st.t.length
  ·obtain⟨u,hu,r⟩:=h.tmps.get (aI hn);rw[aU,aI hn];rw[bY];rw[iT]at hu;rw[hu];exact r
  ·have hn':=Nat.not_lt.1 hn;rw[aU,dB (l:=st.t) (i:=n) hn',bY,gK (xs:=a.tmps) (i:=n) (by rw[←Array.length_toList,←hl];exact hn')];exact .val rfl
 |const v=>
  simp only[ev,Act.eval];unfold pg
  split
  ·rename_i cs;have:=ku.agg (vM (G:=G) (l:=cs.toList) (fun v hv=>List.all_eq_true.1 hx v hv))
   simpa using this
  ·exact .nil rfl
  ·rename_i h1 h2;refine .val ?_
   cases v with
   |agg cs=>exact(h1 cs rfl).elim
   |_=>rfl
 |global g=>
  simp only[ev,Act.eval]
  split
  ·rename_i cs hg;obtain⟨us,h1,h2⟩:=h.rep.glob g cs hg;exact .elt h1 h2
  ·exact .ptr _ _
 |func f=>
  have:=ku.fn (G:=G) (f:=.func f) .nil .nil
  simpa [ev,Act.eval] using this
theorem Cc(h:kD G st.t a.tmps.toList){v:V}{u:Value}(r:ku G v u)(d:Option Tmp):kD G (st.put d v).t (a.put d u).tmps.toList:=by
 cases d with
 |none=>exact h
 |some d=>simpa [St.put,Act.put] using h.set d r
theorem nK(s:St)(d:Option Tmp)(v:V):(s.put d v).m=s.m:=by cases d<;>rfl
theorem put_defers(a:Act)(d:Option Tmp)(u:Value):(a.put d u).defers=a.defers:=by cases d<;>rfl
def zcU(ops:Array Oper)(j:Nat):Option Tmp:=(ops[j]?).bind (·.dst)
def isBool(want:Bool):V→Bool
 | .val (.bool b)=>b==want
 |_=>false
def Ed(ops:Array Oper)(o:Oper)(t:List V):Bool:=match o.guard with
 |none=>true
 |some (j,want)=>match zcU ops j with
  |some d=>isBool want (t.getD d (.val undef))
  |none=>false
theorem MB(h:kD G st.t a.tmps.toList)(ops:Array Oper)(o:Oper):Region.wanted o (yielded ops a.tmps)=Ed ops o st.t:=by
 unfold Region.wanted Ed
 cases o.guard with
 |none=>rfl
 |some g=>
  obtain⟨j,want⟩:=g;simp only[yielded,zcU]
  cases hd:(ops[j]?).bind (·.dst)with
  |none=>simp
  |some d=>
   simp only[Option.bind_some];have hl:=h.length
   by_cases hn:d<st.t.length
   ·obtain⟨u,hu,r⟩:=h.get (aI hn);rw[iT]at hu;rw[hu,aU,aI hn];simp only[Option.getD_some];generalize st.t[d]=v at r
    cases r with
    | @val hv=>
     cases u with
     |bool b=>simp[isBool]
     |_=>simp[isBool]
    |_=>simp[isBool]
   ·have hn':=Nat.not_lt.1 hn;rw[aU,dB (l:=st.t) (i:=d) hn',gK (xs:=a.tmps) (i:=d) (by rw[←Array.length_toList,←hl];exact hn')];simp[isBool,undef]
def E5(ops:Array Oper):Bool:=ops.toList.all fun o=>o.op.operands.toList.all uB
def GM(P:Program)(Γ:jI)(ops:Array Oper)(Kp:V→Store→Prop)(i:Nat)(K:St→Prop)(st:St):Prop:=match ops[i]? with
 |none=>K st
 |some o=>if Ed ops o st.t then match Vs P o with
   |some ao=>opE P Γ (ev Γ st.t) st.m (fun v m'=>K ({ st with m:=m' }.put o.dst v)) Kp ao
   |none=>False
  else K (st.put o.dst (.val undef))
def zhu(P:Program)(Γ:jI)(ops:Array Oper)(Kp:V→Store→Prop):List Nat→(St→Prop)→St→Prop
 |[],K,st=>K st
 |i::l,K,st=>GM P Γ ops Kp i (zhu P Γ ops Kp l K) st
def Gq(Γ:jI)(B0:Nat)(mF:Store)(ds:List Deferred)(G0:Gh)(w0:World)(Q:St→Prop)(a:Act)(w:World):Prop:=
 ∃ G st,G0.le G∧SR Γ B0 mF ds G st a w∧Below B0 w0 w∧Q st
def QV(Γ:jI)(B0:Nat)(mF:Store)(ds:List Deferred)(G0:Gh)(w0:World)(Kp:V→Store→Prop)(ch:List PanicEntry)(a:Act)(w:World):Prop:=
 ∃ G m v u,G0.le G∧Rep Γ B0 G (m.or mF) w∧mP m mF∧a.defers=ds∧Below B0 w0 w∧ch=[{ v:=u,recovered:=false }]∧ku G v u∧Kp v m
theorem Fj{r:Option Nat}{ops:Array Oper}(hok:E5 ops=true){Kp:V→Store→Prop}{Q:Exit→Act→World→Prop}{K:St→Prop}{i:Nat}(hs:GM P Γ ops Kp i K st)(h:SR Γ B0 mF ds G st a w)(hG:G0.le G)(hB:Below B0 w0 w)
  (hQ:∀ ch a w,QV Γ B0 mF ds G0 w0 Kp ch a w→Q (.panic ch) a w):wpOpIn (Fr r) 0 P ops Q i (Gq Γ B0 mF ds G0 w0 K) a w:=by
 unfold wpOpIn;unfold GM at hs
 cases ho:ops[i]? with
 |none=>
  rw[ho]at hs;exact⟨G,st,hG,h,hB,hs⟩
 |some o=>
  rw[ho]at hs;simp only at hs ⊢;rw[MB h.tmps]
  cases hw:Ed ops o st.t with
  |false=>
   rw[hw]at hs;simp only[Bool.false_eq_true,if_false]at hs ⊢;exact⟨fun _ _=>trivial,G,_,hG,⟨by rw[nK];exact h.rep,by rw[nK];exact h.disj,Cc h.tmps (.val rfl) _,by rw[put_defers];exact h.defers⟩,hB,hs⟩
  |true=>
   rw[hw]at hs;simp only[if_true]at hs ⊢
   cases hc:Vs P o with
   |none=>rw[hc]at hs;exact hs.elim
   |some ao=>
    rw[hc]at hs;refine NG hc ?_ (fun x hx=>CG h ?_) h.disj h.rep hs
    ·constructor
     ·intro v u m' G' w' h1 h2 h3 h4 h5 h6;refine⟨G',_,hG.trans h1,⟨by rw[nK];exact h3,by rw[nK];exact h2,Cc (st:={ st with m:=m' }) (h.tmps.mono h1) h5 _,by rw[put_defers];exact h.defers⟩,hB.trans h4,h6⟩
     ·intro v u m' G' w' h1 h2 h3 h4 h5 h6;exact hQ _ _ _ ⟨G',m',v,u,hG.trans h1,h3,h2,h.defers,hB.trans h4,rfl,h5,h6⟩
    ·have:=List.all_eq_true.1 hok o (Array.mem_toList_iff.2 (Array.mem_of_getElem? ho));exact List.all_eq_true.1 this x (Array.mem_toList_iff.2 hx)
theorem Na{r:Option Nat}{ops:Array Oper}(hok:E5 ops=true){Kp:V→Store→Prop}{Q:Exit→Act→World→Prop}{K:St→Prop}(hQ:∀ ch a w,QV Γ B0 mF ds G0 w0 Kp ch a w→Q (.panic ch) a w)(hK:∀ a w,Gq Γ B0 mF ds G0 w0 K a w→Q .normal a w) :
  ∀ (l:List Nat) {G:Gh} {st:St} {a:Act} {w:World},zhu P Γ ops Kp l K st→SR Γ B0 mF ds G st a w→G0.le G→Below B0 w0 w→wpOpsIn (Fr r) 0 P ops Q l a w
 |[],G,st,a,w,hr,h,hG,hB=>hK _ _ ⟨G,st,hG,h,hB,hr⟩
 |i::l,G,st,a,w,hr,h,hG,hB=>by
  rw[wpOpsIn_cons];refine wpOpIn_mono ?_ (Fj hok hr h hG hB hQ);rintro a' w' ⟨G',st',h1,h2,h3,h4⟩;exact Na hok hQ hK l h4 h2 h1 h3
end
end Go.Av
