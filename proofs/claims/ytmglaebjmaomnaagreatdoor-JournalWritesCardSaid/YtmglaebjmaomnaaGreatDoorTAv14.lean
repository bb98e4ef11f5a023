/- A row of operations in a given order, over abstract values. No condition. -/
import Derived.Orders
import Derived.OrdersIn
import Derived.Test.YtmglaebjmaomnaaGreatDoorTAv13
open Array renaming getD_eq_getD_getElem? → bT, getElem?_toList→iO, getElem?_eq_none→gq
open List renaming getElem?_eq_getElem→aI, getD_eq_getElem?_getD→aT, getElem?_eq_none→dh
set_option linter.unusedSimpArgs false
set_option linter.unusedVariables false
namespace Go.Av
open Go.RowKit
structure St where
 t:List V
 m:Store
def St.put(s:St)(d:Option Tmp)(v:V):St:=match d with
 |some d=>{ s with t:=s.t.set d v }
 |none=>s
structure SR (Γ:jG) (B0:Nat) (mF:Store) (ds:List Deferred) (G:Gh) (st:St) (a:Act) (w:World):Prop where
 rep:Rep Γ B0 G (st.m.or mF) w
 disj:mQ st.m mF
 tmps:kE G st.t a.tmps.toList
 defers:a.defers=ds
section
variable {P:Program} {Γ:jG} {B0:Nat} {mF:Store} {ds:List Deferred} {G G0:Gh} {st:St} {a:Act} {w w0:World}
theorem CX(h:SR Γ B0 mF ds G st a w){x:Operand}(hx:uG x=true):ku G (ev Γ st.t x) (a.eval x):=by
 cases x with
 |tmp n=>
  simp only[ev,Act.eval];have hl:=h.tmps.length
  by_cases hn:n<st.t.length
  ·obtain⟨u,hu,r⟩:=h.tmps.get (aI hn);rw[aT,aI hn];rw[bT];rw[iO]at hu;rw[hu];exact r
  ·have hn':=Nat.not_lt.1 hn;rw[aT,dh (l:=st.t) (i:=n) hn',bT,gq (xs:=a.tmps) (i:=n) (by rw[←Array.length_toList,←hl];exact hn')];exact .val rfl
 |const v=>
  simp only[ev,Act.eval];unfold pG
  split
  ·rename_i cs;have:=ku.agg (vN (G:=G) (l:=cs.toList) (fun v hv=>List.all_eq_true.1 hx v hv))
   simpa using this
  ·exact .nil rfl
  ·rename_i h1 h2;refine .val ?_
   cases v with
   |agg cs=>exact(h1 cs rfl).elim
   |_=>rfl
 |global g=>
  simp only[ev,Act.eval]
  split
  ·rename_i cs hg;obtain⟨us,h1,h2⟩:=h.rep.glob g cs hg;exact .elt h1 h2
  ·exact .ptr _ _
 |func f=>
  have:=ku.fn (G:=G) (f:=.func f) .nil .nil
  simpa [ev,Act.eval] using this
theorem CE(h:kE G st.t a.tmps.toList){v:V}{u:Value}(r:ku G v u)(d:Option Tmp):kE G (st.put d v).t (a.put d u).tmps.toList:=by
 cases d with
 |none=>exact h
 |some d=>simpa [St.put,Act.put] using h.set d r
theorem nP(s:St)(d:Option Tmp)(v:V):(s.put d v).m=s.m:=by cases d<;>rfl
theorem put_defers(a:Act)(d:Option Tmp)(u:Value):(a.put d u).defers=a.defers:=by cases d<;>rfl
def zcH(ops:Array Oper)(j:Nat):Option Tmp:=(ops[j]?).bind (·.dst)
def isBool(want:Bool):V→Bool
 | .val (.bool b)=>b==want
 |_=>false
def Ew(ops:Array Oper)(o:Oper)(t:List V):Bool:=match o.guard with
 |none=>true
 |some (j,want)=>match zcH ops j with
  |some d=>isBool want (t.getD d (.val undef))
  |none=>false
theorem L9(h:kE G st.t a.tmps.toList)(ops:Array Oper)(o:Oper):Region.wanted o (yielded ops a.tmps)=Ew ops o st.t:=by
 unfold Region.wanted Ew
 cases o.guard with
 |none=>rfl
 |some g=>
  obtain⟨j,want⟩:=g;simp only[yielded,zcH]
  cases hd:(ops[j]?).bind (·.dst)with
  |none=>simp
  |some d=>
   simp only[Option.bind_some];have hl:=h.length
   by_cases hn:d<st.t.length
   ·obtain⟨u,hu,r⟩:=h.get (aI hn);rw[iO]at hu;rw[hu,aT,aI hn];simp only[Option.getD_some];generalize st.t[d]=v at r
    cases r with
    | @val hv=>
     cases u with
     |bool b=>simp[isBool]
     |_=>simp[isBool]
    |_=>simp[isBool]
   ·have hn':=Nat.not_lt.1 hn;rw[aT,dh (l:=st.t) (i:=d) hn',gq (xs:=a.tmps) (i:=d) (by rw[←Array.length_toList,←hl];exact hn')];simp[isBool,undef]
def FI(ops:Array Oper):Bool:=ops.toList.all fun o=>o.op.operands.toList.all uG
def He(P:Program)(Γ:jG)(ops:Array Oper)(Kp:V→Store→Prop)(i:Nat)(K:St→Prop)(st:St):Prop:=match ops[i]? with
 |none=>K st
 |some o=>if Ew ops o st.t then match Vh P o with
   |some ao=>opE P Γ (ev Γ st.t) st.m (fun v m'=>K ({ st with m:=m' }.put o.dst v)) Kp ao
   |none=>False
  else K (st.put o.dst (.val undef))
def zhw(P:Program)(Γ:jG)(ops:Array Oper)(Kp:V→Store→Prop):List Nat→(St→Prop)→St→Prop
 |[],K,st=>K st
 |i::l,K,st=>He P Γ ops Kp i (zhw P Γ ops Kp l K) st
def GL(Γ:jG)(B0:Nat)(mF:Store)(ds:List Deferred)(G0:Gh)(w0:World)(Q:St→Prop)(a:Act)(w:World):Prop:=
 ∃ G st,G0.le G∧SR Γ B0 mF ds G st a w∧Below B0 w0 w∧Q st
def QP(Γ:jG)(B0:Nat)(mF:Store)(ds:List Deferred)(G0:Gh)(w0:World)(Kp:V→Store→Prop)(ch:List PanicEntry)(a:Act)(w:World):Prop:=
 ∃ G m v u,G0.le G∧Rep Γ B0 G (m.or mF) w∧mQ m mF∧a.defers=ds∧Below B0 w0 w∧ch=[{ v:=u,recovered:=false }]∧ku G v u∧Kp v m
theorem FY{r:Option Nat}{ops:Array Oper}(hok:FI ops=true){Kp:V→Store→Prop}{Q:Exit→Act→World→Prop}{K:St→Prop}{i:Nat}(hs:He P Γ ops Kp i K st)(h:SR Γ B0 mF ds G st a w)(hG:G0.le G)(hB:Below B0 w0 w)
  (hQ:∀ ch a w,QP Γ B0 mF ds G0 w0 Kp ch a w→Q (.panic ch) a w):wpOpIn (Fr r) 0 P ops Q i (GL Γ B0 mF ds G0 w0 K) a w:=by
 unfold wpOpIn;unfold He at hs
 cases ho:ops[i]? with
 |none=>
  rw[ho]at hs;exact⟨G,st,hG,h,hB,hs⟩
 |some o=>
  rw[ho]at hs;simp only at hs ⊢;rw[L9 h.tmps]
  cases hw:Ew ops o st.t with
  |false=>
   rw[hw]at hs;simp only[Bool.false_eq_true,if_false]at hs ⊢;exact⟨fun _ _=>trivial,G,_,hG,⟨by rw[nP];exact h.rep,by rw[nP];exact h.disj,CE h.tmps (.val rfl) _,by rw[put_defers];exact h.defers⟩,hB,hs⟩
  |true=>
   rw[hw]at hs;simp only[if_true]at hs ⊢
   cases hc:Vh P o with
   |none=>rw[hc]at hs;exact hs.elim
   |some ao=>
    rw[hc]at hs;refine Nz hc ?_ (fun x hx=>CX h ?_) h.disj h.rep hs
    ·constructor
     ·intro v u m' G' w' h1 h2 h3 h4 h5 h6;refine⟨G',_,hG.trans h1,⟨by rw[nP];exact h3,by rw[nP];exact h2,CE (st:={ st with m:=m' }) (h.tmps.mono h1) h5 _,by rw[put_defers];exact h.defers⟩,hB.trans h4,h6⟩
     ·intro v u m' G' w' h1 h2 h3 h4 h5 h6;exact hQ _ _ _ ⟨G',m',v,u,hG.trans h1,h3,h2,h.defers,hB.trans h4,rfl,h5,h6⟩
    ·have:=List.all_eq_true.1 hok o (Array.mem_toList_iff.2 (Array.mem_of_getElem? ho));exact List.all_eq_true.1 this x (Array.mem_toList_iff.2 hx)
theorem MV{r:Option Nat}{ops:Array Oper}(hok:FI ops=true){Kp:V→Store→Prop}{Q:Exit→Act→World→Prop}{K:St→Prop}(hQ:∀ ch a w,QP Γ B0 mF ds G0 w0 Kp ch a w→Q (.panic ch) a w)(hK:∀ a w,GL Γ B0 mF ds G0 w0 K a w→Q .normal a w) :
  ∀ (l:List Nat) {G:Gh} {st:St} {a:Act} {w:World},zhw P Γ ops Kp l K st→SR Γ B0 mF ds G st a w→G0.le G→Below B0 w0 w→wpOpsIn (Fr r) 0 P ops Q l a w
 |[],G,st,a,w,hr,h,hG,hB=>hK _ _ ⟨G,st,hG,h,hB,hr⟩
 |i::l,G,st,a,w,hr,h,hG,hB=>by
  rw[wpOpsIn_cons];refine wpOpIn_mono ?_ (FY hok hr h hG hB hQ);rintro a' w' ⟨G',st',h1,h2,h3,h4⟩;exact MV hok hQ hK l h4 h2 h1 h3
end
end Go.Av
