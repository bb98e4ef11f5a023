/- Code made ready for the layer Av: rows of operations with their numbers looked up. No condition. -/
import Derived.Test.YtmglaebjmaomnaaGreatDoorTAv14
open Option.some renaming injEq→ax
set_option linter.unusedSimpArgs false
set_option linter.unusedVariables false
namespace Go.Av
open Go.RowKit
structure Item where
 dst:Option Tmp
 g:Option (Tmp×Bool)
 ao:AOp
 still:List (Tmp×Option (Tmp×Bool)×AOp)
inductive lK where
 |skip
 |row (l:List Item)
 |seq (a b:lK)
 |cond (c:Operand) (a b:lK)
 |block (id:Nat) (c:lK)
 |loop (c:lK)
 |exit (id:Nat)
 |ret
 |range (f:Operand) (ps:List Tmp) (asg body:lK)
def kP(g:Option (Tmp×Bool))(t:List V):Bool:=match g with
 |none=>true
 |some (d,want)=>isBool want (t.getD d (.val undef))
def mQ(P:Program)(Γ:jI)(x:Tmp×Option (Tmp×Bool)×AOp)(st:St):Prop:=
 (if kP x.2.1 st.t then jJ P (ev Γ st.t) st.m x.2.2 else some (.val undef))=some (st.t.getD x.1 (.val undef))
def lh(P:Program)(Γ:jI)(Kp:V→Store→Prop)(x:Item)(K:St→Prop)(st:St):Prop:=
 if kP x.g st.t then opE P Γ (ev Γ st.t) st.m (fun v m'=>K ({ st with m:=m' }.put x.dst v)) Kp x.ao else K (st.put x.dst (.val undef))
def TV(P:Program)(Γ:jI)(Kp:V→Store→Prop)(x:Item)(K:St→Prop):St→Prop:=
 lh P Γ Kp x fun s=>(∀ y∈x.still,mQ P Γ y s)∧K s
def su(P:Program)(Γ:jI)(Kp:V→Store→Prop):List Item→(St→Prop)→St→Prop
 |[],K,st=>K st
 |x::l,K,st=>TV P Γ Kp x (su P Γ Kp l K) st
inductive Ex where
 |normal
 |ret
 |exit (id:Nat)
def xe(next:St→Prop)(Q:Ex→St→Prop):Ex→St→Prop
 | .normal,st=>next st
 |e,st=>Q e st
def nN(id:Nat)(Q:Ex→St→Prop):Ex→St→Prop
 | .exit id',st=>if id'=id then Q .normal st else Q (.exit id') st
 |e,st=>Q e st
def guardOf(ops:Array Oper)(o:Oper):Option (Option (Tmp×Bool)):=match o.guard with
 |none=>some none
 |some (j,want)=>match zcU ops j with
  |some d=>some (some (d,want))
  |none=>none
def sW(P:Program)(ops:Array Oper)(i:Nat)(still:List (Tmp×Option (Tmp×Bool)×AOp)):Option Item:=match ops[i]? with
 |none=>none
 |some o=>match guardOf ops o,Vs P o with
  |some g,some ao=>some ⟨o.dst,g,ao,still⟩
  |_,_=>none
def sH(P:Program)(ops:Array Oper):List Nat→Option (List Item)
 |[]=>some []
 |i::l=>match sW P ops i [],sH P ops l with
  |some x,some r=>some (x::r)
  |_,_=>none
section
variable {P:Program} {Γ:jI} {B0:Nat} {mF:Store} {ds:List Deferred} {G G0:Gh} {st:St} {a:Act} {w w0:World}
theorem Gu{ops:Array Oper}{o:Oper}{g:Option (Tmp×Bool)}(h:guardOf ops o=some g)(t:List V):Ed ops o t=kP g t:=by
 unfold guardOf at h;unfold Ed kP
 split at h
 ·rename_i hg;simp only[ax]at h;subst h;rw[hg]
 ·rename_i j want hg
  split at h
  ·rename_i d hd;simp only[ax]at h;subst h;rw[hg];simp only[hd]
  ·cases h
theorem MP{ops:Array Oper}{Kp:V→Store→Prop}{i:Nat}{u:List (Tmp×Option (Tmp×Bool)×AOp)}{x:Item}(hx:sW P ops i u=some x){K:St→Prop}(h:lh P Γ Kp x K st):GM P Γ ops Kp i K st:=by
 unfold sW at hx
 split at hx
 ·cases hx
 ·rename_i o ho
  split at hx
  ·rename_i g ao hg hao;simp only[ax]at hx;subst hx;unfold GM;rw[ho];simp only;rw[Gu hg,hao];exact h
  ·cases hx
theorem PK{ops:Array Oper}{Kp:V→Store→Prop}{i:Nat}{x:Item}(hx:sW P ops i []=some x){K:St→Prop}(h:TV P Γ Kp x K st):GM P Γ ops Kp i K st:=by
 have hs:x.still=[]:=by
  unfold sW at hx
  split at hx
  ·cases hx
  ·split at hx
   ·simp only[ax]at hx;subst hx;rfl
   ·cases hx
 refine MP hx ?_;unfold TV at h
 simpa only[hs,List.not_mem_nil,false_implies,implies_true,true_and] using h
theorem zi{ρ:Operand→V}{m:Store}{K K' Kp:V→Store→Prop}(hk:∀ v m',K v m' → K' v m'){ao:AOp}(h:opE P Γ ρ m K Kp ao):opE P Γ ρ m K' Kp ao:=by
 cases ao with
 |alloc T cells=>exact fun b hb=>hk _ _ (h b hb)
 |box T x=>exact fun b hb=>hk _ _ (h b hb)
 |store s x y=>
  simp only[opE]at h ⊢
  split at h
  ·split at h
   ·exact⟨h.1,h.2.1,h.2.2.1,hk _ _ h.2.2.2⟩
   ·cases h
  ·cases h
 |s2b e x=>
  simp only[opE]at h ⊢
  split at h
  ·exact fun t ht=>hk _ _ (h t ht)
  ·cases h
 |mark x=>
  simp only[opE]at h ⊢
  split at h
  ·exact hk _ _ h
  ·cases h
 |app e bytes size s x=>
  simp only[opE]at h ⊢
  split at h
  ·rename_i es more tok ys _ _;refine⟨fun hy=>hk _ _ (h.1 hy),fun hy => ?_⟩;obtain⟨h1,h2,h3,h4⟩:=h.2 hy;refine⟨h1,h2,h3,?_⟩
   cases tok with
   |no=>exact h4
   |non=>exact h4
   |own=>exact h4
   |full=>exact⟨h4.1,fun t ht=>hk _ _ (h4.2 t ht)⟩
   |tip t v=>exact⟨h4.1,h4.2.1,h4.2.2.1,hk _ _ h4.2.2.2⟩
   |zero b=>exact⟨h4.1,fun t ht=>hk _ _ (h4.2 t ht)⟩
   |tipz t v z=>exact⟨h4.1,h4.2.1,h4.2.2.1,hk _ _ h4.2.2.2⟩
  ·cases h
 |bad=>exact h
 |panic x=>exact h
 |appz e bytes size s x=>
  simp only[opE]at h ⊢
  split at h
  ·exact⟨h.1,h.2.1,fun t ht=>hk _ _ (h.2.2 t ht)⟩
  ·cases h
 |mks e bytes z l c=>
  simp only[opE]at h ⊢
  split at h
  ·exact⟨h.1,h.2.1,h.2.2.1,fun t ht=>hk _ _ (h.2.2.2 t ht)⟩
  ·cases h
 |call f args=>
  simp only[opE]at h ⊢
  split at h
  ·refine h.mono fun o m' ho => ?_
   cases o with
   |ret v=>exact hk _ _ ho
   |pan v=>exact ho
  ·refine h.mono fun o m' ho => ?_
   cases o with
   |ret v=>exact hk _ _ ho
   |pan v=>exact ho
  ·cases h
 |_=>
  obtain⟨v,h1,h2⟩:=h;exact⟨v,h1,hk _ _ h2⟩
theorem VL{ops:Array Oper}{Kp:V→Store→Prop}{i:Nat}{K K':St→Prop}(hk:∀ s,K s→K' s)(h:GM P Γ ops Kp i K st):GM P Γ ops Kp i K' st:=by
 unfold GM at h ⊢
 split
 ·rename_i ho;rw[ho]at h;exact hk _ h
 ·rename_i o ho;rw[ho]at h;simp only at h ⊢
  split
  ·rename_i hw;rw[if_pos hw]at h
   split
   ·rename_i ao hao;rw[hao]at h;exact zi (fun v m'=>hk _) h
   ·rename_i hao;rw[hao]at h;exact h
  ·rename_i hw;rw[if_neg hw]at h;exact hk _ h
theorem PP{ops:Array Oper}{Kp:V→Store→Prop}{K:St→Prop}:∀ {l:List Nat} {items:List Item} {st:St},sH P ops l=some items→su P Γ Kp items K st→zhu P Γ ops Kp l K st
 |[],items,st,h,hr=>by
  simp only[sH,ax]at h;subst h;exact hr
 |i::l,items,st,h,hr=>by
  simp only[sH]at h
  split at h
  ·rename_i x r hx hl;simp only[ax]at h;subst h;exact VL (fun s=>PP hl) (PK hx hr)
  ·cases h
end
end Go.Av
