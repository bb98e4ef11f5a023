/- Code made ready for the layer Av: rows of operations with their numbers looked up. No condition. -/
import Derived.Test.YtmglaebjmaomnaaGreatDoorTAv14
open Option.some renaming injEq→au
set_option linter.unusedSimpArgs false
set_option linter.unusedVariables false
namespace Go.Av
open Go.RowKit
structure Item where
 dst:Option Tmp
 g:Option (Tmp×Bool)
 ao:AOp
 still:List (Tmp×Option (Tmp×Bool)×AOp)
inductive lF where
 |skip
 |row (l:List Item)
 |seq (a b:lF)
 |cond (c:Operand) (a b:lF)
 |block (id:Nat) (c:lF)
 |loop (c:lF)
 |exit (id:Nat)
 |ret
 |range (f:Operand) (ps:List Tmp) (asg body:lF)
def kP(g:Option (Tmp×Bool))(t:List V):Bool:=match g with
 |none=>true
 |some (d,want)=>isBool want (t.getD d (.val undef))
def mV(P:Program)(Γ:jG)(x:Tmp×Option (Tmp×Bool)×AOp)(st:St):Prop:=
 (if kP x.2.1 st.t then jJ P (ev Γ st.t) st.m x.2.2 else some (.val undef))=some (st.t.getD x.1 (.val undef))
def kX(P:Program)(Γ:jG)(Kp:V→Store→Prop)(x:Item)(K:St→Prop)(st:St):Prop:=
 if kP x.g st.t then opE P Γ (ev Γ st.t) st.m (fun v m'=>K ({ st with m:=m' }.put x.dst v)) Kp x.ao else K (st.put x.dst (.val undef))
def TL(P:Program)(Γ:jG)(Kp:V→Store→Prop)(x:Item)(K:St→Prop):St→Prop:=
 kX P Γ Kp x fun s=>(∀ y∈x.still,mV P Γ y s)∧K s
def sG(P:Program)(Γ:jG)(Kp:V→Store→Prop):List Item→(St→Prop)→St→Prop
 |[],K,st=>K st
 |x::l,K,st=>TL P Γ Kp x (sG P Γ Kp l K) st
inductive Ex where
 |normal
 |ret
 |exit (id:Nat)
def wY(next:St→Prop)(Q:Ex→St→Prop):Ex→St→Prop
 | .normal,st=>next st
 |e,st=>Q e st
def nT(id:Nat)(Q:Ex→St→Prop):Ex→St→Prop
 | .exit id',st=>if id'=id then Q .normal st else Q (.exit id') st
 |e,st=>Q e st
def guardOf(ops:Array Oper)(o:Oper):Option (Option (Tmp×Bool)):=match o.guard with
 |none=>some none
 |some (j,want)=>match zcH ops j with
  |some d=>some (some (d,want))
  |none=>none
def tu(P:Program)(ops:Array Oper)(i:Nat)(still:List (Tmp×Option (Tmp×Bool)×AOp)):Option Item:=match ops[i]? with
 |none=>none
 |some o=>match guardOf ops o,Vh P o with
  |some g,some ao=>some ⟨o.dst,g,ao,still⟩
  |_,_=>none
def sK(P:Program)(ops:Array Oper):List Nat→Option (List Item)
 |[]=>some []
 |i::l=>match tu P ops i [],sK P ops l with
  |some x,some r=>some (x::r)
  |_,_=>none
section
variable {P:Program} {Γ:jG} {B0:Nat} {mF:Store} {ds:List Deferred} {G G0:Gh} {st:St} {a:Act} {w w0:World}
theorem GU{ops:Array Oper}{o:Oper}{g:Option (Tmp×Bool)}(h:guardOf ops o=some g)(t:List V):Ew ops o t=kP g t:=by
 unfold guardOf at h;unfold Ew kP
 split at h
 ·rename_i hg;simp only[au]at h;subst h;rw[hg]
 ·rename_i j want hg
  split at h
  ·rename_i d hd;simp only[au]at h;subst h;rw[hg];simp only[hd]
  ·cases h
theorem ML{ops:Array Oper}{Kp:V→Store→Prop}{i:Nat}{u:List (Tmp×Option (Tmp×Bool)×AOp)}{x:Item}(hx:tu P ops i u=some x){K:St→Prop}(h:kX P Γ Kp x K st):He P Γ ops Kp i K st:=by
 unfold tu at hx
 split at hx
 ·cases hx
 ·rename_i o ho
  split at hx
  ·rename_i g ao hg hao;simp only[au]at hx;subst hx;unfold He;rw[ho];simp only;rw[GU hg,hao];exact h
  ·cases hx
theorem Px{ops:Array Oper}{Kp:V→Store→Prop}{i:Nat}{x:Item}(hx:tu P ops i []=some x){K:St→Prop}(h:TL P Γ Kp x K st):He P Γ ops Kp i K st:=by
 have hs:x.still=[]:=by
  unfold tu at hx
  split at hx
  ·cases hx
  ·split at hx
   ·simp only[au]at hx;subst hx;rfl
   ·cases hx
 refine ML hx ?_;unfold TL at h
 simpa only[hs,List.not_mem_nil,false_implies,implies_true,true_and] using h
theorem zu{ρ:Operand→V}{m:Store}{K K' Kp:V→Store→Prop}(hk:∀ v m',K v m' → K' v m'){ao:AOp}(h:opE P Γ ρ m K Kp ao):opE P Γ ρ m K' Kp ao:=by
 cases ao with
 |alloc T cells=>exact fun b hb=>hk _ _ (h b hb)
 |box T x=>exact fun b hb=>hk _ _ (h b hb)
 |store s x y=>
  simp only[opE]at h ⊢
  split at h
  ·split at h
   ·exact⟨h.1,h.2.1,h.2.2.1,hk _ _ h.2.2.2⟩
   ·cases h
  ·cases h
 |s2b e x=>
  simp only[opE]at h ⊢
  split at h
  ·exact fun t ht=>hk _ _ (h t ht)
  ·cases h
 |mark x=>
  simp only[opE]at h ⊢
  split at h
  ·exact hk _ _ h
  ·cases h
 |app e bytes size s x=>
  simp only[opE]at h ⊢
  split at h
  ·rename_i es more tok ys _ _;refine⟨fun hy=>hk _ _ (h.1 hy),fun hy => ?_⟩;obtain⟨h1,h2,h3,h4⟩:=h.2 hy;refine⟨h1,h2,h3,?_⟩
   cases tok with
   |no=>exact h4
   |non=>exact h4
   |own=>exact h4
   |full=>exact⟨h4.1,fun t ht=>hk _ _ (h4.2 t ht)⟩
   |tip t v=>exact⟨h4.1,h4.2.1,h4.2.2.1,hk _ _ h4.2.2.2⟩
   |zero b=>exact⟨h4.1,fun t ht=>hk _ _ (h4.2 t ht)⟩
   |tipz t v z=>exact⟨h4.1,h4.2.1,h4.2.2.1,hk _ _ h4.2.2.2⟩
  ·cases h
 |bad=>exact h
 |panic x=>exact h
 |appz e bytes size s x=>
  simp only[opE]at h ⊢
  split at h
  ·exact⟨h.1,h.2.1,fun t ht=>hk _ _ (h.2.2 t ht)⟩
  ·cases h
 |mks e bytes z l c=>
  simp only[opE]at h ⊢
  split at h
  ·exact⟨h.1,h.2.1,h.2.2.1,fun t ht=>hk _ _ (h.2.2.2 t ht)⟩
  ·cases h
 |call f args=>
  simp only[opE]at h ⊢
  split at h
  ·refine h.mono fun o m' ho => ?_
   cases o with
   |ret v=>exact hk _ _ ho
   |pan v=>exact ho
  ·refine h.mono fun o m' ho => ?_
   cases o with
   |ret v=>exact hk _ _ ho
   |pan v=>exact ho
  ·cases h
 |_=>
  obtain⟨v,h1,h2⟩:=h;exact⟨v,h1,hk _ _ h2⟩
theorem VC{ops:Array Oper}{Kp:V→Store→Prop}{i:Nat}{K K':St→Prop}(hk:∀ s,K s→K' s)(h:He P Γ ops Kp i K st):He P Γ ops Kp i K' st:=by
 unfold He at h ⊢
 split
 ·rename_i ho;rw[ho]at h;exact hk _ h
 ·rename_i o ho;rw[ho]at h;simp only at h ⊢
  split
  ·rename_i hw;rw[if_pos hw]at h
   split
   ·rename_i ao hao;rw[hao]at h;exact zu (fun v m'=>hk _) h
   ·rename_i hao;rw[hao]at h;exact h
  ·rename_i hw;rw[if_neg hw]at h;exact hk _ h
theorem PG{ops:Array Oper}{Kp:V→Store→Prop}{K:St→Prop}:∀ {l:List Nat} {items:List Item} {st:St},sK P ops l=some items→sG P Γ Kp items K st→zhw P Γ ops Kp l K st
 |[],items,st,h,hr=>by
  simp only[sK,au]at h;subst h;exact hr
 |i::l,items,st,h,hr=>by
  simp only[sK]at h
  split at h
  ·rename_i x r hx hl;simp only[au]at h;subst h;exact VC (fun s=>PG hl) (Px hx hr)
  ·cases h
end
end Go.Av
