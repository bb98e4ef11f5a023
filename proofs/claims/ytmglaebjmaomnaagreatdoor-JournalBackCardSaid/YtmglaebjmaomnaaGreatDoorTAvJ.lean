/- Whole codes and calls reckoned out, and that what they come to holds of the program. No condition. -/
import Derived.Test.YtmglaebjmaomnaaGreatDoorTAvI
open Bool renaming and_eq_true→aG
open List renaming getD_eq_getElem?_getD→aU
open Nat renaming beq→dO, eq_of_beq_eq_true→bZ, ble→fK, le_of_ble_eq_true→fD, lt_succ_self→dP
set_option linter.unusedSimpArgs false
set_option linter.unusedVariables false
namespace Go.Av
open Go.RowKit
def SV:Value→Value→Bool
 | .bool a,.bool b=>a==b
 | .int k n,.int k' n'=>SX k k'&&QH n n'
 | .string a,.string b=>CO a.data.toList b.data.toList
 | .pointer none,.pointer none=>true
 | .nilFunc,.nilFunc=>true
 | .nilIface,.nilIface=>true
 |_,_=>false
theorem O9{a b:Value}(h:SV a b=true):a=b:=by
 unfold SV at h
 split at h
 ·rw[beq_iff_eq.1 h]
 ·simp only[aG]at h;rw[Iy h.1,Vd h.2]
 ·rename_i a b;obtain⟨⟨a⟩⟩:=a;obtain⟨⟨b⟩⟩:=b;have h:a=b:=Pg h;rw[h]
 ·rfl
 ·rfl
 ·rfl
 ·cases h
def zc8:Tok→Tok→Bool
 | .no,.no=>true
 | .non,.non=>true
 | .own,.own=>true
 | .full,.full=>true
 | .tip a b,.tip c d=>dO a c&&dO b d
 |_,_=>false
theorem Vb{a b:Tok}(h:zc8 a b=true):a=b:=by
 cases a<;>cases b<;>simp only[zc8,aG]at h<;>first|rfl|cases h|skip
 rename_i a b;rw[bZ a,bZ b]
mutual
def eqV:V→V→Bool
 | .val a,.val b=>SV a b
 | .ptr a o,.ptr b p=>dO a b&&dO o p
 | .elt a,.elt b=>La a b
 | .sl a m k,.sl a' m' k'=>La a a'&&La m m'&&zc8 k k'
 | .agg a,.agg b=>La a b
 | .tup a,.tup b=>La a b
 | .ifc t a,.ifc s b=>dO t s&&eqV a b
 | .fn (.func f) a c,.fn (.func g) b d=>dO f g&&La a b&&La c d
 |_,_=>false
def La:List V→List V→Bool
 |[],[]=>true
 |a::l,b::r=>eqV a b&&La l r
 |_,_=>false
end
mutual
theorem EN:∀ {a b:V},eqV a b=true→a=b
 | .val a,b,h=>by
  cases b<;>simp only[eqV]at h<;>first|cases h|skip
  rw[O9 h]
 | .ptr a o,b,h=>by
  cases b<;>simp only[eqV,aG]at h<;>first|cases h|skip
  rename_i h1 h2;rw[bZ h1,bZ h2]
 | .elt a,b,h=>by
  cases b<;>simp only[eqV]at h<;>first|cases h|skip
  rw[rW h]
 | .sl a m k,b,h=>by
  cases b<;>simp only[eqV,aG]at h<;>first|cases h|skip
  rename_i h1 h2;rw[rW h1.1,rW h1.2,Vb h2]
 | .agg a,b,h=>by
  cases b<;>simp only[eqV]at h<;>first|cases h|skip
  rw[rW h]
 | .tup a,b,h=>by
  cases b<;>simp only[eqV]at h<;>first|cases h|skip
  rw[rW h]
 | .ifc t a,b,h=>by
  cases b<;>simp only[eqV,aG]at h<;>first|cases h|skip
  rename_i h1 h2;rw[bZ h1,EN h2]
 | .fn f a c,b,h=>by
  cases f<;>cases b<;>first|(simp only[eqV]at h;cases h)|skip
  rename_i f g b d
  cases g<;>first|(simp only[eqV]at h;cases h)|skip
  simp only[eqV,aG]at h;rw[bZ h.1.1,rW h.1.2,rW h.2]
theorem rW:∀ {a b:List V},La a b=true→a=b
 |[],[],_=>rfl
 |a::l,b::r,h=>by
  simp only[La,aG]at h;rw[EN h.1,rW h.2]
 |[],_::_,h=>by simp[La]at h
 |_::_,[],h=>by simp[La]at h
end
def okG(Γ:jI):Operand→Bool
 | .global g=>(Γ g).isSome
 |_=>true
def Item.okI(Γ:jI)(x:Item):Bool:=tY x.ao&&x.ao.jV.all (okG Γ)&&x.still.all fun y=>tY y.2.2&&y.2.2.jV.all (okG Γ)
def lK.okI(Γ:jI):lK→Bool
 | .row l=>l.all (Item.okI Γ)
 | .seq a b=>a.okI Γ&&b.okI Γ
 | .cond c a b=>okG Γ c&&a.okI Γ&&b.okI Γ
 | .block _ c | .loop c=>c.okI Γ
 | .range .. => false
 |_=>true
structure TE where
 n:Nat
 t:Tr V
def TE.get(e:TE)(i:Nat):V:=match e.t.get i with
 |some v=>v
 |none=>.val undef
def TE.put(e:TE)(d:Nat)(v:V):TE:=⟨e.n,e.t.put d v⟩
def evT(Γ:jI)(e:TE):Operand→V
 | .tmp n=>e.get n
 | .const v=>pg v
 | .global g=>match Γ g with
  |some cs=>.elt cs
  |none=>.ptr g 0
 | .func f=>.fn (.func f) [] []
def Gv(g:Option (Tmp×Bool))(e:TE):Bool:=match g with
 |none=>true
 |some (d,want)=>isBool want (e.get d)
def U3:List V→Nat→Tr V→Tr V
 |[],_,t=>t
 |v::l,i,t=>U3 l (i+1) (t.put i v)
def MR(n:Nat)(args:List V):TE:=⟨bif fK args.length n then n else args.length,U3 args 0 .nil⟩
inductive IR where
 |no
 |ok (e:Ex) (t:TE) (h:Hp)
 |pan (v:V) (h:Hp)
def zhC(e:TE)(d:Option Tmp)(v:V):Option TE:=match d with
 |some d=>bif fK (d+1) e.n then some (e.put d v)else none
 |none=>some e
def MN(P:Program)(Γ:jI)(t:TE)(h:Hp)(y:Tmp×Option (Tmp×Bool)×AOp):Bool:=
 bif Gv y.2.1 t then match Iw P (evT Γ t) h.get y.2.2 with
  |some v=>eqV v (t.get y.1)
  |none=>false
 else eqV (.val undef) (t.get y.1)
def Ej(P:Program)(Γ:jI)(t:TE)(h:Hp):List (Tmp×Option (Tmp×Bool)×AOp)→Bool
 |[]=>true
 |y::l=>bif MN P Γ t h y then Ej P Γ t h l else false
def zbk(P:Program)(Γ:jI)(k:TE→Hp→IR)(x:Item)(t:TE):Option (Out×Hp)→IR
 |some (.ret v,h')=>match zhC t x.dst v with
  |some t'=>bif Ej P Γ t' h' x.still then k t' h' else .no
  |none=>.no
 |some (.pan v,h')=>.pan v h'
 |none=>.no
def zby(P:Program)(Γ:jI)(call:FuncId→List V→Hp→Option (Out×Hp)):List Item→TE→Hp→IR
 |[],t,h=>.ok .normal t h
 |x::l,t,h=>zbk P Γ (zby P Γ call l) x t (bif Gv x.g t then opI P call (evT Γ t) h x.ao else some (.ret (.val undef),h))
def zd3(k:TE→Hp→IR):IR→IR
 | .ok .normal t h=>k t h
 |r=>r
def zhl(v:V)(a b:TE→Hp→IR)(t:TE)(h:Hp):IR:=match v with
 | .val (.bool true)=>a t h
 | .val (.bool false)=>b t h
 |_=>.no
def zdp(id:Nat):IR→IR
 | .ok (.exit i) t h=>if i=id then .ok .normal t h else .ok (.exit i) t h
 |r=>r
def vT(P:Program)(Γ:jI)(call:FuncId→List V→Hp→Option (Out×Hp)):Nat→lK→TE→Hp→IR
 |0,_,_,_=>.no
 |n+1,c,t,h=>match c with
  | .skip=>.ok .normal t h
  | .row l=>zby P Γ call l t h
  | .seq a b=>zd3 (vT P Γ call n b) (vT P Γ call n a t h)
  | .cond c a b=>zhl (evT Γ t c) (vT P Γ call n a) (vT P Γ call n b) t h
  | .block id c=>zdp id (vT P Γ call n c t h)
  | .loop c=>zd3 (vT P Γ call n (.loop c)) (vT P Γ call n c t h)
  | .exit id=>.ok (.exit id) t h
  | .ret=>.ok .ret t h
  | .range .. => .no
def G7(t:TE)(h:Hp):oQ→Option V
 | .tmp k=>some (t.get k)
 | .cell k s=>match t.get k with
  | .ptr b o=>match h.get b with
   |some (.var _ cs)=>mV cs o s
   |_=>none
  |_=>none
def G8(t:TE)(h:Hp):List oQ→Option (List V)
 |[]=>some []
 |x::r=>match G7 t h x,G8 t h r with
  |some v,some l=>some (v::l)
  |_,_=>none
def zd7(rs:List oQ)(t:TE)(h:Hp):Option V:=match rs with
 |[x]=>G7 t h x
 |rs=>(G8 t h rs).map .tup
def zms(res:List oQ):IR→Option (Out×Hp)
 | .ok (.exit _) _ _=>none
 | .ok _ t h=>match zd7 res t h with
  |some v=>some (.ret v,h)
  |none=>none
 | .pan v h=>some (.pan v,h)
 | .no=>none
def QQ(P:Program)(Γ:jI)(prim:FuncId→List V→Hp→Option (Out×Hp))(tab:FuncId→Option AFn)(N:Nat):Nat→FuncId→List V→Hp→Option (Out×Hp)
 |0,_,_,_=>none
 |n+1,g,args,h=>match tab g with
  |some F=>zms F.res (vT P Γ (QQ P Γ prim tab N n) N F.body (MR F.ntmps args) h)
  |none=>prim g args h
structure ER (R:Ren) (e:TE) (t:List V):Prop where
 len:t.length=e.n
 at':∀ i,VR R (e.get i) (t.getD i (.val undef))
theorem ER.mono{R S:Ren}(h:R.le S){e:TE}{t:List V}(r:ER R e t):ER S e t:=⟨r.len,fun i=>(r.at' i).mono h⟩
theorem ER.put{R:Ren}{e:TE}{t:List V}{v v':V}(r:ER R e t)(k:VR R v v'){d:Option Tmp}{e':TE}(h:zhC e d v=some e'):ER R e' ((⟨t,fun _=>none⟩:St).put d v').t:=by
 cases d with
 |none=>cases h;exact r
 |some d=>
  simp only[zhC]at h;cases hb:fK (d+1) e.n
  ·simp[hb]at h
  ·simp only[hb,cond_true,Option.some.injEq]at h;subst h;have hd:d<t.length:=by rw[r.len];exact fD hb
   refine⟨by simp[St.put,TE.put,r.len],fun i => ?_⟩;simp only[St.put,TE.put,TE.get,Tr.get_put]
   by_cases e:i=d
   ·subst e;simp only[if_pos];rw[aU,List.getElem?_set_self hd];exact k
   ·rw[if_neg e,aU,List.getElem?_set_ne (fun h=>e h.symm)];have:=r.at' i;rw[aU]at this;exact this
theorem QG:∀ (l:List V) (i:Nat) (t:Tr V) (j:Nat),(U3 l i t).get j=if i≤j∧j<i+l.length then l[j-i]? else t.get j
 |[],i,t,j=>by rw[U3,if_neg (by simp only[List.length_nil];omega)]
 |v::l,i,t,j=>by
  rw[U3,QG l,Tr.get_put];simp only[List.length_cons]
  by_cases h1:i=j
  ·subst h1;rw[if_neg (by omega),if_pos rfl,if_pos (by omega)];simp
  ·by_cases h2:i+1≤j∧j<i+1+l.length
   ·rw[if_pos h2,if_pos (by omega),show j-i=(j-(i+1))+1 by omega];simp
   ·rw[if_neg h2,if_neg (by omega),if_neg (by omega)]
theorem ER.zek{R:Ren}{args args':List V}(r:LR R args args')(n:Nat):ER R (MR n args) (start n args'):=by
 refine⟨?_,fun i => ?_⟩
 ·have hl:=r.length;simp only[start,MR,List.length_append,List.length_replicate];cases hb:fK args.length n
  ·have:¬ args.length≤n:=fun h=>by rw[show fK args.length n=true from (Nat.ble_eq▸h:fK args.length n=true)]at hb;cases hb
   simp only[cond_false];omega
  ·have:=fD hb;simp only[cond_true];omega
 ·simp only[MR,TE.get,QG,start];have hl:=r.length
  by_cases h:i<args.length
  ·rw[if_pos (by omega),aU,List.getElem?_append_left (by omega)];have:=r.getD i;rw[aU,aU]at this;simp only[Nat.sub_zero];generalize args[i]? = z at this ⊢;cases z<;>exact this
  ·rw[if_neg (by omega),aU,List.getElem?_append_right (by omega)]
   have:(List.replicate (n-args'.length) (V.val undef))[i-args'.length]?.getD (V.val undef)=V.val undef:=by
    rw[List.getElem?_replicate]
    split<;>rfl
   rw[this];exact .val undef
def Gs(R:Ren)(Q:Ex→St→Prop)(Kp:V→Store→Prop):IR→Prop
 | .no=>False
 | .ok e t h=>∀ S t' m',R.le S→ER S t t'→HR S h.get m' → Q e ⟨t',m'⟩
 | .pan v h=>∀ S v' m',R.le S→VR S v v'→HR S h.get m' → Kp v' m'
theorem Gs.mono{R S:Ren}(h:R.le S){Q:Ex→St→Prop}{Kp:V→Store→Prop}{r:IR}(k:Gs R Q Kp r):Gs S Q Kp r:=by
 cases r with
 |no=>exact k
 |ok e t hp=>exact fun T t' m' a b c=>k T t' m' (Ren.le_trans h a) b c
 |pan v hp=>exact fun T t' m' a b c=>k T t' m' (Ren.le_trans h a) b c
def JU(Γ0 Γ:jI):Prop:=∀ g cs,Γ0 g=some cs→Γ g=some cs∧cs.all yg=true
section
variable {P:Program} {Γ Γ0:jI} {call:FuncId→List V→Hp→Option (Out×Hp)} {R:Ren} {Q:Ex→St→Prop} {Kp:V→Store→Prop}
theorem zc6(hG:JU Γ0 Γ){t:TE}{t':List V}(r:ER R t t'){x:Operand}(hx:okG Γ0 x=true):VR R (evT Γ0 t x) (ev Γ t' x):=by
 cases x with
 |tmp n=>exact r.at' n
 |const v=>exact FP v
 |global g=>
  simp only[okG,Option.isSome_iff_exists]at hx;obtain⟨cs,hcs⟩:=hx;obtain⟨h1,h2⟩:=hG g cs hcs;simp only[ev,evT,hcs,h1];exact .elt (rX h2)
 |func f=>exact .fn rfl .nil .nil
theorem Qr{w:Bool}{v u:V}(r:VR R v u):isBool w u=isBool w v:=by
 cases r<;>rfl
theorem MC{t:TE}{t':List V}(r:ER R t t')(g:Option (Tmp×Bool)):kP g t'=Gv g t:=by
 cases g with
 |none=>rfl
 |some x=>exact Qr (r.at' _)
mutual
theorem VR.fun:∀ {v a b:V},VR R v a→VR R v b→(∀ x y z,R x y→R x z→y=z)→a=b
 |_,_,_,.val v,k,hR=>by cases k;rfl
 |_,_,_,.ptr o r,k,hR=>by cases k with|ptr _ r'=>rw[hR _ _ _ r r']
 |_,_,_,.elt r,k,hR=>by cases k with|elt r'=>rw[r.fun r' hR]
 |_,_,_,.sl (k:=k0) a b c,k,hR=>by
  cases k with
  |sl a' b' c' =>
   rw[a.fun a' hR,b.fun b' hR];rename_i k1 _ _ k2
   cases k0<;>cases k1<;>first|exact c.elim|(cases k2<;>first|exact c'.elim|rfl|skip)
   ·rw[hR _ _ _ c.1 c'.1,←c.2,←c'.2]
   ·have e1:=Eq.trans (Eq.symm c) c';rw[e1]
   ·rw[hR _ _ _ c.1 c'.1,←c.2.1,←c'.2.1,←c.2.2,←c'.2.2]
 |_,_,_,.fn x a b,k,hR=>by cases k with|fn _ a' b'=>rw[a.fun a' hR,b.fun b' hR]
 |_,_,_,.ifc r,k,hR=>by cases k with|ifc r'=>rw[r.fun r' hR]
 |_,_,_,.agg r,k,hR=>by cases k with|agg r'=>rw[r.fun r' hR]
 |_,_,_,.tup r,k,hR=>by cases k with|tup r'=>rw[r.fun r' hR]
 |_,_,_,.arr _ _ _ r,k,hR=>by cases k with|arr _ _ _ r'=>rw[hR _ _ _ r r']
 |_,_,_,.res _ _ _ r,k,hR=>by cases k with|res _ _ _ r'=>rw[hR _ _ _ r r']
theorem LR.fun:∀ {v a b:List V},LR R v a→LR R v b→(∀ x y z,R x y→R x z→y=z)→a=b
 |_,_,_,.nil,k,hR=>by cases k;rfl
 |_,_,_,.cons a b,k,hR=>by cases k with|cons a' b'=>rw[a.fun a' hR,b.fun b' hR]
end
theorem Q7(hG:JU Γ0 Γ){t:TE}{t':List V}{h:Hp}{m:Store}(r:ER R t t')(H:HR R h.get m){y:Tmp×Option (Tmp×Bool)×AOp}(hp:tY y.2.2=true)(ho:y.2.2.jV.all (okG Γ0)=true)(hs:MN P Γ0 t h y=true):mQ P Γ y ⟨t',m⟩:=by
 unfold MN at hs;unfold mQ;simp only;rw[MC r];cases hw:Gv y.2.1 t
 ·simp only[hw,cond_false]at hs;rw[if_neg (by simp)];have e:=EN hs;have:=r.at' y.1;rw[←e]at this;generalize t'.getD y.1 (.val undef)=z at this ⊢;cases this;rfl
 ·simp only[hw,cond_true]at hs;rw[if_pos rfl]
  split at hs
  ·rename_i v hv;rw[U8]at hv;obtain⟨v',h1,h2⟩:=Iu (ρ':=ev Γ t') hp (fun x hx=>zc6 hG r (List.all_eq_true.1 ho x hx)) H.weak hv;rw[h1];have e:=EN hs;subst e;have:=r.at' y.1;rw[VR.fun h2 this H.left]
  ·cases hs
theorem JW{t:TE}{h:Hp}:∀ {l:List (Tmp×Option (Tmp×Bool)×AOp)},Ej P Γ0 t h l=true→∀ y∈l,MN P Γ0 t h y=true
 |[],_,y,hy=>by cases hy
 |x::l,hs,y,hy=>by
  simp only[Ej]at hs;cases hx:MN P Γ0 t h x
  ·simp[hx]at hs
  ·simp only[hx,cond_true]at hs
   rcases List.mem_cons.1 hy with rfl|hy
   ·exact hx
   ·exact JW hs y hy
theorem zhA(t:List V)(m:Store)(d:Option Tmp)(v:V):(⟨t,m⟩:St).put d v=⟨((⟨t,fun _=>none⟩:St).put d v).t,m⟩:=by cases d<;>rfl
theorem Nh(hG:JU Γ0 Γ)(hc:Di P Γ call):∀ {l:List Item} {R:Ren} {t:TE} {t':List V} {h:Hp} {m:Store},l.all (Item.okI Γ0)=true→ER R t t'→HR R h.get m→Gs R Q Kp (zby P Γ0 call l t h)→su P Γ Kp l (Q .normal) ⟨t',m⟩
 |[],R,t,t',h,m,_,r,H,hi=>hi R t' m R.le_refl r H
 |x::l,R,t,t',h,m,hl,r,H,hi=>by
  simp only[List.all_cons,aG]at hl;obtain⟨hx,hl⟩:=hl;simp only[Item.okI,aG]at hx;obtain⟨⟨hx1,hx2⟩,hx3⟩:=hx
  have hst:∀ {S:Ren} {t:TE} {t':List V} {h:Hp} {m:Store},ER S t t'→HR S h.get m→Ej P Γ0 t h x.still=true→∀ y∈x.still,mQ P Γ y ⟨t',m⟩:=by
   intro S t t' h m r H ha y hy;have h1:=List.all_eq_true.1 hx3 y hy;simp only[aG]at h1;exact Q7 hG r H h1.1 h1.2 (JW ha y hy)
  have fin:∀ {S:Ren} {h' : Hp} {m':Store} {v v':V},R.le S→HR S h'.get m'→VR S v v'→Gs R Q Kp (zbk P Γ0 (zby P Γ0 call l) x t (some (.ret v,h'))) →
    (∀ y∈x.still,mQ P Γ y ((⟨t',m'⟩:St).put x.dst v'))∧su P Γ Kp l (Q .normal) ((⟨t',m'⟩:St).put x.dst v'):=by
   intro S h' m' v v' s1 s2 s3 hi;simp only[zbk]at hi
   split at hi
   ·rename_i t1 ht1;have r2:=(r.mono s1).put s3 ht1;rw[zhA];cases ha:Ej P Γ0 t1 h' x.still
    ·simp[ha]at hi;exact hi.elim
    ·simp only[ha,cond_true]at hi;exact⟨hst r2 s2 ha,Nh hG hc hl r2 s2 (hi.mono s1)⟩
   ·exact hi.elim
  show lh P Γ Kp x (fun s=>(∀ y∈x.still,mQ P Γ y s)∧su P Γ Kp l (Q .normal) s) ⟨t',m⟩;unfold lh;simp only[zby]at hi;rw[MC r];cases hw:Gv x.g t
  ·simp only[hw,cond_false]at hi;rw[if_neg (by simp)];exact fin R.le_refl H (.val undef) hi
  ·simp only[hw,cond_true]at hi;rw[if_pos rfl]
   cases ho:opI P call (evT Γ0 t) h x.ao with
   |none=>rw[ho]at hi;exact hi.elim
   |some z=>
    rw[ho]at hi;obtain⟨o1,h'⟩:=z;refine ZN hc hx1 (fun y hy=>zc6 hG r (List.all_eq_true.1 hx2 y hy)) H ho ?_;intro S o m' s1 s2 s3
    cases o1 with
    |ret v=>
     cases o with
     |pan v'=>exact s3.elim
     |ret v'=>exact fin s1 s2 s3 hi
    |pan v=>
     cases o with
     |ret v'=>exact s3.elim
     |pan v'=>exact hi S v' m' s1 s3 s2
theorem Vt(hG:JU Γ0 Γ)(hc:Di P Γ call):∀ (n:Nat) {c:lK} {Q:Ex→St→Prop} {R:Ren} {t:TE} {t':List V} {h:Hp} {m:Store},c.okI Γ0=true→ER R t t'→HR R h.get m→Gs R Q Kp (vT P Γ0 call n c t h)→awp P Γ Kp c Q ⟨t',m⟩:=by
 intro n
 induction n using Nat.strongRecOn with
 |_ n ih=>
  intro c Q R t t' h m ok r H hi
  cases n with
  |zero=>exact hi.elim
  |succ n=>
   cases c with
   |skip=>exact hi R t' m R.le_refl r H
   |exit id=>exact hi R t' m R.le_refl r H
   |ret=>exact hi R t' m R.le_refl r H
   |range f ps a b=>exact hi.elim
   |row l=>exact Nh hG hc ok r H hi
   |seq a b=>
    simp only[lK.okI,aG]at ok;simp only[vT]at hi;simp only[awp];refine ih n (dP n) ok.1 r H ?_;generalize vT P Γ0 call n a t h=x at hi;unfold zd3 at hi
    cases x with
    |no=>exact hi
    |pan v h1=>exact hi
    |ok e t1 h1=>
     cases e with
     |normal=>
      intro S t2 m2 s1 s2 s3;exact ih n (dP n) ok.2 s2 s3 (hi.mono s1)
     |ret=>exact hi
     |exit id=>exact hi
   |cond c a b=>
    simp only[lK.okI,aG]at ok;simp only[vT]at hi;simp only[awp];have rc:=zc6 hG r ok.1.1;simp only[zhl]at hi;generalize evT Γ0 t c=z at rc hi;generalize ev Γ t' c=z' at rc ⊢
    split at hi
    ·cases rc;exact⟨fun _=>ih n (dP n) ok.1.2 r H hi,fun k=>by cases k⟩
    ·cases rc;exact⟨fun k=>(by cases k),fun _=>ih n (dP n) ok.2 r H hi⟩
    ·exact hi.elim
   |block id c=>
    simp only[vT]at hi;simp only[awp];refine ih n (dP n) ok r H ?_;generalize vT P Γ0 call n c t h=x at hi;unfold zdp at hi
    cases x with
    |no=>exact hi
    |pan v h1=>exact hi
    |ok e t1 h1=>
     cases e with
     |normal=>exact hi
     |ret=>exact hi
     |exit i=>
      simp only at hi;intro S t2 m2 s1 s2 s3;simp only[nN]
      split at hi
      ·rename_i e;rw[if_pos e];exact hi S t2 m2 s1 s2 s3
      ·rename_i e;rw[if_neg e];exact hi S t2 m2 s1 s2 s3
   |loop c=>
    refine⟨fun k s=>k≤n+1∧∃ S t h,R.le S∧ER S t s.t∧HR S h.get s.m∧Gs S Q Kp (vT P Γ0 call k (.loop c) t h),n+1,⟨Nat.le_refl _,R,t,h,R.le_refl,r,H,hi⟩,?_⟩;rintro k s ⟨hk,S,t1,h1,s1,s2,s3,s4⟩
    cases k with
    |zero=>exact s4.elim
    |succ k=>
     simp only[vT]at s4;refine ih k (by omega) (show c.okI Γ0=true from ok) s2 s3 ?_;generalize vT P Γ0 call k c t1 h1=x at s4;unfold zd3 at s4
     cases x with
     |no=>exact s4
     |pan v h1=>exact s4
     |ok e t2 h2=>
      cases e with
      |normal=>
       intro T t3 m3 q1 q2 q3;exact⟨k,dP k,by omega,T,t2,h2,Ren.le_trans s1 q1,q2,q3,s4.mono q1⟩
      |ret=>exact s4
      |exit i=>exact s4
theorem PU{t:TE}{t':List V}{h:Hp}{m':Store}(r:ER R t t')(H:HR R h.get m'){x:oQ}{v:V}(hx:G7 t h x=some v):∃ v',qG ⟨t',m'⟩ x=some v'∧VR R v v':=by
 cases x with
 |tmp k=>cases hx;exact⟨_,rfl,r.at' k⟩
 |cell k s=>
  have rk:=r.at' k;simp only[G7]at hx;simp only[qG];generalize t.get k=z at rk hx;generalize t'.getD k (.val undef)=z' at rk ⊢
  cases rk with
  |ptr o r0=>
   obtain⟨y,y',h1,h2,h3⟩:=H.blk _ _ r0;simp only[h1]at hx;simp only[h2]
   cases y with
   |var T cs=>
    cases y' with
    |var T' cs'=>exact Ar h3.2 hx
    |_=>exact h3.elim
   |_=>cases hx
  |_=>cases hx
theorem PV{t:TE}{t':List V}{h:Hp}{m':Store}(r:ER R t t')(H:HR R h.get m'):∀ {l:List oQ} {vs:List V},G8 t h l=some vs→∃ vs',pY ⟨t',m'⟩ l=some vs'∧LR R vs vs'
 |[],vs,hx=>by cases hx;exact⟨[],rfl,.nil⟩
 |x::l,vs,hx=>by
  simp only[G8]at hx;simp only[pY]
  cases h1:G7 t h x with
  |none=>simp[h1]at hx
  |some v=>
   cases h2:G8 t h l with
   |none=>simp[h1,h2]at hx
   |some l' =>
    simp only[h1,h2]at hx;cases hx;obtain⟨v',a1,a2⟩:=PU r H h1;obtain⟨l2,b1,b2⟩:=PV r H h2;exact⟨v'::l2,by simp only[a1,b1],.cons a2 b2⟩
theorem zd6{t:TE}{t':List V}{h:Hp}{m':Store}(r:ER R t t')(H:HR R h.get m'){l:List oQ}{v:V}(hx:zd7 l t h=some v):∃ v',resV l ⟨t',m'⟩=some v'∧VR R v v':=by
 unfold zd7 at hx;unfold resV
 split at hx
 ·exact PU r H hx
 ·simp only[Option.map_eq_some_iff]at hx ⊢;obtain⟨vs,h1,rfl⟩:=hx;obtain⟨vs',a,b⟩:=PV r H h1;exact⟨_,⟨vs',a,rfl⟩,.tup b⟩
theorem Vy(hm:P.follows .mixedOrders=true)(hG:JU Γ0 Γ){prim:FuncId→List V→Hp→Option (Out×Hp)}(hprim:Di P Γ prim){tab:FuncId→Option AFn}(htab:∀ g F,tab g=some F→(∃ H,qK P H g=some F)∧F.body.okI Γ0=true)(N:Nat) :
  ∀ n,Di P Γ (QQ P Γ0 prim tab N n):=by
 intro n
 induction n with
 |zero=>intro g args h r hr;cases hr
 |succ n ih=>
  intro g args h r hr R args' m' rl H;simp only[QQ]at hr
  split at hr
  ·rename_i F hF;obtain⟨⟨HH,hcomp⟩,hok⟩:=htab g F hF;refine jF hm hcomp ?_ ?_
   ·rintro v m b x hb ⟨S,s1,s2,s3⟩;exact⟨S,s1,s2.more hb,s3⟩
   ·refine Vt hG ih N hok (ER.zek rl _) H ?_;generalize vT P Γ0 (QQ P Γ0 prim tab N n) N F.body (MR F.ntmps args) h=x at hr
    cases x with
    |no=>cases hr
    |pan v h1=>
     cases hr;intro S v' m1 s1 s2 s3;exact⟨S,s1,s3,s2⟩
    |ok e t1 h1=>
     have fin : (match zd7 F.res t1 h1 with
      |some v=>some (Out.ret v,h1)
      |none=>none)=some r→∀ S t' m',R.le S→ER S t1 t'→HR S h1.get m'→∃ v,resV F.res ⟨t',m'⟩=some v∧∃ m'',(∀ b x,m'' b=some x→m' b=some x)∧zgX R r (.ret v) m'':=by
      intro hr S t' m' s1 s2 s3
      split at hr
      ·rename_i v hv;cases hr;obtain⟨v',a,b⟩:=zd6 s2 s3 hv;exact⟨v',a,m',fun _ _ h=>h,S,s1,s3,b⟩
      ·cases hr
     cases e with
     |normal=>exact fin hr
     |ret=>exact fin hr
     |exit i=>cases hr
  ·exact hprim _ _ _ _ hr R args' m' rl H
theorem jB.less{f:FuncId}{args:List V}{m:Store}{A B:Out→Store→Prop}(h:jB P Γ f args m A)(hl:∀ o m',A o m' → ∃ m'',(∀ b x,m'' b=some x→m' b=some x)∧B o m''):jB P Γ f args m B:=
 ⟨h.1,fun G B0 mF w cargs hD hR hL => (h.2 G B0 mF w cargs hD hR hL).mono fun _ _ ⟨G',m',o,a,b,c,d,e,r⟩ => by
  obtain⟨m'',h1,h2⟩:=hl o m' r
  exact ⟨G',m'',o,a,fun x => by
   rcases b x with k|k
   ·left
    cases hx:m'' x with
    |none=>rfl
    |some y=>rw[h1 _ _ hx]at k;cases k
   ·exact .inr k,c.weaken (RG h1 b),d,e,h2⟩⟩
def look:List (Nat×AFn)→Nat→Option AFn
 |[],_=>none
 |(g,F)::l,k=>bif dO g k then some F else look l k
inductive O0 (P:Program) (Γ0:jI):List (Nat×AFn)→Prop
 |nil:O0 P Γ0 []
 |cons {g:Nat} {F:AFn} {l:List (Nat×AFn)}:(∃ H,qK P H g=some F)→F.body.okI Γ0=true→O0 P Γ0 l→O0 P Γ0 ((g,F)::l)
theorem O0.get:∀ {l:List (Nat×AFn)},O0 P Γ0 l→∀ g F,look l g=some F→(∃ H,qK P H g=some F)∧F.body.okI Γ0=true
 |_,.nil,g,F,h=>by cases h
 |_,.cons (g:=g0) a b r,g,F,h=>by
  simp only[look]at h;cases hb:dO g0 g
  ·rw[hb]at h;exact r.get g F h
  ·rw[hb]at h;obtain rfl:=bZ hb;cases h;exact⟨a,b⟩
end
end Go.Av
