/- Whole codes and calls reckoned out, and that what they come to holds of the program. No condition. -/
import Derived.Test.YtmglaebjmaomnaaGreatDoorTAvI
open Bool renaming and_eq_true→aG
open List renaming getD_eq_getElem?_getD→aT
open Nat renaming beq→dI, eq_of_beq_eq_true→bU, ble→eY, le_of_ble_eq_true→eQ, lt_succ_self→dN
set_option linter.unusedSimpArgs false
set_option linter.unusedVariables false
namespace Go.Av
open Go.RowKit
def SE:Value→Value→Bool
 | .bool a,.bool b=>a==b
 | .int k n,.int k' n'=>SG k k'&&Qz n n'
 | .string a,.string b=>CZ a.data.toList b.data.toList
 | .pointer none,.pointer none=>true
 | .nilFunc,.nilFunc=>true
 | .nilIface,.nilIface=>true
 |_,_=>false
theorem OY{a b:Value}(h:SE a b=true):a=b:=by
 unfold SE at h
 split at h
 ·rw[beq_iff_eq.1 h]
 ·simp only[aG]at h;rw[IL h.1,U2 h.2]
 ·rename_i a b;obtain⟨⟨a⟩⟩:=a;obtain⟨⟨b⟩⟩:=b;have h:a=b:=OZ h;rw[h]
 ·rfl
 ·rfl
 ·rfl
 ·cases h
def zcW:Tok→Tok→Bool
 | .no,.no=>true
 | .non,.non=>true
 | .own,.own=>true
 | .full,.full=>true
 | .tip a b,.tip c d=>dI a c&&dI b d
 |_,_=>false
theorem U1{a b:Tok}(h:zcW a b=true):a=b:=by
 cases a<;>cases b<;>simp only[zcW,aG]at h<;>first|rfl|cases h|skip
 rename_i a b;rw[bU a,bU b]
mutual
def eqV:V→V→Bool
 | .val a,.val b=>SE a b
 | .ptr a o,.ptr b p=>dI a b&&dI o p
 | .elt a,.elt b=>KP a b
 | .sl a m k,.sl a' m' k'=>KP a a'&&KP m m'&&zcW k k'
 | .agg a,.agg b=>KP a b
 | .tup a,.tup b=>KP a b
 | .ifc t a,.ifc s b=>dI t s&&eqV a b
 | .fn (.func f) a c,.fn (.func g) b d=>dI f g&&KP a b&&KP c d
 |_,_=>false
def KP:List V→List V→Bool
 |[],[]=>true
 |a::l,b::r=>eqV a b&&KP l r
 |_,_=>false
end
mutual
theorem Fb:∀ {a b:V},eqV a b=true→a=b
 | .val a,b,h=>by
  cases b<;>simp only[eqV]at h<;>first|cases h|skip
  rw[OY h]
 | .ptr a o,b,h=>by
  cases b<;>simp only[eqV,aG]at h<;>first|cases h|skip
  rename_i h1 h2;rw[bU h1,bU h2]
 | .elt a,b,h=>by
  cases b<;>simp only[eqV]at h<;>first|cases h|skip
  rw[rW h]
 | .sl a m k,b,h=>by
  cases b<;>simp only[eqV,aG]at h<;>first|cases h|skip
  rename_i h1 h2;rw[rW h1.1,rW h1.2,U1 h2]
 | .agg a,b,h=>by
  cases b<;>simp only[eqV]at h<;>first|cases h|skip
  rw[rW h]
 | .tup a,b,h=>by
  cases b<;>simp only[eqV]at h<;>first|cases h|skip
  rw[rW h]
 | .ifc t a,b,h=>by
  cases b<;>simp only[eqV,aG]at h<;>first|cases h|skip
  rename_i h1 h2;rw[bU h1,Fb h2]
 | .fn f a c,b,h=>by
  cases f<;>cases b<;>first|(simp only[eqV]at h;cases h)|skip
  rename_i f g b d
  cases g<;>first|(simp only[eqV]at h;cases h)|skip
  simp only[eqV,aG]at h;rw[bU h.1.1,rW h.1.2,rW h.2]
theorem rW:∀ {a b:List V},KP a b=true→a=b
 |[],[],_=>rfl
 |a::l,b::r,h=>by
  simp only[KP,aG]at h;rw[Fb h.1,rW h.2]
 |[],_::_,h=>by simp[KP]at h
 |_::_,[],h=>by simp[KP]at h
end
def okG(Γ:jG):Operand→Bool
 | .global g=>(Γ g).isSome
 |_=>true
def Item.okI(Γ:jG)(x:Item):Bool:=uk x.ao&&x.ao.jX.all (okG Γ)&&x.still.all fun y=>uk y.2.2&&y.2.2.jX.all (okG Γ)
def lF.okI(Γ:jG):lF→Bool
 | .row l=>l.all (Item.okI Γ)
 | .seq a b=>a.okI Γ&&b.okI Γ
 | .cond c a b=>okG Γ c&&a.okI Γ&&b.okI Γ
 | .block _ c | .loop c=>c.okI Γ
 | .range .. => false
 |_=>true
structure TE where
 n:Nat
 t:Tr V
def TE.get(e:TE)(i:Nat):V:=match e.t.get i with
 |some v=>v
 |none=>.val undef
def TE.put(e:TE)(d:Nat)(v:V):TE:=⟨e.n,e.t.put d v⟩
def evT(Γ:jG)(e:TE):Operand→V
 | .tmp n=>e.get n
 | .const v=>pG v
 | .global g=>match Γ g with
  |some cs=>.elt cs
  |none=>.ptr g 0
 | .func f=>.fn (.func f) [] []
def GV(g:Option (Tmp×Bool))(e:TE):Bool:=match g with
 |none=>true
 |some (d,want)=>isBool want (e.get d)
def UT:List V→Nat→Tr V→Tr V
 |[],_,t=>t
 |v::l,i,t=>UT l (i+1) (t.put i v)
def MN(n:Nat)(args:List V):TE:=⟨bif eY args.length n then n else args.length,UT args 0 .nil⟩
inductive IR where
 |no
 |ok (e:Ex) (t:TE) (h:Hp)
 |pan (v:V) (h:Hp)
def zhE(e:TE)(d:Option Tmp)(v:V):Option TE:=match d with
 |some d=>bif eY (d+1) e.n then some (e.put d v)else none
 |none=>some e
def MJ(P:Program)(Γ:jG)(t:TE)(h:Hp)(y:Tmp×Option (Tmp×Bool)×AOp):Bool:=
 bif GV y.2.1 t then match IK P (evT Γ t) h.get y.2.2 with
  |some v=>eqV v (t.get y.1)
  |none=>false
 else eqV (.val undef) (t.get y.1)
def EF(P:Program)(Γ:jG)(t:TE)(h:Hp):List (Tmp×Option (Tmp×Bool)×AOp)→Bool
 |[]=>true
 |y::l=>bif MJ P Γ t h y then EF P Γ t h l else false
def zba(P:Program)(Γ:jG)(k:TE→Hp→IR)(x:Item)(t:TE):Option (Out×Hp)→IR
 |some (.ret v,h')=>match zhE t x.dst v with
  |some t'=>bif EF P Γ t' h' x.still then k t' h' else .no
  |none=>.no
 |some (.pan v,h')=>.pan v h'
 |none=>.no
def zbo(P:Program)(Γ:jG)(call:FuncId→List V→Hp→Option (Out×Hp)):List Item→TE→Hp→IR
 |[],t,h=>.ok .normal t h
 |x::l,t,h=>zba P Γ (zbo P Γ call l) x t (bif GV x.g t then opI P call (evT Γ t) h x.ao else some (.ret (.val undef),h))
def zdW(k:TE→Hp→IR):IR→IR
 | .ok .normal t h=>k t h
 |r=>r
def zhm(v:V)(a b:TE→Hp→IR)(t:TE)(h:Hp):IR:=match v with
 | .val (.bool true)=>a t h
 | .val (.bool false)=>b t h
 |_=>.no
def zdf(id:Nat):IR→IR
 | .ok (.exit i) t h=>if i=id then .ok .normal t h else .ok (.exit i) t h
 |r=>r
def vS(P:Program)(Γ:jG)(call:FuncId→List V→Hp→Option (Out×Hp)):Nat→lF→TE→Hp→IR
 |0,_,_,_=>.no
 |n+1,c,t,h=>match c with
  | .skip=>.ok .normal t h
  | .row l=>zbo P Γ call l t h
  | .seq a b=>zdW (vS P Γ call n b) (vS P Γ call n a t h)
  | .cond c a b=>zhm (evT Γ t c) (vS P Γ call n a) (vS P Γ call n b) t h
  | .block id c=>zdf id (vS P Γ call n c t h)
  | .loop c=>zdW (vS P Γ call n (.loop c)) (vS P Γ call n c t h)
  | .exit id=>.ok (.exit id) t h
  | .ret=>.ok .ret t h
  | .range .. => .no
def Hw(t:TE)(h:Hp):oZ→Option V
 | .tmp k=>some (t.get k)
 | .cell k s=>match t.get k with
  | .ptr b o=>match h.get b with
   |some (.var _ cs)=>mW cs o s
   |_=>none
  |_=>none
def Hy(t:TE)(h:Hp):List oZ→Option (List V)
 |[]=>some []
 |x::r=>match Hw t h x,Hy t h r with
  |some v,some l=>some (v::l)
  |_,_=>none
def zd0(rs:List oZ)(t:TE)(h:Hp):Option V:=match rs with
 |[x]=>Hw t h x
 |rs=>(Hy t h rs).map .tup
def znm(res:List oZ):IR→Option (Out×Hp)
 | .ok (.exit _) _ _=>none
 | .ok _ t h=>match zd0 res t h with
  |some v=>some (.ret v,h)
  |none=>none
 | .pan v h=>some (.pan v,h)
 | .no=>none
def QI(P:Program)(Γ:jG)(prim:FuncId→List V→Hp→Option (Out×Hp))(tab:FuncId→Option AFn)(N:Nat):Nat→FuncId→List V→Hp→Option (Out×Hp)
 |0,_,_,_=>none
 |n+1,g,args,h=>match tab g with
  |some F=>znm F.res (vS P Γ (QI P Γ prim tab N n) N F.body (MN F.ntmps args) h)
  |none=>prim g args h
structure ER (R:Ren) (e:TE) (t:List V):Prop where
 len:t.length=e.n
 at':∀ i,VR R (e.get i) (t.getD i (.val undef))
theorem ER.mono{R S:Ren}(h:R.le S){e:TE}{t:List V}(r:ER R e t):ER S e t:=⟨r.len,fun i=>(r.at' i).mono h⟩
theorem ER.put{R:Ren}{e:TE}{t:List V}{v v':V}(r:ER R e t)(k:VR R v v'){d:Option Tmp}{e':TE}(h:zhE e d v=some e'):ER R e' ((⟨t,fun _=>none⟩:St).put d v').t:=by
 cases d with
 |none=>cases h;exact r
 |some d=>
  simp only[zhE]at h;cases hb:eY (d+1) e.n
  ·simp[hb]at h
  ·simp only[hb,cond_true,Option.some.injEq]at h;subst h;have hd:d<t.length:=by rw[r.len];exact eQ hb
   refine⟨by simp[St.put,TE.put,r.len],fun i => ?_⟩;simp only[St.put,TE.put,TE.get,Tr.get_put]
   by_cases e:i=d
   ·subst e;simp only[if_pos];rw[aT,List.getElem?_set_self hd];exact k
   ·rw[if_neg e,aT,List.getElem?_set_ne (fun h=>e h.symm)];have:=r.at' i;rw[aT]at this;exact this
theorem Qy:∀ (l:List V) (i:Nat) (t:Tr V) (j:Nat),(UT l i t).get j=if i≤j∧j<i+l.length then l[j-i]? else t.get j
 |[],i,t,j=>by rw[UT,if_neg (by simp only[List.length_nil];omega)]
 |v::l,i,t,j=>by
  rw[UT,Qy l,Tr.get_put];simp only[List.length_cons]
  by_cases h1:i=j
  ·subst h1;rw[if_neg (by omega),if_pos rfl,if_pos (by omega)];simp
  ·by_cases h2:i+1≤j∧j<i+1+l.length
   ·rw[if_pos h2,if_pos (by omega),show j-i=(j-(i+1))+1 by omega];simp
   ·rw[if_neg h2,if_neg (by omega),if_neg (by omega)]
theorem ER.zeb{R:Ren}{args args':List V}(r:LR R args args')(n:Nat):ER R (MN n args) (start n args'):=by
 refine⟨?_,fun i => ?_⟩
 ·have hl:=r.length;simp only[start,MN,List.length_append,List.length_replicate];cases hb:eY args.length n
  ·have:¬ args.length≤n:=fun h=>by rw[show eY args.length n=true from (Nat.ble_eq▸h:eY args.length n=true)]at hb;cases hb
   simp only[cond_false];omega
  ·have:=eQ hb;simp only[cond_true];omega
 ·simp only[MN,TE.get,Qy,start];have hl:=r.length
  by_cases h:i<args.length
  ·rw[if_pos (by omega),aT,List.getElem?_append_left (by omega)];have:=r.getD i;rw[aT,aT]at this;simp only[Nat.sub_zero];generalize args[i]? = z at this ⊢;cases z<;>exact this
  ·rw[if_neg (by omega),aT,List.getElem?_append_right (by omega)]
   have:(List.replicate (n-args'.length) (V.val undef))[i-args'.length]?.getD (V.val undef)=V.val undef:=by
    rw[List.getElem?_replicate]
    split<;>rfl
   rw[this];exact .val undef
def GM(R:Ren)(Q:Ex→St→Prop)(Kp:V→Store→Prop):IR→Prop
 | .no=>False
 | .ok e t h=>∀ S t' m',R.le S→ER S t t'→HR S h.get m' → Q e ⟨t',m'⟩
 | .pan v h=>∀ S v' m',R.le S→VR S v v'→HR S h.get m' → Kp v' m'
theorem GM.mono{R S:Ren}(h:R.le S){Q:Ex→St→Prop}{Kp:V→Store→Prop}{r:IR}(k:GM R Q Kp r):GM S Q Kp r:=by
 cases r with
 |no=>exact k
 |ok e t hp=>exact fun T t' m' a b c=>k T t' m' (Ren.le_trans h a) b c
 |pan v hp=>exact fun T t' m' a b c=>k T t' m' (Ren.le_trans h a) b c
def JQ(Γ0 Γ:jG):Prop:=∀ g cs,Γ0 g=some cs→Γ g=some cs∧cs.all yu=true
section
variable {P:Program} {Γ Γ0:jG} {call:FuncId→List V→Hp→Option (Out×Hp)} {R:Ren} {Q:Ex→St→Prop} {Kp:V→Store→Prop}
theorem zcU(hG:JQ Γ0 Γ){t:TE}{t':List V}(r:ER R t t'){x:Operand}(hx:okG Γ0 x=true):VR R (evT Γ0 t x) (ev Γ t' x):=by
 cases x with
 |tmp n=>exact r.at' n
 |const v=>exact Gj v
 |global g=>
  simp only[okG,Option.isSome_iff_exists]at hx;obtain⟨cs,hcs⟩:=hx;obtain⟨h1,h2⟩:=hG g cs hcs;simp only[ev,evT,hcs,h1];exact .elt (rX h2)
 |func f=>exact .fn rfl .nil .nil
theorem Qh{w:Bool}{v u:V}(r:VR R v u):isBool w u=isBool w v:=by
 cases r<;>rfl
theorem Mc{t:TE}{t':List V}(r:ER R t t')(g:Option (Tmp×Bool)):kP g t'=GV g t:=by
 cases g with
 |none=>rfl
 |some x=>exact Qh (r.at' _)
mutual
theorem VR.fun:∀ {v a b:V},VR R v a→VR R v b→(∀ x y z,R x y→R x z→y=z)→a=b
 |_,_,_,.val v,k,hR=>by cases k;rfl
 |_,_,_,.ptr o r,k,hR=>by cases k with|ptr _ r'=>rw[hR _ _ _ r r']
 |_,_,_,.elt r,k,hR=>by cases k with|elt r'=>rw[r.fun r' hR]
 |_,_,_,.sl (k:=k0) a b c,k,hR=>by
  cases k with
  |sl a' b' c' =>
   rw[a.fun a' hR,b.fun b' hR];rename_i k1 _ _ k2
   cases k0<;>cases k1<;>first|exact c.elim|(cases k2<;>first|exact c'.elim|rfl|skip)
   ·rw[hR _ _ _ c.1 c'.1,←c.2,←c'.2]
   ·have e1:=Eq.trans (Eq.symm c) c';rw[e1]
   ·rw[hR _ _ _ c.1 c'.1,←c.2.1,←c'.2.1,←c.2.2,←c'.2.2]
 |_,_,_,.fn x a b,k,hR=>by cases k with|fn _ a' b'=>rw[a.fun a' hR,b.fun b' hR]
 |_,_,_,.ifc r,k,hR=>by cases k with|ifc r'=>rw[r.fun r' hR]
 |_,_,_,.agg r,k,hR=>by cases k with|agg r'=>rw[r.fun r' hR]
 |_,_,_,.tup r,k,hR=>by cases k with|tup r'=>rw[r.fun r' hR]
 |_,_,_,.arr _ _ _ r,k,hR=>by cases k with|arr _ _ _ r'=>rw[hR _ _ _ r r']
 |_,_,_,.res _ _ _ r,k,hR=>by cases k with|res _ _ _ r'=>rw[hR _ _ _ r r']
theorem LR.fun:∀ {v a b:List V},LR R v a→LR R v b→(∀ x y z,R x y→R x z→y=z)→a=b
 |_,_,_,.nil,k,hR=>by cases k;rfl
 |_,_,_,.cons a b,k,hR=>by cases k with|cons a' b'=>rw[a.fun a' hR,b.fun b' hR]
end
theorem QY(hG:JQ Γ0 Γ){t:TE}{t':List V}{h:Hp}{m:Store}(r:ER R t t')(H:HR R h.get m){y:Tmp×Option (Tmp×Bool)×AOp}(hp:uk y.2.2=true)(ho:y.2.2.jX.all (okG Γ0)=true)(hs:MJ P Γ0 t h y=true):mV P Γ y ⟨t',m⟩:=by
 unfold MJ at hs;unfold mV;simp only;rw[Mc r];cases hw:GV y.2.1 t
 ·simp only[hw,cond_false]at hs;rw[if_neg (by simp)];have e:=Fb hs;have:=r.at' y.1;rw[←e]at this;generalize t'.getD y.1 (.val undef)=z at this ⊢;cases this;rfl
 ·simp only[hw,cond_true]at hs;rw[if_pos rfl]
  split at hs
  ·rename_i v hv;rw[UY]at hv;obtain⟨v',h1,h2⟩:=IJ (ρ':=ev Γ t') hp (fun x hx=>zcU hG r (List.all_eq_true.1 ho x hx)) H.weak hv;rw[h1];have e:=Fb hs;subst e;have:=r.at' y.1;rw[VR.fun h2 this H.left]
  ·cases hs
theorem JS{t:TE}{h:Hp}:∀ {l:List (Tmp×Option (Tmp×Bool)×AOp)},EF P Γ0 t h l=true→∀ y∈l,MJ P Γ0 t h y=true
 |[],_,y,hy=>by cases hy
 |x::l,hs,y,hy=>by
  simp only[EF]at hs;cases hx:MJ P Γ0 t h x
  ·simp[hx]at hs
  ·simp only[hx,cond_true]at hs
   rcases List.mem_cons.1 hy with rfl|hy
   ·exact hx
   ·exact JS hs y hy
theorem zhC(t:List V)(m:Store)(d:Option Tmp)(v:V):(⟨t,m⟩:St).put d v=⟨((⟨t,fun _=>none⟩:St).put d v).t,m⟩:=by cases d<;>rfl
theorem MZ(hG:JQ Γ0 Γ)(hc:Du P Γ call):∀ {l:List Item} {R:Ren} {t:TE} {t':List V} {h:Hp} {m:Store},l.all (Item.okI Γ0)=true→ER R t t'→HR R h.get m→GM R Q Kp (zbo P Γ0 call l t h)→sG P Γ Kp l (Q .normal) ⟨t',m⟩
 |[],R,t,t',h,m,_,r,H,hi=>hi R t' m R.le_refl r H
 |x::l,R,t,t',h,m,hl,r,H,hi=>by
  simp only[List.all_cons,aG]at hl;obtain⟨hx,hl⟩:=hl;simp only[Item.okI,aG]at hx;obtain⟨⟨hx1,hx2⟩,hx3⟩:=hx
  have hst:∀ {S:Ren} {t:TE} {t':List V} {h:Hp} {m:Store},ER S t t'→HR S h.get m→EF P Γ0 t h x.still=true→∀ y∈x.still,mV P Γ y ⟨t',m⟩:=by
   intro S t t' h m r H ha y hy;have h1:=List.all_eq_true.1 hx3 y hy;simp only[aG]at h1;exact QY hG r H h1.1 h1.2 (JS ha y hy)
  have fin:∀ {S:Ren} {h' : Hp} {m':Store} {v v':V},R.le S→HR S h'.get m'→VR S v v'→GM R Q Kp (zba P Γ0 (zbo P Γ0 call l) x t (some (.ret v,h'))) →
    (∀ y∈x.still,mV P Γ y ((⟨t',m'⟩:St).put x.dst v'))∧sG P Γ Kp l (Q .normal) ((⟨t',m'⟩:St).put x.dst v'):=by
   intro S h' m' v v' s1 s2 s3 hi;simp only[zba]at hi
   split at hi
   ·rename_i t1 ht1;have r2:=(r.mono s1).put s3 ht1;rw[zhC];cases ha:EF P Γ0 t1 h' x.still
    ·simp[ha]at hi;exact hi.elim
    ·simp only[ha,cond_true]at hi;exact⟨hst r2 s2 ha,MZ hG hc hl r2 s2 (hi.mono s1)⟩
   ·exact hi.elim
  show kX P Γ Kp x (fun s=>(∀ y∈x.still,mV P Γ y s)∧sG P Γ Kp l (Q .normal) s) ⟨t',m⟩;unfold kX;simp only[zbo]at hi;rw[Mc r];cases hw:GV x.g t
  ·simp only[hw,cond_false]at hi;rw[if_neg (by simp)];exact fin R.le_refl H (.val undef) hi
  ·simp only[hw,cond_true]at hi;rw[if_pos rfl]
   cases ho:opI P call (evT Γ0 t) h x.ao with
   |none=>rw[ho]at hi;exact hi.elim
   |some z=>
    rw[ho]at hi;obtain⟨o1,h'⟩:=z;refine Zx hc hx1 (fun y hy=>zcU hG r (List.all_eq_true.1 hx2 y hy)) H ho ?_;intro S o m' s1 s2 s3
    cases o1 with
    |ret v=>
     cases o with
     |pan v'=>exact s3.elim
     |ret v'=>exact fin s1 s2 s3 hi
    |pan v=>
     cases o with
     |ret v'=>exact s3.elim
     |pan v'=>exact hi S v' m' s1 s3 s2
theorem Vj(hG:JQ Γ0 Γ)(hc:Du P Γ call):∀ (n:Nat) {c:lF} {Q:Ex→St→Prop} {R:Ren} {t:TE} {t':List V} {h:Hp} {m:Store},c.okI Γ0=true→ER R t t'→HR R h.get m→GM R Q Kp (vS P Γ0 call n c t h)→awp P Γ Kp c Q ⟨t',m⟩:=by
 intro n
 induction n using Nat.strongRecOn with
 |_ n ih=>
  intro c Q R t t' h m ok r H hi
  cases n with
  |zero=>exact hi.elim
  |succ n=>
   cases c with
   |skip=>exact hi R t' m R.le_refl r H
   |exit id=>exact hi R t' m R.le_refl r H
   |ret=>exact hi R t' m R.le_refl r H
   |range f ps a b=>exact hi.elim
   |row l=>exact MZ hG hc ok r H hi
   |seq a b=>
    simp only[lF.okI,aG]at ok;simp only[vS]at hi;simp only[awp];refine ih n (dN n) ok.1 r H ?_;generalize vS P Γ0 call n a t h=x at hi;unfold zdW at hi
    cases x with
    |no=>exact hi
    |pan v h1=>exact hi
    |ok e t1 h1=>
     cases e with
     |normal=>
      intro S t2 m2 s1 s2 s3;exact ih n (dN n) ok.2 s2 s3 (hi.mono s1)
     |ret=>exact hi
     |exit id=>exact hi
   |cond c a b=>
    simp only[lF.okI,aG]at ok;simp only[vS]at hi;simp only[awp];have rc:=zcU hG r ok.1.1;simp only[zhm]at hi;generalize evT Γ0 t c=z at rc hi;generalize ev Γ t' c=z' at rc ⊢
    split at hi
    ·cases rc;exact⟨fun _=>ih n (dN n) ok.1.2 r H hi,fun k=>by cases k⟩
    ·cases rc;exact⟨fun k=>(by cases k),fun _=>ih n (dN n) ok.2 r H hi⟩
    ·exact hi.elim
   |block id c=>
    simp only[vS]at hi;simp only[awp];refine ih n (dN n) ok r H ?_;generalize vS P Γ0 call n c t h=x at hi;unfold zdf at hi
    cases x with
    |no=>exact hi
    |pan v h1=>exact hi
    |ok e t1 h1=>
     cases e with
     |normal=>exact hi
     |ret=>exact hi
     |exit i=>
      simp only at hi;intro S t2 m2 s1 s2 s3;simp only[nT]
      split at hi
      ·rename_i e;rw[if_pos e];exact hi S t2 m2 s1 s2 s3
      ·rename_i e;rw[if_neg e];exact hi S t2 m2 s1 s2 s3
   |loop c=>
    refine⟨fun k s=>k≤n+1∧∃ S t h,R.le S∧ER S t s.t∧HR S h.get s.m∧GM S Q Kp (vS P Γ0 call k (.loop c) t h),n+1,⟨Nat.le_refl _,R,t,h,R.le_refl,r,H,hi⟩,?_⟩;rintro k s ⟨hk,S,t1,h1,s1,s2,s3,s4⟩
    cases k with
    |zero=>exact s4.elim
    |succ k=>
     simp only[vS]at s4;refine ih k (by omega) (show c.okI Γ0=true from ok) s2 s3 ?_;generalize vS P Γ0 call k c t1 h1=x at s4;unfold zdW at s4
     cases x with
     |no=>exact s4
     |pan v h1=>exact s4
     |ok e t2 h2=>
      cases e with
      |normal=>
       intro T t3 m3 q1 q2 q3;exact⟨k,dN k,by omega,T,t2,h2,Ren.le_trans s1 q1,q2,q3,s4.mono q1⟩
      |ret=>exact s4
      |exit i=>exact s4
theorem PM{t:TE}{t':List V}{h:Hp}{m':Store}(r:ER R t t')(H:HR R h.get m'){x:oZ}{v:V}(hx:Hw t h x=some v):∃ v',qJ ⟨t',m'⟩ x=some v'∧VR R v v':=by
 cases x with
 |tmp k=>cases hx;exact⟨_,rfl,r.at' k⟩
 |cell k s=>
  have rk:=r.at' k;simp only[Hw]at hx;simp only[qJ];generalize t.get k=z at rk hx;generalize t'.getD k (.val undef)=z' at rk ⊢
  cases rk with
  |ptr o r0=>
   obtain⟨y,y',h1,h2,h3⟩:=H.blk _ _ r0;simp only[h1]at hx;simp only[h2]
   cases y with
   |var T cs=>
    cases y' with
    |var T' cs'=>exact AO h3.2 hx
    |_=>exact h3.elim
   |_=>cases hx
  |_=>cases hx
theorem PN{t:TE}{t':List V}{h:Hp}{m':Store}(r:ER R t t')(H:HR R h.get m'):∀ {l:List oZ} {vs:List V},Hy t h l=some vs→∃ vs',qo ⟨t',m'⟩ l=some vs'∧LR R vs vs'
 |[],vs,hx=>by cases hx;exact⟨[],rfl,.nil⟩
 |x::l,vs,hx=>by
  simp only[Hy]at hx;simp only[qo]
  cases h1:Hw t h x with
  |none=>simp[h1]at hx
  |some v=>
   cases h2:Hy t h l with
   |none=>simp[h1,h2]at hx
   |some l' =>
    simp only[h1,h2]at hx;cases hx;obtain⟨v',a1,a2⟩:=PM r H h1;obtain⟨l2,b1,b2⟩:=PN r H h2;exact⟨v'::l2,by simp only[a1,b1],.cons a2 b2⟩
theorem zdZ{t:TE}{t':List V}{h:Hp}{m':Store}(r:ER R t t')(H:HR R h.get m'){l:List oZ}{v:V}(hx:zd0 l t h=some v):∃ v',resV l ⟨t',m'⟩=some v'∧VR R v v':=by
 unfold zd0 at hx;unfold resV
 split at hx
 ·exact PM r H hx
 ·simp only[Option.map_eq_some_iff]at hx ⊢;obtain⟨vs,h1,rfl⟩:=hx;obtain⟨vs',a,b⟩:=PN r H h1;exact⟨_,⟨vs',a,rfl⟩,.tup b⟩
theorem Vm(hm:P.follows .mixedOrders=true)(hG:JQ Γ0 Γ){prim:FuncId→List V→Hp→Option (Out×Hp)}(hprim:Du P Γ prim){tab:FuncId→Option AFn}(htab:∀ g F,tab g=some F→(∃ H,qO P H g=some F)∧F.body.okI Γ0=true)(N:Nat) :
  ∀ n,Du P Γ (QI P Γ0 prim tab N n):=by
 intro n
 induction n with
 |zero=>intro g args h r hr;cases hr
 |succ n ih=>
  intro g args h r hr R args' m' rl H;simp only[QI]at hr
  split at hr
  ·rename_i F hF;obtain⟨⟨HH,hcomp⟩,hok⟩:=htab g F hF;refine jE hm hcomp ?_ ?_
   ·rintro v m b x hb ⟨S,s1,s2,s3⟩;exact⟨S,s1,s2.more hb,s3⟩
   ·refine Vj hG ih N hok (ER.zeb rl _) H ?_;generalize vS P Γ0 (QI P Γ0 prim tab N n) N F.body (MN F.ntmps args) h=x at hr
    cases x with
    |no=>cases hr
    |pan v h1=>
     cases hr;intro S v' m1 s1 s2 s3;exact⟨S,s1,s3,s2⟩
    |ok e t1 h1=>
     have fin : (match zd0 F.res t1 h1 with
      |some v=>some (Out.ret v,h1)
      |none=>none)=some r→∀ S t' m',R.le S→ER S t1 t'→HR S h1.get m'→∃ v,resV F.res ⟨t',m'⟩=some v∧∃ m'',(∀ b x,m'' b=some x→m' b=some x)∧zgX R r (.ret v) m'':=by
      intro hr S t' m' s1 s2 s3
      split at hr
      ·rename_i v hv;cases hr;obtain⟨v',a,b⟩:=zdZ s2 s3 hv;exact⟨v',a,m',fun _ _ h=>h,S,s1,s3,b⟩
      ·cases hr
     cases e with
     |normal=>exact fin hr
     |ret=>exact fin hr
     |exit i=>cases hr
  ·exact hprim _ _ _ _ hr R args' m' rl H
theorem jB.less{f:FuncId}{args:List V}{m:Store}{A B:Out→Store→Prop}(h:jB P Γ f args m A)(hl:∀ o m',A o m' → ∃ m'',(∀ b x,m'' b=some x→m' b=some x)∧B o m''):jB P Γ f args m B:=
 ⟨h.1,fun G B0 mF w cargs hD hR hL => (h.2 G B0 mF w cargs hD hR hL).mono fun _ _ ⟨G',m',o,a,b,c,d,e,r⟩ => by
  obtain⟨m'',h1,h2⟩:=hl o m' r
  exact ⟨G',m'',o,a,fun x => by
   rcases b x with k|k
   ·left
    cases hx:m'' x with
    |none=>rfl
    |some y=>rw[h1 _ _ hx]at k;cases k
   ·exact .inr k,c.weaken (Rx h1 b),d,e,h2⟩⟩
def look:List (Nat×AFn)→Nat→Option AFn
 |[],_=>none
 |(g,F)::l,k=>bif dI g k then some F else look l k
inductive OM (P:Program) (Γ0:jG):List (Nat×AFn)→Prop
 |nil:OM P Γ0 []
 |cons {g:Nat} {F:AFn} {l:List (Nat×AFn)}:(∃ H,qO P H g=some F)→F.body.okI Γ0=true→OM P Γ0 l→OM P Γ0 ((g,F)::l)
theorem OM.get:∀ {l:List (Nat×AFn)},OM P Γ0 l→∀ g F,look l g=some F→(∃ H,qO P H g=some F)∧F.body.okI Γ0=true
 |_,.nil,g,F,h=>by cases h
 |_,.cons (g:=g0) a b r,g,F,h=>by
  simp only[look]at h;cases hb:dI g0 g
  ·rw[hb]at h;exact r.get g F h
  ·rw[hb]at h;obtain rfl:=bU hb;cases h;exact⟨a,b⟩
end
end Go.Av
