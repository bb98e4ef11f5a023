/- Structs compared. No condition. -/
import Derived.Laws.StructEq
import Derived.Test.YtmglaebjmaomnaaGreatDoorTAvT
open Bool renaming false_eq_true→aF
open Option renaming bind_some→bi, map_some→dV
open Option.some renaming injEq→au
set_option linter.unusedSimpArgs false
set_option linter.unusedVariables false
namespace Go.Av
section
variable {P:Program}
theorem kS{α β:Type}(s:Sem α)(k:α→Sem β):kF P (s >>= k)=(kF P s).bind fun a=>kF P (k a):=by
 show kF P (Sem.bind s k)=_
 induction s with
 |pure a=>rfl
 |program k' ih=>simp only[Sem.bind,kF];exact ih _
 |mark m k' ih=>simp only[Sem.bind,kF];exact ih
 |_=>rfl
theorem lM{α:Type}(a:α):kF P (pure a:Sem α)=some a:=rfl
theorem rJ:kF P program=some P:=rfl
theorem pz{t:TypeId}{d:TypeDesc}(h:P.underlying t=some d):kF P (underlying t)=some d:=by
 unfold underlying;simp only[kS,rJ,bi,h];rfl
theorem rD(d:Nat)(t:TypeId)(xs ys:Array Value)(ht:P.underlying t=some (.struct (P.fieldsOf t)))(hp:P.stoodInHeld t=false) :
  kF P (Op.equalIn (d+1) t (.agg xs) (.agg ys))=kF P (Op.eqFields d xs ys (P.fieldsOf t).toList):=by
 simp only[Op.equalIn,kS,pz ht,bi,rJ,hp,aF,if_false];rw[←Array.forIn_toList];generalize (P.fieldsOf t).toList=fs;clear ht
 induction fs with
 |nil=>simp[Op.eqFields,kS,lM]
 |cons f fs ih=>
  simp only[List.forIn_cons,Op.eqFields,kS]
  split
  ·simp only[kS]
   cases kF P (part f.type xs f.offset)with
   |none=>rfl
   |some a=>
    simp only[bi]
    cases kF P (part f.type ys f.offset)with
    |none=>rfl
    |some b=>
     simp only[bi]
     cases kF P (Op.equalIn d f.type a b)with
     |none=>rfl
     |some r=>
      cases r
      ·rfl
      ·simpa [kS,lM] using ih
  ·simpa [kS,lM] using ih
def LC(P:Program)(T:TypeId):Value→Value→Option Bool
 | .int k a,.int k' b=>match P.underlying T with
  |some (.int _)=>if k=k' then some (a==b)else none
  |_=>none
 | .string a,.string b=>match P.underlying T with
  |some .string=>some (a.toList==b.toList)
  |_=>none
 | .bool a,.bool b=>match P.underlying T with
  |some .bool=>some (a==b)
  |_=>none
 |_,_=>none
theorem Aj{T:TypeId}{a b:Value}{r:Bool}{d:Nat}(h:LC P T a b=some r):kF P (Op.equalIn (d+1) T a b)=some r:=by
 unfold LC at h
 split at h
 ·split at h
  ·rename_i k x k' y _ k2 hu
   split at h
   ·rename_i hk;simp only[Op.equalIn,kS,pz hu,bi,hk,if_true,lM];exact h
   ·cases h
  ·cases h
 ·split at h
  ·rename_i x y _ hu;simp only[Op.equalIn,kS,pz hu,bi,lM,beq_toListBytes];exact h
  ·cases h
 ·split at h
  ·rename_i x y _ hu;simp only[Op.equalIn,kS,pz hu,bi,lM];exact h
  ·cases h
 ·cases h
def eqF(P:Program)(xs ys:Array Value):List Field→Option Bool
 |[]=>some true
 | f :: fs => if f.name = "_" then eqF P xs ys fs else match kF P (part f.type xs f.offset), kF P (part f.type ys f.offset) with
  |some a,some b=>match LC P f.type a b,eqF P xs ys fs with
   |some r,some q=>some (r&&q)
   |_,_=>none
  |_,_=>none
theorem Fe{xs ys:Array Value}{d:Nat}:∀ {fs:List Field} {r:Bool},eqF P xs ys fs=some r→kF P (Op.eqFields (d+1) xs ys fs)=some r
 |[],r,h=>by
  simp only[eqF,au]at h;subst h;rfl
 |f::fs,r,h=>by
  simp only[eqF]at h
  split at h
  ·rename_i hn;simp only[Op.eqFields,hn,ne_eq,not_true_eq_false,if_false];exact Fe h
  ·rename_i hn
   split at h
   ·rename_i a b ha hb
    split at h
    ·rename_i q1 q2 h1 h2;simp only[au]at h;subst h;simp only[Op.eqFields,ne_eq,hn,not_false_eq_true,if_true,kS,ha,hb,bi,Aj (d:=d) h1];cases q1
     ·rfl
     ·simpa using Fe h2
    ·cases h
   ·cases h
theorem Pv{T:TypeId}{xo yo:Operand}{cs cs':List V}{xs ys:List Value}{r:Bool}(ht:P.underlying T=some (.struct (P.fieldsOf T)))(hp:P.stoodInHeld T=false)(hg:P.eqGuardType P.depth T=false)
  (h1:H5 cs=some xs) (h2:H5 cs'=some ys) (he:eqF P xs.toArray ys.toArray (P.fieldsOf T).toList=some r) :
  kR P .eql T .other xo yo (.agg cs) (.agg cs')=some (.val (.bool r))∧kR P .neq T .other xo yo (.agg cs) (.agg cs')=some (.val (.bool !r)):=by
 have e0:kF P (Op.equal T (.agg xs.toArray) (.agg ys.toArray))=some r:=by
  show kF P (Op.equalIn (9998+1+1) T _ _)=some r;rw[rD _ _ _ _ ht hp];exact Fe he
 have g:∀ op,kF P (eqGuard op T xo yo (.agg xs.toArray) (.agg ys.toArray))=some ():=by
  intro op;unfold eqGuard
  split<;>simp only[Bool.not_true,Bool.not_false,aF,if_false,if_true,kS,rJ,bi,hg,lM]
 have r1:raw (.agg cs)=some (.agg xs.toArray):=by simp only[raw,h1,dV]
 have r2:raw (.agg cs')=some (.agg ys.toArray):=by simp only[raw,h2,dV]
 constructor
 ·simp only[kR,nY,kZ,zB,Bool.false_and,Bool.or_self,aF,if_false,r1,r2,kS,g,bi,binOp,e0,lM,lX,if_true]
 ·simp only[kR,nY,kZ,zB,Bool.false_and,Bool.or_self,aF,if_false,r1,r2,kS,g,bi,binOp,e0,lM,lX,if_true]
end
end Go.Av
