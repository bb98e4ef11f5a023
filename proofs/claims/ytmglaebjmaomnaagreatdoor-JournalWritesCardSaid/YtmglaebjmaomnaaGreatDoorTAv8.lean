/- Whatever jJ tells of an operation is what the model's operation comes to. No condition. -/
import Derived.Test.YtmglaebjmaomnaaGreatDoorTAv7
open List renaming getElem?_map→bH, mem_of_getElem? → bI
open Option renaming map_eq_some_iff→aQ, bind_some→bi, map_some→dV
open Option.some renaming injEq→au
open Prod.mk renaming injEq→bz
set_option linter.unusedSimpArgs false
set_option linter.unusedVariables false
namespace Go.Av
open Go.RowKit
section
variable {P:Program} {Γ:jG} {B0:Nat} {G:Gh} {m mm:Store} {w:World} {ρ:Operand→V} {ρc:Operand→Value}
theorem H9{fields:Array Field}:∀ {parts:List (Nat×Operand)} {l:List (Nat×Nat×Operand)},places P fields parts=some l →
  l.length=parts.length∧∀ (k off size:Nat) (x:Operand),l[k]? = some (off,size,x)→∃ (i:Nat) (f:Field),parts[k]? = some (i,x)∧fields[i]? = some f∧f.offset=off∧nZ P f.type=some size
 |[],l,h=>by
  simp only[places,au]at h;subst h;simp
 |(i,x)::r,l,h=>by
  simp only[places]at h
  split at h
  ·rename_i f hf
   split at h
   ·rename_i s hs;simp only[aQ]at h;obtain⟨l',h1,rfl⟩:=h;obtain⟨g1,g2⟩:=H9 h1;refine⟨by simp[g1],fun k off size y hk => ?_⟩
    cases k with
    |zero=>
     simp only[List.getElem?_cons_zero,au,bz]at hk;obtain⟨rfl,rfl,rfl⟩:=hk;exact⟨i,f,rfl,hf,rfl,hs⟩
    |succ k=>
     simp only[List.getElem?_cons_succ]at hk;obtain⟨i',f',a,b⟩:=g2 k off size y hk;exact⟨i',f',by simpa using a,b⟩
   ·cases h
  ·cases h
theorem wX{T:TypeId}{z:List V}(h:rF P T=some z)(hok:pM P T=true):∃ v,(zeroValue T).run P w = .ok v w∧kE G z v.cells.toList:=by
 simp only[rF,aQ]at h;obtain⟨v,hv,rfl⟩:=h
 cases hi:P.info? T with
 |none=>simp[hi]at hv
 |some i=>
  simp only[hi,bi]at hv;refine⟨v,Ah hi hv,vN fun x hx => ?_⟩;simp only[pM,hi,bi,hv]at hok;exact List.all_eq_true.1 hok x hx
theorem Vq{T:TypeId}{fields:Array Field}{z:List V}{parts:Array (Nat×Operand)}{l:List (Nat×Nat×Operand)}{v:V}(hT:P.underlying T=some (.struct fields))(hz:rF P T=some z)(hok:pM P T=true)
  (hsz:∀ f∈fields.toList,(nZ P f.type).isSome) (hp:places P fields parts.toList=some l)
  (he:(ng z (l.map fun x=>(x.1,x.2.1,ρ x.2.2))).map V.agg=some v) (hx:∀ i x,(i,x)∈parts.toList→ku G (ρ x) (ρc x)) :
  ∃ r,(Instr.build T (parts.map fun x=>(x.1,ρc x.2))).run P w = .ok r w∧ku G v r:=by
 simp only[aQ]at he;obtain⟨cs,hcs,rfl⟩:=he;obtain⟨zv,h1,h2⟩:=wX (G:=G) (w:=w) hz hok;obtain⟨g1,g2⟩:=H9 hp
 have hmap:∀ (l:List Field),(∀ f∈l,(nZ P f.type).isSome)→(l.mapM (m:=Sem) fun f=>do pure (f.offset,←sizeOf f.type)).run P w = .ok (l.map fun f=>(f.offset,(nZ P f.type).getD 0)) w:=by
  intro l
  induction l with
  |nil=>intro _;simp
  |cons f l ih=>
   intro hh;obtain⟨s,hs⟩:=Option.isSome_iff_exists.1 (hh f (List.mem_cons_self ..));have ih':=ih (fun x hx=>hh x (List.mem_cons_of_mem _ hx));simp only[List.mapM_cons,Sem.run_bind,run_sizeOf hs,Result.andThen_ok,Sem.run_pure];rw[ih'];simp[hs]
 have hmapA:(fields.mapM (m:=Sem) fun f=>do pure (f.offset,←sizeOf f.type)).run P w = .ok (fields.map fun f=>(f.offset,(nZ P f.type).getD 0)) w:=by
  rw[Array.mapM_eq_mapM_toList];simp only[Sem.run_map,hmap fields.toList hsz,Result.andThen_ok];congr 1;apply Array.ext';simp
 obtain ⟨us',e1,e2⟩ := CW (G := G) (pl := fun i => (fields.map fun f => (f.offset,(nZ P f.type).getD 0))[i]?) (cparts := (parts.map fun x => (x.1,ρc x.2)).toList) hcs h2 (by simp [g1]) (fun k off size v i u a b => by
  simp only[bH,aQ]at a;obtain⟨⟨o',s',x'⟩,ha,hb⟩:=a;simp only[bz]at hb;obtain⟨rfl,rfl,rfl⟩:=hb;obtain⟨i',f',c1,c2,c3,c4⟩:=g2 k o' s' x' ha;simp only[Array.toList_map,bH,c1,dV,au,bz]at b;obtain⟨rfl,rfl⟩:=b
  refine⟨by simp[c2,c3,c4],hx i' x' (bI c1)⟩)
 refine⟨.agg us'.toArray,?_,.agg e2⟩;have hzz:zv.cells=zv.cells.toList.toArray:=by simp
 simp only[Instr.build,Sem.run_bind,h1,Result.andThen_ok,run_underlying hT,hmapA];rw[hzz,e1];simp
theorem Tc{T e:TypeId}{n s0:Nat}{z:List V}{parts:Array (Nat×Operand)}{v:V}(hT:P.underlying T=some (.array n e))(hz:rF P T=some z)(hok:pM P T=true)(hs:nZ P e=some s0)
  (he:(ng z ((parts.toList.map fun p=>(p.1*s0,s0,p.2)).map fun x=>(x.1,x.2.1,ρ x.2.2))).map V.agg=some v) (hx:∀ i x,(i,x)∈parts.toList→ku G (ρ x) (ρc x)) :
  ∃ r,(Instr.build T (parts.map fun x=>(x.1,ρc x.2))).run P w = .ok r w∧ku G v r:=by
 simp only[aQ]at he;obtain⟨cs,hcs,rfl⟩:=he;obtain⟨zv,h1,h2⟩:=wX (G:=G) (w:=w) hz hok
 obtain ⟨us',e1,e2⟩ := CW (G := G) (pl := fun i => some (i * s0,s0)) (cparts := (parts.map fun x => (x.1,ρc x.2)).toList) hcs h2 (by simp) (fun k off size v i u a b => by
  simp only[bH,aQ]at a;obtain⟨⟨o',s',x'⟩,⟨⟨i3,x3⟩,ha,hc⟩,hb⟩:=a;simp only[bz]at hb hc;obtain⟨rfl,rfl,rfl⟩:=hb;obtain⟨rfl,rfl,rfl⟩:=hc;simp only[Array.toList_map,bH,ha,dV,au,bz]at b;obtain⟨rfl,rfl⟩:=b
  exact⟨rfl,hx _ _ (bI ha)⟩)
 refine⟨.agg us'.toArray,?_,.agg e2⟩;have hzz:zv.cells=zv.cells.toList.toArray:=by simp
 simp only[Instr.build,Sem.run_bind,h1,Result.andThen_ok,run_underlying hT,run_sizeOf hs];rw[hzz,e1];simp
end
end Go.Av
