/- A slice that is written out, and: whatever jJ tells of an operation is what the model's operation comes to. No condition. -/
import Derived.Test.YtmglaebjmaomnaaGreatDoorTAv8
open List renaming append_assoc→bg, replicate→bM, flatten_cons→eU, getElem?_map→bH, getElem?_eq_none→dh, replicate_succ→eu
open Option renaming map_eq_some_iff→aQ
open Option.some renaming injEq→au
set_option linter.unusedSimpArgs false
set_option linter.unusedVariables false
namespace Go.Av
open Go.RowKit
section
variable {P:Program} {Γ:jG} {B0:Nat} {G:Gh} {m mm:Store} {w:World} {ρ:Operand→V} {ρc:Operand→Value}
theorem FU{α:Type}(off:Nat):∀ (l m:List α) (k:Nat) (p q:List α),l.length=m.length→p.length=off+k →
  (l.zipIdx k).foldl (fun cs x=>cs.set (off+x.2) x.1) (p++m++q)=p++l++q
 |[],m,k,p,q,h,_=>by
  obtain rfl:=List.eq_nil_of_length_eq_zero h.symm;rfl
 |x::l,[],k,p,q,h,_=>by simp at h
 |x::l,y::m,k,p,q,h,hp=>by
  simp only[List.zipIdx_cons,List.foldl_cons]
  have:(p++(y::m)++q).set (off+k) x=(p++[x])++m++q:=by
   rw[←hp];simp[List.set_append]
  rw[this,FU off l m (k+1) (p++[x]) q (by simpa using h) (by simp;omega)];simp
theorem zcQ{s:Nat}{es:List V}(hs:∀ e∈es,e.cells.length=s){i:Nat}(hi:i<es.length){v:V}(hv:v.cells.length=s) :
  v.cells.zipIdx.foldl (fun cs x=>cs.set (i*s+x.2) x.1) (flat es)=flat (es.set i v):=by
 have h1:es=es.take i++es[i]::es.drop (i+1):=by
  rw[←List.drop_eq_getElem_cons hi,List.take_append_drop]
 have h2:flat es=flat (es.take i)++es[i].cells++flat (es.drop (i+1)):=by
  conv=>lhs;rw[h1]
  rw[uM,lD,bg]
 have h3:(flat (es.take i)).length=i*s:=by
  rw[flat_length (fun e he=>hs e (List.mem_of_mem_take he)),List.length_take,Nat.min_eq_left (Nat.le_of_lt hi)]
 rw[h2,FU (i*s) v.cells es[i].cells 0 (flat (es.take i)) _ (by rw[hv,hs _ (List.getElem_mem hi)]) (by omega)];rw[List.set_eq_take_append_cons_drop,if_pos hi,uM,lD,bg]
theorem NP{s:Nat}:∀ {parts:List (Nat×V)} {es es':List V},(∀ e∈es,e.cells.length=s)→pI s es parts=some es' →
  ng (flat es) (parts.map fun x=>(x.1*s,s,x.2))=some (flat es')∧(∀ e∈es',e.cells.length=s)∧es'.length=es.length
 |[],es,es',hs,h=>by
  simp only[pI,au]at h;subst h;exact⟨rfl,hs,rfl⟩
 |(i,v)::r,es,es',hs,h=>by
  simp only[pI]at h
  split at h
  ·rename_i hc
   have hs':∀ e∈es.set i v,e.cells.length=s:=by
    intro e he
    rcases List.mem_or_eq_of_mem_set he with h|rfl
    ·exact hs e h
    ·exact hc.1
   obtain⟨g1,g2,g3⟩:=NP hs' h;refine⟨?_,g2,by rw[g3];simp⟩;simp only[List.map_cons,ng];have hlen:=flat_length hs
   have:i*s+s≤(flat es).length:=by
    rw[hlen,←Nat.succ_mul];exact Nat.mul_le_mul_right _ hc.2
   rw[if_pos ⟨hc.1,this⟩,zcQ hs hc.2 hc.1];exact g1
  ·cases h
theorem Jj(us:List Value):∀ n,(List.range (n*us.length)).map (fun j=>us.toArray[j%us.toArray.size]!)=(bM n us).flatten
 |0=>by simp
 |n+1=>by
  rw[Nat.succ_mul,List.range_add,List.map_append,Jj us n,List.replicate_succ',List.flatten_append];congr 1;rw[List.map_map];simp only[eU,List.flatten_nil,List.append_nil];apply List.ext_getElem?;intro j;rw[bH]
  by_cases hj:j<us.length
  ·rw[List.getElem?_range hj];simp[Nat.add_comm,Nat.add_mul_mod_self_right,Nat.mod_eq_of_lt hj,hj]
  ·rw[dh (by simp;omega),dh (by omega)];rfl
theorem Ol(n:Nat)(e:V):flat (bM n e)=(bM n e.cells).flatten:=by
 induction n with
 |zero=>rfl
 |succ n ih=>rw[eu,lD,ih,eu,eU]
theorem kE.flatten{cs:List V}{us:List Value}(h:kE G cs us):∀ n,kE G (bM n cs).flatten (bM n us).flatten
 |0=>by simpa using kE.nil
 |n+1=>by
  rw[eu,eU,eu,eU];exact h.append (kE.flatten h n)
theorem KR(v:Value):(oL v).cells=[oL v]:=by
 unfold oL
 split<;>rfl
theorem Wh{T e:TypeId}{s len:Nat}{z:List V}{parts:Array (Nat×Operand)}{v:V}(hR:Rep Γ B0 G mm w)(hT:P.underlying T=some (.slice e))(hs:nZ P e=some s)(hz:rF P e=some z)
  (hc:0<s∧len*s≤2^24∧z.length=s∧pM P e=true)
  (he:(pI s (bM len (if s=1 then z.headD (.val undef)else .agg z)) (parts.toList.map fun x=>(x.1,ρ x.2))).map (fun es=>V.sl es [] (Gt z len parts.toList))=some v) (hx:∀ i x,(i,x)∈parts.toList→ku G (ρ x) (ρc x)) :
  ∃ r w' G',(Instr.buildSlice T len (parts.map fun x=>(x.1,ρc x.2))).run P w = .ok r w' ∧ G.le G'∧Rep Γ B0 G' mm w'∧Below B0 w w' ∧ ku G' v r:=by
 simp only[aQ]at he;obtain⟨es,hes,rfl⟩:=he;obtain⟨h0,h1,h2,h3⟩:=hc;obtain⟨zv,g1,g2⟩:=wX (G:=G) (w:=w) hz h3;generalize hze:(if s=1 then z.headD (.val undef)else .agg z)=ze at hes
 have hzc:ze.cells=z:=by
  rw[←hze]
  split
  ·rename_i hs1
   cases z with
   |nil=>simp at h2;omega
   |cons a r=>
    cases r with
    |nil=>
     simp only[List.headD_cons];simp only[rF,aQ]at hz;obtain⟨zz,_,hzz⟩:=hz
     cases hl:zz.cells.toList with
     |nil=>simp[hl]at hzz
     |cons y ys=>
      simp only[hl,List.map_cons,List.cons.injEq]at hzz;rw[←hzz.1];exact KR y
    |cons b r=>simp at h2;omega
  ·rfl
 have hall:∀ e∈bM len ze,e.cells.length=s:=by
  intro e he;rw[(List.mem_replicate.1 he).2,hzc,h2]
 obtain⟨k1,k2,k3⟩:=NP hall hes;rw[Ol,hzc]at k1;have hul:zv.cells.toList.length=s:=by rw[←g2.length,h2]
 obtain ⟨us',f1,f2⟩ := CW (G := G) (pl := fun i => some (i * s,s)) (cparts := (parts.map fun x => (x.1,ρc x.2)).toList) k1 (g2.flatten len) (by simp) (fun k off size v i u a b => by
  simp only[bH,aQ]at a;obtain⟨⟨i2,v2⟩,⟨⟨i3,x3⟩,ha,hb⟩,hd⟩:=a;simp only[Prod.mk.injEq]at hb hd;obtain⟨rfl,rfl⟩:=hb;obtain⟨rfl,rfl,rfl⟩:=hd;simp only[Array.toList_map,bH,ha,Option.map_some,au,Prod.mk.injEq]at b;obtain⟨rfl,rfl⟩:=b
  exact⟨rfl,hx i3 x3 (List.mem_of_getElem? ha)⟩)
 have hlen:es.length=len:=by rw[k3];simp
 obtain ⟨q1,q2⟩ := (hR.zm0 us' e).znp (b := w.heap.size) (E := 0) (C := 0) (by simp) hR.base hR.fresh (fun v => by
  show G.H w.heap.size v=none
  cases hv:G.H w.heap.size v with
  |none=>rfl
  |some x=>exact absurd (hR.hist _ _ _ hv).1 (Nat.lt_irrefl _))
 refine⟨.slice (some ⟨w.heap.size,0,none⟩) len len,w.alloc (.cells us'.toArray e),(G.put w.heap.size us').putH w.heap.size 0 (w.heap.size,0,0),?_,(Gh.RS _ hR.I9).trans q1,q2,(Below.refl B0 w).alloc hR.base _,?_⟩
 ·have hinit:((Array.range (len*s)).map (zv.cells[· % zv.cells.size]!))=(bM len zv.cells.toList).flatten.toArray:=by
   apply Array.ext';rw[←Jj,hul];simp
  have hcond:(if len*s=0 then (pure #[]:Sem (Array Value))else do pure (←zeroValue e).cells).run P w = .ok (if len*s=0 then #[]else zv.cells) w:=by
   split
   ·simp
   ·simp[g1]
  have hinit2:((Array.range (len*s)).map ((if len*s=0 then #[]else zv.cells)[· % (if len*s=0 then #[]else zv.cells).size]!))=(bM len zv.cells.toList).flatten.toArray:=by
   by_cases hl:len*s=0
   ·have:len=0:=by
     rcases Nat.mul_eq_zero.1 hl with h|h
     ·exact h
     ·omega
    subst this;simp
   ·simp only[if_neg hl];exact hinit
  simp only[Instr.buildSlice,Sem.run_bind,run_underlying hT,Result.andThen_ok,run_sizeOf hs];rw[if_neg (by omega)]
  by_cases hl:len*s=0
  ·simp only[if_pos hl]at hinit2;simp only[if_pos hl,pure_bind,hinit2];rw[f1];simp[newRow]
  ·simp only[if_neg hl]at hinit2;simp only[if_neg hl,bind_assoc,pure_bind,Sem.run_bind,g1,Sem.run_pure,Result.andThen_ok,hinit2];rw[f1];simp[newRow]
 ·have := ku.sl (G := (G.put w.heap.size us').putH w.heap.size 0 (w.heap.size,0,0)) (es := es) (more := []) (tok := Gt z len parts.toList) (us := us') (a := ⟨w.heap.size,0,none⟩) (cap := len) (s := s) (by simpa using k2) (by simpa using (f2.mono (Gh.RS _ hR.I9)).mono q1) ((Gh.zd3 _ _ _).mono q1) (by simp; omega) h0 (by
   unfold Gt
   by_cases hz:len=0
   ·rw[if_pos hz];exact hz
   ·rw[if_neg hz];cases (parts.toList.all fun x=>NZ x.2)&&u8z z
    ·exact⟨hlen.symm,by omega⟩
    ·exact⟨⟨hlen.symm,by omega⟩,w.heap.size,0,0,0,by simp[Gh.putH]⟩)
  rw[hlen]at this;exact this
end
end Go.Av
