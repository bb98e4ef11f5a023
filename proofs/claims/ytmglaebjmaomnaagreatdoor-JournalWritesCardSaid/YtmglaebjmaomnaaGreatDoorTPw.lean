/- Answers without what is known of their slices' ends. No condition. -/
import Derived.Test.YtmglaebjmaomnaaGreatDoorTAvA
set_option linter.unusedSimpArgs false
set_option linter.unusedVariables false
namespace Go.Av
mutual
def weak:V→V
 | .agg cs=>.agg (kW cs)
 | .tup cs=>.tup (kW cs)
 | .sl es more _=>.sl (kW es) (kW more) .no
 |v=>v
def kW:List V→List V
 |[]=>[]
 |v::l=>weak v::kW l
end
theorem xO:∀ (a b:List V),kW (a++b)=kW a++kW b
 |[],b=>rfl
 |v::l,b=>by rw[List.cons_append,kW,xO l b];rfl
theorem uX:∀ l:List V,(kW l).length=l.length
 |[]=>rfl
 |v::l=>by rw[kW,List.length_cons,uX l];rfl
theorem Jb{α:Type}{f:α→V}(h:∀ x,weak (f x)=f x):∀ l:List α,kW (l.map f)=l.map f
 |[]=>rfl
 |x::l=>by rw[List.map_cons,kW,h,Jb h l]
theorem L8(v:V):(weak v).cells=kW v.cells:=by
 cases v<;>rfl
theorem Oj:∀ l:List V,flat (kW l)=kW (flat l)
 |[]=>rfl
 |v::l=>by rw[kW,lD,lD,xO,L8,Oj l]
theorem O7:∀ {l:List V} {e:V},e∈kW l→∃ x∈l,e=weak x
 |v::l,e,h=>by
  rw[kW]at h
  rcases List.mem_cons.1 h with rfl|h
  ·exact⟨v,List.mem_cons_self ..,rfl⟩
  ·obtain⟨x,hx,rfl⟩:=O7 h;exact⟨x,List.mem_cons_of_mem _ hx,rfl⟩
mutual
theorem ku.weak{G:Gh}:∀ {v:V} {u:Value},ku G v u→ku G (weak v) u
 |_,_,.val h=>.val h
 |_,_,.ptr b o=>.ptr b o
 |_,_,.elt h k=>.elt h k
 |_,_,.nil h=>by
  simp only[Av.weak,kW];exact .nil rfl
 |_,_,.arr a b c d=>.arr a b c d
 |_,_,.res a b c=>.res a b c
 |_,_,.sl (es:=es) (more:=more) a b c d e f=>by
  simp only[Av.weak];have hb:=kE.weak b;rw[←Oj,xO]at hb;rw[←uX es];refine .sl (fun x hx => ?_) hb c (by rw[uX,uX];exact d) e trivial;rw[←xO]at hx;obtain⟨y,hy,rfl⟩:=O7 hx;rw[L8,uX];exact a y hy
 |_,_,.fn h k=>.fn h k
 |_,_,.ifc h=>.ifc h
 |_,_,.agg h=>by
  simp only[Av.weak];exact .agg (kE.weak h)
 |_,_,.tup h=>by
  simp only[Av.weak];exact .tup (kE.weak h)
theorem kE.weak{G:Gh}:∀ {v:List V} {u:List Value},kE G v u→kE G (kW v) u
 |_,_,.nil=>.nil
 |_,_,.cons h k=>.cons (ku.weak h) (kE.weak k)
end
theorem jB.weak{P:Program}{Γ:jG}{f:FuncId}{args:List V}{m:Store}{R R':Out→Store→Prop}(h:jB P Γ f args m R)(hr:∀ v m',R (.ret v) m' → R' (.ret (Av.weak v)) m')(hp:∀ v m',R (.pan v) m' → R' (.pan v) m'):jB P Γ f args m R':=by
 refine⟨h.1,fun G B0 mF w cargs hD hR hL=>(h.2 G B0 mF w cargs hD hR hL).mono ?_⟩;rintro e w' ⟨G',m',o,a,b,c,d,r,s⟩
 cases o with
 |ret v=>
  cases r with
  |ret r=>exact⟨G',m',.ret (Av.weak v),a,b,c,d,.ret r.weak,hr _ _ s⟩
 |pan v=>exact⟨G',m',.pan v,a,b,c,d,r,hp _ _ s⟩
def mO(a b:Store):Prop:=∀ c x,a c=some x→b c=some x
theorem mO.refl(a:Store):mO a a:=fun _ _ h=>h
theorem mO.set{a b:Store}(h:mO a b)(c:Nat)(x:Blk):mO (a.set c x) (b.set c x):=by
 intro d y hd
 by_cases e:d=c
 ·subst e;rw[Store.jv]at hd ⊢;exact hd
 ·rw[Store.jw _ _ e]at hd ⊢;exact h d y hd
theorem mO.out{a b:Store}(h:mO a b){c:Nat}(hc:a c=none)(x:Blk):mO a (b.set c x):=by
 intro d y hd
 have:d≠c:=by
  rintro rfl;rw[hc]at hd;cases hd
 rw[Store.jw _ _ this];exact h d y hd
theorem mO.trans{a b c:Store}(h:mO a b)(k:mO b c):mO a c:=fun d x hd=>k d x (h d x hd)
theorem mO.none{a b:Store}(h:mO a b){c:Nat}(hc:b c=none):a c=none:=by
 cases e:a c with
 |none=>rfl
 |some x=>
  rw[h c x e]at hc;cases hc
theorem jU{m:Store}{a b:Nat}{x:Blk}(ha:m a=some x)(hb:m b=none):a≠b:=by
 rintro rfl;rw[ha]at hb;cases hb
end Go.Av
