/- Answers without what is known of their slices' ends. No condition. -/
import Derived.Test.YtmglaebjmaomnaaGreatDoorTAvA
set_option linter.unusedSimpArgs false
set_option linter.unusedVariables false
namespace Go.Av
mutual
def weak:V→V
 | .agg cs=>.agg (kZ cs)
 | .tup cs=>.tup (kZ cs)
 | .sl es more _=>.sl (kZ es) (kZ more) .no
 |v=>v
def kZ:List V→List V
 |[]=>[]
 |v::l=>weak v::kZ l
end
theorem xN:∀ (a b:List V),kZ (a++b)=kZ a++kZ b
 |[],b=>rfl
 |v::l,b=>by rw[List.cons_append,kZ,xN l b];rfl
theorem uX:∀ l:List V,(kZ l).length=l.length
 |[]=>rfl
 |v::l=>by rw[kZ,List.length_cons,uX l];rfl
theorem I4{α:Type}{f:α→V}(h:∀ x,weak (f x)=f x):∀ l:List α,kZ (l.map f)=l.map f
 |[]=>rfl
 |x::l=>by rw[List.map_cons,kZ,h,I4 h l]
theorem Me(v:V):(weak v).cells=kZ v.cells:=by
 cases v<;>rfl
theorem Oy:∀ l:List V,flat (kZ l)=kZ (flat l)
 |[]=>rfl
 |v::l=>by rw[kZ,lG,lG,xN,Me,Oy l]
theorem Po:∀ {l:List V} {e:V},e∈kZ l→∃ x∈l,e=weak x
 |v::l,e,h=>by
  rw[kZ]at h
  rcases List.mem_cons.1 h with rfl|h
  ·exact⟨v,List.mem_cons_self ..,rfl⟩
  ·obtain⟨x,hx,rfl⟩:=Po h;exact⟨x,List.mem_cons_of_mem _ hx,rfl⟩
mutual
theorem ku.weak{G:Gh}:∀ {v:V} {u:Value},ku G v u→ku G (weak v) u
 |_,_,.val h=>.val h
 |_,_,.ptr b o=>.ptr b o
 |_,_,.elt h k=>.elt h k
 |_,_,.nil h=>by
  simp only[Av.weak,kZ];exact .nil rfl
 |_,_,.arr a b c d=>.arr a b c d
 |_,_,.res a b c=>.res a b c
 |_,_,.sl (es:=es) (more:=more) a b c d e f=>by
  simp only[Av.weak];have hb:=kD.weak b;rw[←Oy,xN]at hb;rw[←uX es];refine .sl (fun x hx => ?_) hb c (by rw[uX,uX];exact d) e trivial;rw[←xN]at hx;obtain⟨y,hy,rfl⟩:=Po hx;rw[Me,uX];exact a y hy
 |_,_,.fn h k=>.fn h k
 |_,_,.ifc h=>.ifc h
 |_,_,.agg h=>by
  simp only[Av.weak];exact .agg (kD.weak h)
 |_,_,.tup h=>by
  simp only[Av.weak];exact .tup (kD.weak h)
theorem kD.weak{G:Gh}:∀ {v:List V} {u:List Value},kD G v u→kD G (kZ v) u
 |_,_,.nil=>.nil
 |_,_,.cons h k=>.cons (ku.weak h) (kD.weak k)
end
theorem jB.weak{P:Program}{Γ:jI}{f:FuncId}{args:List V}{m:Store}{R R':Out→Store→Prop}(h:jB P Γ f args m R)(hr:∀ v m',R (.ret v) m' → R' (.ret (Av.weak v)) m')(hp:∀ v m',R (.pan v) m' → R' (.pan v) m'):jB P Γ f args m R':=by
 refine⟨h.1,fun G B0 mF w cargs hD hR hL=>(h.2 G B0 mF w cargs hD hR hL).mono ?_⟩;rintro e w' ⟨G',m',o,a,b,c,d,r,s⟩
 cases o with
 |ret v=>
  cases r with
  |ret r=>exact⟨G',m',.ret (Av.weak v),a,b,c,d,.ret r.weak,hr _ _ s⟩
 |pan v=>exact⟨G',m',.pan v,a,b,c,d,r,hp _ _ s⟩
def mJ(a b:Store):Prop:=∀ c x,a c=some x→b c=some x
theorem mJ.refl(a:Store):mJ a a:=fun _ _ h=>h
theorem mJ.set{a b:Store}(h:mJ a b)(c:Nat)(x:Blk):mJ (a.set c x) (b.set c x):=by
 intro d y hd
 by_cases e:d=c
 ·subst e;rw[Store.jv]at hd ⊢;exact hd
 ·rw[Store.jw _ _ e]at hd ⊢;exact h d y hd
theorem mJ.out{a b:Store}(h:mJ a b){c:Nat}(hc:a c=none)(x:Blk):mJ a (b.set c x):=by
 intro d y hd
 have:d≠c:=by
  rintro rfl;rw[hc]at hd;cases hd
 rw[Store.jw _ _ this];exact h d y hd
theorem mJ.trans{a b c:Store}(h:mJ a b)(k:mJ b c):mJ a c:=fun d x hd=>k d x (h d x hd)
theorem mJ.none{a b:Store}(h:mJ a b){c:Nat}(hc:b c=none):a c=none:=by
 cases e:a c with
 |none=>rfl
 |some x=>
  rw[h c x e]at hc;cases hc
theorem jR{m:Store}{a b:Nat}{x:Blk}(ha:m a=some x)(hb:m b=none):a≠b:=by
 rintro rfl;rw[ha]at hb;cases hb
end Go.Av
