/- The abstract values of the proof layer Av, how they stand for the model's values in a world, and their first laws. No condition. -/
import Derived.Below
import Derived.Calls
import Derived.Laws.Sem
import Derived.Laws.World
open List renaming mem_cons_self→aU, mem_cons_of_mem→aX
set_option linter.unusedSimpArgs false
set_option linter.unusedVariables false
namespace Go.Av
inductive Tok where
 |no
 |full
 |tip (t v:Nat)
 |zero (nn:Bool)
 |tipz (t v z:Nat)
 |non
 |own
inductive V where
 |val (v:Value)
 |ptr (b o:Nat)
 |elt (cs:List V)
 |sl (es more:List V) (tok:Tok)
 |fn (f:Fn) (first caps:List V)
 |ifc (t:TypeId) (v:V)
 |agg (cs:List V)
 |tup (vs:List V)
 |arr (b o len cap:Nat)
 |res (t v z n:Nat)
instance:Inhabited V:=⟨.val undef⟩
def V.cells:V→List V
 | .agg cs=>cs
 |v=>[v]
def flat(es:List V):List V:=es.flatMap V.cells
theorem uM(a b:List V):flat (a++b)=flat a++flat b:=by simp[flat]
theorem lD(a:V)(b:List V):flat (a::b)=a.cells++flat b:=by simp[flat]
theorem flat_nil:flat []=[]:=rfl
theorem flat_length{s:Nat}:∀ {es:List V},(∀ e∈es,e.cells.length=s)→(flat es).length=es.length*s
 |[],_=>by simp[flat]
 |e::es,h=>by
  rw[lD,List.length_append,h e (aU ..),flat_length (fun x hx=>h x (aX _ hx)),List.length_cons,Nat.succ_mul];omega
structure Gh where
 K:Nat→Nat→Option Value
 H:Nat→Nat→Option (Nat×Nat×Nat)
def Gh.has(G:Gh)(a:Addr)(us:List Value):Prop:=a.spot=none∧∀ i u,us[i]? = some u→G.K a.block (a.off+i)=some u
def Gh.MC(G:Gh)(tok:Tok)(a:Addr)(len cap s:Nat):Prop:=
 match tok with
 | .no=>True
 | .full=>cap=len∧len≠0
 | .tip t v=>G.H t v=some (a.block,a.off+len*s,a.off+cap*s)
 | .zero _=>cap=0
 | .tipz t v z=>z=s∧G.H t v=some (a.block,a.off+len*s,a.off+cap*s)
 | .non=>True
 | .own=>(cap=len∧len≠0)∧∃ t v E C,G.H t v=some (a.block,E,C)
structure Gh.le (G G':Gh):Prop where
 K:∀ b o u,G.K b o=some u→G'.K b o=some u
 H:∀ t v x,G.H t v=some x→G'.H t v=some x
theorem Gh.le.refl(G:Gh):G.le G:=⟨fun _ _ _ h=>h,fun _ _ _ h=>h⟩
theorem Gh.le.trans{A B C:Gh}(h:A.le B)(k:B.le C):A.le C:=⟨fun _ _ _ x=>k.K _ _ _ (h.K _ _ _ x),fun _ _ _ x=>k.H _ _ _ (h.H _ _ _ x)⟩
theorem Gh.has.mono{G G':Gh}(hl:G.le G'){a:Addr}{us:List Value}(h:G.has a us):G'.has a us:=⟨h.1,fun i u hu=>hl.K _ _ _ (h.2 i u hu)⟩
theorem Gh.MC.mono{G G':Gh}(hl:G.le G'){tok:Tok}{a:Addr}{len cap s:Nat}(h:G.MC tok a len cap s):G'.MC tok a len cap s:=by
 cases tok with
 |no=>trivial
 |full=>exact h
 |tip t v=>exact hl.H _ _ _ h
 |zero _=>exact h
 |tipz t v z=>exact⟨h.1,hl.H _ _ _ h.2⟩
 |non=>trivial
 |own=>
  obtain⟨h1,t,v,E,C,h2⟩:=h;exact⟨h1,t,v,E,C,hl.H _ _ _ h2⟩
def vz:Tok→Bool
 | .no | .full | .zero false=>true
 |_=>false
def lX:Value→Bool
 | .agg _=>false
 |_=>true
theorem D6{v:Value}(h:lX v=true):v.cells = #[v]:=by cases v<;>first|rfl|simp[lX]at h
mutual
inductive ku (G:Gh):V→Value→Prop
 |val {v:Value}:lX v=true→ku G (.val v) v
 |ptr (b o:Nat):ku G (.ptr b o) (.pointer (some ⟨b,o,none⟩))
 |elt {cs:List V} {us:List Value} {a:Addr}:kE G cs us→G.has a us→ku G (.elt cs) (.pointer (some a))
 |nil {tok:Tok}:vz tok=true→ku G (.sl [] [] tok) (.slice none 0 0)
 |arr (b o len cap:Nat):ku G (.arr b o len cap) (.slice (some ⟨b,o,none⟩) len cap)
 |res {t v z n cap:Nat} {a:Addr}:a.spot=none→G.H t v=some (a.block,a.off,a.off+cap*z)→n≤cap→ku G (.res t v z n) (.slice (some a) n cap)
 |sl {es more:List V} {tok:Tok} {us:List Value} {a:Addr} {cap s:Nat}:(∀ e∈es++more,e.cells.length=s)→kE G (flat (es++more)) us→G.has a us →
   es.length+more.length≤cap→0<s→G.MC tok a es.length cap s→ku G (.sl es more tok) (.slice (some a) es.length cap)
 |fn {f:Fn} {first caps:List V} {us ws:List Value}:kE G first us→kE G caps ws→ku G (.fn f first caps) (.func f us.toArray ws.toArray)
 |ifc {t:TypeId} {v:V} {u:Value}:ku G v u→ku G (.ifc t v) (.iface t u)
 |agg {cs:List V} {us:List Value}:kE G cs us→ku G (.agg cs) (.agg us.toArray)
 |tup {cs:List V} {us:List Value}:kE G cs us→ku G (.tup cs) (.tuple us.toArray)
inductive kE (G:Gh):List V→List Value→Prop
 |nil:kE G [] []
 |cons {v:V} {u:Value} {vs:List V} {us:List Value}:ku G v u→kE G vs us→kE G (v::vs) (u::us)
end
section
variable {G G':Gh}
mutual
theorem ku.mono(hl:G.le G'):∀ {v:V} {u:Value},ku G v u→ku G' v u
 |_,_,.val h=>.val h
 |_,_,.ptr b o=>.ptr b o
 |_,_,.elt h k=>.elt (h.mono hl) (k.mono hl)
 |_,_,.nil h=>.nil h
 |_,_,.arr a b c d=>.arr a b c d
 |_,_,.res a b c=>.res a (hl.H _ _ _ b) c
 |_,_,.sl a b c d e f=>.sl a (b.mono hl) (c.mono hl) d e (f.mono hl)
 |_,_,.fn h k=>.fn (h.mono hl) (k.mono hl)
 |_,_,.ifc h=>.ifc (h.mono hl)
 |_,_,.agg h=>.agg (h.mono hl)
 |_,_,.tup h=>.tup (h.mono hl)
theorem kE.mono(hl:G.le G'):∀ {v:List V} {u:List Value},kE G v u→kE G' v u
 |_,_,.nil=>.nil
 |_,_,.cons h k=>.cons (h.mono hl) (k.mono hl)
end
theorem kE.length:∀ {v:List V} {u:List Value},kE G v u→v.length=u.length
 |_,_,.nil=>rfl
 |_,_,.cons _ k=>by simp[k.length]
theorem kE.get:∀ {v:List V} {u:List Value},kE G v u→∀ {i:Nat} {x:V},v[i]? = some x→∃ y,u[i]? = some y∧ku G x y
 |_,_,.nil,i,x,h=>by simp at h
 |_,_,.cons (u:=u) (us:=us) h k,i,x,hx=>by
  cases i with
  |zero=>simp at hx;subst hx;exact⟨u,by simp,h⟩
  |succ i=>simp at hx;obtain⟨y,hy,r⟩:=k.get hx;exact⟨y,by simpa using hy,r⟩
theorem kE.append:∀ {v v':List V} {u u':List Value},kE G v u→kE G v' u'→kE G (v++v') (u++u')
 |_,_,_,_,.nil,k=>k
 |_,_,_,_,.cons h k,k'=>.cons h (k.append k')
theorem kE.take:∀ {v:List V} {u:List Value} (n:Nat),kE G v u→kE G (v.take n) (u.take n)
 |_,_,0,_=>by simpa using kE.nil
 |_,_,n+1,.nil=>by simpa using kE.nil
 |_,_,n+1,.cons h k=>by simpa using kE.cons h (k.take n)
theorem kE.drop:∀ {v:List V} {u:List Value} (n:Nat),kE G v u→kE G (v.drop n) (u.drop n)
 |_,_,0,h=>by simpa using h
 |_,_,n+1,.nil=>by simpa using kE.nil
 |_,_,n+1,.cons _ k=>by simpa using k.drop n
theorem kE.split:∀ {v v':List V} {u:List Value},kE G (v++v') u→∃ a b,u=a++b∧kE G v a∧kE G v' b
 |[],_,u,h=>⟨[],u,rfl,.nil,h⟩
 |v::vs,v',_,.cons h k=>by
  obtain⟨a,b,rfl,ha,hb⟩:=kE.split (v:=vs) k;exact⟨_::a,b,rfl,.cons h ha,hb⟩
theorem kE.set:∀ {v:List V} {u:List Value} (i:Nat) {x:V} {y:Value},kE G v u→ku G x y→kE G (v.set i x) (u.set i y)
 |_,_,_,_,_,.nil,_=>by simpa using kE.nil
 |_,_,0,_,_,.cons _ k,r=>by simpa using kE.cons r k
 |_,_,i+1,_,_,.cons h k,r=>by simpa using kE.cons h (k.set i r)
theorem kE.one{x:V}{y:Value}(h:ku G x y):kE G [x] [y]:=.cons h .nil
theorem kE.vals:∀ (l:List Value),(∀ v∈l,lX v=true)→kE G (l.map V.val) l
 |[],_=>.nil
 |v::l,h=>.cons (.val (h v (aU ..))) (kE.vals l (fun x hx=>h x (aX _ hx)))
theorem kE.kN{u:List Value}(h:kE G [] u):u=[]:=by cases h;rfl
theorem kE.cons_inv{v:V}{vs:List V}{u:List Value}(h:kE G (v::vs) u):∃ y ys,u=y::ys∧ku G v y∧kE G vs ys:=by
 cases h with
 |cons a b=>exact⟨_,_,rfl,a,b⟩
theorem ku.cells{v:V}{u:Value}(h:ku G v u):kE G v.cells u.cells.toList:=by
 cases h with
 |agg h=>simpa [V.cells,Value.cells] using h
 |val h=>rw[D6 h];exact .one (.val h)
 |ptr b o=>exact .one (.ptr b o)
 |elt h k=>exact .one (.elt h k)
 |nil h=>exact .one (.nil h)
 |arr a b c d=>exact .one (.arr a b c d)
 |res a b c=>exact .one (.res a b c)
 |sl a b c d e f=>exact .one (.sl a b c d e f)
 |fn h k=>exact .one (.fn h k)
 |ifc h=>exact .one (.ifc h)
 |tup h=>exact .one (.tup h)
end
end Go.Av
