/- Memory: what is stored, appended and made keeps the relation between the abstract store and the world. No condition. -/
import Derived.Laws.IdiomCopy
import Derived.RangeFuncSeq
import Derived.Test.YtmglaebjmaomnaaGreatDoorTAv10
open Array renaming getElem?_modify→dG
open List renaming getElem?_eq_getElem→aI
open Nat renaming lt_of_lt_of_le→cu, lt_irrefl→fK, ne_of_lt→fE
open Option.some renaming injEq→au
open Prod.mk renaming injEq→bz
set_option linter.unusedSimpArgs false
set_option linter.unusedVariables false
namespace Go.Av
open Go.RowKit
def oW:V→Bool
 | .val v=>v.oneCell'
 | .agg _=>false
 | .tup _=>false
 |_=>true
section
variable {P:Program} {Γ:jG} {B0:Nat} {G:Gh} {m mm:Store} {w w':World}
theorem zbP{v:V}{u:Value}(h:oW v=true)(r:ku G v u):u.oneCell'=true:=by
 cases r with
 |val _=>exact h
 |agg _=>simp[oW]at h
 |tup _=>simp[oW]at h
 |_=>rfl
theorem Ju:∀ {vs:List V} {us:List Value},(∀ v∈vs,oW v=true)→kE G vs us→∀ u∈us,u.oneCell'=true
 |_,_,_,.nil=>by simp
 |_,_,h,.cons r k=>by
  intro x hx
  rcases List.mem_cons.1 hx with rfl|hx
  ·exact zbP (h _ (List.mem_cons_self ..)) r
  ·exact Ju (fun v hv=>h v (List.mem_cons_of_mem _ hv)) k x hx
def Ag:List V→Nat→List V→List V
 |cs,_,[]=>cs
 |cs,o,x::r=>Ag (cs.set o x) (o+1) r
theorem Store.kC(m:Store)(b:Nat)(x y:Blk):(m.set b x).set b y=m.set b y:=by
 funext b';simp only[Store.set]
 split<;>rfl
theorem Store.sZ(m:Store){b:Nat}{x:Blk}(h:m b=some x):m.set b x=m:=by
 funext b';simp only[Store.set]
 split
 ·rename_i e;rw[e,h]
 ·rfl
theorem Rep.stores:∀ {xs:List V} {us:List Value} {m:Store} {w:World} {b o:Nat} {T:TypeId} {cs:List V},Rep Γ B0 G m w→m b=some (.var T cs)→kE G xs us →
  Rep Γ B0 G (m.set b (.var T (Ag cs o xs))) (w.setCells b o us)
 |_,_,m,w,b,o,T,cs,h,hb,.nil=>by
  rw[Ag,Store.sZ m hb];exact h
 |_,_,m,w,b,o,T,cs,h,hb,.cons r k=>by
  rw[Ag,World.setCells];have:=Rep.stores (o:=o+1) (h.store hb (o:=o) r) (Store.jv _ _ _) k
  rwa [Store.kC]at this
theorem below_setCells{b:Nat}(hb:B0≤b):∀ (us:List Value) (o:Nat) {w0 w:World},Below B0 w0 w→Below B0 w0 (w.setCells b o us)
 |[],_,_,_,h=>h
 |u::us,o,_,w,h=>by
  rw[World.setCells];exact below_setCells hb us (o+1) (h.setCell (p:=⟨b,o,none⟩) hb u)
theorem size_setCells(b:Nat):∀ (us:List Value) (o:Nat) (w:World),(w.setCells b o us).heap.size=w.heap.size
 |[],_,_=>rfl
 |u::us,o,w=>by rw[World.setCells,size_setCells b us,World.size_setCell]
theorem qy(b:Nat):∀ (us:List Value) (o:Nat) (w:World) (b' : Nat),b'≠b→(w.setCells b o us).heap[b']? = w.heap[b']?
 |[],_,_,_,_=>rfl
 |u::us,o,w,b',h=>by rw[World.setCells,qy b us (o+1) _ b' h,Below.heap_setCell w ⟨b,o,none⟩ u b' h]
theorem OX(h:Rep Γ B0 G mm w){b o:Nat}{T:TypeId}{cs xs:List V}{us:List Value}(hb:mm b=some (.var T cs))(hr:kE G xs us)(h1:∀ v∈xs,oW v=true)(hl:o+xs.length≤cs.length) :
  (storeCells ⟨b,o,none⟩ us).run P w = .ok () (w.setCells b o us):=by
 obtain⟨hB,⟨vs,h2,h3⟩,h4⟩:=h.var b T cs hb;have e1:=hr.length;have e2:=h3.length;have:=run_storeCells_cells (P:=P) b o us 0 w (fun j hj=>by simp[World.cell?,h2];omega) (fun j hj=>by simp[World.frozen?,h2]) (Ju h1 hr)
 simpa using this
theorem Rep.keep(h:Rep Γ B0 G m w)(hs:w.heap.size≤w'.heap.size)(ho:∀ b,b<w.heap.size→w'.heap[b]? = w.heap[b]?):Rep Γ B0 G m w' where
 K:=fun b i u hu=>by rw[World.cell?_of_block (w:=w) (ho b (h.zdz hu))];exact h.K b i u hu
 base:=Nat.le_trans h.base hs
 hist:=fun t v x hx=>⟨cu (h.hist t v x hx).1 hs,(h.hist t v x hx).2⟩
 var:=fun b T cs hb=>by
  obtain⟨h1,⟨us,h2,h3⟩,h4⟩:=h.var b T cs hb;exact⟨h1,⟨us,by rw[ho b (h.lt hb)];exact h2,h3⟩,h4⟩
 tip:=fun t T v ht=>by
  obtain⟨a,B,E,C,b,c,d,e,⟨y1,y2,y3⟩,f⟩:=h.tip t T v ht;refine⟨cu a hs,B,E,C,b,c,cu d hs,e,⟨y1,y2,by rw[ho B d];exact y3⟩,fun o h1 h2 => ?_⟩;obtain⟨⟨u,hu⟩,f2,f3⟩:=f o h1 h2;exact⟨⟨u,by rw[World.cell?_of_block (w:=w) (ho B d)];exact hu⟩,by rw[World.frozen?_of_block (w:=w) (ho B d)];exact f2,f3⟩
 own:=fun t v B E C h1=>⟨(h.own t v B E C h1).1,cu (h.own t v B E C h1).2.1 hs,(h.own t v B E C h1).2.2⟩
 apart:=h.apart
 glob:=h.glob
 gsz:=fun g cs hg h20=>by
  obtain⟨a,us,T,fz,b,c⟩:=h.gsz g cs hg h20;exact⟨a,us,T,fz,by rw[ho g (cu a h.base)];exact b,c⟩
 loop:=fun b r f t ps x y D hb=>by
  obtain⟨h1,us,h2,h3⟩:=h.loop b r f t ps x y D hb;exact⟨h1,us,by rw[ho b (h.lt hb)];exact h2,h3⟩
 defer:=fun b hb=>⟨(h.defer b hb).1,by rw[ho b (h.lt hb)];exact(h.defer b hb).2⟩
theorem Rep.newRow(h:Rep Γ B0 G m w){us rest:List Value}{T:TypeId}{fz:Nat×Nat}{t v:Nat}(hs:w'.heap.size=w.heap.size+1)(ho:∀ b,b<w.heap.size→w'.heap[b]? = w.heap[b]?)
  (hn:w'.heap[w.heap.size]? = some (.cells (us++rest).toArray T fz)) (hf:∀ o,us.length≤o→o<us.length+rest.length→w'.frozen? ⟨w.heap.size,o,none⟩=false)
  (ht:(t=w.heap.size∧v=0)∨∃ T0 v0,m t=some (.tip T0 v0)∧v=v0+1) (hz:Z4 (us++rest).length fz) :
  G.le ((G.put w.heap.size us).putH t v (w.heap.size,us.length,us.length+rest.length)) ∧
  Rep Γ B0 ((G.put w.heap.size us).putH t v (w.heap.size,us.length,us.length+rest.length)) (m.set t (.tip T v)) w':=by
 have hnoH:∀ x,G.H t v≠some x:=by
  intro x hx;obtain⟨a,b⟩:=h.hist t v x hx
  rcases ht with ⟨rfl,rfl⟩|⟨T0,v0,h1,rfl⟩
  ·exact absurd a (fK _)
  ·have:=b T0 v0 h1;omega
 have hle:G.le ((G.put w.heap.size us).putH t v (w.heap.size,us.length,us.length+rest.length)):=by
  refine⟨(Gh.RS us h.I9).K,fun t' v' x hx => ?_⟩
  by_cases e:t' = t∧v'=v
  ·obtain⟨rfl,rfl⟩:=e;exact absurd hx (hnoH x)
  ·simpa [Gh.putH,Gh.put,e] using hx
 have h2:=h.keep (by omega) ho
 have hcell:∀ o u,(us++rest)[o]? = some u→w'.cell? ⟨w.heap.size,o,none⟩=some u:=by
  intro o u hu;simp[World.cell?,hn,hu]
 have hother:∀ t' T' v',(m.set t (.tip T v)) t'=some (.tip T' v')→(t' = t∧T' = T∧v'=v)∨(t'≠t∧m t'=some (.tip T' v')):=by
  intro t' T' v' h3
  by_cases e:t'=t
  ·subst e;simp only[Store.jv,au,Blk.tip.injEq]at h3;exact .inl ⟨rfl,h3.1.symm,h3.2.symm⟩
  ·rw[Store.jw _ _ e]at h3;exact .inr ⟨e,h3⟩
 have htlt:t<w'.heap.size:=by
  rcases ht with ⟨rfl,rfl⟩|⟨T0,v0,h1,rfl⟩
  ·omega
  ·have:=h.lt h1;omega
 have hvar:∀ b T' cs,(m.set t (.tip T v)) b=some (.var T' cs)→m b=some (.var T' cs):=by
  intro b T' cs h3
  by_cases e:b=t
  ·subst e;simp[Store.set]at h3
  ·rwa [Store.jw _ _ e]at h3
 refine⟨hle,?_⟩
 exact {
  K:=fun b o u hu=>by
   by_cases e:b=w.heap.size
   ·subst e;have hu':us[o]? = some u:=by simpa [Gh.putH,Gh.put] using hu
    exact hcell o u (by rw[List.getElem?_append_left (List.getElem?_eq_some_iff.1 hu').1];exact hu')
   ·have hu':G.K b o=some u:=by simpa [Gh.putH,Gh.put,e] using hu
    exact h2.K b o u hu'
  base:=h2.base
  hist:=fun t' v' x hx=>by
   by_cases e:t' = t∧v'=v
   ·obtain⟨rfl,rfl⟩:=e;refine⟨htlt,fun T'' v'' hv => ?_⟩
    rcases hother _ _ _ hv with ⟨_,_,rfl⟩|⟨hne,_⟩
    ·exact Nat.le_refl _
    ·exact absurd rfl hne
   ·have hx' : G.H t' v'=some x:=by simpa [Gh.putH,Gh.put,e] using hx
    obtain⟨a,b⟩:=h.hist t' v' x hx';refine⟨by omega,fun T'' v'' hv => ?_⟩
    rcases hother _ _ _ hv with ⟨rfl,_,rfl⟩|⟨hne,h3⟩
    ·rcases ht with ⟨rfl,rfl⟩|⟨T0,v0,h1,rfl⟩
     ·exact absurd a (fK _)
     ·have:=b T0 v0 h1;omega
    ·exact b T'' v'' h3
  var:=fun b T' cs hb=>by
   have hb':=hvar b T' cs hb;obtain⟨h1,⟨us',h3,h4⟩,h5⟩:=h2.var b T' cs hb';have hne:b≠w.heap.size:=fE (h.lt hb');exact⟨h1,⟨us',h3,h4.mono hle⟩,fun o=>by simpa [Gh.putH,Gh.put,hne] using h5 o⟩
  tip:=fun t' T' v' h3=>by
   rcases hother _ _ _ h3 with ⟨rfl,rfl,rfl⟩|⟨hne,h4⟩
   ·refine⟨htlt,w.heap.size,us.length,us.length+rest.length,by simp[Gh.putH],h.base,by omega,fun T cs hc => ?_,⟨_,_,hn,by simpa using hz⟩,fun o h1 h2=>⟨?_,hf o h1 h2,?_⟩⟩
    ·have:=h.lt (hvar _ _ _ hc);exact absurd this (fK _)
    ·have:o<(us++rest).length:=by simp;omega
     exact⟨_,hcell o _ (aI this)⟩
    ·simpa [Gh.putH,Gh.put] using h1
   ·obtain⟨a,B,E,C,b,c,d,e,y,f⟩:=h2.tip t' T' v' h4
    have hB:B≠w.heap.size:=by
     obtain⟨_,B',_,_,b',_,d',_,_,_⟩:=h.tip t' T' v' h4;rw[b]at b';simp only[au,bz]at b';rw[b'.1];exact fE d'
    refine⟨a,B,E,C,by simp[Gh.putH,Gh.put,hne,b],c,d,fun T cs hc=>e T cs (hvar _ _ _ hc),y,fun o h1 h5 => ?_⟩;obtain⟨f1,f2,f3⟩:=f o h1 h5;exact⟨f1,f2,by simpa [Gh.putH,Gh.put,hB] using f3⟩
  own:=fun t' v' B E C k=>by
   by_cases e:t' = t∧v'=v
   ·obtain⟨rfl,rfl⟩:=e;have k':some (w.heap.size,us.length,us.length+rest.length)=some (B,E,C):=by simpa [Gh.putH] using k
    cases k';exact⟨h.base,by omega,fun T cs hc=>absurd (h.lt (hvar _ _ _ hc)) (fK _)⟩
   ·have k' : G.H t' v'=some (B,E,C):=by simpa [Gh.putH,Gh.put,e] using k
    obtain⟨a,b,c⟩:=h.own t' v' B E C k';exact⟨a,by omega,fun T cs hc=>c T cs (hvar _ _ _ hc)⟩
  apart:=fun t1 T1 v1 t2 T2 v2 B E C E' C' k1 k2 hne q1 q2=>by
   have hB:∀ t' T' v' B E C,t'≠t→m t'=some (.tip T' v')→G.H t' v'=some (B,E,C)→B≠w.heap.size:=by
    intro t' T' v' B E C _ h4 h5;obtain⟨_,B',_,_,b',_,d',_,_,_⟩:=h.tip t' T' v' h4;rw[h5]at b';simp only[au,bz]at b';rw[b'.1];exact fE d'
   rcases hother _ _ _ k1 with ⟨rfl,rfl,rfl⟩|⟨n1,p1⟩
   ·rcases hother _ _ _ k2 with ⟨rfl,rfl,rfl⟩|⟨n2,p2⟩
    ·exact hne rfl
    ·have q1':some (w.heap.size,us.length,us.length+rest.length)=some (B,E,C):=by simpa [Gh.putH] using q1
     simp only[au,bz]at q1';have q2':G.H t2 v2=some (B,E',C'):=by simpa [Gh.putH,Gh.put,n2] using q2
     exact hB _ _ _ _ _ _ n2 p2 q2' q1'.1.symm
   ·have q1':G.H t1 v1=some (B,E,C):=by simpa [Gh.putH,Gh.put,n1] using q1
    rcases hother _ _ _ k2 with ⟨rfl,rfl,rfl⟩|⟨n2,p2⟩
    ·have q2':some (w.heap.size,us.length,us.length+rest.length)=some (B,E',C'):=by simpa [Gh.putH] using q2
     simp only[au,bz]at q2';exact hB _ _ _ _ _ _ n1 p1 q1' q2'.1.symm
    ·have q2':G.H t2 v2=some (B,E',C'):=by simpa [Gh.putH,Gh.put,n2] using q2
     exact h.apart t1 T1 v1 t2 T2 v2 B E C E' C' p1 p2 hne q1' q2'
  glob:=fun g cs k=>by
   obtain⟨us',a,b⟩:=h2.glob g cs k;exact⟨us',a.mono hle,b.mono hle⟩
  gsz:=h2.gsz
  loop:=fun b r f t' ps x y D hb=>by
   by_cases e:b=t
   ·subst e;simp[Store.set]at hb
   ·rw[Store.jw _ _ e]at hb;obtain⟨g1,us',g2,g3⟩:=h2.loop b r f t' ps x y D hb;exact⟨g1,us',g2,g3.mono hle⟩
  defer:=fun b hb=>by
   by_cases e:b=t
   ·subst e;simp[Store.set]at hb
   ·rw[Store.jw _ _ e]at hb
    exact h2.defer b hb }
def Gh.push(G:Gh)(t v B E C:Nat)(us:List Value):Gh where
 K:=fun b o=>if b=B∧E≤o∧o<E+us.length then us[o-E]? else G.K b o
 H:=fun t' v' => if t' = t∧v'=v+1 then some (B,E+us.length,C)else G.H t' v'
theorem zC(b:Nat)(us:List Value)(o:Nat)(w:World)(b':Nat)(hin:∀ j,j<us.length→(w.cell? ⟨b,o+j,none⟩).isSome=true)(hk:∀ vs T fz,w.heap[b']? ≠ some (.cells vs T fz)):(w.setCells b o us).heap[b']? = w.heap[b']? := by
 by_cases e:b'=b
 ·subst e
  cases us with
  |nil=>rfl
  |cons u us=>
   have:=hin 0 (by simp);unfold World.cell? at this
   cases ho:w.heap[b']? with
   |none=>simp[ho]at this
   |some x=>
    cases x with
    |cells vs T fz=>exact absurd ho (hk _ _ _)
    |_=>simp[ho]at this
 ·exact qy b us o w b' e
theorem Ej(B:Nat){T:TypeId}:∀ (us:List Value) (E:Nat) (w:World),(∃ cs fz,w.heap[B]? = some (.cells cs T fz)∧Z4 cs.size fz)→∃ cs fz,(w.setCells B E us).heap[B]? = some (.cells cs T fz)∧Z4 cs.size fz
 |[],E,w,h=>h
 |u::us,E,w,h=>by
  obtain⟨cs,fz,h,hz⟩:=h;refine Ej B us (E+1) _ ?_;simp only[World.setCell,dG,h];exact⟨cs.setIfInBounds E u,fz,by simp,by simpa using hz⟩
theorem Rep.push(h:Rep Γ B0 G m w){t v B E C:Nat}{T:TypeId}{us:List Value}(ht:m t=some (.tip T v))(hH:G.H t v=some (B,E,C))(hle:E+us.length≤C) :
  G.le (G.push t v B E C us)∧Rep Γ B0 (G.push t v B E C us) (m.set t (.tip T (v+1))) (w.setCells B E us):=by
 obtain⟨htl,B',E',C',hH',hB0,hBl,hBv,hty,hcells⟩:=h.tip t T v ht;rw[hH]at hH';simp only[au,bz]at hH';obtain⟨rfl,rfl,rfl⟩:=hH'
 have hl:G.le (G.push t v B E C us):=by
  refine⟨fun b o u hu => ?_,fun t' v' x hx => ?_⟩
  ·by_cases e:b=B∧E≤o∧o<E+us.length
   ·obtain⟨rfl,h1,h2⟩:=e;have:=(hcells o h1 (by omega)).2.2;rw[this]at hu;cases hu
   ·simpa [Gh.push,e] using hu
  ·by_cases e:t' = t∧v'=v+1
   ·obtain⟨rfl,rfl⟩:=e;have:=(h.hist t' (v+1) x hx).2 T v ht;omega
   ·simpa [Gh.push,e] using hx
 have hother:∀ t' T' v',(m.set t (.tip T (v+1))) t'=some (.tip T' v')→(t' = t∧T' = T∧v'=v+1)∨(t'≠t∧m t'=some (.tip T' v')):=by
  intro t' T' v' h3
  by_cases e:t'=t
  ·subst e;simp only[Store.jv,au,Blk.tip.injEq]at h3;exact .inl ⟨rfl,h3.1.symm,h3.2.symm⟩
  ·rw[Store.jw _ _ e]at h3;exact .inr ⟨e,h3⟩
 have hvar:∀ b T' cs,(m.set t (.tip T (v+1))) b=some (.var T' cs)→m b=some (.var T' cs)∧b≠B:=by
  intro b T' cs h3
  by_cases e:b=t
  ·subst e;simp[Store.set]at h3
  ·rw[Store.jw _ _ e]at h3;exact⟨h3,by rintro rfl;exact hBv T' cs h3⟩
 have hin:∀ j,j<us.length→(w.cell? ⟨B,E+j,none⟩).isSome=true:=fun j hj=>by
  obtain⟨⟨u,hu⟩,_⟩:=hcells (E+j) (by omega) (by omega);rw[hu];rfl
 refine⟨hl,?_⟩
 exact {
  K:=fun b o u hu=>by
   by_cases e:b=B∧E≤o∧o<E+us.length
   ·have hu':us[o-E]? = some u:=by simpa [Gh.push,e] using hu
    obtain⟨rfl,h1,h2⟩:=e;have:=World.cell?_setCells_in b us E w hin (o-E) (by omega);rw[show E+(o-E)=o by omega]at this;rw[this,←hu',aI]
   ·have hu':G.K b o=some u:=by
     have:(if b=B∧E≤o∧o<E+us.length then us[o-E]? else G.K b o)=some u:=hu
     rwa [if_neg e]at this
    rw [World.cell?_setCells_out B us E w _ (fun h1 _ => by
     have h1':b=B:=h1
     by_cases h2:o<E
     ·exact .inl h2
     ·refine .inr ?_;show E+us.length≤o
      refine Nat.le_of_not_lt fun h3=>e ⟨h1',by omega,h3⟩)]
    exact h.K b o u hu'
  base:=by rw[size_setCells];exact h.base
  hist:=fun t' v' x hx=>by
   rw[size_setCells]
   by_cases e:t' = t∧v'=v+1
   ·obtain⟨rfl,rfl⟩:=e;refine⟨htl,fun T'' v'' hv => ?_⟩
    rcases hother _ _ _ hv with ⟨_,_,rfl⟩|⟨hne,_⟩
    ·exact Nat.le_refl _
    ·exact absurd rfl hne
   ·have hx' : G.H t' v'=some x:=by
     have:(if t' = t∧v'=v+1 then some (B,E+us.length,C)else G.H t' v')=some x:=hx
     rwa [if_neg e]at this
    obtain⟨a,b⟩:=h.hist t' v' x hx';refine⟨a,fun T'' v'' hv => ?_⟩
    rcases hother _ _ _ hv with ⟨rfl,rfl,rfl⟩|⟨hne,h3⟩
    ·have:=b _ v ht;omega
    ·exact b T'' v'' h3
  var:=fun b T' cs hb=>by
   obtain⟨hb',hne⟩:=hvar b T' cs hb;obtain⟨h1,⟨us',h3,h4⟩,h5⟩:=h.var b T' cs hb'
   exact ⟨h1,⟨us',by rw [qy B us E w b hne]; exact h3,h4.mono hl⟩,fun o => by
    show(if b=B∧E≤o∧o<E+us.length then us[o-E]? else G.K b o)=none
    rw[if_neg (fun k=>hne k.1)];exact h5 o⟩
  tip:=fun t' T' v' h3=>by
   rw[size_setCells]
   rcases hother _ _ _ h3 with ⟨rfl,rfl,rfl⟩|⟨hne,h4⟩
   ·refine⟨htl,B,E+us.length,C,by simp[Gh.push],hB0,hBl,fun T cs hc=>(hvar _ _ _ hc).2 rfl,Ej B us E w hty,fun o h1 h2 => ?_⟩;obtain⟨⟨u,hu⟩,f2,f3⟩:=hcells o (by omega) h2;refine⟨⟨u,by rw[World.cell?_setCells_out B us E w _ (fun _ _=>.inr h1)];exact hu⟩,by rw[World.frozen?_setCells];exact f2,?_⟩;show(if B=B∧E≤o∧o<E+us.length then us[o-E]? else G.K B o)=none;rw[if_neg (fun k=>by omega)];exact f3
   ·obtain⟨a,B',E',C',b,c,d,e,⟨y1,y2,y3⟩,f⟩:=h.tip t' T' v' h4
    have hBB:B'≠B:=by
     rintro rfl;exact h.apart t' T' v' t _ v B' E' C' E C h4 ht hne b hH
    refine⟨a,B',E',C',?_,c,d,fun T cs hc=>e T cs (hvar _ _ _ hc).1,⟨y1,y2,by rw[qy B us E w B' hBB];exact y3⟩,fun o h1 h5 => ?_⟩
    ·show(if t' = t∧v'=v+1 then some (B,E+us.length,C)else G.H t' v')=_;rw[if_neg (fun k=>hne k.1)];exact b
    ·obtain⟨⟨u,hu⟩,f2,f3⟩:=f o h1 h5;refine⟨⟨u,by rw[World.cell?_setCells_out B us E w _ (fun k _=>absurd k hBB)];exact hu⟩,by rw[World.frozen?_setCells];exact f2,?_⟩;show(if B'=B∧E≤o∧o<E+us.length then us[o-E]? else G.K B' o)=none;rw[if_neg (fun k=>hBB k.1)];exact f3
  own:=fun t' v' B' E' C' k=>by
   rw[size_setCells]
   by_cases e:t' = t∧v'=v+1
   ·have k':some (B,E+us.length,C)=some (B',E',C'):=by simpa [Gh.push,e] using k
    cases k';obtain⟨a,b,c⟩:=h.own t v B E _ hH;exact⟨a,b,fun T cs hc=>c T cs (hvar _ _ _ hc).1⟩
   ·have k' : G.H t' v'=some (B',E',C'):=by
     have:(if t' = t∧v'=v+1 then some (B,E+us.length,C)else G.H t' v')=some (B',E',C'):=k
     rwa [if_neg e]at this
    obtain⟨a,b,c⟩:=h.own t' v' B' E' C' k';exact⟨a,b,fun T cs hc=>c T cs (hvar _ _ _ hc).1⟩
  apart:=fun t1 T1 v1 t2 T2 v2 B1 E1 C1 E2 C2 k1 k2 hne q1 q2=>by
   have sub:∀ t' v' x,(G.push t v B E C us).H t' v'=some x→t'≠t→G.H t' v'=some x:=by
    intro t' v' x hx hn;have:(if t' = t∧v'=v+1 then some (B,E+us.length,C)else G.H t' v')=some x:=hx
    rwa [if_neg (fun k=>hn k.1)]at this
   have own:∀ x,(G.push t v B E C us).H t (v+1)=some x→x=(B,E+us.length,C):=by
    intro x hx
    simpa [Gh.push] using hx.symm
   rcases hother _ _ _ k1 with ⟨rfl,rfl,rfl⟩|⟨n1,p1⟩
   ·rcases hother _ _ _ k2 with ⟨rfl,rfl,rfl⟩|⟨n2,p2⟩
    ·exact hne rfl
    ·have e1:=own _ q1;simp only[bz]at e1;obtain⟨rfl,_,_⟩:=e1;exact h.apart t2 T2 v2 t1 _ v B1 E2 C2 E C p2 ht (fun e=>hne e.symm) (sub _ _ _ q2 n2) hH
   ·rcases hother _ _ _ k2 with ⟨rfl,rfl,rfl⟩|⟨n2,p2⟩
    ·have e2:=own _ q2;simp only[bz]at e2;obtain⟨rfl,_,_⟩:=e2;exact h.apart t1 T1 v1 t2 _ v B1 E1 C1 E C p1 ht hne (sub _ _ _ q1 n1) hH
    ·exact h.apart t1 T1 v1 t2 T2 v2 B1 E1 C1 E2 C2 p1 p2 hne (sub _ _ _ q1 n1) (sub _ _ _ q2 n2)
  glob:=fun g cs k=>by
   obtain⟨us',a,b⟩:=h.glob g cs k;exact⟨us',a.mono hl,b.mono hl⟩
  gsz:=fun g cs hg h20=>by
   obtain⟨a,us',T',fz,b',c⟩:=h.gsz g cs hg h20;exact⟨a,us',T',fz,by rw[qy B us E w g (by omega)];exact b',c⟩
  loop:=fun b r f t' ps x y D hb=>by
   by_cases e:b=t
   ·subst e;simp[Store.set]at hb
   ·rw[Store.jw _ _ e]at hb;obtain⟨g1,us',g2,g3⟩:=h.loop b r f t' ps x y D hb;exact⟨g1,us',by rw[zC B us E w b hin (by rw[g2];exact fun _ _ _ k=>by cases k)];exact g2,g3.mono hl⟩
  defer:=fun b hb=>by
   by_cases e:b=t
   ·subst e;simp[Store.set]at hb
   ·rw[Store.jw _ _ e]at hb;have g2:=(h.defer b hb).2
    exact⟨(h.defer b hb).1,by rw[zC B us E w b hin (by rw[g2];exact fun _ _ _ k=>by cases k)];exact g2⟩ }
theorem yz{b:Nat}{o:Obj}(hb:B0≤b){w0:World}(h:Below B0 w0 w):Below B0 w0 (w.putObj b o):=by
 exact h.trans ⟨rfl,rfl,rfl,by simp,fun k hk=>World.putObj_heap_other (by omega)⟩
theorem Rep.putObj(h:Rep Γ B0 G m w){b:Nat}{o o':Obj}(hb:w.heap[b]? = some o)(hk:∀ us T fz,o ≠ .cells us T fz)(hm:m b=none):Rep Γ B0 G m (w.putObj b o'):=by
 have hc:∀ (a:Addr) u,w.cell? a=some u→a.block≠b:=by
  rintro a u hu rfl;unfold World.cell? at hu;rw[hb]at hu
  cases o with
  |cells us T fz=>exact hk _ _ _ rfl
  |_=>simp at hu
 have hblk:∀ b',b'≠b→(w.putObj b o').heap[b']? = w.heap[b']? := fun b' e=>World.putObj_heap_other e
 have hcell:∀ (a:Addr) u,w.cell? a=some u→(w.putObj b o').cell? a=some u:=fun a u hu=>by
  rw[World.cell?_of_block (w:=w) (hblk _ (hc a u hu))];exact hu
 have hm' : ∀ b' x,m b'=some x→b'≠b:=by rintro b' x hx rfl;rw[hm]at hx;cases hx
 exact {
  K:=fun b' i u hu=>hcell _ _ (h.K b' i u hu)
  base:=by rw[World.putObj_size];exact h.base
  hist:=fun t v x hx=>by rw[World.putObj_size];exact h.hist t v x hx
  var:=fun b' T cs hb'=>by
   obtain⟨h1,⟨us,h2,h3⟩,h4⟩:=h.var b' T cs hb';exact⟨h1,⟨us,by rw[hblk _ (hm' _ _ hb')];exact h2,h3⟩,h4⟩
  tip:=fun t T v ht=>by
   rw[World.putObj_size];obtain⟨a,B,E,C,q,c,d,e,⟨y1,y2,y3⟩,f⟩:=h.tip t T v ht;refine⟨a,B,E,C,q,c,d,e,⟨y1,y2,by rw[hblk _ (by rintro rfl;rw[hb]at y3;cases y3.1;exact hk _ _ _ rfl)];exact y3⟩,fun i h1 h2 => ?_⟩;obtain⟨⟨u,hu⟩,f2,f3⟩:=f i h1 h2;exact⟨⟨u,hcell _ _ hu⟩,by rw[World.frozen?_of_block (w:=w) (hblk _ (hc _ _ hu))];exact f2,f3⟩
  own:=fun t v B E C k=>by rw[World.putObj_size];exact h.own t v B E C k
  apart:=h.apart
  glob:=h.glob
  gsz:=fun g cs hg h20=>by
   obtain⟨a,us',T',fz,b',c⟩:=h.gsz g cs hg h20;exact⟨a,us',T',fz,by rw[hblk _ (by rintro rfl;rw[hb]at b';cases b';exact hk _ _ _ rfl)];exact b',c⟩
  loop:=fun b' r f t ps x y D hb'=>by
   obtain⟨h1,us,h2,h3⟩:=h.loop b' r f t ps x y D hb';exact⟨h1,us,by rw[hblk _ (hm' _ _ hb')];exact h2,h3⟩
  defer:=fun b' hb'=>⟨(h.defer b' hb').1,by rw[hblk _ (hm' _ _ hb')];exact(h.defer b' hb').2⟩ }
theorem Rep.mark(h:Rep Γ B0 G m w){t v B E C n:Nat}{T':TypeId}(hH:G.H t v=some (B,E,C))(hn:w.shape? B=some (T',n)) :
  Rep Γ B0 G m (w.freeze ⟨B,n,none⟩ 1)∧B0≤B:=by
 obtain⟨hB0,hBl,hBv⟩:=h.own t v B E C hH
 obtain⟨cs0,fz0,hc,hsz⟩:∃ cs0 fz0,w.heap[B]? = some (.cells cs0 T' fz0)∧n=cs0.size:=by
  unfold World.shape? at hn
  cases hb:w.heap[B]? with
  |none=>simp[hb]at hn
  |some o=>
   cases o with
   |cells c T fz=>
    simp only[hb,au,bz]at hn;obtain⟨rfl,rfl⟩:=hn;exact⟨c,fz,rfl,rfl⟩
   |_=>simp[hb]at hn
 subst hsz
 have hheap:(w.freeze ⟨B,cs0.size,none⟩ 1).heap=w.heap.modify B fun
   | .cells c elem (lo,hi)=>.cells c elem (if lo==hi then (cs0.size,cs0.size+1)else (min lo cs0.size,max hi (cs0.size+1)))
   |o=>o:=by
  unfold World.freeze;rw[if_neg (by omega)];rfl
 have hsize:(w.freeze ⟨B,cs0.size,none⟩ 1).heap.size=w.heap.size:=by
  rw[hheap,Array.size_modify]
 have hne:∀ b,b≠B→(w.freeze ⟨B,cs0.size,none⟩ 1).heap[b]? = w.heap[b]? := by
  intro b hb;rw[hheap,dG,if_neg (fun e=>hb e.symm)]
 obtain⟨fz1,hnew,hz1⟩:∃ fz1,(w.freeze ⟨B,cs0.size,none⟩ 1).heap[B]? = some (.cells cs0 T' fz1)∧(Z4 cs0.size fz0→cs0.size≤fz1.1):=by
  obtain⟨lo,hi⟩:=fz0;refine⟨if lo==hi then (cs0.size,cs0.size+1)else (min lo cs0.size,max hi (cs0.size+1)),?_,fun hz => ?_⟩
  ·rw[hheap,dG,if_pos rfl,hc];rfl
  ·by_cases e:lo=hi
   ·simp[e]
   ·rcases hz with k|k
    ·exact absurd k e
    ·have k':cs0.size≤lo:=k;have:(lo==hi)=false:=by simpa using e
     rw[this];show cs0.size≤min lo cs0.size;omega
 have hcell:∀ b o,(w.freeze ⟨B,cs0.size,none⟩ 1).cell? ⟨b,o,none⟩=w.cell? ⟨b,o,none⟩:=by
  intro b o
  by_cases e:b=B
  ·subst e;simp only[World.cell?,hnew,hc]
  ·exact World.cell?_of_block (hne b e)
 have hvar:∀ b T1 us,w.heap[b]? = some (.cells us T1 (0,0))→(∃ T2 cs,m b=some (.var T2 cs))→(w.freeze ⟨B,cs0.size,none⟩ 1).heap[b]? = w.heap[b]? := by
  rintro b T1 us _ ⟨T2,cs,hb⟩;exact hne b (by rintro rfl;exact hBv T2 cs hb)
 refine⟨?_,hB0⟩
 exact {
  K:=fun b o u hu=>by rw[hcell];exact h.K b o u hu
  base:=by rw[hsize];exact h.base
  hist:=fun t' v' x hx=>by rw[hsize];exact h.hist t' v' x hx
  var:=fun b T1 cs hb=>by
   obtain⟨h1,⟨us,h2,h3⟩,h4⟩:=h.var b T1 cs hb;exact⟨h1,⟨us,by rw[hvar b _ _ h2 ⟨_,_,hb⟩];exact h2,h3⟩,h4⟩
  tip:=fun t' T1 v' h3=>by
   obtain⟨a,B',E',C',b,c,d,e,⟨y1,y2,y3⟩,f⟩:=h.tip t' T1 v' h3;refine⟨by rw[hsize];exact a,B',E',C',b,c,by rw[hsize];exact d,e,?_,fun o h1 h2 => ?_⟩
   ·by_cases e2:B'=B
    ·subst e2;have e3:=y3.1;rw[hc]at e3;simp only[au,Obj.cells.injEq]at e3;have hz0:=y3.2;obtain⟨rfl,rfl,rfl⟩:=e3;exact⟨cs0,fz1,hnew,.inr (hz1 hz0)⟩
    ·exact⟨y1,y2,by rw[hne B' e2];exact y3⟩
   ·obtain⟨⟨u,hu⟩,f2,f3⟩:=f o h1 h2;refine⟨⟨u,by rw[hcell];exact hu⟩,?_,f3⟩
    by_cases e2:B'=B
    ·subst e2
     have hz0:Z4 cs0.size fz0:=by
      have e3:=y3.1;have e4:=y3.2;rw[hc]at e3;simp only[au,Obj.cells.injEq]at e3;obtain⟨rfl,rfl,rfl⟩:=e3;exact e4
     have hz1:=hz1 hz0
     have ho:o<cs0.size:=by
      simp only[World.cell?,hc]at hu;exact(Array.getElem?_eq_some_iff.1 hu).1
     obtain⟨lo,hi⟩:=fz1;simp only[World.frozen?,hnew];have:cs0.size≤lo:=hz1;simp;omega
    ·rw[World.frozen?_of_block (w:=w) (hne B' e2)];exact f2
  own:=fun t v B E C k=>by rw[hsize];exact h.own t v B E C k
  apart:=h.apart
  glob:=h.glob
  gsz:=fun g cs hg h20=>by
   obtain⟨a,us',T1,fz,b',c⟩:=h.gsz g cs hg h20;exact⟨a,us',T1,fz,by rw[hne g (by omega)];exact b',c⟩
  loop:=fun b r f t' ps x y D hb=>by
   obtain⟨g1,us',g2,g3⟩:=h.loop b r f t' ps x y D hb;exact⟨g1,us',by rw[hne b (by rintro rfl;rw[hc]at g2;cases g2)];exact g2,g3⟩
  defer:=fun b hb=>by
   have g2:=(h.defer b hb).2
   exact⟨(h.defer b hb).1,by rw[hne b (by rintro rfl;rw[hc]at g2;cases g2)];exact g2⟩ }
theorem Rep.Xv(h:Rep Γ B0 G m w){b:Nat}{r:Bool}{f:FuncId}{t:List V}{us:List Value}{ps:Array Tmp}{x y:Code}{D:Nat}(hB:B0≤b)(hw:w.heap[b]? = some (x9 r f us ps x y D))(hr:kE G t us)(hm:m b=none):Rep Γ B0 G (m.set b (.loop r f t ps x y D)) w:=by
 have hne:∀ b' z,m b'=some z→b'≠b:=by rintro b' z hx rfl;rw[hm]at hx;cases hx
 have old:∀ b' z,m.set b (.loop r f t ps x y D) b'=some z→(∀ r f t ps x y D,z ≠ .loop r f t ps x y D)→m b'=some z:=by
  intro b' z hz hk
  by_cases e:b'=b
  ·subst e;rw[Store.jv]at hz;simp only[au]at hz;exact absurd hz.symm (hk _ _ _ _ _ _ _)
  ·rwa [Store.jw _ _ e]at hz
 exact {
  K:=h.K
  base:=h.base
  hist:=fun t' v z hz=>⟨(h.hist t' v z hz).1,fun T v' hv=>(h.hist t' v z hz).2 T v' (old _ _ hv (fun _ _ _ _ _ _ _ k=>by cases k))⟩
  var:=fun b' T cs hb'=>h.var b' T cs (old _ _ hb' (fun _ _ _ _ _ _ _ k=>by cases k))
  tip:=fun t' T v ht=>by
   obtain⟨a,B,E,C,q,c,d,e,y,f'⟩:=h.tip t' T v (old _ _ ht (fun _ _ _ _ _ _ _ k=>by cases k));exact⟨a,B,E,C,q,c,d,fun T cs hc=>e T cs (old _ _ hc (fun _ _ _ _ _ _ _ k=>by cases k)),y,f'⟩
  own:=fun t' v B E C k=>⟨(h.own t' v B E C k).1,(h.own t' v B E C k).2.1,fun T cs hc=>(h.own t' v B E C k).2.2 T cs (old _ _ hc (fun _ _ _ _ _ _ _ k=>by cases k))⟩
  apart:=fun t1 T1 v1 t2 T2 v2 B E C E' C' k1 k2=>h.apart t1 T1 v1 t2 T2 v2 B E C E' C' (old _ _ k1 (fun _ _ _ _ _ _ _ k=>by cases k)) (old _ _ k2 (fun _ _ _ _ _ _ _ k=>by cases k))
  glob:=h.glob
  gsz:=h.gsz
  loop:=fun b' r' f' t' ps' x' y' D' hb'=>by
   by_cases e:b'=b
   ·subst e;rw[Store.jv]at hb';simp only[au,Blk.loop.injEq]at hb';obtain⟨rfl,rfl,rfl,rfl,rfl,rfl,rfl⟩:=hb';exact⟨hB,us,hw,hr⟩
   ·rw[Store.jw _ _ e]at hb';exact h.loop b' r' f' t' ps' x' y' D' hb'
  defer:=fun b' hb'=>h.defer b' (old _ _ hb' (fun _ _ _ _ _ _ _ k=>by cases k)) }
theorem Rep.zbh(h:Rep Γ B0 G m w){b:Nat}(hB:B0≤b)(hw:w.heap[b]? = some (.deferred (some [])))(hm:m b=none):Rep Γ B0 G (m.set b .defer) w:=by
 have old:∀ b' z,m.set b .defer b'=some z→z ≠ .defer→m b'=some z:=by
  intro b' z hz hk
  by_cases e:b'=b
  ·subst e;rw[Store.jv]at hz;simp only[au]at hz;exact absurd hz.symm hk
  ·rwa [Store.jw _ _ e]at hz
 exact {
  K:=h.K
  base:=h.base
  hist:=fun t' v z hz=>⟨(h.hist t' v z hz).1,fun T v' hv=>(h.hist t' v z hz).2 T v' (old _ _ hv (fun k=>by cases k))⟩
  var:=fun b' T cs hb'=>h.var b' T cs (old _ _ hb' (fun k=>by cases k))
  tip:=fun t' T v ht=>by
   obtain⟨a,B,E,C,q,c,d,e,y,f'⟩:=h.tip t' T v (old _ _ ht (fun k=>by cases k));exact⟨a,B,E,C,q,c,d,fun T cs hc=>e T cs (old _ _ hc (fun k=>by cases k)),y,f'⟩
  own:=fun t' v B E C k=>⟨(h.own t' v B E C k).1,(h.own t' v B E C k).2.1,fun T cs hc=>(h.own t' v B E C k).2.2 T cs (old _ _ hc (fun k=>by cases k))⟩
  apart:=fun t1 T1 v1 t2 T2 v2 B E C E' C' k1 k2=>h.apart t1 T1 v1 t2 T2 v2 B E C E' C' (old _ _ k1 (fun k=>by cases k)) (old _ _ k2 (fun k=>by cases k))
  glob:=h.glob
  gsz:=h.gsz
  loop:=fun b' r' f' t' ps' x' y' D' hb'=>h.loop b' r' f' t' ps' x' y' D' (old _ _ hb' (fun k=>by cases k))
  defer:=fun b' hb'=>by
   by_cases e:b'=b
   ·subst e;exact⟨hB,hw⟩
   ·rw[Store.jw _ _ e]at hb';exact h.defer b' hb' }
end
end Go.Av
