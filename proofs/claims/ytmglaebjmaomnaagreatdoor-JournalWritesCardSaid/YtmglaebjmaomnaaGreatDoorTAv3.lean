/- The relation between an abstract store and a world of the model, and its keeping. No condition. -/
import Derived.Test.YtmglaebjmaomnaaGreatDoorTAv2
open Nat renaming ne_of_lt→fE
open Option.some renaming injEq→au
set_option linter.unusedSimpArgs false
set_option linter.unusedVariables false
namespace Go.Av
open Go.RowKit
def x9(r:Bool)(f:FuncId)(us:List Value)(ps:Array Tmp)(x y:Code)(D:Nat):Obj:=
 .loop { state:=if r then .ready else .busy,pending:=none,fn:=f,tmps:=us.toArray,params:=ps,assign:=x,body:=y,defers:=D }
def Z4(n:Nat)(fz:Nat×Nat):Prop:=fz.1=fz.2∨n≤fz.1
structure Rep (Γ:jG) (B0:Nat) (G:Gh) (m:Store) (w:World):Prop where
 K:∀ b o u,G.K b o=some u→w.cell? ⟨b,o,none⟩=some u
 base:B0≤w.heap.size
 hist:∀ t v x,G.H t v=some x→t<w.heap.size∧∀ T v',m t=some (.tip T v')→v≤v'
 var:∀ b T cs,m b=some (.var T cs)→B0≤b∧(∃ us,w.heap[b]? = some (.cells us.toArray T (0,0))∧kE G cs us)∧∀ o,G.K b o=none
 tip:∀ t T v,m t=some (.tip T v)→t<w.heap.size∧∃ B E C,G.H t v=some (B,E,C)∧B0≤B∧B<w.heap.size∧(∀ T cs,m B≠some (.var T cs))∧(∃ cs fz,w.heap[B]? = some (.cells cs T fz)∧Z4 cs.size fz) ∧
  ∀ o,E≤o→o<C→(∃ u,w.cell? ⟨B,o,none⟩=some u)∧w.frozen? ⟨B,o,none⟩=false∧G.K B o=none
 own:∀ t v B E C,G.H t v=some (B,E,C)→B0≤B∧B<w.heap.size∧∀ T cs,m B≠some (.var T cs)
 apart:∀ t T v t' T' v' B E C E' C',m t=some (.tip T v)→m t'=some (.tip T' v')→t≠t'→G.H t v=some (B,E,C)→G.H t' v'≠some (B,E',C')
 glob:∀ g cs,Γ g=some cs→∃ us,kE G cs us∧G.has ⟨g,0,none⟩ us
 gsz:∀ g cs,Γ g=some cs→cs.length=20→g<B0∧∃ us T fz,w.heap[g]? = some (.cells us T fz)∧us.size=20
 loop:∀ b r f t ps x y D,m b=some (.loop r f t ps x y D)→B0≤b∧∃ us,w.heap[b]? = some (x9 r f us ps x y D)∧kE G t us
 defer:∀ b,m b=some .defer→B0≤b∧w.heap[b]? = some (.deferred (some []))
section
variable {Γ:jG} {B0:Nat} {G:Gh} {m:Store} {w:World}
theorem Rep.lt(h:Rep Γ B0 G m w){b:Nat}{x:Blk}(hb:m b=some x):b<w.heap.size:=by
 cases x with
 |var T cs=>
  obtain⟨_,⟨us,h1,_⟩,_⟩:=h.var b T cs hb;exact(Array.getElem?_eq_some_iff.1 h1).1
 |tip T v=>exact(h.tip b T v hb).1
 |loop r f t ps x y D=>
  obtain⟨_,us,h1,_⟩:=h.loop b r f t ps x y D hb;exact(Array.getElem?_eq_some_iff.1 h1).1
 |defer=>exact(Array.getElem?_eq_some_iff.1 (h.defer b hb).2).1
theorem Rep.fresh(h:Rep Γ B0 G m w):m w.heap.size=none:=by
 cases hb:m w.heap.size with
 |none=>rfl
 |some x=>exact absurd (h.lt hb) (Nat.lt_irrefl _)
theorem Rep.zdz(h:Rep Γ B0 G m w){b o:Nat}{u:Value}(hb:G.K b o=some u):b<w.heap.size:=
 World.block_lt_of_cell? w ⟨b,o,none⟩ (h.K b o u hb)
theorem Rep.I9(h:Rep Γ B0 G m w)(o:Nat):G.K w.heap.size o=none:=by
 cases hb:G.K w.heap.size o with
 |none=>rfl
 |some x=>exact absurd (h.zdz hb) (Nat.lt_irrefl _)
theorem Rep.weaken(h:Rep Γ B0 G m w){m':Store}(hs:∀ b x,m' b=some x→m b=some x):Rep Γ B0 G m' w where
 K:=h.K
 base:=h.base
 hist:=fun t v x hx=>⟨(h.hist t v x hx).1,fun T v' hv=>(h.hist t v x hx).2 T v' (hs _ _ hv)⟩
 var:=fun b T cs hb=>h.var b T cs (hs _ _ hb)
 tip:=fun t T v ht=>by
  obtain⟨a,B,E,C,b,c,d,e,y,f⟩:=h.tip t T v (hs _ _ ht);refine⟨a,B,E,C,b,c,d,fun T cs hc=>e T cs (hs _ _ hc),y,f⟩
 own:=fun t v B E C h1=>⟨(h.own t v B E C h1).1,(h.own t v B E C h1).2.1,fun T cs hc=>(h.own t v B E C h1).2.2 T cs (hs _ _ hc)⟩
 apart:=fun t T v t' T' v' B E C E' C' a b=>h.apart t T v t' T' v' B E C E' C' (hs _ _ a) (hs _ _ b)
 glob:=h.glob
 gsz:=h.gsz
 loop:=fun b r f t ps x y D hb=>h.loop b r f t ps x y D (hs _ _ hb)
 defer:=fun b hb=>h.defer b (hs _ _ hb)
theorem Rep.drew(h:Rep Γ B0 G m w):Rep Γ B0 G m w.drew where
 K:=h.K
 base:=h.base
 hist:=h.hist
 var:=h.var
 tip:=h.tip
 own:=h.own
 apart:=h.apart
 glob:=h.glob
 gsz:=h.gsz
 loop:=h.loop
 defer:=h.defer
theorem Rep.alloc(h:Rep Γ B0 G m w)(o:Obj):Rep Γ B0 G m (w.alloc o) where
 K:=fun b i u hu=>by rw[World.cell?_alloc_lt _ _ _ (show(⟨b,i,none⟩:Addr).block<_ from h.zdz hu)];exact h.K b i u hu
 base:=by have:=h.base;simp;omega
 hist:=fun t v x hx=>⟨by have:=(h.hist t v x hx).1;simp;omega,(h.hist t v x hx).2⟩
 var:=fun b T cs hb=>by
  obtain⟨h1,⟨us,h2,h3⟩,h4⟩:=h.var b T cs hb;exact⟨h1,⟨us,by rw[Below.heap_alloc _ _ _ (h.lt hb)];exact h2,h3⟩,h4⟩
 tip:=fun t T v ht=>by
  obtain⟨a,B,E,C,b,c,d,e,⟨y1,y2,y3⟩,f⟩:=h.tip t T v ht;refine⟨by simp;omega,B,E,C,b,c,by simp;omega,e,⟨y1,y2,by rw[Below.heap_alloc _ _ _ d];exact y3⟩,fun o h1 h2 => ?_⟩;obtain⟨⟨u,hu⟩,f2,f3⟩:=f o h1 h2;exact⟨⟨u,by rw[World.cell?_alloc_lt _ _ _ (show(⟨B,o,none⟩:Addr).block<_ from d)];exact hu⟩,by rw[World.frozen?_alloc_old _ _ _ (show(⟨B,o,none⟩:Addr).block≠_ from fE d)];exact f2,f3⟩
 own:=fun t v B E C h1=>⟨(h.own t v B E C h1).1,by have:=(h.own t v B E C h1).2.1;simp;omega,(h.own t v B E C h1).2.2⟩
 apart:=h.apart
 glob:=h.glob
 gsz:=fun g cs hg h20=>by
  obtain⟨a,us,T,fz,b,c⟩:=h.gsz g cs hg h20;exact⟨a,us,T,fz,by rw[Below.heap_alloc _ _ _ (Nat.lt_of_lt_of_le a h.base)];exact b,c⟩
 loop:=fun b r f t ps x y D hb=>by
  obtain⟨h1,us,h2,h3⟩:=h.loop b r f t ps x y D hb;exact⟨h1,us,by rw[Below.heap_alloc _ _ _ (h.lt hb)];exact h2,h3⟩
 defer:=fun b hb=>⟨(h.defer b hb).1,by rw[Below.heap_alloc _ _ _ (h.lt hb)];exact(h.defer b hb).2⟩
theorem Rep.grow(h:Rep Γ B0 G m w){G':Gh}(hl:G.le G')(hH:G'.H=G.H)(hK:∀ b o u,G'.K b o=some u→w.cell? ⟨b,o,none⟩=some u)
  (hv:∀ b T cs o,m b=some (.var T cs)→G'.K b o=none)
  (ht:∀ t T v B E C o,m t=some (.tip T v)→G.H t v=some (B,E,C)→E≤o→o<C→G'.K B o=none):Rep Γ B0 G' m w where
 K:=hK
 base:=h.base
 hist:=by rw[hH];exact h.hist
 var:=fun b T cs hb=>by
  obtain⟨h1,⟨us,h2,h3⟩,h4⟩:=h.var b T cs hb;exact⟨h1,⟨us,h2,h3.mono hl⟩,fun o=>hv b T cs o hb⟩
 tip:=fun t T v hm=>by
  obtain⟨a,B,E,C,b,c,d,e,y,f⟩:=h.tip t T v hm;refine⟨a,B,E,C,by rw[hH];exact b,c,d,e,y,fun o h1 h2 => ?_⟩;obtain⟨f1,f2,f3⟩:=f o h1 h2;exact⟨f1,f2,ht t T v B E C o hm b h1 h2⟩
 own:=by rw[hH];exact h.own
 apart:=by rw[hH];exact h.apart
 glob:=fun g cs hg=>by
  obtain⟨us,a,b⟩:=h.glob g cs hg;exact⟨us,a.mono hl,b.mono hl⟩
 gsz:=h.gsz
 loop:=fun b r f t ps x y D hb=>by
  obtain⟨h1,us,h2,h3⟩:=h.loop b r f t ps x y D hb;exact⟨h1,us,h2,h3.mono hl⟩
 defer:=h.defer
def Gh.put(G:Gh)(b:Nat)(us:List Value):Gh:={ G with K:=fun b' o=>if b'=b then us[o]? else G.K b' o }
theorem Gh.RS{G:Gh}{b:Nat}(us:List Value)(h:∀ o,G.K b o=none):G.le (G.put b us):=
 ⟨fun b' o u hu => by
  have:b'≠b:=by intro e;subst e;rw[h]at hu;cases hu
  simpa [Gh.put,this] using hu,fun _ _ _ h=>h⟩
theorem Rep.zm0(h:Rep Γ B0 G m w)(us:List Value)(T:TypeId):Rep Γ B0 (G.put w.heap.size us) m (w.alloc (.cells us.toArray T)):=by
 have hl:=Gh.RS us h.I9;refine(h.alloc (.cells us.toArray T)).grow hl rfl ?_ ?_ ?_
 ·intro b o u hu
  by_cases hb:b=w.heap.size
  ·subst hb;rw[World.cell?_alloc_new]
   simpa [Gh.put] using hu
  ·have hu':G.K b o=some u:=by simpa [Gh.put,hb] using hu
   rw[World.cell?_alloc_lt _ _ _ (show(⟨b,o,none⟩:Addr).block<_ from h.zdz hu')];exact h.K b o u hu'
 ·intro b T cs o hb;have hne:b≠w.heap.size:=fE (h.lt hb)
  simpa [Gh.put,hne] using (h.var b T cs hb).2.2 o
 ·intro t T v B E C o hm hH h1 h2;obtain⟨a,B',E',C',b,c,d,e,_,f⟩:=h.tip t T v hm;rw[hH]at b;simp only[au,Prod.mk.injEq]at b;obtain⟨rfl,rfl,rfl⟩:=b;have hne:B≠w.heap.size:=fE d
  simpa [Gh.put,hne] using (f o h1 h2).2.2
def Gh.putH(G:Gh)(t v:Nat)(x:Nat×Nat×Nat):Gh:={ G with H:=fun t' v' => if t' = t∧v'=v then some x else G.H t' v' }
theorem Rep.znp(h:Rep Γ B0 G m w){b E C:Nat}(hb:b<w.heap.size)(hB:B0≤b)(hm:m b=none)(hn:∀ v,G.H b v=none):G.le (G.putH b 0 (b,E,C))∧Rep Γ B0 (G.putH b 0 (b,E,C)) m w:=by
 have hl : G.le (G.putH b 0 (b,E,C)) := ⟨fun _ _ _ k => k,fun t v x k => by
  have:¬ (t=b∧v=0):=by rintro⟨rfl,rfl⟩;rw[hn]at k;cases k
  simpa [Gh.putH,this] using k⟩
 have old:∀ t v x,(G.putH b 0 (b,E,C)).H t v=some x→(t=b∧v=0∧x=(b,E,C))∨G.H t v=some x:=by
  intro t v x k
  by_cases e:t=b∧v=0
  ·left;refine⟨e.1,e.2,?_⟩
   simpa [Gh.putH,e] using k.symm
  ·right
   simpa [Gh.putH,e] using k
 have ne:∀ t T v,m t=some (.tip T v)→t≠b:=by rintro t T v k rfl;rw[hm]at k;cases k
 refine⟨hl,?_⟩
 exact {
  K:=h.K
  base:=h.base
  hist:=fun t v x hx=>by
   rcases old t v x hx with ⟨rfl,rfl,rfl⟩|k
   ·exact⟨hb,fun T v' hv=>Nat.zero_le _⟩
   ·exact h.hist t v x k
  var:=fun c T cs hc=>by
   obtain⟨h1,⟨us,h2,h3⟩,h4⟩:=h.var c T cs hc;exact⟨h1,⟨us,h2,h3.mono hl⟩,h4⟩
  tip:=fun t T v ht=>by
   obtain⟨a,B,E',C',q,c,d,e,y,f⟩:=h.tip t T v ht;exact⟨a,B,E',C',hl.H _ _ _ q,c,d,e,y,f⟩
  own:=fun t v B E' C' k=>by
   rcases old t v _ k with ⟨rfl,rfl,e⟩|k
   ·cases e;exact⟨hB,hb,fun T cs hc=>by rw[hm]at hc;cases hc⟩
   ·exact h.own t v B E' C' k
  apart:=fun t T v t' T' v' B E1 C1 E2 C2 k1 k2 hne q1 q2=>by
   rcases old t v _ q1 with ⟨rfl,_,_⟩|p1
   ·exact ne _ _ _ k1 rfl
   ·rcases old t' v' _ q2 with ⟨rfl,_,_⟩|p2
    ·exact ne _ _ _ k2 rfl
    ·exact h.apart t T v t' T' v' B E1 C1 E2 C2 k1 k2 hne p1 p2
  glob:=fun g cs hg=>by
   obtain⟨us,a,b⟩:=h.glob g cs hg;exact⟨us,a.mono hl,b.mono hl⟩
  gsz:=h.gsz
  loop:=fun c r f t ps x y D hc=>by
   obtain⟨h1,us,h2,h3⟩:=h.loop c r f t ps x y D hc;exact⟨h1,us,h2,h3.mono hl⟩
  defer:=h.defer }
theorem Gh.zd3(G:Gh)(b:Nat)(us:List Value):(G.put b us).has ⟨b,0,none⟩ us:=⟨rfl,fun i u hu=>by simpa [Gh.put] using hu⟩
def Store.set(m:Store)(b:Nat)(x:Blk):Store:=fun b' => if b'=b then some x else m b'
theorem Store.jv(m:Store)(b:Nat)(x:Blk):m.set b x b=some x:=by simp[Store.set]
theorem Store.jw(m:Store){b b':Nat}(x:Blk)(h:b'≠b):m.set b x b' = m b':=by simp[Store.set,h]
theorem Rep.newVar(h:Rep Γ B0 G m w){cs:List V}{us:List Value}(T:TypeId)(hr:kE G cs us):Rep Γ B0 G (m.set w.heap.size (.var T cs)) (w.alloc (.cells us.toArray T)):=by
 have h2:=h.alloc (.cells us.toArray T);have hne:∀ {t:Nat},t<w.heap.size→t≠w.heap.size:=fun h=>fE h
 have old:∀ t T' v,m.set w.heap.size (.var T cs) t=some (.tip T' v)→m t=some (.tip T' v):=by
  intro t T' v ht
  by_cases e:t=w.heap.size
  ·subst e;simp[Store.set]at ht
  ·simpa [Store.set,e] using ht
 exact {
  K:=h2.K
  base:=h2.base
  hist:=fun t v x hx=>⟨(h2.hist t v x hx).1,fun T v' hv=>(h2.hist t v x hx).2 T v' (old _ _ _ hv)⟩
  var:=fun b T' cs' hb=>by
   by_cases e:b=w.heap.size
   ·subst e;simp only[Store.jv,au,Blk.var.injEq]at hb;obtain⟨rfl,rfl⟩:=hb;exact⟨h.base,⟨us,by unfold World.alloc;exact Array.getElem?_push_size,hr⟩,h.I9⟩
   ·rw[Store.jw _ _ e]at hb;exact h2.var b T' cs' hb
  tip:=fun t T' v ht=>by
   obtain⟨a,B,E,C,b,c,d,e,y,f⟩:=h2.tip t T' v (old _ _ _ ht);obtain⟨_,B',E',C',b',_,d',_,_,_⟩:=h.tip t T' v (old _ _ _ ht);rw[b]at b';simp only[au,Prod.mk.injEq]at b';obtain⟨rfl,rfl,rfl⟩:=b';refine⟨a,B,E,C,b,c,d,fun T' cs' => ?_,y,f⟩;rw[Store.jw _ _ (hne d')];exact e T' cs'
  own := fun t v B E C h1 => ⟨(h2.own t v B E C h1).1,(h2.own t v B E C h1).2.1,fun T' cs' hc => by
   have hlt:=(h.own t v B E C h1).2.1;rw[Store.jw _ _ (hne hlt)]at hc
   exact(h.own t v B E C h1).2.2 _ _ hc⟩
  apart:=fun t T v t' T' v' B E C E' C' a b=>h2.apart t T v t' T' v' B E C E' C' (old _ _ _ a) (old _ _ _ b)
  glob:=h2.glob
  gsz:=h2.gsz
  loop:=fun b r f t ps x y D hb=>by
   by_cases e:b=w.heap.size
   ·subst e;simp[Store.set]at hb
   ·rw[Store.jw _ _ e]at hb;exact h2.loop b r f t ps x y D hb
  defer:=fun b hb=>by
   by_cases e:b=w.heap.size
   ·subst e;simp[Store.set]at hb
   ·rw[Store.jw _ _ e]at hb
    exact h2.defer b hb }
theorem Rep.load(h:Rep Γ B0 G m w){b:Nat}{T:TypeId}{cs:List V}(hb:m b=some (.var T cs)){o:Nat}{v:V}(hv:cs[o]? = some v):∃ u,w.cell? ⟨b,o,none⟩=some u∧ku G v u:=by
 obtain⟨_,⟨us,h2,h3⟩,_⟩:=h.var b T cs hb;obtain⟨u,hu,hr⟩:=h3.get hv;exact⟨u,by simp[World.cell?,h2,hu],hr⟩
theorem heap_setCell_same(w:World)(b o:Nat)(us:List Value)(T:TypeId)(u:Value)(h:w.heap[b]? = some (.cells us.toArray T (0,0))) :
  (w.setCell ⟨b,o,none⟩ u).heap[b]? = some (.cells (us.set o u).toArray T (0,0)):=by
 simp only[World.setCell,Array.getElem?_modify,h];simp
theorem Rep.store(h:Rep Γ B0 G m w){b:Nat}{T:TypeId}{cs:List V}(hb:m b=some (.var T cs)){o:Nat}{v:V}{u:Value}(hr:ku G v u) :
  Rep Γ B0 G (m.set b (.var T (cs.set o v))) (w.setCell ⟨b,o,none⟩ u):=by
 obtain⟨hB,⟨us,h2,h3⟩,h4⟩:=h.var b T cs hb
 have hcell:∀ b' o',b'≠b→(w.setCell ⟨b,o,none⟩ u).cell? ⟨b',o',none⟩=w.cell? ⟨b',o',none⟩:=fun b' o' hne=>
  World.cell?_of_block (Below.heap_setCell w ⟨b,o,none⟩ u b' hne)
 have old:∀ t T' v',m.set b (.var T (cs.set o v)) t=some (.tip T' v')→m t=some (.tip T' v'):=by
  intro t T' v' ht
  by_cases e:t=b
  ·subst e;simp[Store.set]at ht
  ·simpa [Store.set,e] using ht
 exact {
  K:=fun b' o' x hx=>by
   have hne:b'≠b:=by intro e;subst e;rw[h4]at hx;cases hx
   rw[hcell _ _ hne];exact h.K b' o' x hx
  base:=by rw[World.size_setCell];exact h.base
  hist:=fun t v' x hx=>⟨by rw[World.size_setCell];exact(h.hist t v' x hx).1,fun T v'' hv=>(h.hist t v' x hx).2 T v'' (old _ _ _ hv)⟩
  var:=fun b' T' cs' hb'=>by
   by_cases e:b'=b
   ·subst e;simp only[Store.jv,au,Blk.var.injEq]at hb';obtain⟨rfl,rfl⟩:=hb';exact⟨hB,⟨us.set o u,heap_setCell_same w b' o us T u h2,h3.set o hr⟩,h4⟩
   ·rw[Store.jw _ _ e]at hb';obtain⟨g1,⟨us',g2,g3⟩,g4⟩:=h.var b' T' cs' hb';exact⟨g1,⟨us',by rw[Below.heap_setCell w ⟨b,o,none⟩ u b' e];exact g2,g3⟩,g4⟩
  tip:=fun t T' v' ht=>by
   obtain⟨a,B,E,C,b',c,d,e,⟨y1,y2,y3⟩,f⟩:=h.tip t T' v' (old _ _ _ ht);have hne:B≠b:=by intro e';subst e';exact e T cs hb
   refine⟨by rw[World.size_setCell];exact a,B,E,C,b',c,by rw[World.size_setCell];exact d,fun T' cs' => ?_,⟨y1,y2,by rw[Below.heap_setCell w ⟨b,o,none⟩ u B hne];exact y3⟩,fun o' h1 h2 => ?_⟩
   ·rw[Store.jw _ _ hne];exact e T' cs'
   ·obtain⟨f1,f2,f3⟩:=f o' h1 h2;exact⟨by rw[hcell _ _ hne];exact f1,by rw[World.frozen?_setCell];exact f2,f3⟩
  own := fun t v' B E C h1 => ⟨(h.own t v' B E C h1).1,by rw [World.size_setCell]; exact (h.own t v' B E C h1).2.1,fun T' cs' hc => by
   by_cases e:B=b
   ·subst e;exact(h.own t v' B E C h1).2.2 _ _ hb
   ·rw[Store.jw _ _ e]at hc
    exact(h.own t v' B E C h1).2.2 _ _ hc⟩
  apart:=fun t T v' t' T' v'' B E C E' C' a b=>h.apart t T v' t' T' v'' B E C E' C' (old _ _ _ a) (old _ _ _ b)
  glob:=h.glob
  gsz:=fun g cs hg h20=>by
   obtain⟨a,us',T',fz,b',c⟩:=h.gsz g cs hg h20;exact⟨a,us',T',fz,by rw[Below.heap_setCell w ⟨b,o,none⟩ u g (by show g≠b;omega)];exact b',c⟩
  loop:=fun b' r f t ps x y D hb'=>by
   by_cases e:b'=b
   ·subst e;simp[Store.set]at hb'
   ·rw[Store.jw _ _ e]at hb';obtain⟨g1,us',g2,g3⟩:=h.loop b' r f t ps x y D hb';exact⟨g1,us',by rw[Below.heap_setCell w ⟨b,o,none⟩ u b' e];exact g2,g3⟩
  defer:=fun b' hb'=>by
   by_cases e:b'=b
   ·subst e;simp[Store.set]at hb'
   ·rw[Store.jw _ _ e]at hb'
    exact⟨(h.defer b' hb').1,by rw[Below.heap_setCell w ⟨b,o,none⟩ u b' e];exact(h.defer b' hb').2⟩ }
end
end Go.Av
