/- Contracts of the model's own, told over abstract values. No condition. -/
import Derived.Test.YtmglaebjmaomnaaGreatDoorTAvM
open Nat renaming lt_of_lt_of_le→cu
set_option linter.unusedSimpArgs false
set_option linter.unusedVariables false
namespace Go.Av
open Go.RowKit
section
variable {P:Program} {Γ:jG} {B0:Nat} {G:Gh} {m:Store} {w w':World}
theorem Rep.below(h:Rep Γ B0 G m w)(hB:Below w.heap.size w w'):Rep Γ B0 G m w' where
 K:=fun b i u hu=>by rw[hB.cell (p:=⟨b,i,none⟩) (h.zdz hu)];exact h.K b i u hu
 base:=Nat.le_trans h.base hB.size
 hist:=fun t v x hx=>⟨cu (h.hist t v x hx).1 hB.size,(h.hist t v x hx).2⟩
 var:=fun b T cs hb=>by
  obtain⟨h1,⟨us,h2,h3⟩,h4⟩:=h.var b T cs hb;exact⟨h1,⟨us,by rw[hB.block b (h.lt hb)];exact h2,h3⟩,h4⟩
 tip:=fun t T v ht=>by
  obtain⟨a,B,E,C,b,c,d,e,⟨y1,y2,y3⟩,f⟩:=h.tip t T v ht;refine⟨cu a hB.size,B,E,C,b,c,cu d hB.size,e,⟨y1,y2,by rw[hB.block B d];exact y3⟩,fun o h1 h2 => ?_⟩;obtain⟨⟨u,hu⟩,f2,f3⟩:=f o h1 h2;exact⟨⟨u,by rw[hB.cell (p:=⟨B,o,none⟩) d];exact hu⟩,by rw[hB.frozen (p:=⟨B,o,none⟩) d];exact f2,f3⟩
 own:=fun t v B E C k=>⟨(h.own t v B E C k).1,cu (h.own t v B E C k).2.1 hB.size,(h.own t v B E C k).2.2⟩
 apart:=h.apart
 glob:=h.glob
 gsz:=fun g cs hg h20=>by
  obtain⟨a,us,T,fz,b,c⟩:=h.gsz g cs hg h20;exact⟨a,us,T,fz,by rw[hB.block g (cu a h.base)];exact b,c⟩
 loop:=fun b r f t ps x y D hb=>by
  obtain⟨h1,us,h2,h3⟩:=h.loop b r f t ps x y D hb;exact⟨h1,us,by rw[hB.block b (h.lt hb)];exact h2,h3⟩
 defer:=fun b hb=>⟨(h.defer b hb).1,by rw[hB.block b (h.lt hb)];exact(h.defer b hb).2⟩
theorem kE.Tz:∀ {xs us:List Value},kE G (xs.map .val) us→us=xs
 |[],us,h=>h.kN
 |x::xs,us,h=>by
  obtain⟨y,ys,rfl,r1,r2⟩:=h.cons_inv;cases r1;rw[Tz r2]
theorem jB.XG{f:FuncId}{xs:List Value}{u:Value}(he:enters P f=true)(hn:lX u=true)(h:∀ w,Calls P f xs.toArray w fun e w'=>e = .returned u∧Below w.heap.size w w') :
  jB P Γ f (xs.map .val) m fun o m'=>o = .ret (.val u)∧m'=m:=by
 refine⟨he,fun G B0 mF w cargs hD hR hL => ?_⟩;rw[hL.Tz];refine(h w).mono ?_;rintro e w' ⟨rfl,hB⟩;exact⟨G,m,.ret (.val u),Gh.le.refl G,hD,hR.below hB,hB.mono hR.base,.ret (.val hn),rfl,rfl⟩
theorem BJ{m m':Store}{b:Nat}(hb:m' b=none)(h:∀ c,c≠b→m c=m' c):∀ c x,m' c=some x→m c=some x:=by
 intro c x hc;rw[h c (by rintro rfl;rw[hb]at hc;cases hc)];exact hc
end
end Go.Av
