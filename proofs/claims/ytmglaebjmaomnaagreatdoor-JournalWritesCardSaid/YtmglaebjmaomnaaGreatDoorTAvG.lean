/- A world's start, told over abstract values: what the listed variables hold is read off the row. No condition. -/
import Derived.LaidMore
import Derived.Lib.LaidU8
import Derived.OpenShut
import Derived.ProofKit
import Derived.Stop.Joined
import Derived.Stop.LaidErr
import Derived.Test.YtmglaebjmaomnaaGreatDoorTAvO
open Option.some renaming inj→fZ
set_option linter.unusedSimpArgs false
set_option linter.unusedVariables false
namespace Go.Av
open Go.RowKit
theorem FD{P:Program}{w:World}{n:String}{L:List (List UInt8)}{g:Nat}{t e:TypeId}(h:Lib.VarReads P w n (.agg (L.map fun s=>.lit (.string s))))(hg:P.globalNamed n=some g)(ht:(P.globals[g]?).map (·.type)=some t)
  (ha:P.underlying t=some (.array L.length e)) (he:P.underlying e=some .string) (hc:P.cellsOf e=1):∀ (i:Nat) (s:List UInt8),L[i]? = some s→w.cell? ⟨g,i,none⟩=some (.string ⟨s.toArray⟩):=by
 intro i s hi;obtain⟨g',t',cs,fuel,p,hg',ht',hv,hd⟩:=h;obtain rfl:=fZ (hg.symm.trans hg');obtain rfl:=fZ (ht.symm.trans ht');have hlt:=(List.getElem?_eq_some_iff.1 hi).1;obtain⟨f2,d,q,h1,h2⟩:=Lib.array_elem ha hd i hlt;rw[hc,Nat.mul_one]at h2
 have hd1:d = .lit (.string s):=by
  rw[List.getElem?_map,hi]at h1;exact(fZ h1).symm
 subst hd1;obtain⟨s',h3,h4,_⟩:=DataW.trod_string he h2;simp only[Prod.mk.injEq,DataW.lit.injEq,Lit.string.injEq]at h4
 have h5:cs.toList[i]? = some (.string s'):=by
  have:=congrArg (·[0]?) h3
  simpa [List.getElem?_take,List.getElem?_drop] using this
 rw[World.var?_cell hg hv i,←Array.getElem?_toList,h5,h4.1]
def zl(Γ:jG)(w:World):Gh:={ K:=fun b o=>if (Γ b).isSome then w.cell? ⟨b,o,none⟩else none,H:=fun _ _=>none }
theorem Y4{Γ:jG}{w:World}(h:∀ g cs,Γ g=some cs→∃ us,kE (zl Γ w) cs us∧∀ i u,us[i]? = some u→w.cell? ⟨g,i,none⟩=some u)
  (hz:∀ g cs,Γ g=some cs→cs.length=20→g<w.heap.size∧∃ us T fz,w.heap[g]? = some (.cells us T fz)∧us.size=20):Rep Γ w.heap.size (zl Γ w) (fun _=>none) w where
 gsz:=hz
 K:=fun b o u hu=>by
  simp only[zl]at hu
  split at hu
  ·exact hu
  ·cases hu
 base:=Nat.le_refl _
 hist:=fun t v x hx=>by cases hx
 var:=fun b T cs hb=>by cases hb
 tip:=fun t T v ht=>by cases ht
 own:=fun t v B E C k=>by cases k
 apart:=fun t T v t' T' v' B E C E' C' a=>by cases a
 glob:=fun g cs hg=>by
  obtain⟨us,h1,h2⟩:=h g cs hg;refine⟨us,h1,rfl,fun i u hu => ?_⟩;simp only[zl,hg,Option.isSome_some,if_true,Nat.zero_add];exact h2 i u hu
 loop:=fun b r f t ps x y D hb=>by cases hb
 defer:=fun b hb=>by cases hb
theorem VN{G:Gh}:∀ (L:List (List UInt8)),kE G (L.map bs) (L.map fun s=>Value.string ⟨s.toArray⟩)
 |[]=>.nil
 |_::L=>.cons (.val rfl) (VN L)
end Go.Av
