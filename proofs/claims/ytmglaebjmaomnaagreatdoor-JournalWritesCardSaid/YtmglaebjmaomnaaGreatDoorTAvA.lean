/- Arguments that a call leaves as they were read again; a struct's cells. No condition. -/
import Derived.Below
import Derived.ChangeBears
import Derived.ChangeOld
import Derived.ChangeStays
import Derived.ReadAgain
import Derived.WideShapes
import Derived.Test.YtmglaebjmaomnaaGreatDoorTAvG
open Bool renaming and_eq_true→aG
set_option linter.unusedSimpArgs false
set_option linter.unusedVariables false
namespace Go.Av
open Go.RowKit
def KX(P:Program):Bool:=laidOutB P&&mapsRowed P&&((List.range P.types.size).all fun t=>match P.underlying t with|some (.slice e)=>decide (0<P.cellsOf e)|_=>true)
theorem Af{H:Type}{enc:TypeId×Value→H}{P:Program}(hp:KX P=true){W W':World}(hB:Below W.heap.size W W') :
  ∀ {ts:List TypeId} {vs:List Value} {ds:List (DataW H)} {ps:List MemPlace},(∀ t∈ts,t<P.types.size)→DataW.TrodAll enc P W 0 (fun _=>true) true ts vs ds ps →
   DataW.TrodAll enc P W' 0 (fun b=>decide (b<W.heap.size)) true ts vs ds ps
 |[],[],[],_,_,h=>h
 |t::_,_::_,_::_,_,hT,⟨p,q,⟨n,h1⟩,h2,e⟩=>by
  unfold KX at hp;simp only[aG]at hp;have hl:=hp.1.1;have hm:=hp.1.2;have hz:=hp.2;have hlt:∀ x∈p,x.block<W.heap.size:=DataW.trod_lt n _ _ _ h1;refine⟨p,q,⟨n,?_⟩,Af (by unfold KX;simp only[aG];exact hp) hB (fun u hu=>hT u (.tail _ hu)) h2,e⟩
  exact DataW.trod_stays (T:=(· < P.types.size)) (kids_rows hl hm) (fun {t e} ht hu=>slices_full_of P hz t e ht hu) (fun h=>by cases h) (hT t (.head _)) h1
   (fun x hx=>hB.same (hlt x hx)) (fun x hx=>by simpa using hlt x hx)
 |[],_::_,_,_,_,h=>by simp[DataW.TrodAll]at h
 |_::_,[],_,_,_,h=>by simp[DataW.TrodAll]at h
 |[],[],_::_,_,_,h=>by simp[DataW.TrodAll]at h
 |_::_,_::_,[],_,_,h=>by simp[DataW.TrodAll]at h
theorem Gm{P:Program}{w:World}{r:Reach}{base:Nat}{t:TypeId}{v:Value}(h:Cell.okWide P w r base t v):lX v=true:=by
 cases v with
 |agg cs=>
  unfold Cell.okWide Cell.ok at h
  split at h<;>simp_all
 |_=>rfl
theorem G9{P:Program}{w:World}{r:Reach}{base:Nat}{t:TypeId}{fs:Array Field}{v:Value}(ht:P.underlying t=some (.struct fs))(h:Value.okWide P w r base t v) :
  ∃ l:List Value,v = .agg l.toArray∧l.length=P.cellsOf t∧∀ x∈l,lX x=true:=by
 simp only[Value.okWide,ht]at h;obtain⟨cs,h1,h2,ts,_,_,h3⟩:=h;refine⟨cs.toList,by rw[h1],by simpa using h2,fun x hx => ?_⟩;obtain⟨i,hi⟩:=List.getElem?_of_mem hx;obtain⟨u,_,h5⟩:=h3 i x (by rw[←Array.getElem?_toList];exact hi);exact Gm h5
end Go.Av
