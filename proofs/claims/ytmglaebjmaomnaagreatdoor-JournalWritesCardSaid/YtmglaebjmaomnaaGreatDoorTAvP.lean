/- Going through code with rows that change: made, looked into, set. No condition. -/
import Derived.Test.YtmglaebjmaomnaaGreatDoorTAvN
open Option renaming map_some→dV
set_option linter.unusedSimpArgs false
set_option linter.unusedVariables false
namespace Go.Av
section
variable {P:Program} {Γ:jG} {Kp:V→Store→Prop} {s:List (Tmp×Option (Tmp×Bool)×AOp)} {l:List Item} {K:St→Prop} {t:List V} {m:Store} {d:Option Tmp}
theorem jQ{i:Nat}(h:i<4611686018427387904):IntKind.i64.wrap ((i:Int)+1)=((i+1:Nat):Int):=by
 rw[wrap_i64 (by omega) (by omega)];simp
theorem TT{a b:Nat}{st:St}:resV [.tmp a,.tmp b] st=some (.tup [jT st.t a,jT st.t b]):=by
 simp only[resV,qo,qJ,nz,dV]
theorem kJ{a b c:Nat}{st:St}:resV [.tmp a,.tmp b,.tmp c] st=some (.tup [jT st.t a,jT st.t b,jT st.t c]):=by
 simp only[resV,qo,qJ,nz,dV]
end
end Go.Av
