/- Going through code with rows that change: made, looked into, set. No condition. -/
import Derived.Test.YtmglaebjmaomnaaGreatDoorTAvN
namespace Go.Av
set_option linter.unusedSimpArgs false
set_option linter.unusedVariables false
section
variable {P : Program} {Γ : Glob} {Kp : V → Store → Prop} {s : List (Tmp × Option (Tmp × Bool) × AOp)} {l : List Item} {K : St → Prop} {t : List V} {m : Store} {d : Option Tmp}
theorem zax {i : Nat} (h : i < 4611686018427387904) : IntKind.i64.wrap ((i : Int) + 1) = ((i + 1 : Nat) : Int) := by
 rw [wrap_i64 (by omega) (by omega)]
 simp
theorem resV_two {a b : Nat} {st : St} : resV [.tmp a,.tmp b] st = some (.tup [tget st.t a,tget st.t b]) := by
 simp only [resV,zcg,zcn,zbc,Option.map_some]
theorem zaI {a b c : Nat} {st : St} : resV [.tmp a,.tmp b,.tmp c] st = some (.tup [tget st.t a,tget st.t b,tget st.t c]) := by
 simp only [resV,zcg,zcn,zbc,Option.map_some]
end
end Go.Av
