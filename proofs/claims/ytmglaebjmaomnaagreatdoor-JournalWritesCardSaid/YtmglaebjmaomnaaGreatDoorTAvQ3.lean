/- Two ways that meet again: what is left is gone through once. No condition. -/
import Derived.Test.YtmglaebjmaomnaaGreatDoorTAvQ2
set_option linter.unusedSimpArgs false
set_option linter.unusedVariables false
namespace Go.Av
section
variable {P:Program} {Γ:jG} {Kp:V→Hl→Prop} {N:Nat} {l:List Item} {K K':HS→Prop} {t:List V} {h:Hl} {d:Option Tmp} {s:List (Tmp×Option (Tmp×Bool)×AOp)}
theorem OQ.mono{g:FuncId}{args:List V}{Q Q':Out→Hl→Prop}(hq:∀ o h,Q o h→Q' o h)(hc:OQ P Γ g args h Q):OQ P Γ g args h Q':=fun R args' m' r H=>
 (hc R args' m' r H).mono fun o m'' ⟨S,o0,h',a,b,c,e⟩=>⟨S,o0,h',a,b,c,hq _ _ e⟩
end
end Go.Av
