/- Functions that defer a call that may recover, reckoned out; and that what they come to holds of the program. No condition. -/
import Derived.Test.YtmglaebjmaomnaaGreatDoorTAvK
set_option linter.unusedSimpArgs false
set_option linter.unusedVariables false
namespace Go.Av
open Go.RowKit
inductive IP where
 |no
 |ok (e:Ex) (t:TE) (h:Hp)
 |pan (v:V) (t:TE) (h:Hp)
def BQ.okI(Γ:jG):BQ→Bool
 | .code c=>c.okI Γ
 | .row l=>l.all (Item.okI Γ)
 | .seq a b=>a.okI Γ&&b.okI Γ
 | .cond c a b=>okG Γ c&&a.okI Γ&&b.okI Γ
 | .block _ c=>c.okI Γ
def Et.okI(Γ:jG):Et→Bool
 | .seq a b=>a.okI Γ&&b.okI Γ
 | .defer l f _ q=>l.all (Item.okI Γ)&&okG Γ f&&q.okI Γ
def Xg(R:Ren)(Q:Ex→St→Prop)(Kp:V→St→Prop):IP→Prop
 | .no=>False
 | .ok e t h=>∀ S t' m',R.le S→ER S t t'→HR S h.get m' → Q e ⟨t',m'⟩
 | .pan v t h=>∀ S v' t' m',R.le S→VR S v v'→ER S t t'→HR S h.get m' → Kp v' ⟨t',m'⟩
theorem Xg.mono{R S:Ren}(h:R.le S){Q:Ex→St→Prop}{Kp:V→St→Prop}{r:IP}(k:Xg R Q Kp r):Xg S Q Kp r:=by
 cases r with
 |no=>exact k
 |ok e t hp=>exact fun T t' m' a b c=>k T t' m' (Ren.le_trans h a) b c
 |pan v t hp=>exact fun T v' t' m' a b c d=>k T v' t' m' (Ren.le_trans h a) b c d
section
variable {P:Program} {Γ Γ0:jG} {call:FuncId→List V→Hp→Option (Out×Hp)} {R:Ren} {Q:Ex→St→Prop} {Kp:V→St→Prop}
end
end Go.Av
