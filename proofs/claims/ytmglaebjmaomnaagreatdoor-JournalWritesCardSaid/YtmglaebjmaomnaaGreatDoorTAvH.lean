/- An order for each region that draws one, found by a plain search. No condition. -/
import Derived.Test.YtmglaebjmaomnaaGreatDoorTAv17
set_option linter.unusedSimpArgs false
set_option linter.unusedVariables false
namespace Go.Av
def Xp(need:List (List Nat)):Nat→List Nat→List Nat
 |0,acc=>acc
 |n+1,acc=>let i:=acc.length; Xp need n (acc++[(need.getD i []).foldl (fun t j=>t ||| (2^j ||| (if j<i then acc.getD j 0 else 0))) 0])
def ze4(l:List (Nat×List (Nat×List Nat)×List Nat))(id:Nat):List (Nat×List Nat)×List Nat:=match l with
 |[]=>([],[])
 |(i,h)::r=>if i==id then h else ze4 r id
end Go.Av
