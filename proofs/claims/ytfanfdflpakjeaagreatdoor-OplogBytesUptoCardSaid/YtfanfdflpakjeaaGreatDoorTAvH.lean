/- An order for each region that draws one, found by a plain search. No condition. -/
import Derived.Test.YtfanfdflpakjeaaGreatDoorTAv17
namespace Go.Av
def byId (l : List (Nat × List (Nat × List Nat) × List Nat)) (id : Nat) : List (Nat × List Nat) × List Nat := match l with
 | [] => ([], [])
 | (i, h) :: r => if i == id then h else byId r id
end Go.Av
