/- An order for each region that draws one, found by a plain search. No condition. -/
import Derived.Test.YtfanfdflpakjeaaGreatDoorTAv17
namespace Go.Av

/-- How early an operation should come. -/
def rankOf (P : Program) (o : Oper) : Nat := match (compB P o).map kindOf with
  | some .eff => 1
  | some .alloc => 2
  | _ => 0

/-- The ready operation that should come first. -/
def pickNext (ranks : List Nat) (ready : List Nat) : Option Nat := match ready.filter (fun i => ranks.getD i 0 == 0) with
  | i :: _ => some i
  | [] => match ready.filter (fun i => ranks.getD i 0 == 1) with
    | i :: _ => some i
    | [] => ready.head?

def orderOf (ranks : List Nat) (need : List (List Nat)) : Nat → List Nat → List Nat → List Nat
  | 0, _, _ => []
  | n + 1, left, done => match pickNext ranks (left.filter fun i => (need.getD i []).all fun j => done.contains j) with
    | some i => i :: orderOf ranks need n (left.filter (· != i)) (i :: done)
    | none => []

def tabOf (need : List (List Nat)) : Nat → List Nat → List Nat
  | 0, acc => acc
  | n + 1, acc => let i := acc.length; tabOf need n (acc ++ [(need.getD i []).foldl (fun t j => t ||| (2 ^ j ||| (if j < i then acc.getD j 0 else 0))) 0])

def lookOf (kinds : List (Option Kd)) (tab : List Nat) : List Nat → List Nat → List (Nat × List Nat)
  | _, [] => []
  | before, i :: r => match kinds.getD i none with
    | some .eff => (i, before.filter fun l => !(tab.getD i 0).testBit l) :: lookOf kinds tab before r
    | some .load => (i, []) :: lookOf kinds tab (before ++ [i]) r
    | _ => (i, []) :: lookOf kinds tab before r

def hintOf (P : Program) (ops : Array Oper) : List (Nat × List Nat) × List Nat :=
  let need := (List.range ops.size).map (needs ops)
  let tab := tabOf need ops.size []
  let kinds := ops.toList.map fun o => (compB P o).map kindOf
  (lookOf kinds tab [] (orderOf (ops.toList.map (rankOf P)) need ops.size (List.range ops.size) []), tab)

/-- The hints of a code's regions. -/
def hintsOf (P : Program) : Code → List (Nat × List (Nat × List Nat) × List Nat)
  | .region id ops true => [(id, hintOf P ops)]
  | .seq a b => hintsOf P a ++ hintsOf P b
  | .cond _ a b => hintsOf P a ++ hintsOf P b
  | .block _ c => hintsOf P c
  | .loop c => hintsOf P c
  | .rangeFunc _ _ a c => hintsOf P a ++ hintsOf P c
  | .scope c => hintsOf P c
  | _ => []

def hintsFn (P : Program) (f : FuncId) : List (Nat × List (Nat × List Nat) × List Nat) := match (P.funcs[f]?).bind (·.body) with
  | some c => hintsOf P c
  | none => []

def byId (l : List (Nat × List (Nat × List Nat) × List Nat)) (id : Nat) : List (Nat × List Nat) × List Nat := match l with
  | [] => ([], [])
  | (i, h) :: r => if i == id then h else byId r id
end Go.Av
