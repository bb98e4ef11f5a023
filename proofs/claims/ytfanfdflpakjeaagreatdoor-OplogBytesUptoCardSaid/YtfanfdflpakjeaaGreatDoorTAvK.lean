/- A function that defers one call: its contract. No condition. -/
import Derived.Test.YtfanfdflpakjeaaGreatDoorTAvD
namespace Go.Av
open Go.RowKit
set_option linter.unusedSimpArgs false
set_option linter.unusedVariables false
inductive DCode where
 | seq (a : zaM) (b : DCode)
 | defer (l : List Item) (f : Operand) (dst : Option Tmp) (q : PCode)
structure DFn where
 ntmps : Nat
 res : List ARes
 body : DCode
def deferOf (ops : Array Oper) : Option (Operand × Option Tmp) := match ops[ops.size - 1]? with
 | some o => match o.op with
  | .defer c => match c.callee with
   | .value f => if o.guard.isNone && c.args.isEmpty && zci f && decide (0 < ops.size) then some (f, o.dst) else none
   | _ => none
  | _ => none
 | none => none
def deferRow : Code → Option (Array Oper × Operand × Option Tmp)
 | .region _ ops draw => if draw then none else match deferOf ops with
  | some (f, d) => if okOps ops then some (ops, f, d) else none
  | none => none
 | _ => none
def compD0 (P : Program) (H : Nat → List (Nat × List Nat) × List Nat) : Code → Option DCode
 | .seq a b => match deferRow a with
  | some (ops, f, d) => match itemsOf P ops (List.range (ops.size - 1)), compP P H b with
   | some l, some q => some (.defer l f d q)
   | _, _ => none
  | none => match comp P H a, compD0 P H b with
   | some x, some y => if x.flat then some (.seq x y) else none
   | _, _ => none
 | _ => none
def compD (P : Program) (H : Nat → List (Nat × List Nat) × List Nat) (f : FuncId) : Option DFn := match P.funcs[f]? with
 | some fn => match fn.body with
  | some c => if fn.name != "runtime.NumGoroutine" then match compD0 P H c, zbh P fn.results.toList with
    | some b, some r => some ⟨fn.ntmps, r, b⟩
    | _, _ => none
   else none
  | none => none
 | none => none
section
variable {P : Program} {Γ : Glob} {B0 : Nat} {mF : Store} {ds : List Deferred} {G G0 : Gh} {st : St} {a : Act} {w w0 : World}
end
end Go.Av
