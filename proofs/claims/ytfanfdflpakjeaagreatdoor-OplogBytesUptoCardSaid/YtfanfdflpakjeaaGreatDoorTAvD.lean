/- A function that defers one call, which may recover: its contract, out of its body's walk and of the deferred one's. No condition. -/
import Derived.RecoverIn
import Derived.Test.YtfanfdflpakjeaaGreatDoorTAvZ
namespace Go.Av
open Go.RowKit
set_option linter.unusedSimpArgs false
set_option linter.unusedVariables false
/-! ### Codes in which a panic is told with the slots -/
inductive PCode where
 | code (c : zaM)
 | row (l : List Item)
 | seq (a b : PCode)
 | cond (c : Operand) (a b : PCode)
 | block (id : Nat) (c : PCode)
def compQ (P : Program) (H : Nat → List (Nat × List Nat) × List Nat) (c : Code) : Option PCode := match comp P H c with
 | some x => if x.flat then some (.code x) else none
 | none => none
def compP (P : Program) (H : Nat → List (Nat × List Nat) × List Nat) : Code → Option PCode
 | .region id ops draw => if draw then compQ P H (.region id ops draw) else if okOps ops then (itemsOf P ops (List.range ops.size)).map .row else none
 | .seq a b => match compP P H a, compP P H b with
  | some x, some y => some (.seq x y)
  | _, _ => none
 | .cond c a b => if zci c then match compP P H a, compP P H b with
   | some x, some y => some (.cond c x y)
   | _, _ => none
  else none
 | .block id c => (compP P H c).map (.block id)
 | c => compQ P H c
section
variable {P : Program} {Γ : Glob} {B0 : Nat} {mF : Store} {ds : List Deferred} {G G0 : Gh} {st : St} {a : Act} {w w0 : World}
/-! ### The deferred call -/
def ADCalls (P : Program) (Γ : Glob) (g : FuncId) (caps : List V) (m : Store) (p : Option V) (R : Store → Prop) : Prop :=
 enters P g = true ∧ ∀ (G : Gh) (B0 : Nat) (mF : Store) (w : World) (ccaps : List Value) (u : FrameMode), Disj m mF → Rep Γ B0 G (m.or mF) w → RelL G caps ccaps →
  (match p with
   | none => u = .returning
   | some v => ∃ uv, RelV G v uv ∧ u = .panicking [{ v := uv, recovered := false }]) →
  CallsDIn (Fr none) 0 P g ccaps.toArray u w fun e u' w' => ∃ uv G' m', e = .returned uv ∧ settle u' = .returning ∧ G.le G' ∧ Disj m' mF ∧ Rep Γ B0 G' (m'.or mF) w' ∧ Below B0 w w' ∧ R m'
structure RFn where
 ntmps : Nat
 dst : Option Tmp
 dst2 : Option Tmp
 x2 : Nat
 res : List ARes
 body : zaM
def recOf (ops : Array Oper) : Option (Option Tmp × Option Tmp × Nat) := match ops.toList with
 | [o, o2] => match o.op with
  | .call c => match c.callee with
   | .builtin .recover => if o.guard.isNone && o2.guard.isNone then match o2.op with
     | .assign (.tmp x) => some (o.dst, o2.dst, x)
     | .move (.tmp x) => some (o.dst, o2.dst, x)
     | _ => none
    else none
   | _ => none
  | _ => none
 | _ => none
def compR (P : Program) (H : Nat → List (Nat × List Nat) × List Nat) (g : FuncId) : Option RFn := match P.funcs[g]? with
 | some fn => if fn.name != "runtime.NumGoroutine" then match fn.body with
  | some (.seq (.region _ ops false) c) => match recOf ops, comp P H c, zbh P fn.results.toList with
   | some (d, d2, x), some ac, some rs => if ac.flat then some ⟨fn.ntmps, d, d2, x, rs, ac⟩ else none
   | _, _, _ => none
  | _ => none
  else none
 | none => none
def caught : Option V → V
 | none => .val .nilIface
 | some v => v
end
end Go.Av
