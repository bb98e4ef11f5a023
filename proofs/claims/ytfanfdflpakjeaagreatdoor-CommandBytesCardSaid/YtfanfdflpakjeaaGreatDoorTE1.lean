/- errors.As at a reader that is stuck: true, and the target is that reader. Condition: what errors.errorType holds. -/
import Derived.KernelRfl
import Derived.LaidEql
import Derived.Lib.AppendIntMem
import Derived.Lib.UnsafeStr
import Derived.RowKitTokens
import Derived.Shelf.LaysC
import Derived.Shelf.LaysM
import Derived.Shelf.RegionOpenPlain
import Derived.Shelf.Small.Strs
import Derived.Shelf.Strconv.Clone
import Derived.Shelf.Strconv.Itoa3
import Derived.Shelf.Strconv.ParseIntPublic10
import Derived.Shelf.Strings.Builder1
import Derived.Shelf.Strings.Search1
import Derived.Shelf.Strings.Search2
import Derived.Stop.Asserts
import Derived.Test.YtfanfdflpakjeaaGreatDoorProg
import Derived.WalkKit
import Derived.Test.YtfanfdflpakjeaaGreatDoorTWm
namespace Go.Av.Fn
open Go.RowKit Go.Extern.Stop Go.Stop Go.Extern Go.Proofs
set_option linter.unusedSimpArgs false
set_option linter.unusedVariables false
theorem e_valueOfP (t : Addr) (w : World) : (ReflectliteValue.unpack (.iface 218 (.pointer (some t)))).run Tryz.prog w
    = .ok (.agg #[.pointer (some ⟨9, 218, none⟩), .pointer (some ⟨w.heap.size, 0, none⟩), .int .u64 150]) (w.alloc (.cells #[.pointer (some t)] 218)) := by kernel_rfl
theorem e_typeP (a : Addr) (w : World) : (ReflectliteValue.methodAny (ReflectliteValue.valueError "reflectlite.Value.Type" 0) (fun t _ _ _ => ReflectliteType.toType t) #[.agg #[.pointer (some ⟨9, 218, none⟩), .pointer (some a), .int .u64 150]]).run Tryz.prog w
    = .ok (.iface 289 (.agg #[.pointer (some ⟨9, 218, none⟩)])) w := by kernel_rfl
theorem e_methodKind (h : Value) (w : World) : (Go.method 500 289 (.agg #[h]) "Kind").run Tryz.prog w = .ok (283, h) w := by kernel_rfl
theorem e_kindP (w : World) : ((ReflectliteType.abiMethod fun t => (fun a : Nat => Value.int IntKind.u8 (a : Int)) <$> Rtype.kind t) #[.pointer (some ⟨9, 218, none⟩)]).run Tryz.prog w = .ok (.int .u8 22) w := by kernel_rfl
theorem e_kindT (w : World) : ((ReflectliteType.abiMethod fun t => (fun a : Nat => Value.int IntKind.u8 (a : Int)) <$> Rtype.kind t) #[.pointer (some ⟨9, 215, none⟩)]).run Tryz.prog w = .ok (.int .u8 22) w := by kernel_rfl
theorem e_rlm (z : Sem Value) (f : TypeId → Addr → Nat → Nat → Sem Value) (v : Value) :
    ReflectliteValue.method z f #[v] = (do match ← ReflectliteValue.parts v with | none => z | some (t, a, fl) => f t a fl (fl % 32)) := rfl
theorem e_partsP (a : Addr) (w : World) : (ReflectliteValue.parts (.agg #[.pointer (some ⟨9, 218, none⟩), .pointer (some a), .int .u64 150])).run Tryz.prog w = .ok (some (218, a, 150)) w := by kernel_rfl
theorem e_isNilP (a p : Addr) (W : World) (ha : W.cell? a = some (.pointer (some p))) :
    (ReflectliteValue.method (ReflectliteValue.valueError "reflectlite.Value.IsNil" 0) ReflectliteValue.isNil #[.agg #[.pointer (some ⟨9, 218, none⟩), .pointer (some a), .int .u64 150]]).run Tryz.prog W = .ok (.bool false) W := by
  rw [e_rlm]
  simp only [Sem.run_bind, e_partsP, Result.andThen]
  simp [ReflectliteValue.isNil, loadVar, isAgg, underlying, Tryz.underlying218, ha, Result.andThen]
theorem e_methodElem (h : Value) (w : World) : (Go.method 500 289 (.agg #[h]) "Elem").run Tryz.prog w = .ok (298, .agg #[h]) w := by kernel_rfl
theorem e_methodImplements (h : Value) (w : World) : (Go.method 500 289 (.agg #[h]) "Implements").run Tryz.prog w = .ok (299, .agg #[h]) w := by kernel_rfl
theorem e_methodAssignableTo (h : Value) (w : World) : (Go.method 500 289 (.agg #[h]) "AssignableTo").run Tryz.prog w = .ok (296, .agg #[h]) w := by kernel_rfl
theorem e_elemP (w : World) : (ReflectliteType.method ReflectliteType.elem #[.agg #[.pointer (some ⟨9, 218, none⟩)]]).run Tryz.prog w = .ok (.iface 289 (.agg #[.pointer (some ⟨9, 215, none⟩)])) w := by kernel_rfl
theorem e_implementsT (w : World) : (ReflectliteType.relation "Implements" ReflectliteType.implements_ #[.agg #[.pointer (some ⟨9, 215, none⟩)], .iface 289 (.agg #[.pointer (some ⟨9, 163, none⟩)])]).run Tryz.prog w = .ok (.bool true) w := by kernel_rfl
theorem e_typeOfT (v : Value) (w : World) : (ReflectliteType.typeOf #[.iface 215 v]).run Tryz.prog w = .ok (.iface 289 (.agg #[.pointer (some ⟨9, 215, none⟩)])) w := by kernel_rfl
theorem e_assignableT (w : World) : (ReflectliteType.relation "AssignableTo" ReflectliteType.assignableTo #[.agg #[.pointer (some ⟨9, 215, none⟩)], .iface 289 (.agg #[.pointer (some ⟨9, 215, none⟩)])]).run Tryz.prog w = .ok (.bool true) w := by kernel_rfl
theorem e_valueOfT (e : Addr) (w : World) : (ReflectliteValue.unpack (.iface 215 (.pointer (some e)))).run Tryz.prog w
    = .ok (.agg #[.pointer (some ⟨9, 215, none⟩), .pointer (some ⟨w.heap.size, 0, none⟩), .int .u64 150]) (w.alloc (.cells #[.pointer (some e)] 215)) := by kernel_rfl
theorem e_elemOfP (w : World) : (Rtype.elem? 218).run Tryz.prog w = .ok (some 215) w := by kernel_rfl
theorem e_mkT (p : Addr) (w : World) : (ReflectliteValue.mk 215 p ReflectliteValue.flagAddr).run Tryz.prog w = .ok (.agg #[.pointer (some ⟨9, 215, none⟩), .pointer (some p), .int .u64 406]) w := by kernel_rfl
theorem e_elemVP (a p : Addr) (W : World) (ha : W.cell? a = some (.pointer (some p))) :
    (ReflectliteValue.method (ReflectliteValue.valueError "reflectlite.Value.Elem" 0) ReflectliteValue.elem #[.agg #[.pointer (some ⟨9, 218, none⟩), .pointer (some a), .int .u64 150]]).run Tryz.prog W
      = .ok (.agg #[.pointer (some ⟨9, 215, none⟩), .pointer (some p), .int .u64 406]) W := by
  rw [e_rlm]
  simp only [Sem.run_bind, e_partsP, Result.andThen]
  simp [ReflectliteValue.elem, loadVar, isAgg, underlying, Tryz.underlying218, ha, Result.andThen, e_elemOfP, e_mkT]
theorem e_rls (v x : Value) : ReflectliteValue.set #[v, x] = (do
    let (some (dst, a, fl), some (src, b, _)) := (← ReflectliteValue.parts v, ← ReflectliteValue.parts x)
      | unsupported (.noEntry "extern/(internal/reflectlite.Value).Set.zeroValue")
    if fl / ReflectliteValue.flagAddr % 2 == 0 then unsupported (.noEntry "extern/(internal/reflectlite.Value).Set.unaddressable")
    let val ← loadVar src b
    if ← Rtype.directlyAssignable dst src then storeVar dst a val
    else if ← Rtype.implements dst src then
      if (← Rtype.kind src) == 20 then
        match val with
        | .nilIface => unsupported (.noEntry "extern/reflectlite: a nil value of one interface type handed on as a value of another")
        | _ => storeVar dst a val
      else storeVar dst a (.iface src val)
    else panicString ("reflectlite.Set: value of type " ++ (← Rtype.spelt src) ++ " is not assignable to type " ++ (← Rtype.spelt dst))
    pure (.tuple #[])) := rfl
theorem e_partsTa (a : Addr) (w : World) : (ReflectliteValue.parts (.agg #[.pointer (some ⟨9, 215, none⟩), .pointer (some a), .int .u64 406])).run Tryz.prog w = .ok (some (215, a, 406)) w := by kernel_rfl
theorem e_partsT (a : Addr) (w : World) : (ReflectliteValue.parts (.agg #[.pointer (some ⟨9, 215, none⟩), .pointer (some a), .int .u64 150])).run Tryz.prog w = .ok (some (215, a, 150)) w := by kernel_rfl
theorem e_directT (w : World) : (Rtype.directlyAssignable 215 215).run Tryz.prog w = .ok true w := by kernel_rfl
theorem e_setT (ta b e : Addr) (old : Value) (W : World) (hb : W.cell? b = some (.pointer (some e))) (ht : W.cell? ta = some old) (hf : W.frozen? ta = false) :
    (ReflectliteValue.set #[.agg #[.pointer (some ⟨9, 215, none⟩), .pointer (some ta), .int .u64 406], .agg #[.pointer (some ⟨9, 215, none⟩), .pointer (some b), .int .u64 150]]).run Tryz.prog W
      = .ok (.tuple #[]) (W.setCell ta (.pointer (some e))) := by
  rw [e_rls]
  simp only [Sem.run_bind, e_partsTa, e_partsT, Result.andThen]
  simp [ReflectliteValue.flagAddr, loadVar, isAgg, underlying, Tryz.underlying215, hb, Result.andThen, e_directT, storeVar, Value.cells, storeCells, Addr.add]
  rw [run_store Tryz.prog W ta _ _ (by rfl)]
  simp [ht, hf]
def asWorld (w : World) (e t : Addr) : World := ((((w.alloc (.cells #[.pointer (some t)] 218)).alloc (.cells #[.pointer (some ⟨9, 218, none⟩), .pointer (some ⟨w.heap.size, 0, none⟩), .int .u64 150] 251)).alloc (.cells #[.pointer (some ⟨9, 218, none⟩), .pointer (some ⟨w.heap.size, 0, none⟩), .int .u64 150] 251)).alloc (.cells #[.pointer (some e)] 215)).setCell t (.pointer (some e))
set_option maxHeartbeats 8000000 in
theorem as_hit (e t : Addr) (old : Value) (w : World) (hg : w.cell? ⟨6, 0, none⟩ = some (.iface 289 (.agg #[.pointer (some ⟨9, 163, none⟩)]))) (ht0 : w.cell? t = some old) (hf0 : w.frozen? t = false) :
    Calls Tryz.prog 171 #[.iface 215 (.pointer (some e)), .iface 218 (.pointer (some t))] w fun ev w' => ev = .returned (.bool true) ∧ w' = asWorld w e t := by
  have h6 := @run_callFunc_extern Tryz.prog 197 _ (fun args => ReflectliteValue.unpack (args.getD 0 (.tuple #[]))) Tryz.func197 (by kernel_rfl) (by kernel_rfl) (by kernel_rfl) (by kernel_rfl)
  have h7 := @run_callFunc_extern Tryz.prog 198 _ (ReflectliteValue.methodAny (ReflectliteValue.valueError "reflectlite.Value.Type" 0) (fun t _ _ _ => ReflectliteType.toType t)) Tryz.func198 (by kernel_rfl) (by kernel_rfl) (by kernel_rfl) (by kernel_rfl)
  have h8 := @run_callFunc_extern Tryz.prog 199 _ (ReflectliteValue.method (ReflectliteValue.valueError "reflectlite.Value.IsNil" 0) ReflectliteValue.isNil) Tryz.func199 (by kernel_rfl) (by kernel_rfl) (by kernel_rfl) (by kernel_rfl)
  have h27 := @run_callFunc_extern Tryz.prog 283 _ (ReflectliteType.abiMethod fun t => do pure (.int .u8 (← Rtype.kind t))) Tryz.func283 (by kernel_rfl) (by kernel_rfl) (by kernel_rfl) (by kernel_rfl)
  have h37 := @run_callFunc_extern Tryz.prog 298 _ (ReflectliteType.method ReflectliteType.elem) Tryz.func298 (by kernel_rfl) (by kernel_rfl) (by kernel_rfl) (by kernel_rfl)
  have h38 := @run_callFunc_extern Tryz.prog 299 _ (ReflectliteType.relation "Implements" ReflectliteType.implements_) Tryz.func299 (by kernel_rfl) (by kernel_rfl) (by kernel_rfl) (by kernel_rfl)
  have h10 := @run_callFunc_extern Tryz.prog 219 _ ReflectliteType.typeOf Tryz.func219 (by kernel_rfl) (by kernel_rfl) (by kernel_rfl) (by kernel_rfl)
  have h35 := @run_callFunc_extern Tryz.prog 296 _ (ReflectliteType.relation "AssignableTo" ReflectliteType.assignableTo) Tryz.func296 (by kernel_rfl) (by kernel_rfl) (by kernel_rfl) (by kernel_rfl)
  have h11 := @run_callFunc_extern Tryz.prog 220 _ (ReflectliteValue.method (ReflectliteValue.valueError "reflectlite.Value.Elem" 0) ReflectliteValue.elem) Tryz.func220 (by kernel_rfl) (by kernel_rfl) (by kernel_rfl) (by kernel_rfl)
  have h12 := @run_callFunc_extern Tryz.prog 221 _ ReflectliteValue.set Tryz.func221 (by kernel_rfl) (by kernel_rfl) (by kernel_rfl) (by kernel_rfl)
  have tO := e_typeOfT
  have mA := e_methodAssignableTo
  have a25 := e_assignableT
  have v25 := e_valueOfT
  have f6 := e_valueOfP
  have f7 := e_typeP
  have mK := e_methodKind
  have mE := e_methodElem
  have mI := e_methodImplements
  have k27 := e_kindP
  have k25 := e_kindT
  have e27 := e_elemP
  have i25 := e_implementsT
  have n8 := e_isNilP ⟨w.heap.size, 0, none⟩ t ((w.alloc (.cells #[.pointer (some t)] 218)).alloc (.cells #[.pointer (some ⟨9, 218, none⟩), .pointer (some ⟨w.heap.size, 0, none⟩), .int .u64 150] 251)) (by simp)
  have hlt : 6 < w.heap.size := by
    rcases Nat.lt_or_ge 6 w.heap.size with h | h
    · exact h
    · simp [World.cell?, Array.getElem?_eq_none h] at hg
  have hg2 : ((w.alloc (.cells #[.pointer (some t)] 218)).alloc (.cells #[.pointer (some ⟨9, 218, none⟩), .pointer (some ⟨w.heap.size, 0, none⟩), .int .u64 150] 251)).cell? ⟨6, 0, none⟩ = some (.iface 289 (.agg #[.pointer (some ⟨9, 163, none⟩)])) := by
    rw [World.cell?_alloc_lt _ _ ⟨6, 0, none⟩ (by simp; omega), World.cell?_alloc_lt _ _ ⟨6, 0, none⟩ hlt]; exact hg
  have htl : t.block < w.heap.size := by
    rcases Nat.lt_or_ge t.block w.heap.size with h | h
    · exact h
    · simp [World.cell?, Array.getElem?_eq_none h] at ht0
  have el := e_elemVP ⟨w.heap.size, 0, none⟩ t (((w.alloc (.cells #[.pointer (some t)] 218)).alloc (.cells #[.pointer (some ⟨9, 218, none⟩), .pointer (some ⟨w.heap.size, 0, none⟩), .int .u64 150] 251)).alloc (.cells #[.pointer (some ⟨9, 218, none⟩), .pointer (some ⟨w.heap.size, 0, none⟩), .int .u64 150] 251)) (by rw [World.cell?_alloc_lt _ _ ⟨w.heap.size, 0, none⟩ (by simp; omega)]; simp)
  have st := e_setT t ⟨w.heap.size + 1 + 1 + 1, 0, none⟩ e old ((((w.alloc (.cells #[.pointer (some t)] 218)).alloc (.cells #[.pointer (some ⟨9, 218, none⟩), .pointer (some ⟨w.heap.size, 0, none⟩), .int .u64 150] 251)).alloc (.cells #[.pointer (some ⟨9, 218, none⟩), .pointer (some ⟨w.heap.size, 0, none⟩), .int .u64 150] 251)).alloc (.cells #[.pointer (some e)] 215))
    (by rw [World.cell?_alloc_at _ _ _ _ (by simp)]; rfl)
    (by rw [World.cell?_alloc_lt _ _ t (by simp; omega), World.cell?_alloc_lt _ _ t (by simp; omega), World.cell?_alloc_lt _ _ t (by simp; omega), World.cell?_alloc_lt _ _ t htl]; exact ht0)
    (by rw [World.frozen?_alloc_old _ _ t (by simp; omega), World.frozen?_alloc_old _ _ t (by simp; omega), World.frozen?_alloc_old _ _ t (by simp; omega), World.frozen?_alloc_old _ _ t (Nat.ne_of_lt htl)]; exact hf0)
  unfold asWorld
  go_enter Tryz.func171, Tryz.ntmps171
  go_wp2
  refine wp_loop_rounds 1 ?_
  rw [rounds_succ]
  go_wp2
  go_ret
  exact ⟨rfl, rfl⟩
end Go.Av.Fn
/- errors.As at a reader that is stuck, over abstract values. Condition: what errors.errorType holds. -/
namespace Go.Av.Fn
open Go.RowKit Go.Proofs
set_option linter.unusedSimpArgs false
set_option linter.unusedVariables false
theorem as_ok {Γ : Glob} (hΓ : Γ 6 = some [.ifc 289 (.agg [.ptr 9 163])]) {m : Store} {e eo t : Nat} {c : V} (ht : m t = some (.var 215 [c])) :
    ACalls Tryz.prog Γ 171 [.ifc 215 (.ptr e eo), .ifc 218 (.ptr t 0)] m fun o m' => o = .ret (.val (.bool true)) ∧ m' = m.set t (.var 215 [.ptr e eo]) := by
  refine ⟨by kernel_rfl, fun G B0 mF w cargs hD hR hL => ?_⟩
  obtain ⟨u1, us1, rfl, r1, hL⟩ := hL.cons_inv
  obtain ⟨u2, us2, rfl, r2, hL⟩ := hL.cons_inv
  obtain rfl := hL.nil_inv
  have hu1 : u1 = .iface 215 (.pointer (some ⟨e, eo, none⟩)) := by
    cases r1 with
    | ifc r1 => cases r1; rfl
  have hu2 : u2 = .iface 218 (.pointer (some ⟨t, 0, none⟩)) := by
    cases r2 with
    | ifc r2 => cases r2; rfl
  subst hu1
  subst hu2
  have hM : (m.or mF) t = some (.var 215 [c]) := or_left ht
  obtain ⟨hB, ⟨us, h2, h3⟩, h4⟩ := hR.var t _ _ hM
  obtain ⟨old, us', rfl, r3, r4⟩ := h3.cons_inv
  obtain rfl := r4.nil_inv
  obtain ⟨gs, g1, g2⟩ := hR.glob _ _ hΓ
  obtain ⟨gv, gs', rfl, g3, g4⟩ := g1.cons_inv
  have hgv : gv = .iface 289 (.agg #[.pointer (some ⟨9, 163, none⟩)]) := by
    cases g3 with
    | ifc g3 =>
      cases g3 with
      | agg g5 =>
        obtain ⟨gp, gs'', rfl, g6, g7⟩ := g5.cons_inv
        obtain rfl := g7.nil_inv
        cases g6
        rfl
  subst hgv
  have hg := hR.K _ _ _ (g2.2 0 _ rfl)
  have ht0 : w.cell? ⟨t, 0, none⟩ = some old := by simp [World.cell?, h2]
  have hf0 : w.frozen? ⟨t, 0, none⟩ = false := by simp [World.frozen?, h2]
  refine (as_hit ⟨e, eo, none⟩ ⟨t, 0, none⟩ old w hg ht0 hf0).mono ?_
  rintro ev w' ⟨rfl, rfl⟩
  refine ⟨G, m.set t (.var 215 [.ptr e eo]), .ret (.val (.bool true)), Gh.le.refl G, hD.set _ (hD.of_some ht), ?_, ?_, .ret (.val rfl), rfl, rfl⟩
  · rw [or_set]
    exact ((((hR.alloc _).alloc _).alloc _).alloc _).store hM (o := 0) (.ptr e eo)
  · refine Below.setCell (((((Below.refl B0 w).alloc hR.base _).alloc ?_ _).alloc ?_ _).alloc ?_ _) hB _
    all_goals (simp only [World.size_alloc]; have := hR.base; omega)
end Go.Av.Fn
/- A text read by the parser, and what it says when it can't go on. Condition: what errors.errorType holds. -/
namespace Go.Av
section
variable {P : Program} {Γ : Glob} {l : List Item} {t : List V} {m : Store} {d : Option Tmp}
theorem runP_cons {Kp : V → St → Prop} {K : St → Prop} {g : Option (Tmp × Bool)} {ao : AOp} : runP P Γ Kp (⟨d, g, ao, []⟩ :: l) K ⟨t, m⟩ = runO P Γ (fun v m' => Kp v ⟨t, m'⟩) [⟨d, g, ao, []⟩] (runP P Γ Kp l K) (some ⟨t, m⟩) := by
  apply propext
  simp only [runP, stepP, runO, runA, stepA, stepA0, List.not_mem_nil, false_implies, implies_true, true_and]
theorem runP_nil {Kp : V → St → Prop} {K : St → Prop} {st : St} : runP P Γ Kp [] K st = K st := rfl
theorem awpP_row {Kp : V → St → Prop} {Q : Ex → St → Prop} {st : St} : awpP P Γ Kp (.row l) Q st = runP P Γ Kp l (Q .normal) st := rfl
theorem awpP_seq {Kp : V → St → Prop} {Q : Ex → St → Prop} {a b : PCode} {st : St} : awpP P Γ Kp (.seq a b) Q st = awpP P Γ Kp a (thenA (awpP P Γ Kp b Q) Q) st := rfl
theorem awpP_code {Kp : V → St → Prop} {Q : Ex → St → Prop} {c : ACode} {st : St} : awpP P Γ Kp (.code c) Q st = awp P Γ (fun _ _ => False) c Q st := rfl
def condP (v : V) (A B : Prop) : Prop := match v with
  | .val (.bool t) => (t = true → A) ∧ (t = false → B)
  | _ => False
theorem awpP_cond {Kp : V → St → Prop} {Q : Ex → St → Prop} {c : Operand} {a b : PCode} : awpP P Γ Kp (.cond c a b) Q ⟨t, m⟩ = condP (ev Γ t c) (awpP P Γ Kp a Q ⟨t, m⟩) (awpP P Γ Kp b Q ⟨t, m⟩) := (rfl)
theorem condP_true {A B : Prop} : condP (.val (.bool true)) A B = A := by simp [condP]
theorem condP_false {A B : Prop} : condP (.val (.bool false)) A B = B := by simp [condP]
theorem runA_O {Kp : V → Store → Prop} {K : St → Prop} {st : St} : runA P Γ Kp l K st = runO P Γ Kp l K (some st) := rfl
theorem put_none {st : St} {v : V} : st.put none v = st := rfl
theorem q_asrt {T : TypeId} {x : Operand} : quietB (.asrt T x) = true := (rfl)
theorem eval_asrt {T : TypeId} {x : Operand} : evalL P (ev Γ t) m (.asrt T x) = asrtV P T (ev Γ t x) := rfl
end
end Go.Av
namespace Go.Av.Fn
set_option linter.unusedSimpArgs false
set_option linter.unusedVariables false
set_option maxRecDepth 10000
open Go.Proofs
def readT (l : List Tk) : Option Ex × Int × Int := match run (10 * l.length + 9) (.ex 0) l with
  | some (.ok [e] (t :: _)) => if t.k = 0 then (some e, 0, 0) else (none, t.a, 6)
  | some (.st (t :: _)) => (none, t.a, 6)
  | _ => (none, 0, 0)
def readS (s : List UInt8) : Option Ex × Int × Int := match scanR s with
  | .error (a, e) => (none, a, e)
  | .ok l => readT l
def triV (r : Option Ex × Int × Int) : V := .tup [exO r.1, it r.2.1, it r.2.2]
theorem nil_is : binV Tryz.prog .eql 20 .iface (.tmp 9) (.const .nilIface) (.val .nilIface) (.val .nilIface) = some (.val (.bool true)) := by kernel_rfl
theorem asrt_st {b : Nat} : asrtV Tryz.prog 163 (.ifc 215 (.ptr b 0)) = some (.tup [.ifc 215 (.ptr b 0), .val (.bool true)]) := by kernel_rfl
section
variable {Γ : Glob} {m : Store} {xb ab eb : Nat}
theorem read1_none : ADCalls Tryz.prog Γ 170 [.ptr xb 0, .ptr ab 0, .ptr eb 0] m none (fun m' => m' = m) := by
  refine adcalls_of_awp mixed R170_ok ?_
  have hs : startR R170 [.ptr xb 0, .ptr ab 0, .ptr eb 0] m none = ⟨[.ptr xb 0, .ptr ab 0, .ptr eb 0, .val .nilIface, un, un, un, un, .val .nilIface, un, un, un, un, un, un, un, un, un, un, un, un, un, un, un, un, un, un, un], m⟩ := rfl
  rw [hs]
  simp only [R170]
  simp only [nil_is, ssS, bin_or, bin_and, Nat.reduceAdd, Nat.reduceLeDiff, reduceIte, eq_self, Nat.reduceEqDiff]
  exact ⟨⟨_, rfl⟩, rfl⟩
theorem read1_some (hΓ : Γ 6 = some [.ifc 289 (.agg [.ptr 9 163])]) {b : Nat} {a : Int} {c1 : List V} {c2 c3 : V} (hb : m b = some (.var 220 [it a])) (hx : m xb = some (.var 170 c1)) (h1 : c1.length = 5) (ha : m ab = some (.var 3 [c2])) (he : m eb = some (.var 25 [c3])) (hxa : xb ≠ ab) (hxe : xb ≠ eb) (hae : ab ≠ eb) :
    ADCalls Tryz.prog Γ 170 [.ptr xb 0, .ptr ab 0, .ptr eb 0] m (some (stV b)) (fun m' => m' xb = some (.var 170 zE) ∧ m' ab = some (.var 3 [it a]) ∧ m' eb = some (.var 25 [it 6]) ∧ ∀ c x, c ≠ xb → c ≠ ab → c ≠ eb → m c = some x → m' c = some x) := by
  refine adcalls_of_awp mixed R170_ok ?_
  have hs : startR R170 [.ptr xb 0, .ptr ab 0, .ptr eb 0] m (some (stV b)) = ⟨[.ptr xb 0, .ptr ab 0, .ptr eb 0, stV b, un, un, un, un, stV b, un, un, un, un, un, un, un, un, un, un, un, un, un, un, un, un, un, un, un], m⟩ := rfl
  rw [hs]
  have hst : stV b = .ifc 215 (.ptr b 0) := rfl
  have hni : binV Tryz.prog .eql 20 .iface (.tmp 9) (.const .nilIface) (stV b) (.val .nilIface) = some (.val (.bool false)) := rfl
  simp only [R170]
  simp only [hni, ssS, bin_or, bin_and, Nat.reduceAdd, Nat.reduceLeDiff, reduceIte, eq_self, Nat.reduceEqDiff]
  refine allocS_of fun b4 hb4 => ?_
  have n4 : ∀ {c x}, m c = some x → c ≠ b4 := fun h => ne_of_some h hb4
  simp only [q_asrt, eval_asrt, asrt_st, hst, ssS, bin_or, bin_and, Nat.reduceAdd, Nat.reduceLeDiff, reduceIte, eq_self, Nat.reduceEqDiff]
  refine callS_to (as_ok hΓ (c := .val (.pointer none)) (Store.set_same _ _ _)) ?_
  simp only [Store.set_set, ssS, bin_or, bin_and, Nat.reduceAdd, Nat.reduceLeDiff, reduceIte, eq_self, Nat.reduceEqDiff]
  refine allocS_of fun b7 hb7 => ?_
  have h47 : b4 ≠ b7 := ne_of_some (Store.set_same _ _ _) hb7
  have n7 : ∀ {c x}, m c = some x → c ≠ b7 := fun {c x} h => ne_of_some (x := x) (by rw [Store.set_ne _ _ (n4 h)]; exact h) hb7
  obtain ⟨p1, p2, p3, p4, p5, rfl⟩ : ∃ p1 p2 p3 p4 p5, c1 = [p1, p2, p3, p4, p5] := by
    match c1, h1 with
    | [p1, p2, p3, p4, p5], _ => exact ⟨_, _, _, _, _, rfl⟩
  simp only [Store.set_same, Store.set_ne _ _ h47, Store.set_ne _ _ (n7 hb), Store.set_ne _ _ (n4 hb), hb, Store.set_ne _ _ (n7 hx), Store.set_ne _ _ (n4 hx), hx, ssS, bin_or, bin_and, Nat.reduceAdd, Nat.reduceLeDiff, reduceIte, eq_self, Nat.reduceEqDiff]
  simp only [Store.set_ne _ _ hxa.symm, Store.set_ne _ _ (n7 ha), Store.set_ne _ _ (n4 ha), ha, ssS, bin_or, bin_and, Nat.reduceAdd, Nat.reduceLeDiff, reduceIte, eq_self, Nat.reduceEqDiff]
  simp only [Store.set_ne _ _ hae.symm, Store.set_ne _ _ hxe.symm, Store.set_ne _ _ (n7 he), Store.set_ne _ _ (n4 he), he, ssS, bin_or, bin_and, Nat.reduceAdd, Nat.reduceLeDiff, reduceIte, eq_self, Nat.reduceEqDiff]
  refine ⟨⟨_, rfl⟩, ?_, ?_, Store.set_same _ _ _, ?_⟩
  · show (Store.set _ _ _) _ = _
    rw [Store.set_ne _ _ hxe, Store.set_ne _ _ hxa, Store.set_same]
  · show (Store.set _ _ _) _ = _
    rw [Store.set_ne _ _ hae, Store.set_same]
  · intro c x h1 h2 h3 hc
    show (Store.set _ _ _) _ = _
    rw [Store.set_ne _ _ h3, Store.set_ne _ _ h2, Store.set_ne _ _ h1, Store.set_ne _ _ (n7 hc), Store.set_ne _ _ (n4 hc)]
    exact hc
end
end Go.Av.Fn
/- A text's expression: what the program's Expr tells. Conditions: the library's functions (LibOk, ParseOk), and what four variables hold. -/
namespace Go.Av
theorem ADCalls.mono {P : Program} {Γ : Glob} {g : FuncId} {caps : List V} {m : Store} {p : Option V} {R R' : Store → Prop} (h : ADCalls P Γ g caps m p R) (hr : ∀ m', R m' → R' m') : ADCalls P Γ g caps m p R' := by
  refine ⟨h.1, fun G B0 mF w ccaps u a b c d => ?_⟩
  have := h.2 G B0 mF w ccaps u a b c d
  refine this.mono ?_
  rintro e u' w' ⟨uv, G', m', h1, h2, h3, h4, h5, h6, h7⟩
  exact ⟨uv, G', m', h1, h2, h3, h4, h5, h6, hr _ h7⟩
theorem resV_cells3 {t : List V} {m : Store} {i j k a b c : Nat} {T1 T2 T3 : TypeId} {cs : List V} {u x y : V} (h1 : tget t i = .ptr a 0) (h2 : m a = some (.var T1 cs)) (h3 : partV cs 0 (some 5) = some u) (h4 : tget t j = .ptr b 0) (h5 : m b = some (.var T2 [x])) (h6 : tget t k = .ptr c 0) (h7 : m c = some (.var T3 [y])) :
    resV [.cell i (some 5), .cell j none, .cell k none] ⟨t, m⟩ = some (.tup [u, x, y]) := by
  have e : ∀ z : V, partV [z] 0 none = some z := fun _ => rfl
  simp only [resV, resAll, resOne, tget_eq, h1, h2, h3, h4, h5, h6, h7, e, Option.map_some]
end Go.Av
namespace Go.Av.Fn
set_option linter.unusedSimpArgs false
set_option linter.unusedVariables false
set_option maxRecDepth 10000
open Go.Proofs
structure Env (Γ : Glob) : Prop where
  lib : LibOk Γ
  parse : ParseOk Γ
  words : Γ 3 = some (wordsB.map bs)
  signs : Γ 2 = some (signsB.map bs)
  errT : Γ 6 = some [.ifc 289 (.agg [.ptr 9 163])]
theorem tokL_ne {r : List UInt8} {e : Int} (h : tokL r = .error e) : e ≠ 0 := by
  unfold tokL at h
  split at h
  · cases h; decide
  · split at h
    · split at h
      · cases h
      · split at h
        · cases h; decide
        · cases h
    · split at h
      · split at h
        · cases h; decide
        · cases h
      · split at h
        · split at h
          · rename_i hq
            cases h
            exact qL_err hq
          · cases h
        · split at h
          · cases h
          · cases h; decide
theorem scanL_ne {r : List UInt8} {a l : Nat} {acc : List Tk} {x : Nat × Int} (h : scanL r a l acc = .error x) : x.2 ≠ 0 := by
  fun_induction scanL r a l acc with
  | case1 r a l acc x r' e h1 h2 => cases h
  | case2 r a l acc x r' e h1 h2 => cases h; exact tokL_ne h1
  | case3 r a l acc x r' t n h1 ih => exact ih h
theorem scanR_ne {s : List UInt8} {a : Nat} {e : Int} (h : scanR s = .error (a, e)) : e ≠ 0 := by
  unfold scanR at h
  split at h
  · cases h; decide
  · exact scanL_ne h
def scanV : Except (Nat × Int) (List Tk) → V
  | .ok l => .tup [.sl (l.map tkV) [] .no, it 0, it 0]
  | .error (a, e) => .tup [.sl [] [] .no, it a, it e]
theorem weak_tk (t : Tk) : weak (tkV t) = tkV t := rfl
section
variable {Γ : Glob} {m : Store}
theorem scan_weak (E : Env Γ) (s : List UInt8) : ACalls Tryz.prog Γ 169 [bs s] m fun o m' => o = .ret (scanV (scanR s)) ∧ m' = m := by
  refine ACalls.weak (scan_ok E.lib E.parse E.words E.signs s) ?_ ?_
  · rintro v m' ⟨h, rfl⟩
    refine ⟨?_, rfl⟩
    unfold ScanOut at h
    split at h
    · rename_i l hl
      obtain ⟨tok, h⟩ := h
      cases h
      rw [hl]
      simp only [scanV, weak, weaks, weaks_map weak_tk]
    · rename_i a e hl
      cases h
      rw [hl]
      simp only [scanV, weak, weaks]
  · rintro v m' ⟨h, _⟩
    exfalso
    unfold ScanOut at h
    split at h
    · obtain ⟨_, h⟩ := h
      cases h
    · cases h
theorem Expr1_ok {rb n : Nat} {l : List Tk} {p : PR} (hn0 : n ≤ 1099511627776) (hr : m rb = some (rdr l)) (hs : Sgl p) (hp : run n (.ex 0) l = some p) : ACalls Tryz.prog Γ 145 [.ptr rb 0] m (PE m rb hdV p) := by
  refine pe_of_pl (acalls_of_awp mixed F145_ok pl_room ?_)
  simp only [F145, start, List.cons_append, List.nil_append, List.length_cons, List.length_nil, List.replicate, Nat.reduceSub, Nat.reduceAdd]
  simp only [ssS, bin_or, bin_and, Nat.reduceAdd, Nat.reduceLeDiff, reduceIte, eq_self, Nat.reduceEqDiff]
  refine allocS_of fun b hb => ?_
  have hn := ne_of_some hr hb
  have hE := (Ext.refl m rb).alloc hb (.var 170 zE)
  simp only [ssS, bin_or, bin_and, Nat.reduceAdd, Nat.reduceLeDiff, reduceIte, eq_self, Nat.reduceEqDiff]
  refine callS_pe ((parser_ok n hn0).1 0 l p _ rb (by omega) (by rw [Store.set_ne _ _ hn]; exact hr) hs hp) (fun es l1 e => ?_) (fun l1 b2 e hb2 => ?_)
  · subst e
    obtain ⟨e, rfl⟩ := hs
    obtain ⟨k, s, n, kids, ln⟩ := e
    simp only [hdV, exV, Store.set_ne _ _ hn.symm, Store.set_same, ssS, bin_or, bin_and, Nat.reduceAdd, Nat.reduceLeDiff, reduceIte, eq_self, Nat.reduceEqDiff]
    refine body_ex (b := b) rfl (Store.set_same _ _ _) (weaks_exVs _) ?_
    exact ((hE.rd _).loc hb _).ret (by rw [Store.set_ne _ _ hn, Store.set_same])
  · subst e
    exact pl_pan hE (by rw [Store.set_ne _ _ hn]; exact hr) hb2
theorem read_ok (E : Env Γ) (s : List UInt8) : ACalls Tryz.prog Γ 144 [bs s, .fn (.func 145) [] []] m fun o m' => o = .ret (triV (readS s)) ∧ m' = m := by
  refine ACalls.weak (R := fun o m' => ∃ v, o = .ret v ∧ weak v = triV (readS s) ∧ m' = m) (ACalls.less (A := fun o m' => ∃ v, o = .ret v ∧ weak v = triV (readS s) ∧ SubS m m') ?_ (fun o m' ⟨v, h1, h2, h3⟩ => ⟨m, h3, v, h1, h2, rfl⟩)) ?_ ?_
  rotate_left
  · rintro v m' ⟨_, ⟨⟩, h, rfl⟩
    exact ⟨by rw [h], rfl⟩
  · rintro v m' ⟨_, ⟨⟩, _⟩
  refine acalls_of_defer mixed D144_ok (by rintro v m b x _ ⟨_, ⟨⟩, _⟩) ?_
  simp only [D144, awpD, start, List.cons_append, List.nil_append, List.length_cons, List.length_nil, List.replicate, Nat.reduceSub, Nat.reduceAdd]
  simp only [ssS, bin_or, bin_and, Nat.reduceAdd, Nat.reduceLeDiff, reduceIte, eq_self, Nat.reduceEqDiff]
  refine allocS_of fun xb hxb => ?_
  simp only [ssS, bin_or, bin_and, Nat.reduceAdd, Nat.reduceLeDiff, reduceIte, eq_self, Nat.reduceEqDiff]
  refine allocS_of fun ab hab => ?_
  have n1 : xb ≠ ab := ne_of_some (Store.set_same _ _ _) hab
  simp only [ssS, bin_or, bin_and, Nat.reduceAdd, Nat.reduceLeDiff, reduceIte, eq_self, Nat.reduceEqDiff]
  refine allocS_of fun eb heb => ?_
  have n2 : ab ≠ eb := ne_of_some (Store.set_same _ _ _) heb
  have n3 : xb ≠ eb := ne_of_some (x := .var 170 zE) (by rw [Store.set_ne _ _ n1, Store.set_same]) heb
  simp only [ssS, bin_or, bin_and, Nat.reduceAdd, Nat.reduceLeDiff, reduceIte, eq_self, Nat.reduceEqDiff]
  refine callS_pure (scan_weak E s) ?_
  -- the store
  have key : ∀ S : Store, SubS m S → S xb = some (.var 170 zE) → S ab = some (.var 3 [it 0]) → S eb = some (.var 25 [it 0]) → m xb = none ∧ m ab = none ∧ m eb = none := by
    intro S h1 h2 h3 h4
    refine ⟨hxb, ?_, ?_⟩
    · rw [Store.set_ne _ _ n1.symm] at hab; exact hab
    · rw [Store.set_ne _ _ n2.symm, Store.set_ne _ _ n3.symm] at heb; exact heb
  have hS0 : SubS m (((m.set xb (.var 170 zE)).set ab (.var 3 [it 0])).set eb (.var 25 [it 0])) := (((SubS.refl m).out hxb _).out (by rw [Store.set_ne _ _ n1.symm] at hab; exact hab) _).out (by rw [Store.set_ne _ _ n2.symm, Store.set_ne _ _ n3.symm] at heb; exact heb) _
  have hx0 : (((m.set xb (.var 170 zE)).set ab (.var 3 [it 0])).set eb (.var 25 [it 0])) xb = some (.var 170 zE) := by rw [Store.set_ne _ _ n3, Store.set_ne _ _ n1, Store.set_same]
  have ha0 : (((m.set xb (.var 170 zE)).set ab (.var 3 [it 0])).set eb (.var 25 [it 0])) ab = some (.var 3 [it 0]) := by rw [Store.set_ne _ _ n2, Store.set_same]
  have he0 : (((m.set xb (.var 170 zE)).set ab (.var 3 [it 0])).set eb (.var 25 [it 0])) eb = some (.var 25 [it 0]) := Store.set_same _ _ _
  generalize (((m.set xb (.var 170 zE)).set ab (.var 3 [it 0])).set eb (.var 25 [it 0])) = S at hS0 hx0 ha0 he0
  obtain ⟨mx, ma, me⟩ := key S hS0 hx0 ha0 he0
  clear key hab heb hxb
  cases hsc : scanR s with
  | error x =>
    obtain ⟨a, e⟩ := x
    have hne : ((e : Int) != 0) = true := by simpa using scanR_ne hsc
    simp only [scanV, ha0, he0, hx0, hne, Store.set_same, Store.set_set, Store.set_ne _ _ n1, Store.set_ne _ _ n2, Store.set_ne _ _ n3, Store.set_ne _ _ n1.symm, Store.set_ne _ _ n2.symm, Store.set_ne _ _ n3.symm, ssS, bin_or, bin_and, Nat.reduceAdd, Nat.reduceLeDiff, reduceIte, eq_self, Nat.reduceEqDiff]
    refine bodyA_ret (resV_cells3 (T1 := 170) (T2 := 3) (cs := zE) (u := .agg zE) (x := it a) (y := it e) (a := xb) (b := ab) (c := eb) rfl ?_ rfl rfl ?_ rfl (Store.set_same _ _ _)) ⟨_, rfl, ?_, ?_⟩
    · show (Store.set _ _ _) _ = _
      rw [Store.set_ne _ _ n3, Store.set_ne _ _ n1, Store.set_same]
    · show (Store.set _ _ _) _ = _
      rw [Store.set_ne _ _ n2, Store.set_same]
    · simp only [readS, hsc, triV, exO, exV, exVs, weak, weaks]
      rfl
    · exact ((((hS0.out ma _).out me _).out mx _).out ma _).out me _
  | ok l =>
    have hg := scanR_good hsc
    obtain ⟨p, hp, hsg, hfit⟩ := run_expr hg
    have hl := scanR_len hsc
    have hrd : readS s = readT l := by unfold readS; rw [hsc]
    simp only [scanV, ha0, he0, hx0, Store.set_same, Store.set_set, Store.set_ne _ _ n1, Store.set_ne _ _ n2, Store.set_ne _ _ n3, Store.set_ne _ _ n1.symm, Store.set_ne _ _ n2.symm, Store.set_ne _ _ n3.symm, show ((0 : Int) != 0) = false from rfl, runA_O, put_none, awpP_row, awpP_seq, runP_cons, runP_nil, ssS, bin_or, bin_and, Nat.reduceAdd, Nat.reduceLeDiff, reduceIte, eq_self, Nat.reduceEqDiff]
    have e1 : S.set ab (.var 3 [V.val (Value.int IntKind.i64 0)]) = S := Store.set_eq S ha0
    have e2 : S.set eb (.var 25 [V.val (Value.int IntKind.i64 0)]) = S := Store.set_eq S he0
    rw [e1, e2]
    refine allocS_of fun rb hrb => ?_
    have hrr : (S.set rb (rdr l)) rb = some (rdr l) := Store.set_same _ _ _
    have mr := hS0.none hrb
    have nx := ne_of_some hx0 hrb
    have na := ne_of_some ha0 hrb
    have ne := ne_of_some he0 hrb
    have hst : ∀ (S1 : Store) (t : List V) (l0 l1 : List Tk) (b : Nat), (S.set rb (rdr l0)) b = none → Good l1 → readT l = (none, atOf l1, 6) → tget t 4 = .ptr xb 0 → tget t 5 = .ptr ab 0 → tget t 6 = .ptr eb 0 →
        (∃ c1 c2 c3, S1 = (((S.set xb (.var 170 c1)).set ab (.var 3 [c2])).set eb (.var 25 [c3])).set rb (rdr l1) ∧ c1.length = 5) →
        ADCalls Tryz.prog Γ 170 [.ptr xb 0, .ptr ab 0, .ptr eb 0] (S1.set b (stk l1)) (some (stV b)) (endD [ARes.cell 4 (some 5), ARes.cell 5 none, ARes.cell 6 none] (fun o m' => ∃ v, o = .ret v ∧ weak v = triV (readS s) ∧ SubS m m') t) := by
      rintro S1 t l0 l1 b hb hg1 hrt g1 g2 g3 ⟨c1, c2, c3, rfl, hc1⟩
      have hb' : S b = none := by
        rw [Store.set_ne _ _ (fun e => ne_of_some (Store.set_same S rb (rdr l0)) hb e.symm)] at hb
        exact hb
      have bx := ne_of_some hx0 hb'
      have ba := ne_of_some ha0 hb'
      have be := ne_of_some he0 hb'
      have br : rb ≠ b := ne_of_some (Store.set_same S rb (rdr l0)) hb
      refine (read1_some E.errT (b := b) (a := atOf l1) (c1 := c1) (c2 := c2) (c3 := c3) (Store.set_same _ _ _) ?_ hc1 ?_ ?_ n1 n3 n2).mono ?_
      · rw [Store.set_ne _ _ bx, Store.set_ne _ _ nx, Store.set_ne _ _ n3, Store.set_ne _ _ n1, Store.set_same]
      · rw [Store.set_ne _ _ ba, Store.set_ne _ _ na, Store.set_ne _ _ n2, Store.set_same]
      · rw [Store.set_ne _ _ be, Store.set_ne _ _ ne, Store.set_same]
      · rintro m' ⟨q1, q2, q3, q4⟩
        refine ⟨_, resV_cells3 (a := xb) (b := ab) (c := eb) (u := .agg zE) g1 q1 rfl g2 q2 g3 q3, m', fun _ _ h => h, _, rfl, ?_, fun c x hc => ?_⟩
        · simp only [hrd, hrt, triV, exO, exV, exVs, weak, weaks]
          rfl
        · have k1 : c ≠ xb := fun e => ne_of_some hc mx e
          have k2 : c ≠ ab := fun e => ne_of_some hc ma e
          have k3 : c ≠ eb := fun e => ne_of_some hc me e
          have k4 : c ≠ rb := fun e => ne_of_some hc mr e
          have k5 : c ≠ b := ne_of_some (hS0 c x hc) hb'
          refine q4 c x k1 k2 k3 ?_
          rw [Store.set_ne _ _ k5, Store.set_ne _ _ k4, Store.set_ne _ _ k3, Store.set_ne _ _ k2, Store.set_ne _ _ k1]
          exact hS0 c x hc
    simp only [runP_cons, runP_nil, awpP_row, awpP_seq, ssS, bin_or, bin_and, Nat.reduceAdd, Nat.reduceLeDiff, reduceIte, eq_self, Nat.reduceEqDiff]
    refine callS_pe (S := S.set rb (rdr l)) (Expr1_ok (by omega) hrr hsg hp) (fun es l1 e => ?_) (fun l1 b e hb => ?_)
    · subst e
      obtain ⟨e, rfl⟩ := hsg
      have hg1 := hfit.1
      obtain ⟨tk, l2, rfl⟩ := hg1.ne
      obtain ⟨k, s', n', kids, ln⟩ := e
      simp only [hdV, exV, Store.set_set, Store.set_same, Store.set_ne _ _ nx, Store.set_ne _ _ nx.symm, hx0, rdr, idx_tk, ld5, runP_cons, runP_nil, awpP_row, awpP_seq, awpP_cond, awpP_code, ssS, bin_or, bin_and, Nat.reduceAdd, Nat.reduceLeDiff, reduceIte, eq_self, Nat.reduceEqDiff]
      have hrun : readT l = if tk.k = 0 then (some (.mk k s' n' kids ln), 0, 0) else (none, tk.a, 6) := by
        unfold readT
        rw [hp]
      cases hk : (tk.k != 0)
      · have hk0 : tk.k = 0 := by simpa using hk
        rw [if_pos hk0] at hrun
        simp only [condP_false, leaveD, runP_cons, runP_nil, awpP_row, awpP_seq, awpP_code, Store.set_same, Store.set_set, Store.set_ne _ _ nx, Store.set_ne _ _ nx.symm, Store.set_ne _ _ na, Store.set_ne _ _ na.symm, Store.set_ne _ _ ne, Store.set_ne _ _ ne.symm, Store.set_ne _ _ n1, Store.set_ne _ _ n2, Store.set_ne _ _ n3, Store.set_ne _ _ n1.symm, Store.set_ne _ _ n2.symm, Store.set_ne _ _ n3.symm, hx0, ha0, he0, ssS, bin_or, bin_and, Nat.reduceAdd, Nat.reduceLeDiff, reduceIte, eq_self, Nat.reduceEqDiff]
        refine read1_none.mono ?_
        rintro m' rfl
        refine ⟨_, resV_cells3 (T1 := 170) (T2 := 3) (cs := [it k, bs s', it n', .sl (exVs kids) [] .no, it ln]) (u := .agg [it k, bs s', it n', .sl (exVs kids) [] .no, it ln]) (x := it 0) (y := it 0) (a := xb) (b := ab) (c := eb) rfl ?_ rfl rfl ?_ rfl (Store.set_same _ _ _), _, fun _ _ h => h, _, rfl, ?_, ?_⟩
        · show (Store.set _ _ _) _ = _
          rw [Store.set_ne _ _ n3, Store.set_ne _ _ n1, Store.set_same]
        · show (Store.set _ _ _) _ = _
          rw [Store.set_ne _ _ n2, Store.set_same]
        · rw [hrd, hrun]
          simp only [triV, exO, exV, weak, weaks, weaks_exVs, bs]
        · exact (((hS0.out mr _).out mx _).out ma _).out me _
      · have hk0 : ¬ tk.k = 0 := by simpa using hk
        rw [if_neg hk0] at hrun
        simp only [condP_true]
        have hr2 : ((S.set rb (rdr (tk :: l2))).set xb (.var 170 [it k, bs s', it n', .sl (exVs kids) [] .no, it ln])) rb = some (rdr (tk :: l2)) := by
          rw [Store.set_ne _ _ nx.symm, Store.set_same]
        refine callS_pe (stop_ok (val := hdV) hr2) (by rintro es l3 ⟨⟩) ?_
        rintro l3 b ⟨⟩ hb
        refine hst _ _ (tk :: l2) (tk :: l2) b ?_ hg1 hrun rfl rfl rfl ⟨[it k, bs s', it n', .sl (exVs kids) [] .no, it ln], it 0, it 0, ?_, rfl⟩
        · rw [Store.set_ne _ _ (fun e => ne_of_some (Store.set_same _ _ _) hb e.symm)] at hb
          exact hb
        · rw [set_comm S _ _ nx.symm, Store.set_set, Store.set_eq (S.set xb _) (show (S.set xb _) ab = some (.var 3 [it 0]) by rw [Store.set_ne _ _ n1.symm]; exact ha0), Store.set_eq (S.set xb _) (show (S.set xb _) eb = some (.var 25 [it 0]) by rw [Store.set_ne _ _ n3.symm]; exact he0)]
    · subst e
      have hrun : readT l = (none, atOf l1, 6) := by
        obtain ⟨t, r, rfl⟩ := hfit.1.ne
        unfold readT
        rw [hp]
        rfl
      rw [Store.set_set]
      exact hst _ _ l l1 b hb hfit.1 hrun rfl rfl rfl ⟨zE, it 0, it 0, by rw [Store.set_eq S hx0, Store.set_eq S ha0, Store.set_eq S he0], rfl⟩
end
end Go.Av.Fn
/- Whether a text is an expression's, and a command right. Conditions: the library's functions (LibOk, ParseOk), and what three variables hold. -/
namespace Go.Av.Fn
set_option linter.unusedSimpArgs false
set_option linter.unusedVariables false
set_option maxRecDepth 10000
open Go.Proofs
def exprS (s : List UInt8) : Option Ex × Int × Int :=
  if (readS s).2.2 = 0 then (match (readS s).1 with
    | some e => if depthE e > 24 then (none, 0, 7) else (some e, 0, 0)
    | none => (none, 0, 0))
  else (none, (readS s).2.1, (readS s).2.2)
def writtenB (s : List UInt8) : Bool := (exprS s).2.2 == 0 && decide (s.length ≤ 255)
def rightB (k n : Int) (s : List UInt8) : Bool :=
  if (decide (formOf k = noForm) || (!(formOf k).n && n != 0) || (!(formOf k).s && !(s == [])) || decide (n < (formOf k).least) || decide (n > 4294967296)) = true then false
  else if (!(formOf k).s || ((formOf k).n && s == [])) = true then true
  else writtenB s
theorem readS_size {s : List UInt8} {e : Ex} {x : Int × Int} (h : readS s = (some e, x)) : sizeE e ≤ 4097 := by
  unfold readS at h
  split at h
  · cases h
  · rename_i l hl
    obtain ⟨p, hp, hsg, hfit⟩ := run_expr (scanR_good hl)
    have hlen := scanR_len hl
    unfold readT at h
    rw [hp] at h
    cases p with
    | ok es l1 =>
      obtain ⟨e2, rfl⟩ := hsg
      obtain ⟨tk, l2, rfl⟩ := hfit.1.ne
      have h3 := hfit.2.1
      simp only [sizes] at h3
      simp only at h
      split at h
      · cases h; omega
      · cases h
    | st l1 =>
      obtain ⟨tk, l2, rfl⟩ := hfit.1.ne
      cases h
theorem resV_c5tt {t : List V} {m : Store} {i j k a : Nat} {T1 : TypeId} {cs : List V} {u : V} (h1 : tget t i = .ptr a 0) (h2 : m a = some (.var T1 cs)) (h3 : partV cs 0 (some 5) = some u) :
    resV [.cell i (some 5), .tmp j, .tmp k] ⟨t, m⟩ = some (.tup [u, tget t j, tget t k]) := by
  simp only [resV, resAll, resOne, tget_eq, h1, h2, h3, Option.map_some]
theorem form_eq (xo yo : Operand) (x : Form) : binV Tryz.prog .eql 100 .other xo yo (.agg [bs x.w, it x.least, .val (.bool x.n), .val (.bool x.s)]) (.agg [.val (.string (ByteArray.mk #[])), .val (.int .i64 0), .val (.bool false), .val (.bool false)]) = some (.val (.bool (decide (x = noForm)))) := by
  have h := (struct_eq (P := Tryz.prog) (T := 100) (xo := xo) (yo := yo) (cs := [bs x.w, it x.least, .val (.bool x.n), .val (.bool x.s)]) (cs' := [bs [], it 0, .val (.bool false), .val (.bool false)])
    (xs := [.string ⟨x.w.toArray⟩, .int .i64 x.least, .bool x.n, .bool x.s]) (ys := [.string ⟨([] : List UInt8).toArray⟩, .int .i64 0, .bool false, .bool false])
    (r := ((ByteArray.mk x.w.toArray).toList == (ByteArray.mk ([] : List UInt8).toArray).toList && (x.least == 0 && (x.n == false && (x.s == false && true)))))
    (by kernel_rfl) (by kernel_rfl) (by kernel_rfl) rfl rfl (by kernel_rfl)).1
  have e : ((ByteArray.mk x.w.toArray).toList == (ByteArray.mk ([] : List UInt8).toArray).toList && (x.least == 0 && (x.n == false && (x.s == false && true)))) = decide (x = noForm) := by
    rw [ba_toList, ba_toList, Bool.eq_iff_iff]
    obtain ⟨a, b, c, d⟩ := x
    simp [noForm]
  rw [e] at h
  exact h
section
variable {Γ : Glob} {m : Store}
theorem sExpr_ok (E : Env Γ) (s : List UInt8) : ACalls Tryz.prog Γ 128 [bs s] m fun o m' => o = .ret (triV (exprS s)) ∧ m' = m := by
  refine ACalls.weak (R := fun o m' => ∃ v, o = .ret v ∧ weak v = triV (exprS s) ∧ m' = m) (ACalls.less (A := fun o m' => ∃ v, o = .ret v ∧ weak v = triV (exprS s) ∧ SubS m m') ?_ (fun o m' ⟨v, h1, h2, h3⟩ => ⟨m, h3, v, h1, h2, rfl⟩)) ?_ ?_
  rotate_left
  · rintro v m' ⟨_, ⟨⟩, h, rfl⟩
    exact ⟨by rw [h], rfl⟩
  · rintro v m' ⟨_, ⟨⟩, _⟩
  refine acalls_of_awp mixed F128_ok (by rintro v m b x _ ⟨_, ⟨⟩, _⟩) ?_
  simp only [F128, start, List.cons_append, List.nil_append, List.length_cons, List.length_nil, List.replicate, Nat.reduceSub, Nat.reduceAdd]
  simp only [ssS, bin_or, bin_and, Nat.reduceAdd, Nat.reduceLeDiff, reduceIte, eq_self, Nat.reduceEqDiff]
  refine allocS_of fun b2 hb2 => ?_
  simp only [ssS, bin_or, bin_and, Nat.reduceAdd, Nat.reduceLeDiff, reduceIte, eq_self, Nat.reduceEqDiff]
  refine callS_pure (read_ok E s) ?_
  obtain ⟨k, s', n', kids, ln, hex, hsz, hO⟩ : ∃ k s' n' kids ln, exO (readS s).1 = exV (.mk k s' n' kids ln) ∧ sizeE (.mk k s' n' kids ln) ≤ 4097 ∧ ((readS s).1 = some (.mk k s' n' kids ln) ∨ ((readS s).1 = none ∧ Ex.mk k s' n' kids ln = .mk 0 [] 0 [] 0)) := by
    cases hr : (readS s).1 with
    | none => exact ⟨0, [], 0, [], 0, rfl, by simp [sizeE, sizes], .inr ⟨rfl, rfl⟩⟩
    | some e =>
      have hs := readS_size (s := s) (e := e) (x := (readS s).2) (by rw [← hr])
      obtain ⟨k, s', n', kids, ln⟩ := e
      exact ⟨k, s', n', kids, ln, rfl, hs, .inl rfl⟩
  simp only [triV, hex, exV, ssS, bin_or, bin_and, Nat.reduceAdd, Nat.reduceLeDiff, reduceIte, eq_self, Nat.reduceEqDiff]
  refine allocS_of fun b5 hb5 => ?_
  have h25 : b2 ≠ b5 := ne_of_some (Store.set_same _ _ _) hb5
  have hS : ∀ x y z, SubS m (((m.set b2 x).set b5 y).set b2 z) := fun x y z => (((SubS.refl m).out hb2 _).out (by rw [Store.set_ne _ _ h25.symm] at hb5; exact hb5) _).out hb2 _
  simp only [Store.set_same, Store.set_set, ssS, bin_or, bin_and, Nat.reduceAdd, Nat.reduceLeDiff, reduceIte, eq_self, Nat.reduceEqDiff]
  cases hne : ((readS s).2.2 != 0)
  · have h0 : (readS s).2.2 = 0 := by simpa using hne
    simp only [Store.set_same, ssS, bin_or, bin_and, Nat.reduceAdd, Nat.reduceLeDiff, reduceIte, eq_self, Nat.reduceEqDiff]
    refine callS_pure (depth_ok 4097 (.mk k s' n' kids ln) _ hsz (by omega)) ?_
    simp only [ssS, bin_or, bin_and, Nat.reduceAdd, Nat.reduceLeDiff, reduceIte, eq_self, Nat.reduceEqDiff]
    refine condS_split (fun hc => ?_) (fun hc => ?_)
    · have hd : depthE (.mk k s' n' kids ln) > 24 := by have := of_decide_eq_true hc; omega
      simp only [Store.set_ne _ _ h25, Store.set_same, ssS, bin_or, bin_and, Nat.reduceAdd, Nat.reduceLeDiff, reduceIte, eq_self, Nat.reduceEqDiff]
      refine bodyA_ret (resV_c5tt (T1 := 170) (a := b2) (cs := zE) (u := .agg zE) rfl (Store.set_same _ _ _) rfl) ⟨_, rfl, ?_, hS _ _ _⟩
      rcases hO with h1 | ⟨h1, h2⟩
      · simp only [exprS, h0, if_true, h1, if_pos hd, exO, exV, exVs, weak, weaks]
        rfl
      · rw [h2] at hd
        simp [depthE, depths] at hd
    · have hd : ¬ depthE (.mk k s' n' kids ln) > 24 := by have := of_decide_eq_false hc; omega
      simp only [Store.set_ne _ _ h25, Store.set_same, ssS, bin_or, bin_and, Nat.reduceAdd, Nat.reduceLeDiff, reduceIte, eq_self, Nat.reduceEqDiff]
      refine bodyA_ret (resV_c5tt (T1 := 170) (a := b2) (cs := [it k, bs s', it n', .sl (exVs kids) [] .no, it ln]) (u := .agg [it k, bs s', it n', .sl (exVs kids) [] .no, it ln]) rfl (Store.set_same _ _ _) rfl) ⟨_, rfl, ?_, hS _ _ _⟩
      rcases hO with h1 | ⟨h1, h2⟩
      · simp only [exprS, h0, if_true, h1, if_neg hd, exO, exV, exVs, weak, weaks, weaks_exVs, bs]
        rfl
      · cases h2
        simp only [exprS, h0, if_true, h1, exO, exV, exVs, weak, weaks, bs]
        rfl
  · have h0 : ¬ (readS s).2.2 = 0 := by simpa using hne
    simp only [Store.set_ne _ _ h25, Store.set_same, ssS, bin_or, bin_and, Nat.reduceAdd, Nat.reduceLeDiff, reduceIte, eq_self, Nat.reduceEqDiff]
    refine bodyA_ret (resV_c5tt (T1 := 170) (a := b2) (cs := zE) (u := .agg zE) rfl (Store.set_same _ _ _) rfl) ⟨_, rfl, ?_, hS _ _ _⟩
    simp only [exprS, h0, if_false, exO, exV, exVs, weak, weaks]
    rfl
theorem written_ok (E : Env Γ) (s : List UInt8) : ACalls Tryz.prog Γ 103 [bs s] m fun o m' => o = .ret (.val (.bool (writtenB s))) ∧ m' = m := by
  refine ACalls.less (A := fun o m' => o = .ret (.val (.bool (writtenB s))) ∧ SubS m m') ?_ fun o m' h => ⟨m, h.2, h.1, rfl⟩
  refine acalls_of_awp mixed F103_ok (by rintro v m b x _ ⟨⟨⟩, _⟩) ?_
  simp only [F103, start, List.cons_append, List.nil_append, List.length_cons, List.length_nil, List.replicate, Nat.reduceSub, Nat.reduceAdd]
  simp only [ssS, bin_or, bin_and, Nat.reduceAdd, Nat.reduceLeDiff, reduceIte, eq_self, Nat.reduceEqDiff]
  refine callS_pure (sExpr_ok E s) ?_
  obtain ⟨k, s', n', kids, ln, hex⟩ : ∃ k s' n' kids ln, exO (exprS s).1 = exV (.mk k s' n' kids ln) := by
    cases (exprS s).1 with
    | none => exact ⟨0, [], 0, [], 0, rfl⟩
    | some e => obtain ⟨k, s', n', kids, ln⟩ := e; exact ⟨k, s', n', kids, ln, rfl⟩
  simp only [triV, hex, exV, ssS, bin_or, bin_and, Nat.reduceAdd, Nat.reduceLeDiff, reduceIte, eq_self, Nat.reduceEqDiff]
  refine allocS_of fun b3 hb3 => ?_
  simp only [Store.set_same, Store.set_set, ssS, bin_or, bin_and, Nat.reduceAdd, Nat.reduceLeDiff, reduceIte, eq_self, Nat.reduceEqDiff]
  have hl : decide ((s.length : Int) ≤ 255) = decide (s.length ≤ 255) := by
    rw [decide_eq_decide]
    omega
  cases h0 : ((exprS s).2.2 == 0)
  · simp only [lenV_bs, ssS, bin_or, bin_and, Nat.reduceAdd, Nat.reduceLeDiff, reduceIte, eq_self, Nat.reduceEqDiff]
    refine bodyA_ret resV_one ⟨?_, (SubS.refl m).out hb3 _⟩
    simp only [tget_zero, tget_succ, writtenB, h0]
    rfl
  · simp only [lenV_bs, hl, ssS, bin_or, bin_and, Nat.reduceAdd, Nat.reduceLeDiff, reduceIte, eq_self, Nat.reduceEqDiff]
    refine bodyA_ret resV_one ⟨?_, (SubS.refl m).out hb3 _⟩
    simp only [tget_zero, tget_succ, writtenB, h0]
    rfl
end
end Go.Av.Fn
/- Whether a command is right: the program's. Conditions: the library's functions (LibOk, ParseOk), and what three variables hold. -/
namespace Go.Av
theorem fillV_4 {cells : List V} {off : Nat} {a b c d : V} {r : List (Nat × Nat × V)} : fillV cells ((off, 4, .agg [a, b, c, d]) :: r) = if off + 4 ≤ cells.length then fillV (tset (tset (tset (tset cells off a) (off + 1) b) (off + 2) c) (off + 3) d) r else none := by
  simp only [fillV, V.cells, List.length_cons, List.length_nil, Nat.reduceAdd, true_and, List.zipIdx_cons, List.zipIdx_nil, List.foldl_cons, List.foldl_nil, Nat.add_zero, tset_eq, Nat.zero_add]
end Go.Av
namespace Go.Av.Fn
set_option linter.unusedSimpArgs false
set_option linter.unusedVariables false
set_option maxRecDepth 100000
open Go.Proofs
def tabOf : List (Nat × AFn) := [(56, F56)]
def noG : Glob := fun _ => none
theorem tabOf_ok : TabOk Tryz.prog noG tabOf := .cons ⟨_, F56_ok⟩ (by kernel_rfl) .nil
section
variable {Γ : Glob} {m : Store}
theorem of_ok (k : Int) : ACalls Tryz.prog Γ 56 [it k] m fun o m' => o = .ret (formV (formOf k)) ∧ m' = m := by
  by_cases hk : 0 ≤ k ∧ k < 18
  · obtain ⟨h0, h18⟩ := hk
    have hi : k = 0 ∨ k = 1 ∨ k = 2 ∨ k = 3 ∨ k = 4 ∨ k = 5 ∨ k = 6 ∨ k = 7 ∨ k = 8 ∨ k = 9 ∨ k = 10 ∨ k = 11 ∨ k = 12 ∨ k = 13 ∨ k = 14 ∨ k = 15 ∨ k = 16 ∨ k = 17 := by omega
    have hc : CallOk Tryz.prog Γ (callI Tryz.prog noG (fun _ _ _ => none) (look tabOf) 2000 40) := callI_ok mixed (fun _ _ h => by cases h) tabOf_ok 2000 40
    rcases hi with rfl | rfl | rfl | rfl | rfl | rfl | rfl | rfl | rfl | rfl | rfl | rfl | rfl | rfl | rfl | rfl | rfl | rfl
    all_goals exact acalls_plain hc (by kernel_rfl) (.cons (.val _) .nil) rfl
  · have hf : formOf k = noForm := by
      unfold formOf
      by_cases h : k < 0
      · rw [if_pos h]
      · rw [if_neg h, List.getElem?_eq_none (by show 18 ≤ k.toNat; omega)]
        rfl
    rw [hf]
    refine ACalls.less (A := fun o m' => o = .ret (formV noForm) ∧ SubS m m') ?_ fun o m' h => ⟨m, h.2, h.1, rfl⟩
    refine acalls_of_awp mixed F56_ok (by rintro v m b x _ ⟨⟨⟩, _⟩) ?_
    simp only [F56, start, List.cons_append, List.nil_append, List.length_cons, List.length_nil, List.replicate, Nat.reduceSub, Nat.reduceAdd]
    simp only [ssS, bin_or, bin_and, Nat.reduceAdd, Nat.reduceLeDiff, reduceIte, eq_self, Nat.reduceEqDiff]
    refine allocS_of fun b2 hb2 => ?_
    simp only [fillV_4, ssS, bin_or, bin_and, Nat.reduceAdd, Nat.reduceLeDiff, reduceIte, eq_self, Nat.reduceEqDiff]
    refine allocS_of fun b3 hb3 => ?_
    have h23 : b2 ≠ b3 := ne_of_some (Store.set_same _ _ _) hb3
    have fin : ∀ (t : List V) (x y z : Blk), tget t 2 = .ptr b2 0 → z = .var 100 [bs [], it 0, .val (.bool false), .val (.bool false)] → bodyA [ARes.cell 2 (some 4)] (fun o m' => o = Out.ret (formV noForm) ∧ SubS m m') .ret ⟨t, ((m.set b2 x).set b3 y).set b2 z⟩ := by
      rintro t x y z ht rfl
      refine bodyA_ret ((resV_cell ht (Store.set_same _ _ _)).trans rfl) ⟨rfl, ?_⟩
      exact ((((SubS.refl m).out hb2 _).out (by rw [Store.set_ne _ _ h23.symm] at hb3; exact hb3) _).out hb2 _)
    cases hn : decide (k < 0)
    · have hg : decide (k ≥ 18) = true := by
        have := of_decide_eq_false hn
        exact decide_eq_true (by omega)
      simp only [Store.set_same, Store.set_set, hn, hg, Store.set_ne _ _ h23, ssS, bin_or, bin_and, Nat.reduceAdd, Nat.reduceLeDiff, reduceIte, eq_self, Nat.reduceEqDiff]
      exact fin _ _ _ _ rfl rfl
    · simp only [Store.set_same, Store.set_set, hn, Store.set_ne _ _ h23, ssS, bin_or, bin_and, Nat.reduceAdd, Nat.reduceLeDiff, reduceIte, eq_self, Nat.reduceEqDiff]
      exact fin _ _ _ _ rfl rfl
theorem right_fin {k n : Int} {s : List UInt8} {t : List V} {S : Store} (b : Bool) (h : rightB k n s = b) (h2 : tget t 2 = .val (.bool b)) (hs : SubS m S) : bodyA [ARes.tmp 2] (fun o m' => o = Out.ret (.val (.bool (rightB k n s))) ∧ SubS m m') .ret ⟨t, S⟩ :=
  bodyA_ret resV_one ⟨by rw [h, h2], hs⟩
theorem right_ok (E : Env Γ) (k n : Int) (s : List UInt8) : ACalls Tryz.prog Γ 58 [cmdV k n s] m fun o m' => o = .ret (.val (.bool (rightB k n s))) ∧ m' = m := by
  refine ACalls.less (A := fun o m' => o = .ret (.val (.bool (rightB k n s))) ∧ SubS m m') ?_ fun o m' h => ⟨m, h.2, h.1, rfl⟩
  refine acalls_of_awp mixed F58_ok (by rintro v m b x _ ⟨⟨⟩, _⟩) ?_
  simp only [F58, cmdV, start, List.cons_append, List.nil_append, List.length_cons, List.length_nil, List.replicate, Nat.reduceSub, Nat.reduceAdd]
  simp only [ssS, bin_or, bin_and, Nat.reduceAdd, Nat.reduceLeDiff, reduceIte, eq_self, Nat.reduceEqDiff]
  refine allocS_of fun b1 hb1 => ?_
  simp only [Store.set_same, ssS, bin_or, bin_and, Nat.reduceAdd, Nat.reduceLeDiff, reduceIte, eq_self, Nat.reduceEqDiff]
  refine callS_pure (of_ok k) ?_
  obtain ⟨w, le, fn, fs, hf⟩ : ∃ w le fn fs, formOf k = ⟨w, le, fn, fs⟩ := ⟨_, _, _, _, rfl⟩
  simp only [hf, formV, ssS, bin_or, bin_and, Nat.reduceAdd, Nat.reduceLeDiff, reduceIte, eq_self, Nat.reduceEqDiff]
  refine allocS_of fun b3 hb3 => ?_
  have h13 : b1 ≠ b3 := ne_of_some (Store.set_same _ _ _) hb3
  have hS : ∀ x y, SubS m ((m.set b1 x).set b3 y) := fun x y => ((SubS.refl m).out hb1 _).out (by rw [Store.set_ne _ _ h13.symm] at hb3; exact hb3) _
  have hfe : ∀ xo yo, binV Tryz.prog .eql 100 .other xo yo (.agg [bs w, it le, .val (.bool fn), .val (.bool fs)]) (.agg [.val (.string (ByteArray.mk #[])), .val (.int .i64 0), .val (.bool false), .val (.bool false)]) = some (.val (.bool (decide (Form.mk w le fn fs = noForm)))) := fun xo yo => form_eq xo yo ⟨w, le, fn, fs⟩
  simp only [Store.set_same, Store.set_set, Store.set_ne _ _ h13, hfe, ssS, bin_or, bin_and, Nat.reduceAdd, Nat.reduceLeDiff, reduceIte, eq_self, Nat.reduceEqDiff]
  have hF : (decide (Form.mk w le fn fs = noForm) || (!fn && n != 0) || (!fs && !(s == [])) || decide (n < le) || decide (n > 4294967296)) = true → rightB k n s = false := by
    intro h
    unfold rightB
    rw [hf, if_pos h]
  have hT : (decide (Form.mk w le fn fs = noForm) || (!fn && n != 0) || (!fs && !(s == [])) || decide (n < le) || decide (n > 4294967296)) = false → (!fs || (fn && s == [])) = true → rightB k n s = true := by
    intro h h2
    unfold rightB
    rw [hf, if_neg (by rw [h]; decide), if_pos h2]
  have hW : (decide (Form.mk w le fn fs = noForm) || (!fn && n != 0) || (!fs && !(s == [])) || decide (n < le) || decide (n > 4294967296)) = false → (!fs || (fn && s == [])) = false → rightB k n s = writtenB s := by
    intro h h2
    unfold rightB
    rw [hf, if_neg (by rw [h]; decide), if_neg (by rw [h2]; decide)]
  clear hf hfe
  generalize decide (Form.mk w le fn fs = noForm) = hz at hF hT hW ⊢
  generalize h1 : (n != 0) = a1 at hF hT hW ⊢
  generalize h2 : (s == ([] : List UInt8)) = a2 at hF hT hW ⊢
  generalize h3 : decide (n < le) = a3 at hF hT hW ⊢
  generalize h4 : decide (n > 4294967296) = a4 at hF hT hW ⊢
  cases hz
  case true =>
    simp only [h1, h2, h3, h4, Store.set_same, Store.set_ne _ _ h13, Bool.not_true, Bool.not_false, ssS, bin_or, bin_and, Nat.reduceAdd, Nat.reduceLeDiff, reduceIte, eq_self, Nat.reduceEqDiff]
    exact right_fin false (hF rfl) rfl (hS _ _)
  case false =>
    cases fn
    case true =>
      cases fs
      case true =>
        cases a3
        case true =>
          simp only [h1, h2, h3, h4, Store.set_same, Store.set_ne _ _ h13, Bool.not_true, Bool.not_false, ssS, bin_or, bin_and, Nat.reduceAdd, Nat.reduceLeDiff, reduceIte, eq_self, Nat.reduceEqDiff]
          exact right_fin false (hF rfl) rfl (hS _ _)
        case false =>
          cases a4
          case true =>
            simp only [h1, h2, h3, h4, Store.set_same, Store.set_ne _ _ h13, Bool.not_true, Bool.not_false, ssS, bin_or, bin_and, Nat.reduceAdd, Nat.reduceLeDiff, reduceIte, eq_self, Nat.reduceEqDiff]
            exact right_fin false (hF rfl) rfl (hS _ _)
          case false =>
            cases a2
            case true =>
              simp only [h1, h2, h3, h4, Store.set_same, Store.set_ne _ _ h13, Bool.not_true, Bool.not_false, ssS, bin_or, bin_and, Nat.reduceAdd, Nat.reduceLeDiff, reduceIte, eq_self, Nat.reduceEqDiff]
              exact right_fin true (hT rfl rfl) rfl (hS _ _)
            case false =>
              simp only [h1, h2, h3, h4, Store.set_same, Store.set_ne _ _ h13, Bool.not_true, Bool.not_false, ssS, bin_or, bin_and, Nat.reduceAdd, Nat.reduceLeDiff, reduceIte, eq_self, Nat.reduceEqDiff]
              refine callS_pure (written_ok E s) ?_
              simp only [ssS, bin_or, bin_and, Nat.reduceAdd, Nat.reduceLeDiff, reduceIte, eq_self, Nat.reduceEqDiff]
              exact right_fin (writtenB s) (hW rfl rfl) rfl (hS _ _)
      case false =>
        cases a2
        case true =>
          cases a3
          case true =>
            simp only [h1, h2, h3, h4, Store.set_same, Store.set_ne _ _ h13, Bool.not_true, Bool.not_false, ssS, bin_or, bin_and, Nat.reduceAdd, Nat.reduceLeDiff, reduceIte, eq_self, Nat.reduceEqDiff]
            exact right_fin false (hF rfl) rfl (hS _ _)
          case false =>
            cases a4
            case true =>
              simp only [h1, h2, h3, h4, Store.set_same, Store.set_ne _ _ h13, Bool.not_true, Bool.not_false, ssS, bin_or, bin_and, Nat.reduceAdd, Nat.reduceLeDiff, reduceIte, eq_self, Nat.reduceEqDiff]
              exact right_fin false (hF rfl) rfl (hS _ _)
            case false =>
              simp only [h1, h2, h3, h4, Store.set_same, Store.set_ne _ _ h13, Bool.not_true, Bool.not_false, ssS, bin_or, bin_and, Nat.reduceAdd, Nat.reduceLeDiff, reduceIte, eq_self, Nat.reduceEqDiff]
              exact right_fin true (hT rfl rfl) rfl (hS _ _)
        case false =>
          simp only [h1, h2, h3, h4, Store.set_same, Store.set_ne _ _ h13, Bool.not_true, Bool.not_false, ssS, bin_or, bin_and, Nat.reduceAdd, Nat.reduceLeDiff, reduceIte, eq_self, Nat.reduceEqDiff]
          exact right_fin false (hF rfl) rfl (hS _ _)
    case false =>
      cases a1
      case true =>
        simp only [h1, h2, h3, h4, Store.set_same, Store.set_ne _ _ h13, Bool.not_true, Bool.not_false, ssS, bin_or, bin_and, Nat.reduceAdd, Nat.reduceLeDiff, reduceIte, eq_self, Nat.reduceEqDiff]
        exact right_fin false (hF rfl) rfl (hS _ _)
      case false =>
        cases fs
        case true =>
          cases a3
          case true =>
            simp only [h1, h2, h3, h4, Store.set_same, Store.set_ne _ _ h13, Bool.not_true, Bool.not_false, ssS, bin_or, bin_and, Nat.reduceAdd, Nat.reduceLeDiff, reduceIte, eq_self, Nat.reduceEqDiff]
            exact right_fin false (hF rfl) rfl (hS _ _)
          case false =>
            cases a4
            case true =>
              simp only [h1, h2, h3, h4, Store.set_same, Store.set_ne _ _ h13, Bool.not_true, Bool.not_false, ssS, bin_or, bin_and, Nat.reduceAdd, Nat.reduceLeDiff, reduceIte, eq_self, Nat.reduceEqDiff]
              exact right_fin false (hF rfl) rfl (hS _ _)
            case false =>
              simp only [h1, h2, h3, h4, Store.set_same, Store.set_ne _ _ h13, Bool.not_true, Bool.not_false, ssS, bin_or, bin_and, Nat.reduceAdd, Nat.reduceLeDiff, reduceIte, eq_self, Nat.reduceEqDiff]
              refine callS_pure (written_ok E s) ?_
              simp only [ssS, bin_or, bin_and, Nat.reduceAdd, Nat.reduceLeDiff, reduceIte, eq_self, Nat.reduceEqDiff]
              exact right_fin (writtenB s) (hW rfl rfl) rfl (hS _ _)
        case false =>
          cases a2
          case true =>
            cases a3
            case true =>
              simp only [h1, h2, h3, h4, Store.set_same, Store.set_ne _ _ h13, Bool.not_true, Bool.not_false, ssS, bin_or, bin_and, Nat.reduceAdd, Nat.reduceLeDiff, reduceIte, eq_self, Nat.reduceEqDiff]
              exact right_fin false (hF rfl) rfl (hS _ _)
            case false =>
              cases a4
              case true =>
                simp only [h1, h2, h3, h4, Store.set_same, Store.set_ne _ _ h13, Bool.not_true, Bool.not_false, ssS, bin_or, bin_and, Nat.reduceAdd, Nat.reduceLeDiff, reduceIte, eq_self, Nat.reduceEqDiff]
                exact right_fin false (hF rfl) rfl (hS _ _)
              case false =>
                simp only [h1, h2, h3, h4, Store.set_same, Store.set_ne _ _ h13, Bool.not_true, Bool.not_false, ssS, bin_or, bin_and, Nat.reduceAdd, Nat.reduceLeDiff, reduceIte, eq_self, Nat.reduceEqDiff]
                exact right_fin true (hT rfl rfl) rfl (hS _ _)
          case false =>
            simp only [h1, h2, h3, h4, Store.set_same, Store.set_ne _ _ h13, Bool.not_true, Bool.not_false, ssS, bin_or, bin_and, Nat.reduceAdd, Nat.reduceLeDiff, reduceIte, eq_self, Nat.reduceEqDiff]
            exact right_fin false (hF rfl) rfl (hS _ _)
end
end Go.Av.Fn
/-
  DERIVED: THE SHELF's CONTRACTS AT THIS DUMP, IN PLAIN WORDS (tools/lay-plain.mjs out of 'TryzShelf.lean', which tools/lay-shelf.mjs wrote): THE SAME DECLARATIONS UNDER THE SAME NAMES: 'import', 'namespace', 'open', 'def', 'theorem' AND NOTHING ELSE: no command of the shelf's: FOR A HAND-IN. Each laying: the table of numbers ('.._ren') and one theorem, a field a fact of the dump's own or the kernel's comparison; each contract: ONE APPLICATION.
-/
namespace Go.Proofs
open Go.Shelf
def Tryz.lays169_ren : Go.Shelf.Ren := ⟨fun | 169 => 241 | n => n, fun | 70 => 326 | 9 => 9 | 0 => 0 | 72 => 328 | 37 => 40 | 127 => 201 | 3 => 3 | 5 => 5 | n => n, fun | n => n⟩
theorem Tryz.lays169 : Go.Proofs.Lays.n169 Tryz.prog Tryz.lays169_ren := {
  mixed := by kernel_rfl
  f169 := Tryz.func241.trans (congrArg some (by kernel_rfl))
  t0 := Tryz.underlying0
  a0 := Tryz.isAgg0
  z0 := Tryz.sizeOf0
  v0 := Tryz.zeroValue0
  t3 := Tryz.underlying3
  a3 := Tryz.isAgg3
  z3 := Tryz.sizeOf3
  v3 := Tryz.zeroValue3
  t9 := Tryz.underlying9
  a9 := Tryz.isAgg9
  z9 := Tryz.sizeOf9
  v9 := Tryz.zeroValue9
  t37 := Tryz.underlying40
  a37 := Tryz.isAgg40
  z37 := Tryz.sizeOf40
  v37 := Tryz.zeroValue40
  t70 := Tryz.underlying326
  a70 := Tryz.isAgg326
  z70 := Tryz.sizeOf326
  v70 := Tryz.zeroValue326
  t72 := Tryz.underlying328
  a72 := Tryz.isAgg328
  z72 := Tryz.sizeOf328
  v72 := Tryz.zeroValue328
  t127 := Tryz.underlying201
  a127 := Tryz.isAgg201
  z127 := Tryz.sizeOf201
  v127 := Tryz.zeroValue201 }
theorem Tryz.Builder_Extra_169 : Builder.Extra Tryz.prog Tryz.lays169_ren := {
  sizeBuilder := by kernel_rfl
  liesBuilder := by kernel_rfl
  t5 := Tryz.underlying5
  a5 := Tryz.isAgg5
  z5 := Tryz.sizeOf5
  v5 := Tryz.zeroValue5
  infoByte := by kernel_rfl
  cellsByte := by kernel_rfl
  sizeByte := by kernel_rfl
  neB5 := by decide }
def Tryz.lays137_ren : Go.Shelf.Ren := ⟨fun | 137 => 242 | 217 => 137 | 266 => 162 | n => n, fun | 9 => 9 | 5 => 5 | 3 => 3 | n => n, fun | n => n⟩
theorem Tryz.lays137 : Go.Proofs.Lays.n137 Tryz.prog Tryz.lays137_ren := {
  mixed := by kernel_rfl
  f137 := Tryz.func242.trans (congrArg some (by kernel_rfl))
  f217 := Tryz.func137.trans (congrArg some (by kernel_rfl))
  f266 := Tryz.func162.trans (congrArg some (by kernel_rfl))
  t3 := Tryz.underlying3
  a3 := Tryz.isAgg3
  z3 := Tryz.sizeOf3
  v3 := Tryz.zeroValue3
  t5 := Tryz.underlying5
  a5 := Tryz.isAgg5
  z5 := Tryz.sizeOf5
  v5 := Tryz.zeroValue5
  t9 := Tryz.underlying9
  a9 := Tryz.isAgg9
  z9 := Tryz.sizeOf9
  v9 := Tryz.zeroValue9 }
open Go.RowKit in
theorem Tryz.strings_IndexByte (s : ByteArray) (c : Int) (w : World) :
    Calls Tryz.prog 242 #[.string s, .int .u8 c] w fun e w' => e = .returned (.int .i64 (Lib.indexByte s.data.toList c.toNat.toUInt8)) ∧ w' = w := Any.strings_IndexByte Tryz.lays137 s c w
def Tryz.lays246_ren : Go.Shelf.Ren := ⟨fun | 246 => 129 | 283 => 148 | 284 => 149 | 285 => 150 | 286 => 151 | 129 => 177 | 317 => 176 | 318 => 178 | 319 => 179 | 320 => 180 | 337 => 204 | 338 => 205 | n => n, fun | 2 => 2 | 3 => 3 | 9 => 9 | 4 => 4 | 171 => 190 | 0 => 0 | 53 => 154 | 37 => 40 | 5 => 5 | 173 => 192 | 212 => 227 | 51 => 204 | 20 => 20 | 213 => 228 | 46 => 156 | 232 => 304 | 233 => 305 | n => n, fun | 17 => 1 | 18 => 7 | 19 => 8 | n => n⟩
theorem Tryz.lays246 : Go.Proofs.Lays.n246 Tryz.prog Tryz.lays246_ren := {
  mixed := by kernel_rfl
  f129 := Tryz.func177.trans (congrArg some (by kernel_rfl))
  f246 := Tryz.func129.trans (congrArg some (by kernel_rfl))
  f283 := Tryz.func148.trans (congrArg some (by kernel_rfl))
  f284 := Tryz.func149.trans (congrArg some (by kernel_rfl))
  f285 := Tryz.func150.trans (congrArg some (by kernel_rfl))
  f286 := Tryz.func151.trans (congrArg some (by kernel_rfl))
  f317 := Tryz.func176.trans (congrArg some (by kernel_rfl))
  f318 := Tryz.func178.trans (congrArg some (by kernel_rfl))
  f319 := Tryz.func179.trans (congrArg some (by kernel_rfl))
  f320 := Tryz.func180.trans (congrArg some (by kernel_rfl))
  f337 := Tryz.func204.trans (congrArg some (by kernel_rfl))
  f338 := Tryz.func205.trans (congrArg some (by kernel_rfl))
  t0 := Tryz.underlying0
  a0 := Tryz.isAgg0
  z0 := Tryz.sizeOf0
  v0 := Tryz.zeroValue0
  t2 := Tryz.underlying2
  a2 := Tryz.isAgg2
  z2 := Tryz.sizeOf2
  v2 := Tryz.zeroValue2
  t3 := Tryz.underlying3
  a3 := Tryz.isAgg3
  z3 := Tryz.sizeOf3
  v3 := Tryz.zeroValue3
  t4 := Tryz.underlying4
  a4 := Tryz.isAgg4
  z4 := Tryz.sizeOf4
  v4 := Tryz.zeroValue4
  t5 := Tryz.underlying5
  a5 := Tryz.isAgg5
  z5 := Tryz.sizeOf5
  v5 := Tryz.zeroValue5
  t9 := Tryz.underlying9
  a9 := Tryz.isAgg9
  z9 := Tryz.sizeOf9
  v9 := Tryz.zeroValue9
  t20 := Tryz.underlying20
  a20 := Tryz.isAgg20
  z20 := Tryz.sizeOf20
  v20 := Tryz.zeroValue20
  t37 := Tryz.underlying40
  a37 := Tryz.isAgg40
  z37 := Tryz.sizeOf40
  v37 := Tryz.zeroValue40
  t46 := Tryz.underlying156
  a46 := Tryz.isAgg156
  z46 := Tryz.sizeOf156
  v46 := Tryz.zeroValue156
  t51 := Tryz.underlying204
  a51 := Tryz.isAgg204
  z51 := Tryz.sizeOf204
  v51 := Tryz.zeroValue204
  t53 := Tryz.underlying154
  a53 := Tryz.isAgg154
  z53 := Tryz.sizeOf154
  v53 := Tryz.zeroValue154
  t171 := Tryz.underlying190
  a171 := Tryz.isAgg190
  z171 := Tryz.sizeOf190
  v171 := Tryz.zeroValue190
  t173 := Tryz.underlying192
  a173 := Tryz.isAgg192
  z173 := Tryz.sizeOf192
  v173 := Tryz.zeroValue192
  t212 := Tryz.underlying227
  a212 := Tryz.isAgg227
  z212 := Tryz.sizeOf227
  v212 := Tryz.zeroValue227
  t213 := Tryz.underlying228
  a213 := Tryz.isAgg228
  z213 := Tryz.sizeOf228
  t232 := Tryz.underlying304
  a232 := Tryz.isAgg304
  z232 := Tryz.sizeOf304
  v232 := Tryz.zeroValue304
  t233 := Tryz.underlying305
  a233 := Tryz.isAgg305
  z233 := Tryz.sizeOf305
  v233 := Tryz.zeroValue305
  g17 := by kernel_rfl
  g18 := by kernel_rfl
  g19 := by kernel_rfl }
open Go.RowKit Go.Sort Go.Lib in
theorem Tryz.internal_strconv_FormatInt_10_small (i : Nat) (hi : i < 100) (w : World) :
    Calls Tryz.prog 129 #[.int .i64 i, .int .i64 10] w fun e w' => e = .returned (.string ⟨(Lib.decDigits i).toArray⟩) ∧ w' = w := Any.internal_strconv_FormatInt_10_small Tryz.lays246 i hi w
def Tryz.laysM316_ren : Go.Shelf.Ren := ⟨fun | 316 => 131 | n => n, fun | 9 => 9 | 3 => 3 | 4 => 4 | 37 => 40 | 0 => 0 | 127 => 201 | 5 => 5 | n => n, fun | n => n⟩
theorem Tryz.laysM316 : Go.Proofs.LaysM.n316 Tryz.prog Tryz.laysM316_ren := {
  mixed := by kernel_rfl
  f316 := Tryz.func131.trans (congrArg some (by kernel_rfl))
  t0 := Tryz.underlying0
  a0 := Tryz.isAgg0
  z0 := Tryz.sizeOf0
  v0 := Tryz.zeroValue0
  t3 := Tryz.underlying3
  a3 := Tryz.isAgg3
  z3 := Tryz.sizeOf3
  v3 := Tryz.zeroValue3
  t4 := Tryz.underlying4
  a4 := Tryz.isAgg4
  z4 := Tryz.sizeOf4
  v4 := Tryz.zeroValue4
  t9 := Tryz.underlying9
  a9 := Tryz.isAgg9
  z9 := Tryz.sizeOf9
  v9 := Tryz.zeroValue9
  t37 := Tryz.underlying40
  a37 := Tryz.isAgg40
  z37 := Tryz.sizeOf40
  v37 := Tryz.zeroValue40
  t127 := Tryz.underlying201
  a127 := Tryz.isAgg201
  z127 := Tryz.sizeOf201
  v127 := Tryz.zeroValue201
  t5 := Tryz.underlying5
  a5 := Tryz.isAgg5
  z5 := Tryz.sizeOf5
  v5 := Tryz.zeroValue5
  i0 := by kernel_rfl
  i3 := by kernel_rfl
  i4 := by kernel_rfl
  i5 := by kernel_rfl
  i9 := by kernel_rfl
  i37 := by kernel_rfl
  i127 := by kernel_rfl }
open Go.RowKit in
theorem Tryz.stringslite_Clone (s : ByteArray) (w : World) (hlim : s.size ≤ 281474976710656) :
    Calls Tryz.prog 131 #[.string s] w fun e w' => e = .returned (.string s) ∧ Below w.heap.size w w' := Any.stringslite_Clone Tryz.laysM316 s w hlim
def Tryz.laysC174_ren : Go.Shelf.Ren := ⟨fun | 174 => 125 | 247 => 141 | 245 => 142 | 287 => 164 | 279 => 165 | 280 => 166 | 281 => 167 | 282 => 168 | 321 => 193 | 322 => 194 | 316 => 131 | 171 => 62 | 205 => 195 | 243 => 104 | 246 => 129 | 283 => 148 | 284 => 149 | 285 => 150 | 286 => 151 | 129 => 177 | 317 => 176 | 318 => 178 | 319 => 179 | 320 => 180 | 337 => 204 | 338 => 205 | n => n, fun | 9 => 9 | 3 => 3 | 2 => 2 | 75 => 163 | 85 => 164 | 4 => 4 | 167 => 207 | 5 => 5 | 53 => 154 | 175 => 208 | 46 => 156 | 168 => 210 | 37 => 40 | 0 => 0 | 210 => 241 | 21 => 21 | 127 => 201 | 145 => 284 | 143 => 282 | 171 => 190 | 173 => 192 | 212 => 227 | 51 => 204 | 20 => 20 | 213 => 228 | 232 => 304 | 233 => 305 | 80 => 260 | n => n, fun | 15 => 4 | 16 => 5 | 17 => 1 | 18 => 7 | 19 => 8 | n => n⟩
theorem Tryz.laysC174 : Go.Proofs.LaysC.n174 Tryz.prog Tryz.laysC174_ren := {
  mixed := by kernel_rfl
  f129 := Tryz.func177.trans (congrArg some (by kernel_rfl))
  f171 := Tryz.func62.trans (congrArg some (by kernel_rfl))
  f174 := Tryz.func125.trans (congrArg some (by kernel_rfl))
  f205 := Tryz.func195.trans (congrArg some (by kernel_rfl))
  f243 := Tryz.func104.trans (congrArg some (by kernel_rfl))
  f245 := Tryz.func142.trans (congrArg some (by kernel_rfl))
  f246 := Tryz.func129.trans (congrArg some (by kernel_rfl))
  f247 := Tryz.func141.trans (congrArg some (by kernel_rfl))
  f279 := Tryz.func165.trans (congrArg some (by kernel_rfl))
  f280 := Tryz.func166.trans (congrArg some (by kernel_rfl))
  f281 := Tryz.func167.trans (congrArg some (by kernel_rfl))
  f282 := Tryz.func168.trans (congrArg some (by kernel_rfl))
  f283 := Tryz.func148.trans (congrArg some (by kernel_rfl))
  f284 := Tryz.func149.trans (congrArg some (by kernel_rfl))
  f285 := Tryz.func150.trans (congrArg some (by kernel_rfl))
  f286 := Tryz.func151.trans (congrArg some (by kernel_rfl))
  f287 := Tryz.func164.trans (congrArg some (by kernel_rfl))
  f316 := Tryz.func131.trans (congrArg some (by kernel_rfl))
  f317 := Tryz.func176.trans (congrArg some (by kernel_rfl))
  f318 := Tryz.func178.trans (congrArg some (by kernel_rfl))
  f319 := Tryz.func179.trans (congrArg some (by kernel_rfl))
  f320 := Tryz.func180.trans (congrArg some (by kernel_rfl))
  f321 := Tryz.func193.trans (congrArg some (by kernel_rfl))
  f322 := Tryz.func194.trans (congrArg some (by kernel_rfl))
  f337 := Tryz.func204.trans (congrArg some (by kernel_rfl))
  f338 := Tryz.func205.trans (congrArg some (by kernel_rfl))
  t0 := Tryz.underlying0
  a0 := Tryz.isAgg0
  z0 := Tryz.sizeOf0
  v0 := Tryz.zeroValue0
  t2 := Tryz.underlying2
  a2 := Tryz.isAgg2
  z2 := Tryz.sizeOf2
  v2 := Tryz.zeroValue2
  t3 := Tryz.underlying3
  a3 := Tryz.isAgg3
  z3 := Tryz.sizeOf3
  v3 := Tryz.zeroValue3
  t4 := Tryz.underlying4
  a4 := Tryz.isAgg4
  z4 := Tryz.sizeOf4
  v4 := Tryz.zeroValue4
  t5 := Tryz.underlying5
  a5 := Tryz.isAgg5
  z5 := Tryz.sizeOf5
  v5 := Tryz.zeroValue5
  t9 := Tryz.underlying9
  a9 := Tryz.isAgg9
  z9 := Tryz.sizeOf9
  v9 := Tryz.zeroValue9
  t20 := Tryz.underlying20
  a20 := Tryz.isAgg20
  z20 := Tryz.sizeOf20
  v20 := Tryz.zeroValue20
  t21 := Tryz.underlying21
  a21 := Tryz.isAgg21
  z21 := Tryz.sizeOf21
  v21 := Tryz.zeroValue21
  t37 := Tryz.underlying40
  a37 := Tryz.isAgg40
  z37 := Tryz.sizeOf40
  v37 := Tryz.zeroValue40
  t46 := Tryz.underlying156
  a46 := Tryz.isAgg156
  z46 := Tryz.sizeOf156
  v46 := Tryz.zeroValue156
  t51 := Tryz.underlying204
  a51 := Tryz.isAgg204
  z51 := Tryz.sizeOf204
  v51 := Tryz.zeroValue204
  t53 := Tryz.underlying154
  a53 := Tryz.isAgg154
  z53 := Tryz.sizeOf154
  v53 := Tryz.zeroValue154
  t75 := Tryz.underlying163
  a75 := Tryz.isAgg163
  z75 := Tryz.sizeOf163
  v75 := Tryz.zeroValue163
  t85 := Tryz.underlying164
  a85 := Tryz.isAgg164
  z85 := Tryz.sizeOf164
  v85 := Tryz.zeroValue164
  t127 := Tryz.underlying201
  a127 := Tryz.isAgg201
  z127 := Tryz.sizeOf201
  v127 := Tryz.zeroValue201
  t143 := Tryz.underlying282
  a143 := Tryz.isAgg282
  z143 := Tryz.sizeOf282
  v143 := Tryz.zeroValue282
  t145 := Tryz.underlying284
  a145 := Tryz.isAgg284
  z145 := Tryz.sizeOf284
  v145 := Tryz.zeroValue284
  t167 := Tryz.underlying207
  a167 := Tryz.isAgg207
  z167 := Tryz.sizeOf207
  v167 := Tryz.zeroValue207
  t168 := Tryz.underlying210
  a168 := Tryz.isAgg210
  z168 := Tryz.sizeOf210
  v168 := Tryz.zeroValue210
  t171 := Tryz.underlying190
  a171 := Tryz.isAgg190
  z171 := Tryz.sizeOf190
  v171 := Tryz.zeroValue190
  t173 := Tryz.underlying192
  a173 := Tryz.isAgg192
  z173 := Tryz.sizeOf192
  v173 := Tryz.zeroValue192
  t175 := Tryz.underlying208
  a175 := Tryz.isAgg208
  z175 := Tryz.sizeOf208
  v175 := Tryz.zeroValue208
  t210 := Tryz.underlying241
  a210 := Tryz.isAgg241
  z210 := Tryz.sizeOf241
  v210 := Tryz.zeroValue241
  t212 := Tryz.underlying227
  a212 := Tryz.isAgg227
  z212 := Tryz.sizeOf227
  v212 := Tryz.zeroValue227
  t213 := Tryz.underlying228
  a213 := Tryz.isAgg228
  z213 := Tryz.sizeOf228
  t232 := Tryz.underlying304
  a232 := Tryz.isAgg304
  z232 := Tryz.sizeOf304
  v232 := Tryz.zeroValue304
  t233 := Tryz.underlying305
  a233 := Tryz.isAgg305
  z233 := Tryz.sizeOf305
  v233 := Tryz.zeroValue305
  g15 := by kernel_rfl
  g16 := by kernel_rfl
  g17 := by kernel_rfl
  g18 := by kernel_rfl
  g19 := by kernel_rfl
  t80 := Tryz.underlying260
  a80 := Tryz.isAgg260
  z80 := Tryz.sizeOf260
  v80 := Tryz.zeroValue260
  i0 := by kernel_rfl
  i2 := by kernel_rfl
  i3 := by kernel_rfl
  i4 := by kernel_rfl
  i5 := by kernel_rfl
  i9 := by kernel_rfl
  i20 := by kernel_rfl
  i21 := by kernel_rfl
  i37 := by kernel_rfl
  i46 := by kernel_rfl
  i51 := by kernel_rfl
  i53 := by kernel_rfl
  i75 := by kernel_rfl
  i80 := by kernel_rfl
  i85 := by kernel_rfl
  i127 := by kernel_rfl
  i143 := by kernel_rfl
  i145 := by kernel_rfl
  i167 := by kernel_rfl
  i168 := by kernel_rfl
  i171 := by kernel_rfl
  i173 := by kernel_rfl
  i175 := by kernel_rfl
  i210 := by kernel_rfl
  i212 := by kernel_rfl
  i232 := by kernel_rfl
  i233 := by kernel_rfl
  m15 := by kernel_rfl
  m16 := by kernel_rfl
  m17 := by kernel_rfl
  m18 := by kernel_rfl
  m19 := by kernel_rfl
  c0 := by kernel_rfl
  c2 := by kernel_rfl
  c3 := by kernel_rfl
  c4 := by kernel_rfl
  c5 := by kernel_rfl
  c9 := by kernel_rfl
  c20 := by kernel_rfl
  c21 := by kernel_rfl
  c37 := by kernel_rfl
  c46 := by kernel_rfl
  c51 := by kernel_rfl
  c53 := by kernel_rfl
  c75 := by kernel_rfl
  c80 := by kernel_rfl
  c85 := by kernel_rfl
  c127 := by kernel_rfl
  c143 := by kernel_rfl
  c145 := by kernel_rfl
  c167 := by kernel_rfl
  c168 := by kernel_rfl
  c171 := by kernel_rfl
  c173 := by kernel_rfl
  c175 := by kernel_rfl
  c210 := by kernel_rfl
  c212 := by kernel_rfl
  c213 := by kernel_rfl
  c232 := by kernel_rfl
  c233 := by kernel_rfl }
open Go.RowKit in
theorem Tryz.strconv_ParseInt_10_at64_ok (s : ByteArray) (hmax : s.size ≤ 9223372036854775806) (v : Int) (h : Lib.parseIntB 64 s.data.toList = .ok v) (w : World) :
    Calls Tryz.prog 125 #[.string s, .int .i64 10, .int .i64 64] w fun e w' => e = .returned (.tuple #[.int .i64 v, .nilIface]) ∧ (w' = w ∨ ∃ t, w' = Lib.bytesWorld w 5 t) := Any.strconv_ParseInt_10_at64_ok Tryz.laysC174 s hmax v h w
open Go.RowKit in
theorem Tryz.strconv_ParseInt_10_at64_syntax (s : ByteArray) (hlim : s.size ≤ 281474976710656) (h : Lib.parseIntB 64 s.data.toList = Lib.NumEnd.syntax) (ev : Value) (w : World) (hv : w.cell? ⟨4, 0, none⟩ = some ev) (hev : ev = .nilIface ∨ ∃ te pe, ev = .iface te pe) :
    Calls Tryz.prog 125 #[.string s, .int .i64 10, .int .i64 64] w fun e w' => ∃ N, e = .returned (.tuple #[.int .i64 (0), .iface 210 (.pointer (some ⟨N, 0, none⟩))]) ∧ w.heap.size ≤ N ∧ w'.heap[N]? = some (.cells #[.string ⟨#[80, 97, 114, 115, 101, 73, 110, 116]⟩, .string s, ev] 241 (0, 0)) ∧ Below w.heap.size w w' := Any.strconv_ParseInt_10_at64_syntax Tryz.laysC174 s hlim h ev w hv hev
open Go.RowKit in
theorem Tryz.strconv_ParseInt_10_at64_range (s : ByteArray) (hlim : s.size ≤ 281474976710656) (h : Lib.parseIntB 64 s.data.toList = .range) (ev : Value) (w : World) (hv : w.cell? ⟨5, 0, none⟩ = some ev) (hev : ev = .nilIface ∨ ∃ te pe, ev = .iface te pe) :
    Calls Tryz.prog 125 #[.string s, .int .i64 10, .int .i64 64] w fun e w' => ∃ N, e = .returned (.tuple #[.int .i64 (Lib.intSat 64 s.data.toList), .iface 210 (.pointer (some ⟨N, 0, none⟩))]) ∧ w.heap.size ≤ N ∧ w'.heap[N]? = some (.cells #[.string ⟨#[80, 97, 114, 115, 101, 73, 110, 116]⟩, .string s, ev] 241 (0, 0)) ∧ Below w.heap.size w w' := Any.strconv_ParseInt_10_at64_range Tryz.laysC174 s hlim h ev w hv hev
def Tryz.lays217_ren : Go.Shelf.Ren := ⟨fun | 217 => 137 | 266 => 162 | n => n, fun | 9 => 9 | 5 => 5 | 3 => 3 | n => n, fun | n => n⟩
theorem Tryz.lays217 : Go.Proofs.Lays.n217 Tryz.prog Tryz.lays217_ren := {
  mixed := by kernel_rfl
  f217 := Tryz.func137.trans (congrArg some (by kernel_rfl))
  f266 := Tryz.func162.trans (congrArg some (by kernel_rfl))
  t3 := Tryz.underlying3
  a3 := Tryz.isAgg3
  z3 := Tryz.sizeOf3
  v3 := Tryz.zeroValue3
  t5 := Tryz.underlying5
  a5 := Tryz.isAgg5
  z5 := Tryz.sizeOf5
  v5 := Tryz.zeroValue5
  t9 := Tryz.underlying9
  a9 := Tryz.isAgg9
  z9 := Tryz.sizeOf9
  v9 := Tryz.zeroValue9 }
open Go.RowKit Go.Lib in
theorem Tryz.stringslite_IndexByte (s : ByteArray) (c : Int) (w : World) :
    Calls Tryz.prog 137 #[.string s, .int .u8 c] w fun e w' => e = .returned (.int .i64 (Lib.indexByte s.data.toList c.toNat.toUInt8)) ∧ w' = w := Any.stringslite_IndexByte Tryz.lays217 s c w
def Tryz.lays240_ren : Go.Shelf.Ren := ⟨fun | 240 => 251 | 276 => 261 | n => n, fun | 0 => 0 | 4 => 4 | 9 => 9 | 20 => 20 | 37 => 40 | 70 => 326 | 72 => 328 | 164 => 248 | n => n, fun n => n⟩
theorem Tryz.lays240 : Go.Proofs.Lays.n240 Tryz.prog Tryz.lays240_ren := {
  mixed := by kernel_rfl
  f240 := Tryz.func251.trans (congrArg some (by kernel_rfl))
  f276 := Tryz.func261.trans (congrArg some (by kernel_rfl))
  t0 := Tryz.underlying0
  a0 := Tryz.isAgg0
  z0 := Tryz.sizeOf0
  v0 := Tryz.zeroValue0
  t4 := Tryz.underlying4
  a4 := Tryz.isAgg4
  z4 := Tryz.sizeOf4
  v4 := Tryz.zeroValue4
  t9 := Tryz.underlying9
  a9 := Tryz.isAgg9
  z9 := Tryz.sizeOf9
  v9 := Tryz.zeroValue9
  t20 := Tryz.underlying20
  a20 := Tryz.isAgg20
  z20 := Tryz.sizeOf20
  v20 := Tryz.zeroValue20
  t70 := Tryz.underlying326
  a70 := Tryz.isAgg326
  z70 := Tryz.sizeOf326
  v70 := Tryz.zeroValue326
  t72 := Tryz.underlying328
  a72 := Tryz.isAgg328
  z72 := Tryz.sizeOf328
  v72 := Tryz.zeroValue328
  t164 := Tryz.underlying248
  a164 := Tryz.isAgg248
  z164 := Tryz.sizeOf248
  v164 := Tryz.zeroValue248
}
theorem Tryz.Builder_X72_240 : Builder.X72 Tryz.prog Tryz.lays240_ren := {
  sizeBuilder := by kernel_rfl
  liesBuilder := by kernel_rfl
}
end Go.Proofs
/- The library's functions, told over abstract values. No condition. -/
namespace Go.Proofs
open Go.Shelf Go.RowKit
variable {P : Program} {ρ : Ren}
theorem liesAt_off {e : TypeId} (hc : P.cellsOf e = 1) (count off n : Nat) (hn : off + n ≤ count) : liesAt P P.depth e count off e n = true := by
  have hd : P.depth = (2 * (P.types.size + Made.depth) + 1) + 1 := rfl
  rw [hd]
  simp only [liesAt, Bool.or_eq_true]
  left
  rw [hd]
  simp [rowAt, hc, hn, sameLayout, Nat.mod_one]
theorem unsafeString_at (w : World) (pt it ty e : TypeId) (hp : P.underlying pt = some (.pointer e)) (hc : P.cellsOf e = 1) (a : Addr) (cells : Nat) (hsh : w.shape? a.block = some (e, cells)) (l : List UInt8) (h0 : l ≠ []) (hn : a.off + l.length ≤ cells) (h63 : l.length ≤ 9223372036854775807)
    (hcell : ∀ j x, l[j]? = some x → w.cell? (a.add j) = some (.int .u8 x.toNat)) :
    (Builtin.unsafeString_ #[pt, it] ty #[.pointer (some a), .int .i64 l.length]).run P w = .ok (.string ⟨l.toArray⟩) (w.freeze a l.length) := by
  have hl : l.length ≠ 0 := by simpa using h0
  have hlb := Lib.run_loadBytes (P := P) w l a .empty hcell
  have hlies := liesAt_off (P := P) hc (cells / P.cellsOf e) a.off l.length (by rw [hc]; simpa using hn)
  have h63' : ¬ (9223372036854775807 : Int) < (l.length : Int) := by omega
  have hdef : Builtin.unsafeString_ #[pt, it] ty #[.pointer (some a), .int .i64 l.length] =
      (do
        let n ← asInt (.int .i64 l.length)
        if n < 0 then runtimePanic (.error "unsafe.String: len out of range")
        if n > IntKind.i64.max then unsupported (.unsafePointer "String: a length above the largest int")
        if n = 0 then pure (.string .empty)
        else if ← variablesAt a (← elemOf pt) n.toNat then do
          let s ← loadBytes a .empty n.toNat
          freeze a n.toNat
          pure (.string s)
        else unsupported (.unsafePointer "String: not so many bytes at ptr")) := rfl
  rw [hdef]
  have hmax : IntKind.i64.max = 9223372036854775807 := rfl
  have hneg : ¬ (l.length : Int) < 0 := by omega
  simp [asInt, asIntOf, hmax, h63', hneg, hl, variablesAt, hsh, elemOf, run_underlying hp, hlies, hlb]
set_option maxHeartbeats 1000000 in
set_option maxRecDepth 100000 in
theorem builderString_at (L : Lays.n169 P ρ) (X : Builder.Extra P ρ) (b : Nat) (p : Value) (a : Addr) (cap n : Nat) (l : List UInt8) (w : World) (hbk : w.heap[b]? = some (.cells #[p, .slice (some a) l.length cap] (ρ.t 72) (0, 0))) (h0 : l ≠ []) (hcap : l.length ≤ cap) (h63 : l.length ≤ 9223372036854775807)
    (hsh : w.shape? a.block = some (ρ.t 5, n)) (hn : a.off + l.length ≤ n) (hcell : ∀ j x, l[j]? = some x → w.cell? (a.add j) = some (.int .u8 x.toNat)) :
    Calls P (ρ.f 169) #[.pointer (some ⟨b, 0, none⟩)] w fun e w' => e = .returned (.string ⟨l.toArray⟩) ∧ w' = w.drew.freeze a l.length := by
  have hl0 : l.length ≠ 0 := by simpa using h0
  have c1 : w.drew.cell? ⟨b, 1, none⟩ = some (.slice (some a) l.length cap) := by
    have : w.drew.heap[b]? = some (.cells #[p, .slice (some a) l.length cap] (ρ.t 72) (0, 0)) := hbk
    rw [Lib.cell_of_heap this]; rfl
  have hSD : (Builtin.unsafeSliceData_ #[(ρ.t 37)] (ρ.t 127) #[.slice (some a) l.length cap]).run P w.drew = .ok (.pointer (some a)) w.drew :=
    Lib.run_unsafeSliceData_row _ _ _ _ _ _ (by omega)
  have hUS : (Builtin.unsafeString_ #[(ρ.t 127), (ρ.t 3)] (ρ.t 9) #[.pointer (some a), .int .i64 l.length]).run P w.drew = .ok (.string ⟨l.toArray⟩) (w.drew.freeze a l.length) :=
    unsafeString_at w.drew (ρ.t 127) (ρ.t 3) (ρ.t 9) (ρ.t 5) L.t127 X.cellsByte a n hsh l h0 hn h63 hcell
  have mixed := L.mixed
  have t72 := L.t72; have a72 := L.a72; have z72 := L.z72; have v72 := L.v72; have u72 := run_underlying L.t72
  have t70 := L.t70; have a70 := L.a70; have z70 := L.z70; have v70 := L.v70; have u70 := run_underlying L.t70
  have t37 := L.t37; have a37 := L.a37; have z37 := L.z37; have v37 := L.v37; have u37 := run_underlying L.t37
  have t127 := L.t127; have a127 := L.a127; have z127 := L.z127; have v127 := L.v127; have u127 := run_underlying L.t127
  have t3 := L.t3; have a3 := L.a3; have z3 := L.z3; have v3 := L.v3; have u3 := run_underlying L.t3
  have t9 := L.t9; have a9 := L.a9; have z9 := L.z9; have v9 := L.v9; have u9 := run_underlying L.t9
  have t5 := X.t5; have a5 := X.a5; have z5 := X.z5; have v5 := X.v5; have u5 := run_underlying X.t5
  go_enter L.f169, Body.n169_ntmps ρ
  go_wp2
  go_region_o
  all_goals (go_wp2; go_ret; exact ⟨rfl, rfl⟩)
end Go.Proofs
/- The library's functions hold what is asked of them. No condition but the variable that ParseInt looks at. -/
namespace Go.Av
open Go.RowKit
section
variable {P : Program} {Γ : Glob} {B0 : Nat} {G : Gh} {m : Store} {w : World}
theorem heap_freeze_ne {a : Addr} {n b : Nat} (h : b ≠ a.block) : (w.freeze a n).heap[b]? = w.heap[b]? := by
  unfold World.freeze
  split
  · rfl
  · simp only [Array.getElem?_modify]
    rw [if_neg (fun e => h e.symm)]
theorem cell_freeze {a c : Addr} {n : Nat} : (w.freeze a n).cell? c = w.cell? c := by
  by_cases h : c.block = a.block
  · unfold World.freeze
    split
    · rfl
    · simp only [World.cell?, Array.getElem?_modify, h, if_true]
      cases hb : w.heap[a.block]? with
      | none => rfl
      | some o => cases o <;> rfl
  · exact World.cell?_of_block (heap_freeze_ne h)
theorem size_freeze {a : Addr} {n : Nat} : (w.freeze a n).heap.size = w.heap.size := by
  unfold World.freeze
  split
  · rfl
  · simp
theorem Rep.freeze (h : Rep Γ B0 G m w) {t : Nat} {T : TypeId} {k : Nat} (ht : m t = some (.tip T k)) {a : Addr} {E C n : Nat} (hH : G.H t k = some (a.block, E, C)) : Rep Γ B0 G (fun c => if c = t then none else m c) (w.freeze a n) := by
  obtain ⟨_, B, E', C', q1, q2, q3, q4, ⟨cs0, fz0, q5⟩, _⟩ := h.tip t T k ht
  rw [hH] at q1
  simp only [Option.some.injEq, Prod.mk.injEq] at q1
  obtain ⟨rfl, rfl, rfl⟩ := q1
  have sub : ∀ b x, (if b = t then none else m b) = some x → b ≠ t ∧ m b = some x := by
    intro b x hb
    by_cases e : b = t
    · simp [e] at hb
    · exact ⟨e, by simpa [e] using hb⟩
  exact {
    K := fun b o u hu => by rw [cell_freeze]; exact h.K b o u hu
    base := by rw [size_freeze]; exact h.base
    hist := fun t' v x hx => by rw [size_freeze]; exact ⟨(h.hist t' v x hx).1, fun T' v' hv => (h.hist t' v x hx).2 T' v' (sub _ _ hv).2⟩
    var := fun b T' cs hb => by
      obtain ⟨h1, ⟨us, h2, h3⟩, h4⟩ := h.var b T' cs (sub _ _ hb).2
      have hne : b ≠ a.block := by rintro rfl; exact q4 _ _ (sub _ _ hb).2
      exact ⟨h1, ⟨us, by rw [heap_freeze_ne hne]; exact h2, h3⟩, h4⟩
    tip := fun t' T' v ht' => by
      rw [size_freeze]
      obtain ⟨hne, ht''⟩ := sub _ _ ht'
      obtain ⟨p1, B', E', C', p2, p3, p4, p5, ⟨y1, y2, y3⟩, p6⟩ := h.tip t' T' v ht''
      have hB : B' ≠ a.block := by
        rintro rfl
        exact h.apart t' T' v t T k a.block E' C' E C ht'' ht hne p2 hH
      refine ⟨p1, B', E', C', p2, p3, p4, fun T2 cs hc => p5 T2 cs (sub _ _ hc).2, ⟨y1, y2, by rw [heap_freeze_ne hB]; exact y3⟩, fun o h1 h2 => ?_⟩
      obtain ⟨f1, f2, f3⟩ := p6 o h1 h2
      exact ⟨by rw [cell_freeze]; exact f1, by rw [World.frozen?_of_block (w := w) (heap_freeze_ne hB)]; exact f2, f3⟩
    apart := fun t1 T1 v1 t2 T2 v2 B E C E' C' k1 k2 => h.apart t1 T1 v1 t2 T2 v2 B E C E' C' (sub _ _ k1).2 (sub _ _ k2).2
    glob := h.glob
    gsz := fun g cs hg h20 => by
      obtain ⟨a1, us', T', fz, b', c'⟩ := h.gsz g cs hg h20
      exact ⟨a1, us', T', fz, by rw [heap_freeze_ne (by omega)]; exact b', c'⟩
    loop := fun b r f t' ps x y D hb => by
      obtain ⟨h1, us, h2, h3⟩ := h.loop b r f t' ps x y D (sub _ _ hb).2
      have hne : b ≠ a.block := by rintro rfl; rw [q5] at h2; cases h2
      exact ⟨h1, us, by rw [heap_freeze_ne hne]; exact h2, h3⟩
    defer := fun b hb => by
      obtain ⟨h1, h2⟩ := h.defer b (sub _ _ hb).2
      have hne : b ≠ a.block := by rintro rfl; rw [q5] at h2; cases h2
      exact ⟨h1, by rw [heap_freeze_ne hne]; exact h2⟩ }
theorem by8s_inv : ∀ {l : List UInt8} {us : List Value}, RelL G (l.map by8) us → us = l.map fun b => Value.int .u8 b.toNat
  | [], us, h => h.nil_inv
  | b :: l, us, h => by
    obtain ⟨y, ys, rfl, r1, r2⟩ := h.cons_inv
    cases r1
    rw [by8s_inv r2]
    rfl
end
end Go.Av
namespace Go.Av.Fn
set_option linter.unusedSimpArgs false
set_option linter.unusedVariables false
set_option maxRecDepth 10000
open Go.Proofs Go.RowKit
theorem idxB_eq (s : List UInt8) (c : UInt8) : Lib.indexByte s c = idxB s c := by
  unfold idxB
  induction s with
  | nil => rfl
  | cons b s ih =>
    rw [List.findIdx?_cons, Lib.indexByte]
    by_cases h : (b == c) = true
    · simp [h]
    · simp only [h, Bool.false_eq_true, if_false]
      rw [ih]
      cases List.findIdx? (· == c) s with
      | none => rfl
      | some i =>
        simp only [Option.map_some]
        have : ¬ ((i : Int) == -1) = true := by
          intro k
          have := eq_of_beq k
          omega
        rw [if_neg this]
        rfl
theorem parse_ge : ∀ (l : List UInt8) (acc u : Nat), Lib.parseUintM (2 ^ 64 - 1) acc l = .ok u → acc ≤ u
  | [], acc, u, h => by
    simp only [Lib.parseUintM, Lib.NumEnd.ok.injEq] at h
    omega
  | c :: r, acc, u, h => by
    simp only [Lib.parseUintM] at h
    split at h
    · split at h
      · cases h
      · split at h
        · cases h
        · have := parse_ge r _ u h
          omega
    · cases h
theorem parse_no : ∀ (l : List UInt8) (acc : Nat), (∀ c ∈ l, dig c = true) → (∃ u, Lib.parseUintM (2 ^ 64 - 1) acc l = .ok u) ∨ Lib.parseUintM (2 ^ 64 - 1) acc l = .range
  | [], acc, _ => .inl ⟨acc, rfl⟩
  | c :: r, acc, hd => by
    have hc := hd c (List.mem_cons_self ..)
    simp only [dig, Bool.and_eq_true, decide_eq_true_eq] at hc
    have hc' : 48 ≤ c.toNat ∧ c.toNat ≤ 57 := hc
    simp only [Lib.parseUintM, if_pos hc']
    split
    · exact .inr rfl
    · split
      · exact .inr rfl
      · exact parse_no r _ (fun c hc => hd c (List.mem_cons_of_mem _ hc))
theorem parse_num : ∀ (l : List UInt8) (acc : Nat), (∀ c ∈ l, dig c = true) → acc < 9223372036854775808 →
    (∃ u, Lib.parseUintM (2 ^ 64 - 1) acc l = .ok u ∧ numL acc l = if u < 9223372036854775808 then some u else none) ∨ (Lib.parseUintM (2 ^ 64 - 1) acc l = .range ∧ numL acc l = none)
  | [], acc, _, ha => .inl ⟨acc, rfl, by simp only [numL]; rw [if_pos ha]⟩
  | c :: r, acc, hd, ha => by
    have hc := hd c (List.mem_cons_self ..)
    simp only [dig, Bool.and_eq_true, decide_eq_true_eq] at hc
    have hc' : 48 ≤ c.toNat ∧ c.toNat ≤ 57 := hc
    simp only [Lib.parseUintM, numL, if_pos hc']
    have key : (acc > (9223372036854775807 - (c.toNat - 48)) / 10) ↔ 9223372036854775807 < 10 * acc + (c.toNat - 48) := by omega
    have e10 : acc * 10 + (c.toNat - 48) = 10 * acc + (c.toNat - 48) := by omega
    rw [e10]
    by_cases h1 : 1844674407370955162 ≤ acc
    · rw [if_pos h1, if_pos (key.2 (by omega))]
      exact .inr ⟨rfl, rfl⟩
    · rw [if_neg h1]
      by_cases h2 : 2 ^ 64 - 1 < 10 * acc + (c.toNat - 48)
      · rw [if_pos h2, if_pos (key.2 (by omega))]
        exact .inr ⟨rfl, rfl⟩
      · rw [if_neg h2]
        by_cases h3 : 9223372036854775807 < 10 * acc + (c.toNat - 48)
        · rw [if_pos (key.2 h3)]
          rcases parse_no r (10 * acc + (c.toNat - 48)) (fun c hc => hd c (List.mem_cons_of_mem _ hc)) with ⟨u, hp⟩ | hp
          · have := parse_ge r _ u hp
            exact .inl ⟨u, hp, by rw [if_neg (by omega)]⟩
          · exact .inr ⟨hp, rfl⟩
        · rw [if_neg (fun k => h3 (key.1 k))]
          exact parse_num r _ (fun c hc => hd c (List.mem_cons_of_mem _ hc)) (by omega)
theorem parseB {s : List UInt8} (hne : s ≠ []) (hd : ∀ c ∈ s, dig c = true) : match numL 0 s with
    | some n => Lib.parseIntB 64 s = .ok (n : Int)
    | none => Lib.parseIntB 64 s = .range := by
  obtain ⟨c, r, rfl⟩ : ∃ c r, s = c :: r := by
    cases s with
    | nil => exact absurd rfl hne
    | cons c r => exact ⟨c, r, rfl⟩
  have hc := hd c (List.mem_cons_self ..)
  simp only [dig, Bool.and_eq_true, decide_eq_true_eq] at hc
  have h1 : ¬ (c.toNat = 43 ∨ c.toNat = 45) := by omega
  have h2 : ¬ c.toNat = 45 := by omega
  have hU : Lib.parseUintB 64 (c :: r) = Lib.parseUintM (2 ^ 64 - 1) 0 (c :: r) := by
    unfold Lib.parseUintB
    rw [if_neg (List.cons_ne_nil c r)]
  have hok : ∀ u, Lib.parseUintM (2 ^ 64 - 1) 0 (c :: r) = .ok u → Lib.parseIntB 64 (c :: r) = if 9223372036854775808 ≤ u then .range else .ok (u : Int) := by
    intro u hu
    unfold Lib.parseIntB
    simp only
    rw [if_neg h1, hU, hu]
    simp [h2]
  have hra : Lib.parseUintM (2 ^ 64 - 1) 0 (c :: r) = .range → Lib.parseIntB 64 (c :: r) = .range := by
    intro hu
    unfold Lib.parseIntB
    simp only
    rw [if_neg h1, hU, hu]
  rcases parse_num (c :: r) 0 hd (by omega) with ⟨u, e1, e2⟩ | ⟨e1, e2⟩
  · rw [e2]
    by_cases hu : u < 9223372036854775808
    · rw [if_pos hu]
      simp only
      rw [hok u e1, if_neg (by omega)]
    · rw [if_neg hu]
      simp only
      rw [hok u e1, if_pos (by omega)]
  · rw [e2]
    exact hra e1
theorem clone41 {Γ : Glob} (m : Store) (s : List UInt8) (hs : s.length ≤ 281474976710656) : ACalls Tryz.prog Γ 131 [bs s] m fun o m' => o = .ret (bs s) ∧ m' = m :=
  ACalls.of_vals (xs := [.string ⟨s.toArray⟩]) (u := .string ⟨s.toArray⟩) (by kernel_rfl) rfl (fun w => Tryz.stringslite_Clone ⟨s.toArray⟩ w (by simpa [ByteArray.size] using hs))
theorem index38 {Γ : Glob} (m : Store) (s : List UInt8) (c : UInt8) : ACalls Tryz.prog Γ 242 [bs s, by8 c] m fun o m' => o = .ret (it (idxB s c)) ∧ m' = m :=
  ACalls.of_vals (xs := [.string ⟨s.toArray⟩, .int .u8 c.toNat]) (u := .int .i64 (idxB s c)) (by kernel_rfl) rfl (fun w => (Tryz.strings_IndexByte ⟨s.toArray⟩ c.toNat w).mono (by
    rintro e w' ⟨rfl, rfl⟩
    refine ⟨?_, Below.refl _ _⟩
    have e1 : (c.toNat : Int).toNat.toUInt8 = c := by simp
    rw [e1, ← idxB_eq]))
theorem parse28 {Γ : Glob} {T : TypeId} {v : V} (hΓ : Γ 5 = some [.ifc T v]) : ParseOk Γ := by
  intro m s hne hs hd
  have hp := parseB hne hd
  refine ⟨by kernel_rfl, fun G B0 mF w cargs hD hR hL => ?_⟩
  obtain ⟨c1, r1, rfl, h1, hL⟩ := hL.cons_inv
  obtain ⟨c2, r2, rfl, h2, hL⟩ := hL.cons_inv
  obtain ⟨c3, r3, rfl, h3, hL⟩ := hL.cons_inv
  obtain rfl := hL.nil_inv
  cases h1
  cases h2
  cases h3
  have hsz : (⟨s.toArray⟩ : ByteArray).data.toList = s := by simp
  have hsz2 : (⟨s.toArray⟩ : ByteArray).size = s.length := by simp [ByteArray.size]
  cases hn : numL 0 s with
  | some n =>
    rw [hn] at hp
    refine (Tryz.strconv_ParseInt_10_at64_ok ⟨s.toArray⟩ (by omega) n (by rw [hsz]; exact hp) w).mono ?_
    rintro e w' ⟨rfl, hw⟩
    have hB : Below w.heap.size w w' := by
      rcases hw with rfl | ⟨t, rfl⟩
      · exact Below.refl _ _
      · exact Lib.bytesWorld_below w 5 t
    exact ⟨G, m, .ret (.tup [it n, .val .nilIface]), Gh.le.refl G, hD, hR.below hB, hB.mono hR.base, .ret (.tup (.cons (.val rfl) (.cons (.val rfl) .nil))), rfl, rfl⟩
  | none =>
    rw [hn] at hp
    obtain ⟨us, g1, g2⟩ := hR.glob 5 _ hΓ
    obtain ⟨u, ys, rfl, g3, g4⟩ := g1.cons_inv
    obtain rfl := g4.nil_inv
    have hcell := hR.K 5 0 u (g2.2 0 u rfl)
    cases g3 with
    | ifc g3 =>
      refine (Tryz.strconv_ParseInt_10_at64_range ⟨s.toArray⟩ (by omega) (by rw [hsz]; exact hp) _ w hcell (.inr ⟨_, _, rfl⟩)).mono ?_
      rintro e w' ⟨N, rfl, _, _, hB⟩
      exact ⟨G, m, .ret (.tup [it (Lib.intSat 64 (ByteArray.mk s.toArray).data.toList), .ifc 210 (.ptr N 0)]), Gh.le.refl G, hD, hR.below hB, hB.mono hR.base, .ret (.tup (.cons (.val rfl) (.cons (.ifc (.ptr _ _)) .nil))), ⟨_, _, _, rfl⟩, rfl⟩
theorem copy48 {Γ : Glob} (m : Store) (b : Nat) (p u : V) (h : m b = some (.var 328 [p, u])) (hp : markOk b p) : ACalls Tryz.prog Γ 251 [.ptr b 0] m fun o m' => o = .ret (.tup []) ∧ m' = m.set b (.var 328 [.ptr b 0, u]) := by
  refine ⟨by kernel_rfl, fun G B0 mF w cargs hD hR hL => ?_⟩
  obtain ⟨c1, r1, rfl, h1, hL⟩ := hL.cons_inv
  obtain rfl := hL.nil_inv
  cases h1
  have hb := or_left (f := mF) h
  obtain ⟨hB0, ⟨us, hw, hu⟩, hK⟩ := hR.var b 328 _ hb
  obtain ⟨x, us1, rfl, r1, hu⟩ := hu.cons_inv
  obtain ⟨y, us2, rfl, r2, hu⟩ := hu.cons_inv
  obtain rfl := hu.nil_inv
  rcases hp with rfl | rfl
  · cases r1
    refine (Any.Builder_copyCheck_fresh Tryz.lays240 Tryz.Builder_X72_240 b w (by simp [World.cell?, hw]) (by simp [World.shape?, hw]; rfl) (by simp [World.frozen?, hw])).mono ?_
    rintro e w' ⟨rfl, rfl⟩
    have hst := hR.store hb (o := 0) (RelV.ptr (G := G) b 0)
    rw [← or_set] at hst
    exact ⟨G, _, .ret (.tup []), Gh.le.refl G, hD.set _ (hD.of_some h), hst, (Below.refl B0 w).setCell (p := ⟨b, 0, none⟩) hB0 _, .ret (.tup .nil), rfl, rfl⟩
  · cases r1
    refine (Any.Builder_copyCheck_used Tryz.lays240 Tryz.Builder_X72_240 b w (by simp [World.cell?, hw])).mono ?_
    rintro e w' ⟨rfl, rfl⟩
    exact ⟨G, m, .ret (.tup []), Gh.le.refl G, hD, hR, Below.refl _ _, .ret (.tup .nil), rfl, (Store.set_eq m h).symm⟩
theorem string37 {Γ : Glob} (m : Store) (b : Nat) (p u : V) (l : List UInt8) (h : m b = some (.var 328 [p, u])) (hl : l.length ≤ 4096) (hu : (l = [] ∧ u = .sl [] [] .full) ∨ (l ≠ [] ∧ ∃ t k, m t = some (.tip 5 k) ∧ u = .sl (l.map by8) [] (.tip t k))) :
    ACalls Tryz.prog Γ 241 [.ptr b 0] m fun o m' => o = .ret (bs l) ∧ ∀ c x, m c = some x → (∀ l2 k, u ≠ .sl l2 [] (.tip c k)) → m' c = some x := by
  refine ⟨by kernel_rfl, fun G B0 mF w cargs hD hR hL => ?_⟩
  obtain ⟨c1, r1, rfl, h1, hL⟩ := hL.cons_inv
  obtain rfl := hL.nil_inv
  cases h1
  have hb := or_left (f := mF) h
  obtain ⟨hB0, ⟨us, hw, hus⟩, hK⟩ := hR.var b 328 _ hb
  obtain ⟨x, us1, rfl, r1, hus⟩ := hus.cons_inv
  obtain ⟨y, us2, rfl, r2, hus⟩ := hus.cons_inv
  obtain rfl := hus.nil_inv
  rcases hu with ⟨rfl, rfl⟩ | ⟨hne, t, k, ht, rfl⟩
  · have hy : y = .slice none 0 0 := by
      cases r2 with
      | nil _ => rfl
      | sl q1 q2 q3 q4 q5 q6 => exact absurd rfl q6.2
    subst hy
    refine (Any.Builder_String_nil Tryz.lays169 Tryz.Builder_Extra_169 w.heap.size b x w hw).mono ?_
    rintro e w' ⟨rfl, hB⟩
    exact ⟨G, m, .ret (bs []), Gh.le.refl G, hD, hR.below hB, hB.mono hR.base, .ret (.val rfl), rfl, fun c x hc _ => hc⟩
  · have hy : ∃ (a : Addr) (cap : Nat), y = .slice (some a) l.length cap ∧ l.length ≤ cap ∧ G.has a (l.map fun b => Value.int .u8 b.toNat) ∧ G.H t k = some (a.block, a.off + l.length, a.off + cap) := by
      obtain ⟨c, r, rfl⟩ : ∃ c r, l = c :: r := by
        cases l with
        | nil => exact absurd rfl hne
        | cons c r => exact ⟨c, r, rfl⟩
      cases r2 with
      | @sl _ _ _ us a cap sz q1 q2 q3 q4 q5 q6 =>
        have hsz : sz = 1 := (q1 (by8 c) (by simp)).symm
        subst hsz
        have hfl : flat ((c :: r).map by8 ++ []) = (c :: r).map by8 := by
          have : ∀ l : List UInt8, flat (l.map by8) = l.map by8 := by
            intro l
            induction l with
            | nil => rfl
            | cons b l ih => rw [List.map_cons, flat_cons, ih]; rfl
          rw [List.append_nil, this]
        rw [hfl] at q2
        have hus := by8s_inv q2
        subst hus
        have q6' : G.H t k = some (a.block, a.off + ((c :: r).map by8).length * 1, a.off + cap * 1) := q6
        rw [List.length_map, Nat.mul_one, Nat.mul_one] at q6'
        exact ⟨a, cap, by rw [List.length_map], by simpa using q4, q3, q6'⟩
    obtain ⟨a, cap, rfl, hcap, hhas, hH⟩ := hy
    have htm := or_left (f := mF) ht
    obtain ⟨_, B, E, C, p1, p2, p3, p4, ⟨cs, fz, p5⟩, p6⟩ := hR.tip t 5 k htm
    rw [hH] at p1
    simp only [Option.some.injEq, Prod.mk.injEq] at p1
    obtain ⟨rfl, rfl, rfl⟩ := p1
    have hcell : ∀ j x, l[j]? = some x → w.cell? (a.add j) = some (.int .u8 x.toNat) := by
      intro j x hx
      have hk := hhas.2 j (.int .u8 x.toNat) (by simp [hx])
      have := hR.K _ _ _ hk
      rw [add_plain hhas.1]
      exact this
    have hsz : a.off + l.length ≤ cs.size := by
      have hl0 : 0 < l.length := by cases l with | nil => exact absurd rfl hne | cons _ _ => simp
      have := hcell (l.length - 1) l[l.length - 1] (by simp [hl0])
      rw [add_plain hhas.1] at this
      simp only [World.cell?, p5] at this
      have h2 := (Array.getElem?_eq_some_iff.1 this).1
      omega
    refine (builderString_at Tryz.lays169 Tryz.Builder_Extra_169 b x a cap cs.size l w hw hne hcap (by omega) (by simp [World.shape?, p5]; rfl) hsz hcell).mono ?_
    rintro e w' ⟨rfl, rfl⟩
    have hfz := hR.drew.freeze htm (a := a) (n := l.length) hH
    have hor : (fun c => if c = t then none else (m.or mF) c) = Store.or (fun c => if c = t then none else m c) mF := by
      funext c
      by_cases e : c = t
      · subst e
        have := hD.of_some ht
        simp [Store.or, this]
      · simp [Store.or, e]
    rw [hor] at hfz
    refine ⟨G, _, .ret (bs l), Gh.le.refl G, fun c => ?_, hfz, Lib.below_freeze (Below.drew (Below.refl B0 w)) p2 _, .ret (.val rfl), rfl, fun c x hc hk => ?_⟩
    · rcases hD c with h | h
      · left
        by_cases e : c = t
        · simp [e]
        · simp [e, h]
      · exact .inr h
    · have : c ≠ t := by rintro rfl; exact hk _ _ rfl
      simp [this, hc]
theorem libOk {Γ : Glob} : LibOk Γ where
  clone := clone41
  copyCheck := copy48
  string := string37
  indexByte := fun m s c _ => index38 m s c
end Go.Av.Fn
/- Numerals read, written small ones; texts cut at a blank. Condition: what two variables hold. -/
namespace Go.Av.Fn
set_option linter.unusedSimpArgs false
set_option linter.unusedVariables false
set_option maxRecDepth 10000
open Go.Proofs Go.RowKit
def ParseOut (s : List UInt8) (o : Out) : Prop := match Lib.parseIntB 64 s with
  | .ok n => o = .ret (.tup [it n, .val .nilIface])
  | _ => ∃ (n : Int) (T : TypeId) (u : V), o = .ret (.tup [it n, .ifc T u])
theorem parse_any {Γ : Glob} {T T' : TypeId} {v v' : V} (hr : Γ 5 = some [.ifc T v]) (hsy : Γ 4 = some [.ifc T' v']) (m : Store) (s : List UInt8) (hs : s.length ≤ 281474976710656) :
    ACalls Tryz.prog Γ 125 [bs s, it 10, it 64] m fun o m' => ParseOut s o ∧ m' = m := by
  refine ⟨by kernel_rfl, fun G B0 mF w cargs hD hR hL => ?_⟩
  obtain ⟨c1, r1, rfl, h1, hL⟩ := hL.cons_inv
  obtain ⟨c2, r2, rfl, h2, hL⟩ := hL.cons_inv
  obtain ⟨c3, r3, rfl, h3, hL⟩ := hL.cons_inv
  obtain rfl := hL.nil_inv
  cases h1
  cases h2
  cases h3
  have hsz : (⟨s.toArray⟩ : ByteArray).data.toList = s := by simp
  have hsz2 : (⟨s.toArray⟩ : ByteArray).size = s.length := by simp [ByteArray.size]
  unfold ParseOut
  cases hp : Lib.parseIntB 64 s with
  | ok n =>
    refine (Tryz.strconv_ParseInt_10_at64_ok ⟨s.toArray⟩ (by omega) n (by rw [hsz]; exact hp) w).mono ?_
    rintro e w' ⟨rfl, hw⟩
    have hB : Below w.heap.size w w' := by
      rcases hw with rfl | ⟨t, rfl⟩
      · exact Below.refl _ _
      · exact Lib.bytesWorld_below w 5 t
    exact ⟨G, m, .ret (.tup [it n, .val .nilIface]), Gh.le.refl G, hD, hR.below hB, hB.mono hR.base, .ret (.tup (.cons (.val rfl) (.cons (.val rfl) .nil))), rfl, rfl⟩
  | range =>
    obtain ⟨us, g1, g2⟩ := hR.glob 5 _ hr
    obtain ⟨u, ys, rfl, g3, g4⟩ := g1.cons_inv
    obtain rfl := g4.nil_inv
    have hcell := hR.K 5 0 u (g2.2 0 u rfl)
    cases g3 with
    | ifc g3 =>
      refine (Tryz.strconv_ParseInt_10_at64_range ⟨s.toArray⟩ (by omega) (by rw [hsz]; exact hp) _ w hcell (.inr ⟨_, _, rfl⟩)).mono ?_
      rintro e w' ⟨N, rfl, _, _, hB⟩
      exact ⟨G, m, .ret (.tup [it (Lib.intSat 64 (ByteArray.mk s.toArray).data.toList), .ifc 210 (.ptr N 0)]), Gh.le.refl G, hD, hR.below hB, hB.mono hR.base, .ret (.tup (.cons (.val rfl) (.cons (.ifc (.ptr _ _)) .nil))), ⟨_, _, _, rfl⟩, rfl⟩
  | _ =>
    obtain ⟨us, g1, g2⟩ := hR.glob 4 _ hsy
    obtain ⟨u, ys, rfl, g3, g4⟩ := g1.cons_inv
    obtain rfl := g4.nil_inv
    have hcell := hR.K 4 0 u (g2.2 0 u rfl)
    cases g3 with
    | ifc g3 =>
      refine (Tryz.strconv_ParseInt_10_at64_syntax ⟨s.toArray⟩ (by omega) (by rw [hsz]; exact hp) _ w hcell (.inr ⟨_, _, rfl⟩)).mono ?_
      rintro e w' ⟨N, rfl, _, _, hB⟩
      exact ⟨G, m, .ret (.tup [it 0, .ifc 210 (.ptr N 0)]), Gh.le.refl G, hD, hR.below hB, hB.mono hR.base, .ret (.tup (.cons (.val rfl) (.cons (.ifc (.ptr _ _)) .nil))), ⟨_, _, _, rfl⟩, rfl⟩
def FmtAt (Γ : Glob) (n : Int) : Prop := ∀ m, ACalls Tryz.prog Γ 129 [it n, it 10] m fun o m' => o = .ret (bs (Lib.itoa n)) ∧ m' = m
theorem itoa_nat (i : Nat) : Lib.itoa (i : Int) = Lib.decDigits i := by
  unfold Lib.itoa
  rw [if_neg (by omega), Int.toNat_natCast]
theorem fmt_small {Γ : Glob} (i : Nat) (hi : i < 100) : FmtAt Γ (i : Int) := fun m => by
  rw [itoa_nat]
  exact ACalls.of_vals (xs := [.int .i64 i, .int .i64 10]) (u := .string ⟨(Lib.decDigits i).toArray⟩) (by kernel_rfl) rfl (fun w => (Tryz.internal_strconv_FormatInt_10_small i hi w).mono (by
    rintro e w' ⟨rfl, rfl⟩
    exact ⟨rfl, Below.refl _ _⟩))
def powV : List V := Lib.pow10Tab.map fun z => .val (.int .u64 z)
theorem fmt_pub {Γ : Glob} {m : Store} {n : Int} (h : FmtAt Γ n) : ACalls Tryz.prog Γ 126 [it n, it 10] m fun o m' => o = .ret (bs (Lib.itoa n)) ∧ m' = m := by
  refine acalls_of_awp mixed F126_ok (by rintro v m b x _ ⟨⟨⟩, _⟩) ?_
  simp only [F126, start, List.cons_append, List.nil_append, List.length_cons, List.length_nil, List.replicate, Nat.reduceSub, Nat.reduceAdd]
  simp only [ssS, bin_or, bin_and, Nat.reduceAdd, Nat.reduceLeDiff, reduceIte, eq_self, Nat.reduceEqDiff]
  refine callS_pure (h _) ?_
  simp only [ssS, bin_or, bin_and, Nat.reduceAdd, Nat.reduceLeDiff, reduceIte, eq_self, Nat.reduceEqDiff]
  exact bodyA_ret resV_one ⟨rfl, rfl⟩
theorem itoa_ok {Γ : Glob} {m : Store} {n : Int} (h : FmtAt Γ n) : ACalls Tryz.prog Γ 62 [it n] m fun o m' => o = .ret (bs (Lib.itoa n)) ∧ m' = m := by
  refine acalls_of_awp mixed F62_ok (by rintro v m b x _ ⟨⟨⟩, _⟩) ?_
  simp only [F62, start, List.cons_append, List.nil_append, List.length_cons, List.length_nil, List.replicate, Nat.reduceSub, Nat.reduceAdd]
  simp only [ssS, bin_or, bin_and, Nat.reduceAdd, Nat.reduceLeDiff, reduceIte, eq_self, Nat.reduceEqDiff]
  refine callS_pure (v := bs (Lib.itoa n)) ?_ ?_
  · refine acalls_of_awp mixed F104_ok (by rintro v m b x _ ⟨⟨⟩, _⟩) ?_
    simp only [F104, start, List.cons_append, List.nil_append, List.length_cons, List.length_nil, List.replicate, Nat.reduceSub, Nat.reduceAdd]
    simp only [ssS, bin_or, bin_and, Nat.reduceAdd, Nat.reduceLeDiff, reduceIte, eq_self, Nat.reduceEqDiff]
    refine callS_pure (h _) ?_
    simp only [ssS, bin_or, bin_and, Nat.reduceAdd, Nat.reduceLeDiff, reduceIte, eq_self, Nat.reduceEqDiff]
    exact bodyA_ret resV_one ⟨rfl, rfl⟩
  · simp only [ssS, bin_or, bin_and, Nat.reduceAdd, Nat.reduceLeDiff, reduceIte, eq_self, Nat.reduceEqDiff]
    exact bodyA_ret resV_one ⟨rfl, rfl⟩
/-! ### Cut at a blank -/
def cutB (s : List UInt8) : List UInt8 × List UInt8 × Bool := match s.findIdx? (· == 32) with
  | some i => (s.take i, s.drop (i + 1), true)
  | none => (s, [], false)
section
variable {Γ : Glob} {m : Store}
theorem lIndexByte_ok (s : List UInt8) (c : UInt8) : ACalls Tryz.prog Γ 137 [bs s, by8 c] m fun o m' => o = .ret (it (idxB s c)) ∧ m' = m :=
  ACalls.of_vals (xs := [.string ⟨s.toArray⟩, .int .u8 c.toNat]) (u := .int .i64 (idxB s c)) (by kernel_rfl) rfl (fun w => (Tryz.stringslite_IndexByte ⟨s.toArray⟩ c.toNat w).mono (by
    rintro e w' ⟨rfl, rfl⟩
    refine ⟨?_, Below.refl _ _⟩
    have e1 : (c.toNat : Int).toNat.toUInt8 = c := by simp
    rw [e1, ← idxB_eq]))
theorem c1 : ((1 : Nat) : Int) = 1 := rfl
theorem c3 : ((3 : Nat) : Int) = 3 := rfl
theorem at32 : idxStrV (bs [32]) (.val (.int .i64 0)) = some (by8 32) := rfl
theorem lIndex_ok (s : List UInt8) : ACalls Tryz.prog Γ 124 [bs s, bs [32]] m fun o m' => o = .ret (it (idxB s 32)) ∧ m' = m := by
  refine acalls_of_awp mixed F124_ok (by rintro v m b x _ ⟨⟨⟩, _⟩) ?_
  simp only [F124, start, List.cons_append, List.nil_append, List.length_cons, List.length_nil, List.replicate, Nat.reduceSub, Nat.reduceAdd]
  simp only [c1, show ((1 : Int) == 0) = false from rfl, ssS, bin_or, bin_and, Nat.reduceAdd, Nat.reduceLeDiff, reduceIte, eq_self, Nat.reduceEqDiff]
  cases h : (([32] : List UInt8) == s)
  · simp only [c1, at32, show ((1 : Int) == 1) = true from rfl, show ((1 : Int) == 0) = false from rfl, h, ssS, bin_or, bin_and, Nat.reduceAdd, Nat.reduceLeDiff, reduceIte, eq_self, Nat.reduceEqDiff]
    refine callS_pure (lIndexByte_ok s 32) ?_
    simp only [ssS, bin_or, bin_and, Nat.reduceAdd, Nat.reduceLeDiff, reduceIte, eq_self, Nat.reduceEqDiff]
    exact bodyA_ret resV_one ⟨rfl, rfl⟩
  · simp only [c1, show ((1 : Int) == 0) = false from rfl, h, ssS, bin_or, bin_and, Nat.reduceAdd, Nat.reduceLeDiff, reduceIte, eq_self, Nat.reduceEqDiff]
    refine bodyA_ret resV_one ⟨?_, rfl⟩
    rw [← eq_of_beq h]
    rfl
theorem lCut_ok (s : List UInt8) (hs : s.length ≤ 281474976710656) : ACalls Tryz.prog Γ 99 [bs s, bs [32]] m fun o m' => o = .ret (.tup [bs (cutB s).1, bs (cutB s).2.1, .val (.bool (cutB s).2.2)]) ∧ m' = m := by
  refine acalls_of_awp mixed F99_ok (by rintro v m b x _ ⟨⟨⟩, _⟩) ?_
  simp only [F99, start, List.cons_append, List.nil_append, List.length_cons, List.length_nil, List.replicate, Nat.reduceSub, Nat.reduceAdd]
  simp only [ssS, bin_or, bin_and, Nat.reduceAdd, Nat.reduceLeDiff, reduceIte, eq_self, Nat.reduceEqDiff]
  refine callS_pure (lIndex_ok s) ?_
  unfold idxB cutB
  cases h : s.findIdx? (· == 32) with
  | none =>
    simp only [show decide ((-1 : Int) ≥ 0) = false from rfl, ssS, bin_or, bin_and, Nat.reduceAdd, Nat.reduceLeDiff, reduceIte, eq_self, Nat.reduceEqDiff]
    exact bodyA_ret resV_three ⟨rfl, rfl⟩
  | some i =>
    have hi : i < s.length := by
      obtain ⟨hi, _⟩ := List.findIdx?_eq_some_iff_getElem.1 h
      exact hi
    have hd : decide ((i : Int) ≥ 0) = true := decide_eq_true (by omega)
    simp only [hd, c1, next_i64 (show i < 4611686018427387904 by omega), slice_upto (show i ≤ s.length by omega), slice_from (show i + 1 ≤ s.length by omega), ssS, bin_or, bin_and, Nat.reduceAdd, Nat.reduceLeDiff, reduceIte, eq_self, Nat.reduceEqDiff]
    exact bodyA_ret resV_three ⟨rfl, rfl⟩
theorem cut_ok (s : List UInt8) (hs : s.length ≤ 281474976710656) : ACalls Tryz.prog Γ 55 [bs s, bs [32]] m fun o m' => o = .ret (.tup [bs (cutB s).1, bs (cutB s).2.1, .val (.bool (cutB s).2.2)]) ∧ m' = m := by
  refine acalls_of_awp mixed F55_ok (by rintro v m b x _ ⟨⟨⟩, _⟩) ?_
  simp only [F55, start, List.cons_append, List.nil_append, List.length_cons, List.length_nil, List.replicate, Nat.reduceSub, Nat.reduceAdd]
  simp only [ssS, bin_or, bin_and, Nat.reduceAdd, Nat.reduceLeDiff, reduceIte, eq_self, Nat.reduceEqDiff]
  refine callS_pure (lCut_ok s hs) ?_
  simp only [ssS, bin_or, bin_and, Nat.reduceAdd, Nat.reduceLeDiff, reduceIte, eq_self, Nat.reduceEqDiff]
  exact bodyA_ret resV_three ⟨rfl, rfl⟩
def cutIf (s : List UInt8) : List UInt8 × Bool := if [105, 102, 32].isPrefixOf s = true then (s.drop 3, true) else (s, false)
theorem len_if : lenV true (bs [105, 102, 32]) = some (it (3 : Nat)) := rfl
theorem cutIf_ok (s : List UInt8) : ACalls Tryz.prog Γ 102 [bs s, bs [105, 102, 32]] m fun o m' => o = .ret (.tup [bs (cutIf s).1, .val (.bool (cutIf s).2)]) ∧ m' = m := by
  refine acalls_of_awp mixed F102_ok (by rintro v m b x _ ⟨⟨⟩, _⟩) ?_
  simp only [F102, start, List.cons_append, List.nil_append, List.length_cons, List.length_nil, List.replicate, Nat.reduceSub, Nat.reduceAdd]
  simp only [ssS, bin_or, bin_and, Nat.reduceAdd, Nat.reduceLeDiff, reduceIte, eq_self, Nat.reduceEqDiff]
  refine callS_pure (v := .tup [bs (cutIf s).1, .val (.bool (cutIf s).2)]) ?_ ?_
  · refine acalls_of_awp mixed F127_ok (by rintro v m b x _ ⟨⟨⟩, _⟩) ?_
    simp only [F127, start, List.cons_append, List.nil_append, List.length_cons, List.length_nil, List.replicate, Nat.reduceSub, Nat.reduceAdd]
    simp only [ssS, bin_or, bin_and, Nat.reduceAdd, Nat.reduceLeDiff, reduceIte, eq_self, Nat.reduceEqDiff]
    refine callS_pure (hasPrefix_ok s _) ?_
    unfold cutIf
    cases h : ([105, 102, 32] : List UInt8).isPrefixOf s
    · simp only [Bool.not_false, ssS, bin_or, bin_and, Nat.reduceAdd, Nat.reduceLeDiff, reduceIte, eq_self, Nat.reduceEqDiff]
      exact bodyA_ret resV_two ⟨rfl, rfl⟩
    · have := pre_len h
      simp only [Bool.not_true, len_if, slice_from (show 3 ≤ s.length from this), ssS, bin_or, bin_and, Nat.reduceAdd, Nat.reduceLeDiff, reduceIte, eq_self, Nat.reduceEqDiff]
      exact bodyA_ret resV_two ⟨rfl, rfl⟩
  · simp only [ssS, bin_or, bin_and, Nat.reduceAdd, Nat.reduceLeDiff, reduceIte, eq_self, Nat.reduceEqDiff]
    exact bodyA_ret resV_two ⟨rfl, rfl⟩
end
end Go.Av.Fn
/- A command's text read, and written: what the program tells. Conditions: the library's functions; numbers are written (FmtAt) where they are. -/
namespace Go.Av.Fn
set_option linter.unusedSimpArgs false
set_option linter.unusedVariables false
set_option maxRecDepth 10000
open Go.Proofs
structure Env2 (Γ : Glob) : Prop where
  env : Env Γ
  range : ∃ T v, Γ 5 = some [.ifc T v]
  syn : ∃ T v, Γ 4 = some [.ifc T v]
def numB (s : List UInt8) : Int × List UInt8 × Bool := match Lib.parseIntB 64 (cutB s).1 with
  | .ok n => if (Lib.itoa n == (cutB s).1) = true then (n, (cutB s).2.1, (cutB s).2.2) else (-1, [], false)
  | _ => (-1, [], false)
def FmtNum (Γ : Glob) (s : List UInt8) : Prop := ∀ n, Lib.parseIntB 64 (cutB s).1 = .ok n → FmtAt Γ n
def behB (f : Form) (rest : List UInt8) (no : Bool) : Int × List UInt8 × Bool :=
  if (no || (!f.n && !f.s)) = true then (0, [], no && !f.n && !f.s)
  else if f.n = false then (0, rest, true)
  else if (numB rest).2.2 = false then ((numB rest).1, [], decide ((numB rest).1 ≥ 0))
  else ((numB rest).1, (cutIf (numB rest).2.1).1, (cutIf (numB rest).2.1).2 && f.s && !((cutIf (numB rest).2.1).1 == []))
def tryK (s : List UInt8) (k : Nat) : Option (Int × Int × List UInt8) :=
  if ((formOf k).w == (cutB s).1) = true then
    (if ((behB (formOf k) (cutB s).2.1 (!(cutB s).2.2)).2.2 && rightB k (behB (formOf k) (cutB s).2.1 (!(cutB s).2.2)).1 (behB (formOf k) (cutB s).2.1 (!(cutB s).2.2)).2.1) = true
      then some (k, (behB (formOf k) (cutB s).2.1 (!(cutB s).2.2)).1, (behB (formOf k) (cutB s).2.1 (!(cutB s).2.2)).2.1) else none)
  else none
def tryFrom (s : List UInt8) : Nat → Nat → Option (Int × Int × List UInt8)
  | 0, _ => none
  | n + 1, k => match tryK s k with
    | some x => some x
    | none => tryFrom s n (k + 1)
def parseC (s : List UInt8) : Option (Int × Int × List UInt8) := tryFrom s 17 1
def parseV (s : List UInt8) : V := match parseC s with
  | some (k, n, t) => .tup [cmdV k n t, it 0]
  | none => .tup [cmdV 0 0 [], it 6]
theorem cutB_len (s : List UInt8) : (cutB s).1.length ≤ s.length ∧ (cutB s).2.1.length ≤ s.length := by
  unfold cutB
  split
  · simp; omega
  · simp
theorem ifc_nil {T : TypeId} {u : V} {xo yo : Operand} : binV Tryz.prog .neq 163 .iface xo yo (.ifc T u) (.val .nilIface) = some (.val (.bool true)) := rfl
theorem nil_nil : binV Tryz.prog .neq 163 .iface (.tmp 21) (.const .nilIface) (.val .nilIface) (.val .nilIface) = some (.val (.bool false)) := by kernel_rfl
section
variable {Γ : Glob} {m : Store}
theorem number_ok2 (E : Env2 Γ) (s : List UInt8) (hs : s.length ≤ 281474976710656) (hf : FmtNum Γ s) : ACalls Tryz.prog Γ 100 [bs s] m fun o m' => o = .ret (.tup [it (numB s).1, bs (numB s).2.1, .val (.bool (numB s).2.2)]) ∧ m' = m := by
  obtain ⟨T, v, hr⟩ := E.range
  obtain ⟨T', v', hsy⟩ := E.syn
  refine acalls_of_awp mixed F100_ok (by rintro v m b x _ ⟨⟨⟩, _⟩) ?_
  simp only [F100, start, List.cons_append, List.nil_append, List.length_cons, List.length_nil, List.replicate, Nat.reduceSub, Nat.reduceAdd]
  simp only [ssS, bin_or, bin_and, Nat.reduceAdd, Nat.reduceLeDiff, reduceIte, eq_self, Nat.reduceEqDiff]
  refine callS_pure (cut_ok s hs) ?_
  simp only [ssS, bin_or, bin_and, Nat.reduceAdd, Nat.reduceLeDiff, reduceIte, eq_self, Nat.reduceEqDiff]
  refine callS_of (parse_any hr hsy _ (cutB s).1 (by have := cutB_len s; omega)) ?_ (by
    rintro v m' ⟨h, _⟩
    unfold ParseOut at h
    split at h
    · cases h
    · obtain ⟨_, _, _, ⟨⟩⟩ := h)
  rintro v m' ⟨h, rfl⟩
  unfold ParseOut at h
  unfold numB
  cases hp : Lib.parseIntB 64 (cutB s).1 with
  | ok n =>
    rw [hp] at h
    cases h
    simp only [nil_nil, ssS, bin_or, bin_and, Nat.reduceAdd, Nat.reduceLeDiff, reduceIte, eq_self, Nat.reduceEqDiff]
    refine callS_pure (fmt_pub (hf n hp)) ?_
    cases he : (Lib.itoa n == (cutB s).1)
    · simp only [he, Bool.not_false, ssS, bin_or, bin_and, Nat.reduceAdd, Nat.reduceLeDiff, reduceIte, eq_self, Nat.reduceEqDiff]
      exact bodyA_ret resV_three ⟨rfl, rfl⟩
    · simp only [he, Bool.not_true, ssS, bin_or, bin_and, Nat.reduceAdd, Nat.reduceLeDiff, reduceIte, eq_self, Nat.reduceEqDiff]
      exact bodyA_ret resV_three ⟨rfl, rfl⟩
  | range =>
    rw [hp] at h
    obtain ⟨n, T, u, h⟩ := h
    cases h
    simp only [ifc_nil, ssS, bin_or, bin_and, Nat.reduceAdd, Nat.reduceLeDiff, reduceIte, eq_self, Nat.reduceEqDiff]
    exact bodyA_ret resV_three ⟨rfl, rfl⟩
  | _ =>
    rw [hp] at h
    obtain ⟨n, T, u, h⟩ := h
    cases h
    simp only [ifc_nil, ssS, bin_or, bin_and, Nat.reduceAdd, Nat.reduceLeDiff, reduceIte, eq_self, Nat.reduceEqDiff]
    exact bodyA_ret resV_three ⟨rfl, rfl⟩
theorem behind1_ok (s : List UInt8) : ACalls Tryz.prog Γ 101 [bs s] m fun o m' => o = .ret (.tup [bs (cutIf s).1, .val (.bool (cutIf s).2)]) ∧ m' = m := by
  refine acalls_of_awp mixed F101_ok (by rintro v m b x _ ⟨⟨⟩, _⟩) ?_
  simp only [F101, start, List.cons_append, List.nil_append, List.length_cons, List.length_nil, List.replicate, Nat.reduceSub, Nat.reduceAdd]
  simp only [ssS, bin_or, bin_and, Nat.reduceAdd, Nat.reduceLeDiff, reduceIte, eq_self, Nat.reduceEqDiff]
  refine callS_pure (cutIf_ok s) ?_
  simp only [ssS, bin_or, bin_and, Nat.reduceAdd, Nat.reduceLeDiff, reduceIte, eq_self, Nat.reduceEqDiff]
  exact bodyA_ret resV_two ⟨rfl, rfl⟩
theorem behind_ok (E : Env2 Γ) (f : Form) (s : List UInt8) (no : Bool) (hs : s.length ≤ 281474976710656) (hf : f.n = true → no = false → FmtNum Γ s) :
    ACalls Tryz.prog Γ 57 [formV f, bs s, .val (.bool no)] m fun o m' => o = .ret (.tup [it (behB f s no).1, bs (behB f s no).2.1, .val (.bool (behB f s no).2.2)]) ∧ m' = m := by
  obtain ⟨w, le, fn, fs⟩ := f
  refine ACalls.less (A := fun o m' => o = .ret (.tup [it (behB ⟨w, le, fn, fs⟩ s no).1, bs (behB ⟨w, le, fn, fs⟩ s no).2.1, .val (.bool (behB ⟨w, le, fn, fs⟩ s no).2.2)]) ∧ SubS m m') ?_ fun o m' h => ⟨m, h.2, h.1, rfl⟩
  refine acalls_of_awp mixed F57_ok (by rintro v m b x _ ⟨⟨⟩, _⟩) ?_
  simp only [F57, formV, start, List.cons_append, List.nil_append, List.length_cons, List.length_nil, List.replicate, Nat.reduceSub, Nat.reduceAdd]
  simp only [ssS, bin_or, bin_and, Nat.reduceAdd, Nat.reduceLeDiff, reduceIte, eq_self, Nat.reduceEqDiff]
  refine allocS_of fun b hb => ?_
  have hS : ∀ x, SubS m (m.set b x) := fun x => (SubS.refl m).out hb x
  cases no
  case true =>
    cases fn
    · cases fs
      · simp only [Store.set_same, Bool.not_false, Bool.not_true, ssS, bin_or, bin_and, Nat.reduceAdd, Nat.reduceLeDiff, reduceIte, eq_self, Nat.reduceEqDiff]
        exact bodyA_ret resV_three ⟨rfl, hS _⟩
      · simp only [Store.set_same, Bool.not_false, Bool.not_true, ssS, bin_or, bin_and, Nat.reduceAdd, Nat.reduceLeDiff, reduceIte, eq_self, Nat.reduceEqDiff]
        exact bodyA_ret resV_three ⟨rfl, hS _⟩
    · simp only [Store.set_same, Bool.not_false, Bool.not_true, ssS, bin_or, bin_and, Nat.reduceAdd, Nat.reduceLeDiff, reduceIte, eq_self, Nat.reduceEqDiff]
      exact bodyA_ret resV_three ⟨rfl, hS _⟩
  case false =>
    cases fn
    case false =>
      cases fs
      · simp only [Store.set_same, Bool.not_false, Bool.not_true, ssS, bin_or, bin_and, Nat.reduceAdd, Nat.reduceLeDiff, reduceIte, eq_self, Nat.reduceEqDiff]
        exact bodyA_ret resV_three ⟨rfl, hS _⟩
      · simp only [Store.set_same, Bool.not_false, Bool.not_true, ssS, bin_or, bin_and, Nat.reduceAdd, Nat.reduceLeDiff, reduceIte, eq_self, Nat.reduceEqDiff]
        exact bodyA_ret resV_three ⟨rfl, hS _⟩
    case true =>
      simp only [Store.set_same, Bool.not_false, Bool.not_true, ssS, bin_or, bin_and, Nat.reduceAdd, Nat.reduceLeDiff, reduceIte, eq_self, Nat.reduceEqDiff]
      refine callS_pure (number_ok2 E s hs (hf rfl rfl)) ?_
      have hb1 : behB ⟨w, le, true, fs⟩ s false = if (numB s).2.2 = false then ((numB s).1, [], decide ((numB s).1 ≥ 0)) else ((numB s).1, (cutIf (numB s).2.1).1, (cutIf (numB s).2.1).2 && fs && !((cutIf (numB s).2.1).1 == [])) := by
        unfold behB
        rfl
      rw [hb1]
      cases hm : (numB s).2.2
      · simp only [hm, Bool.not_false, ssS, bin_or, bin_and, Nat.reduceAdd, Nat.reduceLeDiff, reduceIte, eq_self, Nat.reduceEqDiff]
        exact bodyA_ret resV_three ⟨rfl, hS _⟩
      · simp only [hm, Bool.not_true, ssS, bin_or, bin_and, Nat.reduceAdd, Nat.reduceLeDiff, reduceIte, eq_self, Nat.reduceEqDiff]
        refine callS_pure (behind1_ok _) ?_
        simp only [Store.set_same, ssS, bin_or, bin_and, Nat.reduceAdd, Nat.reduceLeDiff, reduceIte, eq_self, Nat.reduceEqDiff]
        cases h1 : (cutIf (numB s).2.1).2
        · simp only [h1, Store.set_same, ssS, bin_or, bin_and, Nat.reduceAdd, Nat.reduceLeDiff, reduceIte, eq_self, Nat.reduceEqDiff]
          refine bodyA_ret resV_three ⟨?_, hS _⟩
          simp only [tget_zero, tget_succ]
          rfl
        · cases fs
          · simp only [h1, Store.set_same, ssS, bin_or, bin_and, Nat.reduceAdd, Nat.reduceLeDiff, reduceIte, eq_self, Nat.reduceEqDiff]
            refine bodyA_ret resV_three ⟨?_, hS _⟩
            simp only [tget_zero, tget_succ]
            rfl
          · simp only [h1, Store.set_same, ssS, bin_or, bin_and, Nat.reduceAdd, Nat.reduceLeDiff, reduceIte, eq_self, Nat.reduceEqDiff]
            refine bodyA_ret resV_three ⟨?_, hS _⟩
            simp only [tget_zero, tget_succ]
            rfl
end
end Go.Av.Fn
/- A command's text read: all of it. Conditions as ahead. -/
namespace Go.Av
theorem resV_cut {x y : Nat} {b o : Nat} {T : TypeId} {sz : Option Nat} {cs : List V} {u : V} {t : List V} {m : Store} (h1 : tget t x = .ptr b o) (h2 : m b = some (.var T cs)) (h3 : partV cs o sz = some u) : resV [.cell x sz, .tmp y] ⟨t, m⟩ = some (.tup [u, tget t y]) := by
  simp only [resV, resAll, resOne, tget_eq, h1, h2, h3, Option.map_some]
end Go.Av
namespace Go.Av.Fn
set_option linter.unusedSimpArgs false
set_option linter.unusedVariables false
set_option maxRecDepth 10000
open Go.Proofs
section
variable {Γ : Glob} {m : Store}
theorem parse_ok (E : Env2 Γ) (s : List UInt8) (hs : s.length ≤ 281474976710656) (hf : (cutB s).2.2 = true → FmtNum Γ (cutB s).2.1) : ACalls Tryz.prog Γ 15 [bs s] m fun o m' => o = .ret (parseV s) ∧ m' = m := by
  refine ACalls.less (A := fun o m' => o = .ret (parseV s) ∧ SubS m m') ?_ fun o m' h => ⟨m, h.2, h.1, rfl⟩
  refine acalls_of_awp mixed F15_ok (by rintro v m b x _ ⟨⟨⟩, _⟩) ?_
  simp only [F15, start, List.cons_append, List.nil_append, List.length_cons, List.length_nil, List.replicate, Nat.reduceSub, Nat.reduceAdd]
  simp only [ssS, bin_or, bin_and, Nat.reduceAdd, Nat.reduceLeDiff, reduceIte, eq_self, Nat.reduceEqDiff]
  refine allocS_of fun b2 hb2 => ?_
  simp only [ssS, bin_or, bin_and, Nat.reduceAdd, Nat.reduceLeDiff, reduceIte, eq_self, Nat.reduceEqDiff]
  refine callS_pure (cut_ok s hs) ?_
  simp only [ssS, bin_or, bin_and, Nat.reduceAdd, Nat.reduceLeDiff, reduceIte, eq_self, Nat.reduceEqDiff]
  obtain ⟨w, rest, more, hc⟩ : ∃ w rest more, cutB s = (w, rest, more) := ⟨_, _, _, rfl⟩
  have hlen := (cutB_len s).2
  rw [hc] at hf hlen
  simp only [hc]
  refine awp_loop' (fun j st => ∃ k : Nat, j = 18 - k ∧ 1 ≤ k ∧ k ≤ 18 ∧ tryFrom s (18 - k) k = parseC s ∧ SubS m st.m ∧ st.m b2 = some (.var 24 [it 0, it 0, bs []]) ∧ st.t.length = 49 ∧ tget st.t 2 = .ptr b2 0 ∧ tget st.t 4 = bs w ∧ tget st.t 5 = bs rest ∧ tget st.t 6 = .val (.bool more) ∧ tget st.t 7 = it k)
    17 ⟨1, rfl, by omega, by omega, rfl, (SubS.refl m).out hb2 _, Store.set_same _ _ _, rfl, rfl, rfl, rfl, rfl, rfl⟩ ?_
  rintro j ⟨t, S⟩ J hJ ⟨k, hj, hk1, hk2, htry, hS, s2, hlen2, t2, t4, t5, t6, t7⟩
  simp only at hS s2 hlen2 t2 t4 t5 t6 t7
  rw [t_eq hlen2]
  simp only [upTo_succ, upTo_zero, Nat.reduceAdd, t2, t4, t5, t6, t7]
  simp only [ssS, bin_or, bin_and, Nat.reduceAdd, Nat.reduceLeDiff, reduceIte, eq_self, Nat.reduceEqDiff]
  refine condS_split (fun h => ?_) (fun h => ?_)
  · have hk : k ≤ 17 := by have := of_decide_eq_true h; omega
    obtain ⟨r, hr⟩ : ∃ r, 18 - k = r + 1 := ⟨17 - k, by omega⟩
    rw [hr] at htry
    simp only [tryFrom] at htry
    have hnext : tryK s k = none → tryFrom s (18 - (k + 1)) (k + 1) = parseC s := by
      intro h0
      rw [h0] at htry
      rw [← htry]
      congr 1
      omega
    simp only [ssS, bin_or, bin_and, Nat.reduceAdd, Nat.reduceLeDiff, reduceIte, eq_self, Nat.reduceEqDiff]
    refine callS_pure (of_ok (k : Int)) ?_
    obtain ⟨fw, le, fn, fs, hff⟩ : ∃ fw le fn fs, formOf (k : Int) = ⟨fw, le, fn, fs⟩ := ⟨_, _, _, _, rfl⟩
    simp only [hff, formV, ssS, bin_or, bin_and, Nat.reduceAdd, Nat.reduceLeDiff, reduceIte, eq_self, Nat.reduceEqDiff]
    refine allocS_of fun b8 hb8 => ?_
    have h28 : b2 ≠ b8 := ne_of_some s2 hb8
    have hS8 : ∀ x, SubS m (S.set b8 x) := fun x => hS.out (hS.none hb8) x
    simp only [Store.set_same, Store.set_set, ssS, bin_or, bin_and, Nat.reduceAdd, Nat.reduceLeDiff, reduceIte, eq_self, Nat.reduceEqDiff]
    cases hw : (fw == w)
    · have htk : tryK s k = none := by
        unfold tryK
        rw [hff, hc]
        simp only [hw, Bool.false_eq_true, if_false]
      simp only [hw, Bool.not_false, next_i64 (show k < 4611686018427387904 by omega), ssS, bin_or, bin_and, Nat.reduceAdd, Nat.reduceLeDiff, reduceIte, eq_self, Nat.reduceEqDiff]
      exact hJ (18 - (k + 1)) _ (by omega) ⟨k + 1, rfl, by omega, by omega, hnext htk, hS8 _, by show (Store.set _ _ _) _ = _; rw [Store.set_ne _ _ h28]; exact s2, rfl, rfl, rfl, rfl, rfl, rfl⟩
    · simp only [hw, Bool.not_true, Store.set_same, ssS, bin_or, bin_and, Nat.reduceAdd, Nat.reduceLeDiff, reduceIte, eq_self, Nat.reduceEqDiff]
      have hfn : fn = true → (!more) = false → FmtNum Γ rest := fun _ h => hf (by simpa using h)
      refine callS_pure (behind_ok E ⟨fw, le, fn, fs⟩ rest (!more) (by simp only at hlen; omega) hfn) ?_
      obtain ⟨n, tx, ok, hbh⟩ : ∃ n tx ok, behB ⟨fw, le, fn, fs⟩ rest (!more) = (n, tx, ok) := ⟨_, _, _, rfl⟩
      have htk : tryK s k = if (ok && rightB k n tx) = true then some ((k : Int), n, tx) else none := by
        unfold tryK
        rw [hff, hc]
        simp only [hw, if_true, hbh]
      simp only [hbh, ssS, bin_or, bin_and, Nat.reduceAdd, Nat.reduceLeDiff, reduceIte, eq_self, Nat.reduceEqDiff]
      refine allocS_of fun b12 hb12 => ?_
      have h212 : b2 ≠ b12 := ne_of_some (by rw [Store.set_ne _ _ h28]; exact s2) hb12
      have hS12 : ∀ x y, SubS m ((S.set b8 x).set b12 y) := fun x y => (hS8 x).out (by
        refine (hS8 (.var 100 [bs fw, it le, .val (.bool fn), .val (.bool fs)])).none hb12) y
      simp only [Store.set_same, Store.set_set, ssS, bin_or, bin_and, Nat.reduceAdd, Nat.reduceLeDiff, reduceIte, eq_self, Nat.reduceEqDiff]
      cases ok
      · simp only [Bool.false_and, Bool.false_eq_true, if_false] at htk
        simp only [next_i64 (show k < 4611686018427387904 by omega), ssS, bin_or, bin_and, Nat.reduceAdd, Nat.reduceLeDiff, reduceIte, eq_self, Nat.reduceEqDiff]
        exact hJ (18 - (k + 1)) _ (by omega) ⟨k + 1, rfl, by omega, by omega, hnext htk, hS12 _ _, by show (Store.set _ _ _) _ = _; rw [Store.set_ne _ _ h212, Store.set_ne _ _ h28]; exact s2, rfl, rfl, rfl, rfl, rfl, rfl⟩
      · simp only [Bool.true_and] at htk
        simp only [Store.set_same, ssS, bin_or, bin_and, Nat.reduceAdd, Nat.reduceLeDiff, reduceIte, eq_self, Nat.reduceEqDiff]
        refine callS_pure (right_ok E.env k n tx) ?_
        cases hrt : rightB k n tx
        · simp only [hrt, Bool.false_eq_true, if_false] at htk
          simp only [next_i64 (show k < 4611686018427387904 by omega), ssS, bin_or, bin_and, Nat.reduceAdd, Nat.reduceLeDiff, reduceIte, eq_self, Nat.reduceEqDiff]
          exact hJ (18 - (k + 1)) _ (by omega) ⟨k + 1, rfl, by omega, by omega, hnext htk, hS12 _ _, by show (Store.set _ _ _) _ = _; rw [Store.set_ne _ _ h212, Store.set_ne _ _ h28]; exact s2, rfl, rfl, rfl, rfl, rfl, rfl⟩
        · simp only [hrt, if_true] at htk
          rw [htk] at htry
          simp only at htry
          have hpv : parseV s = .tup [cmdV k n tx, it 0] := by
            unfold parseV
            rw [← htry]
          simp only [Store.set_same, Store.set_ne _ _ h212, Store.set_ne _ _ h28, s2, ssS, bin_or, bin_and, Nat.reduceAdd, Nat.reduceLeDiff, reduceIte, eq_self, Nat.reduceEqDiff]
          refine bodyA_ret (resV_cut (u := cmdV k n tx) (b := b2) (o := 0) rfl (Store.set_same _ _ _) rfl) ⟨by rw [hpv]; rfl, ?_⟩
          exact (hS12 _ _).out hb2 _
  · have hk : k = 18 := by have := of_decide_eq_false h; omega
    subst hk
    have hpv : parseV s = .tup [cmdV 0 0 [], it 6] := by
      unfold parseV
      rw [← htry]
      rfl
    simp only [s2, ssS, bin_or, bin_and, Nat.reduceAdd, Nat.reduceLeDiff, reduceIte, eq_self, Nat.reduceEqDiff]
    refine bodyA_ret (resV_cut (u := cmdV 0 0 []) (b := b2) (o := 0) rfl (Store.set_same _ _ _) rfl) ⟨by rw [hpv]; rfl, ?_⟩
    exact hS.out hb2 _
end
end Go.Av.Fn
/- A command's text written; the document's examples. Conditions as ahead. -/
namespace Go.Av.Fn
set_option linter.unusedSimpArgs false
set_option linter.unusedVariables false
set_option maxRecDepth 100000
open Go.Proofs
def printB (k n : Int) (s : List UInt8) : List UInt8 :=
  let f := formOf k
  let w := if f.n then f.w ++ (32 :: Lib.itoa n) else f.w
  if (f.n && !(s == [])) = true then w ++ ([32, 105, 102, 32] ++ s) else if (f.s && !f.n) = true then w ++ (32 :: s) else w
theorem right_len {k n : Int} {s : List UInt8} (h : rightB k n s = true) : s.length ≤ 255 ∧ 0 ≤ n ∧ n ≤ 4294967296 := by
  unfold rightB at h
  split at h
  · cases h
  · rename_i h1
    simp only [Bool.or_eq_true, not_or, Bool.and_eq_true, Bool.not_eq_true', decide_eq_true_eq] at h1
    obtain ⟨⟨⟨⟨h1, h2⟩, h3⟩, h4⟩, h5⟩ := h1
    have hl : 0 ≤ (formOf k).least := by
      have hall : ∀ f ∈ forms, 0 ≤ f.least := by decide
      unfold formOf
      split
      · decide
      · cases hg : forms[k.toNat]? with
        | none => decide
        | some f => exact hall f (List.mem_of_getElem? hg)
    refine ⟨?_, by omega, by omega⟩
    split at h
    · rename_i h6
      simp only [Bool.or_eq_true, Bool.and_eq_true, Bool.not_eq_true'] at h6
      rcases h6 with h6 | ⟨_, h6⟩
      · have : s = [] := by
          cases hs : (s == []) with
          | true => exact eq_of_beq hs
          | false => exact absurd ⟨h6, hs⟩ h3
        subst this
        simp
      · rw [eq_of_beq h6]
        simp
    · unfold writtenB at h
      simp only [Bool.and_eq_true, decide_eq_true_eq] at h
      exact h.2
theorem form_w (k : Int) : (formOf k).w.length ≤ 13 := by
  have hall : ∀ f ∈ forms, f.w.length ≤ 13 := by decide
  unfold formOf
  split
  · decide
  · cases hg : forms[k.toNat]? with
    | none => decide
    | some f => exact hall f (List.mem_of_getElem? hg)
theorem decDigits_len : ∀ (u : Nat), (Lib.decDigits u).length ≤ u + 1 := by
  intro u
  induction u using Nat.strongRecOn with
  | ind u ih =>
    rw [Lib.decDigits]
    split
    · simp
    · rw [List.length_append]
      have := ih (u / 10) (by omega)
      simp
      omega
theorem itoa_len {n : Int} (h0 : 0 ≤ n) (h1 : n ≤ 4294967296) : (Lib.itoa n).length ≤ 4294967297 := by
  unfold Lib.itoa
  rw [if_neg (by omega)]
  have := decDigits_len n.toNat
  omega
theorem bs_add {P : Program} {T : TypeId} {xo yo : Operand} {x y : List UInt8} (h : x.length + y.length ≤ 9223372036854775807) : binV P .add T .other xo yo (bs x) (bs y) = some (bs (x ++ y)) := bin_badd h
section
variable {Γ : Glob} {m : Store}
theorem print_ok (E : Env Γ) (k n : Int) (s : List UInt8) (hf : rightB k n s = true → (formOf k).n = true → FmtAt Γ n) : ACalls Tryz.prog Γ 18 [cmdV k n s] m fun o m' => o = .ret (.tup [bs (if rightB k n s then printB k n s else []), it (if rightB k n s then 0 else 2)]) ∧ m' = m := by
  refine ACalls.less (A := fun o m' => o = .ret (.tup [bs (if rightB k n s then printB k n s else []), it (if rightB k n s then 0 else 2)]) ∧ SubS m m') ?_ fun o m' h => ⟨m, h.2, h.1, rfl⟩
  refine acalls_of_awp mixed F18_ok (by rintro v m b x _ ⟨⟨⟩, _⟩) ?_
  simp only [F18, cmdV, start, List.cons_append, List.nil_append, List.length_cons, List.length_nil, List.replicate, Nat.reduceSub, Nat.reduceAdd]
  simp only [ssS, bin_or, bin_and, Nat.reduceAdd, Nat.reduceLeDiff, reduceIte, eq_self, Nat.reduceEqDiff]
  refine allocS_of fun b1 hb1 => ?_
  simp only [Store.set_same, ssS, bin_or, bin_and, Nat.reduceAdd, Nat.reduceLeDiff, reduceIte, eq_self, Nat.reduceEqDiff]
  refine callS_pure (right_ok E k n s) ?_
  cases hr : rightB k n s
  · simp only [Bool.not_false, ssS, bin_or, bin_and, Nat.reduceAdd, Nat.reduceLeDiff, reduceIte, eq_self, Nat.reduceEqDiff]
    exact bodyA_ret resV_two ⟨rfl, (SubS.refl m).out hb1 _⟩
  · obtain ⟨hs, hn0, hn1⟩ := right_len hr
    have hw := form_w k
    have hi := itoa_len hn0 hn1
    simp only [Bool.not_true, Store.set_same, ssS, bin_or, bin_and, Nat.reduceAdd, Nat.reduceLeDiff, reduceIte, eq_self, Nat.reduceEqDiff]
    refine callS_pure (of_ok k) ?_
    obtain ⟨w, le, fn, fs, hff⟩ : ∃ w le fn fs, formOf k = ⟨w, le, fn, fs⟩ := ⟨_, _, _, _, rfl⟩
    have hpb : printB k n s = (if (fn && !(s == [])) = true then (if fn then w ++ (32 :: Lib.itoa n) else w) ++ ([32, 105, 102, 32] ++ s) else if (fs && !fn) = true then (if fn then w ++ (32 :: Lib.itoa n) else w) ++ (32 :: s) else (if fn then w ++ (32 :: Lib.itoa n) else w)) := by
      unfold printB
      rw [hff]
    rw [hpb]
    rw [hff] at hf hw
    simp only at hw
    simp only [hff, formV, ssS, bin_or, bin_and, Nat.reduceAdd, Nat.reduceLeDiff, reduceIte, eq_self, Nat.reduceEqDiff]
    refine allocS_of fun b4 hb4 => ?_
    have h14 : b1 ≠ b4 := ne_of_some (Store.set_same _ _ _) hb4
    have hS : ∀ x y, SubS m ((m.set b1 x).set b4 y) := fun x y => ((SubS.refl m).out hb1 _).out (by rw [Store.set_ne _ _ h14.symm] at hb4; exact hb4) _
    simp only [Store.set_same, Store.set_set, Store.set_ne _ _ h14, ssS, bin_or, bin_and, Nat.reduceAdd, Nat.reduceLeDiff, reduceIte, eq_self, Nat.reduceEqDiff]
    cases fn
    · cases fs
      · simp only [Store.set_same, ssS, bin_or, bin_and, Nat.reduceAdd, Nat.reduceLeDiff, reduceIte, eq_self, Nat.reduceEqDiff]
        exact bodyA_ret resV_two ⟨rfl, hS _ _⟩
      · simp only [Store.set_same, Store.set_ne _ _ h14, Bool.not_false, bs_add (x := [32]) (y := s) (by simp; omega), bs_add (x := w) (y := [32] ++ s) (by simp; omega), ssS, bin_or, bin_and, Nat.reduceAdd, Nat.reduceLeDiff, reduceIte, eq_self, Nat.reduceEqDiff]
        exact bodyA_ret resV_two ⟨rfl, hS _ _⟩
    · simp only [Store.set_same, Store.set_ne _ _ h14, ssS, bin_or, bin_and, Nat.reduceAdd, Nat.reduceLeDiff, reduceIte, eq_self, Nat.reduceEqDiff]
      refine callS_pure (itoa_ok (hf hr rfl)) ?_
      simp only [bs_add (x := [32]) (y := Lib.itoa n) (by simp; omega), bs_add (x := w) (y := [32] ++ Lib.itoa n) (by simp; omega), Store.set_same, Store.set_ne _ _ h14, ssS, bin_or, bin_and, Nat.reduceAdd, Nat.reduceLeDiff, reduceIte, eq_self, Nat.reduceEqDiff]
      cases he : (s == [])
      · simp only [bs_add (x := [32, 105, 102, 32]) (y := s) (by simp; omega), bs_add (x := w ++ ([32] ++ Lib.itoa n)) (y := [32, 105, 102, 32] ++ s) (by simp; omega), Bool.not_false, Store.set_same, Store.set_ne _ _ h14, ssS, bin_or, bin_and, Nat.reduceAdd, Nat.reduceLeDiff, reduceIte, eq_self, Nat.reduceEqDiff]
        exact bodyA_ret resV_two ⟨rfl, hS _ _⟩
      · cases fs
        · simp only [Bool.not_true, Store.set_same, Store.set_ne _ _ h14, ssS, bin_or, bin_and, Nat.reduceAdd, Nat.reduceLeDiff, reduceIte, eq_self, Nat.reduceEqDiff]
          exact bodyA_ret resV_two ⟨rfl, hS _ _⟩
        · simp only [Bool.not_true, Store.set_same, Store.set_ne _ _ h14, ssS, bin_or, bin_and, Nat.reduceAdd, Nat.reduceLeDiff, reduceIte, eq_self, Nat.reduceEqDiff]
          exact bodyA_ret resV_two ⟨rfl, hS _ _⟩
end
end Go.Av.Fn
/- The program tells the document's examples. No condition. -/
namespace Go.Av.Fn
set_option linter.unusedSimpArgs false
set_option linter.unusedVariables false
set_option maxRecDepth 10000
open Go.Proofs
def skipF : Nat → List UInt8 → Nat → Nat → Nat × Nat
  | 0, _, a, l => (a, l)
  | n + 1, r, a, l =>
    if [10].isPrefixOf r = true then skipF n (r.drop 1) (a + 1) (l + 1)
    else if ([32].isPrefixOf r || [9].isPrefixOf r) = true then skipF n (r.drop 1) (a + 1) l
    else if [47, 47].isPrefixOf r = true then skipF n (r.drop (r.takeWhile notNl).length) (a + (r.takeWhile notNl).length) l
    else (a, l)
theorem skipF_eq : ∀ (n : Nat) (r : List UInt8) (a l : Nat), r.length < n → skipF n r a l = skipL r a l
  | 0, r, a, l, h => absurd h (by omega)
  | n + 1, r, a, l, h => by
    rw [skipL.eq_1]
    simp only [skipF]
    by_cases h1 : [10].isPrefixOf r = true
    · rw [if_pos h1, dif_pos h1]
      have := pre_len h1
      exact skipF_eq n _ _ _ (by simp at this ⊢; omega)
    · rw [if_neg h1, dif_neg h1]
      by_cases h2 : ([32].isPrefixOf r || [9].isPrefixOf r) = true
      · rw [if_pos h2, dif_pos h2]
        have : 1 ≤ r.length := by
          rw [Bool.or_eq_true] at h2
          rcases h2 with h2 | h2
          · simpa using pre_len h2
          · simpa using pre_len h2
        exact skipF_eq n _ _ _ (by simp; omega)
      · rw [if_neg h2, dif_neg h2]
        by_cases h3 : [47, 47].isPrefixOf r = true
        · rw [if_pos h3, dif_pos h3]
          have h4 := slash_run h3
          have h5 := pre_len h3
          exact skipF_eq n _ _ _ (by simp at h5 ⊢; omega)
        · rw [if_neg h3, dif_neg h3]
def scanF : Nat → List UInt8 → Nat × Nat → List Tk → Except (Nat × Int) (List Tk)
  | 0, _, _, _ => .ok []
  | n + 1, r, x, acc => match tokL r with
    | .error e => if r.isEmpty then .ok (acc ++ [⟨0, [], 0, x.2, x.1⟩]) else .error (x.1, e)
    | .ok (t, k) => scanF n ((r.drop k).drop ((skipF (r.length + 1) (r.drop k) (x.1 + k) x.2).1 - (x.1 + k))) (skipF (r.length + 1) (r.drop k) (x.1 + k) x.2) (acc ++ [{ t with l := x.2, a := x.1 }])
theorem scanF_eq : ∀ (n : Nat) (r : List UInt8) (x : Nat × Nat) (acc : List Tk), r.length < n → scanF n r x acc = scanN r x acc
  | 0, r, x, acc, h => absurd h (by omega)
  | n + 1, r, x, acc, h => by
    simp only [scanF, scanN]
    cases ht : tokL r with
    | error e =>
      simp only
      cases r with
      | nil => rfl
      | cons c r => rfl
    | ok y =>
      obtain ⟨t, k⟩ := y
      have hk := tokL_len ht
      simp only
      have e1 : skipF (r.length + 1) (r.drop k) (x.1 + k) x.2 = skipL (r.drop k) (x.1 + k) x.2 := skipF_eq _ _ _ _ (by simp; omega)
      rw [e1, scanL_eq]
      exact scanF_eq n _ _ _ (by simp; omega)
theorem scanR_eq {s : List UInt8} {y : Except (Nat × Int) (List Tk)} (h : (s.length ≤ 4096 ∧ scanF (s.length + 1) (s.drop (skipF (s.length + 1) s 0 1).1) (skipF (s.length + 1) s 0 1) [] = y)) : scanR s = y := by
  unfold scanR
  rw [if_neg (by omega), scanL_eq, ← skipF_eq (s.length + 1) s 0 1 (by omega), Nat.sub_zero, ← scanF_eq (s.length + 1) _ _ _ (by simp; omega)]
  exact h.2
end Go.Av.Fn
/- A command's text read, reckoned. No condition. -/
namespace Go.Av.Fn
set_option linter.unusedSimpArgs false
set_option linter.unusedVariables false
set_option maxRecDepth 100000
open Go.Proofs
def decF : Nat → Nat → List UInt8
  | 0, _ => []
  | k + 1, u => if u < 10 then [UInt8.ofNat (48 + u)] else decF k (u / 10) ++ [UInt8.ofNat (48 + u % 10)]
theorem decF_eq : ∀ (k u : Nat), u < k → decF k u = Lib.decDigits u
  | 0, u, h => absurd h (by omega)
  | k + 1, u, h => by
    rw [Lib.decDigits, decF]
    by_cases h1 : u < 10
    · rw [if_pos h1, dif_pos h1]
    · rw [if_neg h1, dif_neg h1, decF_eq k (u / 10) (by omega)]
def itoaF (n : Int) : List UInt8 := if n < 0 then 45 :: decF (n.natAbs + 1) n.natAbs else decF (n.toNat + 1) n.toNat
theorem itoaF_eq (n : Int) : itoaF n = Lib.itoa n := by
  unfold itoaF Lib.itoa
  rw [decF_eq _ _ (by omega), decF_eq _ _ (by omega)]
def scanRF (s : List UInt8) : Except (Nat × Int) (List Tk) := if s.length > 4096 then .error (0, 5) else scanF (s.length + 1) (s.drop (skipF (s.length + 1) s 0 1).1) (skipF (s.length + 1) s 0 1) []
theorem scanRF_eq (s : List UInt8) : scanR s = scanRF s := by
  unfold scanRF
  by_cases h : s.length > 4096
  · rw [if_pos h]
    unfold scanR
    rw [if_pos h]
  · rw [if_neg h]
    exact scanR_eq ⟨by omega, rfl⟩
def readF (s : List UInt8) : Option Ex × Int × Int := match scanRF s with
  | .error (a, e) => (none, a, e)
  | .ok l => readT l
theorem readF_eq (s : List UInt8) : readS s = readF s := by
  unfold readS readF
  rw [scanRF_eq]
  all_goals (cases scanRF s <;> rfl)
def exprF (s : List UInt8) : Option Ex × Int × Int :=
  if (readF s).2.2 = 0 then (match (readF s).1 with
    | some e => if depthE e > 24 then (none, 0, 7) else (some e, 0, 0)
    | none => (none, 0, 0))
  else (none, (readF s).2.1, (readF s).2.2)
def writtenF (s : List UInt8) : Bool := (exprF s).2.2 == 0 && decide (s.length ≤ 255)
theorem writtenF_eq : writtenB = writtenF := by
  funext s
  unfold writtenB writtenF exprS exprF
  rw [readF_eq]
  all_goals rfl
def numF (s : List UInt8) : Int × List UInt8 × Bool := match Lib.parseIntB 64 (cutB s).1 with
  | .ok n => if (itoaF n == (cutB s).1) = true then (n, (cutB s).2.1, (cutB s).2.2) else (-1, [], false)
  | _ => (-1, [], false)
theorem numF_eq : numB = numF := by
  funext s
  unfold numB numF
  cases h : Lib.parseIntB 64 (cutB s).1 with
  | ok n => simp only [itoaF_eq]
  | _ => rfl
def rightG (wr : List UInt8 → Bool) (k n : Int) (s : List UInt8) : Bool :=
  if (decide (formOf k = noForm) || (!(formOf k).n && n != 0) || (!(formOf k).s && !(s == [])) || decide (n < (formOf k).least) || decide (n > 4294967296)) = true then false
  else if (!(formOf k).s || ((formOf k).n && s == [])) = true then true
  else wr s
def behG (num : List UInt8 → Int × List UInt8 × Bool) (f : Form) (rest : List UInt8) (no : Bool) : Int × List UInt8 × Bool :=
  if (no || (!f.n && !f.s)) = true then (0, [], no && !f.n && !f.s)
  else if f.n = false then (0, rest, true)
  else if (num rest).2.2 = false then ((num rest).1, [], decide ((num rest).1 ≥ 0))
  else ((num rest).1, (cutIf (num rest).2.1).1, (cutIf (num rest).2.1).2 && f.s && !((cutIf (num rest).2.1).1 == []))
def tryG (num : List UInt8 → Int × List UInt8 × Bool) (wr : List UInt8 → Bool) (s : List UInt8) (k : Nat) : Option (Int × Int × List UInt8) :=
  if ((formOf k).w == (cutB s).1) = true then
    (if ((behG num (formOf k) (cutB s).2.1 (!(cutB s).2.2)).2.2 && rightG wr k (behG num (formOf k) (cutB s).2.1 (!(cutB s).2.2)).1 (behG num (formOf k) (cutB s).2.1 (!(cutB s).2.2)).2.1) = true
      then some (k, (behG num (formOf k) (cutB s).2.1 (!(cutB s).2.2)).1, (behG num (formOf k) (cutB s).2.1 (!(cutB s).2.2)).2.1) else none)
  else none
def tryFromG (num : List UInt8 → Int × List UInt8 × Bool) (wr : List UInt8 → Bool) (s : List UInt8) : Nat → Nat → Option (Int × Int × List UInt8)
  | 0, _ => none
  | n + 1, k => match tryG num wr s k with
    | some x => some x
    | none => tryFromG num wr s n (k + 1)
theorem tryFrom_G (s : List UInt8) : ∀ n k, tryFrom s n k = tryFromG numB writtenB s n k
  | 0, _ => rfl
  | n + 1, k => by
    have h : tryK s k = tryG numB writtenB s k := rfl
    rw [tryFrom, tryFromG, h]
    cases tryG numB writtenB s k with
    | some x => rfl
    | none => exact tryFrom_G s n (k + 1)
theorem parse_eq {s : List UInt8} {r : Option (Int × Int × List UInt8)} (h : tryFromG numF writtenF s 17 1 = r) : parseC s = r := by
  rw [parseC, tryFrom_G, numF_eq, writtenF_eq]
  exact h
theorem right_eq {k n : Int} {s : List UInt8} {b : Bool} (h : rightG writtenF k n s = b) : rightB k n s = b := by
  rw [← h, ← writtenF_eq]
  rfl
theorem ex1 : parseC [98, 97, 99, 107, 45, 115, 116, 101, 112] = some (5, 0, []) := parse_eq (by kernel_rfl)
theorem ex2 : parseC [98, 114, 101, 97, 107, 32, 49, 50, 32, 105, 102, 32, 97, 32, 62, 32, 49] = some (10, 12, [97, 32, 62, 32, 49]) := parse_eq (by kernel_rfl)
theorem ex3 : parseC [103, 111, 116, 111, 32, 48] = some (9, 0, []) := parse_eq (by kernel_rfl)
theorem ex4 : parseC [103, 111, 116, 111, 32, 48, 49] = none := parse_eq (by kernel_rfl)
theorem ex5 : parseC [103, 111, 116, 111] = none := parse_eq (by kernel_rfl)
theorem ex6 : parseC [115, 116, 101, 112, 32, 49] = none := parse_eq (by kernel_rfl)
theorem ex7 : parseC [98, 114, 101, 97, 107, 32, 49, 32, 105, 102] = none := parse_eq (by kernel_rfl)
theorem ex8 : parseC [112, 114, 105, 110, 116, 32, 49, 32, 43] = none := parse_eq (by kernel_rfl)
theorem ex9 : rightB 10 12 [97, 32, 62, 32, 49] = true := right_eq (by kernel_rfl)
theorem ex10 : printB 10 12 [97, 32, 62, 32, 49] = [98, 114, 101, 97, 107, 32, 49, 50, 32, 105, 102, 32, 97, 32, 62, 32, 49] := by
  unfold printB
  rw [← itoaF_eq]
  kernel_rfl
end Go.Av.Fn
/- The document's examples of chapter 17: the program tells them. Conditions: the library's functions, and what some variables hold. -/
namespace Go.Av.Fn
set_option linter.unusedSimpArgs false
set_option linter.unusedVariables false
set_option maxRecDepth 10000
open Go.Proofs
theorem cmd_eq (xo yo : Operand) (k n k' n' : Int) (s s' : List UInt8) : binV Tryz.prog .eql 24 .other xo yo (.agg [it k, it n, bs s]) (.agg [it k', it n', bs s']) = some (.val (.bool (decide (k = k' ∧ n = n' ∧ s = s')))) := by
  have h := (struct_eq (P := Tryz.prog) (T := 24) (xo := xo) (yo := yo) (cs := [it k, it n, bs s]) (cs' := [it k', it n', bs s'])
    (xs := [.int .i64 k, .int .i64 n, .string ⟨s.toArray⟩]) (ys := [.int .i64 k', .int .i64 n', .string ⟨s'.toArray⟩])
    (r := (k == k' && (n == n' && ((ByteArray.mk s.toArray).toList == (ByteArray.mk s'.toArray).toList && true))))
    (by kernel_rfl) (by kernel_rfl) (by kernel_rfl) rfl rfl (by kernel_rfl)).1
  have e : (k == k' && (n == n' && ((ByteArray.mk s.toArray).toList == (ByteArray.mk s'.toArray).toList && true))) = decide (k = k' ∧ n = n' ∧ s = s') := by
    rw [ba_toList, ba_toList, Bool.eq_iff_iff]
    simp
  rw [e] at h
  exact h
theorem fmtNum_of {Γ : Glob} {rest : List UInt8} {i : Nat} (h : Lib.parseIntB 64 (cutB rest).1 = .ok (i : Int)) (hi : i < 100) : FmtNum Γ rest := by
  intro n hn
  rw [h] at hn
  cases hn
  exact fmt_small i hi
section
variable {Γ : Glob} {m : Store}
theorem is17_ok (E : Env2 Γ) (s : List UInt8) (hs : s.length ≤ 281474976710656) (hf : (cutB s).2.2 = true → FmtNum Γ (cutB s).2.1) {k n e : Int} {t : List UInt8} (h : parseV s = .tup [cmdV k n t, it e]) :
    ACalls Tryz.prog Γ 61 [bs s, cmdV k n t, it e] m fun o m' => o = .ret (.val (.bool true)) ∧ m' = m := by
  refine ACalls.less (A := fun o m' => o = .ret (.val (.bool true)) ∧ SubS m m') ?_ fun o m' h => ⟨m, h.2, h.1, rfl⟩
  refine acalls_of_awp mixed F61_ok (by rintro v m b x _ ⟨⟨⟩, _⟩) ?_
  simp only [F61, cmdV, start, List.cons_append, List.nil_append, List.length_cons, List.length_nil, List.replicate, Nat.reduceSub, Nat.reduceAdd]
  simp only [ssS, bin_or, bin_and, Nat.reduceAdd, Nat.reduceLeDiff, reduceIte, eq_self, Nat.reduceEqDiff]
  refine allocS_of fun b4 hb4 => ?_
  simp only [ssS, bin_or, bin_and, Nat.reduceAdd, Nat.reduceLeDiff, reduceIte, eq_self, Nat.reduceEqDiff]
  refine callS_pure (parse_ok E s hs hf) ?_
  simp only [h, cmdV, ssS, bin_or, bin_and, Nat.reduceAdd, Nat.reduceLeDiff, reduceIte, eq_self, Nat.reduceEqDiff]
  refine allocS_of fun b7 hb7 => ?_
  have h47 : b4 ≠ b7 := ne_of_some (Store.set_same _ _ _) hb7
  simp only [Store.set_same, Store.set_set, Store.set_ne _ _ h47, cmd_eq, and_self, decide_true, show (e == e) = true from beq_self_eq_true e, ssS, bin_or, bin_and, Nat.reduceAdd, Nat.reduceLeDiff, reduceIte, eq_self, Nat.reduceEqDiff]
  refine bodyA_ret resV_one ⟨rfl, ?_⟩
  exact ((SubS.refl m).out hb4 _).out (by rw [Store.set_ne _ _ h47.symm] at hb7; exact hb7) _
theorem pv_some {s : List UInt8} {k n : Int} {t : List UInt8} (h : parseC s = some (k, n, t)) : parseV s = .tup [cmdV k n t, it 0] := by
  unfold parseV
  rw [h]
theorem pv_none {s : List UInt8} (h : parseC s = none) : parseV s = .tup [cmdV 0 0 [], it 6] := by
  unfold parseV
  rw [h]
theorem lives17_ok (E : Env2 Γ) : ACalls Tryz.prog Γ 17 [] m fun o m' => o = .ret (.val (.bool true)) ∧ m' = m := by
  refine acalls_of_awp mixed F17_ok (by rintro v m b x _ ⟨⟨⟩, _⟩) ?_
  simp only [F17, start, List.cons_append, List.nil_append, List.length_cons, List.length_nil, List.replicate, Nat.reduceSub, Nat.reduceAdd]
  simp only [ssS, bin_or, bin_and, Nat.reduceAdd, Nat.reduceLeDiff, reduceIte, eq_self, Nat.reduceEqDiff]
  refine callS_pure (print_ok E.env 10 12 [97, 32, 62, 32, 49] (fun _ _ => fmt_small 12 (by decide))) ?_
  rw [ex9, ex10]
  simp only [if_true, ssS, bin_or, bin_and, Nat.reduceAdd, Nat.reduceLeDiff, reduceIte, eq_self, Nat.reduceEqDiff]
  refine callS_pure (is17_ok E [98, 97, 99, 107, 45, 115, 116, 101, 112] (by decide) (fun h => absurd h (by decide)) (pv_some ex1)) ?_
  simp only [ssS, bin_or, bin_and, Nat.reduceAdd, Nat.reduceLeDiff, reduceIte, eq_self, Nat.reduceEqDiff]
  refine callS_pure (is17_ok E [98, 114, 101, 97, 107, 32, 49, 50, 32, 105, 102, 32, 97, 32, 62, 32, 49] (by decide) (fun h => fmtNum_of (i := 12) (by kernel_rfl) (by decide)) (pv_some ex2)) ?_
  simp only [ssS, bin_or, bin_and, Nat.reduceAdd, Nat.reduceLeDiff, reduceIte, eq_self, Nat.reduceEqDiff]
  refine callS_pure (is17_ok E [103, 111, 116, 111, 32, 48] (by decide) (fun h => fmtNum_of (i := 0) (by kernel_rfl) (by decide)) (pv_some ex3)) ?_
  simp only [ssS, bin_or, bin_and, Nat.reduceAdd, Nat.reduceLeDiff, reduceIte, eq_self, Nat.reduceEqDiff]
  refine callS_pure (is17_ok E [103, 111, 116, 111, 32, 48, 49] (by decide) (fun h => fmtNum_of (i := 1) (by kernel_rfl) (by decide)) (pv_none ex4)) ?_
  simp only [ssS, bin_or, bin_and, Nat.reduceAdd, Nat.reduceLeDiff, reduceIte, eq_self, Nat.reduceEqDiff]
  refine callS_pure (is17_ok E [103, 111, 116, 111] (by decide) (fun h => absurd h (by decide)) (pv_none ex5)) ?_
  simp only [ssS, bin_or, bin_and, Nat.reduceAdd, Nat.reduceLeDiff, reduceIte, eq_self, Nat.reduceEqDiff]
  refine callS_pure (is17_ok E [115, 116, 101, 112, 32, 49] (by decide) (fun h => fmtNum_of (i := 1) (by kernel_rfl) (by decide)) (pv_none ex6)) ?_
  simp only [ssS, bin_or, bin_and, Nat.reduceAdd, Nat.reduceLeDiff, reduceIte, eq_self, Nat.reduceEqDiff]
  refine callS_pure (is17_ok E [98, 114, 101, 97, 107, 32, 49, 32, 105, 102] (by decide) (fun h => fmtNum_of (i := 1) (by kernel_rfl) (by decide)) (pv_none ex7)) ?_
  simp only [ssS, bin_or, bin_and, Nat.reduceAdd, Nat.reduceLeDiff, reduceIte, eq_self, Nat.reduceEqDiff]
  refine callS_pure (is17_ok E [112, 114, 105, 110, 116, 32, 49, 32, 43] (by decide) (fun h => fmtNum_of (i := 1) (by kernel_rfl) (by decide)) (pv_none ex8)) ?_
  simp only [show (([98, 114, 101, 97, 107, 32, 49, 50, 32, 105, 102, 32, 97, 32, 62, 32, 49] : List UInt8) == [98, 114, 101, 97, 107, 32, 49, 50, 32, 105, 102, 32, 97, 32, 62, 32, 49]) = true from by decide, show ((0 : Int) == 0) = true from rfl, ssS, bin_or, bin_and, Nat.reduceAdd, Nat.reduceLeDiff, reduceIte, eq_self, Nat.reduceEqDiff]
  exact bodyA_ret resV_one ⟨rfl, rfl⟩
end
end Go.Av.Fn
/- Commands put, and got. Conditions as ahead. -/
namespace Go.Av.Fn
set_option linter.unusedSimpArgs false
set_option linter.unusedVariables false
set_option maxRecDepth 10000
open Go.Proofs
def getC (s : List UInt8) (a : Nat) (e : Int) : (Int × Int × List UInt8) × Nat × Int :=
  let k := rInt s a e
  let n := rInt s k.2.1 k.2.2
  let t := rText s n.2.1 n.2.2 255
  (if t.2.2 ≠ 0 then (0, 0, []) else (k.1, n.1, t.1), t.2.1, t.2.2)
def cmdT (c : Int × Int × List UInt8) : V := cmdV c.1 c.2.1 c.2.2
def putC (k n : Int) (s : List UInt8) : List UInt8 := Lib.uvarint (Lib.zigzag k) ++ Lib.uvarint (Lib.zigzag n) ++ (Lib.uvarint (Lib.zigzag s.length) ++ s)
section
variable {Γ : Glob} {m : Store} {rb a : Nat} {s : List UInt8} {e : Int}
theorem get_ok (L : LibOk Γ) (hr : m rb = some (rdB s a e)) (ha : a ≤ s.length) (hs : s.length ≤ 281474976710656) :
    ACalls Tryz.prog Γ 23 [.ptr rb 0] m fun o m' => o = .ret (cmdT (getC s a e).1) ∧ m' = m.set rb (rdB s (getC s a e).2.1 (getC s a e).2.2) := by
  refine ACalls.less (A := fun o m' => o = .ret (cmdT (getC s a e).1) ∧ SubS (m.set rb (rdB s (getC s a e).2.1 (getC s a e).2.2)) m') ?_ fun o m' h => ⟨_, h.2, h.1, rfl⟩
  refine acalls_of_awp mixed F23_ok (by rintro v m b x _ ⟨⟨⟩, _⟩) ?_
  unfold getC
  obtain ⟨k, a1, e1, h1⟩ : ∃ k a1 e1, rInt s a e = (k, a1, e1) := ⟨_, _, _, rfl⟩
  have l1 := rInt_le (e := e) ha
  rw [h1] at l1
  obtain ⟨n, a2, e2, h2⟩ : ∃ n a2 e2, rInt s a1 e1 = (n, a2, e2) := ⟨_, _, _, rfl⟩
  have l2 := rInt_le (e := e1) l1
  rw [h2] at l2
  obtain ⟨t, a3, e3, h3⟩ : ∃ t a3 e3, rText s a2 e2 255 = (t, a3, e3) := ⟨_, _, _, rfl⟩
  simp only at l1 l2
  simp only [h1, h2, h3]
  simp only [F23, start, List.cons_append, List.nil_append, List.length_cons, List.length_nil, List.replicate, Nat.reduceSub, Nat.reduceAdd]
  simp only [ssS, bin_or, bin_and, Nat.reduceAdd, Nat.reduceLeDiff, reduceIte, eq_self, Nat.reduceEqDiff]
  refine allocS_of fun b2 hb2 => ?_
  have hn2 := ne_of_some hr hb2
  simp only [ssS, bin_or, bin_and, Nat.reduceAdd, Nat.reduceLeDiff, reduceIte, eq_self, Nat.reduceEqDiff]
  refine callS_to (wInt_ok (a := a) (e := e) (s := s) (by rw [Store.set_ne _ _ hn2]; exact hr) ha (by omega)) ?_
  simp only [h1, ssS, bin_or, bin_and, Nat.reduceAdd, Nat.reduceLeDiff, reduceIte, eq_self, Nat.reduceEqDiff]
  refine allocS_of fun b3 hb3 => ?_
  have hn3 : rb ≠ b3 := ne_of_some (Store.set_same _ _ _) hb3
  have h23 : b2 ≠ b3 := ne_of_some (by rw [Store.set_ne _ _ hn2.symm, Store.set_same]) hb3
  simp only [Store.set_same, Store.set_set, ssS, bin_or, bin_and, Nat.reduceAdd, Nat.reduceLeDiff, reduceIte, eq_self, Nat.reduceEqDiff]
  refine callS_to (wInt_ok (a := a1) (e := e1) (s := s) (by rw [Store.set_ne _ _ hn3, Store.set_same]) l1 (by omega)) ?_
  simp only [h2, Store.set_same, Store.set_set, Store.set_ne _ _ hn3.symm, ssS, bin_or, bin_and, Nat.reduceAdd, Nat.reduceLeDiff, reduceIte, eq_self, Nat.reduceEqDiff]
  refine callS_to (wText_ok L 255 (a := a2) (e := e2) (s := s) (by rw [Store.set_ne _ _ hn3, Store.set_same]) l2 hs) ?_
  simp only [h3, Store.set_same, Store.set_set, Store.set_ne _ _ hn3.symm, ssS, bin_or, bin_and, Nat.reduceAdd, Nat.reduceLeDiff, reduceIte, eq_self, Nat.reduceEqDiff]
  refine callS_pure (wErr_ok (a := a3) (e := e3) (s := s) (by rw [Store.set_ne _ _ hn3, Store.set_same])) ?_
  have hfin : ∀ (M : Store), M rb = some (rdB s a3 e3) → (∀ c x, m c = some x → c ≠ rb → c ≠ b2 → c ≠ b3 → M c = some x) → ∀ x, SubS (m.set rb (rdB s a3 e3)) (M.set b2 x) := by
    intro M hM hs2 x c y hc
    by_cases h1 : c = rb
    · subst h1
      rw [Store.set_same] at hc
      cases hc
      rw [Store.set_ne _ _ hn2]
      exact hM
    · rw [Store.set_ne _ _ h1] at hc
      have h2 : c ≠ b2 := ne_of_some hc hb2
      rw [Store.set_ne _ _ h2]
      refine hs2 c y hc h1 h2 ?_
      rintro rfl
      rw [Store.set_ne _ _ hn3.symm, Store.set_ne _ _ h23.symm, hc] at hb3
      cases hb3
  cases he : (e3 != 0)
  · have h0 : e3 = 0 := by simpa using he
    subst h0
    simp only [show ((0 : Int) != 0) = false from rfl, Store.set_same, Store.set_set, Store.set_ne _ _ hn3.symm, Store.set_ne _ _ h23, Store.set_ne _ _ hn2.symm, ssS, bin_or, bin_and, Nat.reduceAdd, Nat.reduceLeDiff, reduceIte, eq_self, Nat.reduceEqDiff]
    refine bodyA_ret ((resV_cell (b := b2) rfl (Store.set_same _ _ _)).trans rfl) ⟨?_, hfin _ ?_ ?_ _⟩
    · simp only [ne_eq, not_true_eq_false, if_false, cmdT, cmdV]
      rfl
    · first
        | exact Store.set_same _ _ _
        | (rw [Store.set_ne _ _ hn3, Store.set_same])
    · intro c x hc k1 k2 k3
      simp only [Store.set_ne _ _ k1, Store.set_ne _ _ k2, Store.set_ne _ _ k3]
      exact hc
  · have h0 : e3 ≠ 0 := by simpa using he
    simp only [he, Store.set_same, Store.set_set, Store.set_ne _ _ hn3.symm, Store.set_ne _ _ h23, Store.set_ne _ _ hn2.symm, ssS, bin_or, bin_and, Nat.reduceAdd, Nat.reduceLeDiff, reduceIte, eq_self, Nat.reduceEqDiff]
    refine bodyA_ret ((resV_cell (b := b2) rfl (Store.set_same _ _ _)).trans rfl) ⟨?_, hfin _ ?_ ?_ _⟩
    · simp only [ne_eq, h0, not_false_eq_true, if_true, cmdT, cmdV]
      rfl
    · first
        | exact Store.set_same _ _ _
        | (rw [Store.set_ne _ _ hn3, Store.set_same])
    · intro c x hc k1 k2 k3
      simp only [Store.set_ne _ _ k1, Store.set_ne _ _ k2, Store.set_ne _ _ k3]
      exact hc
theorem put_ok {m' : Store} {v : V} {l t : List UInt8} {k n : Int} (h : Buf 5 1 m m' v (l.map by8)) (hk : Av.I64 k) (hn : Av.I64 n) (hl : l.length + t.length + 100 ≤ 140737488355328) (hl2 : l.length + 100 < 1099511627776) :
    ACalls Tryz.prog Γ 25 [v, cmdV k n t] m' fun o m2 => ∃ v2, o = .ret v2 ∧ Buf 5 1 m m2 v2 ((l ++ putC k n t).map by8) := by
  refine ACalls.less (A := fun o m2 => ∃ v2 M, o = .ret v2 ∧ SubS M m2 ∧ Buf 5 1 m M v2 ((l ++ putC k n t).map by8)) ?_ fun o m' ⟨v2, M, h1, h2, h3⟩ => ⟨M, h2, v2, h1, h3⟩
  refine acalls_of_awp mixed F25_ok (by rintro v m b x _ ⟨_, _, ⟨⟩, _⟩) ?_
  simp only [F25, cmdV, start, List.cons_append, List.nil_append, List.length_cons, List.length_nil, List.replicate, Nat.reduceSub, Nat.reduceAdd]
  simp only [ssS, bin_or, bin_and, Nat.reduceAdd, Nat.reduceLeDiff, reduceIte, eq_self, Nat.reduceEqDiff]
  refine allocS_of fun b3 hb3 => ?_
  have hm3 : m b3 = none := by
    cases hc : m b3 with
    | none => rfl
    | some x => rw [h.sub _ _ hc] at hb3; cases hb3
  have z1 := Lib.uvarint_length64 (Av.zigzag_u64 hk)
  have z2 := Lib.uvarint_length64 (Av.zigzag_u64 hn)
  simp only [Store.set_same, ssS, bin_or, bin_and, Nat.reduceAdd, Nat.reduceLeDiff, reduceIte, eq_self, Nat.reduceEqDiff]
  refine callS_of (putInt_ok (h.add (x := .var 24 [it k, it n, bs t]) hb3) hk (by omega)) ?_ (by rintro v m' ⟨_, ⟨⟩, _⟩)
  rintro v2 m2 ⟨_, ⟨⟩, hB⟩
  have hb2 := hB.sub b3 _ (Store.set_same _ _ _)
  simp only [thenO_some, still_free, loadV_at, hb2, ssS, bin_or, bin_and, Nat.reduceAdd, Nat.reduceLeDiff, reduceIte, eq_self, Nat.reduceEqDiff]
  refine callS_of (putInt_ok hB hn (by simp; omega)) ?_ (by rintro v m' ⟨_, ⟨⟩, _⟩)
  rintro v3 m3 ⟨_, ⟨⟩, hB3⟩
  have hb3' := hB3.sub b3 _ (Store.set_same _ _ _)
  simp only [thenO_some, still_free, loadV_at, hb3', ssS, bin_or, bin_and, Nat.reduceAdd, Nat.reduceLeDiff, reduceIte, eq_self, Nat.reduceEqDiff]
  refine callS_of (putText_ok hB3 (by simp; omega) (by simp; omega)) ?_ (by rintro v m' ⟨_, ⟨⟩, _⟩)
  rintro v4 m4 ⟨_, ⟨⟩, hB4⟩
  simp only [ssS, bin_or, bin_and, Nat.reduceAdd, Nat.reduceLeDiff, reduceIte, eq_self, Nat.reduceEqDiff]
  obtain ⟨q1, M, q2, q3, q4⟩ := hB4.del hm3
  refine bodyA_ret resV_one ⟨v4, M, rfl, ?_, ?_⟩
  · intro c x hc
    have hne : c ≠ b3 := by rintro rfl; rw [q3] at hc; cases hc
    have := congrArg (fun f : Store => f c) (q4 (.var 24 []))
    simp only [Store.set_ne _ _ hne] at this
    rw [this]
    exact hc
  · simp only [putC, List.append_assoc] at q2 ⊢
    exact q2
end
end Go.Av.Fn
/- Commands put are got as they were: plain laws. No condition. -/
namespace Go.Av.Fn
set_option linter.unusedSimpArgs false
set_option linter.unusedVariables false
open Go.Lib
theorem drop_mid {α : Type} (a b : List α) : (a ++ b).drop a.length = b := by simp
theorem rInt_put {n : Int} (h : Av.I64 n) (a r : List UInt8) : rInt (a ++ (uvarint (zigzag n) ++ r)) a.length 0 = (n, a.length + (uvarint (zigzag n)).length, 0) := by
  unfold rInt
  rw [drop_mid, Av.numL_put h r]
  simp
theorem countL_put {n : Nat} (h : Av.I64 n) (r : List UInt8) (most : Int) (hm : 0 ≤ most) : countL (uvarint (zigzag n) ++ r) most = if (n : Int) > most then (0, 0, 5) else ((n : Int), (uvarint (zigzag n)).length, 0) := by
  unfold countL
  rw [Av.numL_put h r]
  simp only [ne_eq, not_true_eq_false, if_false]
  rw [if_neg (by omega), Int.max_eq_right hm]
theorem textL_put {s : List UInt8} (hs : s.length < 9223372036854775808) (r : List UInt8) (most : Nat) :
    textL (uvarint (zigzag s.length) ++ (s ++ r)) most = if s.length > most then ([], 0, 5) else (s, (uvarint (zigzag s.length)).length + s.length, 0) := by
  have hi : Av.I64 (s.length : Int) := by unfold Av.I64; omega
  unfold textL
  rw [countL_put hi _ _ (by omega)]
  by_cases h : s.length > most
  · have h' : (s.length : Int) > (most : Int) := by omega
    rw [if_pos h', if_pos h]
    simp
  · have h' : ¬ (s.length : Int) > (most : Int) := by omega
    rw [if_neg h', if_neg h]
    simp only [ne_eq, not_true_eq_false, if_false]
    have hc : ¬ (s.length : Int) > ((uvarint (zigzag s.length) ++ (s ++ r)).length : Int) - ((uvarint (zigzag s.length)).length : Int) := by
      simp only [List.length_append]
      omega
    rw [if_neg hc]
    simp
theorem rText_put {s : List UInt8} (hs : s.length < 9223372036854775808) (a r : List UInt8) (most : Nat) :
    rText (a ++ (uvarint (zigzag s.length) ++ (s ++ r))) a.length 0 most = if s.length > most then ([], a.length, 5) else (s, a.length + ((uvarint (zigzag s.length)).length + s.length), 0) := by
  unfold rText
  rw [drop_mid, textL_put hs]
  by_cases h : s.length > most
  · simp [h]
  · simp [h]
theorem ite255 {α : Type} {n : Nat} (h : n ≤ 255) (x y : α) : (if n > 255 then x else y) = y := if_neg (by omega)
theorem ite255' {α : Type} {n : Nat} (h : 255 < n) (x y : α) : (if n > 255 then x else y) = x := if_pos h
theorem getC_put {k n : Int} {s : List UInt8} (hk : Av.I64 k) (hn : Av.I64 n) (hs : s.length ≤ 255) (a r : List UInt8) : getC (a ++ (putC k n s ++ r)) a.length 0 = ((k, n, s), a.length + (putC k n s).length, 0) := by
  unfold getC putC
  have e1 : a ++ (uvarint (zigzag k) ++ uvarint (zigzag n) ++ (uvarint (zigzag s.length) ++ s) ++ r) = a ++ (uvarint (zigzag k) ++ (uvarint (zigzag n) ++ (uvarint (zigzag s.length) ++ (s ++ r)))) := by simp
  rw [e1, rInt_put hk]
  have e2 : a ++ (uvarint (zigzag k) ++ (uvarint (zigzag n) ++ (uvarint (zigzag s.length) ++ (s ++ r)))) = (a ++ uvarint (zigzag k)) ++ (uvarint (zigzag n) ++ (uvarint (zigzag s.length) ++ (s ++ r))) := by simp
  have l2 : a.length + (uvarint (zigzag k)).length = (a ++ uvarint (zigzag k)).length := by simp
  simp only
  rw [e2, l2, rInt_put hn]
  have e3 : (a ++ uvarint (zigzag k)) ++ (uvarint (zigzag n) ++ (uvarint (zigzag s.length) ++ (s ++ r))) = (a ++ uvarint (zigzag k) ++ uvarint (zigzag n)) ++ (uvarint (zigzag s.length) ++ (s ++ r)) := by simp
  have l3 : (a ++ uvarint (zigzag k)).length + (uvarint (zigzag n)).length = (a ++ uvarint (zigzag k) ++ uvarint (zigzag n)).length := by simp [Nat.add_assoc]
  simp only
  rw [e3, l3]
  have := rText_put (s := s) (by omega) (a ++ uvarint (zigzag k) ++ uvarint (zigzag n)) r 255
  rw [show ((255 : Nat) : Int) = 255 from rfl] at this
  rw [this, ite255 hs]
  simp
  omega
theorem getC_big {k n : Int} {s : List UInt8} (hk : Av.I64 k) (hn : Av.I64 n) (hs : 255 < s.length) (hs2 : s.length < 9223372036854775808) : (getC (putC k n s) 0 0).1 = (0, 0, []) ∧ (getC (putC k n s) 0 0).2.2 = 5 := by
  unfold getC putC
  have e1 : uvarint (zigzag k) ++ uvarint (zigzag n) ++ (uvarint (zigzag s.length) ++ s) = [] ++ (uvarint (zigzag k) ++ (uvarint (zigzag n) ++ (uvarint (zigzag s.length) ++ (s ++ [])))) := by simp
  rw [e1]
  have a1 := rInt_put hk [] (uvarint (zigzag n) ++ (uvarint (zigzag s.length) ++ (s ++ [])))
  simp only [List.length_nil] at a1
  rw [a1]
  have e2 : ([] : List UInt8) ++ (uvarint (zigzag k) ++ (uvarint (zigzag n) ++ (uvarint (zigzag s.length) ++ (s ++ [])))) = (uvarint (zigzag k)) ++ (uvarint (zigzag n) ++ (uvarint (zigzag s.length) ++ (s ++ []))) := by simp
  simp only [Nat.zero_add]
  rw [e2, rInt_put hn]
  have e3 : (uvarint (zigzag k)) ++ (uvarint (zigzag n) ++ (uvarint (zigzag s.length) ++ (s ++ []))) = (uvarint (zigzag k) ++ uvarint (zigzag n)) ++ (uvarint (zigzag s.length) ++ (s ++ [])) := by simp
  have l3 : (uvarint (zigzag k)).length + (uvarint (zigzag n)).length = (uvarint (zigzag k) ++ uvarint (zigzag n)).length := by simp
  simp only
  rw [e3, l3]
  have := rText_put (s := s) hs2 (uvarint (zigzag k) ++ uvarint (zigzag n)) [] 255
  rw [show ((255 : Nat) : Int) = 255 from rfl] at this
  rw [this, ite255' hs]
  simp
end Go.Av.Fn
