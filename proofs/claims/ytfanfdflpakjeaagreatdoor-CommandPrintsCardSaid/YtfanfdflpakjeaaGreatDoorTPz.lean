/- What the world at the door meets; the table of types is in order; a command read as data. No condition. -/
import Derived.ChangeMaps5
import Derived.Deep.Strs
import Derived.Test.YtfanfdflpakjeaaGreatDoorTAvA
namespace Go.Proofs.YtfanfdflpakjeaaGreatDoor
open Go.ChangeShapes Go.WideShapes Go.ChangeAt Go.RowKit Go.Av.Fn Go.ChangeMaps Go.Av
set_option linter.unusedVariables false
theorem own : ownKnob Tryz.prog.godebug = none := by kernel_rfl
theorem door_met (os : Os) (args : Array Value) : laidMetH Tryz.prog laidL ((World.doorLaid Tryz.prog 4000 os).forCall (fun _ _ => 0) ⟨#[], args, []⟩).memory :=
 laidMetH_of_parts3 (fuel := 8) (laidMet_of_run' 8 (by kernel_rfl) (by kernel_rfl)) (by kernel_rfl) (by kernel_rfl)
theorem types_ok : typesOk Tryz.prog = true := by kernel_rfl
end Go.Proofs.YtfanfdflpakjeaaGreatDoor
/- What the program's harness is, and that it looks. No condition. -/
namespace Go.Proofs.YtfanfdflpakjeaaGreatDoor
open Go.ChangeShapes Go.WideShapes Go.ChangeAt Go.RowKit Go.Av.Fn Go.ChangeMaps Go.Av
theorem mainT : Tryz.pinned.checked.prog.mainIs = some (true, (("1b8154fc6baef69c22d04b423b7dd1732c017c73b1e19009b2d3ba36816cfbaf" : String).toList)) := by kernel_rfl
theorem looksT : true = Tryz.pinned.checked.prog.looks [] := by kernel_rfl
end Go.Proofs.YtfanfdflpakjeaaGreatDoor
/- A command read as data. No condition. -/
namespace Go.Proofs.YtfanfdflpakjeaaGreatDoor
open Go.ChangeShapes Go.WideShapes Go.ChangeAt Go.RowKit Go.Av.Fn Go.ChangeMaps Go.Av
set_option linter.unusedVariables false
set_option maxRecDepth 100000
theorem wf_i64 {n : Int} (h : (Lit.int .i64 n).wf = true) : I64 n := by
 unfold Lit.wf at h
 simp only [Bool.and_eq_true, decide_eq_true_eq] at h
 have h1 : IntKind.i64.min = -9223372036854775808 := rfl
 have h2 : IntKind.i64.max = 9223372036854775807 := rfl
 rw [h1, h2] at h
 exact ⟨h.1, by omega⟩
theorem open_cmd {H : Type} {enc : TypeId × Value → H} {W : World} {base : Nat} {v : Value} {d : DataW H} {ps : List MemPlace} (hv : Value.okWide Tryz.prog W .any base 24 v) (h : DataW.Trod enc Tryz.prog W 0 (fun _ => true) true 24 v d ps) :
  ∃ (k n : Int) (s : ByteArray), v = .agg #[.int .i64 k, .int .i64 n, .string s] ∧ d = .agg [.lit (.int .i64 k), .lit (.int .i64 n), .lit (.string s.data.toList)] ∧ I64 k ∧ I64 n := by
 obtain ⟨l, rfl, hl, hna⟩ := struct_cells Tryz.underlying24 hv
 obtain ⟨fuel, hf⟩ := h
 obtain ⟨y0, y1, y2, nn, hx, hlen, g0, g1, g2⟩ := Go.Deep.trod_struct3 Tryz.underlying24 hf
 obtain ⟨k, c0, e0, w0⟩ := DataW.trod_int Tryz.underlying22 g0
 obtain ⟨n, c1, e1, w1⟩ := DataW.trod_int Tryz.underlying3 g1
 obtain ⟨s, c2, e2, w2⟩ := DataW.trod_string Tryz.underlying9 g2
 have hc3 : Tryz.prog.cellsOf 24 = 3 := by kernel_rfl
 have hc1 : Tryz.prog.cellsOf 22 = 1 := by kernel_rfl
 have hc2 : Tryz.prog.cellsOf 3 = 1 := by kernel_rfl
 have hc4 : Tryz.prog.cellsOf 9 = 1 := by kernel_rfl
 rw [hc3] at hl
 match l, hl with
 | [a, b, c], _ =>
  simp only [Value.cells, List.drop_zero, hc1, hc2, hc4, List.take_succ_cons, List.take_zero, List.drop_succ_cons, List.cons.injEq, and_true] at c0 c1 c2
  subst c0 c1 c2 e0 e1 e2
  simp only [Prod.mk.injEq] at hx
  exact ⟨k, n, s, rfl, hx.1, wf_i64 w0, wf_i64 w1⟩
end Go.Proofs.YtfanfdflpakjeaaGreatDoor
