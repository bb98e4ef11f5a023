/- What the world at the door meets; the table of types is in order; a command read as data. No condition. -/
import Derived.ChangeMaps5
import Derived.Deep.Strs
import Derived.Test.YtfanfdflpakjeaaGreatDoorTAvA
namespace Go.Proofs.YtfanfdflpakjeaaGreatDoor
open Go.ChangeShapes Go.WideShapes Go.ChangeAt Go.RowKit Go.Av.Fn Go.ChangeMaps Go.Av
set_option linter.unusedVariables false

theorem own : ownKnob Tryz.prog.godebug = none := by kernel_rfl
theorem door_met (os : Os) (args : Array Value) : laidMetH Tryz.prog laidL ((World.doorLaid Tryz.prog 4000 os).forCall (fun _ _ => 0) ⟨#[], args, []⟩).memory :=
  laidMetH_of_parts3 (fuel := 8) (laidMet_of_run' 8 (by kernel_rfl) (by kernel_rfl)) (by kernel_rfl) (by kernel_rfl)
theorem types_ok : typesOk Tryz.prog = true := by kernel_rfl


end Go.Proofs.YtfanfdflpakjeaaGreatDoor
/- A command read as data. No condition. -/
namespace Go.Proofs.YtfanfdflpakjeaaGreatDoor
open Go.ChangeShapes Go.WideShapes Go.ChangeAt Go.RowKit Go.Av.Fn Go.ChangeMaps Go.Av
set_option linter.unusedVariables false
set_option maxRecDepth 100000
theorem wf_i64 {n : Int} (h : (Lit.int .i64 n).wf = true) : I64 n := by
  unfold Lit.wf at h
  simp only [Bool.and_eq_true, decide_eq_true_eq] at h
  have h1 : IntKind.i64.min = -9223372036854775808 := rfl
  have h2 : IntKind.i64.max = 9223372036854775807 := rfl
  rw [h1, h2] at h
  exact ⟨h.1, by omega⟩

/-- A command read as data: its cells, and what they weigh. -/
theorem open_cmd {H : Type} {enc : TypeId × Value → H} {W : World} {base : Nat} {v : Value} {d : DataW H} {ps : List MemPlace} (hv : Value.okWide Tryz.prog W .any base 24 v) (h : DataW.Trod enc Tryz.prog W 0 (fun _ => true) true 24 v d ps) :
    ∃ (k n : Int) (s : ByteArray), v = .agg #[.int .i64 k, .int .i64 n, .string s] ∧ d = .agg [.lit (.int .i64 k), .lit (.int .i64 n), .lit (.string s.data.toList)] ∧ I64 k ∧ I64 n := by
  obtain ⟨l, rfl, hl, hna⟩ := struct_cells Tryz.underlying24 hv
  obtain ⟨fuel, hf⟩ := h
  obtain ⟨y0, y1, y2, nn, hx, hlen, g0, g1, g2⟩ := Go.Deep.trod_struct3 Tryz.underlying24 hf
  obtain ⟨k, c0, e0, w0⟩ := DataW.trod_int Tryz.underlying22 g0
  obtain ⟨n, c1, e1, w1⟩ := DataW.trod_int Tryz.underlying3 g1
  obtain ⟨s, c2, e2, w2⟩ := DataW.trod_string Tryz.underlying9 g2
  have hc3 : Tryz.prog.cellsOf 24 = 3 := by kernel_rfl
  have hc1 : Tryz.prog.cellsOf 22 = 1 := by kernel_rfl
  have hc2 : Tryz.prog.cellsOf 3 = 1 := by kernel_rfl
  have hc4 : Tryz.prog.cellsOf 9 = 1 := by kernel_rfl
  rw [hc3] at hl
  match l, hl with
  | [a, b, c], _ =>
    simp only [Value.cells, List.drop_zero, hc1, hc2, hc4, List.take_succ_cons, List.take_zero, List.drop_succ_cons, List.cons.injEq, and_true] at c0 c1 c2
    subst c0 c1 c2 e0 e1 e2
    simp only [Prod.mk.injEq] at hx
    exact ⟨k, n, s, rfl, hx.1, wf_i64 w0, wf_i64 w1⟩
theorem cmd_weight {H : Type} {k n : Int} {l : List UInt8} {ts : List TypeId} {rest : List (DataW H)} (h : (DataW.weightsEach Tryz.prog (24 :: ts) (.agg [.lit (.int .i64 k), .lit (.int .i64 n), .lit (.string l)] :: rest)).all (fun x => decide (x ≤ reachBytes)) = true) : l.length ≤ 140737488351232 := by
  simp only [DataW.weightsEach, DataW.weights, Tryz.underlying24, List.map_cons, List.map_nil, List.nil_append, List.append_nil, List.cons_append, List.all_cons, Bool.and_eq_true, decide_eq_true_eq] at h
  exact h.1
end Go.Proofs.YtfanfdflpakjeaaGreatDoor
/- Of no reader there is no command; of one that is not well there is none, and it stays where it was: the row. Condition: what the row says of the listed variables. -/
namespace Go.Proofs.YtfanfdflpakjeaaGreatDoor
open Go.ChangeShapes Go.WideShapes Go.ChangeAt Go.RowKit Go.Av.Fn Go.ChangeMaps Go.Av
set_option linter.unusedVariables false

theorem commandNil_calls {W : World} (h : laidMetH Tryz.prog laidL W) {k n : Int} (s : ByteArray) (hk : I64 k) (hn : I64 n) (hs : s.size ≤ 140737488351232) :
    Calls Tryz.prog 8 #[.agg #[.int .i64 k, .int .i64 n, .string s]] W fun e W' => e = .returned (.bool true) ∧ Below W.heap.size W W' := by
  obtain ⟨p, q, _, _, hr⟩ := start_of_laid h
  have hl : s.data.toList.length ≤ 140737488351232 := hs
  refine Go.Av.calls_ret (args := [cmdV k n s.data.toList]) (cargs := [.agg #[.int .i64 k, .int .i64 n, .string s]]) hr (.cons ?_ .nil) (commandNil_ok (env_gl p q) k n s.data.toList hk hn hl)
  have : (⟨s.data.toList.toArray⟩ : ByteArray) = s := by simp
  refine .agg (.cons (.val rfl) (.cons (.val rfl) (.cons ?_ .nil)))
  show RelV _ (.val (.string ⟨s.data.toList.toArray⟩)) _
  rw [this]
  exact .val rfl

set_option maxRecDepth 100000 in
theorem commandNil_lifted (os : Os) (started : os.Started) (H : Type) (enc : TypeId × Value → H) :
    ReturnsInHanded {} Tryz.checked os 8 .any (fun w args => (Rows.commandNilSpec.pre enc Tryz.prog Tryz.f8 [] false w args ∧ laidMetH Tryz.prog laidL w) ∧ sizedMet enc Tryz.prog Tryz.f8 (OpenSpec.ofChange Rows.commandNilSpec) false w args)
      (Rows.commandNilSpec.post enc Tryz.prog Tryz.f8 false true false false) := by
  refine returnsInHanded_of_change_and (C := Tryz.checked) (X := fun w _ => laidMetH Tryz.prog laidL w) (fun _ _ _ hh h => h.of_heap hh) own started (by kernel_rfl) Tryz.func8
    (ChangeSpec.witness_shaped (enc := enc) (C := Tryz.checked) (os := os) (X := fun w _ => laidMetH Tryz.prog laidL w) false (World.doorLaid Tryz.prog 4000 os) #[.agg #[.int .i64 0, .int .i64 0, .string ⟨#[]⟩]] 8 rfl (World.shaped_of_RefB (by kernel_rfl) (by kernel_rfl)) (by kernel_rfl) (by kernel_rfl) (by kernel_rfl) (door_met os _)) ?_
  intro W base args ds gs before hval0 hW x1 x2 hL x3
  have hval : ∀ (j : Nat) t v, Tryz.f8.params[j]? = some t → args[j]? = some v → Value.okWide Tryz.prog W .any base t v := hval0
  have hW' := hW
  obtain ⟨p, q, hA0, hV, rfl, hfz, hnd⟩ := hW
  have hA : DataW.TrodAll enc Tryz.prog W 0 (fun _ => true) true Tryz.f8.params.toList args.toList ds p := hA0
  rw [Tryz.params8] at hA hval
  have hA2 := hA
  obtain ⟨v0, d0, rfl, rfl, h0⟩ := trodAll_one hA
  obtain ⟨rfl, rfl⟩ := trodVars_none hV
  obtain ⟨k, n, s, rfl, rfl, hk, hn⟩ := open_cmd (hval 0 24 v0 rfl rfl) h0
  have hs : s.size ≤ 140737488351232 := by
    rw [Tryz.params8] at x2
    exact cmd_weight x2
  refine (commandNil_calls hL s hk hn hs).mono fun ev W' ⟨hev, hB⟩ => ?_
  subst hev
  have hagain := trodAll_again types_ok hB (ts := [24]) (by
    have h : ([24].all fun t => decide (t < Tryz.prog.types.size)) = true := by kernel_rfl
    intro t ht
    simpa using List.all_eq_true.1 h t ht) hA2
  refine ⟨_, rfl, _, _, _, [], p, [], hW', ?_, ?_, ?_, hB.frame _, fun h => by cases h⟩
  · exact trodAll_mk1 (shut_bool Tryz.underlying4 true)
  · exact hagain
  · rfl

set_option maxRecDepth 100000 in
set_option maxHeartbeats 8000000 in
theorem commandNil_closed : joinedFacts Tryz.pinned.checked.prog 8 Tryz.f8 Rows.commandNilSpec Rows.commandNilRow = true := by
  unfold joinedFacts
  simp only [Bool.and_eq_true]
  and_intros
  all_goals as_aux_lemma => kernel_rfl
theorem commandNil_named : Tryz.pinned.checked.prog.funcNamed Rows.commandNilRow.func = some 8 := by kernel_rfl
theorem commandNil_origin : Tryz.f8.isInstance Tryz.pinned.checked.prog Rows.commandNilRow.origin Rows.commandNilRow.targs := of_decide_eq_true (by kernel_rfl)
theorem commandNil_unwrapped : Tryz.f8.isWrapper Tryz.pinned.checked.prog Rows.commandNilRow.wrapper Rows.commandNilRow.mainSum := by
  unfold Func.isWrapper; first | (rw [if_pos (by decide +kernel)]; kernel_rfl) | (rw [if_neg (by decide +kernel)]; exact ⟨rfl, rfl⟩)
theorem commandNil_holds : Rows.CommandNilSaid :=
  OpenClaim.holds_of_wide 8 Tryz.f8 rfl rfl rfl rfl rfl rfl rfl ⟨rfl, rfl, rfl, rfl, rfl⟩ rfl rfl rfl rfl rfl commandNil_named Tryz.func8 commandNil_closed commandNil_origin commandNil_unwrapped
    (fun os started H enc _ => commandNil_lifted os started H enc)

end Go.Proofs.YtfanfdflpakjeaaGreatDoor
/- What the program's harness is, and that it looks. No condition. -/
namespace Go.Proofs.YtfanfdflpakjeaaGreatDoor
open Go.ChangeShapes Go.WideShapes Go.ChangeAt Go.RowKit Go.Av.Fn Go.ChangeMaps Go.Av
theorem mainT : Tryz.pinned.checked.prog.mainIs = some (true, (("1b8154fc6baef69c22d04b423b7dd1732c017c73b1e19009b2d3ba36816cfbaf" : String).toList)) := by kernel_rfl
theorem looksT : true = Tryz.pinned.checked.prog.looks [] := by kernel_rfl
end Go.Proofs.YtfanfdflpakjeaaGreatDoor
/- Of no reader there is no command; of one that is not well there is none, and it stays where it was: the tied card. Condition: what the card says of the listed variables. -/
namespace Go.Proofs.YtfanfdflpakjeaaGreatDoor
open Go.ChangeShapes Go.WideShapes Go.ChangeAt Go.RowKit Go.Av.Fn Go.ChangeMaps Go.Av
set_option linter.unusedVariables false

theorem commandNil_wf : Rows.commandNilRow.wfByText (OpenSpec.ofChange Rows.commandNilSpec) = true := by kernel_rfl
theorem commandNil_goes : false = Rows.commandNilRow.goesBy Tryz.pinned.checked.prog := by kernel_rfl
theorem commandNil_noStand : ([24].all fun u => !Tryz.prog.wantsStandIn u) = true := by kernel_rfl
theorem commandNil_card_holds : Rows.CommandNilCardSaid :=
  Claim7.holds_tied_plain_at .later [] [.data, .data, .data, .handle, .sentinel, .sentinel, .data, .data] true (true, "1b8154fc6baef69c22d04b423b7dd1732c017c73b1e19009b2d3ba36816cfbaf") true
    commandNil_holds (fun _ h => by cases h) commandNil_wf (fun _ h => by cases h) commandNil_row_tie rfl ⟨rfl, rfl⟩ mainT rfl
    (fun f fn hf hfn => by
      obtain rfl : f = 8 := Option.some.inj (commandNil_named.symm.trans hf) |>.symm
      obtain rfl : fn = Tryz.f8 := (Option.some.inj (Tryz.func8.symm.trans hfn)).symm
      exact ⟨looksT, fun j t ht => by
        rw [Tryz.params8] at ht
        have hm : t ∈ [24] := by simpa using Array.mem_of_getElem? ht
        have hall := commandNil_noStand
        exact (show Tryz.prog.wantsStandIn t = false by simpa using List.all_eq_true.1 hall t hm)⟩)
    commandNil_goes
end Go.Proofs.YtfanfdflpakjeaaGreatDoor
