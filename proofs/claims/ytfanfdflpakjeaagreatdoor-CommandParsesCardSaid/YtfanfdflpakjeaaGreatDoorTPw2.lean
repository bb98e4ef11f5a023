/- What arguments weigh, one by one. No condition. -/
import Derived.Test.YtfanfdflpakjeaaGreatDoorTAvC
namespace Go.Proofs.YtfanfdflpakjeaaGreatDoor
open Go.ChangeShapes Go.WideShapes Go.ChangeAt Go.RowKit Go.Av.Fn Go.ChangeMaps Go.Av
set_option linter.unusedSimpArgs false
set_option linter.unusedVariables false
set_option maxRecDepth 100000
theorem weigh_cons {H : Type} {t : TypeId} {d : DataW H} {ts : List TypeId} {rest : List (DataW H)} (h : (DataW.weightsEach Tryz.prog (t :: ts) (d :: rest)).all (fun x => decide (x ≤ reachBytes)) = true) :
  (DataW.weights Tryz.prog t d).all (fun x => decide (x ≤ reachBytes)) = true ∧ (DataW.weightsEach Tryz.prog ts rest).all (fun x => decide (x ≤ reachBytes)) = true := by
 simp only [DataW.weightsEach, List.all_append, Bool.and_eq_true] at h
 exact h
theorem weigh_string {H : Type} {l : List UInt8} (h : (DataW.weights (H := H) Tryz.prog 9 (.lit (.string l))).all (fun x => decide (x ≤ reachBytes)) = true) : l.length ≤ 140737488351232 := by
 simp only [DataW.weights, List.all_cons, Bool.and_eq_true, decide_eq_true_eq] at h
 exact h.1
theorem open_str {H : Type} {enc : TypeId × Value → H} {W : World} {base : Nat} {v : Value} {d : DataW H} {ps : List MemPlace} (hv : Value.okWide Tryz.prog W .any base 9 v) (h : DataW.Trod enc Tryz.prog W 0 (fun _ => true) true 9 v d ps) :
  ∃ s : ByteArray, v = .string s ∧ d = .lit (.string s.data.toList) := by
 obtain ⟨fuel, hf⟩ := h
 obtain ⟨s, c2, e2, w2⟩ := DataW.trod_string Tryz.underlying9 hf
 have hn : noAgg v = true := by
  simp only [Value.okWide, Tryz.underlying9] at hv
  exact noAgg_cell hv
 rw [noAgg_cells hn] at c2
 simp only [Prod.mk.injEq] at e2
 exact ⟨s, by simpa using c2, e2.1⟩
theorem fmtAll_gl (p q : Value) : FmtAll (gl p q) := fun n h0 h1 => fmt_gl p q h0 h1
end Go.Proofs.YtfanfdflpakjeaaGreatDoor
/- Any text is the command that the document says, or none's: the row, and its tied card. Condition: what the row says of the listed variables. -/
namespace Go.Proofs.YtfanfdflpakjeaaGreatDoor
open Go.ChangeShapes Go.WideShapes Go.ChangeAt Go.RowKit Go.Av.Fn Go.ChangeMaps Go.Av
set_option linter.unusedVariables false
set_option maxRecDepth 100000
theorem commandParses_lifted (os : Os) (started : os.Started) (H : Type) (enc : TypeId × Value → H) :
  ReturnsInHanded {} Tryz.checked os 3 .any (fun w args => (Rows.commandParsesSpec.pre enc Tryz.prog Tryz.f3 [] false w args ∧ laidMetH Tryz.prog laidL w) ∧ sizedMet enc Tryz.prog Tryz.f3 (OpenSpec.ofChange Rows.commandParsesSpec) false w args)
   (Rows.commandParsesSpec.post enc Tryz.prog Tryz.f3 false true false false) := by
 refine returnsInHanded_of_change_and (C := Tryz.checked) (X := fun w _ => laidMetH Tryz.prog laidL w) (fun _ _ _ hh h => h.of_heap hh) own started (by kernel_rfl) Tryz.func3
  (ChangeSpec.witness_shaped (enc := enc) (C := Tryz.checked) (os := os) (X := fun w _ => laidMetH Tryz.prog laidL w) false (World.doorLaid Tryz.prog 4000 os) #[.string ⟨#[]⟩] 8 rfl (World.shaped_of_RefB (by kernel_rfl) (by kernel_rfl)) (by kernel_rfl) (by kernel_rfl) (by kernel_rfl) (door_met os _)) ?_
 intro W base args ds gs before hval0 hW x1 x2 hL x3
 have hval : ∀ (j : Nat) t v, Tryz.f3.params[j]? = some t → args[j]? = some v → Value.okWide Tryz.prog W .any base t v := hval0
 have hW' := hW
 obtain ⟨p, q, hA0, hV, rfl, hfz, hnd⟩ := hW
 have hA : DataW.TrodAll enc Tryz.prog W 0 (fun _ => true) true Tryz.f3.params.toList args.toList ds p := hA0
 rw [Tryz.params3] at hA hval x2
 have hA2 := hA
 obtain ⟨v0, d0, rfl, rfl, h0⟩ := trodAll_one hA
 obtain ⟨rfl, rfl⟩ := trodVars_none hV
 have hcall : Calls Tryz.prog 3 #[v0] W fun e W' => e = .returned (.bool true) ∧ Below W.heap.size W W' := by
  obtain ⟨s, rfl, rfl⟩ := open_str (hval 0 _ v0 rfl rfl) h0
  obtain ⟨w1, x2⟩ := weigh_cons x2
  obtain ⟨p, q, _, _, hr⟩ := start_of_laid hL
  exact calls_retA (cargs := [_]) hr (.cons (relv_string s) .nil) (commandParses_ok (env_gl p q) (fmtAll_gl p q) s.data.toList (weigh_string w1))
 refine hcall.mono fun ev W' ⟨hev, hB⟩ => ?_
 subst hev
 have hagain := trodAll_again types_ok hB (ts := [9]) (by
  have h : ([9].all fun t => decide (t < Tryz.prog.types.size)) = true := by kernel_rfl
  intro t ht
  simpa using List.all_eq_true.1 h t ht) hA2
 refine ⟨_, rfl, _, _, _, [], p, [], hW', ?_, ?_, ?_, hB.frame _, fun h => by cases h⟩
 ·exact trodAll_mk1 (shut_bool Tryz.underlying4 true)
 ·exact hagain
 ·rfl
set_option maxHeartbeats 8000000 in
theorem commandParses_closed : joinedFacts Tryz.pinned.checked.prog 3 Tryz.f3 Rows.commandParsesSpec Rows.commandParsesRow = true := by
 unfold joinedFacts
 simp only [Bool.and_eq_true]
 and_intros
 all_goals as_aux_lemma => kernel_rfl
theorem commandParses_named : Tryz.pinned.checked.prog.funcNamed Rows.commandParsesRow.func = some 3 := by kernel_rfl
theorem commandParses_origin : Tryz.f3.isInstance Tryz.pinned.checked.prog Rows.commandParsesRow.origin Rows.commandParsesRow.targs := of_decide_eq_true (by kernel_rfl)
theorem commandParses_unwrapped : Tryz.f3.isWrapper Tryz.pinned.checked.prog Rows.commandParsesRow.wrapper Rows.commandParsesRow.mainSum := by
 unfold Func.isWrapper; first | (rw [if_pos (by decide +kernel)]; kernel_rfl) | (rw [if_neg (by decide +kernel)]; exact ⟨rfl, rfl⟩)
theorem commandParses_holds : Rows.CommandParsesSaid :=
 OpenClaim.holds_of_wide 3 Tryz.f3 rfl rfl rfl rfl rfl rfl rfl ⟨rfl, rfl, rfl, rfl, rfl⟩ rfl rfl rfl rfl rfl commandParses_named Tryz.func3 commandParses_closed commandParses_origin commandParses_unwrapped
  (fun os started H enc _ => commandParses_lifted os started H enc)
theorem commandParses_wf : Rows.commandParsesRow.wfByText (OpenSpec.ofChange Rows.commandParsesSpec) = true := by kernel_rfl
theorem commandParses_goes : false = Rows.commandParsesRow.goesBy Tryz.pinned.checked.prog := by kernel_rfl
theorem commandParses_noStand : ([9].all fun u => !Tryz.prog.wantsStandIn u) = true := by kernel_rfl
theorem commandParses_card_holds : Rows.CommandParsesCardSaid :=
 Claim7.holds_tied_plain_at .later [] [.data, .data, .data, .handle, .sentinel, .sentinel, .data, .data] true (true, "1b8154fc6baef69c22d04b423b7dd1732c017c73b1e19009b2d3ba36816cfbaf") true
  commandParses_holds (fun _ h => by cases h) commandParses_wf (fun _ h => by cases h) commandParses_row_tie rfl ⟨rfl, rfl⟩ mainT rfl
  (fun f fn hf hfn => by
   obtain rfl : f = 3 := Option.some.inj (commandParses_named.symm.trans hf) |>.symm
   obtain rfl : fn = Tryz.f3 := (Option.some.inj (Tryz.func3.symm.trans hfn)).symm
   exact ⟨looksT, fun j t ht => by
    rw [Tryz.params3] at ht
    have hm : t ∈ [9] := by simpa using Array.mem_of_getElem? ht
    have hall := commandParses_noStand
    exact (show Tryz.prog.wantsStandIn t = false by simpa using List.all_eq_true.1 hall t hm)⟩)
  commandParses_goes
end Go.Proofs.YtfanfdflpakjeaaGreatDoor
