/- What arguments weigh, one by one. No condition. -/
import Derived.Test.YtfanfdflpakjeaaGreatDoorTAvC
namespace Go.Proofs.YtfanfdflpakjeaaGreatDoor
open Go.ChangeShapes Go.WideShapes Go.ChangeAt Go.RowKit Go.Av.Fn Go.ChangeMaps Go.Av
set_option linter.unusedVariables false
set_option maxRecDepth 100000
theorem cmd_rel {G : Gh} {k n : Int} {s : ByteArray} : RelV G (cmdV k n s.data.toList) (.agg #[.int .i64 k, .int .i64 n, .string s]) :=
 .agg (.cons (.val rfl) (.cons (.val rfl) (.cons (relv_string s) .nil)))
theorem fmtAll_gl (p q : Value) : FmtAll (gl p q) := fun n h0 h1 => fmt_gl p q h0 h1
end Go.Proofs.YtfanfdflpakjeaaGreatDoor
/- Any command is right or not, and has the text that the document says: the row, and its tied card. Condition: what the row says of the listed variables. -/
namespace Go.Proofs.YtfanfdflpakjeaaGreatDoor
open Go.ChangeShapes Go.WideShapes Go.ChangeAt Go.RowKit Go.Av.Fn Go.ChangeMaps Go.Av
set_option linter.unusedVariables false
set_option maxRecDepth 100000
theorem commandPrints_lifted (os : Os) (started : os.Started) (H : Type) (enc : TypeId × Value → H) :
  ReturnsInHanded {} Tryz.checked os 4 .any (fun w args => (Rows.commandPrintsSpec.pre enc Tryz.prog Tryz.f4 [] false w args ∧ laidMetH Tryz.prog laidL w) ∧ sizedMet enc Tryz.prog Tryz.f4 (OpenSpec.ofChange Rows.commandPrintsSpec) false w args)
   (Rows.commandPrintsSpec.post enc Tryz.prog Tryz.f4 false true false false) := by
 refine returnsInHanded_of_change_and (C := Tryz.checked) (X := fun w _ => laidMetH Tryz.prog laidL w) (fun _ _ _ hh h => h.of_heap hh) own started (by kernel_rfl) Tryz.func4
  (ChangeSpec.witness_shaped (enc := enc) (C := Tryz.checked) (os := os) (X := fun w _ => laidMetH Tryz.prog laidL w) false (World.doorLaid Tryz.prog 4000 os) #[.agg #[.int .i64 0, .int .i64 0, .string ⟨#[]⟩]] 8 rfl (World.shaped_of_RefB (by kernel_rfl) (by kernel_rfl)) (by kernel_rfl) (by kernel_rfl) (by kernel_rfl) (door_met os _)) ?_
 intro W base args ds gs before hval0 hW x1 x2 hL x3
 have hval : ∀ (j : Nat) t v, Tryz.f4.params[j]? = some t → args[j]? = some v → Value.okWide Tryz.prog W .any base t v := hval0
 have hW' := hW
 obtain ⟨p, q, hA0, hV, rfl, hfz, hnd⟩ := hW
 have hA : DataW.TrodAll enc Tryz.prog W 0 (fun _ => true) true Tryz.f4.params.toList args.toList ds p := hA0
 rw [Tryz.params4] at hA hval x2
 have hA2 := hA
 obtain ⟨v0, d0, rfl, rfl, h0⟩ := trodAll_one hA
 obtain ⟨rfl, rfl⟩ := trodVars_none hV
 have hcall : Calls Tryz.prog 4 #[v0] W fun e W' => e = .returned (.bool true) ∧ Below W.heap.size W W' := by
  obtain ⟨k, n, s, rfl, rfl, hk, hn⟩ := open_cmd (hval 0 _ v0 rfl rfl) h0
  obtain ⟨p, q, _, _, hr⟩ := start_of_laid hL
  exact calls_retA (cargs := [_]) hr (.cons cmd_rel .nil) (commandPrints_ok (env_gl p q) (fmtAll_gl p q) k n s.data.toList)
 refine hcall.mono fun ev W' ⟨hev, hB⟩ => ?_
 subst hev
 have hagain := trodAll_again types_ok hB (ts := [24]) (by
  have h : ([24].all fun t => decide (t < Tryz.prog.types.size)) = true := by kernel_rfl
  intro t ht
  simpa using List.all_eq_true.1 h t ht) hA2
 refine ⟨_, rfl, _, _, _, [], p, [], hW', ?_, ?_, ?_, hB.frame _, fun h => by cases h⟩
 ·exact trodAll_mk1 (shut_bool Tryz.underlying4 true)
 ·exact hagain
 ·rfl
set_option maxHeartbeats 8000000 in
theorem commandPrints_closed : joinedFacts Tryz.pinned.checked.prog 4 Tryz.f4 Rows.commandPrintsSpec Rows.commandPrintsRow = true := by
 unfold joinedFacts
 simp only [Bool.and_eq_true]
 and_intros
 all_goals as_aux_lemma => kernel_rfl
theorem commandPrints_named : Tryz.pinned.checked.prog.funcNamed Rows.commandPrintsRow.func = some 4 := by kernel_rfl
theorem commandPrints_origin : Tryz.f4.isInstance Tryz.pinned.checked.prog Rows.commandPrintsRow.origin Rows.commandPrintsRow.targs := of_decide_eq_true (by kernel_rfl)
theorem commandPrints_unwrapped : Tryz.f4.isWrapper Tryz.pinned.checked.prog Rows.commandPrintsRow.wrapper Rows.commandPrintsRow.mainSum := by
 unfold Func.isWrapper; first | (rw [if_pos (by decide +kernel)]; kernel_rfl) | (rw [if_neg (by decide +kernel)]; exact ⟨rfl, rfl⟩)
theorem commandPrints_holds : Rows.CommandPrintsSaid :=
 OpenClaim.holds_of_wide 4 Tryz.f4 rfl rfl rfl rfl rfl rfl rfl ⟨rfl, rfl, rfl, rfl, rfl⟩ rfl rfl rfl rfl rfl commandPrints_named Tryz.func4 commandPrints_closed commandPrints_origin commandPrints_unwrapped
  (fun os started H enc _ => commandPrints_lifted os started H enc)
theorem commandPrints_wf : Rows.commandPrintsRow.wfByText (OpenSpec.ofChange Rows.commandPrintsSpec) = true := by kernel_rfl
theorem commandPrints_goes : false = Rows.commandPrintsRow.goesBy Tryz.pinned.checked.prog := by kernel_rfl
theorem commandPrints_noStand : ([24].all fun u => !Tryz.prog.wantsStandIn u) = true := by kernel_rfl
theorem commandPrints_card_holds : Rows.CommandPrintsCardSaid :=
 Claim7.holds_tied_plain_at .later [] [.data, .data, .data, .handle, .sentinel, .sentinel, .data, .data] true (true, "1b8154fc6baef69c22d04b423b7dd1732c017c73b1e19009b2d3ba36816cfbaf") true
  commandPrints_holds (fun _ h => by cases h) commandPrints_wf (fun _ h => by cases h) commandPrints_row_tie rfl ⟨rfl, rfl⟩ mainT rfl
  (fun f fn hf hfn => by
   obtain rfl : f = 4 := Option.some.inj (commandPrints_named.symm.trans hf) |>.symm
   obtain rfl : fn = Tryz.f4 := (Option.some.inj (Tryz.func4.symm.trans hfn)).symm
   exact ⟨looksT, fun j t ht => by
    rw [Tryz.params4] at ht
    have hm : t ∈ [24] := by simpa using Array.mem_of_getElem? ht
    have hall := commandPrints_noStand
    exact (show Tryz.prog.wantsStandIn t = false by simpa using List.all_eq_true.1 hall t hm)⟩)
  commandPrints_goes
end Go.Proofs.YtfanfdflpakjeaaGreatDoor
