/- What arguments weigh, one by one. No condition. -/
import Derived.Test.YtfanfdflpakjeaaGreatDoorTAvC
namespace Go.Proofs.YtfanfdflpakjeaaGreatDoor
open Go.ChangeShapes Go.WideShapes Go.ChangeAt Go.RowKit Go.Av.Fn Go.ChangeMaps Go.Av
set_option linter.unusedVariables false
set_option maxRecDepth 100000
theorem weigh_cons {H : Type} {t : TypeId} {d : DataW H} {ts : List TypeId} {rest : List (DataW H)} (h : (DataW.weightsEach Tryz.prog (t :: ts) (d :: rest)).all (fun x => decide (x ≤ reachBytes)) = true) :
    (DataW.weights Tryz.prog t d).all (fun x => decide (x ≤ reachBytes)) = true ∧ (DataW.weightsEach Tryz.prog ts rest).all (fun x => decide (x ≤ reachBytes)) = true := by
  simp only [DataW.weightsEach, List.all_append, Bool.and_eq_true] at h
  exact h
theorem weigh_cmd {H : Type} {k n : Int} {l : List UInt8} (h : (DataW.weights (H := H) Tryz.prog 24 (.agg [.lit (.int .i64 k), .lit (.int .i64 n), .lit (.string l)])).all (fun x => decide (x ≤ reachBytes)) = true) : l.length ≤ 140737488351232 := by
  simp only [DataW.weightsEach, DataW.weights, Tryz.underlying24, List.map_cons, List.map_nil, List.nil_append, List.append_nil, List.cons_append, List.all_cons, Bool.and_eq_true, decide_eq_true_eq] at h
  exact h.1
theorem weigh_bytes {H : Type} {d : DataW H} {l : List UInt8} (hd : (d = .nil ∧ l = []) ∨ ∃ E S, d = .slice E S ∧ E.length = l.length) (h : (DataW.weights Tryz.prog 40 d).all (fun x => decide (x ≤ reachBytes)) = true) : l.length ≤ 140737488351232 := by
  rcases hd with ⟨_, rfl⟩ | ⟨E, S, rfl, e⟩
  · simp
  · have hb : Tryz.prog.bytesOf 5 = 1 := by kernel_rfl
    simp only [DataW.weights, Tryz.underlying40, List.all_cons, Bool.and_eq_true, decide_eq_true_eq, hb] at h
    have h1 := h.1
    have h2 : reachBytes = 140737488351232 := rfl
    rw [h2] at h1
    omega
theorem cmd_rel {G : Gh} {k n : Int} {s : ByteArray} : RelV G (cmdV k n s.data.toList) (.agg #[.int .i64 k, .int .i64 n, .string s]) :=
  .agg (.cons (.val rfl) (.cons (.val rfl) (.cons (relv_string s) .nil)))
end Go.Proofs.YtfanfdflpakjeaaGreatDoor
/- Commands that are put are got as they were, whatever stands behind: the row, and its tied card. Condition: what the row says of the listed variables. -/
namespace Go.Proofs.YtfanfdflpakjeaaGreatDoor
open Go.ChangeShapes Go.WideShapes Go.ChangeAt Go.RowKit Go.Av.Fn Go.ChangeMaps Go.Av
set_option linter.unusedVariables false
set_option maxRecDepth 100000
theorem commandBytes_lifted (os : Os) (started : os.Started) (H : Type) (enc : TypeId × Value → H) :
    ReturnsInHanded {} Tryz.checked os 7 .any (fun w args => (Rows.commandBytesSpec.pre enc Tryz.prog Tryz.f7 [] false w args ∧ laidMetH Tryz.prog laidL w) ∧ sizedMet enc Tryz.prog Tryz.f7 (OpenSpec.ofChange Rows.commandBytesSpec) false w args)
      (Rows.commandBytesSpec.post enc Tryz.prog Tryz.f7 false true false false) := by
  refine returnsInHanded_of_change_and (C := Tryz.checked) (X := fun w _ => laidMetH Tryz.prog laidL w) (fun _ _ _ hh h => h.of_heap hh) own started (by kernel_rfl) Tryz.func7
    (ChangeSpec.witness_shaped (enc := enc) (C := Tryz.checked) (os := os) (X := fun w _ => laidMetH Tryz.prog laidL w) false (World.doorLaid Tryz.prog 4000 os) #[.agg #[.int .i64 0, .int .i64 0, .string ⟨#[]⟩], .agg #[.int .i64 0, .int .i64 0, .string ⟨#[]⟩], .slice none 0 0] 8 rfl (World.shaped_of_RefB (by kernel_rfl) (by kernel_rfl)) (by kernel_rfl) (by kernel_rfl) (by kernel_rfl) (door_met os _)) ?_
  intro W base args ds gs before hval0 hW x1 x2 hL x3
  have hval : ∀ (j : Nat) t v, Tryz.f7.params[j]? = some t → args[j]? = some v → Value.okWide Tryz.prog W .any base t v := hval0
  have hW' := hW
  obtain ⟨p, q, hA0, hV, rfl, hfz, hnd⟩ := hW
  have hA : DataW.TrodAll enc Tryz.prog W 0 (fun _ => true) true Tryz.f7.params.toList args.toList ds p := hA0
  rw [Tryz.params7] at hA hval x2
  have hA2 := hA
  obtain ⟨v0, v1, v2, d0, d1, d2, p0, p1, p2, rfl, rfl, rfl, h0, h1, h2⟩ := trodAll_three hA
  obtain ⟨rfl, rfl⟩ := trodVars_none hV
  have hcall : Calls Tryz.prog 7 #[v0, v1, v2] W fun e W' => e = .returned (.bool true) ∧ Below W.heap.size W W' := by
    obtain ⟨k, n, s, rfl, rfl, hk, hn⟩ := open_cmd (hval 0 _ v0 rfl rfl) h0
    obtain ⟨k2, n2, s2, rfl, rfl, hk2, hn2⟩ := open_cmd (hval 1 _ v1 rfl rfl) h1
    obtain ⟨l, hl, hd⟩ := open_bytes Tryz.underlying40 Tryz.underlying5 (by kernel_rfl) (hval 2 _ v2 rfl rfl) h2
    obtain ⟨w1, x2⟩ := weigh_cons x2
    obtain ⟨w2, x2⟩ := weigh_cons x2
    obtain ⟨w3, x2⟩ := weigh_cons x2
    obtain ⟨p, q, _, _, hr⟩ := start_of_laid hL
    exact calls_retA (cargs := [_, _, _]) hr (.cons cmd_rel (.cons cmd_rel (.cons hl .nil))) (commandBytes_ok (env_gl p q) k n k2 n2 s.data.toList s2.data.toList l hk hn hk2 hn2 (weigh_cmd w1) (weigh_cmd w2) (weigh_bytes hd w3))
  refine hcall.mono fun ev W' ⟨hev, hB⟩ => ?_
  subst hev
  have hagain := trodAll_again types_ok hB (ts := [24, 24, 40]) (by
    have h : ([24, 24, 40].all fun t => decide (t < Tryz.prog.types.size)) = true := by kernel_rfl
    intro t ht
    simpa using List.all_eq_true.1 h t ht) hA2
  refine ⟨_, rfl, _, _, _, [], (p0 ++ p1 ++ p2), [], hW', ?_, ?_, ?_, hB.frame _, fun h => by cases h⟩
  · exact trodAll_mk1 (shut_bool Tryz.underlying4 true)
  · exact hagain
  · rfl
set_option maxHeartbeats 8000000 in
theorem commandBytes_closed : joinedFacts Tryz.pinned.checked.prog 7 Tryz.f7 Rows.commandBytesSpec Rows.commandBytesRow = true := by
  unfold joinedFacts
  simp only [Bool.and_eq_true]
  and_intros
  all_goals as_aux_lemma => kernel_rfl
theorem commandBytes_named : Tryz.pinned.checked.prog.funcNamed Rows.commandBytesRow.func = some 7 := by kernel_rfl
theorem commandBytes_origin : Tryz.f7.isInstance Tryz.pinned.checked.prog Rows.commandBytesRow.origin Rows.commandBytesRow.targs := of_decide_eq_true (by kernel_rfl)
theorem commandBytes_unwrapped : Tryz.f7.isWrapper Tryz.pinned.checked.prog Rows.commandBytesRow.wrapper Rows.commandBytesRow.mainSum := by
  unfold Func.isWrapper; first | (rw [if_pos (by decide +kernel)]; kernel_rfl) | (rw [if_neg (by decide +kernel)]; exact ⟨rfl, rfl⟩)
theorem commandBytes_holds : Rows.CommandBytesSaid :=
  OpenClaim.holds_of_wide 7 Tryz.f7 rfl rfl rfl rfl rfl rfl rfl ⟨rfl, rfl, rfl, rfl, rfl⟩ rfl rfl rfl rfl rfl commandBytes_named Tryz.func7 commandBytes_closed commandBytes_origin commandBytes_unwrapped
    (fun os started H enc _ => commandBytes_lifted os started H enc)
theorem commandBytes_wf : Rows.commandBytesRow.wfByText (OpenSpec.ofChange Rows.commandBytesSpec) = true := by kernel_rfl
theorem commandBytes_goes : false = Rows.commandBytesRow.goesBy Tryz.pinned.checked.prog := by kernel_rfl
theorem commandBytes_noStand : ([24, 24, 40].all fun u => !Tryz.prog.wantsStandIn u) = true := by kernel_rfl
theorem commandBytes_card_holds : Rows.CommandBytesCardSaid :=
  Claim7.holds_tied_plain_at .later [] [.data, .data, .data, .handle, .sentinel, .sentinel, .data, .data] true (true, "1b8154fc6baef69c22d04b423b7dd1732c017c73b1e19009b2d3ba36816cfbaf") true
    commandBytes_holds (fun _ h => by cases h) commandBytes_wf (fun _ h => by cases h) commandBytes_row_tie rfl ⟨rfl, rfl⟩ mainT rfl
    (fun f fn hf hfn => by
      obtain rfl : f = 7 := Option.some.inj (commandBytes_named.symm.trans hf) |>.symm
      obtain rfl : fn = Tryz.f7 := (Option.some.inj (Tryz.func7.symm.trans hfn)).symm
      exact ⟨looksT, fun j t ht => by
        rw [Tryz.params7] at ht
        have hm : t ∈ [24, 24, 40] := by simpa using Array.mem_of_getElem? ht
        have hall := commandBytes_noStand
        exact (show Tryz.prog.wantsStandIn t = false by simpa using List.all_eq_true.1 hall t hm)⟩)
    commandBytes_goes
end Go.Proofs.YtfanfdflpakjeaaGreatDoor
