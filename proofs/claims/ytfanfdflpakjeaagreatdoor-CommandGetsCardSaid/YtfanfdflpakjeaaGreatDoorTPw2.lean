/- What arguments weigh, one by one. No condition. -/
import Derived.ChangeMaps5
import Derived.Deep.Strs
import Derived.Test.YtfanfdflpakjeaaGreatDoorTAvC
namespace Go.Proofs.YtfanfdflpakjeaaGreatDoor
open Go.ChangeShapes Go.WideShapes Go.ChangeAt Go.RowKit Go.Av.Fn Go.ChangeMaps Go.Av
set_option linter.unusedSimpArgs false
set_option linter.unusedVariables false
set_option maxRecDepth 100000
theorem weigh_cons {H : Type} {t : TypeId} {d : DataW H} {ts : List TypeId} {rest : List (DataW H)} (h : (DataW.weightsEach Tryz.prog (t :: ts) (d :: rest)).all (fun x => decide (x ≤ reachBytes)) = true) :
  (DataW.weights Tryz.prog t d).all (fun x => decide (x ≤ reachBytes)) = true ∧ (DataW.weightsEach Tryz.prog ts rest).all (fun x => decide (x ≤ reachBytes)) = true := by
 simp only [DataW.weightsEach, List.all_append, Bool.and_eq_true] at h
 exact h
theorem weigh_cmd {H : Type} {k n : Int} {l : List UInt8} (h : (DataW.weights (H := H) Tryz.prog 24 (.agg [.lit (.int .i64 k), .lit (.int .i64 n), .lit (.string l)])).all (fun x => decide (x ≤ reachBytes)) = true) : l.length ≤ 140737488351232 := by
 simp only [DataW.weightsEach, DataW.weights, Tryz.underlying24, List.map_cons, List.map_nil, List.nil_append, List.append_nil, List.cons_append, List.all_cons, Bool.and_eq_true, decide_eq_true_eq] at h
 exact h.1
theorem weigh_bytes {H : Type} {d : DataW H} {l : List UInt8} (hd : (d = .nil ∧ l = []) ∨ ∃ E S, d = .slice E S ∧ E.length = l.length) (h : (DataW.weights Tryz.prog 40 d).all (fun x => decide (x ≤ reachBytes)) = true) : l.length ≤ 140737488351232 := by
 rcases hd with ⟨_, rfl⟩ | ⟨E, S, rfl, e⟩
 ·simp
 ·have hb : Tryz.prog.bytesOf 5 = 1 := by kernel_rfl
  simp only [DataW.weights, Tryz.underlying40, List.all_cons, Bool.and_eq_true, decide_eq_true_eq, hb] at h
  have h1 := h.1
  have h2 : reachBytes = 140737488351232 := rfl
  rw [h2] at h1
  omega
theorem cmd_rel {G : Gh} {k n : Int} {s : ByteArray} : RelV G (cmdV k n s.data.toList) (.agg #[.int .i64 k, .int .i64 n, .string s]) :=
 .agg (.cons (.val rfl) (.cons (.val rfl) (.cons (relv_string s) .nil)))
end Go.Proofs.YtfanfdflpakjeaaGreatDoor
/- What the world at the door meets; the table of types is in order; a command read as data. No condition. -/
namespace Go.Proofs.YtfanfdflpakjeaaGreatDoor
open Go.ChangeShapes Go.WideShapes Go.ChangeAt Go.RowKit Go.Av.Fn Go.ChangeMaps Go.Av
set_option linter.unusedVariables false
theorem own : ownKnob Tryz.prog.godebug = none := by kernel_rfl
theorem door_met (os : Os) (args : Array Value) : laidMetH Tryz.prog laidL ((World.doorLaid Tryz.prog 4000 os).forCall (fun _ _ => 0) ⟨#[], args, []⟩).memory :=
 laidMetH_of_parts3 (fuel := 8) (laidMet_of_run' 8 (by kernel_rfl) (by kernel_rfl)) (by kernel_rfl) (by kernel_rfl)
theorem types_ok : typesOk Tryz.prog = true := by kernel_rfl
end Go.Proofs.YtfanfdflpakjeaaGreatDoor
/- What the program's harness is, and that it looks. No condition. -/
namespace Go.Proofs.YtfanfdflpakjeaaGreatDoor
open Go.ChangeShapes Go.WideShapes Go.ChangeAt Go.RowKit Go.Av.Fn Go.ChangeMaps Go.Av
theorem mainT : Tryz.pinned.checked.prog.mainIs = some (true, (("1b8154fc6baef69c22d04b423b7dd1732c017c73b1e19009b2d3ba36816cfbaf" : String).toList)) := by kernel_rfl
theorem looksT : true = Tryz.pinned.checked.prog.looks [] := by kernel_rfl
end Go.Proofs.YtfanfdflpakjeaaGreatDoor
/- Any command has the bytes, and any bytes are, at their front, the command, that the document says; or none's: the row, and its tied card. Condition: what the row says of the listed variables. -/
namespace Go.Proofs.YtfanfdflpakjeaaGreatDoor
open Go.ChangeShapes Go.WideShapes Go.ChangeAt Go.RowKit Go.Av.Fn Go.ChangeMaps Go.Av
set_option linter.unusedVariables false
set_option maxRecDepth 100000
theorem commandGets_lifted (os : Os) (started : os.Started) (H : Type) (enc : TypeId × Value → H) :
  ReturnsInHanded {} Tryz.checked os 6 .any (fun w args => (Rows.commandGetsSpec.pre enc Tryz.prog Tryz.f6 [] false w args ∧ laidMetH Tryz.prog laidL w) ∧ sizedMet enc Tryz.prog Tryz.f6 (OpenSpec.ofChange Rows.commandGetsSpec) false w args)
   (Rows.commandGetsSpec.post enc Tryz.prog Tryz.f6 false true false false) := by
 refine returnsInHanded_of_change_and (C := Tryz.checked) (X := fun w _ => laidMetH Tryz.prog laidL w) (fun _ _ _ hh h => h.of_heap hh) own started (by kernel_rfl) Tryz.func6
  (ChangeSpec.witness_shaped (enc := enc) (C := Tryz.checked) (os := os) (X := fun w _ => laidMetH Tryz.prog laidL w) false (World.doorLaid Tryz.prog 4000 os) #[.agg #[.int .i64 0, .int .i64 0, .string ⟨#[]⟩], .slice none 0 0] 8 rfl (World.shaped_of_RefB (by kernel_rfl) (by kernel_rfl)) (by kernel_rfl) (by kernel_rfl) (by kernel_rfl) (door_met os _)) ?_
 intro W base args ds gs before hval0 hW x1 x2 hL x3
 have hval : ∀ (j : Nat) t v, Tryz.f6.params[j]? = some t → args[j]? = some v → Value.okWide Tryz.prog W .any base t v := hval0
 have hW' := hW
 obtain ⟨p, q, hA0, hV, rfl, hfz, hnd⟩ := hW
 have hA : DataW.TrodAll enc Tryz.prog W 0 (fun _ => true) true Tryz.f6.params.toList args.toList ds p := hA0
 rw [Tryz.params6] at hA hval x2
 have hA2 := hA
 obtain ⟨v0, v1, d0, d1, p0, p1, rfl, rfl, rfl, h0, h1⟩ := trodAll_two hA
 obtain ⟨rfl, rfl⟩ := trodVars_none hV
 have hcall : Calls Tryz.prog 6 #[v0, v1] W fun e W' => e = .returned (.bool true) ∧ Below W.heap.size W W' := by
  obtain ⟨k, n, s, rfl, rfl, hk, hn⟩ := open_cmd (hval 0 _ v0 rfl rfl) h0
  obtain ⟨l, hl, hd⟩ := open_bytes Tryz.underlying40 Tryz.underlying5 (by kernel_rfl) (hval 1 _ v1 rfl rfl) h1
  obtain ⟨w1, x2⟩ := weigh_cons x2
  obtain ⟨w2, x2⟩ := weigh_cons x2
  obtain ⟨p, q, _, _, hr⟩ := start_of_laid hL
  exact calls_retA (cargs := [_, _]) hr (.cons cmd_rel (.cons hl .nil)) (commandGets_ok (env_gl p q) k n s.data.toList l hk hn (weigh_cmd w1) (weigh_bytes hd w2))
 refine hcall.mono fun ev W' ⟨hev, hB⟩ => ?_
 subst hev
 have hagain := trodAll_again types_ok hB (ts := [24, 40]) (by
  have h : ([24, 40].all fun t => decide (t < Tryz.prog.types.size)) = true := by kernel_rfl
  intro t ht
  simpa using List.all_eq_true.1 h t ht) hA2
 refine ⟨_, rfl, _, _, _, [], (p0 ++ p1), [], hW', ?_, ?_, ?_, hB.frame _, fun h => by cases h⟩
 ·exact trodAll_mk1 (shut_bool Tryz.underlying4 true)
 ·exact hagain
 ·rfl
set_option maxHeartbeats 8000000 in
theorem commandGets_closed : joinedFacts Tryz.pinned.checked.prog 6 Tryz.f6 Rows.commandGetsSpec Rows.commandGetsRow = true := by
 unfold joinedFacts
 simp only [Bool.and_eq_true]
 and_intros
 all_goals as_aux_lemma => kernel_rfl
theorem commandGets_named : Tryz.pinned.checked.prog.funcNamed Rows.commandGetsRow.func = some 6 := by kernel_rfl
theorem commandGets_origin : Tryz.f6.isInstance Tryz.pinned.checked.prog Rows.commandGetsRow.origin Rows.commandGetsRow.targs := of_decide_eq_true (by kernel_rfl)
theorem commandGets_unwrapped : Tryz.f6.isWrapper Tryz.pinned.checked.prog Rows.commandGetsRow.wrapper Rows.commandGetsRow.mainSum := by
 unfold Func.isWrapper; first | (rw [if_pos (by decide +kernel)]; kernel_rfl) | (rw [if_neg (by decide +kernel)]; exact ⟨rfl, rfl⟩)
theorem commandGets_holds : Rows.CommandGetsSaid :=
 OpenClaim.holds_of_wide 6 Tryz.f6 rfl rfl rfl rfl rfl rfl rfl ⟨rfl, rfl, rfl, rfl, rfl⟩ rfl rfl rfl rfl rfl commandGets_named Tryz.func6 commandGets_closed commandGets_origin commandGets_unwrapped
  (fun os started H enc _ => commandGets_lifted os started H enc)
theorem commandGets_wf : Rows.commandGetsRow.wfByText (OpenSpec.ofChange Rows.commandGetsSpec) = true := by kernel_rfl
theorem commandGets_goes : false = Rows.commandGetsRow.goesBy Tryz.pinned.checked.prog := by kernel_rfl
theorem commandGets_noStand : ([24, 40].all fun u => !Tryz.prog.wantsStandIn u) = true := by kernel_rfl
theorem commandGets_card_holds : Rows.CommandGetsCardSaid :=
 Claim7.holds_tied_plain_at .later [] [.data, .data, .data, .handle, .sentinel, .sentinel, .data, .data] true (true, "1b8154fc6baef69c22d04b423b7dd1732c017c73b1e19009b2d3ba36816cfbaf") true
  commandGets_holds (fun _ h => by cases h) commandGets_wf (fun _ h => by cases h) commandGets_row_tie rfl ⟨rfl, rfl⟩ mainT rfl
  (fun f fn hf hfn => by
   obtain rfl : f = 6 := Option.some.inj (commandGets_named.symm.trans hf) |>.symm
   obtain rfl : fn = Tryz.f6 := (Option.some.inj (Tryz.func6.symm.trans hfn)).symm
   exact ⟨looksT, fun j t ht => by
    rw [Tryz.params6] at ht
    have hm : t ∈ [24, 40] := by simpa using Array.mem_of_getElem? ht
    have hall := commandGets_noStand
    exact (show Tryz.prog.wantsStandIn t = false by simpa using List.all_eq_true.1 hall t hm)⟩)
  commandGets_goes
end Go.Proofs.YtfanfdflpakjeaaGreatDoor
