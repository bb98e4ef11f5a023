/- Of no client, and of one that nothing made, there is nothing, and nothing is done: the tied card. Condition: what the card says of the listed variables. -/
import Derived.Test.YtibbfadgcklpjaaGreatDoorX3
import Derived.Test.YtibbfadgcklpjaaGreatDoorAvA
namespace Go.Proofs.YtibbfadgcklpjaaGreatDoor
open Go.ChangeShapes Go.WideShapes Go.ChangeAt Go.RowKit Go.Av.Fn Go.ChangeMaps Go.Av
set_option linter.unusedVariables false

def zeroIn (P : Program) (t : TypeId) : Value := match (P.info? t).bind (·.zero) with
  | some z => z
  | none => .nilIface
theorem types_ok : typesOk Tryz.prog = true := by kernel_rfl
theorem rows3 : ∀ t ∈ [27, 36, 4], t < Tryz.prog.types.size := by
  have h : ([27, 36, 4].all fun t => decide (t < Tryz.prog.types.size)) = true := by kernel_rfl
  intro t ht
  simpa using List.all_eq_true.1 h t ht

theorem underE : ∃ fs, Tryz.prog.underlying 27 = some (.struct fs) := by
  have h : (match Tryz.prog.underlying 27 with | some (.struct _) => true | _ => false) = true := by kernel_rfl
  split at h
  · rename_i fs hf
    exact ⟨fs, hf⟩
  · cases h
theorem underM : ∃ fs, Tryz.prog.underlying 36 = some (.struct fs) := by
  have h : (match Tryz.prog.underlying 36 with | some (.struct _) => true | _ => false) = true := by kernel_rfl
  split at h
  · rename_i fs hf
    exact ⟨fs, hf⟩
  · cases h
theorem cellsE : Tryz.prog.cellsOf 27 = 8 := by kernel_rfl
theorem cellsM : Tryz.prog.cellsOf 36 = 22 := by kernel_rfl

theorem clientNil_calls {W : World} (h : laidMetH Tryz.prog laidL W) {e g : List Value} (he : e.length = 8) (hg : g.length = 22) (hne : ∀ x ∈ e, noAgg x = true) (hng : ∀ x ∈ g, noAgg x = true) (b : Bool) :
    Calls Tryz.prog 3 #[.agg e.toArray, .agg g.toArray, .bool b] W fun e W' => e = .returned (.bool true) ∧ Below W.heap.size W W' :=
  calls_true (cargs := [.agg e.toArray, .agg g.toArray, .bool b]) (start_of_laid h) (.cons (.agg (RelL.vals _ hne)) (.cons (.agg (RelL.vals _ hng)) (.cons (.val rfl) .nil))) (clientNil_ok rfl rfl he hg b)

set_option maxRecDepth 100000 in
theorem clientNil_lifted (os : Os) (started : os.Started) (H : Type) (enc : TypeId × Value → H) :
    ReturnsInHanded {} Tryz.checked os 3 .any (fun w args => (Rows.clientNilSpec.pre enc Tryz.prog Tryz.f3 [] false w args ∧ laidMetH Tryz.prog laidL w) ∧ sizedMet enc Tryz.prog Tryz.f3 (OpenSpec.ofChange Rows.clientNilSpec) false w args)
      (Rows.clientNilSpec.post enc Tryz.prog Tryz.f3 false true false false) := by
  refine returnsInHanded_of_change_and (C := Tryz.checked) (X := fun w _ => laidMetH Tryz.prog laidL w) (fun _ _ _ hh h => h.of_heap hh) own started (by kernel_rfl) Tryz.func3
    (ChangeSpec.witness_shaped (enc := enc) (C := Tryz.checked) (os := os) (X := fun w _ => laidMetH Tryz.prog laidL w) false (World.doorLaid Tryz.prog 4000 os) #[zeroIn Tryz.prog 27, zeroIn Tryz.prog 36, .bool false] 8 rfl (World.shaped_of_RefB (by kernel_rfl) (by kernel_rfl)) (by kernel_rfl) (by kernel_rfl) (by kernel_rfl) (door_met os _)) ?_
  intro W base args ds gs before hval0 hW _ _ hL _
  have hval : ∀ (j : Nat) t v, Tryz.f3.params[j]? = some t → args[j]? = some v → Value.okWide Tryz.prog W .any base t v := hval0
  have hW' := hW
  obtain ⟨p, q, hA0, hV, rfl, hfz, hnd⟩ := hW
  have hA : DataW.TrodAll enc Tryz.prog W 0 (fun _ => true) true Tryz.f3.params.toList args.toList ds p := hA0
  rw [Tryz.params3] at hA hval
  have hA2 := hA
  obtain ⟨v0, v1, v2, d0, d1, d2, p0, p1, p2, rfl, rfl, rfl, h0, h1, h2⟩ := trodAll_three hA
  obtain ⟨rfl, rfl⟩ := trodVars_none hV
  obtain ⟨fsE, hE⟩ := underE
  obtain ⟨fsM, hM⟩ := underM
  obtain ⟨e, rfl, he, hne⟩ := struct_cells hE (hval 0 27 v0 rfl rfl)
  obtain ⟨g, rfl, hg, hng⟩ := struct_cells hM (hval 1 36 v1 rfl rfl)
  rw [cellsE] at he
  rw [cellsM] at hg
  obtain ⟨b, rfl, rfl, rfl⟩ := open_bool Tryz.underlying4 (hval 2 4 v2 rfl rfl) h2
  refine (clientNil_calls hL he hg hne hng b).mono fun ev W' ⟨hev, hB⟩ => ?_
  subst hev
  have hagain := trodAll_again types_ok hB (ts := [27, 36, 4]) rows3 hA2
  refine ⟨_, rfl, _, _, _, [], p0 ++ p1 ++ [], [], hW', ?_, ?_, ?_, hB.frame _, fun h => by cases h⟩
  · exact trodAll_mk1 (shut_bool Tryz.underlying4 true)
  · exact hagain
  · rfl

theorem clientNil_holds : Rows.ClientNilSaid :=
  OpenClaim.holds_of_wide 3 Tryz.f3 rfl rfl rfl rfl rfl rfl rfl ⟨rfl, rfl, rfl, rfl, rfl⟩ rfl rfl rfl rfl rfl (by kernel_rfl) Tryz.func3 (by kernel_rfl)
    (of_decide_eq_true (by kernel_rfl)) (by unfold Func.isWrapper; first | (rw [if_pos (by decide +kernel)]; kernel_rfl) | (rw [if_neg (by decide +kernel)]; exact ⟨rfl, rfl⟩))
    (fun os started H enc _ => clientNil_lifted os started H enc)

theorem clientNil_card_holds : Rows.ClientNilCardSaid :=
  Claim7.holds_tied_plain_at .later [] [.data, .data, .data, .handle, .sentinel, .sentinel, .data, .data] true (true, "a3facbdf0d6a4fed11ef55ae9b24ba8565cc352baf39591ec01979a6bc81a599") true
    clientNil_holds (fun _ h => by cases h) (by kernel_rfl) (fun _ h => by cases h) clientNil_row_tie rfl ⟨rfl, rfl⟩ (by kernel_rfl) rfl
    (fun f fn hf hfn => by
      obtain rfl : f = 3 := Option.some.inj ((show Tryz.prog.funcNamed "hindcast/hindcastlaw25.ClientNil" = some 3 by kernel_rfl).symm.trans hf) |>.symm
      obtain rfl : fn = Tryz.f3 := (Option.some.inj (Tryz.func3.symm.trans hfn)).symm
      exact ⟨by kernel_rfl, fun j t ht => by
        rw [Tryz.params3] at ht
        have hm : t ∈ [27, 36, 4] := by simpa using Array.mem_of_getElem? ht
        have hall : ([27, 36, 4].all fun u => !Tryz.prog.wantsStandIn u) = true := by kernel_rfl
        exact (show Tryz.prog.wantsStandIn t = false by simpa using List.all_eq_true.1 hall t hm)⟩)
    (by kernel_rfl)
#print axioms clientNil_card_holds
end Go.Proofs.YtibbfadgcklpjaaGreatDoor
