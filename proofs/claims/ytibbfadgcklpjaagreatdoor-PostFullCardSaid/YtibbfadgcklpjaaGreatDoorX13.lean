/- A post takes no more than may be; there is room again when one was taken: the function's walk. No condition. -/
import Derived.Test.YtibbfadgcklpjaaGreatDoorX12
namespace Go.Av.Fn
set_option linter.unusedSimpArgs false
set_option linter.unusedVariables false
set_option maxRecDepth 100000
open Go.Proofs Go.Lib

theorem lives26_run : isTrue (run Tryz.prog tabA 16 []) = true := by kernel_rfl
section
variable {Γ : Glob} {m : Store}
theorem lives26_ok (h0 : Γ 0 = some (signsB.map bs)) (h1 : Γ 1 = some (wordsB.map bs)) : ACalls Tryz.prog Γ 16 [] m fun o m' => o = .ret (.val (.bool true)) ∧ m' = m :=
  acalls_true mixed (globOk h0 h1) tabA_ok .nil lives26_run
theorem new_ok : ACalls Tryz.prog Γ 15 [] m fun o m' => ∃ pb, m pb = none ∧ m' = m.set pb (postB (.sl [] [] .full)) ∧ o = .ret (.ptr pb 0) := by
  refine acalls_of_awp mixed F15_ok (by rintro v m b x _ ⟨_, _, _, ⟨⟩⟩) ?_
  simp only [F15, start, List.cons_append, List.nil_append, List.length_cons, List.length_nil, List.replicate, Nat.reduceSub, Nat.reduceAdd]
  simp only [awp_row, awp_seq, awp_ret, awp_exit, awp_block, awp_skip, awp_cond, condS_true, condS_false, thenA_normal, thenA_ret, thenA_exit, inBlockA_normal, inBlockA_ret, inBlockA_same, runO_nil, runO_q, runO_g, q_mov, q_pick, q_build, q_lits, q_load, q_nilc, q_bin, q_un, q_conv, q_b2s, q_mki, q_mkf, q_sliceS, q_sliceL, q_fieldA, q_field, q_idxA, q_idxL, q_idxStr, q_len, q_ext, gO_tt, gO_ff, gO_tf, gO_ft, gO_un, putO_some, putO_skip, tget_zero, tget_succ, tset_zero, tset_succ, ev_tmp, ev_const, ev_func, ofConst_int, ofConst_bool, ofConst_bs, ofConst_nilIface, ofConst_nilFunc, ofConst_pointer, ofConst_nilSlice, eval_mov, eval_pick, pickV_true, pickV_false, eval_bin, eval_un, unV_not, unV_neg, eval_load, loadV_elt, eval_nilc, nilcV_ptr, nilcV_elt, nilcV_fn, eval_mki, eval_mkf, eval_fieldA, fieldAV_ptr, fieldAV_elt, eval_field, fieldV_agg, eval_len, lenV_string, lenV_slice, eval_ext, extV_tup, eval_idxStr, eval_idxL, bin_eql, bin_neq, bin_lss, bin_leq, bin_gtr, bin_geq, bin_add, bin_sub, bin_mul, bin_or, bin_and, bin_seql, bin_sneq, runO_ge, e_call, e_store, e_alloc, e_box, e_app, e_s2b, gE_tt, gE_ff, gE_tf, gE_ft, gE_un, thenO_nil, thenO_some, still_free, runO_call, List.map_cons, List.map_nil, runO_store, storeO_ptr, storeC_var, setV_nil, setV_cons, oneV_int, oneV_bool, oneV_str, oneV_nilp, oneV_nili, oneV_ptr, oneV_elt, oneV_sl, oneV_fn, oneV_ifc, oneV_bs, cells_val, cells_ptr, cells_elt, cells_sl, cells_fn, cells_ifc, cells_agg, cells_bs, loadV_at, loadB_var, runO_alloc, runO_box, runO_s2b, runO_app, eval_sliceS, optEv_none, optEv_some, optV_int, lenV_bs, bin_beql, bin_bneq, partV_one, List.getElem?_cons_succ, List.getElem?_cons_zero, eval_idxA, eval_build, fillV_nil, fillV_val, fillV_bs, fillV_sl, fillV_ptr, fillV_elt, fillV_fn, fillV_ifc, map_agg, partV_some, List.length_cons, List.length_nil, List.drop_zero, List.drop_succ_cons, List.take_succ_cons, List.take_zero, List.take_nil, List.all_cons, List.all_nil, Bool.and_true, Bool.and_self, Nat.reduceAdd, Nat.reduceLeDiff, Nat.le_refl, reduceIte, and_self, and_true, true_and, eq_self, inBlockA_exit, Nat.reduceEqDiff]
  refine allocS_of fun pb hpb => ?_
  simp only [awp_row, awp_seq, awp_ret, awp_exit, awp_block, awp_skip, awp_cond, condS_true, condS_false, thenA_normal, thenA_ret, thenA_exit, inBlockA_normal, inBlockA_ret, inBlockA_same, runO_nil, runO_q, runO_g, q_mov, q_pick, q_build, q_lits, q_load, q_nilc, q_bin, q_un, q_conv, q_b2s, q_mki, q_mkf, q_sliceS, q_sliceL, q_fieldA, q_field, q_idxA, q_idxL, q_idxStr, q_len, q_ext, gO_tt, gO_ff, gO_tf, gO_ft, gO_un, putO_some, putO_skip, tget_zero, tget_succ, tset_zero, tset_succ, ev_tmp, ev_const, ev_func, ofConst_int, ofConst_bool, ofConst_bs, ofConst_nilIface, ofConst_nilFunc, ofConst_pointer, ofConst_nilSlice, eval_mov, eval_pick, pickV_true, pickV_false, eval_bin, eval_un, unV_not, unV_neg, eval_load, loadV_elt, eval_nilc, nilcV_ptr, nilcV_elt, nilcV_fn, eval_mki, eval_mkf, eval_fieldA, fieldAV_ptr, fieldAV_elt, eval_field, fieldV_agg, eval_len, lenV_string, lenV_slice, eval_ext, extV_tup, eval_idxStr, eval_idxL, bin_eql, bin_neq, bin_lss, bin_leq, bin_gtr, bin_geq, bin_add, bin_sub, bin_mul, bin_or, bin_and, bin_seql, bin_sneq, runO_ge, e_call, e_store, e_alloc, e_box, e_app, e_s2b, gE_tt, gE_ff, gE_tf, gE_ft, gE_un, thenO_nil, thenO_some, still_free, runO_call, List.map_cons, List.map_nil, runO_store, storeO_ptr, storeC_var, setV_nil, setV_cons, oneV_int, oneV_bool, oneV_str, oneV_nilp, oneV_nili, oneV_ptr, oneV_elt, oneV_sl, oneV_fn, oneV_ifc, oneV_bs, cells_val, cells_ptr, cells_elt, cells_sl, cells_fn, cells_ifc, cells_agg, cells_bs, loadV_at, loadB_var, runO_alloc, runO_box, runO_s2b, runO_app, eval_sliceS, optEv_none, optEv_some, optV_int, lenV_bs, bin_beql, bin_bneq, partV_one, List.getElem?_cons_succ, List.getElem?_cons_zero, eval_idxA, eval_build, fillV_nil, fillV_val, fillV_bs, fillV_sl, fillV_ptr, fillV_elt, fillV_fn, fillV_ifc, map_agg, partV_some, List.length_cons, List.length_nil, List.drop_zero, List.drop_succ_cons, List.take_succ_cons, List.take_zero, List.take_nil, List.all_cons, List.all_nil, Bool.and_true, Bool.and_self, Nat.reduceAdd, Nat.reduceLeDiff, Nat.le_refl, reduceIte, and_self, and_true, true_and, eq_self, inBlockA_exit, Nat.reduceEqDiff]
  exact bodyA_ret resV_one ⟨pb, hpb, rfl, rfl⟩
end

theorem eval_mm {P : Program} {Γ : Glob} {t : List V} {m : Store} {mx : Bool} {xs : List Operand} : evalL P (ev Γ t) m (.mm mx xs) = mmV mx (xs.map (ev Γ t)) := rfl
theorem mm_min {a : Nat} : mmV false [it (a : Int), it 4096] = some (it ((min a 4096 : Nat) : Int)) := by
  simp only [mmV, mmF]
  by_cases h : (4096 : Int) < a
  · simp [h]; omega
  · simp [h]; omega
theorem q_mm {mx : Bool} {xs : List Operand} : quietB (.mm mx xs) = true := (rfl)
theorem lits_one {s : Nat} {q v : V} (h : v.cells.length = s) : (litsV s (List.replicate 1 q) [(0, v)]).map (fun es => V.sl es [] (if 1 = 0 then .zero true else .full)) = some (.sl [v] [] .full) := by
  rw [litsV_next h (by simp)]
  rfl
theorem msg_one (z : Int) : ∀ c ∈ (V.agg (msgC (it z))).cells, oneV c = true := by
  have h : (msgC (it z)).all oneV = true := rfl
  exact fun c hc => List.all_eq_true.1 h c hc
theorem start_post {m m2 : Store} {pb : Nat} {v : V} {L : List V} (h : Buf 36 22 (m.set pb (postB (.sl [] [] .full))) m2 v L) (hn : m pb = none) : PostSt m pb [] m2 := by
  rcases h.2 with ⟨_, _, rfl⟩ | ⟨_, b, k, hb, rfl, _⟩
  · exact ⟨m, m, _, fun _ _ h => h, hn, BufF.start, hn, rfl⟩
  · have hne : b ≠ pb := by
      rintro rfl
      rw [Store.set_same] at hb
      cases hb
    rw [Store.set_ne _ _ hne] at hb
    have hn' : (m.set b (.tip 36 k)) pb = none := by rw [Store.set_ne _ _ hne.symm]; exact hn
    exact ⟨m.set b (.tip 36 k), m.set b (.tip 36 k), _, sub_set hb fun _ _ h => h, hn', BufF.start, hn', set_swap hne.symm⟩

end Go.Av.Fn
