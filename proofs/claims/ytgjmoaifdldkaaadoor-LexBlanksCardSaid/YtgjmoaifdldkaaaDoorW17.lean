/- The program's tokens of a text. No condition. -/
import Derived.Test.YtgjmoaifdldkaaaDoorW16
import Derived.Test.YtgjmoaifdldkaaaDoorW12
namespace Go.Av
section
variable {P : Program} {Γ : Glob} {Kp : V → Store → Prop}
theorem awp_range {f : Operand} {ps : List Tmp} {x y : ACode} {Q : Ex → St → Prop} {t : List V} {m : Store} {g : FuncId} {first caps : List V} (hf : ev Γ t f = .fn (.func g) first caps)
    (h : ∀ H cx cy, comp P H cx = some x → comp P H cy = some y → ∀ fn l D, m l = none → ACalls P Γ g (first ++ [.fn (.yield l) [] []] ++ caps) (m.set l (.loop true fn t ps.toArray cx cy D)) fun o m' => (∃ v, o = .ret v) ∧ ∃ m₁, m' = m₁.set l (.loop true fn t ps.toArray cx cy D) ∧ m₁ l = none ∧ Q .normal ⟨t, m₁⟩) :
    awp P Γ Kp (.range f ps x y) Q ⟨t, m⟩ := by
  simp only [awp, hf]
  intro H cx cy h1 h2 fn l D hl
  refine (h H cx cy h1 h2 fn l D hl).mono fun o m' k => ?_
  obtain ⟨⟨v, rfl⟩, k⟩ := k
  exact k
theorem st_gen {Φ : List V → Prop} {t : List V} (h : ∀ T0, T0 = t → Φ T0) : Φ t := h t rfl
theorem tget_set_ne {t : List V} {i j : Nat} {v : V} (h : i ≠ j) : tget (t.set i v) j = tget t j := by
  rw [← tget_eq, ← tget_eq, List.getD_eq_getElem?_getD, List.getD_eq_getElem?_getD, List.getElem?_set, if_neg h]
theorem tget_set_same {t : List V} {i : Nat} {v : V} (h : i < t.length) : tget (t.set i v) i = v := by
  rw [← tget_eq, List.getD_eq_getElem?_getD, List.getElem?_set]
  simp [h]
theorem Buf.del {e : TypeId} {size : Nat} {N m2 : Store} {v : V} {es : List V} {b : Nat} {x : Blk} (h : Buf e size (N.set b x) m2 v es) (hn : N b = none) :
    m2 b = some x ∧ ∃ M, Buf e size N M v es ∧ M b = none ∧ ∀ y, m2.set b y = M.set b y := by
  obtain ⟨h1, h2⟩ := h
  rcases h2 with ⟨h2, h3, rfl⟩ | ⟨h2, t, k, ht, rfl, h3⟩
  · exact ⟨Store.set_same _ _ _, N, ⟨h1, .inl ⟨h2, h3, rfl⟩⟩, hn, fun y => Store.set_set _ _ _ _⟩
  · have hne : t ≠ b := by rintro rfl; rw [Store.set_same] at ht; cases ht
    rw [Store.set_ne _ _ hne] at ht
    refine ⟨by rw [Store.set_ne _ _ hne.symm, Store.set_same], N.set t (.tip e k), ⟨h1, .inr ⟨h2, t, k, ht, rfl, h3⟩⟩, by rw [Store.set_ne _ _ hne.symm]; exact hn, fun y => ?_⟩
    funext c
    simp only [Store.set]
    by_cases e : c = b
    · simp [e]
    · simp [e]
end
end Go.Av
namespace Go.Av.Fn
set_option linter.unusedSimpArgs false
set_option linter.unusedVariables false
set_option maxRecDepth 10000
open Go.Proofs

/-- The tokens so far, in the variable ob, beside a store. -/
def outSt (m : Store) (ob : Nat) (acc : List Tk) (m0 : Store) : Prop := ∃ N M v, (∀ b x, m b = some x → N b = some x) ∧ N ob = none ∧ Buf 33 5 N M v (acc.map tkV) ∧ M ob = none ∧ m0 = M.set ob (.var 22 [v])

theorem scan_ok {Γ : Glob} (L : LibOk Γ) (L2 : ParseOk Γ) (h0 : Γ 0 = some (wordsB.map bs)) (h1 : Γ 1 = some (signsB.map bs)) {m : Store} (s : List UInt8) : ACalls Tryd.prog Γ 5 [bs s] m fun o m' => ScanOut (scanR s) o ∧ m' = m := by
  refine acalls_of_awp mixed F5_ok (by
    rintro v m b x _ ⟨h, _⟩
    exfalso
    unfold ScanOut at h
    split at h
    · obtain ⟨_, h⟩ := h
      cases h
    · cases h) ?_
  simp only [F5, start, List.cons_append, List.nil_append, List.length_cons, List.length_nil, List.replicate, Nat.reduceSub, Nat.reduceAdd]
  simp only [awp_row, awp_seq, awp_ret, awp_exit, awp_block, awp_skip, awp_cond, condS_true, condS_false, thenA_normal, thenA_ret, thenA_exit, inBlockA_normal, inBlockA_ret, inBlockA_same, runO_nil, runO_q, runO_g, q_mov, q_pick, q_build, q_lits, q_load, q_nilc, q_bin, q_un, q_conv, q_b2s, q_mki, q_mkf, q_sliceS, q_sliceL, q_fieldA, q_field, q_idxA, q_idxL, q_idxStr, q_len, q_ext, gO_tt, gO_ff, gO_tf, gO_ft, gO_un, putO_some, putO_skip, tget_zero, tget_succ, tset_zero, tset_succ, ev_tmp, ev_const, ev_func, ofConst_int, ofConst_bool, ofConst_bs, ofConst_nilIface, ofConst_nilFunc, ofConst_pointer, ofConst_nilSlice, eval_mov, eval_pick, pickV_true, pickV_false, eval_bin, eval_un, unV_not, unV_neg, eval_load, loadV_elt, eval_nilc, nilcV_ptr, nilcV_elt, nilcV_fn, eval_mki, eval_mkf, eval_fieldA, fieldAV_ptr, fieldAV_elt, eval_field, fieldV_agg, eval_len, lenV_string, lenV_slice, eval_ext, extV_tup, eval_idxStr, eval_idxL, bin_eql, bin_neq, bin_lss, bin_leq, bin_gtr, bin_geq, bin_add, bin_sub, bin_mul, bin_or, bin_and, bin_seql, bin_sneq, runO_ge, e_call, e_store, e_alloc, e_box, e_app, e_s2b, gE_tt, gE_ff, gE_tf, gE_ft, gE_un, thenO_nil, thenO_some, still_free, runO_call, List.map_cons, List.map_nil, runO_store, storeO_ptr, storeC_var, setV_nil, setV_cons, oneV_int, oneV_bool, oneV_str, oneV_nilp, oneV_nili, oneV_ptr, oneV_elt, oneV_sl, oneV_fn, oneV_ifc, oneV_bs, cells_val, cells_ptr, cells_elt, cells_sl, cells_fn, cells_ifc, cells_agg, cells_bs, loadV_at, loadB_var, runO_alloc, runO_box, runO_s2b, runO_app, eval_sliceS, optEv_none, optEv_some, optV_int, lenV_bs, bin_beql, bin_bneq, partV_one, List.getElem?_cons_succ, List.getElem?_cons_zero, eval_idxA, eval_build, fillV_nil, fillV_val, fillV_bs, fillV_sl, fillV_ptr, fillV_elt, fillV_fn, fillV_ifc, map_agg, partV_some, List.length_cons, List.length_nil, List.drop_zero, List.drop_succ_cons, List.take_succ_cons, List.take_zero, List.take_nil, List.all_cons, List.all_nil, Bool.and_true, Bool.and_self, Nat.reduceAdd, Nat.reduceLeDiff, Nat.le_refl, reduceIte, and_self, and_true, true_and, eq_self, inBlockA_exit, Nat.reduceEqDiff]
  refine condS_split (fun h => ?_) (fun h => ?_)
  · have hl : s.length > 4096 := by have := of_decide_eq_true h; omega
    simp only [awp_row, awp_seq, awp_ret, awp_exit, awp_block, awp_skip, awp_cond, condS_true, condS_false, thenA_normal, thenA_ret, thenA_exit, inBlockA_normal, inBlockA_ret, inBlockA_same, runO_nil, runO_q, runO_g, q_mov, q_pick, q_build, q_lits, q_load, q_nilc, q_bin, q_un, q_conv, q_b2s, q_mki, q_mkf, q_sliceS, q_sliceL, q_fieldA, q_field, q_idxA, q_idxL, q_idxStr, q_len, q_ext, gO_tt, gO_ff, gO_tf, gO_ft, gO_un, putO_some, putO_skip, tget_zero, tget_succ, tset_zero, tset_succ, ev_tmp, ev_const, ev_func, ofConst_int, ofConst_bool, ofConst_bs, ofConst_nilIface, ofConst_nilFunc, ofConst_pointer, ofConst_nilSlice, eval_mov, eval_pick, pickV_true, pickV_false, eval_bin, eval_un, unV_not, unV_neg, eval_load, loadV_elt, eval_nilc, nilcV_ptr, nilcV_elt, nilcV_fn, eval_mki, eval_mkf, eval_fieldA, fieldAV_ptr, fieldAV_elt, eval_field, fieldV_agg, eval_len, lenV_string, lenV_slice, eval_ext, extV_tup, eval_idxStr, eval_idxL, bin_eql, bin_neq, bin_lss, bin_leq, bin_gtr, bin_geq, bin_add, bin_sub, bin_mul, bin_or, bin_and, bin_seql, bin_sneq, runO_ge, e_call, e_store, e_alloc, e_box, e_app, e_s2b, gE_tt, gE_ff, gE_tf, gE_ft, gE_un, thenO_nil, thenO_some, still_free, runO_call, List.map_cons, List.map_nil, runO_store, storeO_ptr, storeC_var, setV_nil, setV_cons, oneV_int, oneV_bool, oneV_str, oneV_nilp, oneV_nili, oneV_ptr, oneV_elt, oneV_sl, oneV_fn, oneV_ifc, oneV_bs, cells_val, cells_ptr, cells_elt, cells_sl, cells_fn, cells_ifc, cells_agg, cells_bs, loadV_at, loadB_var, runO_alloc, runO_box, runO_s2b, runO_app, eval_sliceS, optEv_none, optEv_some, optV_int, lenV_bs, bin_beql, bin_bneq, partV_one, List.getElem?_cons_succ, List.getElem?_cons_zero, eval_idxA, eval_build, fillV_nil, fillV_val, fillV_bs, fillV_sl, fillV_ptr, fillV_elt, fillV_fn, fillV_ifc, map_agg, partV_some, List.length_cons, List.length_nil, List.drop_zero, List.drop_succ_cons, List.take_succ_cons, List.take_zero, List.take_nil, List.all_cons, List.all_nil, Bool.and_true, Bool.and_self, Nat.reduceAdd, Nat.reduceLeDiff, Nat.le_refl, reduceIte, and_self, and_true, true_and, eq_self, inBlockA_exit, Nat.reduceEqDiff]
    refine bodyA_ret resV_three ⟨?_, rfl⟩
    unfold scanR
    rw [if_pos hl]
    rfl
  · have hl : ¬ s.length > 4096 := by have := of_decide_eq_false h; omega
    have hres0 : scanR s = scanL s 0 1 [] := by unfold scanR; rw [if_neg hl]
    rw [hres0]
    simp only [awp_row, awp_seq, awp_ret, awp_exit, awp_block, awp_skip, awp_cond, condS_true, condS_false, thenA_normal, thenA_ret, thenA_exit, inBlockA_normal, inBlockA_ret, inBlockA_same, runO_nil, runO_q, runO_g, q_mov, q_pick, q_build, q_lits, q_load, q_nilc, q_bin, q_un, q_conv, q_b2s, q_mki, q_mkf, q_sliceS, q_sliceL, q_fieldA, q_field, q_idxA, q_idxL, q_idxStr, q_len, q_ext, gO_tt, gO_ff, gO_tf, gO_ft, gO_un, putO_some, putO_skip, tget_zero, tget_succ, tset_zero, tset_succ, ev_tmp, ev_const, ev_func, ofConst_int, ofConst_bool, ofConst_bs, ofConst_nilIface, ofConst_nilFunc, ofConst_pointer, ofConst_nilSlice, eval_mov, eval_pick, pickV_true, pickV_false, eval_bin, eval_un, unV_not, unV_neg, eval_load, loadV_elt, eval_nilc, nilcV_ptr, nilcV_elt, nilcV_fn, eval_mki, eval_mkf, eval_fieldA, fieldAV_ptr, fieldAV_elt, eval_field, fieldV_agg, eval_len, lenV_string, lenV_slice, eval_ext, extV_tup, eval_idxStr, eval_idxL, bin_eql, bin_neq, bin_lss, bin_leq, bin_gtr, bin_geq, bin_add, bin_sub, bin_mul, bin_or, bin_and, bin_seql, bin_sneq, runO_ge, e_call, e_store, e_alloc, e_box, e_app, e_s2b, gE_tt, gE_ff, gE_tf, gE_ft, gE_un, thenO_nil, thenO_some, still_free, runO_call, List.map_cons, List.map_nil, runO_store, storeO_ptr, storeC_var, setV_nil, setV_cons, oneV_int, oneV_bool, oneV_str, oneV_nilp, oneV_nili, oneV_ptr, oneV_elt, oneV_sl, oneV_fn, oneV_ifc, oneV_bs, cells_val, cells_ptr, cells_elt, cells_sl, cells_fn, cells_ifc, cells_agg, cells_bs, loadV_at, loadB_var, runO_alloc, runO_box, runO_s2b, runO_app, eval_sliceS, optEv_none, optEv_some, optV_int, lenV_bs, bin_beql, bin_bneq, partV_one, List.getElem?_cons_succ, List.getElem?_cons_zero, eval_idxA, eval_build, fillV_nil, fillV_val, fillV_bs, fillV_sl, fillV_ptr, fillV_elt, fillV_fn, fillV_ifc, map_agg, partV_some, List.length_cons, List.length_nil, List.drop_zero, List.drop_succ_cons, List.take_succ_cons, List.take_zero, List.take_nil, List.all_cons, List.all_nil, Bool.and_true, Bool.and_self, Nat.reduceAdd, Nat.reduceLeDiff, Nat.le_refl, reduceIte, and_self, and_true, true_and, eq_self, inBlockA_exit, Nat.reduceEqDiff]
    refine allocS_of fun xb hxb => ?_
    simp only [awp_row, awp_seq, awp_ret, awp_exit, awp_block, awp_skip, awp_cond, condS_true, condS_false, thenA_normal, thenA_ret, thenA_exit, inBlockA_normal, inBlockA_ret, inBlockA_same, runO_nil, runO_q, runO_g, q_mov, q_pick, q_build, q_lits, q_load, q_nilc, q_bin, q_un, q_conv, q_b2s, q_mki, q_mkf, q_sliceS, q_sliceL, q_fieldA, q_field, q_idxA, q_idxL, q_idxStr, q_len, q_ext, gO_tt, gO_ff, gO_tf, gO_ft, gO_un, putO_some, putO_skip, tget_zero, tget_succ, tset_zero, tset_succ, ev_tmp, ev_const, ev_func, ofConst_int, ofConst_bool, ofConst_bs, ofConst_nilIface, ofConst_nilFunc, ofConst_pointer, ofConst_nilSlice, eval_mov, eval_pick, pickV_true, pickV_false, eval_bin, eval_un, unV_not, unV_neg, eval_load, loadV_elt, eval_nilc, nilcV_ptr, nilcV_elt, nilcV_fn, eval_mki, eval_mkf, eval_fieldA, fieldAV_ptr, fieldAV_elt, eval_field, fieldV_agg, eval_len, lenV_string, lenV_slice, eval_ext, extV_tup, eval_idxStr, eval_idxL, bin_eql, bin_neq, bin_lss, bin_leq, bin_gtr, bin_geq, bin_add, bin_sub, bin_mul, bin_or, bin_and, bin_seql, bin_sneq, runO_ge, e_call, e_store, e_alloc, e_box, e_app, e_s2b, gE_tt, gE_ff, gE_tf, gE_ft, gE_un, thenO_nil, thenO_some, still_free, runO_call, List.map_cons, List.map_nil, runO_store, storeO_ptr, storeC_var, setV_nil, setV_cons, oneV_int, oneV_bool, oneV_str, oneV_nilp, oneV_nili, oneV_ptr, oneV_elt, oneV_sl, oneV_fn, oneV_ifc, oneV_bs, cells_val, cells_ptr, cells_elt, cells_sl, cells_fn, cells_ifc, cells_agg, cells_bs, loadV_at, loadB_var, runO_alloc, runO_box, runO_s2b, runO_app, eval_sliceS, optEv_none, optEv_some, optV_int, lenV_bs, bin_beql, bin_bneq, partV_one, List.getElem?_cons_succ, List.getElem?_cons_zero, eval_idxA, eval_build, fillV_nil, fillV_val, fillV_bs, fillV_sl, fillV_ptr, fillV_elt, fillV_fn, fillV_ifc, map_agg, partV_some, List.length_cons, List.length_nil, List.drop_zero, List.drop_succ_cons, List.take_succ_cons, List.take_zero, List.take_nil, List.all_cons, List.all_nil, Bool.and_true, Bool.and_self, Nat.reduceAdd, Nat.reduceLeDiff, Nat.le_refl, reduceIte, and_self, and_true, true_and, eq_self, inBlockA_exit, Nat.reduceEqDiff]
    refine allocS_of fun ob hob => ?_
    have hxo : xb ≠ ob := by rintro rfl; rw [Store.set_same] at hob; cases hob
    have hob' : m ob = none := by rwa [Store.set_ne _ _ hxo.symm] at hob
    simp only [awp_row, awp_seq, awp_ret, awp_exit, awp_block, awp_skip, awp_cond, condS_true, condS_false, thenA_normal, thenA_ret, thenA_exit, inBlockA_normal, inBlockA_ret, inBlockA_same, runO_nil, runO_q, runO_g, q_mov, q_pick, q_build, q_lits, q_load, q_nilc, q_bin, q_un, q_conv, q_b2s, q_mki, q_mkf, q_sliceS, q_sliceL, q_fieldA, q_field, q_idxA, q_idxL, q_idxStr, q_len, q_ext, gO_tt, gO_ff, gO_tf, gO_ft, gO_un, putO_some, putO_skip, tget_zero, tget_succ, tset_zero, tset_succ, ev_tmp, ev_const, ev_func, ofConst_int, ofConst_bool, ofConst_bs, ofConst_nilIface, ofConst_nilFunc, ofConst_pointer, ofConst_nilSlice, eval_mov, eval_pick, pickV_true, pickV_false, eval_bin, eval_un, unV_not, unV_neg, eval_load, loadV_elt, eval_nilc, nilcV_ptr, nilcV_elt, nilcV_fn, eval_mki, eval_mkf, eval_fieldA, fieldAV_ptr, fieldAV_elt, eval_field, fieldV_agg, eval_len, lenV_string, lenV_slice, eval_ext, extV_tup, eval_idxStr, eval_idxL, bin_eql, bin_neq, bin_lss, bin_leq, bin_gtr, bin_geq, bin_add, bin_sub, bin_mul, bin_or, bin_and, bin_seql, bin_sneq, runO_ge, e_call, e_store, e_alloc, e_box, e_app, e_s2b, gE_tt, gE_ff, gE_tf, gE_ft, gE_un, thenO_nil, thenO_some, still_free, runO_call, List.map_cons, List.map_nil, runO_store, storeO_ptr, storeC_var, setV_nil, setV_cons, oneV_int, oneV_bool, oneV_str, oneV_nilp, oneV_nili, oneV_ptr, oneV_elt, oneV_sl, oneV_fn, oneV_ifc, oneV_bs, cells_val, cells_ptr, cells_elt, cells_sl, cells_fn, cells_ifc, cells_agg, cells_bs, loadV_at, loadB_var, runO_alloc, runO_box, runO_s2b, runO_app, eval_sliceS, optEv_none, optEv_some, optV_int, lenV_bs, bin_beql, bin_bneq, partV_one, List.getElem?_cons_succ, List.getElem?_cons_zero, eval_idxA, eval_build, fillV_nil, fillV_val, fillV_bs, fillV_sl, fillV_ptr, fillV_elt, fillV_fn, fillV_ifc, map_agg, partV_some, List.length_cons, List.length_nil, List.drop_zero, List.drop_succ_cons, List.take_succ_cons, List.take_zero, List.take_nil, List.all_cons, List.all_nil, Bool.and_true, Bool.and_self, Nat.reduceAdd, Nat.reduceLeDiff, Nat.le_refl, reduceIte, and_self, and_true, true_and, eq_self, inBlockA_exit, Nat.reduceEqDiff]
    refine callS_of tokens_ok ?_ (by rintro v m' ⟨_, _, ⟨⟩, _⟩)
    rintro v m' ⟨pb, hpb, hv, rfl⟩
    cases hv
    have hpo : pb ≠ ob := by rintro rfl; rw [Store.set_same] at hpb; cases hpb
    rw [Store.set_ne _ _ hpo] at hpb
    have hpx : pb ≠ xb := by rintro rfl; rw [Store.set_same] at hpb; cases hpb
    have hpb' : m pb = none := by rwa [Store.set_ne _ _ hpx] at hpb
    simp only [awp_row, awp_seq, awp_ret, awp_exit, awp_block, awp_skip, awp_cond, condS_true, condS_false, thenA_normal, thenA_ret, thenA_exit, inBlockA_normal, inBlockA_ret, inBlockA_same, runO_nil, runO_q, runO_g, q_mov, q_pick, q_build, q_lits, q_load, q_nilc, q_bin, q_un, q_conv, q_b2s, q_mki, q_mkf, q_sliceS, q_sliceL, q_fieldA, q_field, q_idxA, q_idxL, q_idxStr, q_len, q_ext, gO_tt, gO_ff, gO_tf, gO_ft, gO_un, putO_some, putO_skip, tget_zero, tget_succ, tset_zero, tset_succ, ev_tmp, ev_const, ev_func, ofConst_int, ofConst_bool, ofConst_bs, ofConst_nilIface, ofConst_nilFunc, ofConst_pointer, ofConst_nilSlice, eval_mov, eval_pick, pickV_true, pickV_false, eval_bin, eval_un, unV_not, unV_neg, eval_load, loadV_elt, eval_nilc, nilcV_ptr, nilcV_elt, nilcV_fn, eval_mki, eval_mkf, eval_fieldA, fieldAV_ptr, fieldAV_elt, eval_field, fieldV_agg, eval_len, lenV_string, lenV_slice, eval_ext, extV_tup, eval_idxStr, eval_idxL, bin_eql, bin_neq, bin_lss, bin_leq, bin_gtr, bin_geq, bin_add, bin_sub, bin_mul, bin_or, bin_and, bin_seql, bin_sneq, runO_ge, e_call, e_store, e_alloc, e_box, e_app, e_s2b, gE_tt, gE_ff, gE_tf, gE_ft, gE_un, thenO_nil, thenO_some, still_free, runO_call, List.map_cons, List.map_nil, runO_store, storeO_ptr, storeC_var, setV_nil, setV_cons, oneV_int, oneV_bool, oneV_str, oneV_nilp, oneV_nili, oneV_ptr, oneV_elt, oneV_sl, oneV_fn, oneV_ifc, oneV_bs, cells_val, cells_ptr, cells_elt, cells_sl, cells_fn, cells_ifc, cells_agg, cells_bs, loadV_at, loadB_var, runO_alloc, runO_box, runO_s2b, runO_app, eval_sliceS, optEv_none, optEv_some, optV_int, lenV_bs, bin_beql, bin_bneq, partV_one, List.getElem?_cons_succ, List.getElem?_cons_zero, eval_idxA, eval_build, fillV_nil, fillV_val, fillV_bs, fillV_sl, fillV_ptr, fillV_elt, fillV_fn, fillV_ifc, map_agg, partV_some, List.length_cons, List.length_nil, List.drop_zero, List.drop_succ_cons, List.take_succ_cons, List.take_zero, List.take_nil, List.all_cons, List.all_nil, Bool.and_true, Bool.and_self, Nat.reduceAdd, Nat.reduceLeDiff, Nat.le_refl, reduceIte, and_self, and_true, true_and, eq_self, inBlockA_exit, Nat.reduceEqDiff]
    refine st_gen (Φ := fun t => awp _ _ _ _ _ ⟨t, _⟩) fun T0 hT0 => ?_
    have hlen : T0.length = 35 := by rw [hT0]; rfl
    have t5 : tget T0 5 = .ptr xb 0 := by rw [hT0]; rfl
    have t6 : tget T0 6 = .ptr ob 0 := by rw [hT0]; rfl
    have t15 : tget T0 15 = .fn (.func 12) [] [.ptr pb 0] := by rw [hT0]; rfl
    clear hT0
    refine awp_range (g := 12) (first := []) (caps := [.ptr pb 0]) (by simp only [ev_tmp]; exact t15) ?_
    intro H cx cy hcx hcy fn l D hl0
    have hlp : l ≠ pb := by rintro rfl; rw [Store.set_same] at hl0; cases hl0
    rw [Store.set_ne _ _ hlp] at hl0
    have hlo : l ≠ ob := by rintro rfl; rw [Store.set_same] at hl0; cases hl0
    rw [Store.set_ne _ _ hlo] at hl0
    have hlx : l ≠ xb := by rintro rfl; rw [Store.set_same] at hl0; cases hl0
    rw [Store.set_ne _ _ hlx] at hl0
    have hst : ((((m.set xb (.var 37 [bs s, it 0, it 1, it 0])).set ob (.var 22 [.sl [] [] .full])).set pb (.var 35 [.ptr xb 0])).set l (.loop true fn T0 [16].toArray cx cy D))
        = ((((m.set ob (.var 22 [.sl [] [] .full])).set l (.loop true fn T0 [16].toArray cx cy D)).set pb (.var 35 [.ptr xb 0])).set xb (.var 37 [bs s, it 0, it 1, it 0])) := by
      funext c
      simp only [Store.set]
      by_cases e1 : c = l
      · subst e1; simp [hlp, hlx]
      · by_cases e2 : c = pb
        · subst e2; simp [e1, hpx]
        · by_cases e3 : c = ob
          · subst e3; simp [e1, e2, hxo.symm]
          · simp [e1, e2, e3]
    have hy : ∀ acc t mC, acc.length ≤ 4096 → (∃ m0, m0 l = none ∧ mC = m0.set l (.loop true fn T0 [16].toArray cx cy D) ∧ outSt m ob acc m0) →
        AYields Tryd.prog Γ l [tkV t] mC fun o m' => o = .ret (.val (.bool true)) ∧ ∃ m0, m0 l = none ∧ m' = m0.set l (.loop true fn T0 [16].toArray cx cy D) ∧ outSt m ob (acc ++ [t]) m0 := by
      rintro acc tk mC hacc ⟨m0, hm0, rfl, N, M, v, k1, k2, k3, k4, rfl⟩
      refine (ayields_of_awp mixed hcx hcy rfl rfl (R := fun m1 => outSt m ob (acc ++ [tk]) m1) hm0 rfl ?_).mono ?_
      · refine st_gen (Φ := fun t => awp _ _ _ _ _ ⟨t, _⟩) fun T1 hT1 => ?_
        have l1 : T1.length = 35 := by rw [hT1]; exact (List.length_set ..).trans hlen
        have u6 : tget T1 6 = .ptr ob 0 := by rw [hT1]; exact (tget_set_ne (by decide)).trans t6
        have u16 : tget T1 16 = tkV tk := by rw [hT1]; exact tget_set_same (by omega)
        clear hT1
        rw [t_eq l1]
        simp only [upTo_succ, upTo_zero, Nat.reduceAdd, u6, u16]
        simp only [awp_row, awp_seq, awp_ret, awp_exit, awp_block, awp_skip, awp_cond, condS_true, condS_false, thenA_normal, thenA_ret, thenA_exit, inBlockA_normal, inBlockA_ret, inBlockA_same, runO_nil, runO_q, runO_g, q_mov, q_pick, q_build, q_lits, q_load, q_nilc, q_bin, q_un, q_conv, q_b2s, q_mki, q_mkf, q_sliceS, q_sliceL, q_fieldA, q_field, q_idxA, q_idxL, q_idxStr, q_len, q_ext, gO_tt, gO_ff, gO_tf, gO_ft, gO_un, putO_some, putO_skip, tget_zero, tget_succ, tset_zero, tset_succ, ev_tmp, ev_const, ev_func, ofConst_int, ofConst_bool, ofConst_bs, ofConst_nilIface, ofConst_nilFunc, ofConst_pointer, ofConst_nilSlice, eval_mov, eval_pick, pickV_true, pickV_false, eval_bin, eval_un, unV_not, unV_neg, eval_load, loadV_elt, eval_nilc, nilcV_ptr, nilcV_elt, nilcV_fn, eval_mki, eval_mkf, eval_fieldA, fieldAV_ptr, fieldAV_elt, eval_field, fieldV_agg, eval_len, lenV_string, lenV_slice, eval_ext, extV_tup, eval_idxStr, eval_idxL, bin_eql, bin_neq, bin_lss, bin_leq, bin_gtr, bin_geq, bin_add, bin_sub, bin_mul, bin_or, bin_and, bin_seql, bin_sneq, runO_ge, e_call, e_store, e_alloc, e_box, e_app, e_s2b, gE_tt, gE_ff, gE_tf, gE_ft, gE_un, thenO_nil, thenO_some, still_free, runO_call, List.map_cons, List.map_nil, runO_store, storeO_ptr, storeC_var, setV_nil, setV_cons, oneV_int, oneV_bool, oneV_str, oneV_nilp, oneV_nili, oneV_ptr, oneV_elt, oneV_sl, oneV_fn, oneV_ifc, oneV_bs, cells_val, cells_ptr, cells_elt, cells_sl, cells_fn, cells_ifc, cells_agg, cells_bs, loadV_at, loadB_var, runO_alloc, runO_box, runO_s2b, runO_app, eval_sliceS, optEv_none, optEv_some, optV_int, lenV_bs, bin_beql, bin_bneq, partV_one, List.getElem?_cons_succ, List.getElem?_cons_zero, eval_idxA, eval_build, fillV_nil, fillV_val, fillV_bs, fillV_sl, fillV_ptr, fillV_elt, fillV_fn, fillV_ifc, map_agg, partV_some, List.length_cons, List.length_nil, List.drop_zero, List.drop_succ_cons, List.take_succ_cons, List.take_zero, List.take_nil, List.all_cons, List.all_nil, Bool.and_true, Bool.and_self, Nat.reduceAdd, Nat.reduceLeDiff, Nat.le_refl, reduceIte, and_self, and_true, true_and, eq_self, inBlockA_exit, Nat.reduceEqDiff]
        refine allocS_of fun b hb => ?_
        have hbo : b ≠ ob := by rintro rfl; rw [Store.set_same] at hb; cases hb
        have hMb : M b = none := by rwa [Store.set_ne _ _ hbo] at hb
        have hn : ∀ m' x, (Store.set m' b x) ob = m' ob := fun m' x => Store.set_ne m' x hbo.symm
        have hn2 : ∀ m' x, (Store.set m' ob x) b = m' b := fun m' x => Store.set_ne m' x hbo
        obtain ⟨tok, rfl⟩ := k3.val
        simp only [cells_tk, Store.set_same, Store.set_set, hn, hn2, lit5, litV5_agg, awp_row, awp_seq, awp_ret, awp_exit, awp_block, awp_skip, awp_cond, condS_true, condS_false, thenA_normal, thenA_ret, thenA_exit, inBlockA_normal, inBlockA_ret, inBlockA_same, runO_nil, runO_q, runO_g, q_mov, q_pick, q_build, q_lits, q_load, q_nilc, q_bin, q_un, q_conv, q_b2s, q_mki, q_mkf, q_sliceS, q_sliceL, q_fieldA, q_field, q_idxA, q_idxL, q_idxStr, q_len, q_ext, gO_tt, gO_ff, gO_tf, gO_ft, gO_un, putO_some, putO_skip, tget_zero, tget_succ, tset_zero, tset_succ, ev_tmp, ev_const, ev_func, ofConst_int, ofConst_bool, ofConst_bs, ofConst_nilIface, ofConst_nilFunc, ofConst_pointer, ofConst_nilSlice, eval_mov, eval_pick, pickV_true, pickV_false, eval_bin, eval_un, unV_not, unV_neg, eval_load, loadV_elt, eval_nilc, nilcV_ptr, nilcV_elt, nilcV_fn, eval_mki, eval_mkf, eval_fieldA, fieldAV_ptr, fieldAV_elt, eval_field, fieldV_agg, eval_len, lenV_string, lenV_slice, eval_ext, extV_tup, eval_idxStr, eval_idxL, bin_eql, bin_neq, bin_lss, bin_leq, bin_gtr, bin_geq, bin_add, bin_sub, bin_mul, bin_or, bin_and, bin_seql, bin_sneq, runO_ge, e_call, e_store, e_alloc, e_box, e_app, e_s2b, gE_tt, gE_ff, gE_tf, gE_ft, gE_un, thenO_nil, thenO_some, still_free, runO_call, List.map_cons, List.map_nil, runO_store, storeO_ptr, storeC_var, setV_nil, setV_cons, oneV_int, oneV_bool, oneV_str, oneV_nilp, oneV_nili, oneV_ptr, oneV_elt, oneV_sl, oneV_fn, oneV_ifc, oneV_bs, cells_val, cells_ptr, cells_elt, cells_sl, cells_fn, cells_ifc, cells_agg, cells_bs, loadV_at, loadB_var, runO_alloc, runO_box, runO_s2b, runO_app, eval_sliceS, optEv_none, optEv_some, optV_int, lenV_bs, bin_beql, bin_bneq, partV_one, List.getElem?_cons_succ, List.getElem?_cons_zero, eval_idxA, eval_build, fillV_nil, fillV_val, fillV_bs, fillV_sl, fillV_ptr, fillV_elt, fillV_fn, fillV_ifc, map_agg, partV_some, List.length_cons, List.length_nil, List.drop_zero, List.drop_succ_cons, List.take_succ_cons, List.take_zero, List.take_nil, List.all_cons, List.all_nil, Bool.and_true, Bool.and_self, Nat.reduceAdd, Nat.reduceLeDiff, Nat.le_refl, reduceIte, and_self, and_true, true_and, eq_self, inBlockA_exit, Nat.reduceEqDiff]
        have hNb : N b = none := by
          cases hc : N b with
          | none => rfl
          | some x => rw [k3.sub _ _ hc] at hMb; cases hMb
        have hbuf := (k3.add (x := .var 33 [it tk.k, bs tk.s, it tk.n, it tk.l, it tk.a]) hMb).add (b := ob) (x := .var 22 [.sl (acc.map tkV) [] tok]) (by rw [hn]; exact k4)
        rw [set_comm M _ _ hbo] at hbuf
        refine appS_buf hbuf rfl (by intro c hc; simp [V.cells] at hc; rcases hc with rfl | rfl | rfl | rfl | rfl <;> rfl) (by simp; omega) fun m3 v3 hb3 => ?_
        obtain ⟨d1, M', d2, d3, d4⟩ := hb3.del (b := ob) (by rw [hn]; exact k2)
        obtain ⟨tok3, rfl⟩ := hb3.val
        simp only [d1, awp_row, awp_seq, awp_ret, awp_exit, awp_block, awp_skip, awp_cond, condS_true, condS_false, thenA_normal, thenA_ret, thenA_exit, inBlockA_normal, inBlockA_ret, inBlockA_same, runO_nil, runO_q, runO_g, q_mov, q_pick, q_build, q_lits, q_load, q_nilc, q_bin, q_un, q_conv, q_b2s, q_mki, q_mkf, q_sliceS, q_sliceL, q_fieldA, q_field, q_idxA, q_idxL, q_idxStr, q_len, q_ext, gO_tt, gO_ff, gO_tf, gO_ft, gO_un, putO_some, putO_skip, tget_zero, tget_succ, tset_zero, tset_succ, ev_tmp, ev_const, ev_func, ofConst_int, ofConst_bool, ofConst_bs, ofConst_nilIface, ofConst_nilFunc, ofConst_pointer, ofConst_nilSlice, eval_mov, eval_pick, pickV_true, pickV_false, eval_bin, eval_un, unV_not, unV_neg, eval_load, loadV_elt, eval_nilc, nilcV_ptr, nilcV_elt, nilcV_fn, eval_mki, eval_mkf, eval_fieldA, fieldAV_ptr, fieldAV_elt, eval_field, fieldV_agg, eval_len, lenV_string, lenV_slice, eval_ext, extV_tup, eval_idxStr, eval_idxL, bin_eql, bin_neq, bin_lss, bin_leq, bin_gtr, bin_geq, bin_add, bin_sub, bin_mul, bin_or, bin_and, bin_seql, bin_sneq, runO_ge, e_call, e_store, e_alloc, e_box, e_app, e_s2b, gE_tt, gE_ff, gE_tf, gE_ft, gE_un, thenO_nil, thenO_some, still_free, runO_call, List.map_cons, List.map_nil, runO_store, storeO_ptr, storeC_var, setV_nil, setV_cons, oneV_int, oneV_bool, oneV_str, oneV_nilp, oneV_nili, oneV_ptr, oneV_elt, oneV_sl, oneV_fn, oneV_ifc, oneV_bs, cells_val, cells_ptr, cells_elt, cells_sl, cells_fn, cells_ifc, cells_agg, cells_bs, loadV_at, loadB_var, runO_alloc, runO_box, runO_s2b, runO_app, eval_sliceS, optEv_none, optEv_some, optV_int, lenV_bs, bin_beql, bin_bneq, partV_one, List.getElem?_cons_succ, List.getElem?_cons_zero, eval_idxA, eval_build, fillV_nil, fillV_val, fillV_bs, fillV_sl, fillV_ptr, fillV_elt, fillV_fn, fillV_ifc, map_agg, partV_some, List.length_cons, List.length_nil, List.drop_zero, List.drop_succ_cons, List.take_succ_cons, List.take_zero, List.take_nil, List.all_cons, List.all_nil, Bool.and_true, Bool.and_self, Nat.reduceAdd, Nat.reduceLeDiff, Nat.le_refl, reduceIte, and_self, and_true, true_and, eq_self, inBlockA_exit, Nat.reduceEqDiff]
        refine ⟨N.set b (.var 33 [it tk.k, bs tk.s, it tk.n, it tk.l, it tk.a]), M', _, fun c x hc => ?_, by rw [hn]; exact k2, by rw [List.map_append]; exact d2, d3, d4 _⟩
        rw [Store.set_ne _ _ (by rintro rfl; rw [k1 _ _ hc] at hNb; cases hNb)]
        exact k1 _ _ hc
      · rintro o m' ⟨m₁, rfl, hn, rfl, hR⟩
        exact ⟨rfl, m₁, hn, rfl, hR⟩
    have key := tokens1_ok L L2 h0 h1 (y := l) (J := fun acc mC => ∃ m0, m0 l = none ∧ mC = m0.set l (.loop true fn T0 [16].toArray cx cy D) ∧ outSt m ob acc m0) (xb := xb) (pb := pb) (Ne.symm hpx) s (by omega) hy
      (mC := (m.set ob (.var 22 [.sl [] [] .full])).set l (.loop true fn T0 [16].toArray cx cy D)) ⟨m.set ob (.var 22 [.sl [] [] .full]), by rw [Store.set_ne _ _ hlo]; exact hl0, rfl, m, m, _, fun _ _ h => h, hob', Buf.start, hob', rfl⟩
      (by rw [Store.set_ne _ _ hlx.symm, Store.set_ne _ _ hxo]; exact hxb) (by rw [Store.set_ne _ _ hlp.symm, Store.set_ne _ _ hpo]; exact hpb')
    rw [← hst] at key
    refine ACalls.mono (R := fun o m' => rowOut _ xb pb s o m') key ?_
    rintro o m' ⟨rfl, acc, mC, a, ln, e, ⟨m0, hm0, rfl, N, M, v, k1, k2, k3, k4, rfl⟩, g1, g2, rfl, hr⟩
    refine ⟨⟨_, rfl⟩, (((M.set ob (.var 22 [v])).set pb (.var 35 [.ptr xb 0])).set xb (.var 37 [bs s, it a, it ln, it e])), ?_, ?_, ?_⟩
    · funext c
      simp only [Store.set]
      by_cases e1 : c = l
      · subst e1; simp [hlp, hlx]
      · simp [e1]
    · rw [Store.set_ne _ _ hlx, Store.set_ne _ _ hlp]; exact hm0
    · have hxo2 : ∀ m' x, (Store.set m' xb x) ob = m' ob := fun m' x => Store.set_ne m' x hxo.symm
      have hpo2 : ∀ m' x, (Store.set m' pb x) ob = m' ob := fun m' x => Store.set_ne m' x hpo.symm
      have hsub : ∀ c x, m c = some x → (((M.set ob (.var 22 [v])).set pb (.var 35 [.ptr xb 0])).set xb (.var 37 [bs s, it a, it ln, it e])) c = some x := by
        intro c x hc
        rw [Store.set_ne _ _ (by rintro rfl; rw [hxb] at hc; cases hc), Store.set_ne _ _ (by rintro rfl; rw [hpb'] at hc; cases hc), Store.set_ne _ _ (by rintro rfl; rw [hob'] at hc; cases hc)]
        exact k3.sub _ _ (k1 _ _ hc)
      obtain ⟨tok, rfl⟩ := k3.val
      rw [t_eq hlen]
      simp only [upTo_succ, upTo_zero, Nat.reduceAdd, t5, t6, t15]
      cases hsc : scanL s 0 1 [] with
      | ok lx =>
        rw [hsc] at hr
        obtain ⟨rfl, rfl⟩ := hr
        have hz : ((0 : Int) != 0) = false := rfl
        simp only [hz, Store.set_same, hxo2, hpo2, awp_row, awp_seq, awp_ret, awp_exit, awp_block, awp_skip, awp_cond, condS_true, condS_false, thenA_normal, thenA_ret, thenA_exit, inBlockA_normal, inBlockA_ret, inBlockA_same, runO_nil, runO_q, runO_g, q_mov, q_pick, q_build, q_lits, q_load, q_nilc, q_bin, q_un, q_conv, q_b2s, q_mki, q_mkf, q_sliceS, q_sliceL, q_fieldA, q_field, q_idxA, q_idxL, q_idxStr, q_len, q_ext, gO_tt, gO_ff, gO_tf, gO_ft, gO_un, putO_some, putO_skip, tget_zero, tget_succ, tset_zero, tset_succ, ev_tmp, ev_const, ev_func, ofConst_int, ofConst_bool, ofConst_bs, ofConst_nilIface, ofConst_nilFunc, ofConst_pointer, ofConst_nilSlice, eval_mov, eval_pick, pickV_true, pickV_false, eval_bin, eval_un, unV_not, unV_neg, eval_load, loadV_elt, eval_nilc, nilcV_ptr, nilcV_elt, nilcV_fn, eval_mki, eval_mkf, eval_fieldA, fieldAV_ptr, fieldAV_elt, eval_field, fieldV_agg, eval_len, lenV_string, lenV_slice, eval_ext, extV_tup, eval_idxStr, eval_idxL, bin_eql, bin_neq, bin_lss, bin_leq, bin_gtr, bin_geq, bin_add, bin_sub, bin_mul, bin_or, bin_and, bin_seql, bin_sneq, runO_ge, e_call, e_store, e_alloc, e_box, e_app, e_s2b, gE_tt, gE_ff, gE_tf, gE_ft, gE_un, thenO_nil, thenO_some, still_free, runO_call, List.map_cons, List.map_nil, runO_store, storeO_ptr, storeC_var, setV_nil, setV_cons, oneV_int, oneV_bool, oneV_str, oneV_nilp, oneV_nili, oneV_ptr, oneV_elt, oneV_sl, oneV_fn, oneV_ifc, oneV_bs, cells_val, cells_ptr, cells_elt, cells_sl, cells_fn, cells_ifc, cells_agg, cells_bs, loadV_at, loadB_var, runO_alloc, runO_box, runO_s2b, runO_app, eval_sliceS, optEv_none, optEv_some, optV_int, lenV_bs, bin_beql, bin_bneq, partV_one, List.getElem?_cons_succ, List.getElem?_cons_zero, eval_idxA, eval_build, fillV_nil, fillV_val, fillV_bs, fillV_sl, fillV_ptr, fillV_elt, fillV_fn, fillV_ifc, map_agg, partV_some, List.length_cons, List.length_nil, List.drop_zero, List.drop_succ_cons, List.take_succ_cons, List.take_zero, List.take_nil, List.all_cons, List.all_nil, Bool.and_true, Bool.and_self, Nat.reduceAdd, Nat.reduceLeDiff, Nat.le_refl, reduceIte, and_self, and_true, true_and, eq_self, inBlockA_exit, Nat.reduceEqDiff]
        exact bodyA_less (m' := m) resV_three hsub ⟨⟨tok, rfl⟩, rfl⟩
      | error p =>
        rw [hsc] at hr
        obtain ⟨a', e'⟩ := p
        obtain ⟨rfl, rfl, hne⟩ := hr
        have hz : ((e' : Int) != 0) = true := by simpa using hne
        simp only [hz, Store.set_same, hxo2, hpo2, awp_row, awp_seq, awp_ret, awp_exit, awp_block, awp_skip, awp_cond, condS_true, condS_false, thenA_normal, thenA_ret, thenA_exit, inBlockA_normal, inBlockA_ret, inBlockA_same, runO_nil, runO_q, runO_g, q_mov, q_pick, q_build, q_lits, q_load, q_nilc, q_bin, q_un, q_conv, q_b2s, q_mki, q_mkf, q_sliceS, q_sliceL, q_fieldA, q_field, q_idxA, q_idxL, q_idxStr, q_len, q_ext, gO_tt, gO_ff, gO_tf, gO_ft, gO_un, putO_some, putO_skip, tget_zero, tget_succ, tset_zero, tset_succ, ev_tmp, ev_const, ev_func, ofConst_int, ofConst_bool, ofConst_bs, ofConst_nilIface, ofConst_nilFunc, ofConst_pointer, ofConst_nilSlice, eval_mov, eval_pick, pickV_true, pickV_false, eval_bin, eval_un, unV_not, unV_neg, eval_load, loadV_elt, eval_nilc, nilcV_ptr, nilcV_elt, nilcV_fn, eval_mki, eval_mkf, eval_fieldA, fieldAV_ptr, fieldAV_elt, eval_field, fieldV_agg, eval_len, lenV_string, lenV_slice, eval_ext, extV_tup, eval_idxStr, eval_idxL, bin_eql, bin_neq, bin_lss, bin_leq, bin_gtr, bin_geq, bin_add, bin_sub, bin_mul, bin_or, bin_and, bin_seql, bin_sneq, runO_ge, e_call, e_store, e_alloc, e_box, e_app, e_s2b, gE_tt, gE_ff, gE_tf, gE_ft, gE_un, thenO_nil, thenO_some, still_free, runO_call, List.map_cons, List.map_nil, runO_store, storeO_ptr, storeC_var, setV_nil, setV_cons, oneV_int, oneV_bool, oneV_str, oneV_nilp, oneV_nili, oneV_ptr, oneV_elt, oneV_sl, oneV_fn, oneV_ifc, oneV_bs, cells_val, cells_ptr, cells_elt, cells_sl, cells_fn, cells_ifc, cells_agg, cells_bs, loadV_at, loadB_var, runO_alloc, runO_box, runO_s2b, runO_app, eval_sliceS, optEv_none, optEv_some, optV_int, lenV_bs, bin_beql, bin_bneq, partV_one, List.getElem?_cons_succ, List.getElem?_cons_zero, eval_idxA, eval_build, fillV_nil, fillV_val, fillV_bs, fillV_sl, fillV_ptr, fillV_elt, fillV_fn, fillV_ifc, map_agg, partV_some, List.length_cons, List.length_nil, List.drop_zero, List.drop_succ_cons, List.take_succ_cons, List.take_zero, List.take_nil, List.all_cons, List.all_nil, Bool.and_true, Bool.and_self, Nat.reduceAdd, Nat.reduceLeDiff, Nat.le_refl, reduceIte, and_self, and_true, true_and, eq_self, inBlockA_exit, Nat.reduceEqDiff]
        exact bodyA_less (m' := m) resV_three hsub ⟨rfl, rfl⟩
end Go.Av.Fn
