/- The program tells the document's examples. No condition. -/
import Derived.Test.YtgjmoaifdldkaaaDoorW17
import Derived.KernelRfl
namespace Go.Av.Fn
set_option linter.unusedSimpArgs false
set_option linter.unusedVariables false
set_option maxRecDepth 10000
open Go.Proofs

/-- The same, told step by step. -/
def skipF : Nat → List UInt8 → Nat → Nat → Nat × Nat
  | 0, _, a, l => (a, l)
  | n + 1, r, a, l =>
    if [10].isPrefixOf r = true then skipF n (r.drop 1) (a + 1) (l + 1)
    else if ([32].isPrefixOf r || [9].isPrefixOf r) = true then skipF n (r.drop 1) (a + 1) l
    else if [47, 47].isPrefixOf r = true then skipF n (r.drop (r.takeWhile notNl).length) (a + (r.takeWhile notNl).length) l
    else (a, l)

theorem skipF_eq : ∀ (n : Nat) (r : List UInt8) (a l : Nat), r.length < n → skipF n r a l = skipL r a l
  | 0, r, a, l, h => absurd h (by omega)
  | n + 1, r, a, l, h => by
    rw [skipL.eq_1]
    simp only [skipF]
    by_cases h1 : [10].isPrefixOf r = true
    · rw [if_pos h1, dif_pos h1]
      have := pre_len h1
      exact skipF_eq n _ _ _ (by simp at this ⊢; omega)
    · rw [if_neg h1, dif_neg h1]
      by_cases h2 : ([32].isPrefixOf r || [9].isPrefixOf r) = true
      · rw [if_pos h2, dif_pos h2]
        have : 1 ≤ r.length := by
          rw [Bool.or_eq_true] at h2
          rcases h2 with h2 | h2
          · simpa using pre_len h2
          · simpa using pre_len h2
        exact skipF_eq n _ _ _ (by simp; omega)
      · rw [if_neg h2, dif_neg h2]
        by_cases h3 : [47, 47].isPrefixOf r = true
        · rw [if_pos h3, dif_pos h3]
          have h4 := slash_run h3
          have h5 := pre_len h3
          exact skipF_eq n _ _ _ (by simp at h5 ⊢; omega)
        · rw [if_neg h3, dif_neg h3]

def scanF : Nat → List UInt8 → Nat × Nat → List Tk → Except (Nat × Int) (List Tk)
  | 0, _, _, _ => .ok []
  | n + 1, r, x, acc => match tokL r with
    | .error e => if r.isEmpty then .ok (acc ++ [⟨0, [], 0, x.2, x.1⟩]) else .error (x.1, e)
    | .ok (t, k) => scanF n ((r.drop k).drop ((skipF (r.length + 1) (r.drop k) (x.1 + k) x.2).1 - (x.1 + k))) (skipF (r.length + 1) (r.drop k) (x.1 + k) x.2) (acc ++ [{ t with l := x.2, a := x.1 }])

theorem scanF_eq : ∀ (n : Nat) (r : List UInt8) (x : Nat × Nat) (acc : List Tk), r.length < n → scanF n r x acc = scanN r x acc
  | 0, r, x, acc, h => absurd h (by omega)
  | n + 1, r, x, acc, h => by
    simp only [scanF, scanN]
    cases ht : tokL r with
    | error e =>
      simp only
      cases r with
      | nil => rfl
      | cons c r => rfl
    | ok y =>
      obtain ⟨t, k⟩ := y
      have hk := tokL_len ht
      simp only
      have e1 : skipF (r.length + 1) (r.drop k) (x.1 + k) x.2 = skipL (r.drop k) (x.1 + k) x.2 := skipF_eq _ _ _ _ (by simp; omega)
      rw [e1, scanL_eq]
      exact scanF_eq n _ _ _ (by simp; omega)

theorem scanR_eq {s : List UInt8} {y : Except (Nat × Int) (List Tk)} (h : (s.length ≤ 4096 ∧ scanF (s.length + 1) (s.drop (skipF (s.length + 1) s 0 1).1) (skipF (s.length + 1) s 0 1) [] = y)) : scanR s = y := by
  unfold scanR
  rw [if_neg (by omega), scanL_eq, ← skipF_eq (s.length + 1) s 0 1 (by omega), Nat.sub_zero, ← scanF_eq (s.length + 1) _ _ _ (by simp; omega)]
  exact h.2

theorem ex1 : scanR [108, 101, 116, 32, 120, 49, 61, 97, 91, 48, 93, 59, 32, 47, 47, 32, 120] = .ok [⟨5, [108, 101, 116], 0, 1, 0⟩, ⟨1, [120, 49], 0, 1, 4⟩, ⟨4, [61], 0, 1, 6⟩, ⟨1, [97], 0, 1, 7⟩, ⟨4, [91], 0, 1, 8⟩, ⟨2, [], 0, 1, 9⟩, ⟨4, [93], 0, 1, 10⟩, ⟨4, [59], 0, 1, 11⟩, ⟨0, [], 0, 1, 17⟩] := scanR_eq ⟨by decide, by kernel_rfl⟩
theorem ex2 : scanR [34, 97, 92, 34, 98, 34] = .ok [⟨3, [97, 34, 98], 0, 1, 0⟩, ⟨0, [], 0, 1, 6⟩] := scanR_eq ⟨by decide, by kernel_rfl⟩
theorem ex3 : scanR [97, 38, 98] = .error (1, 6) := scanR_eq ⟨by decide, by kernel_rfl⟩
theorem ex4 : scanR [57, 50, 50, 51, 51, 55, 50, 48, 51, 54, 56, 53, 52, 55, 55, 53, 56, 48, 56] = .error (0, 5) := scanR_eq ⟨by decide, by kernel_rfl⟩

theorem noPan {r : Except (Nat × Int) (List Tk)} {v : V} (h : ScanOut r (.pan v)) : False := by
  unfold ScanOut at h
  split at h
  · obtain ⟨_, h⟩ := h
    cases h
  · cases h

def exL1 : List V := ([⟨5, [108, 101, 116], 0, 1, 0⟩, ⟨1, [120, 49], 0, 1, 4⟩, ⟨4, [61], 0, 1, 6⟩, ⟨1, [97], 0, 1, 7⟩, ⟨4, [91], 0, 1, 8⟩, ⟨2, [], 0, 1, 9⟩, ⟨4, [93], 0, 1, 10⟩, ⟨4, [59], 0, 1, 11⟩, ⟨0, [], 0, 1, 17⟩] : List Tk).map tkV
def exL2 : List V := ([⟨3, [97, 34, 98], 0, 1, 0⟩, ⟨0, [], 0, 1, 6⟩] : List Tk).map tkV
section
variable {Γ : Glob} (L : LibOk Γ) (L2 : ParseOk Γ) (h0 : Γ 0 = some (wordsB.map bs)) (h1 : Γ 1 = some (signsB.map bs)) {m : Store}
include L L2 h0 h1
theorem live1 : ACalls Tryd.prog Γ 5 [bs [108, 101, 116, 32, 120, 49, 61, 97, 91, 48, 93, 59, 32, 47, 47, 32, 120]] m fun o m' => (∃ tok, o = .ret (.tup [.sl exL1 [] tok, it 0, it 0])) ∧ m' = m := by
  refine (scan_ok L L2 h0 h1 _).mono ?_
  rintro o m' ⟨h, rfl⟩
  rw [ex1] at h
  exact ⟨h, rfl⟩
theorem live2 : ACalls Tryd.prog Γ 5 [bs [34, 97, 92, 34, 98, 34]] m fun o m' => (∃ tok, o = .ret (.tup [.sl exL2 [] tok, it 0, it 0])) ∧ m' = m := by
  refine (scan_ok L L2 h0 h1 _).mono ?_
  rintro o m' ⟨h, rfl⟩
  rw [ex2] at h
  exact ⟨h, rfl⟩
theorem live3 : ACalls Tryd.prog Γ 5 [bs [97, 38, 98]] m fun o m' => o = .ret (.tup [.sl [] [] .full, it 1, it 6]) ∧ m' = m := by
  refine (scan_ok L L2 h0 h1 _).mono ?_
  rintro o m' ⟨h, rfl⟩
  rw [ex3] at h
  exact ⟨h, rfl⟩
theorem live4 : ACalls Tryd.prog Γ 5 [bs [57, 50, 50, 51, 51, 55, 50, 48, 51, 54, 56, 53, 52, 55, 55, 53, 56, 48, 56]] m fun o m' => o = .ret (.tup [.sl [] [] .full, it 0, it 5]) ∧ m' = m := by
  refine (scan_ok L L2 h0 h1 _).mono ?_
  rintro o m' ⟨h, rfl⟩
  rw [ex4] at h
  exact ⟨h, rfl⟩

theorem lives_ok : ACalls Tryd.prog Γ 8 [] m fun o m' => o = .ret (.val (.bool true)) ∧ m' = m := by
  refine acalls_of_awp mixed F8_ok (by rintro v m b x _ ⟨⟨⟩, _⟩) ?_
  simp only [F8, start, List.cons_append, List.nil_append, List.length_cons, List.length_nil, List.replicate, Nat.reduceSub, Nat.reduceAdd]
  simp only [awp_row, awp_seq, awp_ret, awp_exit, awp_block, awp_skip, awp_cond, condS_true, condS_false, thenA_normal, thenA_ret, thenA_exit, inBlockA_normal, inBlockA_ret, inBlockA_same, runO_nil, runO_q, runO_g, q_mov, q_pick, q_build, q_lits, q_load, q_nilc, q_bin, q_un, q_conv, q_b2s, q_mki, q_mkf, q_sliceS, q_sliceL, q_fieldA, q_field, q_idxA, q_idxL, q_idxStr, q_len, q_ext, gO_tt, gO_ff, gO_tf, gO_ft, gO_un, putO_some, putO_skip, tget_zero, tget_succ, tset_zero, tset_succ, ev_tmp, ev_const, ev_func, ofConst_int, ofConst_bool, ofConst_bs, ofConst_nilIface, ofConst_nilFunc, ofConst_pointer, ofConst_nilSlice, eval_mov, eval_pick, pickV_true, pickV_false, eval_bin, eval_un, unV_not, unV_neg, eval_load, loadV_elt, eval_nilc, nilcV_ptr, nilcV_elt, nilcV_fn, eval_mki, eval_mkf, eval_fieldA, fieldAV_ptr, fieldAV_elt, eval_field, fieldV_agg, eval_len, lenV_string, lenV_slice, eval_ext, extV_tup, eval_idxStr, eval_idxL, bin_eql, bin_neq, bin_lss, bin_leq, bin_gtr, bin_geq, bin_add, bin_sub, bin_mul, bin_or, bin_and, bin_seql, bin_sneq, runO_ge, e_call, e_store, e_alloc, e_box, e_app, e_s2b, gE_tt, gE_ff, gE_tf, gE_ft, gE_un, thenO_nil, thenO_some, still_free, runO_call, List.map_cons, List.map_nil, runO_store, storeO_ptr, storeC_var, setV_nil, setV_cons, oneV_int, oneV_bool, oneV_str, oneV_nilp, oneV_nili, oneV_ptr, oneV_elt, oneV_sl, oneV_fn, oneV_ifc, oneV_bs, cells_val, cells_ptr, cells_elt, cells_sl, cells_fn, cells_ifc, cells_agg, cells_bs, loadV_at, loadB_var, runO_alloc, runO_box, runO_s2b, runO_app, eval_sliceS, optEv_none, optEv_some, optV_int, lenV_bs, bin_beql, bin_bneq, partV_one, List.getElem?_cons_succ, List.getElem?_cons_zero, eval_idxA, eval_build, fillV_nil, fillV_val, fillV_bs, fillV_sl, fillV_ptr, fillV_elt, fillV_fn, fillV_ifc, map_agg, partV_some, List.length_cons, List.length_nil, List.drop_zero, List.drop_succ_cons, List.take_succ_cons, List.take_zero, List.take_nil, List.all_cons, List.all_nil, Bool.and_true, Bool.and_self, Nat.reduceAdd, Nat.reduceLeDiff, Nat.le_refl, reduceIte, and_self, and_true, true_and, eq_self, inBlockA_exit, Nat.reduceEqDiff]
  refine callS_of (live1 L L2 h0 h1) ?_ (by rintro v m' ⟨⟨_, ⟨⟩⟩, _⟩)
  rintro v m' ⟨⟨tok, hv⟩, rfl⟩
  cases hv
  simp only [awp_row, awp_seq, awp_ret, awp_exit, awp_block, awp_skip, awp_cond, condS_true, condS_false, thenA_normal, thenA_ret, thenA_exit, inBlockA_normal, inBlockA_ret, inBlockA_same, runO_nil, runO_q, runO_g, q_mov, q_pick, q_build, q_lits, q_load, q_nilc, q_bin, q_un, q_conv, q_b2s, q_mki, q_mkf, q_sliceS, q_sliceL, q_fieldA, q_field, q_idxA, q_idxL, q_idxStr, q_len, q_ext, gO_tt, gO_ff, gO_tf, gO_ft, gO_un, putO_some, putO_skip, tget_zero, tget_succ, tset_zero, tset_succ, ev_tmp, ev_const, ev_func, ofConst_int, ofConst_bool, ofConst_bs, ofConst_nilIface, ofConst_nilFunc, ofConst_pointer, ofConst_nilSlice, eval_mov, eval_pick, pickV_true, pickV_false, eval_bin, eval_un, unV_not, unV_neg, eval_load, loadV_elt, eval_nilc, nilcV_ptr, nilcV_elt, nilcV_fn, eval_mki, eval_mkf, eval_fieldA, fieldAV_ptr, fieldAV_elt, eval_field, fieldV_agg, eval_len, lenV_string, lenV_slice, eval_ext, extV_tup, eval_idxStr, eval_idxL, bin_eql, bin_neq, bin_lss, bin_leq, bin_gtr, bin_geq, bin_add, bin_sub, bin_mul, bin_or, bin_and, bin_seql, bin_sneq, runO_ge, e_call, e_store, e_alloc, e_box, e_app, e_s2b, gE_tt, gE_ff, gE_tf, gE_ft, gE_un, thenO_nil, thenO_some, still_free, runO_call, List.map_cons, List.map_nil, runO_store, storeO_ptr, storeC_var, setV_nil, setV_cons, oneV_int, oneV_bool, oneV_str, oneV_nilp, oneV_nili, oneV_ptr, oneV_elt, oneV_sl, oneV_fn, oneV_ifc, oneV_bs, cells_val, cells_ptr, cells_elt, cells_sl, cells_fn, cells_ifc, cells_agg, cells_bs, loadV_at, loadB_var, runO_alloc, runO_box, runO_s2b, runO_app, eval_sliceS, optEv_none, optEv_some, optV_int, lenV_bs, bin_beql, bin_bneq, partV_one, List.getElem?_cons_succ, List.getElem?_cons_zero, eval_idxA, eval_build, fillV_nil, fillV_val, fillV_bs, fillV_sl, fillV_ptr, fillV_elt, fillV_fn, fillV_ifc, map_agg, partV_some, List.length_cons, List.length_nil, List.drop_zero, List.drop_succ_cons, List.take_succ_cons, List.take_zero, List.take_nil, List.all_cons, List.all_nil, Bool.and_true, Bool.and_self, Nat.reduceAdd, Nat.reduceLeDiff, Nat.le_refl, reduceIte, and_self, and_true, true_and, eq_self, inBlockA_exit, Nat.reduceEqDiff]
  refine callS_of (live2 L L2 h0 h1) ?_ (by rintro v m' ⟨⟨_, ⟨⟩⟩, _⟩)
  rintro v m' ⟨⟨tok2, hv⟩, rfl⟩
  cases hv
  simp only [awp_row, awp_seq, awp_ret, awp_exit, awp_block, awp_skip, awp_cond, condS_true, condS_false, thenA_normal, thenA_ret, thenA_exit, inBlockA_normal, inBlockA_ret, inBlockA_same, runO_nil, runO_q, runO_g, q_mov, q_pick, q_build, q_lits, q_load, q_nilc, q_bin, q_un, q_conv, q_b2s, q_mki, q_mkf, q_sliceS, q_sliceL, q_fieldA, q_field, q_idxA, q_idxL, q_idxStr, q_len, q_ext, gO_tt, gO_ff, gO_tf, gO_ft, gO_un, putO_some, putO_skip, tget_zero, tget_succ, tset_zero, tset_succ, ev_tmp, ev_const, ev_func, ofConst_int, ofConst_bool, ofConst_bs, ofConst_nilIface, ofConst_nilFunc, ofConst_pointer, ofConst_nilSlice, eval_mov, eval_pick, pickV_true, pickV_false, eval_bin, eval_un, unV_not, unV_neg, eval_load, loadV_elt, eval_nilc, nilcV_ptr, nilcV_elt, nilcV_fn, eval_mki, eval_mkf, eval_fieldA, fieldAV_ptr, fieldAV_elt, eval_field, fieldV_agg, eval_len, lenV_string, lenV_slice, eval_ext, extV_tup, eval_idxStr, eval_idxL, bin_eql, bin_neq, bin_lss, bin_leq, bin_gtr, bin_geq, bin_add, bin_sub, bin_mul, bin_or, bin_and, bin_seql, bin_sneq, runO_ge, e_call, e_store, e_alloc, e_box, e_app, e_s2b, gE_tt, gE_ff, gE_tf, gE_ft, gE_un, thenO_nil, thenO_some, still_free, runO_call, List.map_cons, List.map_nil, runO_store, storeO_ptr, storeC_var, setV_nil, setV_cons, oneV_int, oneV_bool, oneV_str, oneV_nilp, oneV_nili, oneV_ptr, oneV_elt, oneV_sl, oneV_fn, oneV_ifc, oneV_bs, cells_val, cells_ptr, cells_elt, cells_sl, cells_fn, cells_ifc, cells_agg, cells_bs, loadV_at, loadB_var, runO_alloc, runO_box, runO_s2b, runO_app, eval_sliceS, optEv_none, optEv_some, optV_int, lenV_bs, bin_beql, bin_bneq, partV_one, List.getElem?_cons_succ, List.getElem?_cons_zero, eval_idxA, eval_build, fillV_nil, fillV_val, fillV_bs, fillV_sl, fillV_ptr, fillV_elt, fillV_fn, fillV_ifc, map_agg, partV_some, List.length_cons, List.length_nil, List.drop_zero, List.drop_succ_cons, List.take_succ_cons, List.take_zero, List.take_nil, List.all_cons, List.all_nil, Bool.and_true, Bool.and_self, Nat.reduceAdd, Nat.reduceLeDiff, Nat.le_refl, reduceIte, and_self, and_true, true_and, eq_self, inBlockA_exit, Nat.reduceEqDiff]
  refine callS_pure (live3 L L2 h0 h1) ?_
  simp only [awp_row, awp_seq, awp_ret, awp_exit, awp_block, awp_skip, awp_cond, condS_true, condS_false, thenA_normal, thenA_ret, thenA_exit, inBlockA_normal, inBlockA_ret, inBlockA_same, runO_nil, runO_q, runO_g, q_mov, q_pick, q_build, q_lits, q_load, q_nilc, q_bin, q_un, q_conv, q_b2s, q_mki, q_mkf, q_sliceS, q_sliceL, q_fieldA, q_field, q_idxA, q_idxL, q_idxStr, q_len, q_ext, gO_tt, gO_ff, gO_tf, gO_ft, gO_un, putO_some, putO_skip, tget_zero, tget_succ, tset_zero, tset_succ, ev_tmp, ev_const, ev_func, ofConst_int, ofConst_bool, ofConst_bs, ofConst_nilIface, ofConst_nilFunc, ofConst_pointer, ofConst_nilSlice, eval_mov, eval_pick, pickV_true, pickV_false, eval_bin, eval_un, unV_not, unV_neg, eval_load, loadV_elt, eval_nilc, nilcV_ptr, nilcV_elt, nilcV_fn, eval_mki, eval_mkf, eval_fieldA, fieldAV_ptr, fieldAV_elt, eval_field, fieldV_agg, eval_len, lenV_string, lenV_slice, eval_ext, extV_tup, eval_idxStr, eval_idxL, bin_eql, bin_neq, bin_lss, bin_leq, bin_gtr, bin_geq, bin_add, bin_sub, bin_mul, bin_or, bin_and, bin_seql, bin_sneq, runO_ge, e_call, e_store, e_alloc, e_box, e_app, e_s2b, gE_tt, gE_ff, gE_tf, gE_ft, gE_un, thenO_nil, thenO_some, still_free, runO_call, List.map_cons, List.map_nil, runO_store, storeO_ptr, storeC_var, setV_nil, setV_cons, oneV_int, oneV_bool, oneV_str, oneV_nilp, oneV_nili, oneV_ptr, oneV_elt, oneV_sl, oneV_fn, oneV_ifc, oneV_bs, cells_val, cells_ptr, cells_elt, cells_sl, cells_fn, cells_ifc, cells_agg, cells_bs, loadV_at, loadB_var, runO_alloc, runO_box, runO_s2b, runO_app, eval_sliceS, optEv_none, optEv_some, optV_int, lenV_bs, bin_beql, bin_bneq, partV_one, List.getElem?_cons_succ, List.getElem?_cons_zero, eval_idxA, eval_build, fillV_nil, fillV_val, fillV_bs, fillV_sl, fillV_ptr, fillV_elt, fillV_fn, fillV_ifc, map_agg, partV_some, List.length_cons, List.length_nil, List.drop_zero, List.drop_succ_cons, List.take_succ_cons, List.take_zero, List.take_nil, List.all_cons, List.all_nil, Bool.and_true, Bool.and_self, Nat.reduceAdd, Nat.reduceLeDiff, Nat.le_refl, reduceIte, and_self, and_true, true_and, eq_self, inBlockA_exit, Nat.reduceEqDiff]
  refine callS_pure (live4 L L2 h0 h1) ?_
  have f9 : ((exL1.length : Int) == 9) = true := rfl
  have f2 : ((exL2.length : Int) == 2) = true := rfl
  have f0 : ((0 : Int) == 0) = true := rfl
  have f1 : ((1 : Int) == 1) = true := rfl
  have f6 : ((6 : Int) == 6) = true := rfl
  have f5 : ((5 : Int) == 5) = true := rfl
  have i0 : idxLV 5 (.sl exL1 [] tok) (.val (.int .i64 0)) = some (.elt [it 5, bs [108, 101, 116], it 0, it 1, it 0]) := idxLV_nat (i := 0) (e := tkV ⟨5, [108, 101, 116], 0, 1, 0⟩) rfl rfl
  have i5 : idxLV 5 (.sl exL1 [] tok) (.val (.int .i64 5)) = some (.elt [it 2, bs [], it 0, it 1, it 9]) := idxLV_nat (i := 5) (e := tkV ⟨2, [], 0, 1, 9⟩) rfl rfl
  have i8 : idxLV 5 (.sl exL1 [] tok) (.val (.int .i64 8)) = some (.elt [it 0, bs [], it 0, it 1, it 17]) := idxLV_nat (i := 8) (e := tkV ⟨0, [], 0, 1, 17⟩) rfl rfl
  have j0 : idxLV 5 (.sl exL2 [] tok2) (.val (.int .i64 0)) = some (.elt [it 3, bs [97, 34, 98], it 0, it 1, it 0]) := idxLV_nat (i := 0) (e := tkV ⟨3, [97, 34, 98], 0, 1, 0⟩) rfl rfl
  have fs : (([97, 34, 98] : List UInt8) == [97, 34, 98]) = true := rfl
  have q1 : binV Tryd.prog .eql 33 .other (.tmp 43) (.tmp 44) (.agg [it 5, bs [108, 101, 116], it 0, it 1, it 0]) (.agg [it 5, bs [108, 101, 116], it 0, it 1, it 0]) = some (.val (.bool true)) := (tok_eq _ _ ⟨5, [108, 101, 116], 0, 1, 0⟩ ⟨5, [108, 101, 116], 0, 1, 0⟩).1
  have q2 : binV Tryd.prog .eql 33 .other (.tmp 50) (.tmp 51) (.agg [it 2, bs [], it 0, it 1, it 9]) (.agg [it 2, .val (.string ⟨#[]⟩), it 0, it 1, it 9]) = some (.val (.bool true)) := (tok_eq _ _ ⟨2, [], 0, 1, 9⟩ ⟨2, [], 0, 1, 9⟩).1
  have q3 : binV Tryd.prog .eql 33 .other (.tmp 57) (.tmp 58) (.agg [it 0, bs [], it 0, it 1, it 17]) (.agg [it 0, .val (.string ⟨#[]⟩), it 0, it 1, it 17]) = some (.val (.bool true)) := (tok_eq _ _ ⟨0, [], 0, 1, 17⟩ ⟨0, [], 0, 1, 17⟩).1
  simp only [f9, f2, f0, f1, f6, f5, i0, i5, i8, j0, fs, q1, q2, q3, awp_row, awp_seq, awp_ret, awp_exit, awp_block, awp_skip, awp_cond, condS_true, condS_false, thenA_normal, thenA_ret, thenA_exit, inBlockA_normal, inBlockA_ret, inBlockA_same, runO_nil, runO_q, runO_g, q_mov, q_pick, q_build, q_lits, q_load, q_nilc, q_bin, q_un, q_conv, q_b2s, q_mki, q_mkf, q_sliceS, q_sliceL, q_fieldA, q_field, q_idxA, q_idxL, q_idxStr, q_len, q_ext, gO_tt, gO_ff, gO_tf, gO_ft, gO_un, putO_some, putO_skip, tget_zero, tget_succ, tset_zero, tset_succ, ev_tmp, ev_const, ev_func, ofConst_int, ofConst_bool, ofConst_bs, ofConst_nilIface, ofConst_nilFunc, ofConst_pointer, ofConst_nilSlice, eval_mov, eval_pick, pickV_true, pickV_false, eval_bin, eval_un, unV_not, unV_neg, eval_load, loadV_elt, eval_nilc, nilcV_ptr, nilcV_elt, nilcV_fn, eval_mki, eval_mkf, eval_fieldA, fieldAV_ptr, fieldAV_elt, eval_field, fieldV_agg, eval_len, lenV_string, lenV_slice, eval_ext, extV_tup, eval_idxStr, eval_idxL, bin_eql, bin_neq, bin_lss, bin_leq, bin_gtr, bin_geq, bin_add, bin_sub, bin_mul, bin_or, bin_and, bin_seql, bin_sneq, runO_ge, e_call, e_store, e_alloc, e_box, e_app, e_s2b, gE_tt, gE_ff, gE_tf, gE_ft, gE_un, thenO_nil, thenO_some, still_free, runO_call, List.map_cons, List.map_nil, runO_store, storeO_ptr, storeC_var, setV_nil, setV_cons, oneV_int, oneV_bool, oneV_str, oneV_nilp, oneV_nili, oneV_ptr, oneV_elt, oneV_sl, oneV_fn, oneV_ifc, oneV_bs, cells_val, cells_ptr, cells_elt, cells_sl, cells_fn, cells_ifc, cells_agg, cells_bs, loadV_at, loadB_var, runO_alloc, runO_box, runO_s2b, runO_app, eval_sliceS, optEv_none, optEv_some, optV_int, lenV_bs, bin_beql, bin_bneq, partV_one, List.getElem?_cons_succ, List.getElem?_cons_zero, eval_idxA, eval_build, fillV_nil, fillV_val, fillV_bs, fillV_sl, fillV_ptr, fillV_elt, fillV_fn, fillV_ifc, map_agg, partV_some, List.length_cons, List.length_nil, List.drop_zero, List.drop_succ_cons, List.take_succ_cons, List.take_zero, List.take_nil, List.all_cons, List.all_nil, Bool.and_true, Bool.and_self, Nat.reduceAdd, Nat.reduceLeDiff, Nat.le_refl, reduceIte, and_self, and_true, true_and, eq_self, inBlockA_exit, Nat.reduceEqDiff]
  refine callS_pure (Word_ok h0 _) ?_
  have fw : wordsB.contains [110, 101, 119] = true := by decide
  simp only [fw, awp_row, awp_seq, awp_ret, awp_exit, awp_block, awp_skip, awp_cond, condS_true, condS_false, thenA_normal, thenA_ret, thenA_exit, inBlockA_normal, inBlockA_ret, inBlockA_same, runO_nil, runO_q, runO_g, q_mov, q_pick, q_build, q_lits, q_load, q_nilc, q_bin, q_un, q_conv, q_b2s, q_mki, q_mkf, q_sliceS, q_sliceL, q_fieldA, q_field, q_idxA, q_idxL, q_idxStr, q_len, q_ext, gO_tt, gO_ff, gO_tf, gO_ft, gO_un, putO_some, putO_skip, tget_zero, tget_succ, tset_zero, tset_succ, ev_tmp, ev_const, ev_func, ofConst_int, ofConst_bool, ofConst_bs, ofConst_nilIface, ofConst_nilFunc, ofConst_pointer, ofConst_nilSlice, eval_mov, eval_pick, pickV_true, pickV_false, eval_bin, eval_un, unV_not, unV_neg, eval_load, loadV_elt, eval_nilc, nilcV_ptr, nilcV_elt, nilcV_fn, eval_mki, eval_mkf, eval_fieldA, fieldAV_ptr, fieldAV_elt, eval_field, fieldV_agg, eval_len, lenV_string, lenV_slice, eval_ext, extV_tup, eval_idxStr, eval_idxL, bin_eql, bin_neq, bin_lss, bin_leq, bin_gtr, bin_geq, bin_add, bin_sub, bin_mul, bin_or, bin_and, bin_seql, bin_sneq, runO_ge, e_call, e_store, e_alloc, e_box, e_app, e_s2b, gE_tt, gE_ff, gE_tf, gE_ft, gE_un, thenO_nil, thenO_some, still_free, runO_call, List.map_cons, List.map_nil, runO_store, storeO_ptr, storeC_var, setV_nil, setV_cons, oneV_int, oneV_bool, oneV_str, oneV_nilp, oneV_nili, oneV_ptr, oneV_elt, oneV_sl, oneV_fn, oneV_ifc, oneV_bs, cells_val, cells_ptr, cells_elt, cells_sl, cells_fn, cells_ifc, cells_agg, cells_bs, loadV_at, loadB_var, runO_alloc, runO_box, runO_s2b, runO_app, eval_sliceS, optEv_none, optEv_some, optV_int, lenV_bs, bin_beql, bin_bneq, partV_one, List.getElem?_cons_succ, List.getElem?_cons_zero, eval_idxA, eval_build, fillV_nil, fillV_val, fillV_bs, fillV_sl, fillV_ptr, fillV_elt, fillV_fn, fillV_ifc, map_agg, partV_some, List.length_cons, List.length_nil, List.drop_zero, List.drop_succ_cons, List.take_succ_cons, List.take_zero, List.take_nil, List.all_cons, List.all_nil, Bool.and_true, Bool.and_self, Nat.reduceAdd, Nat.reduceLeDiff, Nat.le_refl, reduceIte, and_self, and_true, true_and, eq_self, inBlockA_exit, Nat.reduceEqDiff]
  exact bodyA_ret resV_one ⟨rfl, rfl⟩
end
end Go.Av.Fn
