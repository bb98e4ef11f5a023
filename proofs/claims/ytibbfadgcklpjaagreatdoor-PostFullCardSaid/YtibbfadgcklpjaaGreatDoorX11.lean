/- A post that is full: a post's messages doubled, looked at and taken. No condition. -/
import Derived.Test.YtibbfadgcklpjaaGreatDoorX10
namespace Go.Av.Fn
set_option linter.unusedSimpArgs false
set_option linter.unusedVariables false
set_option maxRecDepth 100000
open Go.Proofs Go.Lib

/-! ### A copy of bytes -/
def isSl : Option (Out × Hp) → Bool
  | some (.ret (.sl _ [] _), _) => true
  | _ => false
abbrev b8 (n : Int) : V := .val (.int .u8 n)
theorem clone_run9 (a b c d e f g h i : Int) : isSl (run Tryz.prog tabA 42 [.sl [b8 a, b8 b, b8 c, b8 d, b8 e, b8 f, b8 g, b8 h, b8 i] [] .no]) = true := by kernel_rfl
theorem clone_run10 (a b c d e f g h i j : Int) : isSl (run Tryz.prog tabA 42 [.sl [b8 a, b8 b, b8 c, b8 d, b8 e, b8 f, b8 g, b8 h, b8 i, b8 j] [] .no]) = true := by kernel_rfl
theorem clone_run11 (a b c d e f g h i j k : Int) : isSl (run Tryz.prog tabA 42 [.sl [b8 a, b8 b, b8 c, b8 d, b8 e, b8 f, b8 g, b8 h, b8 i, b8 j, b8 k] [] .no]) = true := by kernel_rfl
theorem isSl_inv {r : Option (Out × Hp)} (h : isSl r = true) : ∃ es tok, retOf r = some (.sl es [] tok) := by
  unfold isSl at h
  split at h
  · exact ⟨_, _, rfl⟩
  · cases h
theorem byte_list : ∀ {l : List V}, l.all isByte = true → ∃ ns : List Int, l = ns.map b8
  | [], _ => ⟨[], rfl⟩
  | v :: l, h => by
    simp only [List.all_cons, Bool.and_eq_true] at h
    obtain ⟨n, rfl⟩ := isByte_inv h.1
    obtain ⟨ns, rfl⟩ := byte_list h.2
    exact ⟨n :: ns, rfl⟩
theorem relNo1 {G : Gh} {es more : List V} {tok : Tok} {cargs : List Value} (h : RelL G [.sl es more tok] cargs) : RelL G [.sl es more .no] cargs := by
  obtain ⟨u1, us1, rfl, r1, hL⟩ := h.cons_inv
  obtain rfl := hL.nil_inv
  exact .cons (relNo r1) .nil
section
variable {Γ : Glob} {m : Store}
theorem clone_ok (h0 : Γ 0 = some (signsB.map bs)) (h1 : Γ 1 = some (wordsB.map bs)) {j : Nat} {v : V} (h : El j v) : ACalls Tryz.prog Γ 42 [v] m fun o m' => (∃ w, o = .ret w ∧ w.cells = [w] ∧ oneV w = true) ∧ m' = m := by
  obtain ⟨es, tok, rfl, q1, q2, q3, _⟩ := h
  refine acalls_weak (fun G cargs hL => relNo1 hL) (args' := [.sl es [] .no]) ?_
  obtain ⟨ns, rfl⟩ := byte_list q1
  have fin : isSl (run Tryz.prog tabA 42 [.sl (ns.map b8) [] .no]) = true → ACalls Tryz.prog Γ 42 [.sl (ns.map b8) [] .no] m fun o m' => (∃ w, o = .ret w ∧ w.cells = [w] ∧ oneV w = true) ∧ m' = m := by
    intro hr
    obtain ⟨es, tk, hr⟩ := isSl_inv hr
    have hl : LR (fun _ _ => False) (ns.map b8) (ns.map b8) := LR.map (f := b8) (g := b8) fun _ _ => .val _
    refine (acalls_ret (callOk h0 h1) hr (.cons (.sl hl .nil trivial) .nil)).mono ?_
    rintro o m' ⟨⟨S, u, r, rfl⟩, hm⟩
    cases r with
    | sl a b c => exact ⟨⟨_, rfl, rfl, rfl⟩, hm⟩
  rw [List.length_map] at q2 q3
  match ns, q2, q3, fin with
  | [a, b, c, d, e, f, g, h, i], _, _, fin => exact fin (clone_run9 ..)
  | [a, b, c, d, e, f, g, h, i, j], _, _, fin => exact fin (clone_run10 ..)
  | [a, b, c, d, e, f, g, h, i, j, k], _, _, fin => exact fin (clone_run11 ..)

theorem read_ok (h0 : Γ 0 = some (signsB.map bs)) (h1 : Γ 1 = some (wordsB.map bs)) {v : V} (h : El 4095 v) : ACalls Tryz.prog Γ 37 [v] m fun o m' => o = .ret (.tup [.agg (msgC (it 4095)), it 0]) ∧ m' = m := by
  obtain ⟨es, tok, rfl, q1, q2, q3, q4⟩ := h
  rw [q4 rfl]
  refine acalls_weak (fun G cargs hL => relNo1 hL) (args' := [.sl (frame4095.map by8) [] .no]) ?_
  exact acalls_plain (callOk h0 h1) read_run (.cons (.sl (LR.map (f := by8) (g := by8) fun _ _ => .val _) .nil trivial) .nil) rfl

/-- A function that is handed one of a post's messages. -/
theorem with_ok {pb i : Nat} {es : List V} {tok : Tok} {f : V} {v : V} {g : FuncId} {caps : List V} {R : Out → Store → Prop} (hf : f = .fn (.func g) [] caps) (h : m pb = some (postB (.sl es [] tok))) (hv : es[i]? = some v) (hv1 : v.cells = [v])
    (hd : ACalls Tryz.prog Γ g ([] ++ [v] ++ caps) m R) (hR : ∀ x m', R (.ret x) m' → True) (hp : ∀ x m', ¬ R (.pan x) m') : ACalls Tryz.prog Γ 40 [.ptr pb 0, it i, f] m fun o m' => ∃ x, o = .ret x ∧ R (.ret x) m' := by
  subst hf
  have hlt : i < es.length := (List.getElem?_eq_some_iff.1 hv).1
  refine acalls_of_awp mixed F40_ok (by rintro v m b x _ ⟨_, ⟨⟩, _⟩) ?_
  simp only [F40, start, List.cons_append, List.nil_append, List.length_cons, List.length_nil, List.replicate, Nat.reduceSub, Nat.reduceAdd]
  simp only [awp_row, awp_seq, awp_ret, awp_exit, awp_block, awp_skip, awp_cond, condS_true, condS_false, thenA_normal, thenA_ret, thenA_exit, inBlockA_normal, inBlockA_ret, inBlockA_same, runO_nil, runO_q, runO_g, q_mov, q_pick, q_build, q_lits, q_load, q_nilc, q_bin, q_un, q_conv, q_b2s, q_mki, q_mkf, q_sliceS, q_sliceL, q_fieldA, q_field, q_idxA, q_idxL, q_idxStr, q_len, q_ext, gO_tt, gO_ff, gO_tf, gO_ft, gO_un, putO_some, putO_skip, tget_zero, tget_succ, tset_zero, tset_succ, ev_tmp, ev_const, ev_func, ofConst_int, ofConst_bool, ofConst_bs, ofConst_nilIface, ofConst_nilFunc, ofConst_pointer, ofConst_nilSlice, eval_mov, eval_pick, pickV_true, pickV_false, eval_bin, eval_un, unV_not, unV_neg, eval_load, loadV_elt, eval_nilc, nilcV_ptr, nilcV_elt, nilcV_fn, eval_mki, eval_mkf, eval_fieldA, fieldAV_ptr, fieldAV_elt, eval_field, fieldV_agg, eval_len, lenV_string, lenV_slice, eval_ext, extV_tup, eval_idxStr, eval_idxL, bin_eql, bin_neq, bin_lss, bin_leq, bin_gtr, bin_geq, bin_add, bin_sub, bin_mul, bin_or, bin_and, bin_seql, bin_sneq, runO_ge, e_call, e_store, e_alloc, e_box, e_app, e_s2b, gE_tt, gE_ff, gE_tf, gE_ft, gE_un, thenO_nil, thenO_some, still_free, runO_call, List.map_cons, List.map_nil, runO_store, storeO_ptr, storeC_var, setV_nil, setV_cons, oneV_int, oneV_bool, oneV_str, oneV_nilp, oneV_nili, oneV_ptr, oneV_elt, oneV_sl, oneV_fn, oneV_ifc, oneV_bs, cells_val, cells_ptr, cells_elt, cells_sl, cells_fn, cells_ifc, cells_agg, cells_bs, loadV_at, loadB_var, runO_alloc, runO_box, runO_s2b, runO_app, eval_sliceS, optEv_none, optEv_some, optV_int, lenV_bs, bin_beql, bin_bneq, partV_one, List.getElem?_cons_succ, List.getElem?_cons_zero, eval_idxA, eval_build, fillV_nil, fillV_val, fillV_bs, fillV_sl, fillV_ptr, fillV_elt, fillV_fn, fillV_ifc, map_agg, partV_some, List.length_cons, List.length_nil, List.drop_zero, List.drop_succ_cons, List.take_succ_cons, List.take_zero, List.take_nil, List.all_cons, List.all_nil, Bool.and_true, Bool.and_self, Nat.reduceAdd, Nat.reduceLeDiff, Nat.le_refl, reduceIte, and_self, and_true, true_and, eq_self, inBlockA_exit, Nat.reduceEqDiff]
  refine callS_pure (is_ok h) ?_
  simp only [Bool.not_true, show decide ((i : Int) < 0) = false from decide_eq_false (by omega), loadV_at, h, show decide ((i : Int) ≥ (es.length : Int)) = false from decide_eq_false (by omega), awp_row, awp_seq, awp_ret, awp_exit, awp_block, awp_skip, awp_cond, condS_true, condS_false, thenA_normal, thenA_ret, thenA_exit, inBlockA_normal, inBlockA_ret, inBlockA_same, runO_nil, runO_q, runO_g, q_mov, q_pick, q_build, q_lits, q_load, q_nilc, q_bin, q_un, q_conv, q_b2s, q_mki, q_mkf, q_sliceS, q_sliceL, q_fieldA, q_field, q_idxA, q_idxL, q_idxStr, q_len, q_ext, gO_tt, gO_ff, gO_tf, gO_ft, gO_un, putO_some, putO_skip, tget_zero, tget_succ, tset_zero, tset_succ, ev_tmp, ev_const, ev_func, ofConst_int, ofConst_bool, ofConst_bs, ofConst_nilIface, ofConst_nilFunc, ofConst_pointer, ofConst_nilSlice, eval_mov, eval_pick, pickV_true, pickV_false, eval_bin, eval_un, unV_not, unV_neg, eval_load, loadV_elt, eval_nilc, nilcV_ptr, nilcV_elt, nilcV_fn, eval_mki, eval_mkf, eval_fieldA, fieldAV_ptr, fieldAV_elt, eval_field, fieldV_agg, eval_len, lenV_string, lenV_slice, eval_ext, extV_tup, eval_idxStr, eval_idxL, bin_eql, bin_neq, bin_lss, bin_leq, bin_gtr, bin_geq, bin_add, bin_sub, bin_mul, bin_or, bin_and, bin_seql, bin_sneq, runO_ge, e_call, e_store, e_alloc, e_box, e_app, e_s2b, gE_tt, gE_ff, gE_tf, gE_ft, gE_un, thenO_nil, thenO_some, still_free, runO_call, List.map_cons, List.map_nil, runO_store, storeO_ptr, storeC_var, setV_nil, setV_cons, oneV_int, oneV_bool, oneV_str, oneV_nilp, oneV_nili, oneV_ptr, oneV_elt, oneV_sl, oneV_fn, oneV_ifc, oneV_bs, cells_val, cells_ptr, cells_elt, cells_sl, cells_fn, cells_ifc, cells_agg, cells_bs, loadV_at, loadB_var, runO_alloc, runO_box, runO_s2b, runO_app, eval_sliceS, optEv_none, optEv_some, optV_int, lenV_bs, bin_beql, bin_bneq, partV_one, List.getElem?_cons_succ, List.getElem?_cons_zero, eval_idxA, eval_build, fillV_nil, fillV_val, fillV_bs, fillV_sl, fillV_ptr, fillV_elt, fillV_fn, fillV_ifc, map_agg, partV_some, List.length_cons, List.length_nil, List.drop_zero, List.drop_succ_cons, List.take_succ_cons, List.take_zero, List.take_nil, List.all_cons, List.all_nil, Bool.and_true, Bool.and_self, Nat.reduceAdd, Nat.reduceLeDiff, Nat.le_refl, reduceIte, and_self, and_true, true_and, eq_self, inBlockA_exit, Nat.reduceEqDiff]
  have hx : idxLV 1 (.sl es [] tok) (it i) = some (.elt v.cells) := idxLV_nat hv (by rw [hv1]; rfl)
  have lx : loadV m none (.elt v.cells) = some v := by rw [hv1]; rfl
  simp only [hx, lx, awp_row, awp_seq, awp_ret, awp_exit, awp_block, awp_skip, awp_cond, condS_true, condS_false, thenA_normal, thenA_ret, thenA_exit, inBlockA_normal, inBlockA_ret, inBlockA_same, runO_nil, runO_q, runO_g, q_mov, q_pick, q_build, q_lits, q_load, q_nilc, q_bin, q_un, q_conv, q_b2s, q_mki, q_mkf, q_sliceS, q_sliceL, q_fieldA, q_field, q_idxA, q_idxL, q_idxStr, q_len, q_ext, gO_tt, gO_ff, gO_tf, gO_ft, gO_un, putO_some, putO_skip, tget_zero, tget_succ, tset_zero, tset_succ, ev_tmp, ev_const, ev_func, ofConst_int, ofConst_bool, ofConst_bs, ofConst_nilIface, ofConst_nilFunc, ofConst_pointer, ofConst_nilSlice, eval_mov, eval_pick, pickV_true, pickV_false, eval_bin, eval_un, unV_not, unV_neg, eval_load, loadV_elt, eval_nilc, nilcV_ptr, nilcV_elt, nilcV_fn, eval_mki, eval_mkf, eval_fieldA, fieldAV_ptr, fieldAV_elt, eval_field, fieldV_agg, eval_len, lenV_string, lenV_slice, eval_ext, extV_tup, eval_idxStr, eval_idxL, bin_eql, bin_neq, bin_lss, bin_leq, bin_gtr, bin_geq, bin_add, bin_sub, bin_mul, bin_or, bin_and, bin_seql, bin_sneq, runO_ge, e_call, e_store, e_alloc, e_box, e_app, e_s2b, gE_tt, gE_ff, gE_tf, gE_ft, gE_un, thenO_nil, thenO_some, still_free, runO_call, List.map_cons, List.map_nil, runO_store, storeO_ptr, storeC_var, setV_nil, setV_cons, oneV_int, oneV_bool, oneV_str, oneV_nilp, oneV_nili, oneV_ptr, oneV_elt, oneV_sl, oneV_fn, oneV_ifc, oneV_bs, cells_val, cells_ptr, cells_elt, cells_sl, cells_fn, cells_ifc, cells_agg, cells_bs, loadV_at, loadB_var, runO_alloc, runO_box, runO_s2b, runO_app, eval_sliceS, optEv_none, optEv_some, optV_int, lenV_bs, bin_beql, bin_bneq, partV_one, List.getElem?_cons_succ, List.getElem?_cons_zero, eval_idxA, eval_build, fillV_nil, fillV_val, fillV_bs, fillV_sl, fillV_ptr, fillV_elt, fillV_fn, fillV_ifc, map_agg, partV_some, List.length_cons, List.length_nil, List.drop_zero, List.drop_succ_cons, List.take_succ_cons, List.take_zero, List.take_nil, List.all_cons, List.all_nil, Bool.and_true, Bool.and_self, Nat.reduceAdd, Nat.reduceLeDiff, Nat.le_refl, reduceIte, and_self, and_true, true_and, eq_self, inBlockA_exit, Nat.reduceEqDiff]
  refine callS_of hd ?_ (fun x m' k => absurd k (hp x m'))
  intro x m' k
  simp only [awp_row, awp_seq, awp_ret, awp_exit, awp_block, awp_skip, awp_cond, condS_true, condS_false, thenA_normal, thenA_ret, thenA_exit, inBlockA_normal, inBlockA_ret, inBlockA_same, runO_nil, runO_q, runO_g, q_mov, q_pick, q_build, q_lits, q_load, q_nilc, q_bin, q_un, q_conv, q_b2s, q_mki, q_mkf, q_sliceS, q_sliceL, q_fieldA, q_field, q_idxA, q_idxL, q_idxStr, q_len, q_ext, gO_tt, gO_ff, gO_tf, gO_ft, gO_un, putO_some, putO_skip, tget_zero, tget_succ, tset_zero, tset_succ, ev_tmp, ev_const, ev_func, ofConst_int, ofConst_bool, ofConst_bs, ofConst_nilIface, ofConst_nilFunc, ofConst_pointer, ofConst_nilSlice, eval_mov, eval_pick, pickV_true, pickV_false, eval_bin, eval_un, unV_not, unV_neg, eval_load, loadV_elt, eval_nilc, nilcV_ptr, nilcV_elt, nilcV_fn, eval_mki, eval_mkf, eval_fieldA, fieldAV_ptr, fieldAV_elt, eval_field, fieldV_agg, eval_len, lenV_string, lenV_slice, eval_ext, extV_tup, eval_idxStr, eval_idxL, bin_eql, bin_neq, bin_lss, bin_leq, bin_gtr, bin_geq, bin_add, bin_sub, bin_mul, bin_or, bin_and, bin_seql, bin_sneq, runO_ge, e_call, e_store, e_alloc, e_box, e_app, e_s2b, gE_tt, gE_ff, gE_tf, gE_ft, gE_un, thenO_nil, thenO_some, still_free, runO_call, List.map_cons, List.map_nil, runO_store, storeO_ptr, storeC_var, setV_nil, setV_cons, oneV_int, oneV_bool, oneV_str, oneV_nilp, oneV_nili, oneV_ptr, oneV_elt, oneV_sl, oneV_fn, oneV_ifc, oneV_bs, cells_val, cells_ptr, cells_elt, cells_sl, cells_fn, cells_ifc, cells_agg, cells_bs, loadV_at, loadB_var, runO_alloc, runO_box, runO_s2b, runO_app, eval_sliceS, optEv_none, optEv_some, optV_int, lenV_bs, bin_beql, bin_bneq, partV_one, List.getElem?_cons_succ, List.getElem?_cons_zero, eval_idxA, eval_build, fillV_nil, fillV_val, fillV_bs, fillV_sl, fillV_ptr, fillV_elt, fillV_fn, fillV_ifc, map_agg, partV_some, List.length_cons, List.length_nil, List.drop_zero, List.drop_succ_cons, List.take_succ_cons, List.take_zero, List.take_nil, List.all_cons, List.all_nil, Bool.and_true, Bool.and_self, Nat.reduceAdd, Nat.reduceLeDiff, Nat.le_refl, reduceIte, and_self, and_true, true_and, eq_self, inBlockA_exit, Nat.reduceEqDiff]
  exact bodyA_ret resV_one ⟨x, rfl, k⟩
end
end Go.Av.Fn
