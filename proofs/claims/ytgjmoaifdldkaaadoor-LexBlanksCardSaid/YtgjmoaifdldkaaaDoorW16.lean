/- The program's row of tokens, handed to whoever ranges over it. No condition. -/
import Derived.Test.YtgjmoaifdldkaaaDoorW15
import Derived.Test.YtgjmoaifdldkaaaDoorW11
namespace Go.Av.Fn
set_option linter.unusedSimpArgs false
set_option linter.unusedVariables false
set_option maxRecDepth 10000
open Go.Proofs

theorem ayields_sub {P : Program} {Γ : Glob} {l : Nat} {args : List V} {mC S : Store} {R : Out → Store → Prop} (h : AYields P Γ l args mC R) (hs : ∀ b x, mC b = some x → S b = some x) :
    AYields P Γ l args S fun o S' => ∃ m', R o m' ∧ (∀ b x, m' b = some x → S' b = some x) ∧ (∀ b x, S b = some x → mC b = none → S' b = some x ∧ m' b = none) := by
  obtain ⟨F, hF⟩ : ∃ F : Store, (fun b => match mC b with | some _ => none | none => S b) = F := ⟨_, rfl⟩
  have e1 : mC.or F = S := by
    funext b
    rw [← hF]
    simp only [Store.or]
    cases hb : mC b with
    | some x => exact (hs b x hb).symm
    | none => rfl
  have e2 : Disj mC F := by
    intro b
    rw [← hF]
    cases hb : mC b with
    | some x => exact .inr (by simp only [hb])
    | none => exact .inl rfl
  have := h.frame e2
  rw [e1] at this
  refine this.mono ?_
  rintro o m'' ⟨m', rfl, hD, hR⟩
  refine ⟨m', hR, fun b x hb => or_left hb, fun b x hb hn => ?_⟩
  have hFb : F b = some x := by rw [← hF]; simp only [hn]; exact hb
  have hm : m' b = none := by
    rcases hD b with k | k
    · exact k
    · rw [hFb] at k; cases k
  exact ⟨by simp only [Store.or, hm, hFb], hm⟩

theorem skipL_le {r : List UInt8} {a l : Nat} : (skipL r a l).1 ≤ a + r.length ∧ (skipL r a l).2 + a ≤ l + (skipL r a l).1 := by
  fun_induction skipL r a l with
  | case1 r a l h ih =>
    have := pre_len h
    simp at this ih ⊢
    omega
  | case2 r a l h h2 ih =>
    have : 1 ≤ r.length := by
      rw [Bool.or_eq_true] at h2
      rcases h2 with h2 | h2
      · simpa using pre_len h2
      · simpa using pre_len h2
    simp at ih ⊢
    omega
  | case3 r a l h h2 h3 ih =>
    have := (List.takeWhile_sublist notNl (l := r)).length_le
    simp at ih ⊢
    omega
  | case4 r a l h h2 h3 => omega

theorem tokens_ok {Γ : Glob} {m : Store} {xb : Nat} : ACalls Tryd.prog Γ 9 [.ptr xb 0] m fun o m' => ∃ pb, m pb = none ∧ o = .ret (.fn (.func 12) [] [.ptr pb 0]) ∧ m' = m.set pb (.var 35 [.ptr xb 0]) := by
  refine acalls_of_awp mixed F9_ok (by rintro v m b x _ ⟨_, _, ⟨⟩, _⟩) ?_
  simp only [F9, start, List.cons_append, List.nil_append, List.length_cons, List.length_nil, List.replicate, Nat.reduceSub, Nat.reduceAdd]
  simp only [awp_row, awp_seq, awp_ret, awp_exit, awp_block, awp_skip, awp_cond, condS_true, condS_false, thenA_normal, thenA_ret, thenA_exit, inBlockA_normal, inBlockA_ret, inBlockA_same, runO_nil, runO_q, runO_g, q_mov, q_pick, q_build, q_lits, q_load, q_nilc, q_bin, q_un, q_conv, q_b2s, q_mki, q_mkf, q_sliceS, q_sliceL, q_fieldA, q_field, q_idxA, q_idxL, q_idxStr, q_len, q_ext, gO_tt, gO_ff, gO_tf, gO_ft, gO_un, putO_some, putO_skip, tget_zero, tget_succ, tset_zero, tset_succ, ev_tmp, ev_const, ev_func, ofConst_int, ofConst_bool, ofConst_bs, ofConst_nilIface, ofConst_nilFunc, ofConst_pointer, ofConst_nilSlice, eval_mov, eval_pick, pickV_true, pickV_false, eval_bin, eval_un, unV_not, unV_neg, eval_load, loadV_elt, eval_nilc, nilcV_ptr, nilcV_elt, nilcV_fn, eval_mki, eval_mkf, eval_fieldA, fieldAV_ptr, fieldAV_elt, eval_field, fieldV_agg, eval_len, lenV_string, lenV_slice, eval_ext, extV_tup, eval_idxStr, eval_idxL, bin_eql, bin_neq, bin_lss, bin_leq, bin_gtr, bin_geq, bin_add, bin_sub, bin_mul, bin_or, bin_and, bin_seql, bin_sneq, runO_ge, e_call, e_store, e_alloc, e_box, e_app, e_s2b, gE_tt, gE_ff, gE_tf, gE_ft, gE_un, thenO_nil, thenO_some, still_free, runO_call, List.map_cons, List.map_nil, runO_store, storeO_ptr, storeC_var, setV_nil, setV_cons, oneV_int, oneV_bool, oneV_str, oneV_nilp, oneV_nili, oneV_ptr, oneV_elt, oneV_sl, oneV_fn, oneV_ifc, oneV_bs, cells_val, cells_ptr, cells_elt, cells_sl, cells_fn, cells_ifc, cells_agg, cells_bs, loadV_at, loadB_var, runO_alloc, runO_box, runO_s2b, runO_app, eval_sliceS, optEv_none, optEv_some, optV_int, lenV_bs, bin_beql, bin_bneq, partV_one, List.getElem?_cons_succ, List.getElem?_cons_zero, eval_idxA, eval_build, fillV_nil, fillV_val, fillV_bs, fillV_sl, fillV_ptr, fillV_elt, fillV_fn, fillV_ifc, map_agg, partV_some, List.length_cons, List.length_nil, List.drop_zero, List.drop_succ_cons, List.take_succ_cons, List.take_zero, List.take_nil, List.all_cons, List.all_nil, Bool.and_true, Bool.and_self, Nat.reduceAdd, Nat.reduceLeDiff, Nat.le_refl, reduceIte, and_self, and_true, true_and, eq_self, inBlockA_exit, Nat.reduceEqDiff]
  refine allocS_of fun b hb => ?_
  simp only [awp_row, awp_seq, awp_ret, awp_exit, awp_block, awp_skip, awp_cond, condS_true, condS_false, thenA_normal, thenA_ret, thenA_exit, inBlockA_normal, inBlockA_ret, inBlockA_same, runO_nil, runO_q, runO_g, q_mov, q_pick, q_build, q_lits, q_load, q_nilc, q_bin, q_un, q_conv, q_b2s, q_mki, q_mkf, q_sliceS, q_sliceL, q_fieldA, q_field, q_idxA, q_idxL, q_idxStr, q_len, q_ext, gO_tt, gO_ff, gO_tf, gO_ft, gO_un, putO_some, putO_skip, tget_zero, tget_succ, tset_zero, tset_succ, ev_tmp, ev_const, ev_func, ofConst_int, ofConst_bool, ofConst_bs, ofConst_nilIface, ofConst_nilFunc, ofConst_pointer, ofConst_nilSlice, eval_mov, eval_pick, pickV_true, pickV_false, eval_bin, eval_un, unV_not, unV_neg, eval_load, loadV_elt, eval_nilc, nilcV_ptr, nilcV_elt, nilcV_fn, eval_mki, eval_mkf, eval_fieldA, fieldAV_ptr, fieldAV_elt, eval_field, fieldV_agg, eval_len, lenV_string, lenV_slice, eval_ext, extV_tup, eval_idxStr, eval_idxL, bin_eql, bin_neq, bin_lss, bin_leq, bin_gtr, bin_geq, bin_add, bin_sub, bin_mul, bin_or, bin_and, bin_seql, bin_sneq, runO_ge, e_call, e_store, e_alloc, e_box, e_app, e_s2b, gE_tt, gE_ff, gE_tf, gE_ft, gE_un, thenO_nil, thenO_some, still_free, runO_call, List.map_cons, List.map_nil, runO_store, storeO_ptr, storeC_var, setV_nil, setV_cons, oneV_int, oneV_bool, oneV_str, oneV_nilp, oneV_nili, oneV_ptr, oneV_elt, oneV_sl, oneV_fn, oneV_ifc, oneV_bs, cells_val, cells_ptr, cells_elt, cells_sl, cells_fn, cells_ifc, cells_agg, cells_bs, loadV_at, loadB_var, runO_alloc, runO_box, runO_s2b, runO_app, eval_sliceS, optEv_none, optEv_some, optV_int, lenV_bs, bin_beql, bin_bneq, partV_one, List.getElem?_cons_succ, List.getElem?_cons_zero, eval_idxA, eval_build, fillV_nil, fillV_val, fillV_bs, fillV_sl, fillV_ptr, fillV_elt, fillV_fn, fillV_ifc, map_agg, partV_some, List.length_cons, List.length_nil, List.drop_zero, List.drop_succ_cons, List.take_succ_cons, List.take_zero, List.take_nil, List.all_cons, List.all_nil, Bool.and_true, Bool.and_self, Nat.reduceAdd, Nat.reduceLeDiff, Nat.le_refl, reduceIte, and_self, and_true, true_and, eq_self, inBlockA_exit, Nat.reduceEqDiff]
  exact bodyA_ret resV_one ⟨b, hb, rfl, rfl⟩

def resOut (acc : List Tk) (a : Nat) (e : Int) : Except (Nat × Int) (List Tk) → Prop
  | .ok l => acc = l ∧ e = 0
  | .error (a', e') => a' = a ∧ e' = e ∧ e ≠ 0

/-- What stands behind the whole row. -/
def rowOut (J : List Tk → Store → Prop) (xb pb : Nat) (s : List UInt8) (o : Out) (m' : Store) : Prop :=
  o = .ret (.tup []) ∧ ∃ (acc : List Tk) (mC : Store) (a l : Nat) (e : Int), J acc mC ∧ mC xb = none ∧ mC pb = none ∧ m' = (mC.set pb (.var 35 [.ptr xb 0])).set xb (.var 37 [bs s, it a, it l, it e]) ∧
    resOut acc a e (scanL s 0 1 [])

theorem tokens1_ok {Γ : Glob} (L : LibOk Γ) (L2 : ParseOk Γ) (h0 : Γ 0 = some (wordsB.map bs)) (h1 : Γ 1 = some (signsB.map bs)) {y : Nat} {J : List Tk → Store → Prop} {xb pb : Nat} (hxp : xb ≠ pb) (s : List UInt8) (hs : s.length ≤ 4096)
    (hy : ∀ acc t mC, acc.length ≤ 4096 → J acc mC → AYields Tryd.prog Γ y [tkV t] mC fun o m' => o = .ret (.val (.bool true)) ∧ J (acc ++ [t]) m') {mC : Store} (hJ : J [] mC) (hx : mC xb = none) (hp : mC pb = none) :
    ACalls Tryd.prog Γ 12 [.fn (.yield y) [] [], .ptr pb 0] ((mC.set pb (.var 35 [.ptr xb 0])).set xb (.var 37 [bs s, it 0, it 1, it 0])) fun o m' => rowOut J xb pb s o m' := by
  refine acalls_of_awp mixed F12_ok (by
    rintro v m b x _ ⟨h, _⟩
    cases h) ?_
  simp only [F12, start, List.cons_append, List.nil_append, List.length_cons, List.length_nil, List.replicate, Nat.reduceSub, Nat.reduceAdd]
  simp only [awp_row, awp_seq, awp_ret, awp_exit, awp_block, awp_skip, awp_cond, condS_true, condS_false, thenA_normal, thenA_ret, thenA_exit, inBlockA_normal, inBlockA_ret, inBlockA_same, runO_nil, runO_q, runO_g, q_mov, q_pick, q_build, q_lits, q_load, q_nilc, q_bin, q_un, q_conv, q_b2s, q_mki, q_mkf, q_sliceS, q_sliceL, q_fieldA, q_field, q_idxA, q_idxL, q_idxStr, q_len, q_ext, gO_tt, gO_ff, gO_tf, gO_ft, gO_un, putO_some, putO_skip, tget_zero, tget_succ, tset_zero, tset_succ, ev_tmp, ev_const, ev_func, ofConst_int, ofConst_bool, ofConst_bs, ofConst_nilIface, ofConst_nilFunc, ofConst_pointer, ofConst_nilSlice, eval_mov, eval_pick, pickV_true, pickV_false, eval_bin, eval_un, unV_not, unV_neg, eval_load, loadV_elt, eval_nilc, nilcV_ptr, nilcV_elt, nilcV_fn, eval_mki, eval_mkf, eval_fieldA, fieldAV_ptr, fieldAV_elt, eval_field, fieldV_agg, eval_len, lenV_string, lenV_slice, eval_ext, extV_tup, eval_idxStr, eval_idxL, bin_eql, bin_neq, bin_lss, bin_leq, bin_gtr, bin_geq, bin_add, bin_sub, bin_mul, bin_or, bin_and, bin_seql, bin_sneq, runO_ge, e_call, e_store, e_alloc, e_box, e_app, e_s2b, gE_tt, gE_ff, gE_tf, gE_ft, gE_un, thenO_nil, thenO_some, still_free, runO_call, List.map_cons, List.map_nil, runO_store, storeO_ptr, storeC_var, setV_nil, setV_cons, oneV_int, oneV_bool, oneV_str, oneV_nilp, oneV_nili, oneV_ptr, oneV_elt, oneV_sl, oneV_fn, oneV_ifc, oneV_bs, cells_val, cells_ptr, cells_elt, cells_sl, cells_fn, cells_ifc, cells_agg, cells_bs, loadV_at, loadB_var, runO_alloc, runO_box, runO_s2b, runO_app, eval_sliceS, optEv_none, optEv_some, optV_int, lenV_bs, bin_beql, bin_bneq, partV_one, List.getElem?_cons_succ, List.getElem?_cons_zero, eval_idxA, eval_build, fillV_nil, fillV_val, fillV_bs, fillV_sl, fillV_ptr, fillV_elt, fillV_fn, fillV_ifc, map_agg, partV_some, List.length_cons, List.length_nil, List.drop_zero, List.drop_succ_cons, List.take_succ_cons, List.take_zero, List.take_nil, List.all_cons, List.all_nil, Bool.and_true, Bool.and_self, Nat.reduceAdd, Nat.reduceLeDiff, Nat.le_refl, reduceIte, and_self, and_true, true_and, eq_self, inBlockA_exit, Nat.reduceEqDiff]
  generalize hres : scanL s 0 1 [] = res
  -- the ends
  have fin : ∀ {t : List V} {S mC : Store} {acc : List Tk} {a l : Nat} {e : Int}, J acc mC → mC xb = none → mC pb = none → (∀ b x, mC b = some x → S b = some x) → S xb = some (.var 37 [bs s, it a, it l, it e]) → S pb = some (.var 35 [.ptr xb 0]) →
      resOut acc a e res → bodyA [] (fun o m' => rowOut J xb pb s o m') .ret ⟨t, S⟩ := by
    intro t S mC acc a l e k1 k2 k3 k4 k5 k6 k7
    refine bodyA_less (v := .tup []) (m' := (mC.set pb (.var 35 [.ptr xb 0])).set xb (.var 37 [bs s, it a, it l, it e])) rfl (fun c x hc => ?_) ⟨rfl, acc, mC, a, l, e, k1, k2, k3, rfl, by rw [hres]; exact k7⟩
    by_cases e1 : c = xb
    · subst e1; rw [Store.set_same] at hc; rw [k5]; exact hc
    · rw [Store.set_ne _ _ e1] at hc
      by_cases e2 : c = pb
      · subst e2; rw [Store.set_same] at hc; rw [k6]; exact hc
      · rw [Store.set_ne _ _ e2] at hc; exact k4 c x hc
  refine awp_loop (fun n st => ∃ (a l : Nat) (acc : List Tk) (mC : Store), n = s.length - a ∧ a ≤ s.length ∧ l ≤ a + 1 ∧ acc.length ≤ a ∧ scanL (s.drop a) a l acc = res ∧ J acc mC ∧ mC xb = none ∧ mC pb = none ∧ (∀ b x, mC b = some x → st.m b = some x) ∧ st.m xb = some (.var 37 [bs s, it a, it l, it 0]) ∧ st.m pb = some (.var 35 [.ptr xb 0]) ∧ st.t.length = 71 ∧ tget st.t 0 = .fn (.yield y) [] [] ∧ tget st.t 1 = .ptr pb 0)
    s.length ⟨0, 1, [], mC, rfl, by omega, by omega, by simp, hres, hJ, hx, hp, ?_, Store.set_same _ _ _, ?_, rfl, rfl, rfl⟩ ?_
  · intro b x hb
    have n1 : b ≠ xb := by rintro rfl; rw [hx] at hb; cases hb
    have n2 : b ≠ pb := by rintro rfl; rw [hp] at hb; cases hb
    show ((mC.set pb (.var 35 [.ptr xb 0])).set xb (.var 37 [bs s, it 0, it 1, it 0])) b = some x
    rw [Store.set_ne _ _ n1, Store.set_ne _ _ n2]
    exact hb
  · show ((mC.set pb (.var 35 [.ptr xb 0])).set xb (.var 37 [bs s, it 0, it 1, it 0])) pb = _
    rw [Store.set_ne _ _ (fun e => hxp e.symm), Store.set_same]
  clear hJ hx hp mC
  rintro n ⟨t, S⟩ ⟨a, l, acc, mC, hn, ha, hl, hacc, hres2, hJ, hx, hp, hsub, hX, hP, hlen, ht0, ht1⟩
  simp only at hsub hX hP hlen ht0 ht1
  rw [t_eq hlen]
  simp only [upTo_succ, upTo_zero, Nat.reduceAdd, ht0, ht1]
  simp only [hP, awp_row, awp_seq, awp_ret, awp_exit, awp_block, awp_skip, awp_cond, condS_true, condS_false, thenA_normal, thenA_ret, thenA_exit, inBlockA_normal, inBlockA_ret, inBlockA_same, runO_nil, runO_q, runO_g, q_mov, q_pick, q_build, q_lits, q_load, q_nilc, q_bin, q_un, q_conv, q_b2s, q_mki, q_mkf, q_sliceS, q_sliceL, q_fieldA, q_field, q_idxA, q_idxL, q_idxStr, q_len, q_ext, gO_tt, gO_ff, gO_tf, gO_ft, gO_un, putO_some, putO_skip, tget_zero, tget_succ, tset_zero, tset_succ, ev_tmp, ev_const, ev_func, ofConst_int, ofConst_bool, ofConst_bs, ofConst_nilIface, ofConst_nilFunc, ofConst_pointer, ofConst_nilSlice, eval_mov, eval_pick, pickV_true, pickV_false, eval_bin, eval_un, unV_not, unV_neg, eval_load, loadV_elt, eval_nilc, nilcV_ptr, nilcV_elt, nilcV_fn, eval_mki, eval_mkf, eval_fieldA, fieldAV_ptr, fieldAV_elt, eval_field, fieldV_agg, eval_len, lenV_string, lenV_slice, eval_ext, extV_tup, eval_idxStr, eval_idxL, bin_eql, bin_neq, bin_lss, bin_leq, bin_gtr, bin_geq, bin_add, bin_sub, bin_mul, bin_or, bin_and, bin_seql, bin_sneq, runO_ge, e_call, e_store, e_alloc, e_box, e_app, e_s2b, gE_tt, gE_ff, gE_tf, gE_ft, gE_un, thenO_nil, thenO_some, still_free, runO_call, List.map_cons, List.map_nil, runO_store, storeO_ptr, storeC_var, setV_nil, setV_cons, oneV_int, oneV_bool, oneV_str, oneV_nilp, oneV_nili, oneV_ptr, oneV_elt, oneV_sl, oneV_fn, oneV_ifc, oneV_bs, cells_val, cells_ptr, cells_elt, cells_sl, cells_fn, cells_ifc, cells_agg, cells_bs, loadV_at, loadB_var, runO_alloc, runO_box, runO_s2b, runO_app, eval_sliceS, optEv_none, optEv_some, optV_int, lenV_bs, bin_beql, bin_bneq, partV_one, List.getElem?_cons_succ, List.getElem?_cons_zero, eval_idxA, eval_build, fillV_nil, fillV_val, fillV_bs, fillV_sl, fillV_ptr, fillV_elt, fillV_fn, fillV_ifc, map_agg, partV_some, List.length_cons, List.length_nil, List.drop_zero, List.drop_succ_cons, List.take_succ_cons, List.take_zero, List.take_nil, List.all_cons, List.all_nil, Bool.and_true, Bool.and_self, Nat.reduceAdd, Nat.reduceLeDiff, Nat.le_refl, reduceIte, and_self, and_true, true_and, eq_self, inBlockA_exit, Nat.reduceEqDiff]
  refine callS_to (skip_ok s a l ha (by omega) hX) ?_
  obtain ⟨q1, q2⟩ := skipL_le (r := s.drop a) (a := a) (l := l)
  have q3 := skipL_ge (r := s.drop a) (a := a) (l := l)
  rw [List.length_drop] at q1
  have hN : scanN (s.drop (skipL (s.drop a) a l).1) (skipL (s.drop a) a l) acc = res := by
    rw [← hres2, scanL_eq, List.drop_drop]
    congr 2
    omega
  generalize hsk : skipL (s.drop a) a l = sk at q1 q2 q3 hN
  obtain ⟨a1, l1⟩ := sk
  simp only at q1 q2 q3 hN
  obtain ⟨S1, hS1⟩ : ∃ S1, S.set xb (.var 37 [bs s, it a1, it l1, it 0]) = S1 := ⟨_, rfl⟩
  have hX1 : S1 xb = some (.var 37 [bs s, it a1, it l1, it 0]) := by rw [← hS1]; exact Store.set_same _ _ _
  have hP1 : S1 pb = some (.var 35 [.ptr xb 0]) := by rw [← hS1, Store.set_ne _ _ (fun e => hxp e.symm)]; exact hP
  have hsub1 : ∀ b x, mC b = some x → S1 b = some x := by
    intro b x hb
    rw [← hS1, Store.set_ne _ _ (by rintro rfl; rw [hx] at hb; cases hb)]
    exact hsub b x hb
  rw [hS1]
  simp only [hX1, hP1, lenV_bs, awp_row, awp_seq, awp_ret, awp_exit, awp_block, awp_skip, awp_cond, condS_true, condS_false, thenA_normal, thenA_ret, thenA_exit, inBlockA_normal, inBlockA_ret, inBlockA_same, runO_nil, runO_q, runO_g, q_mov, q_pick, q_build, q_lits, q_load, q_nilc, q_bin, q_un, q_conv, q_b2s, q_mki, q_mkf, q_sliceS, q_sliceL, q_fieldA, q_field, q_idxA, q_idxL, q_idxStr, q_len, q_ext, gO_tt, gO_ff, gO_tf, gO_ft, gO_un, putO_some, putO_skip, tget_zero, tget_succ, tset_zero, tset_succ, ev_tmp, ev_const, ev_func, ofConst_int, ofConst_bool, ofConst_bs, ofConst_nilIface, ofConst_nilFunc, ofConst_pointer, ofConst_nilSlice, eval_mov, eval_pick, pickV_true, pickV_false, eval_bin, eval_un, unV_not, unV_neg, eval_load, loadV_elt, eval_nilc, nilcV_ptr, nilcV_elt, nilcV_fn, eval_mki, eval_mkf, eval_fieldA, fieldAV_ptr, fieldAV_elt, eval_field, fieldV_agg, eval_len, lenV_string, lenV_slice, eval_ext, extV_tup, eval_idxStr, eval_idxL, bin_eql, bin_neq, bin_lss, bin_leq, bin_gtr, bin_geq, bin_add, bin_sub, bin_mul, bin_or, bin_and, bin_seql, bin_sneq, runO_ge, e_call, e_store, e_alloc, e_box, e_app, e_s2b, gE_tt, gE_ff, gE_tf, gE_ft, gE_un, thenO_nil, thenO_some, still_free, runO_call, List.map_cons, List.map_nil, runO_store, storeO_ptr, storeC_var, setV_nil, setV_cons, oneV_int, oneV_bool, oneV_str, oneV_nilp, oneV_nili, oneV_ptr, oneV_elt, oneV_sl, oneV_fn, oneV_ifc, oneV_bs, cells_val, cells_ptr, cells_elt, cells_sl, cells_fn, cells_ifc, cells_agg, cells_bs, loadV_at, loadB_var, runO_alloc, runO_box, runO_s2b, runO_app, eval_sliceS, optEv_none, optEv_some, optV_int, lenV_bs, bin_beql, bin_bneq, partV_one, List.getElem?_cons_succ, List.getElem?_cons_zero, eval_idxA, eval_build, fillV_nil, fillV_val, fillV_bs, fillV_sl, fillV_ptr, fillV_elt, fillV_fn, fillV_ifc, map_agg, partV_some, List.length_cons, List.length_nil, List.drop_zero, List.drop_succ_cons, List.take_succ_cons, List.take_zero, List.take_nil, List.all_cons, List.all_nil, Bool.and_true, Bool.and_self, Nat.reduceAdd, Nat.reduceLeDiff, Nat.le_refl, reduceIte, and_self, and_true, true_and, eq_self, inBlockA_exit, Nat.reduceEqDiff]
  refine condS_split (fun h => ?_) (fun h => ?_)
  · -- the end
    have he : a1 = s.length := by have := eq_of_beq h; omega
    simp only [hX1, hP1, awp_row, awp_seq, awp_ret, awp_exit, awp_block, awp_skip, awp_cond, condS_true, condS_false, thenA_normal, thenA_ret, thenA_exit, inBlockA_normal, inBlockA_ret, inBlockA_same, runO_nil, runO_q, runO_g, q_mov, q_pick, q_build, q_lits, q_load, q_nilc, q_bin, q_un, q_conv, q_b2s, q_mki, q_mkf, q_sliceS, q_sliceL, q_fieldA, q_field, q_idxA, q_idxL, q_idxStr, q_len, q_ext, gO_tt, gO_ff, gO_tf, gO_ft, gO_un, putO_some, putO_skip, tget_zero, tget_succ, tset_zero, tset_succ, ev_tmp, ev_const, ev_func, ofConst_int, ofConst_bool, ofConst_bs, ofConst_nilIface, ofConst_nilFunc, ofConst_pointer, ofConst_nilSlice, eval_mov, eval_pick, pickV_true, pickV_false, eval_bin, eval_un, unV_not, unV_neg, eval_load, loadV_elt, eval_nilc, nilcV_ptr, nilcV_elt, nilcV_fn, eval_mki, eval_mkf, eval_fieldA, fieldAV_ptr, fieldAV_elt, eval_field, fieldV_agg, eval_len, lenV_string, lenV_slice, eval_ext, extV_tup, eval_idxStr, eval_idxL, bin_eql, bin_neq, bin_lss, bin_leq, bin_gtr, bin_geq, bin_add, bin_sub, bin_mul, bin_or, bin_and, bin_seql, bin_sneq, runO_ge, e_call, e_store, e_alloc, e_box, e_app, e_s2b, gE_tt, gE_ff, gE_tf, gE_ft, gE_un, thenO_nil, thenO_some, still_free, runO_call, List.map_cons, List.map_nil, runO_store, storeO_ptr, storeC_var, setV_nil, setV_cons, oneV_int, oneV_bool, oneV_str, oneV_nilp, oneV_nili, oneV_ptr, oneV_elt, oneV_sl, oneV_fn, oneV_ifc, oneV_bs, cells_val, cells_ptr, cells_elt, cells_sl, cells_fn, cells_ifc, cells_agg, cells_bs, loadV_at, loadB_var, runO_alloc, runO_box, runO_s2b, runO_app, eval_sliceS, optEv_none, optEv_some, optV_int, lenV_bs, bin_beql, bin_bneq, partV_one, List.getElem?_cons_succ, List.getElem?_cons_zero, eval_idxA, eval_build, fillV_nil, fillV_val, fillV_bs, fillV_sl, fillV_ptr, fillV_elt, fillV_fn, fillV_ifc, map_agg, partV_some, List.length_cons, List.length_nil, List.drop_zero, List.drop_succ_cons, List.take_succ_cons, List.take_zero, List.take_nil, List.all_cons, List.all_nil, Bool.and_true, Bool.and_self, Nat.reduceAdd, Nat.reduceLeDiff, Nat.le_refl, reduceIte, and_self, and_true, true_and, eq_self, inBlockA_exit, Nat.reduceEqDiff]
    refine callS_yield (ayields_sub (hy acc ⟨0, [], 0, l1, a1⟩ mC (by omega) hJ) hsub1) ?_ (by rintro v m' ⟨_, ⟨⟨⟩, _⟩, _⟩)
    rintro v S2 ⟨mC2, ⟨hv, hJ2⟩, hsub2, hkeep⟩
    cases hv
    simp only [awp_row, awp_seq, awp_ret, awp_exit, awp_block, awp_skip, awp_cond, condS_true, condS_false, thenA_normal, thenA_ret, thenA_exit, inBlockA_normal, inBlockA_ret, inBlockA_same, runO_nil, runO_q, runO_g, q_mov, q_pick, q_build, q_lits, q_load, q_nilc, q_bin, q_un, q_conv, q_b2s, q_mki, q_mkf, q_sliceS, q_sliceL, q_fieldA, q_field, q_idxA, q_idxL, q_idxStr, q_len, q_ext, gO_tt, gO_ff, gO_tf, gO_ft, gO_un, putO_some, putO_skip, tget_zero, tget_succ, tset_zero, tset_succ, ev_tmp, ev_const, ev_func, ofConst_int, ofConst_bool, ofConst_bs, ofConst_nilIface, ofConst_nilFunc, ofConst_pointer, ofConst_nilSlice, eval_mov, eval_pick, pickV_true, pickV_false, eval_bin, eval_un, unV_not, unV_neg, eval_load, loadV_elt, eval_nilc, nilcV_ptr, nilcV_elt, nilcV_fn, eval_mki, eval_mkf, eval_fieldA, fieldAV_ptr, fieldAV_elt, eval_field, fieldV_agg, eval_len, lenV_string, lenV_slice, eval_ext, extV_tup, eval_idxStr, eval_idxL, bin_eql, bin_neq, bin_lss, bin_leq, bin_gtr, bin_geq, bin_add, bin_sub, bin_mul, bin_or, bin_and, bin_seql, bin_sneq, runO_ge, e_call, e_store, e_alloc, e_box, e_app, e_s2b, gE_tt, gE_ff, gE_tf, gE_ft, gE_un, thenO_nil, thenO_some, still_free, runO_call, List.map_cons, List.map_nil, runO_store, storeO_ptr, storeC_var, setV_nil, setV_cons, oneV_int, oneV_bool, oneV_str, oneV_nilp, oneV_nili, oneV_ptr, oneV_elt, oneV_sl, oneV_fn, oneV_ifc, oneV_bs, cells_val, cells_ptr, cells_elt, cells_sl, cells_fn, cells_ifc, cells_agg, cells_bs, loadV_at, loadB_var, runO_alloc, runO_box, runO_s2b, runO_app, eval_sliceS, optEv_none, optEv_some, optV_int, lenV_bs, bin_beql, bin_bneq, partV_one, List.getElem?_cons_succ, List.getElem?_cons_zero, eval_idxA, eval_build, fillV_nil, fillV_val, fillV_bs, fillV_sl, fillV_ptr, fillV_elt, fillV_fn, fillV_ifc, map_agg, partV_some, List.length_cons, List.length_nil, List.drop_zero, List.drop_succ_cons, List.take_succ_cons, List.take_zero, List.take_nil, List.all_cons, List.all_nil, Bool.and_true, Bool.and_self, Nat.reduceAdd, Nat.reduceLeDiff, Nat.le_refl, reduceIte, and_self, and_true, true_and, eq_self, inBlockA_exit, Nat.reduceEqDiff]
    refine fin hJ2 (hkeep _ _ hX1 hx).2 (hkeep _ _ hP1 hp).2 hsub2 (hkeep _ _ hX1 hx).1 (hkeep _ _ hP1 hp).1 ?_
    rw [← hN, he, List.drop_length]
    exact ⟨rfl, rfl⟩
  · have hlt : a1 < s.length := by
      have : ¬ a1 = s.length := by
        intro e
        rw [e] at h
        simp at h
      omega
    have hcut : sliceSV (bs s) (some (some (a1 : Int))) (some none) = some (bs (s.drop a1)) := slice_from (by omega)
    have hdne : s.drop a1 ≠ [] := by
      intro e
      have := congrArg List.length e
      simp at this
      omega
    simp only [hX1, hP1, hcut, awp_row, awp_seq, awp_ret, awp_exit, awp_block, awp_skip, awp_cond, condS_true, condS_false, thenA_normal, thenA_ret, thenA_exit, inBlockA_normal, inBlockA_ret, inBlockA_same, runO_nil, runO_q, runO_g, q_mov, q_pick, q_build, q_lits, q_load, q_nilc, q_bin, q_un, q_conv, q_b2s, q_mki, q_mkf, q_sliceS, q_sliceL, q_fieldA, q_field, q_idxA, q_idxL, q_idxStr, q_len, q_ext, gO_tt, gO_ff, gO_tf, gO_ft, gO_un, putO_some, putO_skip, tget_zero, tget_succ, tset_zero, tset_succ, ev_tmp, ev_const, ev_func, ofConst_int, ofConst_bool, ofConst_bs, ofConst_nilIface, ofConst_nilFunc, ofConst_pointer, ofConst_nilSlice, eval_mov, eval_pick, pickV_true, pickV_false, eval_bin, eval_un, unV_not, unV_neg, eval_load, loadV_elt, eval_nilc, nilcV_ptr, nilcV_elt, nilcV_fn, eval_mki, eval_mkf, eval_fieldA, fieldAV_ptr, fieldAV_elt, eval_field, fieldV_agg, eval_len, lenV_string, lenV_slice, eval_ext, extV_tup, eval_idxStr, eval_idxL, bin_eql, bin_neq, bin_lss, bin_leq, bin_gtr, bin_geq, bin_add, bin_sub, bin_mul, bin_or, bin_and, bin_seql, bin_sneq, runO_ge, e_call, e_store, e_alloc, e_box, e_app, e_s2b, gE_tt, gE_ff, gE_tf, gE_ft, gE_un, thenO_nil, thenO_some, still_free, runO_call, List.map_cons, List.map_nil, runO_store, storeO_ptr, storeC_var, setV_nil, setV_cons, oneV_int, oneV_bool, oneV_str, oneV_nilp, oneV_nili, oneV_ptr, oneV_elt, oneV_sl, oneV_fn, oneV_ifc, oneV_bs, cells_val, cells_ptr, cells_elt, cells_sl, cells_fn, cells_ifc, cells_agg, cells_bs, loadV_at, loadB_var, runO_alloc, runO_box, runO_s2b, runO_app, eval_sliceS, optEv_none, optEv_some, optV_int, lenV_bs, bin_beql, bin_bneq, partV_one, List.getElem?_cons_succ, List.getElem?_cons_zero, eval_idxA, eval_build, fillV_nil, fillV_val, fillV_bs, fillV_sl, fillV_ptr, fillV_elt, fillV_fn, fillV_ifc, map_agg, partV_some, List.length_cons, List.length_nil, List.drop_zero, List.drop_succ_cons, List.take_succ_cons, List.take_zero, List.take_nil, List.all_cons, List.all_nil, Bool.and_true, Bool.and_self, Nat.reduceAdd, Nat.reduceLeDiff, Nat.le_refl, reduceIte, and_self, and_true, true_and, eq_self, inBlockA_exit, Nat.reduceEqDiff]
    refine callS_of (token_ok L L2 h0 h1 (s.drop a1) (by simp; omega) hdne hX1) ?_ (by
      rintro v m' h
      exfalso
      unfold tokP at h
      split at h
      · cases h.1
      · obtain ⟨⟨_, _, h⟩, _⟩ := h
        cases h)
    intro v S2 hv
    unfold scanN at hN
    cases htok : tokL (s.drop a1) with
    | error er =>
      rw [htok] at hv hN
      simp only [if_neg hdne] at hN
      obtain ⟨⟨tk, k, hv⟩, hne0, rfl⟩ := hv
      cases hv
      obtain ⟨S2, hS2⟩ : ∃ S2, S1.set xb (.var 37 [bs s, it a1, it l1, it er]) = S2 := ⟨_, rfl⟩
      have hX2 : S2 xb = some (.var 37 [bs s, it a1, it l1, it er]) := by rw [← hS2]; exact Store.set_same _ _ _
      have hP2 : S2 pb = some (.var 35 [.ptr xb 0]) := by rw [← hS2, Store.set_ne _ _ (fun e => hxp e.symm)]; exact hP1
      have hsub2 : ∀ b x, mC b = some x → S2 b = some x := by
        intro b x hb
        rw [← hS2, Store.set_ne _ _ (by rintro rfl; rw [hx] at hb; cases hb)]
        exact hsub1 b x hb
      rw [hS2]
      simp only [tkV, awp_row, awp_seq, awp_ret, awp_exit, awp_block, awp_skip, awp_cond, condS_true, condS_false, thenA_normal, thenA_ret, thenA_exit, inBlockA_normal, inBlockA_ret, inBlockA_same, runO_nil, runO_q, runO_g, q_mov, q_pick, q_build, q_lits, q_load, q_nilc, q_bin, q_un, q_conv, q_b2s, q_mki, q_mkf, q_sliceS, q_sliceL, q_fieldA, q_field, q_idxA, q_idxL, q_idxStr, q_len, q_ext, gO_tt, gO_ff, gO_tf, gO_ft, gO_un, putO_some, putO_skip, tget_zero, tget_succ, tset_zero, tset_succ, ev_tmp, ev_const, ev_func, ofConst_int, ofConst_bool, ofConst_bs, ofConst_nilIface, ofConst_nilFunc, ofConst_pointer, ofConst_nilSlice, eval_mov, eval_pick, pickV_true, pickV_false, eval_bin, eval_un, unV_not, unV_neg, eval_load, loadV_elt, eval_nilc, nilcV_ptr, nilcV_elt, nilcV_fn, eval_mki, eval_mkf, eval_fieldA, fieldAV_ptr, fieldAV_elt, eval_field, fieldV_agg, eval_len, lenV_string, lenV_slice, eval_ext, extV_tup, eval_idxStr, eval_idxL, bin_eql, bin_neq, bin_lss, bin_leq, bin_gtr, bin_geq, bin_add, bin_sub, bin_mul, bin_or, bin_and, bin_seql, bin_sneq, runO_ge, e_call, e_store, e_alloc, e_box, e_app, e_s2b, gE_tt, gE_ff, gE_tf, gE_ft, gE_un, thenO_nil, thenO_some, still_free, runO_call, List.map_cons, List.map_nil, runO_store, storeO_ptr, storeC_var, setV_nil, setV_cons, oneV_int, oneV_bool, oneV_str, oneV_nilp, oneV_nili, oneV_ptr, oneV_elt, oneV_sl, oneV_fn, oneV_ifc, oneV_bs, cells_val, cells_ptr, cells_elt, cells_sl, cells_fn, cells_ifc, cells_agg, cells_bs, loadV_at, loadB_var, runO_alloc, runO_box, runO_s2b, runO_app, eval_sliceS, optEv_none, optEv_some, optV_int, lenV_bs, bin_beql, bin_bneq, partV_one, List.getElem?_cons_succ, List.getElem?_cons_zero, eval_idxA, eval_build, fillV_nil, fillV_val, fillV_bs, fillV_sl, fillV_ptr, fillV_elt, fillV_fn, fillV_ifc, map_agg, partV_some, List.length_cons, List.length_nil, List.drop_zero, List.drop_succ_cons, List.take_succ_cons, List.take_zero, List.take_nil, List.all_cons, List.all_nil, Bool.and_true, Bool.and_self, Nat.reduceAdd, Nat.reduceLeDiff, Nat.le_refl, reduceIte, and_self, and_true, true_and, eq_self, inBlockA_exit, Nat.reduceEqDiff]
      refine allocS_of fun b hb => ?_
      have n1 : xb ≠ b := by rintro rfl; rw [hX2] at hb; cases hb
      have n2 : pb ≠ b := by rintro rfl; rw [hP2] at hb; cases hb
      have hbx : ∀ m' x, (Store.set m' b x) xb = m' xb := fun m' x => Store.set_ne m' x n1
      have hbp : ∀ m' x, (Store.set m' b x) pb = m' pb := fun m' x => Store.set_ne m' x n2
      have hne1 : ((er : Int) != 0) = true := by simpa using hne0
      simp only [Store.set_same, Store.set_set, hbx, hbp, hX2, hP2, hne1, awp_row, awp_seq, awp_ret, awp_exit, awp_block, awp_skip, awp_cond, condS_true, condS_false, thenA_normal, thenA_ret, thenA_exit, inBlockA_normal, inBlockA_ret, inBlockA_same, runO_nil, runO_q, runO_g, q_mov, q_pick, q_build, q_lits, q_load, q_nilc, q_bin, q_un, q_conv, q_b2s, q_mki, q_mkf, q_sliceS, q_sliceL, q_fieldA, q_field, q_idxA, q_idxL, q_idxStr, q_len, q_ext, gO_tt, gO_ff, gO_tf, gO_ft, gO_un, putO_some, putO_skip, tget_zero, tget_succ, tset_zero, tset_succ, ev_tmp, ev_const, ev_func, ofConst_int, ofConst_bool, ofConst_bs, ofConst_nilIface, ofConst_nilFunc, ofConst_pointer, ofConst_nilSlice, eval_mov, eval_pick, pickV_true, pickV_false, eval_bin, eval_un, unV_not, unV_neg, eval_load, loadV_elt, eval_nilc, nilcV_ptr, nilcV_elt, nilcV_fn, eval_mki, eval_mkf, eval_fieldA, fieldAV_ptr, fieldAV_elt, eval_field, fieldV_agg, eval_len, lenV_string, lenV_slice, eval_ext, extV_tup, eval_idxStr, eval_idxL, bin_eql, bin_neq, bin_lss, bin_leq, bin_gtr, bin_geq, bin_add, bin_sub, bin_mul, bin_or, bin_and, bin_seql, bin_sneq, runO_ge, e_call, e_store, e_alloc, e_box, e_app, e_s2b, gE_tt, gE_ff, gE_tf, gE_ft, gE_un, thenO_nil, thenO_some, still_free, runO_call, List.map_cons, List.map_nil, runO_store, storeO_ptr, storeC_var, setV_nil, setV_cons, oneV_int, oneV_bool, oneV_str, oneV_nilp, oneV_nili, oneV_ptr, oneV_elt, oneV_sl, oneV_fn, oneV_ifc, oneV_bs, cells_val, cells_ptr, cells_elt, cells_sl, cells_fn, cells_ifc, cells_agg, cells_bs, loadV_at, loadB_var, runO_alloc, runO_box, runO_s2b, runO_app, eval_sliceS, optEv_none, optEv_some, optV_int, lenV_bs, bin_beql, bin_bneq, partV_one, List.getElem?_cons_succ, List.getElem?_cons_zero, eval_idxA, eval_build, fillV_nil, fillV_val, fillV_bs, fillV_sl, fillV_ptr, fillV_elt, fillV_fn, fillV_ifc, map_agg, partV_some, List.length_cons, List.length_nil, List.drop_zero, List.drop_succ_cons, List.take_succ_cons, List.take_zero, List.take_nil, List.all_cons, List.all_nil, Bool.and_true, Bool.and_self, Nat.reduceAdd, Nat.reduceLeDiff, Nat.le_refl, reduceIte, and_self, and_true, true_and, eq_self, inBlockA_exit, Nat.reduceEqDiff]
      refine fin hJ hx hp (fun c x hc => ?_) (by rw [hbx]; exact hX2) (by rw [hbp]; exact hP2) (by rw [← hN]; exact ⟨rfl, rfl, hne0⟩)
      rw [Store.set_ne _ _ (by rintro rfl; rw [hsub2 _ _ hc] at hb; cases hb)]
      exact hsub2 c x hc
    | ok x =>
      obtain ⟨tk, k⟩ := x
      rw [htok] at hv hN
      simp only at hN
      obtain ⟨hv, rfl⟩ := hv
      cases hv
      simp only [tkV, awp_row, awp_seq, awp_ret, awp_exit, awp_block, awp_skip, awp_cond, condS_true, condS_false, thenA_normal, thenA_ret, thenA_exit, inBlockA_normal, inBlockA_ret, inBlockA_same, runO_nil, runO_q, runO_g, q_mov, q_pick, q_build, q_lits, q_load, q_nilc, q_bin, q_un, q_conv, q_b2s, q_mki, q_mkf, q_sliceS, q_sliceL, q_fieldA, q_field, q_idxA, q_idxL, q_idxStr, q_len, q_ext, gO_tt, gO_ff, gO_tf, gO_ft, gO_un, putO_some, putO_skip, tget_zero, tget_succ, tset_zero, tset_succ, ev_tmp, ev_const, ev_func, ofConst_int, ofConst_bool, ofConst_bs, ofConst_nilIface, ofConst_nilFunc, ofConst_pointer, ofConst_nilSlice, eval_mov, eval_pick, pickV_true, pickV_false, eval_bin, eval_un, unV_not, unV_neg, eval_load, loadV_elt, eval_nilc, nilcV_ptr, nilcV_elt, nilcV_fn, eval_mki, eval_mkf, eval_fieldA, fieldAV_ptr, fieldAV_elt, eval_field, fieldV_agg, eval_len, lenV_string, lenV_slice, eval_ext, extV_tup, eval_idxStr, eval_idxL, bin_eql, bin_neq, bin_lss, bin_leq, bin_gtr, bin_geq, bin_add, bin_sub, bin_mul, bin_or, bin_and, bin_seql, bin_sneq, runO_ge, e_call, e_store, e_alloc, e_box, e_app, e_s2b, gE_tt, gE_ff, gE_tf, gE_ft, gE_un, thenO_nil, thenO_some, still_free, runO_call, List.map_cons, List.map_nil, runO_store, storeO_ptr, storeC_var, setV_nil, setV_cons, oneV_int, oneV_bool, oneV_str, oneV_nilp, oneV_nili, oneV_ptr, oneV_elt, oneV_sl, oneV_fn, oneV_ifc, oneV_bs, cells_val, cells_ptr, cells_elt, cells_sl, cells_fn, cells_ifc, cells_agg, cells_bs, loadV_at, loadB_var, runO_alloc, runO_box, runO_s2b, runO_app, eval_sliceS, optEv_none, optEv_some, optV_int, lenV_bs, bin_beql, bin_bneq, partV_one, List.getElem?_cons_succ, List.getElem?_cons_zero, eval_idxA, eval_build, fillV_nil, fillV_val, fillV_bs, fillV_sl, fillV_ptr, fillV_elt, fillV_fn, fillV_ifc, map_agg, partV_some, List.length_cons, List.length_nil, List.drop_zero, List.drop_succ_cons, List.take_succ_cons, List.take_zero, List.take_nil, List.all_cons, List.all_nil, Bool.and_true, Bool.and_self, Nat.reduceAdd, Nat.reduceLeDiff, Nat.le_refl, reduceIte, and_self, and_true, true_and, eq_self, inBlockA_exit, Nat.reduceEqDiff]
      refine allocS_of fun b hb => ?_
      have n1 : xb ≠ b := by rintro rfl; rw [hX1] at hb; cases hb
      have n2 : pb ≠ b := by rintro rfl; rw [hP1] at hb; cases hb
      have hbx : ∀ m' x, (Store.set m' b x) xb = m' xb := fun m' x => Store.set_ne m' x n1
      have hbp : ∀ m' x, (Store.set m' b x) pb = m' pb := fun m' x => Store.set_ne m' x n2
      have hne1 : ((0 : Int) != 0) = false := rfl
      simp only [Store.set_same, Store.set_set, hbx, hbp, hX1, hP1, hne1, awp_row, awp_seq, awp_ret, awp_exit, awp_block, awp_skip, awp_cond, condS_true, condS_false, thenA_normal, thenA_ret, thenA_exit, inBlockA_normal, inBlockA_ret, inBlockA_same, runO_nil, runO_q, runO_g, q_mov, q_pick, q_build, q_lits, q_load, q_nilc, q_bin, q_un, q_conv, q_b2s, q_mki, q_mkf, q_sliceS, q_sliceL, q_fieldA, q_field, q_idxA, q_idxL, q_idxStr, q_len, q_ext, gO_tt, gO_ff, gO_tf, gO_ft, gO_un, putO_some, putO_skip, tget_zero, tget_succ, tset_zero, tset_succ, ev_tmp, ev_const, ev_func, ofConst_int, ofConst_bool, ofConst_bs, ofConst_nilIface, ofConst_nilFunc, ofConst_pointer, ofConst_nilSlice, eval_mov, eval_pick, pickV_true, pickV_false, eval_bin, eval_un, unV_not, unV_neg, eval_load, loadV_elt, eval_nilc, nilcV_ptr, nilcV_elt, nilcV_fn, eval_mki, eval_mkf, eval_fieldA, fieldAV_ptr, fieldAV_elt, eval_field, fieldV_agg, eval_len, lenV_string, lenV_slice, eval_ext, extV_tup, eval_idxStr, eval_idxL, bin_eql, bin_neq, bin_lss, bin_leq, bin_gtr, bin_geq, bin_add, bin_sub, bin_mul, bin_or, bin_and, bin_seql, bin_sneq, runO_ge, e_call, e_store, e_alloc, e_box, e_app, e_s2b, gE_tt, gE_ff, gE_tf, gE_ft, gE_un, thenO_nil, thenO_some, still_free, runO_call, List.map_cons, List.map_nil, runO_store, storeO_ptr, storeC_var, setV_nil, setV_cons, oneV_int, oneV_bool, oneV_str, oneV_nilp, oneV_nili, oneV_ptr, oneV_elt, oneV_sl, oneV_fn, oneV_ifc, oneV_bs, cells_val, cells_ptr, cells_elt, cells_sl, cells_fn, cells_ifc, cells_agg, cells_bs, loadV_at, loadB_var, runO_alloc, runO_box, runO_s2b, runO_app, eval_sliceS, optEv_none, optEv_some, optV_int, lenV_bs, bin_beql, bin_bneq, partV_one, List.getElem?_cons_succ, List.getElem?_cons_zero, eval_idxA, eval_build, fillV_nil, fillV_val, fillV_bs, fillV_sl, fillV_ptr, fillV_elt, fillV_fn, fillV_ifc, map_agg, partV_some, List.length_cons, List.length_nil, List.drop_zero, List.drop_succ_cons, List.take_succ_cons, List.take_zero, List.take_nil, List.all_cons, List.all_nil, Bool.and_true, Bool.and_self, Nat.reduceAdd, Nat.reduceLeDiff, Nat.le_refl, reduceIte, and_self, and_true, true_and, eq_self, inBlockA_exit, Nat.reduceEqDiff]
      have htl := tokL_len htok
      rw [List.length_drop] at htl
      have hsub2 : ∀ c x, mC c = some x → (S2.set b (.var 33 [it tk.k, bs tk.s, it tk.n, it l1, it a1])) c = some x := by
        intro c x hc
        rw [Store.set_ne _ _ (by rintro rfl; rw [hsub1 _ _ hc] at hb; cases hb)]
        exact hsub1 c x hc
      refine callS_yield (ayields_sub (hy acc { tk with l := l1, a := a1 } mC (by omega) hJ) hsub2) ?_ (by rintro v m' ⟨_, ⟨⟨⟩, _⟩, _⟩)
      rintro v S3 ⟨mC3, ⟨hv, hJ3⟩, hsub3, hkeep⟩
      cases hv
      obtain ⟨hX3, hx3⟩ := hkeep xb _ (by rw [hbx]; exact hX1) hx
      obtain ⟨hP3, hp3⟩ := hkeep pb _ (by rw [hbp]; exact hP1) hp
      have hw : IntKind.i64.wrap ((a1 : Int) + (k : Int)) = ((a1 + k : Nat) : Int) := by
        rw [wrap_i64 (by omega) (by omega)]
        rfl
      simp only [hX3, hP3, hw, Bool.not_true, awp_row, awp_seq, awp_ret, awp_exit, awp_block, awp_skip, awp_cond, condS_true, condS_false, thenA_normal, thenA_ret, thenA_exit, inBlockA_normal, inBlockA_ret, inBlockA_same, runO_nil, runO_q, runO_g, q_mov, q_pick, q_build, q_lits, q_load, q_nilc, q_bin, q_un, q_conv, q_b2s, q_mki, q_mkf, q_sliceS, q_sliceL, q_fieldA, q_field, q_idxA, q_idxL, q_idxStr, q_len, q_ext, gO_tt, gO_ff, gO_tf, gO_ft, gO_un, putO_some, putO_skip, tget_zero, tget_succ, tset_zero, tset_succ, ev_tmp, ev_const, ev_func, ofConst_int, ofConst_bool, ofConst_bs, ofConst_nilIface, ofConst_nilFunc, ofConst_pointer, ofConst_nilSlice, eval_mov, eval_pick, pickV_true, pickV_false, eval_bin, eval_un, unV_not, unV_neg, eval_load, loadV_elt, eval_nilc, nilcV_ptr, nilcV_elt, nilcV_fn, eval_mki, eval_mkf, eval_fieldA, fieldAV_ptr, fieldAV_elt, eval_field, fieldV_agg, eval_len, lenV_string, lenV_slice, eval_ext, extV_tup, eval_idxStr, eval_idxL, bin_eql, bin_neq, bin_lss, bin_leq, bin_gtr, bin_geq, bin_add, bin_sub, bin_mul, bin_or, bin_and, bin_seql, bin_sneq, runO_ge, e_call, e_store, e_alloc, e_box, e_app, e_s2b, gE_tt, gE_ff, gE_tf, gE_ft, gE_un, thenO_nil, thenO_some, still_free, runO_call, List.map_cons, List.map_nil, runO_store, storeO_ptr, storeC_var, setV_nil, setV_cons, oneV_int, oneV_bool, oneV_str, oneV_nilp, oneV_nili, oneV_ptr, oneV_elt, oneV_sl, oneV_fn, oneV_ifc, oneV_bs, cells_val, cells_ptr, cells_elt, cells_sl, cells_fn, cells_ifc, cells_agg, cells_bs, loadV_at, loadB_var, runO_alloc, runO_box, runO_s2b, runO_app, eval_sliceS, optEv_none, optEv_some, optV_int, lenV_bs, bin_beql, bin_bneq, partV_one, List.getElem?_cons_succ, List.getElem?_cons_zero, eval_idxA, eval_build, fillV_nil, fillV_val, fillV_bs, fillV_sl, fillV_ptr, fillV_elt, fillV_fn, fillV_ifc, map_agg, partV_some, List.length_cons, List.length_nil, List.drop_zero, List.drop_succ_cons, List.take_succ_cons, List.take_zero, List.take_nil, List.all_cons, List.all_nil, Bool.and_true, Bool.and_self, Nat.reduceAdd, Nat.reduceLeDiff, Nat.le_refl, reduceIte, and_self, and_true, true_and, eq_self, inBlockA_exit, Nat.reduceEqDiff]
      rw [List.drop_drop] at hN
      refine ⟨s.length - (a1 + k), by omega, a1 + k, l1, _, mC3, rfl, by omega, by omega, by simp; omega, hN, hJ3, hx3, hp3, fun c x hc => ?_, Store.set_same _ _ _, ?_⟩
      · rw [Store.set_ne _ _ (by rintro rfl; rw [hx3] at hc; cases hc)]
        exact hsub3 c x hc
      · rw [Store.set_ne _ _ (fun e => hxp e.symm)]
        exact hP3
end Go.Av.Fn
