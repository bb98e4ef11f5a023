/- A post that is full: a message's bytes, walked. No condition. -/
import Derived.Test.YtibbfadgcklpjaaGreatDoorX7
namespace Go.Av.Fn
set_option linter.unusedSimpArgs false
set_option linter.unusedVariables false
set_option maxRecDepth 100000
open Go.Proofs Go.Lib

theorem relNo {G : Gh} {es more : List V} {tok : Tok} {u : Value} (h : RelV G (.sl es more tok) u) : RelV G (.sl es more .no) u := by
  cases h with
  | nil h => exact .nil rfl
  | sl a b c d e f => exact .sl a b c d e trivial
theorem acalls_weak {P : Program} {Γ : Glob} {f : FuncId} {args args' : List V} {m : Store} {R : Out → Store → Prop} (h : ∀ G cargs, RelL G args cargs → RelL G args' cargs) (hc : ACalls P Γ f args' m R) : ACalls P Γ f args m R :=
  ⟨hc.1, fun G B0 mF w cargs hD hR hL => hc.2 G B0 mF w cargs hD hR (h G cargs hL)⟩

theorem isByte_inv {v : V} (h : isByte v = true) : ∃ n, v = .val (.int .u8 n) := by
  unfold isByte at h
  split at h
  · exact ⟨_, rfl⟩
  · cases h
theorem isByte_plain {v : V} (h : isByte v = true) : plainV v = true := by
  obtain ⟨n, rfl⟩ := isByte_inv h
  rfl
theorem bytes_plain : ∀ {l : List V}, l.all isByte = true → plainVs l = true
  | [], _ => rfl
  | v :: l, h => by
    simp only [List.all_cons, Bool.and_eq_true] at h
    simp only [plainVs, Bool.and_eq_true]
    exact ⟨isByte_plain h.1, bytes_plain h.2⟩
theorem isFrame_inv {n : Nat} {r : Option (Out × Hp)} (h : isFrame n r = true) : ∃ es tok, retOf r = some (.tup [.sl es [] tok, it 0]) ∧ es.all isByte = true ∧ es.length = n := by
  unfold isFrame at h
  split at h
  · simp only [Bool.and_eq_true] at h
    exact ⟨_, _, rfl, h.1, Nat.eq_of_beq_eq_true h.2⟩
  · cases h
theorem isRow_inv {l : List UInt8} {r : Option (Out × Hp)} (h : isRow l r = true) : ∃ tok, retOf r = some (.tup [.sl (l.map by8) [] tok, it 0]) := by
  unfold isRow at h
  split at h
  · rw [eqVs_sound h]
    exact ⟨_, rfl⟩
  · cases h

section
variable {Γ : Glob} {m : Store}
theorem callOk (h0 : Γ 0 = some (signsB.map bs)) (h1 : Γ 1 = some (wordsB.map bs)) : CallOk Tryz.prog Γ (callI Tryz.prog G0 (fun _ _ _ => none) (look tabA) 2000 40) := callI_ok mixed (globOk h0 h1) tabA_ok 2000 40

/-- Whoever answers bytes and nothing wrong. -/
theorem bytesRet (h0 : Γ 0 = some (signsB.map bs)) (h1 : Γ 1 = some (wordsB.map bs)) {f : FuncId} {args : List V} {es : List V} {tok : Tok} (hr : retOf (run Tryz.prog tabA f args) = some (.tup [.sl es [] tok, it 0])) (hb : plainVs es = true) (ha : LR (fun _ _ => False) args args) :
    ACalls Tryz.prog Γ f args m fun o m' => (∃ tok', o = .ret (.tup [.sl es [] tok', it 0])) ∧ m' = m := by
  refine (acalls_ret (callOk h0 h1) hr ha).mono ?_
  rintro o m' ⟨⟨S, u, r, rfl⟩, hm⟩
  refine ⟨?_, hm⟩
  cases r with
  | tup r =>
    cases r with
    | cons r1 r2 =>
      cases r2 with
      | cons r3 r4 =>
        cases r4
        cases r3
        cases r1 with
        | @sl _ es' _ more' _ k2 a b c =>
          rw [plains_vr hb a, b.nil_inv]
          exact ⟨k2, rfl⟩

theorem frame_ok (h0 : Γ 0 = some (signsB.map bs)) (h1 : Γ 1 = some (wordsB.map bs)) {x : List V} {tok : Tok} (hx : x.all isByte = true) (h4 : 4 ≤ x.length) (h6 : x.length ≤ 6) : ACalls Tryz.prog Γ 59 [.sl [] [] .full, .sl x [] tok] m fun o m' =>
    (∃ es tok', o = .ret (.tup [.sl es [] tok', it 0]) ∧ es.all isByte = true ∧ 9 ≤ es.length ∧ es.length ≤ 11) ∧ m' = m := by
  refine acalls_weak (args' := [.sl [] [] .full, .sl x [] .no]) ?_ ?_
  · intro G cargs hL
    obtain ⟨u1, us1, rfl, r1, hL⟩ := hL.cons_inv
    obtain ⟨u2, us2, rfl, r2, hL⟩ := hL.cons_inv
    obtain rfl := hL.nil_inv
    exact .cons r1 (.cons (relNo r2) .nil)
  · have fin : ∀ {n : Nat}, 9 ≤ n → n ≤ 11 → isFrame n (run Tryz.prog tabA 59 [.sl [] [] .full, .sl x [] .no]) = true → LR (fun _ _ => False) x x → ACalls Tryz.prog Γ 59 [.sl [] [] .full, .sl x [] .no] m fun o m' =>
        (∃ es tok', o = .ret (.tup [.sl es [] tok', it 0]) ∧ es.all isByte = true ∧ 9 ≤ es.length ∧ es.length ≤ 11) ∧ m' = m := by
      intro n hn1 hn2 hr ha
      obtain ⟨es, tok, h3, h4, h5⟩ := isFrame_inv hr
      refine (bytesRet h0 h1 h3 (bytes_plain h4) (.cons (.sl .nil .nil trivial) (.cons (.sl ha .nil trivial) .nil))).mono ?_
      rintro o m' ⟨⟨tok', ho⟩, hm⟩
      exact ⟨⟨es, tok', ho, h4, by omega, by omega⟩, hm⟩
    match x, hx, h4, h6 with
    | [a, b, c, d], hx, _, _ =>
      simp only [List.all_cons, List.all_nil, Bool.and_eq_true, and_true] at hx
      obtain ⟨⟨a, rfl⟩, ⟨b, rfl⟩, ⟨c, rfl⟩, ⟨d, rfl⟩⟩ := (⟨isByte_inv hx.1, isByte_inv hx.2.1, isByte_inv hx.2.2.1, isByte_inv hx.2.2.2⟩ : _ ∧ _ ∧ _ ∧ _)
      exact fin (by omega) (by omega) (frame_run4 a b c d) (LR.vals [.int .u8 a, .int .u8 b, .int .u8 c, .int .u8 d])
    | [a, b, c, d, e], hx, _, _ =>
      simp only [List.all_cons, List.all_nil, Bool.and_eq_true, and_true] at hx
      obtain ⟨⟨a, rfl⟩, ⟨b, rfl⟩, ⟨c, rfl⟩, ⟨d, rfl⟩, ⟨e, rfl⟩⟩ := (⟨isByte_inv hx.1, isByte_inv hx.2.1, isByte_inv hx.2.2.1, isByte_inv hx.2.2.2.1, isByte_inv hx.2.2.2.2⟩ : _ ∧ _ ∧ _ ∧ _ ∧ _)
      exact fin (by omega) (by omega) (frame_run5 a b c d e) (LR.vals [.int .u8 a, .int .u8 b, .int .u8 c, .int .u8 d, .int .u8 e])
    | [a, b, c, d, e, f], hx, _, _ =>
      simp only [List.all_cons, List.all_nil, Bool.and_eq_true, and_true] at hx
      obtain ⟨⟨a, rfl⟩, ⟨b, rfl⟩, ⟨c, rfl⟩, ⟨d, rfl⟩, ⟨e, rfl⟩, ⟨f, rfl⟩⟩ := (⟨isByte_inv hx.1, isByte_inv hx.2.1, isByte_inv hx.2.2.1, isByte_inv hx.2.2.2.1, isByte_inv hx.2.2.2.2.1, isByte_inv hx.2.2.2.2.2⟩ : _ ∧ _ ∧ _ ∧ _ ∧ _ ∧ _)
      exact fin (by omega) (by omega) (frame_run6 a b c d e f) (LR.vals [.int .u8 a, .int .u8 b, .int .u8 c, .int .u8 d, .int .u8 e, .int .u8 f])

theorem number_view (z : Int) (hz : 0 ≤ z) (hz2 : z ≤ 2147483647) : ACalls Tryz.prog Γ 50 [.val (.bool true), it z, it 0] m fun o m' => o = .ret (.val (.bool true)) ∧ m' = m := by
  refine acalls_of_awp mixed F50_ok (by rintro v m b x _ ⟨⟨⟩, _⟩) ?_
  simp only [F50, start, List.cons_append, List.nil_append, List.length_cons, List.length_nil, List.replicate, Nat.reduceSub, Nat.reduceAdd]
  simp only [show decide (z ≥ 0) = true from decide_eq_true hz, show decide (z ≤ 2147483647) = true from decide_eq_true hz2, Bool.not_true, awp_row, awp_seq, awp_ret, awp_exit, awp_block, awp_skip, awp_cond, condS_true, condS_false, thenA_normal, thenA_ret, thenA_exit, inBlockA_normal, inBlockA_ret, inBlockA_same, runO_nil, runO_q, runO_g, q_mov, q_pick, q_build, q_lits, q_load, q_nilc, q_bin, q_un, q_conv, q_b2s, q_mki, q_mkf, q_sliceS, q_sliceL, q_fieldA, q_field, q_idxA, q_idxL, q_idxStr, q_len, q_ext, gO_tt, gO_ff, gO_tf, gO_ft, gO_un, putO_some, putO_skip, tget_zero, tget_succ, tset_zero, tset_succ, ev_tmp, ev_const, ev_func, ofConst_int, ofConst_bool, ofConst_bs, ofConst_nilIface, ofConst_nilFunc, ofConst_pointer, ofConst_nilSlice, eval_mov, eval_pick, pickV_true, pickV_false, eval_bin, eval_un, unV_not, unV_neg, eval_load, loadV_elt, eval_nilc, nilcV_ptr, nilcV_elt, nilcV_fn, eval_mki, eval_mkf, eval_fieldA, fieldAV_ptr, fieldAV_elt, eval_field, fieldV_agg, eval_len, lenV_string, lenV_slice, eval_ext, extV_tup, eval_idxStr, eval_idxL, bin_eql, bin_neq, bin_lss, bin_leq, bin_gtr, bin_geq, bin_add, bin_sub, bin_mul, bin_or, bin_and, bin_seql, bin_sneq, runO_ge, e_call, e_store, e_alloc, e_box, e_app, e_s2b, gE_tt, gE_ff, gE_tf, gE_ft, gE_un, thenO_nil, thenO_some, still_free, runO_call, List.map_cons, List.map_nil, runO_store, storeO_ptr, storeC_var, setV_nil, setV_cons, oneV_int, oneV_bool, oneV_str, oneV_nilp, oneV_nili, oneV_ptr, oneV_elt, oneV_sl, oneV_fn, oneV_ifc, oneV_bs, cells_val, cells_ptr, cells_elt, cells_sl, cells_fn, cells_ifc, cells_agg, cells_bs, loadV_at, loadB_var, runO_alloc, runO_box, runO_s2b, runO_app, eval_sliceS, optEv_none, optEv_some, optV_int, lenV_bs, bin_beql, bin_bneq, partV_one, List.getElem?_cons_succ, List.getElem?_cons_zero, eval_idxA, eval_build, fillV_nil, fillV_val, fillV_bs, fillV_sl, fillV_ptr, fillV_elt, fillV_fn, fillV_ifc, map_agg, partV_some, List.length_cons, List.length_nil, List.drop_zero, List.drop_succ_cons, List.take_succ_cons, List.take_zero, List.take_nil, List.all_cons, List.all_nil, Bool.and_true, Bool.and_self, Nat.reduceAdd, Nat.reduceLeDiff, Nat.le_refl, reduceIte, and_self, and_true, true_and, eq_self, inBlockA_exit, Nat.reduceEqDiff]
  exact bodyA_ret resV_one ⟨rfl, rfl⟩
theorem number_none (h0 : Γ 0 = some (signsB.map bs)) (h1 : Γ 1 = some (wordsB.map bs)) (l : Int) : ACalls Tryz.prog Γ 50 [.val (.bool false), it 0, it l] m fun o m' => o = .ret (.val (.bool true)) ∧ m' = m :=
  acalls_true mixed (globOk h0 h1) tabA_ok (LR.vals [.bool false, .int .i64 0, .int .i64 l]) (none_run l)
theorem lr_msg (x : Int) : LR (fun _ _ => False) (msgC (it x)) (msgC (it x)) := by
  unfold msgC sv
  repeat (first | exact .nil | refine .cons (.val _) ?_ | refine .cons (.sl .nil .nil trivial) ?_)
theorem lr_fields : LR (fun _ _ => False) fieldsC fieldsC := by
  unfold fieldsC
  repeat (first | exact .nil | refine .cons (.val _) ?_)
theorem change_ok (h0 : Γ 0 = some (signsB.map bs)) (h1 : Γ 1 = some (wordsB.map bs)) (x : Int) : ACalls Tryz.prog Γ 17 [it x] m fun o m' => o = .ret (.agg (msgC (it x))) ∧ m' = m :=
  acalls_plain (callOk h0 h1) (change_run x) (.cons (.val _) .nil) rfl
theorem of_ok (h0 : Γ 0 = some (signsB.map bs)) (h1 : Γ 1 = some (wordsB.map bs)) : ACalls Tryz.prog Γ 49 [it 5] m fun o m' => o = .ret (.tup [.agg fieldsC, .val (.bool true)]) ∧ m' = m :=
  acalls_plain (callOk h0 h1) of_run (.cons (.val _) .nil) rfl
theorem ends_ok (h0 : Γ 0 = some (signsB.map bs)) (h1 : Γ 1 = some (wordsB.map bs)) (x : Int) : ACalls Tryz.prog Γ 51 [.agg (msgC (it x))] m fun o m' => o = .ret (.val (.bool true)) ∧ m' = m :=
  acalls_true mixed (globOk h0 h1) tabA_ok (.cons (.agg (lr_msg x)) .nil) (ends_run x)
theorem parts_ok (h0 : Γ 0 = some (signsB.map bs)) (h1 : Γ 1 = some (wordsB.map bs)) (x : Int) : ACalls Tryz.prog Γ 52 [.agg (msgC (it x)), .agg fieldsC] m fun o m' => o = .ret (.val (.bool true)) ∧ m' = m :=
  acalls_true mixed (globOk h0 h1) tabA_ok (.cons (.agg (lr_msg x)) (.cons (.agg lr_fields) .nil)) (parts_run x)
end
end Go.Av.Fn
