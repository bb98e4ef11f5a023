/- The functions that may be gone through over blocks in turn. No condition. -/
import Derived.LaidHandle
import Derived.Lib.ItoaLen
import Derived.Test.YtfanfdflpakjeaaGreatDoorCards
import Derived.Test.YtfanfdflpakjeaaGreatDoorTie
import Derived.Test.YtfanfdflpakjeaaGreatDoorTAvX
namespace Go.Av.Fn
set_option maxRecDepth 100000
theorem F5_h : F5.body.okH [] = true := by kernel_rfl
end Go.Av.Fn
/- Commands that are put are got as they were: the statement's function. Conditions as ahead. -/
namespace Go.Av.Fn
set_option linter.unusedSimpArgs false
set_option linter.unusedVariables false
set_option maxRecDepth 10000
open Go.Proofs
theorem nb_cmdV {k : Nat} (a b : Int) (c : List UInt8) : nb k (cmdV a b c) := by
  unfold cmdV
  simp only [nb_val, nb_ptr, nb_elt, nb_sl, nb_fn, nb_ifc, nb_agg, nb_tup, nb_arr, nb_bs, nbs_nil, nbs_cons, nbs_by8, nbT_no, nbT_full, nbT_tip, nbT_zero, nbB_var, nbB_tip, and_self, and_true, true_and, List.append_nil, List.nil_append, List.cons_append]
theorem nbs_cmd1 (a b : Int) (c : List UInt8) : nbs 0 [cmdV a b c] := by
  simp only [nbs_cons, nb_cmdV, nbs_nil, and_self]
end Go.Av.Fn
/- A command that is printed is parsed as it was; what is parsed is printed as it stood: the statement's function, walked. Conditions as ahead; numbers are written. -/
namespace Go.Av.Fn
set_option linter.unusedSimpArgs false
set_option linter.unusedVariables false
set_option maxRecDepth 10000
open Go.Proofs
def FmtAll (Γ : Glob) : Prop := ∀ n : Int, -9223372036854775808 ≤ n → n ≤ 9223372036854775807 → FmtAt Γ n
theorem FmtAll.num {Γ : Glob} (h : FmtAll Γ) (s : List UInt8) : FmtNum Γ s := by
  intro n hn
  have := Lib.parseIntB_bounds hn
  exact h n (by have := this.1; simpa using this) (by have := this.2; simp at this; omega)
theorem printB_len {k n : Int} {s : List UInt8} (h : rightB k n s = true) : (printB k n s).length ≤ 400 := by
  obtain ⟨h1, h2, h3⟩ := right_len h
  have h4 := form_w k
  have h5 := Lib.itoa_length_le n (by omega) (by omega)
  unfold printB
  simp only
  split <;> split <;> (try split) <;> simp <;> omega
theorem fin6 {t : List V} {h : Hl} {i : Nat} (ht : tget t i = .val (.bool true)) : bodyH [ARes.tmp i] (fun v _ => nb 0 v ∧ v = .val (.bool true)) .ret ⟨t, h⟩ :=
  bodyH_ret resV_one ⟨by rw [show (⟨t, lk h⟩ : St).t = t from rfl, ht]; exact .val _, ht⟩
theorem cmd_neq (xo yo : Operand) (k n k' n' : Int) (s s' : List UInt8) : binV Tryz.prog .neq 24 .other xo yo (.agg [it k, it n, bs s]) (.agg [it k', it n', bs s']) = some (.val (.bool (!decide (k = k' ∧ n = n' ∧ s = s')))) := by
  have h := (struct_eq (P := Tryz.prog) (T := 24) (xo := xo) (yo := yo) (cs := [it k, it n, bs s]) (cs' := [it k', it n', bs s'])
    (xs := [.int .i64 k, .int .i64 n, .string ⟨s.toArray⟩]) (ys := [.int .i64 k', .int .i64 n', .string ⟨s'.toArray⟩])
    (r := (k == k' && (n == n' && ((ByteArray.mk s.toArray).toList == (ByteArray.mk s'.toArray).toList && true))))
    (by kernel_rfl) (by kernel_rfl) (by kernel_rfl) rfl rfl (by kernel_rfl)).2
  have e : (k == k' && (n == n' && ((ByteArray.mk s.toArray).toList == (ByteArray.mk s'.toArray).toList && true))) = decide (k = k' ∧ n = n' ∧ s = s') := by
    rw [ba_toList, ba_toList, Bool.eq_iff_iff]
    simp
  rw [e] at h
  exact h
theorem nbs_cmds (a b : Int) (c s : List UInt8) : nbs 0 [cmdV a b c, bs s] := by
  simp only [nb_cmdV, nb_val, nb_ptr, nb_elt, nb_sl, nb_fn, nb_ifc, nb_agg, nb_tup, nb_arr, nb_bs, nbs_nil, nbs_cons, nbs_by8, nbT_no, nbT_full, nbT_tip, nbT_zero, nbB_var, nbB_tip, and_self, and_true, true_and, List.append_nil, List.nil_append, List.cons_append]
theorem nbs_c1 (a b : Int) (c : List UInt8) : nbs 0 [.agg [it a, it b, bs c]] := nbs_cmd1 a b c
theorem cmd_eq00 (xo yo : Operand) (k n : Int) (s : List UInt8) : binV Tryz.prog .eql 24 .other xo yo (.agg [it k, it n, bs s]) (.agg [.val (.int .i64 0), .val (.int .i64 0), .val (.string (ByteArray.mk #[]))]) = some (.val (.bool (decide (k = 0 ∧ n = 0 ∧ s = [])))) := cmd_eq xo yo k n 0 0 s []
theorem bs_empty {P : Program} {T : TypeId} {xo yo : Operand} : binV P .neq T .other xo yo (bs []) (.val (.string (ByteArray.mk #[]))) = some (.val (.bool false)) := bin_bneq (x := []) (y := [])
theorem commandBack_ok {Γ : Glob} {m : Store} (E : Env2 Γ) (F : FmtAll Γ) (k n : Int) (s0 s : List UInt8) (hs : s.length ≤ 140737488351232) :
    ACalls Tryz.prog Γ 5 [cmdV k n s0, bs s] m fun o m' => o = .ret (.val (.bool true)) ∧ m' = m := by
  refine acalls_v (acalls_p mixed F5_ok F5_h gok_nil (nbs_cmds _ _ _ _) ?_)
  simp only [F5, cmdV, start, List.cons_append, List.nil_append, List.length_cons, List.length_nil, List.replicate, Nat.reduceSub, Nat.reduceAdd]
  simp only [ssH, bin_or, bin_and, Nat.reduceAdd, Nat.reduceLeDiff, reduceIte, eq_self, Nat.reduceEqDiff, Nat.reduceLT, Int.reduceBEq, Int.reduceBNe]
  refine hcall_pure (by exact fun m => print_ok E.env k n s0 (fun hr _ => F n (by have := right_len hr; omega) (by have := right_len hr; omega))) (nbs_c1 _ _ _) (by first | exact LR.nil | simp only [nb_val, nb_ptr, nb_elt, nb_sl, nb_fn, nb_ifc, nb_agg, nb_tup, nb_arr, nb_bs, nbs_nil, nbs_cons, nbs_by8, nbT_no, nbT_full, nbT_tip, nbT_zero, nbB_var, nbB_tip, and_self, and_true, true_and, List.append_nil, List.nil_append, List.cons_append]) ?_
  simp only [ssH, bin_or, bin_and, Nat.reduceAdd, Nat.reduceLeDiff, reduceIte, eq_self, Nat.reduceEqDiff, Nat.reduceLT, Int.reduceBEq, Int.reduceBNe]
  cases hr : rightB k n s0
  · simp only [Bool.false_eq_true, if_false, bs_empty, ssH, bin_or, bin_and, Nat.reduceAdd, Nat.reduceLeDiff, reduceIte, eq_self, Nat.reduceEqDiff, Nat.reduceLT, Int.reduceBEq, Int.reduceBNe]
    cases hp : parseC s with
    | none =>
      refine hcall_pure (v := .tup [cmdV 0 0 [], it 6]) (by intro m; have := parse_ok (m := m) E s (by omega) (fun _ => F.num _); rw [pv_none hp] at this; exact this) (by first | exact LR.nil | simp only [nb_val, nb_ptr, nb_elt, nb_sl, nb_fn, nb_ifc, nb_agg, nb_tup, nb_arr, nb_bs, nbs_nil, nbs_cons, nbs_by8, nbT_no, nbT_full, nbT_tip, nbT_zero, nbB_var, nbB_tip, and_self, and_true, true_and, List.append_nil, List.nil_append, List.cons_append]) (by simp only [nb_cmdV, nb_val, nb_ptr, nb_elt, nb_sl, nb_fn, nb_ifc, nb_agg, nb_tup, nb_arr, nb_bs, nbs_nil, nbs_cons, nbs_by8, nbT_no, nbT_full, nbT_tip, nbT_zero, nbB_var, nbB_tip, and_self, and_true, true_and, List.append_nil, List.nil_append, List.cons_append]) ?_
      simp only [cmdV, cmd_eq00, ssH, bin_or, bin_and, Nat.reduceAdd, Nat.reduceLeDiff, reduceIte, eq_self, Nat.reduceEqDiff, Nat.reduceLT, Int.reduceBEq, Int.reduceBNe]
      refine hcall_pure (v := .val (.bool true)) (by exact fun m => lives17_ok E) (by first | exact LR.nil | simp only [nb_val, nb_ptr, nb_elt, nb_sl, nb_fn, nb_ifc, nb_agg, nb_tup, nb_arr, nb_bs, nbs_nil, nbs_cons, nbs_by8, nbT_no, nbT_full, nbT_tip, nbT_zero, nbB_var, nbB_tip, and_self, and_true, true_and, List.append_nil, List.nil_append, List.cons_append]) (by first | exact LR.nil | simp only [nb_val, nb_ptr, nb_elt, nb_sl, nb_fn, nb_ifc, nb_agg, nb_tup, nb_arr, nb_bs, nbs_nil, nbs_cons, nbs_by8, nbT_no, nbT_full, nbT_tip, nbT_zero, nbB_var, nbB_tip, and_self, and_true, true_and, List.append_nil, List.nil_append, List.cons_append]) ?_
      simp only [ssH, bin_or, bin_and, Nat.reduceAdd, Nat.reduceLeDiff, reduceIte, eq_self, Nat.reduceEqDiff, Nat.reduceLT, Int.reduceBEq, Int.reduceBNe]
      exact fin6 rfl
    | some x =>
      obtain ⟨k2, n2, t2⟩ := x
      obtain ⟨q1, q2, q3⟩ := parse_print hp
      refine hcall_pure (v := .tup [cmdV k2 n2 t2, it 0]) (by intro m; have := parse_ok (m := m) E s (by omega) (fun _ => F.num _); rw [pv_some hp] at this; exact this) (by first | exact LR.nil | simp only [nb_val, nb_ptr, nb_elt, nb_sl, nb_fn, nb_ifc, nb_agg, nb_tup, nb_arr, nb_bs, nbs_nil, nbs_cons, nbs_by8, nbT_no, nbT_full, nbT_tip, nbT_zero, nbB_var, nbB_tip, and_self, and_true, true_and, List.append_nil, List.nil_append, List.cons_append]) (by simp only [nb_cmdV, nb_val, nb_ptr, nb_elt, nb_sl, nb_fn, nb_ifc, nb_agg, nb_tup, nb_arr, nb_bs, nbs_nil, nbs_cons, nbs_by8, nbT_no, nbT_full, nbT_tip, nbT_zero, nbB_var, nbB_tip, and_self, and_true, true_and, List.append_nil, List.nil_append, List.cons_append]) ?_
      simp only [cmdV, ssH, bin_or, bin_and, Nat.reduceAdd, Nat.reduceLeDiff, reduceIte, eq_self, Nat.reduceEqDiff, Nat.reduceLT, Int.reduceBEq, Int.reduceBNe]
      refine hcall_pure (v := .tup [bs s, it 0]) (by intro m; have := print_ok (m := m) E.env k2 n2 t2 (fun hr _ => F n2 (by have := right_len hr; omega) (by have := right_len hr; omega)); rw [q1, if_pos rfl, if_pos rfl, q2] at this; exact this) (nbs_c1 _ _ _) (by first | exact LR.nil | simp only [nb_val, nb_ptr, nb_elt, nb_sl, nb_fn, nb_ifc, nb_agg, nb_tup, nb_arr, nb_bs, nbs_nil, nbs_cons, nbs_by8, nbT_no, nbT_full, nbT_tip, nbT_zero, nbB_var, nbB_tip, and_self, and_true, true_and, List.append_nil, List.nil_append, List.cons_append]) ?_
      simp only [ssH, bin_or, bin_and, Nat.reduceAdd, Nat.reduceLeDiff, reduceIte, eq_self, Nat.reduceEqDiff, Nat.reduceLT, Int.reduceBEq, Int.reduceBNe]
      refine hcall_pure (v := .val (.bool true)) (by exact fun m => lives17_ok E) (by first | exact LR.nil | simp only [nb_val, nb_ptr, nb_elt, nb_sl, nb_fn, nb_ifc, nb_agg, nb_tup, nb_arr, nb_bs, nbs_nil, nbs_cons, nbs_by8, nbT_no, nbT_full, nbT_tip, nbT_zero, nbB_var, nbB_tip, and_self, and_true, true_and, List.append_nil, List.nil_append, List.cons_append]) (by first | exact LR.nil | simp only [nb_val, nb_ptr, nb_elt, nb_sl, nb_fn, nb_ifc, nb_agg, nb_tup, nb_arr, nb_bs, nbs_nil, nbs_cons, nbs_by8, nbT_no, nbT_full, nbT_tip, nbT_zero, nbB_var, nbB_tip, and_self, and_true, true_and, List.append_nil, List.nil_append, List.cons_append]) ?_
      simp only [ssH, bin_or, bin_and, Nat.reduceAdd, Nat.reduceLeDiff, reduceIte, eq_self, Nat.reduceEqDiff, Nat.reduceLT, Int.reduceBEq, Int.reduceBNe]
      exact fin6 rfl
  · have hpl := printB_len hr
    simp only [if_true, ssH, bin_or, bin_and, Nat.reduceAdd, Nat.reduceLeDiff, reduceIte, eq_self, Nat.reduceEqDiff, Nat.reduceLT, Int.reduceBEq, Int.reduceBNe]
    refine hcall_pure (v := .tup [cmdV k n s0, it 0]) (by intro m; have := parse_ok (m := m) E (printB k n s0) (by omega) (fun _ => F.num _); rw [pv_some (print_parse hr)] at this; exact this) (by first | exact LR.nil | simp only [nb_val, nb_ptr, nb_elt, nb_sl, nb_fn, nb_ifc, nb_agg, nb_tup, nb_arr, nb_bs, nbs_nil, nbs_cons, nbs_by8, nbT_no, nbT_full, nbT_tip, nbT_zero, nbB_var, nbB_tip, and_self, and_true, true_and, List.append_nil, List.nil_append, List.cons_append]) (by simp only [nb_cmdV, nb_val, nb_ptr, nb_elt, nb_sl, nb_fn, nb_ifc, nb_agg, nb_tup, nb_arr, nb_bs, nbs_nil, nbs_cons, nbs_by8, nbT_no, nbT_full, nbT_tip, nbT_zero, nbB_var, nbB_tip, and_self, and_true, true_and, List.append_nil, List.nil_append, List.cons_append]) ?_
    simp only [cmdV, cmd_neq, and_self, ssH, bin_or, bin_and, Nat.reduceAdd, Nat.reduceLeDiff, reduceIte, eq_self, Nat.reduceEqDiff, Nat.reduceLT, Int.reduceBEq, Int.reduceBNe]
    refine hcall_pure (v := it 0) (by intro m; have := cCheck_ok (m := m) E.env k n s0; rw [hr, if_pos rfl] at this; exact this) (nbs_c1 _ _ _) (by first | exact LR.nil | simp only [nb_val, nb_ptr, nb_elt, nb_sl, nb_fn, nb_ifc, nb_agg, nb_tup, nb_arr, nb_bs, nbs_nil, nbs_cons, nbs_by8, nbT_no, nbT_full, nbT_tip, nbT_zero, nbB_var, nbB_tip, and_self, and_true, true_and, List.append_nil, List.nil_append, List.cons_append]) ?_
    simp only [ssH, bin_or, bin_and, Nat.reduceAdd, Nat.reduceLeDiff, reduceIte, eq_self, Nat.reduceEqDiff, Nat.reduceLT, Int.reduceBEq, Int.reduceBNe]
    cases hp : parseC s with
    | none =>
      refine hcall_pure (v := .tup [cmdV 0 0 [], it 6]) (by intro m; have := parse_ok (m := m) E s (by omega) (fun _ => F.num _); rw [pv_none hp] at this; exact this) (by first | exact LR.nil | simp only [nb_val, nb_ptr, nb_elt, nb_sl, nb_fn, nb_ifc, nb_agg, nb_tup, nb_arr, nb_bs, nbs_nil, nbs_cons, nbs_by8, nbT_no, nbT_full, nbT_tip, nbT_zero, nbB_var, nbB_tip, and_self, and_true, true_and, List.append_nil, List.nil_append, List.cons_append]) (by simp only [nb_cmdV, nb_val, nb_ptr, nb_elt, nb_sl, nb_fn, nb_ifc, nb_agg, nb_tup, nb_arr, nb_bs, nbs_nil, nbs_cons, nbs_by8, nbT_no, nbT_full, nbT_tip, nbT_zero, nbB_var, nbB_tip, and_self, and_true, true_and, List.append_nil, List.nil_append, List.cons_append]) ?_
      simp only [cmdV, cmd_eq00, ssH, bin_or, bin_and, Nat.reduceAdd, Nat.reduceLeDiff, reduceIte, eq_self, Nat.reduceEqDiff, Nat.reduceLT, Int.reduceBEq, Int.reduceBNe]
      refine hcall_pure (v := .val (.bool true)) (by exact fun m => lives17_ok E) (by first | exact LR.nil | simp only [nb_val, nb_ptr, nb_elt, nb_sl, nb_fn, nb_ifc, nb_agg, nb_tup, nb_arr, nb_bs, nbs_nil, nbs_cons, nbs_by8, nbT_no, nbT_full, nbT_tip, nbT_zero, nbB_var, nbB_tip, and_self, and_true, true_and, List.append_nil, List.nil_append, List.cons_append]) (by first | exact LR.nil | simp only [nb_val, nb_ptr, nb_elt, nb_sl, nb_fn, nb_ifc, nb_agg, nb_tup, nb_arr, nb_bs, nbs_nil, nbs_cons, nbs_by8, nbT_no, nbT_full, nbT_tip, nbT_zero, nbB_var, nbB_tip, and_self, and_true, true_and, List.append_nil, List.nil_append, List.cons_append]) ?_
      simp only [ssH, bin_or, bin_and, Nat.reduceAdd, Nat.reduceLeDiff, reduceIte, eq_self, Nat.reduceEqDiff, Nat.reduceLT, Int.reduceBEq, Int.reduceBNe]
      exact fin6 rfl
    | some x =>
      obtain ⟨k2, n2, t2⟩ := x
      obtain ⟨q1, q2, q3⟩ := parse_print hp
      refine hcall_pure (v := .tup [cmdV k2 n2 t2, it 0]) (by intro m; have := parse_ok (m := m) E s (by omega) (fun _ => F.num _); rw [pv_some hp] at this; exact this) (by first | exact LR.nil | simp only [nb_val, nb_ptr, nb_elt, nb_sl, nb_fn, nb_ifc, nb_agg, nb_tup, nb_arr, nb_bs, nbs_nil, nbs_cons, nbs_by8, nbT_no, nbT_full, nbT_tip, nbT_zero, nbB_var, nbB_tip, and_self, and_true, true_and, List.append_nil, List.nil_append, List.cons_append]) (by simp only [nb_cmdV, nb_val, nb_ptr, nb_elt, nb_sl, nb_fn, nb_ifc, nb_agg, nb_tup, nb_arr, nb_bs, nbs_nil, nbs_cons, nbs_by8, nbT_no, nbT_full, nbT_tip, nbT_zero, nbB_var, nbB_tip, and_self, and_true, true_and, List.append_nil, List.nil_append, List.cons_append]) ?_
      simp only [cmdV, ssH, bin_or, bin_and, Nat.reduceAdd, Nat.reduceLeDiff, reduceIte, eq_self, Nat.reduceEqDiff, Nat.reduceLT, Int.reduceBEq, Int.reduceBNe]
      refine hcall_pure (v := .tup [bs s, it 0]) (by intro m; have := print_ok (m := m) E.env k2 n2 t2 (fun hr _ => F n2 (by have := right_len hr; omega) (by have := right_len hr; omega)); rw [q1, if_pos rfl, if_pos rfl, q2] at this; exact this) (nbs_c1 _ _ _) (by first | exact LR.nil | simp only [nb_val, nb_ptr, nb_elt, nb_sl, nb_fn, nb_ifc, nb_agg, nb_tup, nb_arr, nb_bs, nbs_nil, nbs_cons, nbs_by8, nbT_no, nbT_full, nbT_tip, nbT_zero, nbB_var, nbB_tip, and_self, and_true, true_and, List.append_nil, List.nil_append, List.cons_append]) ?_
      simp only [ssH, bin_or, bin_and, Nat.reduceAdd, Nat.reduceLeDiff, reduceIte, eq_self, Nat.reduceEqDiff, Nat.reduceLT, Int.reduceBEq, Int.reduceBNe]
      refine hcall_pure (v := .val (.bool true)) (by exact fun m => lives17_ok E) (by first | exact LR.nil | simp only [nb_val, nb_ptr, nb_elt, nb_sl, nb_fn, nb_ifc, nb_agg, nb_tup, nb_arr, nb_bs, nbs_nil, nbs_cons, nbs_by8, nbT_no, nbT_full, nbT_tip, nbT_zero, nbB_var, nbB_tip, and_self, and_true, true_and, List.append_nil, List.nil_append, List.cons_append]) (by first | exact LR.nil | simp only [nb_val, nb_ptr, nb_elt, nb_sl, nb_fn, nb_ifc, nb_agg, nb_tup, nb_arr, nb_bs, nbs_nil, nbs_cons, nbs_by8, nbT_no, nbT_full, nbT_tip, nbT_zero, nbB_var, nbB_tip, and_self, and_true, true_and, List.append_nil, List.nil_append, List.cons_append]) ?_
      simp only [ssH, bin_or, bin_and, Nat.reduceAdd, Nat.reduceLeDiff, reduceIte, eq_self, Nat.reduceEqDiff, Nat.reduceLT, Int.reduceBEq, Int.reduceBNe]
      exact fin6 rfl
end Go.Av.Fn
/- What the listed variables hold is read off the row. No condition. -/
namespace Go.Av.Fn
set_option linter.unusedVariables false
set_option maxRecDepth 100000
open Go.Proofs Go.RowKit Go.Proofs.YtfanfdflpakjeaaGreatDoor
def laidL : List (String × DataW Unit) := [("math/bits.deBruijn32tab", Rows.laid_math_bits_deBruijn32tab), ("math/bits.deBruijn64tab", Rows.laid_math_bits_deBruijn64tab), ("internal/strconv.uint64pow10", Rows.laid_internal_strconv_uint64pow10), ("errors.errorType", Rows.laid_errors_errorType), ("strconv.ErrRange", Rows.laid_strconv_ErrRange), ("strconv.ErrSyntax", Rows.laid_strconv_ErrSyntax), ("hindcast/lex.words", Rows.laid_hindcast_lex_words), ("hindcast/lex.signs", Rows.laid_hindcast_lex_signs)]
def laidP : List (String × DataW Unit) := [("math/bits.deBruijn32tab", Rows.laid_math_bits_deBruijn32tab), ("math/bits.deBruijn64tab", Rows.laid_math_bits_deBruijn64tab), ("internal/strconv.uint64pow10", Rows.laid_internal_strconv_uint64pow10), ("strconv.ErrRange", Rows.laid_strconv_ErrRange), ("strconv.ErrSyntax", Rows.laid_strconv_ErrSyntax), ("hindcast/lex.words", Rows.laid_hindcast_lex_words), ("hindcast/lex.signs", Rows.laid_hindcast_lex_signs)]
theorem laid_some : (laidL.filter fun x => x.2.handleName?.isSome) = [("errors.errorType", Rows.laid_errors_errorType)] := by kernel_rfl
theorem laid_none : (laidL.filter fun x => x.2.handleName?.isNone) = laidP := by kernel_rfl
theorem gWords : Tryz.prog.globalNamed "hindcast/lex.words" = some 3 := by kernel_rfl
theorem gSigns : Tryz.prog.globalNamed "hindcast/lex.signs" = some 2 := by kernel_rfl
theorem gRange : Tryz.prog.globalNamed "strconv.ErrRange" = some 5 := by kernel_rfl
theorem gSyntax : Tryz.prog.globalNamed "strconv.ErrSyntax" = some 4 := by kernel_rfl
theorem gErrT : Tryz.prog.globalNamed "errors.errorType" = some 6 := by kernel_rfl
theorem tWords : (Tryz.prog.globals[3]?).map (·.type) = some 234 := by kernel_rfl
theorem tSigns : (Tryz.prog.globals[2]?).map (·.type) = some 233 := by kernel_rfl
theorem tRange : (Tryz.prog.globals[5]?).map (·.type) = some 163 := by kernel_rfl
theorem tSyntax : (Tryz.prog.globals[4]?).map (·.type) = some 163 := by kernel_rfl
theorem gPow : Tryz.prog.globalNamed "internal/strconv.uint64pow10" = some 1 := by kernel_rfl
theorem tPow : (Tryz.prog.globals[1]?).map (·.type) = some 227 := by kernel_rfl
theorem cells9 : Tryz.prog.cellsOf 9 = 1 := by kernel_rfl
theorem cellsES : Tryz.prog.cellsOf 284 = 1 := by kernel_rfl
theorem star : "*" ++ "errors.errorString" = "*errors.errorString" := by decide
theorem rowES (u : TypeId) (h : Tryz.prog.typeName? 3 u = some "*errors.errorString") : u = 282 :=
  typeName_ptr_named (nm := "errors.errorString") (by rw [star]; kernel_rfl) (by kernel_rfl) (by decide) u (by rw [star]; exact h)
theorem rtRow : (Tryz.prog.cutTypes.find? (·.1 == "internal/reflectlite.rtype")).map (·.2) = some 289 := by kernel_rfl
theorem oneRow : ((List.range Tryz.prog.types.size).filter fun t => Tryz.prog.rowNamed t [101, 114, 114, 111, 114]) = [163] := by kernel_rfl
def gl (p q : Value) : Glob := fun g => if g = 2 then some (signsB.map bs) else if g = 3 then some (wordsB.map bs) else if g = 5 then some [.ifc 282 (.val p)] else if g = 4 then some [.ifc 282 (.val q)] else if g = 6 then some [.ifc 289 (.agg [.ptr 9 163])] else if g = 1 then some powV else none
theorem errT_of {W : World} (h : handlesMet Tryz.prog [("errors.errorType", Rows.laid_errors_errorType)] W) : W.cell? ⟨6, 0, none⟩ = some (.iface 289 (.agg #[.pointer (some ⟨9, 163, none⟩)])) := by
  obtain ⟨name, u, ty, e1, e2, e3, e4, e5⟩ := h _ (List.mem_singleton.2 rfl)
  have en : name = [101, 114, 114, 111, 114] := (Option.some.inj e1).symm
  subst en
  obtain rfl := Option.some.inj (rtRow.symm.trans e2)
  have hm : ty ∈ (List.range Tryz.prog.types.size).filter fun t => Tryz.prog.rowNamed t [101, 114, 114, 111, 114] := List.mem_filter.2 ⟨List.mem_range.2 e3, e4⟩
  rw [oneRow] at hm
  obtain rfl := List.mem_singleton.1 hm
  have hh : typeHandle Tryz.prog 163 = .pointer (some ⟨9, 163, none⟩) := by kernel_rfl
  rw [hh] at e5
  simpa using World.var?_cell gErrT e5 0
theorem pow_rel {G : Gh} : ∀ l : List Int, RelL G (l.map fun z => V.val (.int .u64 z)) (l.map fun z => Value.int .u64 z)
  | [] => .nil
  | z :: l => .cons (.val rfl) (pow_rel l)
theorem start_of_laid {W : World} (hH : laidMetH Tryz.prog laidL W) : ∃ p q, noAgg p = true ∧ noAgg q = true ∧ Rep (gl p q) W.heap.size (startG (gl p q) W) (fun _ => none) W := by
  obtain ⟨h, hh⟩ : laidMet Tryz.prog laidP W ∧ handlesMet Tryz.prog [("errors.errorType", Rows.laid_errors_errorType)] W := by
    unfold laidMetH at hH
    rw [laid_some, laid_none] at hH
    exact hH
  have hw := strs_of_reads (L := wordsB) (Lib.laidMet.reads h (.tail _ (.tail _ (.tail _ (.tail _ (.tail _ (.head _))))))) gWords tWords Tryz.underlying234 Tryz.underlying9 cells9
  have hs := strs_of_reads (L := signsB) (Lib.laidMet.reads h (.tail _ (.tail _ (.tail _ (.tail _ (.tail _ (.tail _ (.head _)))))))) gSigns tSigns Tryz.underlying233 Tryz.underlying9 cells9
  obtain ⟨a1, s1, hv1, _⟩ := laid_sentinel h.tail.tail.tail gRange tRange Tryz.underlying163 rowES Tryz.underlying282 Tryz.underlying284 rfl rfl Tryz.underlying9 cellsES cells9
  obtain ⟨a2, s2, hv2, _⟩ := laid_sentinel h.tail.tail.tail.tail gSyntax tSyntax Tryz.underlying163 rowES Tryz.underlying282 Tryz.underlying284 rfl rfl Tryz.underlying9 cellsES cells9
  have he1 : W.cell? ⟨5, 0, none⟩ = some (.iface 282 (.pointer (some a1))) := by simpa using World.var?_cell gRange hv1 0
  have he2 : W.cell? ⟨4, 0, none⟩ = some (.iface 282 (.pointer (some a2))) := by simpa using World.var?_cell gSyntax hv2 0
  have he3 := errT_of hh
  have hpow : Lib.TabIs Tryz.prog W "internal/strconv.uint64pow10" .u64 Lib.pow10Tab := Lib.tabIs_of_head gPow tPow Tryz.underlying227 Tryz.underlying154 (by kernel_rfl) (by kernel_rfl) h.tail.tail
  have hpc : ∃ T fz, W.heap[1]? = some (.cells (Lib.pow10Tab.map fun z => Value.int .u64 z).toArray T fz) := by
    unfold Lib.TabIs World.var? at hpow
    rw [gPow] at hpow
    simp only [Option.bind_some] at hpow
    split at hpow
    · rename_i cs T fz hcs
      cases hpow
      exact ⟨_, _, hcs⟩
    · cases hpow
  refine ⟨.pointer (some a1), .pointer (some a2), rfl, rfl, start_rep (fun g cs hg => ?_) ?_⟩
  rotate_left
  · intro g cs hg h20
    unfold gl at hg
    split at hg
    · cases hg; simp [signsB] at h20
    · split at hg
      · cases hg; simp [wordsB] at h20
      · split at hg
        · cases hg; simp at h20
        · split at hg
          · cases hg; simp at h20
          · split at hg
            · cases hg; simp at h20
            · split at hg
              · rename_i e
                subst e
                obtain ⟨T, fz, hcs⟩ := hpc
                exact ⟨(Array.getElem?_eq_some_iff.1 hcs).1, _, T, fz, hcs, by simp [Lib.pow10Tab]⟩
              · cases hg
  have hone : ∀ {g : Nat} {v : V} {x : Value}, RelV (startG (gl (.pointer (some a1)) (.pointer (some a2))) W) v x → W.cell? ⟨g, 0, none⟩ = some x → ∃ us, RelL (startG (gl (.pointer (some a1)) (.pointer (some a2))) W) [v] us ∧ ∀ i u, us[i]? = some u → W.cell? ⟨g, i, none⟩ = some u := by
    intro g v x hv hc
    refine ⟨[x], .cons hv .nil, fun i u hu => ?_⟩
    cases i with
    | zero =>
      simp only [List.getElem?_cons_zero, Option.some.injEq] at hu
      rw [← hu]
      exact hc
    | succ i => simp at hu
  unfold gl at hg
  split at hg
  · rename_i h0
    subst h0
    cases hg
    refine ⟨_, rel_bs signsB, fun i u hu => ?_⟩
    rw [List.getElem?_map] at hu
    obtain ⟨s, h1, rfl⟩ := Option.map_eq_some_iff.1 hu
    exact hs i s h1
  · split at hg
    · rename_i h0
      subst h0
      cases hg
      refine ⟨_, rel_bs wordsB, fun i u hu => ?_⟩
      rw [List.getElem?_map] at hu
      obtain ⟨s, h1, rfl⟩ := Option.map_eq_some_iff.1 hu
      exact hw i s h1
    · split at hg
      · rename_i h0
        subst h0
        cases hg
        exact hone (.ifc (.val rfl)) he1
      · split at hg
        · rename_i h0
          subst h0
          cases hg
          exact hone (.ifc (.val rfl)) he2
        · split at hg
          · rename_i h0
            subst h0
            cases hg
            exact hone (.ifc (.agg (.cons (.ptr _ _) .nil))) he3
          · split at hg
            · rename_i h0
              subst h0
              cases hg
              obtain ⟨T, fz, hcs⟩ := hpc
              refine ⟨Lib.pow10Tab.map fun z => Value.int .u64 z, pow_rel _, fun i u hu => ?_⟩
              simp only [World.cell?, hcs, Option.isSome_none, Bool.false_eq_true, if_false]
              rw [List.getElem?_toArray]
              exact hu
            · cases hg
theorem fmt_gl (p q : Value) {n : Int} (h0 : -9223372036854775808 ≤ n) (h1 : n ≤ 9223372036854775807) : FmtAt (gl p q) n := fmt_all rfl h0 h1
theorem env_gl (p q : Value) : Env2 (gl p q) where
  env := { lib := libOk, parse := parse28 (T := 282) (v := .val p) rfl, words := rfl, signs := rfl, errT := rfl }
  range := ⟨282, .val p, rfl⟩
  syn := ⟨282, .val q, rfl⟩
end Go.Av.Fn
