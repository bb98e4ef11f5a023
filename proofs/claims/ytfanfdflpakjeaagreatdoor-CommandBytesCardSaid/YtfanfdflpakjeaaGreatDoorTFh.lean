/- The functions that may be gone through over blocks in turn. No condition. -/
import Derived.LaidHandle
import Derived.Test.YtfanfdflpakjeaaGreatDoorCards
import Derived.Test.YtfanfdflpakjeaaGreatDoorTie
import Derived.Test.YtfanfdflpakjeaaGreatDoorTAvX
namespace Go.Av.Fn
set_option maxRecDepth 100000
theorem F7_h : F7.body.okH [] = true := by kernel_rfl
end Go.Av.Fn
/- Commands that are put are got as they were: the statement's function. Conditions as ahead. -/
namespace Go.Av.Fn
set_option linter.unusedSimpArgs false
set_option linter.unusedVariables false
set_option maxRecDepth 10000
open Go.Proofs
theorem nb_rdB {k : Nat} {s : List UInt8} {a : Nat} {e : Int} : nbB k (rdB s a e) := by
  unfold rdB
  simp only [nb_val, nb_ptr, nb_elt, nb_sl, nb_fn, nb_ifc, nb_agg, nb_tup, nb_arr, nb_bs, nbs_nil, nbs_cons, nbs_by8, nbT_no, nbT_full, nbT_tip, nbT_zero, nbB_var, nbB_tip, and_self, and_true, true_and, List.append_nil, List.nil_append, List.cons_append]
theorem nb_cmdT {k : Nat} (c : Int × Int × List UInt8) : nb k (cmdT c) := by
  unfold cmdT cmdV
  simp only [nb_val, nb_ptr, nb_elt, nb_sl, nb_fn, nb_ifc, nb_agg, nb_tup, nb_arr, nb_bs, nbs_nil, nbs_cons, nbs_by8, nbT_no, nbT_full, nbT_tip, nbT_zero, nbB_var, nbB_tip, and_self, and_true, true_and, List.append_nil, List.nil_append, List.cons_append]
theorem nb_cmdV {k : Nat} (a b : Int) (c : List UInt8) : nb k (cmdV a b c) := by
  unfold cmdV
  simp only [nb_val, nb_ptr, nb_elt, nb_sl, nb_fn, nb_ifc, nb_agg, nb_tup, nb_arr, nb_bs, nbs_nil, nbs_cons, nbs_by8, nbT_no, nbT_full, nbT_tip, nbT_zero, nbB_var, nbB_tip, and_self, and_true, true_and, List.append_nil, List.nil_append, List.cons_append]
theorem nbs_cmd1 (a b : Int) (c : List UInt8) : nbs 0 [cmdV a b c] := by
  simp only [nbs_cons, nb_cmdV, nbs_nil, and_self]
theorem put0 {Γ : Glob} {k n : Int} {t : List UInt8} (hk : Av.I64 k) (hn : Av.I64 n) (hl : t.length ≤ 140737488351232) (m : Store) :
    ACalls Tryz.prog Γ 25 (.sl [] [] .full :: [cmdV k n t]) m fun o m2 => ∃ v2, o = .ret v2 ∧ Buf 5 1 m m2 v2 ((putC k n t).map by8) := by
  have := put_ok (Γ := Γ) (m := m) (m' := m) (v := .sl [] [] .full) (l := []) (t := t) (k := k) (n := n) Buf.start hk hn (by simp; omega) (by simp)
  simpa using this
theorem putC_ne (k n : Int) (t : List UInt8) : (putC k n t).map by8 ≠ [] := by
  intro h
  have h2 := congrArg List.length h
  have := Lib.uvarint_pos (Lib.zigzag k)
  rw [List.length_map, putC] at h2
  simp only [List.length_append, List.length_nil] at h2
  omega
theorem putC_len {k n : Int} {t : List UInt8} (hk : Av.I64 k) (hn : Av.I64 n) (ht : t.length < 9223372036854775808) : (putC k n t).length ≤ t.length + 30 := by
  have z1 := Lib.uvarint_length64 (Av.zigzag_u64 hk)
  have z2 := Lib.uvarint_length64 (Av.zigzag_u64 hn)
  have z3 := Lib.uvarint_length64 (Av.zigzag_u64 (n := (t.length : Int)) (by unfold Av.I64; omega))
  simp only [putC, List.length_append]
  omega
end Go.Av.Fn
/- Commands that are put are got as they were: the statement's function, walked. Conditions as ahead. -/
namespace Go.Av.Fn
set_option linter.unusedSimpArgs false
set_option linter.unusedVariables false
set_option maxRecDepth 10000
open Go.Proofs
theorem cmd_eq0 (xo yo : Operand) (k n : Int) (s : List UInt8) : binV Tryz.prog .eql 24 .other xo yo (.agg [it k, it n, bs s]) (.agg [.val (.int .i64 0), .val (.int .i64 0), .val (.string (ByteArray.mk #[]))]) = some (.val (.bool (decide (k = 0 ∧ n = 0 ∧ s = [])))) := cmd_eq xo yo k n 0 0 s []
theorem commandBytes_ok {Γ : Glob} {m : Store} (E : Env2 Γ) (k n k2 n2 : Int) (s s2 l : List UInt8) (hk : Av.I64 k) (hn : Av.I64 n) (hk2 : Av.I64 k2) (hn2 : Av.I64 n2) (hs : s.length ≤ 140737488351232) (hs2 : s2.length ≤ 140737488351232) (hl : l.length ≤ 140737488351232) :
    ACalls Tryz.prog Γ 7 [cmdV k n s, cmdV k2 n2 s2, .sl (l.map by8) [] .no] m fun o m' => o = .ret (.val (.bool true)) ∧ m' = m := by
  refine acalls_v (acalls_p mixed F7_ok F7_h gok_nil (by simp only [nb_cmdV, nb_val, nb_ptr, nb_elt, nb_sl, nb_fn, nb_ifc, nb_agg, nb_tup, nb_arr, nb_bs, nbs_nil, nbs_cons, nbs_by8, nbT_no, nbT_full, nbT_tip, nbT_zero, nbB_var, nbB_tip, and_self, and_true, true_and, List.append_nil, List.nil_append, List.cons_append]) ?_)
  simp only [F7, cmdV, start, List.cons_append, List.nil_append, List.length_cons, List.length_nil, List.replicate, Nat.reduceSub, Nat.reduceAdd]
  have hfin : ∀ (t : List V) (h : Hl), tget t 6 = .val (.bool true) → bodyH [ARes.tmp 6] (fun v _ => nb 0 v ∧ v = .val (.bool true)) .ret ⟨t, h⟩ := by
    intro t h ht
    exact bodyH_ret resV_one ⟨by rw [show (⟨t, lk h⟩ : St).t = t from rfl, ht]; exact .val _, ht⟩
  have hlen := putC_len (k := k) (n := n) hk hn (t := s) (by omega)
  have hput := put0 (Γ := Γ) (n := n) hk hn hs
  by_cases g1 : s.length ≤ 255
  · have h1 : decide ((s.length : Int) > 255) = false := by simp; omega
    have h1' : decide ((s.length : Int) ≤ 255) = true := by simp; omega
    by_cases g2 : s2.length ≤ 255
    · have h2 : decide ((s2.length : Int) > 255) = false := by simp; omega
      simp only [h1, h2, ssH, bin_or, bin_and, Nat.reduceAdd, Nat.reduceLeDiff, reduceIte, eq_self, Nat.reduceEqDiff, Nat.reduceLT]
      refine hcall_buf0 (e := 5) (size := 1) (by simp only [List.length_cons, List.length_nil, Nat.reduceAdd, Nat.reduceLT]) rfl (putC_ne k n s) hput (nbs_cmd1 _ _ _) (nbs_map_by8 _) (fun j => ?_)
      simp only [ssH, bin_or, bin_and, Nat.reduceAdd, Nat.reduceLeDiff, reduceIte, eq_self, Nat.reduceEqDiff, Nat.reduceLT]
      refine hcall_buf (e := 5) (size := 1) (by simp only [List.length_cons, List.length_nil, Nat.reduceAdd, Nat.reduceLT]) rfl rfl (szOk_by8 _) (putC_ne k n s) (es2 := (putC k n s ++ putC k2 n2 s2).map by8) (by rw [List.map_append]; exact fun q => putC_ne k n s (List.append_eq_nil_iff.1 q).1) (fun m m' v hb => put_ok hb hk2 hn2 (by omega) (by omega)) (nbs_map_by8 _) (nbs_cmd1 _ _ _) (nbs_map_by8 _) (fun j => ?_)
      simp only [ssH, bin_or, bin_and, Nat.reduceAdd, Nat.reduceLeDiff, reduceIte, eq_self, Nat.reduceEqDiff, Nat.reduceLT]
      have hne : (putC k n s ++ putC k2 n2 s2).map by8 ≠ [] := by rw [List.map_append]; exact fun q => putC_ne k n s (List.append_eq_nil_iff.1 q).1
      have hlen2 := putC_len (k := k2) (n := n2) hk2 hn2 (t := s2) (by omega)
      refine happ_zero (ys := (putC k n s ++ putC k2 n2 s2).map by8) rfl hne (by simp only [List.length_cons, List.length_nil, Nat.reduceAdd, Nat.reduceLT]) rfl (elemsB_by8 _) (by simp; omega) ?_
      simp only [ssH, bin_or, bin_and, Nat.reduceAdd, Nat.reduceLeDiff, reduceIte, eq_self, Nat.reduceEqDiff, Nat.reduceLT]
      refine happ_tips (ys := l.map by8) rfl hne rfl (szOk_by8 _) (elemsB_by8 _) (by simp; omega) (fun j2 _ => ?_)
      rw [← List.map_append]
      simp only [ssH, bin_or, bin_and, Nat.reduceAdd, Nat.reduceLeDiff, reduceIte, eq_self, Nat.reduceEqDiff, Nat.reduceLT]
      refine hcall_newsl (Y := rdB (putC k n s ++ putC k2 n2 s2 ++ l) 0 0) (by simp only [List.length_cons, List.length_nil, Nat.reduceAdd, Nat.reduceLT]) rfl (fun m tok => wNew_ok) (nbs_map_by8 _) (by first | exact LR.nil | simp only [nb_val, nb_ptr, nb_elt, nb_sl, nb_fn, nb_ifc, nb_agg, nb_tup, nb_arr, nb_bs, nbs_nil, nbs_cons, nbs_by8, nbT_no, nbT_full, nbT_tip, nbT_zero, nbB_var, nbB_tip, and_self, and_true, true_and, List.append_nil, List.nil_append, List.cons_append]) (by first | exact LR.nil | simp only [nb_val, nb_ptr, nb_elt, nb_sl, nb_fn, nb_ifc, nb_agg, nb_tup, nb_arr, nb_bs, nbs_nil, nbs_cons, nbs_by8, nbT_no, nbT_full, nbT_tip, nbT_zero, nbB_var, nbB_tip, and_self, and_true, true_and, List.append_nil, List.nil_append, List.cons_append]) nb_rdB ?_
      have a1 := getC_put (k := k) (n := n) hk hn g1 [] (putC k2 n2 s2 ++ l)
      have a2 := getC_put (k := k2) (n := n2) hk2 hn2 g2 (putC k n s) l
      rw [List.nil_append, ← List.append_assoc, List.length_nil, Nat.zero_add] at a1
      rw [← List.append_assoc] at a2
      simp only [ptr_nn, ssH, bin_or, bin_and, Nat.reduceAdd, Nat.reduceLeDiff, reduceIte, eq_self, Nat.reduceEqDiff, Nat.reduceLT]
      refine hcall_cell (b := 5) (X := rdB (putC k n s ++ putC k2 n2 s2 ++ l) 0 0) rfl rfl (fun m b' h => get_ok E.env.lib h (Nat.zero_le _) (by simp; omega)) nb_rdB nb_rdB (by first | exact LR.nil | simp only [nb_val, nb_ptr, nb_elt, nb_sl, nb_fn, nb_ifc, nb_agg, nb_tup, nb_arr, nb_bs, nbs_nil, nbs_cons, nbs_by8, nbT_no, nbT_full, nbT_tip, nbT_zero, nbB_var, nbB_tip, and_self, and_true, true_and, List.append_nil, List.nil_append, List.cons_append]) (nb_cmdT _) ?_
      simp only [a1, ssH, bin_or, bin_and, Nat.reduceAdd, Nat.reduceLeDiff, reduceIte, eq_self, Nat.reduceEqDiff, Nat.reduceLT]
      refine hcall_cell (b := 5) (X := rdB (putC k n s ++ putC k2 n2 s2 ++ l) (putC k n s).length 0) rfl rfl (fun m b' h => get_ok E.env.lib h (by simp only [List.length_append]; omega) (by simp; omega)) nb_rdB nb_rdB (by first | exact LR.nil | simp only [nb_val, nb_ptr, nb_elt, nb_sl, nb_fn, nb_ifc, nb_agg, nb_tup, nb_arr, nb_bs, nbs_nil, nbs_cons, nbs_by8, nbT_no, nbT_full, nbT_tip, nbT_zero, nbB_var, nbB_tip, and_self, and_true, true_and, List.append_nil, List.nil_append, List.cons_append]) (nb_cmdT _) ?_
      simp only [a2, cmdT, cmdV, ssH, bin_or, bin_and, Nat.reduceAdd, Nat.reduceLeDiff, reduceIte, eq_self, Nat.reduceEqDiff, Nat.reduceLT]
      simp only [cmd_eq, and_self, decide_true, ssH, bin_or, bin_and, Nat.reduceAdd, Nat.reduceLeDiff, reduceIte, eq_self, Nat.reduceEqDiff, Nat.reduceLT]
      refine hcall_look (b := 5) rfl rfl (fun m b' h => wAt_ok h) nb_rdB (by first | exact LR.nil | simp only [nb_val, nb_ptr, nb_elt, nb_sl, nb_fn, nb_ifc, nb_agg, nb_tup, nb_arr, nb_bs, nbs_nil, nbs_cons, nbs_by8, nbT_no, nbT_full, nbT_tip, nbT_zero, nbB_var, nbB_tip, and_self, and_true, true_and, List.append_nil, List.nil_append, List.cons_append]) (by first | exact LR.nil | simp only [nb_val, nb_ptr, nb_elt, nb_sl, nb_fn, nb_ifc, nb_agg, nb_tup, nb_arr, nb_bs, nbs_nil, nbs_cons, nbs_by8, nbT_no, nbT_full, nbT_tip, nbT_zero, nbB_var, nbB_tip, and_self, and_true, true_and, List.append_nil, List.nil_append, List.cons_append]) ?_
      simp only [List.length_map, List.length_append, ssH, bin_or, bin_and, Nat.reduceAdd, Nat.reduceLeDiff, reduceIte, eq_self, Nat.reduceEqDiff, Nat.reduceLT]
      refine hcall_look (b := 5) rfl rfl (fun m b' h => wErr_ok h) nb_rdB (by first | exact LR.nil | simp only [nb_val, nb_ptr, nb_elt, nb_sl, nb_fn, nb_ifc, nb_agg, nb_tup, nb_arr, nb_bs, nbs_nil, nbs_cons, nbs_by8, nbT_no, nbT_full, nbT_tip, nbT_zero, nbB_var, nbB_tip, and_self, and_true, true_and, List.append_nil, List.nil_append, List.cons_append]) (by first | exact LR.nil | simp only [nb_val, nb_ptr, nb_elt, nb_sl, nb_fn, nb_ifc, nb_agg, nb_tup, nb_arr, nb_bs, nbs_nil, nbs_cons, nbs_by8, nbT_no, nbT_full, nbT_tip, nbT_zero, nbB_var, nbB_tip, and_self, and_true, true_and, List.append_nil, List.nil_append, List.cons_append]) ?_
      simp only [ssH, bin_or, bin_and, Nat.reduceAdd, Nat.reduceLeDiff, reduceIte, eq_self, Nat.reduceEqDiff, Nat.reduceLT]
      refine hcall_pure (v := .val (.bool true)) (by exact fun m => lives17_ok E) (by first | exact LR.nil | simp only [nb_val, nb_ptr, nb_elt, nb_sl, nb_fn, nb_ifc, nb_agg, nb_tup, nb_arr, nb_bs, nbs_nil, nbs_cons, nbs_by8, nbT_no, nbT_full, nbT_tip, nbT_zero, nbB_var, nbB_tip, and_self, and_true, true_and, List.append_nil, List.nil_append, List.cons_append]) (by first | exact LR.nil | simp only [nb_val, nb_ptr, nb_elt, nb_sl, nb_fn, nb_ifc, nb_agg, nb_tup, nb_arr, nb_bs, nbs_nil, nbs_cons, nbs_by8, nbT_no, nbT_full, nbT_tip, nbT_zero, nbB_var, nbB_tip, and_self, and_true, true_and, List.append_nil, List.nil_append, List.cons_append]) ?_
      simp only [ssH, bin_or, bin_and, Nat.reduceAdd, Nat.reduceLeDiff, reduceIte, eq_self, Nat.reduceEqDiff, Nat.reduceLT]
      exact hfin _ _ rfl
    · have h2 : decide ((s2.length : Int) > 255) = true := by simp; omega
      simp only [h1, h2, ssH, bin_or, bin_and, Nat.reduceAdd, Nat.reduceLeDiff, reduceIte, eq_self, Nat.reduceEqDiff, Nat.reduceLT]
      refine hcall_buf0 (e := 5) (size := 1) (by simp only [List.length_cons, List.length_nil, Nat.reduceAdd, Nat.reduceLT]) rfl (putC_ne k n s) hput (nbs_cmd1 _ _ _) (nbs_map_by8 _) (fun j => ?_)
      simp only [ssH, bin_or, bin_and, Nat.reduceAdd, Nat.reduceLeDiff, reduceIte, eq_self, Nat.reduceEqDiff, Nat.reduceLT]
      refine hcall_newsl (Y := rdB (putC k n s) 0 0) (by simp only [List.length_cons, List.length_nil, Nat.reduceAdd, Nat.reduceLT]) rfl (fun m tok => wNew_ok) (nbs_map_by8 _) (by first | exact LR.nil | simp only [nb_val, nb_ptr, nb_elt, nb_sl, nb_fn, nb_ifc, nb_agg, nb_tup, nb_arr, nb_bs, nbs_nil, nbs_cons, nbs_by8, nbT_no, nbT_full, nbT_tip, nbT_zero, nbB_var, nbB_tip, and_self, and_true, true_and, List.append_nil, List.nil_append, List.cons_append]) (by first | exact LR.nil | simp only [nb_val, nb_ptr, nb_elt, nb_sl, nb_fn, nb_ifc, nb_agg, nb_tup, nb_arr, nb_bs, nbs_nil, nbs_cons, nbs_by8, nbT_no, nbT_full, nbT_tip, nbT_zero, nbB_var, nbB_tip, and_self, and_true, true_and, List.append_nil, List.nil_append, List.cons_append]) nb_rdB ?_
      simp only [ptr_nn, ssH, bin_or, bin_and, Nat.reduceAdd, Nat.reduceLeDiff, reduceIte, eq_self, Nat.reduceEqDiff, Nat.reduceLT]
      refine hcall_cell (b := 3) (X := rdB (putC k n s) 0 0) rfl rfl (fun m b' h => get_ok E.env.lib h (Nat.zero_le _) (by omega)) nb_rdB nb_rdB (by first | exact LR.nil | simp only [nb_val, nb_ptr, nb_elt, nb_sl, nb_fn, nb_ifc, nb_agg, nb_tup, nb_arr, nb_bs, nbs_nil, nbs_cons, nbs_by8, nbT_no, nbT_full, nbT_tip, nbT_zero, nbB_var, nbB_tip, and_self, and_true, true_and, List.append_nil, List.nil_append, List.cons_append]) (nb_cmdT _) ?_
      simp only [cmdT, cmdV, h1', ssH, bin_or, bin_and, Nat.reduceAdd, Nat.reduceLeDiff, reduceIte, eq_self, Nat.reduceEqDiff, Nat.reduceLT]
      refine hcall_pure (v := .val (.bool true)) (by exact fun m => lives17_ok E) (by first | exact LR.nil | simp only [nb_val, nb_ptr, nb_elt, nb_sl, nb_fn, nb_ifc, nb_agg, nb_tup, nb_arr, nb_bs, nbs_nil, nbs_cons, nbs_by8, nbT_no, nbT_full, nbT_tip, nbT_zero, nbB_var, nbB_tip, and_self, and_true, true_and, List.append_nil, List.nil_append, List.cons_append]) (by first | exact LR.nil | simp only [nb_val, nb_ptr, nb_elt, nb_sl, nb_fn, nb_ifc, nb_agg, nb_tup, nb_arr, nb_bs, nbs_nil, nbs_cons, nbs_by8, nbT_no, nbT_full, nbT_tip, nbT_zero, nbB_var, nbB_tip, and_self, and_true, true_and, List.append_nil, List.nil_append, List.cons_append]) ?_
      simp only [ssH, bin_or, bin_and, Nat.reduceAdd, Nat.reduceLeDiff, reduceIte, eq_self, Nat.reduceEqDiff, Nat.reduceLT]
      exact hfin _ _ rfl
  · have h1 : decide ((s.length : Int) > 255) = true := by simp; omega
    have h1' : decide ((s.length : Int) ≤ 255) = false := by simp; omega
    simp only [h1, ssH, bin_or, bin_and, Nat.reduceAdd, Nat.reduceLeDiff, reduceIte, eq_self, Nat.reduceEqDiff, Nat.reduceLT]
    refine hcall_buf0 (e := 5) (size := 1) (by simp only [List.length_cons, List.length_nil, Nat.reduceAdd, Nat.reduceLT]) rfl (putC_ne k n s) hput (nbs_cmd1 _ _ _) (nbs_map_by8 _) (fun j => ?_)
    simp only [ssH, bin_or, bin_and, Nat.reduceAdd, Nat.reduceLeDiff, reduceIte, eq_self, Nat.reduceEqDiff, Nat.reduceLT]
    refine hcall_newsl (Y := rdB (putC k n s) 0 0) (by simp only [List.length_cons, List.length_nil, Nat.reduceAdd, Nat.reduceLT]) rfl (fun m tok => wNew_ok) (nbs_map_by8 _) (by first | exact LR.nil | simp only [nb_val, nb_ptr, nb_elt, nb_sl, nb_fn, nb_ifc, nb_agg, nb_tup, nb_arr, nb_bs, nbs_nil, nbs_cons, nbs_by8, nbT_no, nbT_full, nbT_tip, nbT_zero, nbB_var, nbB_tip, and_self, and_true, true_and, List.append_nil, List.nil_append, List.cons_append]) (by first | exact LR.nil | simp only [nb_val, nb_ptr, nb_elt, nb_sl, nb_fn, nb_ifc, nb_agg, nb_tup, nb_arr, nb_bs, nbs_nil, nbs_cons, nbs_by8, nbT_no, nbT_full, nbT_tip, nbT_zero, nbB_var, nbB_tip, and_self, and_true, true_and, List.append_nil, List.nil_append, List.cons_append]) nb_rdB ?_
    simp only [ptr_nn, ssH, bin_or, bin_and, Nat.reduceAdd, Nat.reduceLeDiff, reduceIte, eq_self, Nat.reduceEqDiff, Nat.reduceLT]
    obtain ⟨e1, e2⟩ := getC_big hk hn (s := s) (by omega) (by omega)
    obtain ⟨a2, hg⟩ : ∃ a2, getC (putC k n s) 0 0 = ((0, 0, []), a2, 5) := ⟨(getC (putC k n s) 0 0).2.1, by rw [← e1, ← e2]⟩
    refine hcall_cell (b := 3) (X := rdB (putC k n s) 0 0) rfl rfl (fun m b' h => get_ok E.env.lib h (Nat.zero_le _) (by omega)) nb_rdB nb_rdB (by first | exact LR.nil | simp only [nb_val, nb_ptr, nb_elt, nb_sl, nb_fn, nb_ifc, nb_agg, nb_tup, nb_arr, nb_bs, nbs_nil, nbs_cons, nbs_by8, nbT_no, nbT_full, nbT_tip, nbT_zero, nbB_var, nbB_tip, and_self, and_true, true_and, List.append_nil, List.nil_append, List.cons_append]) (nb_cmdT _) ?_
    simp only [hg, cmdT, cmdV, h1', ssH, bin_or, bin_and, Nat.reduceAdd, Nat.reduceLeDiff, reduceIte, eq_self, Nat.reduceEqDiff, Nat.reduceLT]
    simp only [cmd_eq0, ssH, bin_or, bin_and, Nat.reduceAdd, Nat.reduceLeDiff, reduceIte, eq_self, Nat.reduceEqDiff, Nat.reduceLT]
    refine hcall_look (b := 3) rfl rfl (fun m b' h => wErr_ok h) nb_rdB (by first | exact LR.nil | simp only [nb_val, nb_ptr, nb_elt, nb_sl, nb_fn, nb_ifc, nb_agg, nb_tup, nb_arr, nb_bs, nbs_nil, nbs_cons, nbs_by8, nbT_no, nbT_full, nbT_tip, nbT_zero, nbB_var, nbB_tip, and_self, and_true, true_and, List.append_nil, List.nil_append, List.cons_append]) (by first | exact LR.nil | simp only [nb_val, nb_ptr, nb_elt, nb_sl, nb_fn, nb_ifc, nb_agg, nb_tup, nb_arr, nb_bs, nbs_nil, nbs_cons, nbs_by8, nbT_no, nbT_full, nbT_tip, nbT_zero, nbB_var, nbB_tip, and_self, and_true, true_and, List.append_nil, List.nil_append, List.cons_append]) ?_
    simp only [beq_self_eq_true, ssH, bin_or, bin_and, Nat.reduceAdd, Nat.reduceLeDiff, reduceIte, eq_self, Nat.reduceEqDiff, Nat.reduceLT]
    refine hcall_pure (v := .val (.bool true)) (by exact fun m => lives17_ok E) (by first | exact LR.nil | simp only [nb_val, nb_ptr, nb_elt, nb_sl, nb_fn, nb_ifc, nb_agg, nb_tup, nb_arr, nb_bs, nbs_nil, nbs_cons, nbs_by8, nbT_no, nbT_full, nbT_tip, nbT_zero, nbB_var, nbB_tip, and_self, and_true, true_and, List.append_nil, List.nil_append, List.cons_append]) (by first | exact LR.nil | simp only [nb_val, nb_ptr, nb_elt, nb_sl, nb_fn, nb_ifc, nb_agg, nb_tup, nb_arr, nb_bs, nbs_nil, nbs_cons, nbs_by8, nbT_no, nbT_full, nbT_tip, nbT_zero, nbB_var, nbB_tip, and_self, and_true, true_and, List.append_nil, List.nil_append, List.cons_append]) ?_
    simp only [ssH, bin_or, bin_and, Nat.reduceAdd, Nat.reduceLeDiff, reduceIte, eq_self, Nat.reduceEqDiff, Nat.reduceLT]
    exact hfin _ _ rfl
end Go.Av.Fn
/- What the listed variables hold is read off the row. No condition. -/
namespace Go.Av.Fn
set_option linter.unusedVariables false
set_option maxRecDepth 100000
open Go.Proofs Go.RowKit Go.Proofs.YtfanfdflpakjeaaGreatDoor
def laidL : List (String × DataW Unit) := [("math/bits.deBruijn32tab", Rows.laid_math_bits_deBruijn32tab), ("math/bits.deBruijn64tab", Rows.laid_math_bits_deBruijn64tab), ("internal/strconv.uint64pow10", Rows.laid_internal_strconv_uint64pow10), ("errors.errorType", Rows.laid_errors_errorType), ("strconv.ErrRange", Rows.laid_strconv_ErrRange), ("strconv.ErrSyntax", Rows.laid_strconv_ErrSyntax), ("hindcast/lex.words", Rows.laid_hindcast_lex_words), ("hindcast/lex.signs", Rows.laid_hindcast_lex_signs)]
def laidP : List (String × DataW Unit) := [("math/bits.deBruijn32tab", Rows.laid_math_bits_deBruijn32tab), ("math/bits.deBruijn64tab", Rows.laid_math_bits_deBruijn64tab), ("internal/strconv.uint64pow10", Rows.laid_internal_strconv_uint64pow10), ("strconv.ErrRange", Rows.laid_strconv_ErrRange), ("strconv.ErrSyntax", Rows.laid_strconv_ErrSyntax), ("hindcast/lex.words", Rows.laid_hindcast_lex_words), ("hindcast/lex.signs", Rows.laid_hindcast_lex_signs)]
theorem laid_some : (laidL.filter fun x => x.2.handleName?.isSome) = [("errors.errorType", Rows.laid_errors_errorType)] := by kernel_rfl
theorem laid_none : (laidL.filter fun x => x.2.handleName?.isNone) = laidP := by kernel_rfl
theorem gWords : Tryz.prog.globalNamed "hindcast/lex.words" = some 3 := by kernel_rfl
theorem gSigns : Tryz.prog.globalNamed "hindcast/lex.signs" = some 2 := by kernel_rfl
theorem gRange : Tryz.prog.globalNamed "strconv.ErrRange" = some 5 := by kernel_rfl
theorem gSyntax : Tryz.prog.globalNamed "strconv.ErrSyntax" = some 4 := by kernel_rfl
theorem gErrT : Tryz.prog.globalNamed "errors.errorType" = some 6 := by kernel_rfl
theorem tWords : (Tryz.prog.globals[3]?).map (·.type) = some 234 := by kernel_rfl
theorem tSigns : (Tryz.prog.globals[2]?).map (·.type) = some 233 := by kernel_rfl
theorem tRange : (Tryz.prog.globals[5]?).map (·.type) = some 163 := by kernel_rfl
theorem tSyntax : (Tryz.prog.globals[4]?).map (·.type) = some 163 := by kernel_rfl
theorem gPow : Tryz.prog.globalNamed "internal/strconv.uint64pow10" = some 1 := by kernel_rfl
theorem tPow : (Tryz.prog.globals[1]?).map (·.type) = some 227 := by kernel_rfl
theorem cells9 : Tryz.prog.cellsOf 9 = 1 := by kernel_rfl
theorem cellsES : Tryz.prog.cellsOf 284 = 1 := by kernel_rfl
theorem star : "*" ++ "errors.errorString" = "*errors.errorString" := by decide
theorem rowES (u : TypeId) (h : Tryz.prog.typeName? 3 u = some "*errors.errorString") : u = 282 :=
  typeName_ptr_named (nm := "errors.errorString") (by rw [star]; kernel_rfl) (by kernel_rfl) (by decide) u (by rw [star]; exact h)
theorem rtRow : (Tryz.prog.cutTypes.find? (·.1 == "internal/reflectlite.rtype")).map (·.2) = some 289 := by kernel_rfl
theorem oneRow : ((List.range Tryz.prog.types.size).filter fun t => Tryz.prog.rowNamed t [101, 114, 114, 111, 114]) = [163] := by kernel_rfl
def gl (p q : Value) : Glob := fun g => if g = 2 then some (signsB.map bs) else if g = 3 then some (wordsB.map bs) else if g = 5 then some [.ifc 282 (.val p)] else if g = 4 then some [.ifc 282 (.val q)] else if g = 6 then some [.ifc 289 (.agg [.ptr 9 163])] else if g = 1 then some powV else none
theorem errT_of {W : World} (h : handlesMet Tryz.prog [("errors.errorType", Rows.laid_errors_errorType)] W) : W.cell? ⟨6, 0, none⟩ = some (.iface 289 (.agg #[.pointer (some ⟨9, 163, none⟩)])) := by
  obtain ⟨name, u, ty, e1, e2, e3, e4, e5⟩ := h _ (List.mem_singleton.2 rfl)
  have en : name = [101, 114, 114, 111, 114] := (Option.some.inj e1).symm
  subst en
  obtain rfl := Option.some.inj (rtRow.symm.trans e2)
  have hm : ty ∈ (List.range Tryz.prog.types.size).filter fun t => Tryz.prog.rowNamed t [101, 114, 114, 111, 114] := List.mem_filter.2 ⟨List.mem_range.2 e3, e4⟩
  rw [oneRow] at hm
  obtain rfl := List.mem_singleton.1 hm
  have hh : typeHandle Tryz.prog 163 = .pointer (some ⟨9, 163, none⟩) := by kernel_rfl
  rw [hh] at e5
  simpa using World.var?_cell gErrT e5 0
theorem pow_rel {G : Gh} : ∀ l : List Int, RelL G (l.map fun z => V.val (.int .u64 z)) (l.map fun z => Value.int .u64 z)
  | [] => .nil
  | z :: l => .cons (.val rfl) (pow_rel l)
theorem start_of_laid {W : World} (hH : laidMetH Tryz.prog laidL W) : ∃ p q, noAgg p = true ∧ noAgg q = true ∧ Rep (gl p q) W.heap.size (startG (gl p q) W) (fun _ => none) W := by
  obtain ⟨h, hh⟩ : laidMet Tryz.prog laidP W ∧ handlesMet Tryz.prog [("errors.errorType", Rows.laid_errors_errorType)] W := by
    unfold laidMetH at hH
    rw [laid_some, laid_none] at hH
    exact hH
  have hw := strs_of_reads (L := wordsB) (Lib.laidMet.reads h (.tail _ (.tail _ (.tail _ (.tail _ (.tail _ (.head _))))))) gWords tWords Tryz.underlying234 Tryz.underlying9 cells9
  have hs := strs_of_reads (L := signsB) (Lib.laidMet.reads h (.tail _ (.tail _ (.tail _ (.tail _ (.tail _ (.tail _ (.head _)))))))) gSigns tSigns Tryz.underlying233 Tryz.underlying9 cells9
  obtain ⟨a1, s1, hv1, _⟩ := laid_sentinel h.tail.tail.tail gRange tRange Tryz.underlying163 rowES Tryz.underlying282 Tryz.underlying284 rfl rfl Tryz.underlying9 cellsES cells9
  obtain ⟨a2, s2, hv2, _⟩ := laid_sentinel h.tail.tail.tail.tail gSyntax tSyntax Tryz.underlying163 rowES Tryz.underlying282 Tryz.underlying284 rfl rfl Tryz.underlying9 cellsES cells9
  have he1 : W.cell? ⟨5, 0, none⟩ = some (.iface 282 (.pointer (some a1))) := by simpa using World.var?_cell gRange hv1 0
  have he2 : W.cell? ⟨4, 0, none⟩ = some (.iface 282 (.pointer (some a2))) := by simpa using World.var?_cell gSyntax hv2 0
  have he3 := errT_of hh
  have hpow : Lib.TabIs Tryz.prog W "internal/strconv.uint64pow10" .u64 Lib.pow10Tab := Lib.tabIs_of_head gPow tPow Tryz.underlying227 Tryz.underlying154 (by kernel_rfl) (by kernel_rfl) h.tail.tail
  have hpc : ∃ T fz, W.heap[1]? = some (.cells (Lib.pow10Tab.map fun z => Value.int .u64 z).toArray T fz) := by
    unfold Lib.TabIs World.var? at hpow
    rw [gPow] at hpow
    simp only [Option.bind_some] at hpow
    split at hpow
    · rename_i cs T fz hcs
      cases hpow
      exact ⟨_, _, hcs⟩
    · cases hpow
  refine ⟨.pointer (some a1), .pointer (some a2), rfl, rfl, start_rep (fun g cs hg => ?_) ?_⟩
  rotate_left
  · intro g cs hg h20
    unfold gl at hg
    split at hg
    · cases hg; simp [signsB] at h20
    · split at hg
      · cases hg; simp [wordsB] at h20
      · split at hg
        · cases hg; simp at h20
        · split at hg
          · cases hg; simp at h20
          · split at hg
            · cases hg; simp at h20
            · split at hg
              · rename_i e
                subst e
                obtain ⟨T, fz, hcs⟩ := hpc
                exact ⟨(Array.getElem?_eq_some_iff.1 hcs).1, _, T, fz, hcs, by simp [Lib.pow10Tab]⟩
              · cases hg
  have hone : ∀ {g : Nat} {v : V} {x : Value}, RelV (startG (gl (.pointer (some a1)) (.pointer (some a2))) W) v x → W.cell? ⟨g, 0, none⟩ = some x → ∃ us, RelL (startG (gl (.pointer (some a1)) (.pointer (some a2))) W) [v] us ∧ ∀ i u, us[i]? = some u → W.cell? ⟨g, i, none⟩ = some u := by
    intro g v x hv hc
    refine ⟨[x], .cons hv .nil, fun i u hu => ?_⟩
    cases i with
    | zero =>
      simp only [List.getElem?_cons_zero, Option.some.injEq] at hu
      rw [← hu]
      exact hc
    | succ i => simp at hu
  unfold gl at hg
  split at hg
  · rename_i h0
    subst h0
    cases hg
    refine ⟨_, rel_bs signsB, fun i u hu => ?_⟩
    rw [List.getElem?_map] at hu
    obtain ⟨s, h1, rfl⟩ := Option.map_eq_some_iff.1 hu
    exact hs i s h1
  · split at hg
    · rename_i h0
      subst h0
      cases hg
      refine ⟨_, rel_bs wordsB, fun i u hu => ?_⟩
      rw [List.getElem?_map] at hu
      obtain ⟨s, h1, rfl⟩ := Option.map_eq_some_iff.1 hu
      exact hw i s h1
    · split at hg
      · rename_i h0
        subst h0
        cases hg
        exact hone (.ifc (.val rfl)) he1
      · split at hg
        · rename_i h0
          subst h0
          cases hg
          exact hone (.ifc (.val rfl)) he2
        · split at hg
          · rename_i h0
            subst h0
            cases hg
            exact hone (.ifc (.agg (.cons (.ptr _ _) .nil))) he3
          · split at hg
            · rename_i h0
              subst h0
              cases hg
              obtain ⟨T, fz, hcs⟩ := hpc
              refine ⟨Lib.pow10Tab.map fun z => Value.int .u64 z, pow_rel _, fun i u hu => ?_⟩
              simp only [World.cell?, hcs, Option.isSome_none, Bool.false_eq_true, if_false]
              rw [List.getElem?_toArray]
              exact hu
            · cases hg
theorem env_gl (p q : Value) : Env2 (gl p q) where
  env := { lib := libOk, parse := parse28 (T := 282) (v := .val p) rfl, words := rfl, signs := rfl, errT := rfl }
  range := ⟨282, .val p, rfl⟩
  syn := ⟨282, .val q, rfl⟩
end Go.Av.Fn
