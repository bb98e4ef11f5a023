/- Entries copied; what is done with a right log. Conditions: az ahead. -/
import Derived.Test.YtfanfdflpakjeaaGreatDoorTFh
namespace Go.Av.Fn
set_option linter.unusedSimpArgs false
set_option linter.unusedVariables false
set_option maxRecDepth 10000
open Go.Proofs
theorem wN_entV (e : Ent) : wN (entV e) = entV e := by simp only [entV, wN, wNs]; rfl
theorem wNs_ents (l : List Ent) : wNs (l.map entV) = l.map entV := wNs_map wN_entV l
theorem wN_some {l : List Ent} {t : Tok} (h : l ≠ [] ∨ nilTok t = false) : wN (.sl (l.map entV) [] t) = entsV true l := by
 simp only [wN, wNs_ents, entsV, if_true]
 cases l with
 | nil =>
  have ht : nilTok t = false := by simpa using h
  have e2 : tokN [] t = .non := by
   cases t with
   | no => cases ht
   | full => cases ht
   | zero b => cases b <;> first | rfl | cases ht
   | _ => rfl
  simp only [List.map_nil, wNs, e2]
 | cons e l => rfl
theorem wN_entsV {nn : Bool} {l : List Ent} (h : nn = true ∨ l = []) : wN (entsV nn l) = entsV nn l := by
 cases nn
 ·have : l = [] := by simpa using h
  subst this
  rfl
 ·exact wN_some (.inr rfl)
theorem wN_lgV {nn : Bool} {x : Lg} (h : nn = true ∨ x.l = []) : wN (lgV nn x) = lgV nn x := by
 simp only [lgV, wN, wNs, wN_entsV h, bs]
theorem elemsB_ents (l : List Ent) : elemsB 8 (l.map entV) = true := by
 simp only [elemsB, List.all_map, List.all_eq_true]
 intro x _
 rfl
theorem szOk_ents (l : List Ent) : szOk 8 (l.map entV) = true := by
 simp only [szOk, List.all_map, List.all_eq_true]
 intro x _
 rfl
section
variable {Γ : Glob} {m : Store}
theorem eq_nil {xo yo : Operand} {l : List Ent} {more : List V} {t : Tok} (h : l ≠ [] ∨ nilTok t = false) : binV Tryz.prog .eql 54 .slice xo yo (.sl (l.map entV) more t) (.sl [] [] .full) = some (.val (.bool false)) := by
 have hs : someV .slice (.sl (l.map entV) more t) = true := by
  cases l with
  | nil =>
   have ht : nilTok t = false := by simpa using h
   simp only [List.map_nil, someV, ht]
   rfl
  | cons e l => rfl
 unfold binV
 rw [hs]
 rfl
theorem eq_nil_nil {xo yo : Operand} : binV Tryz.prog .eql 54 .slice xo yo (.sl [] [] .full) (.sl [] [] .full) = some (.val (.bool true)) := by kernel_rfl
theorem pClone_nil : ACalls Tryz.prog Γ 79 [.sl [] [] .full] m fun o m' => (∃ v, o = .ret v ∧ v = entsV false []) ∧ m' = m := by
 refine acalls_p mixed F79_ok F79_h gok_nil (by first | exact LR.nil | simp only [nbS]) ?_
 simp only [F79, ss0, Nat.reduceSub, Nat.reduceAdd]
 simp only [eq_nil_nil, ssH, Nat.reduceAdd, Nat.reduceLeDiff, reduceIte, Nat.reduceEqDiff, Nat.reduceLT, Int.reduceBEq, Int.reduceBNe]
 exact bodyH_ret resV_one ⟨(by simp only [tget_zero, tget_succ, nbS]), rfl⟩
theorem pClone_ok {t : Tok} (ht : nbT 0 t) (l : List Ent) (hl : l.length ≤ 1000000) (h : l ≠ [] ∨ nilTok t = false) : ACalls Tryz.prog Γ 79 [.sl (l.map entV) [] t] m fun o m' => (∃ v, o = .ret v ∧ v = entsV true l) ∧ m' = m := by
 have hnl := nbs_map (k := 0) nb_entV l
 have hne := nb_entsV (k := 0) true l
 refine acalls_pn mixed F79_ok F79_h gok_nil (by simp only [ht, hnl, nbS]) ?_
 simp only [F79, ss0, Nat.reduceSub, Nat.reduceAdd]
 simp only [eq_nil h, lits_zero, ssH, Nat.reduceAdd, Nat.reduceLeDiff, reduceIte, Nat.reduceEqDiff, Nat.reduceLT, Int.reduceBEq, Int.reduceBNe]
 by_cases h0 : l = []
 ·subst h0
  refine happ_none rfl ?_
  simp only [ssH, Nat.reduceAdd, Nat.reduceLeDiff, reduceIte, Nat.reduceEqDiff, Nat.reduceLT, Int.reduceBEq, Int.reduceBNe]
  exact bodyH_ret resV_one ⟨by simp only [tget_zero, tget_succ, wN, wNs, tokN, nilTok, Bool.false_eq_true, if_false, nbS], rfl⟩
 ·have hne2 : l.map entV ≠ [] := by simpa using h0
  refine happ_zero (ys := l.map entV) rfl hne2 (by simp only [List.length_cons, List.length_nil, Nat.reduceAdd, Nat.reduceLT]) rfl (elemsB_ents _) (by simp only [List.length_map, List.length_nil]; omega) ?_
  simp only [ssH, Nat.reduceAdd, Nat.reduceLeDiff, reduceIte, Nat.reduceEqDiff, Nat.reduceLT, Int.reduceBEq, Int.reduceBNe]
  have e : ∀ k, wN (.sl (l.map entV) [] (.tip k 0)) = entsV true l := fun k => wN_some (.inl h0)
  exact bodyH_ret resV_one ⟨by simp only [tget_zero, tget_succ, e, hne], by simp only [tget_zero, tget_succ, e]⟩
theorem pOfS_ok (E : Env Γ) {nn : Bool} {x : Lg} {g : FuncId} {X1 X2 : Blk} {a : Bool} {l : List Ent} {e : Int} (ha : a = true ∨ l = []) (h1 : nbB 0 X1) (h2 : nbB 0 X2)
  (hdo : lgB x = true → KCalls Tryz.prog Γ g [] none [X1, X2] fun v => v = .tup [entsV a l, it e]) :
  KCalls Tryz.prog Γ 77 [lgV nn x] (some g) [X1, X2] fun v => v = if lgB x = true then (if e = 0 then .tup [entsV a l, it 0] else .tup [entsV false [], it e]) else .tup [entsV false [], it 4] := by
 have hnb := nb_lgV (k := 0) nn x
 have hnx := nb_entsV (k := 0) nn x.l
 have hna := nb_entsV (k := 0) a l
 have hwa := wN_entsV ha
 refine kcalls mixed F77_ok F77_h gok_nil (by simp only [hnb, nbS]) (by intro X hX; simp only [List.mem_cons, List.not_mem_nil, or_false] at hX; rcases hX with rfl | rfl <;> assumption) ?_
 simp only [F77, closA, List.map, List.range, List.range.loop, lgV, ss0, Nat.reduceSub, Nat.reduceAdd]
 simp only [entsV, ssH, Nat.reduceAdd, Nat.reduceLeDiff, reduceIte, Nat.reduceEqDiff, Nat.reduceLT, Int.reduceBEq, Int.reduceBNe]
 refine hcall_pure (by exact fun m => pCheck_ok E nn x) (by simp only [lgV, entsV] at hnb; simp only [hnb, nbS]) (by first | exact LR.nil | simp only [nbS]) ?_
 cases hx : lgB x
 ·simp only [Bool.false_eq_true, if_false, ssH, Nat.reduceAdd, Nat.reduceLeDiff, reduceIte, Nat.reduceEqDiff, Nat.reduceLT, Int.reduceBEq, Int.reduceBNe]
  exact bodyH_ret resV_two ⟨by simp only [tget_zero, tget_succ, wN, wNs, tokN, nbS], rfl⟩
 ·simp only [if_true, ssH, Nat.reduceAdd, Nat.reduceLeDiff, reduceIte, Nat.reduceEqDiff, Nat.reduceLT, Int.reduceBEq, Int.reduceBNe]
  refine hcall_k [0, 1] (hdo hx) rfl rfl (by decide) ?_ (by first | exact LR.nil | simp only [nbS]) (by intro X hX; simp only [List.mem_cons, List.not_mem_nil, or_false] at hX; rcases hX with rfl | rfl <;> assumption) (by rintro v rfl; simp only [hna, nbS]) ?_
  ·intro i b X hb hX
   match i with
   | 0 => cases hb; cases hX; rfl
   | 1 => cases hb; cases hX; rfl
   | i + 2 => simp at hb
  rintro v rfl
  simp only [hdrop, ssH, Nat.reduceAdd, Nat.reduceLeDiff, reduceIte, Nat.reduceEqDiff, Nat.reduceLT, Int.reduceBEq, Int.reduceBNe]
  by_cases he : e = 0
  ·subst he
   simp only [if_true, ssH, Nat.reduceAdd, Nat.reduceLeDiff, reduceIte, Nat.reduceEqDiff, Nat.reduceLT, Int.reduceBEq, Int.reduceBNe]
   exact bodyH_ret resV_two ⟨by simp only [tget_zero, tget_succ, wN, wNs, hwa, hna, nbS], by simp only [tget_zero, tget_succ, wN, wNs, hwa]; rfl⟩
  ·have hb : (e != 0) = true := by simpa using he
   simp only [hb, if_neg he, ssH, Nat.reduceAdd, Nat.reduceLeDiff, reduceIte, Nat.reduceEqDiff, Nat.reduceLT, Int.reduceBEq, Int.reduceBNe]
   exact bodyH_ret resV_two ⟨by simp only [tget_zero, tget_succ, wN, wNs, tokN, nbS], rfl⟩
end
end Go.Av.Fn
/- What is above a number, and what is up to it. Conditions: az ahead. -/
namespace Go.Av.Fn
set_option linter.unusedSimpArgs false
set_option linter.unusedVariables false
set_option maxRecDepth 10000
open Go.Proofs
def logB (nn : Bool) (x : Lg) : Blk := .var 56 [it x.b, bs x.c, entsV nn x.l]
theorem nb_logB (nn : Bool) (x : Lg) : nbB 0 (logB nn x) := by
 have := nb_entsV (k := 0) nn x.l
 simp only [logB, this, nbS]
theorem cells_ents {nn : Bool} {l : List Ent} : (entsV nn l).cells = [entsV nn l] := (rfl)
theorem oneV_ents {nn : Bool} {l : List Ent} : oneV (entsV nn l) = true := (rfl)
theorem cut_from {nn : Bool} {l : List Ent} (h : nn = true ∨ l = []) {n : Nat} (hn : n ≤ l.length) : sliceLF 8 (entsV nn l) (some (some (n : Int))) (some none) (some none) = some (entsV nn (l.drop n)) := by
 have hs : szOk 8 (l.map entV ++ []) = true := by rw [List.append_nil]; exact szOk_ents l
 simp only [entsV, sliceLF, hs, if_true, cutV, Option.getD_none, Option.getD_some, Int.toNat_natCast, List.length_map]
 rw [if_pos ⟨by omega, hn, by omega⟩, List.map_drop]
 cases nn
 ·have hl : l = [] := by simpa using h
  subst hl
  have : n = 0 := by simpa using hn
  subst this
  rfl
 ·rfl
def upV (nn : Bool) (l : List Ent) (n : Nat) : V := .sl ((l.take n).map entV) [] (if 0 < n then .full else if nn then .zero true else .full)
theorem cut_upto {nn : Bool} {l : List Ent} (h : nn = true ∨ l = []) {n : Nat} (hn : n ≤ l.length) : sliceLF 8 (entsV nn l) (some none) (some (some (n : Int))) (some (some (n : Int))) = some (upV nn l n) := by
 have hs : szOk 8 (l.map entV ++ []) = true := by rw [List.append_nil]; exact szOk_ents l
 simp only [entsV, sliceLF, hs, if_true, cutV, Option.getD_none, Option.getD_some, Int.toNat_natCast, List.length_map, Int.toNat_zero, List.drop_zero]
 rw [if_pos ⟨by omega, by omega, by omega, rfl, trivial, by omega, hn⟩, upV, List.map_take]
 congr 2
 simp only [cutEnd]
 by_cases h0 : 0 < n
 ·rw [if_pos h0, if_pos h0]
 ·rw [if_neg h0, if_neg h0]
  cases l with
  | nil => cases nn <;> rfl
  | cons e l =>
   have : nn = true := by simpa using h
   subst this
   rfl
section
variable {Γ : Glob} {m : Store}
theorem pClone_e {nn : Bool} {l : List Ent} (h : nn = true ∨ l = []) (hl : l.length ≤ 1000000) : ACalls Tryz.prog Γ 79 [entsV nn l] m fun o m' => o = .ret (entsV nn l) ∧ m' = m := by
 cases nn
 ·have : l = [] := by simpa using h
  subst this
  exact acalls_v pClone_nil
 ·exact acalls_v (pClone_ok (t := .non) trivial l hl (.inr rfl))
theorem pClone_u {nn : Bool} {l : List Ent} (h : nn = true ∨ l = []) (hl : l.length ≤ 1000000) {n : Nat} (hn : n ≤ l.length) : ACalls Tryz.prog Γ 79 [upV nn l n] m fun o m' => o = .ret (entsV nn (l.take n)) ∧ m' = m := by
 have hle : (l.take n).length ≤ 1000000 := by simp; omega
 cases nn
 ·have : l = [] := by simpa using h
  subst this
  have : n = 0 := by simpa using hn
  subst this
  exact acalls_v pClone_nil
 ·by_cases h0 : 0 < n
  ·have := acalls_v (pClone_ok (Γ := Γ) (m := m) (t := .full) trivial (l.take n) hle (.inl (by intro e; have := congrArg List.length e; rw [List.length_take] at this; simp only [List.length_nil] at this; omega)))
   simpa only [upV, if_pos h0] using this
  ·have := acalls_v (pClone_ok (Γ := Γ) (m := m) (t := .zero true) rfl (l.take n) hle (.inr rfl))
   simpa only [upV, if_neg h0, if_true] using this
theorem nb_upV {k : Nat} {nn : Bool} {l : List Ent} {n : Nat} : nb k (upV nn l n) := by
 have := nbs_map (k := k) nb_entV (l.take n)
 unfold upV
 split
 ·simp only [this, nbS]
 ·split <;> simp only [this, nbS]
theorem withL_le {x : Lg} {op : Int} (hx : lgB x = true) (h : (withL x.b x.l.length op).2 = 0) : ∃ n : Nat, (withL x.b x.l.length op).1 = (n : Int) ∧ n ≤ x.l.length ∧ op = x.b + n := by
 unfold withL at h ⊢
 split at h
 ·cases h
 ·rename_i h1
  rw [if_neg h1]
  split at h
  ·cases h
  ·rename_i h2
   rw [if_neg h2]
   exact ⟨(op - x.b).toNat, by show op - x.b = _; omega, by omega, by omega⟩
theorem two_blk {X1 X2 : Blk} (h1 : nbB 0 X1) (h2 : nbB 0 X2) : ∀ X ∈ [X1, X2], nbB 0 X := by
 intro X hX
 simp only [List.mem_cons, List.not_mem_nil, or_false] at hX
 rcases hX with rfl | rfl <;> assumption
theorem two_get {h : Hl} {X1 X2 : Blk} {a b : Nat} (h1 : lk h a = some X1) (h2 : lk h b = some X2) : ∀ (i c : Nat) (X : Blk), [a, b][i]? = some c → [X1, X2][i]? = some X → lk h c = some X := by
 intro i c X hb hX
 match i with
 | 0 => cases hb; cases hX; exact h1
 | 1 => cases hb; cases hX; exact h2
 | i + 2 => simp at hb
def intB (n : Int) : Blk := .var 3 [it n]
theorem nb_intB (n : Int) : nbB 0 (intB n) := by simp only [intB, nbS]
theorem pAfter1_ok {nn : Bool} {x : Lg} (hn : nn = true ∨ x.l = []) (op : Int) (hx : lgB x = true) :
  KCalls Tryz.prog Γ 78 [] none [logB nn x, intB op] fun v => v = .tup [if (withL x.b x.l.length op).2 = 0 then entsV nn (x.l.drop (withL x.b x.l.length op).1.toNat) else entsV false [], it (withL x.b x.l.length op).2] := by
 have hnb := nb_lgV (k := 0) nn x
 have hle : x.l.length ≤ 64 := by simp only [lgB, Bool.and_eq_true, decide_eq_true_eq] at hx; omega
 have hnx := nb_entsV (k := 0) nn x.l
 refine kcalls mixed F78_ok F78_h gok_nil (by first | exact LR.nil | simp only [nbS]) (two_blk (nb_logB nn x) (nb_intB op)) ?_
 simp only [F78, closA, logB, intB, List.length_cons, List.length_nil, Nat.reduceAdd, List.range, List.range.loop, List.map, ss0, Nat.reduceSub, Nat.reduceAdd]
 simp only [ssH, Nat.reduceAdd, Nat.reduceLeDiff, reduceIte, Nat.reduceEqDiff, Nat.reduceLT, Int.reduceBEq, Int.reduceBNe]
 refine hcall_pure (by exact fun m => pWithin_ok nn x op hx) (by simp only [lgV] at hnb; simp only [hnb, nbS]) (by first | exact LR.nil | simp only [nbS]) ?_
 by_cases he : (withL x.b x.l.length op).2 = 0
 ·obtain ⟨n, h1, h2, _⟩ := withL_le hx he
  have hnd := nb_entsV (k := 0) nn (x.l.drop n)
  have hn2 : nn = true ∨ x.l.drop n = [] := hn.imp id fun h => by rw [h, List.drop_nil]
  have hw := wN_entsV hn2
  simp only [he, h1, if_true, Int.toNat_natCast, eval_sliceL, optEv, optV, cut_from hn h2, ssH, Nat.reduceAdd, Nat.reduceLeDiff, reduceIte, Nat.reduceEqDiff, Nat.reduceLT, Int.reduceBEq, Int.reduceBNe]
  refine hcall_pure (by exact fun m => pClone_e hn2 (by simp; omega)) (by simp only [hnd, nbS]) (by simp only [hnd]) ?_
  simp only [ssH, Nat.reduceAdd, Nat.reduceLeDiff, reduceIte, Nat.reduceEqDiff, Nat.reduceLT, Int.reduceBEq, Int.reduceBNe]
  exact bodyH_ret resV_two ⟨by simp only [tget_zero, tget_succ, wN, wNs, hw, hnd, nbS], by simp only [tget_zero, tget_succ, wN, wNs, hw]⟩
 ·have hb : ((withL x.b x.l.length op).2 != 0) = true := by simpa using he
  simp only [hb, if_neg he, ssH, Nat.reduceAdd, Nat.reduceLeDiff, reduceIte, Nat.reduceEqDiff, Nat.reduceLT, Int.reduceBEq, Int.reduceBNe]
  exact bodyH_ret resV_two ⟨by simp only [tget_zero, tget_succ, wN, wNs, tokN, nbS], rfl⟩
def afterL (nn : Bool) (x : Lg) (op : Int) : Bool × List Ent × Int :=
 if lgB x = true then (if (withL x.b x.l.length op).2 = 0 then (nn, x.l.drop (withL x.b x.l.length op).1.toNat, 0) else (false, [], (withL x.b x.l.length op).2)) else (false, [], 4)
theorem afterL_nil {nn : Bool} {x : Lg} (hn : nn = true ∨ x.l = []) {op : Int} : (afterL nn x op).1 = true ∨ (afterL nn x op).2.1 = [] := by
 unfold afterL
 split
 ·split
  ·exact hn.imp id fun h => by rw [h, List.drop_nil]
  ·exact .inr rfl
 ·exact .inr rfl
theorem pAfter_ok (E : Env Γ) {nn : Bool} {x : Lg} (hn : nn = true ∨ x.l = []) (op : Int) :
  ACalls Tryz.prog Γ 34 [lgV nn x, it op] m fun o m' => o = .ret (.tup [entsV (afterL nn x op).1 (afterL nn x op).2.1, it (afterL nn x op).2.2]) ∧ m' = m := by
 have hnb := nb_lgV (k := 0) nn x
 have hnx := nb_entsV (k := 0) nn x.l
 have hna := nb_entsV (k := 0) (afterL nn x op).1 (afterL nn x op).2.1
 have hwa := wN_entsV (afterL_nil hn (op := op))
 refine acalls_v (acalls_pn mixed F34_ok F34_h gok_nil (by simp only [hnb, nbS]) ?_)
 simp only [F34, lgV, ss0, Nat.reduceSub, Nat.reduceAdd]
 simp only [cells_agg, ssH, Nat.reduceAdd, Nat.reduceLeDiff, reduceIte, Nat.reduceEqDiff, Nat.reduceLT, Int.reduceBEq, Int.reduceBNe]
 by_cases he : (withL x.b x.l.length op).2 = 0
 ·refine hcall_k [0, 1] (pOfS_ok E (nn := nn) (x := x) (a := nn) (l := x.l.drop (withL x.b x.l.length op).1.toNat) (e := 0) (hn.imp id fun h => by rw [h, List.drop_nil]) (nb_logB nn x) (nb_intB op) (fun hx => by have := pAfter1_ok (Γ := Γ) hn op hx; simpa only [he, if_true] using this)) rfl rfl (by decide) (two_get rfl rfl) (by simp only [lgV] at hnb; simp only [lgV, hnb, nbS]) (two_blk (nb_logB nn x) (nb_intB op)) ?_ ?_
  ·rintro v rfl
   split <;> simp only [nb_entsV, if_true, nbS]
  ·rintro v hv
   have : v = .tup [entsV (afterL nn x op).1 (afterL nn x op).2.1, it (afterL nn x op).2.2] := by
    rw [hv]
    unfold afterL
    split <;> simp only [he, if_true]
   subst this
   simp only [hdrop, ssH, Nat.reduceAdd, Nat.reduceLeDiff, reduceIte, Nat.reduceEqDiff, Nat.reduceLT, Int.reduceBEq, Int.reduceBNe]
   exact bodyH_ret resV_two ⟨by simp only [tget_zero, tget_succ, wN, wNs, hwa, hna, nbS], by simp only [tget_zero, tget_succ, wN, wNs, hwa]⟩
 ·refine hcall_k [0, 1] (pOfS_ok E (nn := nn) (x := x) (a := false) (l := []) (e := (withL x.b x.l.length op).2) (.inr rfl) (nb_logB nn x) (nb_intB op) (fun hx => by have := pAfter1_ok (Γ := Γ) hn op hx; simpa only [if_neg he] using this)) rfl rfl (by decide) (two_get rfl rfl) (by simp only [lgV] at hnb; simp only [lgV, hnb, nbS]) (two_blk (nb_logB nn x) (nb_intB op)) ?_ ?_
  ·rintro v rfl
   split <;> simp only [nb_entsV, if_neg he, nbS]
  ·rintro v hv
   have : v = .tup [entsV (afterL nn x op).1 (afterL nn x op).2.1, it (afterL nn x op).2.2] := by
    rw [hv]
    unfold afterL
    split <;> simp only [he, if_false]
   subst this
   simp only [hdrop, ssH, Nat.reduceAdd, Nat.reduceLeDiff, reduceIte, Nat.reduceEqDiff, Nat.reduceLT, Int.reduceBEq, Int.reduceBNe]
   exact bodyH_ret resV_two ⟨by simp only [tget_zero, tget_succ, wN, wNs, hwa, hna, nbS], by simp only [tget_zero, tget_succ, wN, wNs, hwa]⟩
end
end Go.Av.Fn
/- What is done with a right log: logs. What is up to a number. Conditions: az ahead. -/
namespace Go.Av.Fn
set_option linter.unusedSimpArgs false
set_option linter.unusedVariables false
set_option maxRecDepth 10000
open Go.Proofs
def lg0 : Lg := ⟨0, [], []⟩
section
variable {Γ : Glob} {m : Store}
theorem pOfL2_ok (E : Env Γ) {nn : Bool} {x : Lg} {g : FuncId} {X1 X2 : Blk} {a : Bool} {y : Lg} {e : Int} (ha : a = true ∨ y.l = []) (hX : ∀ X ∈ [X1, X2], nbB 0 X)
  (hdo : lgB x = true → KCalls Tryz.prog Γ g [] none [X1, X2] fun v => v = .tup [lgV a y, it e]) :
  KCalls Tryz.prog Γ 85 [lgV nn x] (some g) [X1, X2] fun v => v = if lgB x = true then (if e = 0 then .tup [lgV a y, it 0] else .tup [lgV false lg0, it e]) else .tup [lgV false lg0, it 4] := by
 have hnb := nb_lgV (k := 0) nn x
 have hna := nb_lgV (k := 0) a y
 have hn0 := nb_lgV (k := 0) false lg0
 have hwa := wN_lgV ha
 have hw0 := wN_lgV (nn := false) (x := lg0) (.inr rfl)
 refine kcalls mixed F85_ok F85_h gok_nil (by simp only [hnb, nbS]) hX ?_
 simp only [F85, closA, List.length_cons, List.length_nil, Nat.reduceAdd, List.range, List.range.loop, List.map, lgV, ss0, Nat.reduceSub, Nat.reduceAdd]
 simp only [cells_agg, oneV_ents, ssH, Nat.reduceAdd, Nat.reduceLeDiff, reduceIte, Nat.reduceEqDiff, Nat.reduceLT, Int.reduceBEq, Int.reduceBNe]
 refine hcall_pure (by exact fun m => pCheck_ok E nn x) (by simp only [lgV] at hnb; simp only [hnb, nbS]) (by first | exact LR.nil | simp only [nbS]) ?_
 cases hx : lgB x
 ·simp only [Bool.false_eq_true, if_false, ssH, Nat.reduceAdd, Nat.reduceLeDiff, reduceIte, Nat.reduceEqDiff, Nat.reduceLT, Int.reduceBEq, Int.reduceBNe]
  exact bodyH_ret (v := .tup [lgV false lg0, it 4]) rfl ⟨by simp only [wN, wNs, hw0, hn0, nbS], by simp only [wN, wNs, hw0]; rfl⟩
 ·simp only [if_true, ssH, Nat.reduceAdd, Nat.reduceLeDiff, reduceIte, Nat.reduceEqDiff, Nat.reduceLT, Int.reduceBEq, Int.reduceBNe]
  refine hcall_k [0, 1] (hdo hx) rfl rfl (by decide) (two_get rfl rfl) (by first | exact LR.nil | simp only [nbS]) hX (by rintro v rfl; simp only [hna, nbS]) ?_
  rintro v rfl
  simp only [hdrop, lgV, cells_agg, oneV_ents, ssH, Nat.reduceAdd, Nat.reduceLeDiff, reduceIte, Nat.reduceEqDiff, Nat.reduceLT, Int.reduceBEq, Int.reduceBNe]
  by_cases he : e = 0
  ·subst he
   simp only [if_true, cells_agg, oneV_ents, ssH, Nat.reduceAdd, Nat.reduceLeDiff, reduceIte, Nat.reduceEqDiff, Nat.reduceLT, Int.reduceBEq, Int.reduceBNe]
   exact bodyH_ret (v := .tup [lgV a y, it 0]) rfl ⟨by simp only [wN, wNs, hwa, hna, nbS], by simp only [wN, wNs, hwa]; rfl⟩
  ·have hb : (e != 0) = true := by simpa using he
   simp only [hb, if_neg he, cells_agg, oneV_ents, ssH, Nat.reduceAdd, Nat.reduceLeDiff, reduceIte, Nat.reduceEqDiff, Nat.reduceLT, Int.reduceBEq, Int.reduceBNe]
   exact bodyH_ret (v := .tup [lgV false lg0, it e]) rfl ⟨by simp only [wN, wNs, hw0, hn0, nbS], by simp only [wN, wNs, hw0]; rfl⟩
def cutIn (nn : Bool) (x : Lg) (op : Int) : Bool × Lg × Int :=
 if (withL x.b x.l.length op).2 = 0 then (nn, ⟨x.b, x.c, x.l.take (withL x.b x.l.length op).1.toNat⟩, 0) else (false, lg0, (withL x.b x.l.length op).2)
def doL (x : Lg) (r : Bool × Lg × Int) : Bool × Lg × Int := if lgB x = true then (if r.2.2 = 0 then r else (false, lg0, r.2.2)) else (false, lg0, 4)
theorem doL_nil {x : Lg} {r : Bool × Lg × Int} (h : r.1 = true ∨ r.2.1.l = []) : (doL x r).1 = true ∨ (doL x r).2.1.l = [] := by
 unfold doL
 split
 ·split
  ·exact h
  ·exact .inr rfl
 ·exact .inr rfl
theorem doL_v {x : Lg} {r : Bool × Lg × Int} : (if lgB x = true then (if r.2.2 = 0 then V.tup [lgV r.1 r.2.1, it 0] else .tup [lgV false lg0, it r.2.2]) else .tup [lgV false lg0, it 4]) = .tup [lgV (doL x r).1 (doL x r).2.1, it (doL x r).2.2] := by
 unfold doL
 by_cases h : lgB x = true
 ·by_cases he : r.2.2 = 0
  ·simp only [if_pos h, if_pos he]
   rw [he]
  ·simp only [if_pos h, if_neg he]
 ·simp only [if_neg h]
theorem cutIn_nil {nn : Bool} {x : Lg} (hn : nn = true ∨ x.l = []) {op : Int} : (cutIn nn x op).1 = true ∨ (cutIn nn x op).2.1.l = [] := by
 unfold cutIn
 split
 ·exact hn.imp id fun h => by rw [h, List.take_nil]
 ·exact .inr rfl
theorem pCut1_ok {nn : Bool} {x : Lg} (hn : nn = true ∨ x.l = []) (op : Int) (hx : lgB x = true) :
  KCalls Tryz.prog Γ 88 [] none [logB nn x, intB op] fun v => v = .tup [lgV (cutIn nn x op).1 (cutIn nn x op).2.1, it (cutIn nn x op).2.2] := by
 have hnb := nb_lgV (k := 0) nn x
 have hle : x.l.length ≤ 64 := by simp only [lgB, Bool.and_eq_true, decide_eq_true_eq] at hx; omega
 refine kcalls mixed F88_ok F88_h gok_nil (by first | exact LR.nil | simp only [nbS]) (two_blk (nb_logB nn x) (nb_intB op)) ?_
 simp only [F88, closA, logB, intB, List.length_cons, List.length_nil, Nat.reduceAdd, List.range, List.range.loop, List.map, ss0, Nat.reduceSub, Nat.reduceAdd]
 simp only [ssH, Nat.reduceAdd, Nat.reduceLeDiff, reduceIte, Nat.reduceEqDiff, Nat.reduceLT, Int.reduceBEq, Int.reduceBNe]
 refine hcall_pure (by exact fun m => pWithin_ok nn x op hx) (by simp only [lgV] at hnb; simp only [hnb, nbS]) (by first | exact LR.nil | simp only [nbS]) ?_
 by_cases he : (withL x.b x.l.length op).2 = 0
 ·obtain ⟨n, h1, h2, _⟩ := withL_le hx he
  have hnd := nb_entsV (k := 0) nn (x.l.take n)
  have hr : cutIn nn x op = (nn, ⟨x.b, x.c, x.l.take n⟩, 0) := by simp only [cutIn, he, h1, if_true, Int.toNat_natCast]
  have hnl := nb_lgV (k := 0) nn ⟨x.b, x.c, x.l.take n⟩
  have hw := wN_lgV (nn := nn) (x := ⟨x.b, x.c, x.l.take n⟩) (hn.imp id fun h => by simp [h])
  rw [hr]
  simp only [he, h1, if_true, eval_sliceL, optEv, optV, cut_upto hn h2, ssH, Nat.reduceAdd, Nat.reduceLeDiff, reduceIte, Nat.reduceEqDiff, Nat.reduceLT, Int.reduceBEq, Int.reduceBNe]
  refine hcall_pure (by exact fun m => pClone_u hn (by omega) h2) (by simp only [nb_upV, nbS]) (by simp only [hnd]) ?_
  simp only [cells_ents, oneV_ents, cells_agg, ssH, Nat.reduceAdd, Nat.reduceLeDiff, reduceIte, Nat.reduceEqDiff, Nat.reduceLT, Int.reduceBEq, Int.reduceBNe]
  exact bodyH_ret (v := .tup [lgV nn ⟨x.b, x.c, x.l.take n⟩, it 0]) rfl ⟨by simp only [wN, wNs, hw, hnl, nbS], by simp only [wN, wNs, hw]⟩
 ·have hb : ((withL x.b x.l.length op).2 != 0) = true := by simpa using he
  have hn0 := nb_lgV (k := 0) false lg0
  have hw0 := wN_lgV (nn := false) (x := lg0) (.inr rfl)
  have hr : cutIn nn x op = (false, lg0, (withL x.b x.l.length op).2) := by simp only [cutIn, if_neg he]
  rw [hr]
  simp only [hb, ssH, Nat.reduceAdd, Nat.reduceLeDiff, reduceIte, Nat.reduceEqDiff, Nat.reduceLT, Int.reduceBEq, Int.reduceBNe]
  exact bodyH_ret (v := .tup [lgV false lg0, it (withL x.b x.l.length op).2]) rfl ⟨by simp only [wN, wNs, hw0, hn0, nbS], by simp only [wN, wNs, hw0]⟩
theorem pCut_ok (E : Env Γ) {nn : Bool} {x : Lg} (hn : nn = true ∨ x.l = []) (op : Int) :
  ACalls Tryz.prog Γ 44 [lgV nn x, it op] m fun o m' => o = .ret (.tup [lgV (doL x (cutIn nn x op)).1 (doL x (cutIn nn x op)).2.1, it (doL x (cutIn nn x op)).2.2]) ∧ m' = m := by
 have hnb := nb_lgV (k := 0) nn x
 have hdn := doL_nil (x := x) (cutIn_nil hn (op := op))
 refine acalls_v (acalls_pn mixed F44_ok F44_h gok_nil (by simp only [hnb, nbS]) ?_)
 simp only [F44, lgV, ss0, Nat.reduceSub, Nat.reduceAdd]
 simp only [cells_agg, ssH, Nat.reduceAdd, Nat.reduceLeDiff, reduceIte, Nat.reduceEqDiff, Nat.reduceLT, Int.reduceBEq, Int.reduceBNe]
 refine hcall_k [0, 1] (pOfL2_ok E (nn := nn) (x := x) (cutIn_nil hn (op := op)) (two_blk (nb_logB nn x) (nb_intB op)) (fun hx => pCut1_ok hn op hx)) rfl rfl (by decide) (two_get rfl rfl) (by simp only [hnb, nbS]) (two_blk (nb_logB nn x) (nb_intB op)) ?_ ?_
 ·rintro v rfl
  rw [doL_v]
  simp only [nb_lgV, nbS]
 ·rintro v rfl
  rw [doL_v]
  generalize doL x (cutIn nn x op) = r at hdn
  obtain ⟨a, y, e⟩ := r
  have hwa := wN_lgV hdn
  have hna := nb_lgV (k := 0) a y
  simp only [hdrop, lgV, cells_agg, oneV_ents, ssH, Nat.reduceAdd, Nat.reduceLeDiff, reduceIte, Nat.reduceEqDiff, Nat.reduceLT, Int.reduceBEq, Int.reduceBNe]
  exact bodyH_ret (v := .tup [lgV a y, it e]) rfl ⟨by simp only [wN, wNs, hwa, hna, nbS], by simp only [wN, wNs, hwa]; rfl⟩
end
end Go.Av.Fn
/- Entries compared; rows of them. Conditions: az ahead. -/
namespace Go.Av
set_option linter.unusedSimpArgs false
set_option linter.unusedVariables false
section
variable {P : Program}
def eqF2 (P : Program) (T0 : TypeId) (xs ys : Array Value) : List Field → Option Bool
 | [] => some true
 | f :: fs => if f.name = "_" then eqF2 P T0 xs ys fs else match pureOf P (part f.type xs f.offset), pureOf P (part f.type ys f.offset) with
  | some a, some b => match (match a, b with | .agg az', .agg bs' => if f.type = T0 then eqF P az' bs' (P.fieldsOf T0).toList else none | a, b => eqField P f.type a b), eqF2 P T0 xs ys fs with
   | some r, some q => some (r && q)
   | _, _ => none
  | _, _ => none
theorem eqF2_sound {T0 : TypeId} (ht : P.underlying T0 = some (.struct (P.fieldsOf T0))) (hp : P.stoodInHeld T0 = false) {xs ys : Array Value} {d : Nat} : ∀ {fs : List Field} {r : Bool}, eqF2 P T0 xs ys fs = some r → pureOf P (Op.eqFields (d + 1 + 1) xs ys fs) = some r
 | [], r, h => by
  simp only [eqF2, Option.some.injEq] at h
  subst h
  rfl
 | f :: fs, r, h => by
  simp only [eqF2] at h
  split at h
  ·rename_i hn
   simp only [Op.eqFields, hn, ne_eq, not_true_eq_false, if_false]
   exact eqF2_sound ht hp h
  ·rename_i hn
   split at h
   ·rename_i a b ha hb
    split at h
    ·rename_i q1 q2 h1 h2
     simp only [Option.some.injEq] at h
     subst h
     have key : pureOf P (Op.equalIn (d + 1 + 1) f.type a b) = some q1 := by
      split at h1
      ·split at h1
       ·rename_i e
        rw [e, pureOf_equalIn_struct _ _ _ _ ht hp]
        exact eqF_sound h1
       ·cases h1
      ·exact eqField_sound h1
     simp only [Op.eqFields, ne_eq, hn, not_false_eq_true, if_true, pureOf_bind, ha, hb, Option.bind_some, key]
     cases q1
     ·rfl
     ·simpa using eqF2_sound ht hp h2
    ·cases h
   ·cases h
theorem struct_eq2 {T T0 : TypeId} {xo yo : Operand} {cs cs' : List V} {xs ys : List Value} {r : Bool} (ht : P.underlying T = some (.struct (P.fieldsOf T))) (hp : P.stoodInHeld T = false) (hg : P.eqGuardType P.depth T = false)
  (ht0 : P.underlying T0 = some (.struct (P.fieldsOf T0))) (hp0 : P.stoodInHeld T0 = false)
  (h1 : raws cs = some xs) (h2 : raws cs' = some ys) (he : eqF2 P T0 xs.toArray ys.toArray (P.fieldsOf T).toList = some r) :
  binV P .eql T .other xo yo (.agg cs) (.agg cs') = some (.val (.bool r)) ∧ binV P .neq T .other xo yo (.agg cs) (.agg cs') = some (.val (.bool !r)) := by
 have e0 : pureOf P (Op.equal T (.agg xs.toArray) (.agg ys.toArray)) = some r := by
  show pureOf P (Op.equalIn (9997 + 1 + 1 + 1) T _ _) = some r
  rw [pureOf_equalIn_struct _ _ _ _ ht hp]
  exact eqF2_sound ht0 hp0 he
 have g : ∀ op, pureOf P (eqGuard op T xo yo (.agg xs.toArray) (.agg ys.toArray)) = some () := by
  intro op
  unfold eqGuard
  split <;> simp only [Bool.not_true, Bool.not_false, Bool.false_eq_true, if_false, if_true, pureOf_bind, pureOf_program, Option.bind_some, hg, pureOf_pure]
 have r1 : raw (.agg cs) = some (.agg xs.toArray) := by simp only [raw, h1, Option.map_some]
 have r2 : raw (.agg cs') = some (.agg ys.toArray) := by simp only [raw, h2, Option.map_some]
 refine ⟨?_, ?_⟩
 ·simp only [binV, someV, isNilOf, Bool.false_and, Bool.and_false, Bool.or_false, Bool.false_eq_true, if_false, r1, r2, isSliceC, binOp, pureOf_bind, g, Option.bind_some, e0, pureOf_pure]
  rfl
 ·simp only [binV, someV, isNilOf, Bool.false_and, Bool.and_false, Bool.or_false, Bool.false_eq_true, if_false, r1, r2, isSliceC, binOp, pureOf_bind, g, Option.bind_some, e0, pureOf_pure]
  rfl
end
end Go.Av
namespace Go.Av.Fn
set_option linter.unusedSimpArgs false
set_option linter.unusedVariables false
set_option maxRecDepth 10000
open Go.Proofs
theorem ent_cmp (xo yo : Operand) (a b : Ent) : binV Tryz.prog .eql 60 .other xo yo (entV a) (entV b) = some (.val (.bool (decide (a = b)))) ∧ binV Tryz.prog .neq 60 .other xo yo (entV a) (entV b) = some (.val (.bool (!decide (a = b)))) := by
 obtain ⟨c, q, k, n, s, ck, cn, cs⟩ := a
 obtain ⟨c', q', k', n', s', ck', cn', cs'⟩ := b
 have h := struct_eq2 (P := Tryz.prog) (T := 60) (T0 := 24) (xo := xo) (yo := yo) (cs := [it c, it q, it k, it n, bs s, it ck, it cn, bs cs]) (cs' := [it c', it q', it k', it n', bs s', it ck', it cn', bs cs'])
  (xs := [.int .i64 c, .int .i64 q, .int .i64 k, .int .i64 n, .string ⟨s.toArray⟩, .int .i64 ck, .int .i64 cn, .string ⟨cs.toArray⟩]) (ys := [.int .i64 c', .int .i64 q', .int .i64 k', .int .i64 n', .string ⟨s'.toArray⟩, .int .i64 ck', .int .i64 cn', .string ⟨cs'.toArray⟩])
  (r := (c == c' && (q == q' && (k == k' && (n == n' && ((ByteArray.mk s.toArray).toList == (ByteArray.mk s'.toArray).toList && ((ck == ck' && (cn == cn' && ((ByteArray.mk cs.toArray).toList == (ByteArray.mk cs'.toArray).toList && true))) && true)))))))
  (by kernel_rfl) (by kernel_rfl) (by kernel_rfl) (by kernel_rfl) (by kernel_rfl) rfl rfl (by kernel_rfl)
 have e : (c == c' && (q == q' && (k == k' && (n == n' && ((ByteArray.mk s.toArray).toList == (ByteArray.mk s'.toArray).toList && ((ck == ck' && (cn == cn' && ((ByteArray.mk cs.toArray).toList == (ByteArray.mk cs'.toArray).toList && true))) && true)))))) = decide ((⟨c, q, k, n, s, ck, cn, cs⟩ : Ent) = ⟨c', q', k', n', s', ck', cn', cs'⟩) := by
  simp only [ba_toList]
  rw [Bool.eq_iff_iff]
  simp [and_assoc]
 rw [e] at h
 exact h
theorem relNo {G : Gh} {es more : List V} {tok : Tok} {u : Value} (h : RelV G (.sl es more tok) u) : RelV G (.sl es more .no) u := by
 cases h with
 | nil h => exact .nil rfl
 | sl a b c d e f => exact .sl a b c d e trivial
theorem acalls_weak {P : Program} {Γ : Glob} {f : FuncId} {args args' : List V} {m : Store} {R : Out → Store → Prop} (h : ∀ G cargs, RelL G args cargs → RelL G args' cargs) (hc : ACalls P Γ f args' m R) : ACalls P Γ f args m R :=
 ⟨hc.1, fun G B0 mF w cargs hD hR hL => hc.2 G B0 mF w cargs hD hR (h G cargs hL)⟩
section
variable {Γ : Glob} {m : Store}
theorem pSameE_ok (nn : Bool) {t : Tok} (la lb : List Ent) (ht : nbT 0 t) (hl : la.length < 4611686018427387904) :
  ACalls Tryz.prog Γ 40 [.sl (la.map entV) [] t, entsV nn lb] m fun o m' => o = .ret (.val (.bool (decide (la = lb)))) ∧ m' = m := by
 have hnb := nb_entsV (k := 0) nn lb
 have hna := nbs_map (k := 0) nb_entV la
 refine acalls_v (acalls_p mixed F40_ok F40_h gok_nil (by simp only [hnb, hna, ht, nbS]) ?_)
 simp only [F40, ss0, Nat.reduceSub, Nat.reduceAdd]
 simp only [entsV, List.length_map, ssH, Nat.reduceAdd, Nat.reduceLeDiff, reduceIte, Nat.reduceEqDiff, Nat.reduceLT, Int.reduceBEq, Int.reduceBNe]
 by_cases h0 : la.length = lb.length
 case neg =>
  have hb : ((la.length : Int) != (lb.length : Int)) = true := by simp; omega
  simp only [hb, ssH, Nat.reduceAdd, Nat.reduceLeDiff, reduceIte, Nat.reduceEqDiff, Nat.reduceLT, Int.reduceBEq, Int.reduceBNe]
  exact bodyH_ret resV_one ⟨(by simp only [tget_zero, tget_succ, nbS]), by rw [decide_eq_false (by rintro rfl; exact h0 rfl)]; rfl⟩
 have hb : ((la.length : Int) != (lb.length : Int)) = false := by simp; omega
 simp only [hb, ssH, Nat.reduceAdd, Nat.reduceLeDiff, reduceIte, Nat.reduceEqDiff, Nat.reduceLT, Int.reduceBEq, Int.reduceBNe]
 refine h_loop [0, 1, 5] 26 (fun n vs h => ∃ i : Nat, vs = [.sl (la.map entV) [] t, entsV nn lb, it i] ∧ i + n = la.length + 1 ∧ i ≤ la.length ∧ la.take i = lb.take i) (la.length + 1) (by decide) (by decide) (List.range 0) (back_take rfl (Nat.le_refl _) (by decide) (by simp) (by show nbs 0 [.sl (la.map entV) [] t, entsV nn lb, it 0]; simp only [hnb, hna, ht, nbS]) (fun a ha => by omega) ⟨0, rfl, by omega, by omega, by simp⟩) ?_
 rintro n t1 h J hJ hlt ⟨i, hv, hn, hi, hpre⟩
 simp only [List.map, List.cons.injEq, and_true] at hv
 obtain ⟨h0', h1, h5⟩ := hv
 rw [t_eq hlt]
 simp only [upTo_succ, upTo, h0', h1, h5, entsV, List.length_map, ssH, Nat.reduceAdd, Nat.reduceLeDiff, reduceIte, Nat.reduceEqDiff, Nat.reduceLT, Int.reduceBEq, Int.reduceBNe]
 by_cases hil : i < la.length
 ·rw [show decide ((i : Int) < (la.length : Int)) = true by simp; omega]
  have hx : la[i]? = some la[i] := List.getElem?_eq_getElem hil
  have hy : lb[i]? = some (lb[i]'(by omega)) := List.getElem?_eq_getElem (by omega)
  generalize la[i] = a at hx
  generalize (lb[i]'(by omega)) = b at hy
  have hc := (ent_cmp (.tmp 20) (.tmp 24) a b).2
  simp only [entV] at hc
  simp only [idx_ent hx, idx_ent hy, hc, ssH, Nat.reduceAdd, Nat.reduceLeDiff, reduceIte, Nat.reduceEqDiff, Nat.reduceLT, Int.reduceBEq, Int.reduceBNe]
  by_cases he : a = b
  ·simp only [decide_eq_true he, Bool.not_true, next_i64 (show i < 4611686018427387904 by omega), ssH, Nat.reduceAdd, Nat.reduceLeDiff, reduceIte, Nat.reduceEqDiff, Nat.reduceLT, Int.reduceBEq, Int.reduceBNe]
   refine ⟨_, hJ (n - 1) (List.range 0) _ (by omega) (back_take rfl (Nat.le_refl _) (by decide) (by simp) (by show nbs 0 [.sl (la.map entV) [] t, entsV nn lb, it (i + 1 : Nat)]; simp only [hnb, hna, ht, nbS]) (fun a ha => by omega) ⟨i + 1, rfl, by omega, by omega, by rw [List.take_add_one, List.take_add_one, hx, hy, hpre, he]⟩)⟩
  ·simp only [decide_eq_false he, Bool.not_false, ssH, Nat.reduceAdd, Nat.reduceLeDiff, reduceIte, Nat.reduceEqDiff, Nat.reduceLT, Int.reduceBEq, Int.reduceBNe]
   refine bodyH_ret resV_one ⟨(by simp only [tget_zero, tget_succ, nbS]), ?_⟩
   rw [decide_eq_false]
   ·rfl
   ·rintro rfl
    rw [hx] at hy
    exact he (Option.some.inj hy)
 ·rw [show decide ((i : Int) < (la.length : Int)) = false by simp; omega]
  simp only [ssH, Nat.reduceAdd, Nat.reduceLeDiff, reduceIte, Nat.reduceEqDiff, Nat.reduceLT, Int.reduceBEq, Int.reduceBNe]
  refine bodyH_ret resV_one ⟨(by simp only [tget_zero, tget_succ, nbS]), ?_⟩
  rw [List.take_of_length_le (by omega), List.take_of_length_le (by omega)] at hpre
  rw [decide_eq_true hpre]
  rfl
theorem pSameE_any (nn : Bool) {t : Tok} (la lb : List Ent) (hl : la.length < 4611686018427387904) :
  ACalls Tryz.prog Γ 40 [.sl (la.map entV) [] t, entsV nn lb] m fun o m' => o = .ret (.val (.bool (decide (la = lb)))) ∧ m' = m := by
 refine acalls_weak (fun G cargs h => ?_) (pSameE_ok nn (t := .no) la lb trivial hl)
 cases h with
 | cons a b => exact .cons (relNo a) b
end
end Go.Av.Fn
/- The document's examples of logs, reckoned. No condition. -/
namespace Go.Av.Fn
set_option linter.unusedSimpArgs false
set_option linter.unusedVariables false
set_option maxRecDepth 100000
open Go.Proofs
def G20 : Glob := fun _ => none
def tab20 : List (Nat × AFn) := [(30, F30), (32, F32), (34, F34), (36, F36), (38, F38), (42, F42), (44, F44), (46, F46), (74, F74), (75, F75), (76, F76), (77, F77), (78, F78), (79, F79), (82, F82), (83, F83), (85, F85), (86, F86), (88, F88), (89, F89), (117, F117), (84, F84), (118, F118), (48, F48)]
theorem tab20_ok : TabOk Tryz.prog G20 tab20 :=
 (.cons ⟨_, F30_ok⟩ (by kernel_rfl) (.cons ⟨_, F32_ok⟩ (by kernel_rfl) (.cons ⟨_, F34_ok⟩ (by kernel_rfl) (.cons ⟨_, F36_ok⟩ (by kernel_rfl) (.cons ⟨_, F38_ok⟩ (by kernel_rfl) (.cons ⟨_, F42_ok⟩ (by kernel_rfl) (.cons ⟨_, F44_ok⟩ (by kernel_rfl) (.cons ⟨_, F46_ok⟩ (by kernel_rfl) (.cons ⟨_, F74_ok⟩ (by kernel_rfl) (.cons ⟨_, F75_ok⟩ (by kernel_rfl) (.cons ⟨_, F76_ok⟩ (by kernel_rfl) (.cons ⟨_, F77_ok⟩ (by kernel_rfl) (.cons ⟨_, F78_ok⟩ (by kernel_rfl) (.cons ⟨_, F79_ok⟩ (by kernel_rfl) (.cons ⟨_, F82_ok⟩ (by kernel_rfl) (.cons ⟨_, F83_ok⟩ (by kernel_rfl) (.cons ⟨_, F85_ok⟩ (by kernel_rfl) (.cons ⟨_, F86_ok⟩ (by kernel_rfl) (.cons ⟨_, F88_ok⟩ (by kernel_rfl) (.cons ⟨_, F89_ok⟩ (by kernel_rfl) (.cons ⟨_, F117_ok⟩ (by kernel_rfl) (.cons ⟨_, F84_ok⟩ (by kernel_rfl) (.cons ⟨_, F118_ok⟩ (by kernel_rfl) (.cons ⟨_, F48_ok⟩ (by kernel_rfl) TabOk.nil))))))))))))))))))))))))
theorem lives20_ok {Γ : Glob} {m : Store} : ACalls Tryz.prog Γ 30 [] m fun o m' => o = .ret (.val (.bool true)) ∧ m' = m :=
 acalls_true (Γ0 := G20) (N := 1000) (n := 30) mixed (by intro g cs h; cases h) tab20_ok .nil (by kernel_rfl)
end Go.Av.Fn
/- What is above a number, and what is up to it, are together all entries: the law. Conditions: az ahead. -/
namespace Go.Av.Fn
set_option linter.unusedSimpArgs false
set_option linter.unusedVariables false
set_option maxRecDepth 10000
open Go.Proofs
theorem len_ents {nn : Bool} {l : List Ent} : lenV false (entsV nn l) = some (it l.length) := by
 simp only [entsV, lenV_slice, List.length_map]
theorem lgB_part {x : Lg} {l : List Ent} (h : lgB x = true) (hl : l.length ≤ x.l.length) (hm : ∀ e ∈ l, e ∈ x.l) : lgB ⟨x.b, x.c, l⟩ = true := by
 simp only [lgB, Bool.and_eq_true, decide_eq_true_eq, beq_iff_eq, List.all_eq_true] at h ⊢
 obtain ⟨⟨⟨⟨⟨⟨h1, h2⟩, h3⟩, h4⟩, h5⟩, h6⟩, h7⟩ := h
 exact ⟨⟨⟨⟨⟨⟨h1, h2⟩, h3⟩, h4⟩, by omega⟩, by omega⟩, fun e he => h7 e (hm e he)⟩
theorem app_two {Γ : Glob} {Kp : V → Hl → Prop} {h : Hl} {t : List V} {l : List Item} {K : HS → Prop} {d : Option Tmp} {s : List (Tmp × Option (Tmp × Bool) × AOp)} {nn : Bool} (a : List Ent) (ha : a.length ≤ 1000000) (hh : h.length < 1000000)
  (h0 : a = [] → hth Tryz.prog Γ Kp s l K (hput t h d (some (.sl [] [] (.zero true)))))
  (h1 : a ≠ [] → hth Tryz.prog Γ Kp s l K (hput t (h ++ [some (.tip 60 0)]) d (some (.sl (a.map entV) [] (.tip h.length 0))))) : happS Tryz.prog Γ Kp 60 80 8 (.sl [] [] (.zero true)) (entsV nn a) d s l K t h := by
 by_cases e : a = []
 ·subst e
  exact happ_none rfl (h0 rfl)
 ·refine happ_zero (ys := a.map entV) rfl (by simpa using e) hh rfl (elemsB_ents a) (by simp only [List.length_map, List.length_nil]; omega) ?_
  simpa using h1 e
section
variable {Γ : Glob} {m : Store}
set_option maxHeartbeats 1600000 in
theorem oplogParts_ok (E : Env Γ) {nn : Bool} {x : Lg} (hn : nn = true ∨ x.l = []) (op : Int) :
  ACalls Tryz.prog Γ 11 [lgV nn x, it op] m fun o m' => o = .ret (.val (.bool true)) ∧ m' = m := by
 have hnb := nb_lgV (k := 0) nn x
 have hnl := nb_entsV (k := 0) nn x.l
 refine acalls_v (acalls_p mixed F11_ok F11_h gok_nil (by simp only [hnb, nbS]) ?_)
 simp only [F11, lgV, ss0, Nat.reduceSub, Nat.reduceAdd]
 simp only [cells_agg, ssH, Nat.reduceAdd, Nat.reduceLeDiff, reduceIte, Nat.reduceEqDiff, Nat.reduceLT, Int.reduceBEq, Int.reduceBNe]
 refine hcall_pure (by exact fun m => pCheck_ok E nn x) (by simp only [hnl, nbS]) (by first | exact LR.nil | simp only [nbS]) ?_
 cases hx : lgB x
 ·simp only [Bool.false_eq_true, if_false, ssH, Nat.reduceAdd, Nat.reduceLeDiff, reduceIte, Nat.reduceEqDiff, Nat.reduceLT, Int.reduceBEq, Int.reduceBNe]
  refine hcall_pure (v := .val (.bool true)) (by exact fun m => lives20_ok) (by first | exact LR.nil | simp only [nbS]) (by first | exact LR.nil | simp only [nbS]) ?_
  simp only [ssH, Nat.reduceAdd, Nat.reduceLeDiff, reduceIte, Nat.reduceEqDiff, Nat.reduceLT, Int.reduceBEq, Int.reduceBNe]
  exact fin6 rfl
 simp only [if_true, ssH, Nat.reduceAdd, Nat.reduceLeDiff, reduceIte, Nat.reduceEqDiff, Nat.reduceLT, Int.reduceBEq, Int.reduceBNe]
 have hb : 0 ≤ x.b ∧ x.b ≤ 2147483647 ∧ x.l.length ≤ 64 := by simp only [lgB, Bool.and_eq_true, decide_eq_true_eq] at hx; omega
 refine hcall_pure (by exact fun m => pAfter_ok E hn op) (by simp only [hnl, nbS]) (by simp only [nb_entsV, nbS]) ?_
 simp only [ssH, Nat.reduceAdd, Nat.reduceLeDiff, reduceIte, Nat.reduceEqDiff, Nat.reduceLT, Int.reduceBEq, Int.reduceBNe]
 refine hcall_pure (by exact fun m => pCut_ok E hn op) (by simp only [hnl, nbS]) (by simp only [nb_lgV, nbS]) ?_
 by_cases he : (withL x.b x.l.length op).2 = 0
 ·obtain ⟨n, h1, h2, h3⟩ := withL_le hx he
  have ha : afterL nn x op = (nn, x.l.drop n, 0) := by simp only [afterL, hx, he, h1, if_true, Int.toNat_natCast]
  have hc : doL x (cutIn nn x op) = (nn, ⟨x.b, x.c, x.l.take n⟩, 0) := by simp only [doL, cutIn, hx, he, h1, if_true, Int.toNat_natCast]
  have hy : lgB ⟨x.b, x.c, x.l.take n⟩ = true := lgB_part hx (by simp; omega) fun e he => List.mem_of_mem_take he
  have hla : (it (if lgB ⟨x.b, x.c, x.l.take n⟩ = true then x.b + ((x.l.take n).length : Int) else 0)) = it op := by
   rw [if_pos hy, List.length_take, Nat.min_eq_left h2, h3]
  have hny := nb_lgV (k := 0) nn ⟨x.b, x.c, x.l.take n⟩
  have tail : ∀ {l' : List Ent} {tk : Tok} {h : Hl} {t : List V} {l : List Item} {K : HS → Prop} {Kp : V → Hl → Prop} {d : Option Tmp} {s : List (Tmp × Option (Tmp × Bool) × AOp)}, l' = x.l →
    hth Tryz.prog Γ Kp s l K (hput t h d (some (.val (.bool true)))) → hcallS Tryz.prog Γ Kp (.fn (.func 40) [] []) [.sl (l'.map entV) [] tk, entsV nn x.l] d s l K t h := by
   intro l' tk h t l K Kp d s e hr
   subst e
   refine hcall_sl (v := .val (.bool true)) (es := x.l.map entV) (more := []) (tok := tk) (az := [entsV nn x.l]) rfl (fun m tk' => ?_) (nbs_map nb_entV _) (by first | exact LR.nil | simp only [nbS]) (by simp only [hnl, nbS]) (by first | exact LR.nil | simp only [nbS]) hr
   have := pSameE_any (Γ := Γ) (m := m) nn (t := tk') x.l x.l (by omega)
   rw [decide_eq_true rfl] at this
   exact this
  simp only [ha, hc, lits_zero, lgV, bne_self_eq_false, cells_agg, oneV_ents, ssH, Nat.reduceAdd, Nat.reduceLeDiff, reduceIte, Nat.reduceEqDiff, Nat.reduceLT, Int.reduceBEq, Int.reduceBNe]
  have ht : (x.l.take n).length ≤ 1000000 := by rw [List.length_take]; omega
  have hd : (x.l.drop n).length ≤ 1000000 := by rw [List.length_drop]; omega
  have hcat := List.take_append_drop n x.l
  have hbeq : (op == op) = true := by simp
  refine app_two (x.l.take n) ht (by simp only [List.length_cons, List.length_nil, Nat.reduceAdd, Nat.reduceLT]) (fun h0 => ?_) (fun h0 => ?_)
  ·have e5 : x.l.drop n = x.l := by rw [h0] at hcat; simpa using hcat
   simp only [ssH, Nat.reduceAdd, Nat.reduceLeDiff, reduceIte, Nat.reduceEqDiff, Nat.reduceLT, Int.reduceBEq, Int.reduceBNe]
   refine app_two (x.l.drop n) hd (by simp only [List.length_cons, List.length_nil, Nat.reduceAdd, Nat.reduceLT]) (fun h5 => ?_) (fun h5 => ?_)
   ·have e6 : ([] : List Ent) = x.l := by rw [← e5, h5]
    simp only [ssH, Nat.reduceAdd, Nat.reduceLeDiff, reduceIte, Nat.reduceEqDiff, Nat.reduceLT, Int.reduceBEq, Int.reduceBNe]
    refine tail (l' := []) e6 ?_
    simp only [ssH, Nat.reduceAdd, Nat.reduceLeDiff, reduceIte, Nat.reduceEqDiff, Nat.reduceLT, Int.reduceBEq, Int.reduceBNe]
    refine hcall_pure (by exact fun m => pLast_ok E nn ⟨x.b, x.c, x.l.take n⟩) (by simp only [lgV] at hny; simp only [hny, nbS]) (by first | exact LR.nil | simp only [nbS]) ?_
    simp only [hla, hbeq, ssH, Nat.reduceAdd, Nat.reduceLeDiff, reduceIte, Nat.reduceEqDiff, Nat.reduceLT, Int.reduceBEq, Int.reduceBNe]
    refine hcall_pure (v := .val (.bool true)) (by exact fun m => lives20_ok) (by first | exact LR.nil | simp only [nbS]) (by first | exact LR.nil | simp only [nbS]) ?_
    simp only [ssH, Nat.reduceAdd, Nat.reduceLeDiff, reduceIte, Nat.reduceEqDiff, Nat.reduceLT, Int.reduceBEq, Int.reduceBNe]
    exact fin6 rfl
   ·simp only [ssH, Nat.reduceAdd, Nat.reduceLeDiff, reduceIte, Nat.reduceEqDiff, Nat.reduceLT, Int.reduceBEq, Int.reduceBNe]
    refine tail e5 ?_
    simp only [ssH, Nat.reduceAdd, Nat.reduceLeDiff, reduceIte, Nat.reduceEqDiff, Nat.reduceLT, Int.reduceBEq, Int.reduceBNe]
    refine hcall_pure (by exact fun m => pLast_ok E nn ⟨x.b, x.c, x.l.take n⟩) (by simp only [lgV] at hny; simp only [hny, nbS]) (by first | exact LR.nil | simp only [nbS]) ?_
    simp only [hla, hbeq, ssH, Nat.reduceAdd, Nat.reduceLeDiff, reduceIte, Nat.reduceEqDiff, Nat.reduceLT, Int.reduceBEq, Int.reduceBNe]
    refine hcall_pure (v := .val (.bool true)) (by exact fun m => lives20_ok) (by first | exact LR.nil | simp only [nbS]) (by first | exact LR.nil | simp only [nbS]) ?_
    simp only [ssH, Nat.reduceAdd, Nat.reduceLeDiff, reduceIte, Nat.reduceEqDiff, Nat.reduceLT, Int.reduceBEq, Int.reduceBNe]
    exact fin6 rfl
  ·simp only [ssH, Nat.reduceAdd, Nat.reduceLeDiff, reduceIte, Nat.reduceEqDiff, Nat.reduceLT, Int.reduceBEq, Int.reduceBNe]
   by_cases h5 : x.l.drop n = []
   ·have e6 : x.l.take n = x.l := by rw [h5] at hcat; simpa using hcat
    refine happ_none (by rw [h5]; rfl) ?_
    simp only [ssH, Nat.reduceAdd, Nat.reduceLeDiff, reduceIte, Nat.reduceEqDiff, Nat.reduceLT, Int.reduceBEq, Int.reduceBNe]
    refine tail e6 ?_
    simp only [ssH, Nat.reduceAdd, Nat.reduceLeDiff, reduceIte, Nat.reduceEqDiff, Nat.reduceLT, Int.reduceBEq, Int.reduceBNe]
    refine hcall_pure (by exact fun m => pLast_ok E nn ⟨x.b, x.c, x.l.take n⟩) (by simp only [lgV] at hny; simp only [hny, nbS]) (by first | exact LR.nil | simp only [nbS]) ?_
    simp only [hla, hbeq, ssH, Nat.reduceAdd, Nat.reduceLeDiff, reduceIte, Nat.reduceEqDiff, Nat.reduceLT, Int.reduceBEq, Int.reduceBNe]
    refine hcall_pure (v := .val (.bool true)) (by exact fun m => lives20_ok) (by first | exact LR.nil | simp only [nbS]) (by first | exact LR.nil | simp only [nbS]) ?_
    simp only [ssH, Nat.reduceAdd, Nat.reduceLeDiff, reduceIte, Nat.reduceEqDiff, Nat.reduceLT, Int.reduceBEq, Int.reduceBNe]
    exact fin6 rfl
   ·refine happ_tip (ys := (x.l.drop n).map entV) rfl (by simpa using h5) (by simpa using h0) rfl (szOk_ents _) (elemsB_ents _) (by simp only [List.length_map]; omega) ?_
    rw [← List.map_append]
    simp only [ssH, Nat.reduceAdd, Nat.reduceLeDiff, reduceIte, Nat.reduceEqDiff, Nat.reduceLT, Int.reduceBEq, Int.reduceBNe]
    refine tail hcat ?_
    simp only [ssH, Nat.reduceAdd, Nat.reduceLeDiff, reduceIte, Nat.reduceEqDiff, Nat.reduceLT, Int.reduceBEq, Int.reduceBNe]
    refine hcall_pure (by exact fun m => pLast_ok E nn ⟨x.b, x.c, x.l.take n⟩) (by simp only [lgV] at hny; simp only [hny, nbS]) (by first | exact LR.nil | simp only [nbS]) ?_
    simp only [hla, hbeq, ssH, Nat.reduceAdd, Nat.reduceLeDiff, reduceIte, Nat.reduceEqDiff, Nat.reduceLT, Int.reduceBEq, Int.reduceBNe]
    refine hcall_pure (v := .val (.bool true)) (by exact fun m => lives20_ok) (by first | exact LR.nil | simp only [nbS]) (by first | exact LR.nil | simp only [nbS]) ?_
    simp only [ssH, Nat.reduceAdd, Nat.reduceLeDiff, reduceIte, Nat.reduceEqDiff, Nat.reduceLT, Int.reduceBEq, Int.reduceBNe]
    exact fin6 rfl
 ·have hb2 : ((withL x.b x.l.length op).2 != 0) = true := by simpa using he
  have ha : afterL nn x op = (false, [], (withL x.b x.l.length op).2) := by simp only [afterL, hx, if_neg he, if_true]
  have hc : doL x (cutIn nn x op) = (false, lg0, (withL x.b x.l.length op).2) := by simp only [doL, cutIn, hx, if_neg he, if_true]
  simp only [ha, hc, hb2, bne_self_eq_false, lgV, cells_agg, oneV_ents, ssH, Nat.reduceAdd, Nat.reduceLeDiff, reduceIte, Nat.reduceEqDiff, Nat.reduceLT, Int.reduceBEq, Int.reduceBNe]
  by_cases h1 : op < x.b
  ·simp only [decide_eq_true h1, len_ents, show (((0 : Nat) : Int) == 0) = true from rfl, show ((lg0.l.length : Int) == 0) = true from rfl, ssH, Nat.reduceAdd, Nat.reduceLeDiff, reduceIte, Nat.reduceEqDiff, Nat.reduceLT, Int.reduceBEq, Int.reduceBNe]
   refine hcall_pure (v := .val (.bool true)) (by exact fun m => lives20_ok) (by first | exact LR.nil | simp only [nbS]) (by first | exact LR.nil | simp only [nbS]) ?_
   simp only [ssH, Nat.reduceAdd, Nat.reduceLeDiff, reduceIte, Nat.reduceEqDiff, Nat.reduceLT, Int.reduceBEq, Int.reduceBNe]
   exact fin6 rfl
  ·have h2 : x.b + (x.l.length : Int) < op := by
    unfold withL at he
    rw [if_neg h1] at he
    split at he
    ·assumption
    ·exact absurd rfl he
   simp only [decide_eq_false h1, ssH, Nat.reduceAdd, Nat.reduceLeDiff, reduceIte, Nat.reduceEqDiff, Nat.reduceLT, Int.reduceBEq, Int.reduceBNe]
   refine hcall_pure (by exact fun m => pLast_ok E nn x) (by simp only [lgV] at hnb; simp only [hnb, nbS]) (by first | exact LR.nil | simp only [nbS]) ?_
   simp only [hx, if_true, gt_iff_lt, decide_eq_true h2, len_ents, show (((0 : Nat) : Int) == 0) = true from rfl, show ((lg0.l.length : Int) == 0) = true from rfl, ssH, Nat.reduceAdd, Nat.reduceLeDiff, reduceIte, Nat.reduceEqDiff, Nat.reduceLT, Int.reduceBEq, Int.reduceBNe]
   refine hcall_pure (v := .val (.bool true)) (by exact fun m => lives20_ok) (by first | exact LR.nil | simp only [nbS]) (by first | exact LR.nil | simp only [nbS]) ?_
   simp only [ssH, Nat.reduceAdd, Nat.reduceLeDiff, reduceIte, Nat.reduceEqDiff, Nat.reduceLT, Int.reduceBEq, Int.reduceBNe]
   exact fin6 rfl
end
end Go.Av.Fn
