/- What is asked of logs: the program's answers, and the document's. Conditions: as ahead. -/
import Derived.Test.YtfanfdflpakjeaaGreatDoorTPn
namespace Go.Av
theorem relRoom {G : Gh} {es : List V} {y : V} {tok : Tok} {u : Value} (h : RelV G (.sl es [y] tok) u) : RelV G (.sl es [] .non) u := by
 cases h with
 | sl a b c d e f =>
  rw [zbY] at b
  have key : ∀ (p q : List V) (us : List Value), RelL G (p ++ q) us → ∃ u1 u2, us = u1 ++ u2 ∧ RelL G p u1 := by
   intro p
   induction p with
   | nil => exact fun q us h => ⟨[], us, rfl, .nil⟩
   | cons v p ih =>
    intro q us h
    cases h with
    | cons r1 r2 =>
     obtain ⟨u1, u2, rfl, r⟩ := ih q _ r2
     exact ⟨_ :: u1, u2, rfl, .cons r1 r⟩
  obtain ⟨u1, u2, rfl, r⟩ := key _ _ _ b
  refine .sl (fun e he => a e ?_) (by rw [List.append_nil]; exact r) ⟨c.1, fun i u hu => c.2 i u ?_⟩ (by simp; simp at d; omega) e trivial
  ·rw [List.append_nil] at he
   exact List.mem_append_left _ he
  ·rw [List.getElem?_append_left (List.getElem?_eq_some_iff.1 hu).1]
   exact hu
end Go.Av
namespace Go.Av.Fn
set_option linter.unusedSimpArgs false
set_option linter.unusedVariables false
set_option maxRecDepth 10000
open Go.Proofs
def e0 : Ent := ⟨0, 0, 0, 0, [], 0, 0, []⟩
def lv77 : Ent := ⟨1, 77, 2, 0, [], 0, 0, []⟩
def ownV (x : Lg) : V := .agg [it x.b, bs x.c, .sl (x.l.map entV) [entV lv77] .no]
theorem own_rel {G : Gh} {x : Lg} {u : Value} (h : RelV G (ownV x) u) : RelV G (lgV true x) u := by
 cases h with
 | agg r =>
  cases r with
  | cons a r =>
   cases r with
   | cons b r =>
    cases r with
    | cons c r => exact .agg (.cons a (.cons b (.cons (relRoom c) r)))
theorem own_args {P : Program} {Γ : Glob} {f : FuncId} {x : Lg} {as' : List V} {m : Store} {R : Out → Store → Prop} (h : zae P Γ f (lgV true x :: as') m R) : zae P Γ f (ownV x :: as') m R := by
 refine acalls_weak (fun G cargs h => ?_) h
 cases h with
 | cons a b => exact .cons (own_rel a) b
theorem nb_ownV {k : Nat} (x : Lg) : nb k (ownV x) := by
 have h1 := nbs_map (k := k) zaT x.l
 have h2 := zaT (k := k) lv77
 simp only [ownV, h1, h2, nbS]
def askE (x : Lg) (op : Int) : Ent × Int := if lgB x = true then (if op ≤ x.b then (e0, 16) else if x.b + (x.l.length : Int) < op then (e0, 10) else (x.l.getD (op - x.b - 1).toNat e0, 0)) else (e0, 4)
def askIn (x : Lg) (op : Int) : Ent × Int := if op ≤ x.b then (e0, 16) else if x.b + (x.l.length : Int) < op then (e0, 10) else (x.l.getD (op - x.b - 1).toNat e0, 0)
theorem ask_e {x : Lg} {op : Int} (h : lgB x = true) (he : (askIn x op).2 ≠ 0) : askIn x op = (e0, (askIn x op).2) := by
 unfold askIn at he ⊢
 split
 ·rfl
 ·split
  ·rfl
  ·rename_i h1 h2
   rw [if_neg h1, if_neg h2] at he
   exact absurd rfl he
section
variable {Γ : Glob} {m : Store}
theorem rAt20_ok (nn : Bool) (x : Lg) (op : Int) : zae Tryz.prog Γ 33 [lgV nn x, it op] m fun o m' => o = .ret (.tup [entV (askE x op).1, it (askE x op).2]) ∧ m' = m := by
 have hnb := zb4 (k := 0) nn x
 have hnl := zay (k := 0) nn x.l
 refine zaz (zaD mixed F33_ok F33_h zaw (by simp only [hnb, nbS]) ?_)
 simp only [F33, lgV, q0, qn, qg, qh, i_, v_, s_, c_, k_, t_, m_, l_, b_, f_, qm, r_, ss0, Nat.reduceSub, Nat.reduceAdd]
 simp only [zau, gt_iff_lt, ssH, Nat.reduceAdd, Nat.reduceLeDiff, reduceIte, Nat.reduceEqDiff, Nat.reduceLT, Int.reduceBEq, Int.reduceBNe]
 have fin : ∀ (e : Ent) (n : Int), askE x op = (e, n) → nb 0 (.tup [entV e, it n]) ∧ V.tup [entV e, it n] = .tup [entV (askE x op).1, it (askE x op).2] := by
  intro e n h
  rw [h]
  have := zaT (k := 0) e
  exact ⟨by simp only [this, nbS], rfl⟩
 refine zah (by exact fun m => zdB nn x) (by simp only [hnl, nbS]) (by first | exact LR.nil | simp only [nbS]) ?_
 cases h : lgB x
 ·simp only [Bool.not_false, zau, ssH, Nat.reduceAdd, Nat.reduceLeDiff, reduceIte, Nat.reduceEqDiff, Nat.reduceLT, Int.reduceBEq, Int.reduceBNe]
  exact zac (v := .tup [entV e0, it 4]) rfl (fin _ _ (by simp only [askE, h]; rfl))
 ·simp only [Bool.not_true, ssH, Nat.reduceAdd, Nat.reduceLeDiff, reduceIte, Nat.reduceEqDiff, Nat.reduceLT, Int.reduceBEq, Int.reduceBNe]
  have hb : 0 ≤ x.b ∧ x.b ≤ 2147483647 ∧ x.l.length ≤ 64 := by simp only [lgB, Bool.and_eq_true, decide_eq_true_eq] at h; omega
  by_cases h1 : op ≤ x.b
  ·simp only [decide_eq_true h1, zau, ssH, Nat.reduceAdd, Nat.reduceLeDiff, reduceIte, Nat.reduceEqDiff, Nat.reduceLT, Int.reduceBEq, Int.reduceBNe]
   exact zac (v := .tup [entV e0, it 16]) rfl (fin _ _ (by simp only [askE, h, if_pos h1, if_true]))
  ·simp only [decide_eq_false h1, ssH, Nat.reduceAdd, Nat.reduceLeDiff, reduceIte, Nat.reduceEqDiff, Nat.reduceLT, Int.reduceBEq, Int.reduceBNe]
   refine zah (by exact fun m => rLast20_ok nn x) (by simp only [hnl, nbS]) (by first | exact LR.nil | simp only [nbS]) ?_
   simp only [h, if_true, ssH, Nat.reduceAdd, Nat.reduceLeDiff, reduceIte, Nat.reduceEqDiff, Nat.reduceLT, Int.reduceBEq, Int.reduceBNe]
   by_cases h2 : x.b + (x.l.length : Int) < op
   ·simp only [decide_eq_true h2, zau, ssH, Nat.reduceAdd, Nat.reduceLeDiff, reduceIte, Nat.reduceEqDiff, Nat.reduceLT, Int.reduceBEq, Int.reduceBNe]
    exact zac (v := .tup [entV e0, it 10]) rfl (fin _ _ (by simp only [askE, h, if_neg h1, if_pos h2, if_true]))
   ·obtain ⟨n, hn⟩ : ∃ n : Nat, op - x.b - 1 = (n : Int) := ⟨(op - x.b - 1).toNat, by omega⟩
    have hw1 : IntKind.i64.wrap (op - x.b) = op - x.b := wrap_i64 (by omega) (by omega)
    have hw2 : IntKind.i64.wrap (op - x.b - 1) = (n : Int) := by rw [wrap_i64 (by omega) (by omega), hn]
    have hx : x.l[n]? = some x.l[n] := List.getElem?_eq_getElem (by omega)
    have hg : askE x op = (x.l[n], 0) := by
     simp only [askE, h, if_neg h1, if_neg h2, if_true, hn, Int.toNat_natCast, List.getD, hx, Option.getD_some]
    simp only [decide_eq_false h2, hw1, hw2, zaM, idx_ent hx, zau, ssH, Nat.reduceAdd, Nat.reduceLeDiff, reduceIte, Nat.reduceEqDiff, Nat.reduceLT, Int.reduceBEq, Int.reduceBNe]
    exact zac (v := .tup [entV x.l[n], it 0]) rfl (fin _ _ hg)
def aftN (x : Lg) (op : Int) : List Ent := if badL x op = 0 then x.l.drop (zct x.b x.l.length op).1.toNat else []
theorem rAfter20_ok (nn : Bool) (x : Lg) (op : Int) : zae Tryz.prog Γ 35 [lgV nn x, it op] m fun o m' => o = .ret (.tup [entsN (aftN x op), it (badL x op)]) ∧ m' = m := by
 have hnb := zb4 (k := 0) nn x
 have hnl := zay (k := 0) nn x.l
 refine zaz (zaD mixed F35_ok F35_h zaw (by simp only [hnb, nbS]) ?_)
 simp only [F35, lgV, q0, qn, qg, qh, i_, v_, s_, c_, k_, t_, m_, l_, b_, f_, qm, r_, ss0, Nat.reduceSub, Nat.reduceAdd]
 simp only [zau, ssH, Nat.reduceAdd, Nat.reduceLeDiff, reduceIte, Nat.reduceEqDiff, Nat.reduceLT, Int.reduceBEq, Int.reduceBNe]
 refine zah (by exact fun m => rBad_ok nn x op) (by simp only [hnl, nbS]) (by first | exact LR.nil | simp only [nbS]) ?_
 cases hb : (badL x op != 0)
 ·have h0 : badL x op = 0 := by simpa using hb
  have hx : lgB x = true := by
   cases h : lgB x
   ·simp only [badL, h, Bool.false_eq_true, if_false] at h0
    exact absurd h0 (by decide)
   ·rfl
  have he : (zct x.b x.l.length op).2 = 0 := by simpa only [badL, hx, if_true] using h0
  obtain ⟨n, h1, h2, h3⟩ := withL_le hx he
  have hd : bet x.b op (x.b + x.l.length) 0 x.l = aftN x op := by
   rw [bet_drop (n := n) x.l 0 (fun j _ hj => by
    simp only [cndB]
    rw [Bool.eq_iff_iff]
    simp only [Bool.and_eq_true, decide_eq_true_eq]
    omega), aftN, if_pos h0, h1]
   rfl
  simp only [hb, ssH, Nat.reduceAdd, Nat.reduceLeDiff, reduceIte, Nat.reduceEqDiff, Nat.reduceLT, Int.reduceBEq, Int.reduceBNe]
  refine zah (by exact fun m => rLast20_ok nn x) (by simp only [hnl, nbS]) (by first | exact LR.nil | simp only [nbS]) ?_
  simp only [hx, if_true, ssH, Nat.reduceAdd, Nat.reduceLeDiff, reduceIte, Nat.reduceEqDiff, Nat.reduceLT, Int.reduceBEq, Int.reduceBNe]
  refine zah (by exact fun m => rBetween_ok nn x op (x.b + x.l.length) hx) (by simp only [hnl, nbS]) (by unfold entsN; simp only [zay]) ?_
  simp only [hd, ssH, Nat.reduceAdd, Nat.reduceLeDiff, reduceIte, Nat.reduceEqDiff, Nat.reduceLT, Int.reduceBEq, Int.reduceBNe]
  refine zac zbx ⟨?_, by rw [h0]; rfl⟩
  have hnn := zay (k := 0) (!(aftN x op).isEmpty) (aftN x op)
  simp only [zaa, zab, entsN, hnn, nbS]
 ·have h0 : badL x op ≠ 0 := by simpa using hb
  simp only [hb, ssH, Nat.reduceAdd, Nat.reduceLeDiff, reduceIte, Nat.reduceEqDiff, Nat.reduceLT, Int.reduceBEq, Int.reduceBNe]
  exact zac zbx ⟨(by simp only [zaa, zab, nbS]), by simp only [zaa, zab, aftN, if_neg h0]; rfl⟩
theorem rSame_ok (a b : Bool) (x : Lg) (hl : x.l.length ≤ 1000000) : zae Tryz.prog Γ 41 [lgV a x, lgV b x] m fun o m' => o = .ret (.val (.bool true)) ∧ m' = m := by
 have hna := zb4 (k := 0) a x
 have hnb := zb4 (k := 0) b x
 have hla := zay (k := 0) a x.l
 have hlb := zay (k := 0) b x.l
 refine zaz (zaD mixed F41_ok F41_h zaw (by simp only [hna, hnb, nbS]) ?_)
 simp only [F41, lgV, q0, qn, qg, qh, i_, v_, s_, c_, k_, t_, m_, l_, b_, f_, qm, r_, ss0, Nat.reduceSub, Nat.reduceAdd]
 simp only [zau, beq_self_eq_true, ssH, Nat.reduceAdd, Nat.reduceLeDiff, reduceIte, Nat.reduceEqDiff, Nat.reduceLT, Int.reduceBEq, Int.reduceBNe]
 refine zah (v := .val (.bool true)) (by intro m; have := pSameE_any (Γ := Γ) (m := m) b (t := if a then .non else .full) x.l x.l (by omega); rw [decide_eq_true rfl] at this; exact this) (by simp only [hla, hlb, nbS]) (by first | exact LR.nil | simp only [nbS]) ?_
 simp only [ssH, Nat.reduceAdd, Nat.reduceLeDiff, reduceIte, Nat.reduceEqDiff, Nat.reduceLT, Int.reduceBEq, Int.reduceBNe]
 exact fin6 rfl
end
end Go.Av.Fn
/- The document's examples of logs, reckoned. No condition. -/
namespace Go.Av.Fn
set_option linter.unusedSimpArgs false
set_option linter.unusedVariables false
set_option maxRecDepth 100000
open Go.Proofs
def G20 : Glob := fun _ => none
def tab20 : List (Nat × AFn) := [(30, F30), (32, F32), (34, F34), (36, F36), (38, F38), (42, F42), (44, F44), (46, F46), (74, F74), (75, F75), (76, F76), (77, F77), (78, F78), (79, F79), (82, F82), (83, F83), (85, F85), (86, F86), (88, F88), (89, F89), (117, F117), (84, F84), (118, F118), (48, F48)]
theorem tab20_ok : TabOk Tryz.prog G20 tab20 :=
 (.cons ⟨_, F30_ok⟩ (by kernel_rfl) (.cons ⟨_, F32_ok⟩ (by kernel_rfl) (.cons ⟨_, F34_ok⟩ (by kernel_rfl) (.cons ⟨_, F36_ok⟩ (by kernel_rfl) (.cons ⟨_, F38_ok⟩ (by kernel_rfl) (.cons ⟨_, F42_ok⟩ (by kernel_rfl) (.cons ⟨_, F44_ok⟩ (by kernel_rfl) (.cons ⟨_, F46_ok⟩ (by kernel_rfl) (.cons ⟨_, F74_ok⟩ (by kernel_rfl) (.cons ⟨_, F75_ok⟩ (by kernel_rfl) (.cons ⟨_, F76_ok⟩ (by kernel_rfl) (.cons ⟨_, F77_ok⟩ (by kernel_rfl) (.cons ⟨_, F78_ok⟩ (by kernel_rfl) (.cons ⟨_, F79_ok⟩ (by kernel_rfl) (.cons ⟨_, F82_ok⟩ (by kernel_rfl) (.cons ⟨_, F83_ok⟩ (by kernel_rfl) (.cons ⟨_, F85_ok⟩ (by kernel_rfl) (.cons ⟨_, F86_ok⟩ (by kernel_rfl) (.cons ⟨_, F88_ok⟩ (by kernel_rfl) (.cons ⟨_, F89_ok⟩ (by kernel_rfl) (.cons ⟨_, F117_ok⟩ (by kernel_rfl) (.cons ⟨_, F84_ok⟩ (by kernel_rfl) (.cons ⟨_, F118_ok⟩ (by kernel_rfl) (.cons ⟨_, F48_ok⟩ (by kernel_rfl) TabOk.nil))))))))))))))))))))))))
theorem lives20_ok {Γ : Glob} {m : Store} : zae Tryz.prog Γ 30 [] m fun o m' => o = .ret (.val (.bool true)) ∧ m' = m :=
 acalls_true (Γ0 := G20) (N := 1000) (n := 30) mixed (by intro g cs h; cases h) tab20_ok .nil (by kernel_rfl)
end Go.Av.Fn
/- What is above a number, and what is up to it, are together all entries: the law. Conditions: az ahead. -/
namespace Go.Av.Fn
set_option linter.unusedSimpArgs false
set_option linter.unusedVariables false
set_option maxRecDepth 10000
open Go.Proofs
theorem len_ents {nn : Bool} {l : List Ent} : lenV false (zaM nn l) = some (it l.length) := by
 simp only [zaM, zds, List.length_map]
theorem app_two {Γ : Glob} {Kp : V → Hl → Prop} {h : Hl} {t : List V} {l : List Item} {K : HS → Prop} {d : Option Tmp} {s : List (Tmp × Option (Tmp × Bool) × AOp)} {nn : Bool} (a : List Ent) (ha : a.length ≤ 1000000) (hh : h.length < 1000000)
  (h0 : a = [] → hth Tryz.prog Γ Kp s l K (hput t h d (some (.sl [] [] (.zero true)))))
  (h1 : a ≠ [] → hth Tryz.prog Γ Kp s l K (hput t (h ++ [some (.tip 60 0)]) d (some (.sl (a.map entV) [] (.tip h.length 0))))) : happS Tryz.prog Γ Kp 60 80 8 (.sl [] [] (.zero true)) (zaM nn a) d s l K t h := by
 by_cases e : a = []
 ·subst e
  exact happ_none rfl (h0 rfl)
 ·refine happ_zero (ys := a.map entV) rfl (by simpa using e) hh rfl (elemsB_ents a) (by simp only [List.length_map, List.length_nil]; omega) ?_
  simpa using h1 e
section
variable {Γ : Glob} {m : Store}
end
end Go.Av.Fn
/- Whatever is asked of any log, it is answered as the document says: the law. Conditions: as ahead. -/
namespace Go.Av.Fn
set_option linter.unusedSimpArgs false
set_option linter.unusedVariables false
set_option maxRecDepth 10000
open Go.Proofs
theorem zcI (e : Ent) (n : Int) : wN (.tup [entV e, it n]) = .tup [entV e, it n] := by simp only [wN, wNs, wN_entV]
section
variable {Γ : Glob} {m : Store}
theorem pOfE_ok (E : Env Γ) {nn : Bool} {x : Lg} {g : FuncId} {X1 X2 : Blk} {y : Ent} {e : Int} (hX : ∀ X ∈ [X1, X2], nbB 0 X)
  (hdo : lgB x = true → KCalls Tryz.prog Γ g [] none [X1, X2] fun v => v = .tup [entV y, it e]) :
  KCalls Tryz.prog Γ 74 [lgV nn x] (some g) [X1, X2] fun v => v = if lgB x = true then (if e = 0 then .tup [entV y, it 0] else .tup [entV e0, it e]) else .tup [entV e0, it 4] := by
 have hnb := zb4 (k := 0) nn x
 have hny := zaT (k := 0) y
 have hn0 := zaT (k := 0) e0
 have hnl := zay (k := 0) nn x.l
 refine kcalls mixed F74_ok F74_h zaw (by simp only [hnb, nbS]) hX ?_
 simp only [F74, closA, List.length_cons, List.length_nil, Nat.reduceAdd, List.range, List.range.loop, List.map, lgV, q0, qn, qg, qh, i_, v_, s_, c_, k_, t_, m_, l_, b_, f_, qm, r_, ss0, Nat.reduceSub, Nat.reduceAdd]
 simp only [zau, ssH, Nat.reduceAdd, Nat.reduceLeDiff, reduceIte, Nat.reduceEqDiff, Nat.reduceLT, Int.reduceBEq, Int.reduceBNe]
 refine zah (by exact fun m => pCheck_ok E nn x) (by simp only [hnl, nbS]) (by first | exact LR.nil | simp only [nbS]) ?_
 cases hx : lgB x
 ·simp only [Bool.false_eq_true, if_false, zau, ssH, Nat.reduceAdd, Nat.reduceLeDiff, reduceIte, Nat.reduceEqDiff, Nat.reduceLT, Int.reduceBEq, Int.reduceBNe]
  exact zac (v := .tup [entV e0, it 4]) rfl ⟨by rw [zcI]; simp only [hn0, nbS], zcI _ _⟩
 ·simp only [if_true, ssH, Nat.reduceAdd, Nat.reduceLeDiff, reduceIte, Nat.reduceEqDiff, Nat.reduceLT, Int.reduceBEq, Int.reduceBNe]
  refine hcall_k [0, 1] (hdo hx) rfl rfl (by decide) (two_get rfl rfl) (by first | exact LR.nil | simp only [nbS]) hX (by rintro v rfl; simp only [hny, nbS]) ?_
  rintro v rfl
  simp only [hdrop, entV, zau, ssH, Nat.reduceAdd, Nat.reduceLeDiff, reduceIte, Nat.reduceEqDiff, Nat.reduceLT, Int.reduceBEq, Int.reduceBNe]
  by_cases he : e = 0
  ·subst he
   simp only [if_true, zau, ssH, Nat.reduceAdd, Nat.reduceLeDiff, reduceIte, Nat.reduceEqDiff, Nat.reduceLT, Int.reduceBEq, Int.reduceBNe]
   exact zac (v := .tup [entV y, it 0]) rfl ⟨by rw [zcI]; simp only [hny, nbS], zcI _ _⟩
  ·have hb : (e != 0) = true := by simpa using he
   simp only [hb, if_neg he, zau, ssH, Nat.reduceAdd, Nat.reduceLeDiff, reduceIte, Nat.reduceEqDiff, Nat.reduceLT, Int.reduceBEq, Int.reduceBNe]
   exact zac (v := .tup [entV e0, it e]) rfl ⟨by rw [zcI]; simp only [hn0, nbS], zcI _ _⟩
theorem pAt1_ok {nn : Bool} {x : Lg} (op : Int) (hx : lgB x = true) :
  KCalls Tryz.prog Γ 75 [] none [logB nn x, intB op] fun v => v = .tup [entV (askIn x op).1, it (askIn x op).2] := by
 have hnb := zb4 (k := 0) nn x
 have hnl := zay (k := 0) nn x.l
 have hb : 0 ≤ x.b ∧ x.b ≤ 2147483647 ∧ x.l.length ≤ 64 := by simp only [lgB, Bool.and_eq_true, decide_eq_true_eq] at hx; omega
 have fin : ∀ (e : Ent) (n : Int), askIn x op = (e, n) → nb 0 (wN (.tup [entV e, it n])) ∧ wN (V.tup [entV e, it n]) = .tup [entV (askIn x op).1, it (askIn x op).2] := by
  intro e n h
  rw [h, zcI]
  have := zaT (k := 0) e
  exact ⟨by simp only [this, nbS], rfl⟩
 refine kcalls mixed F75_ok F75_h zaw (by first | exact LR.nil | simp only [nbS]) (two_blk (zdF nn x) (nb_intB op)) ?_
 simp only [F75, closA, logB, intB, List.length_cons, List.length_nil, Nat.reduceAdd, List.range, List.range.loop, List.map, q0, qn, qg, qh, i_, v_, s_, c_, k_, t_, m_, l_, b_, f_, qm, r_, ss0, Nat.reduceSub, Nat.reduceAdd]
 simp only [ssH, Nat.reduceAdd, Nat.reduceLeDiff, reduceIte, Nat.reduceEqDiff, Nat.reduceLT, Int.reduceBEq, Int.reduceBNe]
 refine zah (by exact fun m => pWithin_ok nn x op hx) (by simp only [hnl, nbS]) (by first | exact LR.nil | simp only [nbS]) ?_
 by_cases he : (zct x.b x.l.length op).2 = 0
 ·obtain ⟨n, h1, h2, h3⟩ := withL_le hx he
  simp only [he, h1, ssH, Nat.reduceAdd, Nat.reduceLeDiff, reduceIte, Nat.reduceEqDiff, Nat.reduceLT, Int.reduceBEq, Int.reduceBNe]
  by_cases hn : n = 0
  ·subst hn
   simp only [show (((0 : Nat) : Int) == 0) = true from rfl, zau, ssH, Nat.reduceAdd, Nat.reduceLeDiff, reduceIte, Nat.reduceEqDiff, Nat.reduceLT, Int.reduceBEq, Int.reduceBNe]
   exact zac (v := .tup [entV e0, it 16]) rfl (fin _ _ (by simp only [askIn]; rw [if_pos (by omega)]))
  ·have hw : IntKind.i64.wrap ((n : Int) - 1) = ((n - 1 : Nat) : Int) := by rw [wrap_i64 (by omega) (by omega)]; omega
   have hx2 : x.l[n - 1]? = some (x.l[n - 1]'(by omega)) := List.getElem?_eq_getElem (by omega)
   have hg : askIn x op = (x.l[n - 1]'(by omega), 0) := by
    simp only [askIn]
    rw [if_neg (by omega), if_neg (by omega), show (op - x.b - 1).toNat = n - 1 by omega]
    simp only [List.getD, hx2, Option.getD_some]
   simp only [show (((n : Nat) : Int) == 0) = false by simp; omega, hw, zaM, idx_ent hx2, zau, ssH, Nat.reduceAdd, Nat.reduceLeDiff, reduceIte, Nat.reduceEqDiff, Nat.reduceLT, Int.reduceBEq, Int.reduceBNe]
   exact zac (v := .tup [entV (x.l[n - 1]'(by omega)), it 0]) rfl (fin _ _ hg)
 ·have hb2 : ((zct x.b x.l.length op).2 != 0) = true := by simpa using he
  simp only [hb2, zau, ssH, Nat.reduceAdd, Nat.reduceLeDiff, reduceIte, Nat.reduceEqDiff, Nat.reduceLT, Int.reduceBEq, Int.reduceBNe]
  refine zac (v := .tup [entV e0, it (zct x.b x.l.length op).2]) rfl (fin _ _ ?_)
  simp only [askIn, zct] at he ⊢
  by_cases h1 : op < x.b
  ·rw [if_pos (by omega), if_pos h1]
  ·rw [if_neg h1] at he ⊢
   by_cases h2 : x.b + (x.l.length : Int) < op
   ·rw [if_neg (by omega), if_pos h2, if_pos h2]
   ·rw [if_neg h2] at he
    exact absurd rfl he
theorem pAt_ok (E : Env Γ) (nn : Bool) (x : Lg) (op : Int) :
  zae Tryz.prog Γ 32 [lgV nn x, it op] m fun o m' => o = .ret (.tup [entV (askE x op).1, it (askE x op).2]) ∧ m' = m := by
 have hnb := zb4 (k := 0) nn x
 have hnl := zay (k := 0) nn x.l
 refine zaz (acalls_pn mixed F32_ok F32_h zaw (by simp only [hnb, nbS]) ?_)
 simp only [F32, lgV, q0, qn, qg, qh, i_, v_, s_, c_, k_, t_, m_, l_, b_, f_, qm, r_, ss0, Nat.reduceSub, Nat.reduceAdd]
 simp only [zau, ssH, Nat.reduceAdd, Nat.reduceLeDiff, reduceIte, Nat.reduceEqDiff, Nat.reduceLT, Int.reduceBEq, Int.reduceBNe]
 refine hcall_k [0, 1] (pOfE_ok E (nn := nn) (x := x) (two_blk (zdF nn x) (nb_intB op)) (fun hx => pAt1_ok op hx)) rfl rfl (by decide) (two_get rfl rfl) (by simp only [hnb, nbS]) (two_blk (zdF nn x) (nb_intB op)) ?_ ?_
 ·rintro v rfl
  split
  ·split <;> simp only [zaT, nbS]
  ·simp only [zaT, nbS]
 ·rintro v hv
  have : v = .tup [entV (askE x op).1, it (askE x op).2] := by
   rw [hv]
   have e1 : askE x op = if lgB x = true then askIn x op else (e0, 4) := rfl
   rw [e1]
   by_cases hx : lgB x = true
   ·simp only [if_pos hx]
    by_cases he : (askIn x op).2 = 0
    ·simp only [if_pos he]
     rw [he]
    ·simp only [if_neg he]
     rw [ask_e hx he]
   ·simp only [if_neg hx]
  subst this
  generalize askE x op = r
  obtain ⟨y, e⟩ := r
  have hny := zaT (k := 0) y
  simp only [hdrop, entV, zau, ssH, Nat.reduceAdd, Nat.reduceLeDiff, reduceIte, Nat.reduceEqDiff, Nat.reduceLT, Int.reduceBEq, Int.reduceBNe]
  exact zac (v := .tup [entV y, it e]) rfl ⟨by rw [zcI]; simp only [hny, nbS], zcI _ _⟩
theorem pLeave_ok : zae Tryz.prog Γ 48 [it 77] m fun o m' => o = .ret (entV lv77) ∧ m' = m := by
 refine zaz (zaD mixed F48_ok F48_h zaw (by first | exact LR.nil | simp only [nbS]) ?_)
 simp only [F48, q0, qn, qg, qh, i_, v_, s_, c_, k_, t_, m_, l_, b_, f_, qm, r_, ss0, Nat.reduceSub, Nat.reduceAdd]
 simp only [zau, ssH, Nat.reduceAdd, Nat.reduceLeDiff, reduceIte, Nat.reduceEqDiff, Nat.reduceLT, Int.reduceBEq, Int.reduceBNe]
 exact zac (v := entV lv77) rfl ⟨zaT _, rfl⟩
theorem cut_room {l : List Ent} {t : Tok} : sliceLF 8 (.sl (l.map entV ++ [entV lv77]) [] t) (some none) (some (some (l.length : Int))) (some none) = some (.sl (l.map entV) [entV lv77] .no) := by
 have hs : szOk 8 ((l.map entV ++ [entV lv77]) ++ []) = true := by
  have := szOk_ents (l ++ [lv77])
  simpa using this
 simp only [sliceLF, hs, if_true, cutV, Option.getD_none, Option.getD_some, Int.toNat_natCast, List.length_append, List.length_map, List.length_cons, List.length_nil, Int.toNat_zero, List.drop_zero, List.append_nil]
 rw [if_pos (by simpa using hs), if_pos ⟨by omega, by omega, by omega⟩, if_neg (by omega), if_pos (by omega), List.take_left' (by simp), List.drop_left' (by simp)]
theorem lOwn_ok (nn : Bool) (x : Lg) (hl : x.l.length ≤ 1000) : zae Tryz.prog Γ 31 [lgV nn x] m fun o m' => o = .ret (ownV x) ∧ m' = m := by
 have hnb := zb4 (k := 0) nn x
 have hnl := zay (k := 0) nn x.l
 have hlv := zaT (k := 0) lv77
 refine zaz (zaD mixed F31_ok F31_h zaw (by simp only [hnb, nbS]) ?_)
 simp only [F31, lgV, q0, qn, qg, qh, i_, v_, s_, c_, k_, t_, m_, l_, b_, f_, qm, r_, ss0, Nat.reduceSub, Nat.reduceAdd]
 simp only [lits_zero, zau, ssH, Nat.reduceAdd, Nat.reduceLeDiff, reduceIte, Nat.reduceEqDiff, Nat.reduceLT, Int.reduceBEq, Int.reduceBNe]
 refine app_two x.l (by omega) (by simp only [List.length_cons, List.length_nil, Nat.reduceAdd, Nat.reduceLT]) (fun h0 => ?_) (fun h0 => ?_)
 ·simp only [ssH, Nat.reduceAdd, Nat.reduceLeDiff, reduceIte, Nat.reduceEqDiff, Nat.reduceLT, Int.reduceBEq, Int.reduceBNe]
  refine zah (by exact fun m => pLeave_ok) (by first | exact LR.nil | simp only [nbS]) hlv ?_
  simp only [litE_eq, ssH, Nat.reduceAdd, Nat.reduceLeDiff, reduceIte, Nat.reduceEqDiff, Nat.reduceLT, Int.reduceBEq, Int.reduceBNe]
  rw [show litE (entV lv77) = some (.sl [entV lv77] [] .full) from rfl]
  simp only [ssH, Nat.reduceAdd, Nat.reduceLeDiff, reduceIte, Nat.reduceEqDiff, Nat.reduceLT, Int.reduceBEq, Int.reduceBNe]
  refine happ_zero (ys := [entV lv77]) rfl (by simp) (by simp only [List.length_cons, List.length_nil, Nat.reduceAdd, Nat.reduceLT]) rfl rfl (by simp) ?_
  have hc := cut_room (l := x.l) (t := .tip 2 0)
  rw [h0] at hc
  simp only [h0, List.map_nil, List.nil_append, List.length_nil] at hc
  simp only [len_ents, h0, List.length_nil, zbZ, zbd, optV, hc, zau, ssH, Nat.reduceAdd, Nat.reduceLeDiff, reduceIte, Nat.reduceEqDiff, Nat.reduceLT, Int.reduceBEq, Int.reduceBNe]
  exact zac (v := ownV x) (by simp only [ownV, h0]; rfl) ⟨nb_ownV x, rfl⟩
 ·simp only [ssH, Nat.reduceAdd, Nat.reduceLeDiff, reduceIte, Nat.reduceEqDiff, Nat.reduceLT, Int.reduceBEq, Int.reduceBNe]
  refine zah (by exact fun m => pLeave_ok) (by first | exact LR.nil | simp only [nbS]) hlv ?_
  simp only [litE_eq, ssH, Nat.reduceAdd, Nat.reduceLeDiff, reduceIte, Nat.reduceEqDiff, Nat.reduceLT, Int.reduceBEq, Int.reduceBNe]
  rw [show litE (entV lv77) = some (.sl [entV lv77] [] .full) from rfl]
  simp only [ssH, Nat.reduceAdd, Nat.reduceLeDiff, reduceIte, Nat.reduceEqDiff, Nat.reduceLT, Int.reduceBEq, Int.reduceBNe]
  refine happ_tip (ys := [entV lv77]) rfl (by simp) (by simpa using h0) rfl (szOk_ents _) rfl (by simp; omega) ?_
  simp only [len_ents, zbZ, zbd, optV, cut_room, zau, ssH, Nat.reduceAdd, Nat.reduceLeDiff, reduceIte, Nat.reduceEqDiff, Nat.reduceLT, Int.reduceBEq, Int.reduceBNe]
  exact zac (v := ownV x) rfl ⟨nb_ownV x, rfl⟩
theorem aft_eq {nn : Bool} {x : Lg} {op : Int} : (zb7 nn x op).2.1 = aftN x op ∧ (zb7 nn x op).2.2 = badL x op := by
 unfold zb7 aftN badL
 by_cases hx : lgB x = true
 ·simp only [if_pos hx]
  by_cases he : (zct x.b x.l.length op).2 = 0
  ·simp only [if_pos he]
   exact ⟨trivial, he.symm⟩
  ·simp only [if_neg he]
   exact ⟨trivial, trivial⟩
 ·simp only [if_neg hx]
  exact ⟨by rw [if_neg (by decide)], trivial⟩
set_option maxHeartbeats 3200000 in
theorem oplogAsks_ok (E : Env Γ) {nn : Bool} {x : Lg} (op : Int) : zae Tryz.prog Γ 9 [lgV nn x, it op] m fun o m' => o = .ret (.val (.bool true)) ∧ m' = m := by
 have hnb := zb4 (k := 0) nn x
 have hnl := zay (k := 0) nn x.l
 have hno := nb_ownV (k := 0) x
 refine zaz (zaD mixed F9_ok F9_h zaw (by simp only [hnb, nbS]) ?_)
 simp only [F9, lgV, q0, qn, qg, qh, i_, v_, s_, c_, k_, t_, m_, l_, b_, f_, qm, r_, ss0, Nat.reduceSub, Nat.reduceAdd]
 simp only [len_ents, gt_iff_lt, zau, ssH, Nat.reduceAdd, Nat.reduceLeDiff, reduceIte, Nat.reduceEqDiff, Nat.reduceLT, Int.reduceBEq, Int.reduceBNe]
 by_cases h100 : (100 : Int) < (x.l.length : Int)
 ·simp only [decide_eq_true h100, ssH, Nat.reduceAdd, Nat.reduceLeDiff, reduceIte, Nat.reduceEqDiff, Nat.reduceLT, Int.reduceBEq, Int.reduceBNe]
  refine zah (v := .val (.bool true)) (by exact fun m => lives20_ok) (by first | exact LR.nil | simp only [nbS]) (by first | exact LR.nil | simp only [nbS]) ?_
  simp only [ssH, Nat.reduceAdd, Nat.reduceLeDiff, reduceIte, Nat.reduceEqDiff, Nat.reduceLT, Int.reduceBEq, Int.reduceBNe]
  exact fin6 rfl
 simp only [decide_eq_false h100, ssH, Nat.reduceAdd, Nat.reduceLeDiff, reduceIte, Nat.reduceEqDiff, Nat.reduceLT, Int.reduceBEq, Int.reduceBNe]
 refine zah (by exact fun m => lOwn_ok nn x (by omega)) (by simp only [hnl, nbS]) hno ?_
 have hml := nbs_map (k := 0) zaT x.l
 have hal : (aftN x op).length ≤ 100 := by
  unfold aftN
  split
  ·rw [List.length_drop]; omega
  ·exact Nat.zero_le _
 simp only [ownV, zau, ssH, Nat.reduceAdd, Nat.reduceLeDiff, reduceIte, Nat.reduceEqDiff, Nat.reduceLT, Int.reduceBEq, Int.reduceBNe]
 refine zah (by exact fun m => own_args (pAt_ok E true x op)) (by simp only [hml, zaT, nbS]) (by simp only [zaT, nbS]) ?_
 have ha := aft_eq (nn := true) (x := x) (op := op)
 have hc1 := (ent_cmp (.tmp 58) (.tmp 59) (askE x op).1 (askE x op).1).1
 rw [decide_eq_true rfl] at hc1
 simp only [entV] at hc1
 simp only [entV, zau, ssH, Nat.reduceAdd, Nat.reduceLeDiff, reduceIte, Nat.reduceEqDiff, Nat.reduceLT, Int.reduceBEq, Int.reduceBNe]
 refine zah (by exact fun m => rAt20_ok nn x op) (by simp only [hnl, nbS]) (by simp only [zaT, nbS]) ?_
 simp only [entV, zau, ssH, Nat.reduceAdd, Nat.reduceLeDiff, reduceIte, Nat.reduceEqDiff, Nat.reduceLT, Int.reduceBEq, Int.reduceBNe]
 refine zah (by exact fun m => own_args (pAfter_ok E (nn := true) (.inl rfl) op)) (by simp only [hml, zaT, nbS]) (by simp only [zay, nbS]) ?_
 rw [ha.1, ha.2]
 simp only [zau, ssH, Nat.reduceAdd, Nat.reduceLeDiff, reduceIte, Nat.reduceEqDiff, Nat.reduceLT, Int.reduceBEq, Int.reduceBNe]
 refine zah (by exact fun m => rAfter20_ok nn x op) (by simp only [hnl, nbS]) (by simp only [entsN, zay, nbS]) ?_
 simp only [zau, ssH, Nat.reduceAdd, Nat.reduceLeDiff, reduceIte, Nat.reduceEqDiff, Nat.reduceLT, Int.reduceBEq, Int.reduceBNe]
 refine zah (by exact fun m => own_args (pCheck_ok E true x)) (by simp only [hml, zaT, nbS]) (by first | exact LR.nil | simp only [nbS]) ?_
 simp only [ssH, Nat.reduceAdd, Nat.reduceLeDiff, reduceIte, Nat.reduceEqDiff, Nat.reduceLT, Int.reduceBEq, Int.reduceBNe]
 refine zah (by exact fun m => rCheck20_ok nn x) (by simp only [hnl, nbS]) (by first | exact LR.nil | simp only [nbS]) ?_
 simp only [beq_self_eq_true, ssH, Nat.reduceAdd, Nat.reduceLeDiff, reduceIte, Nat.reduceEqDiff, Nat.reduceLT, Int.reduceBEq, Int.reduceBNe]
 refine zah (by exact fun m => own_args (pLast_ok E true x)) (by simp only [hml, zaT, nbS]) (by first | exact LR.nil | simp only [nbS]) ?_
 simp only [ssH, Nat.reduceAdd, Nat.reduceLeDiff, reduceIte, Nat.reduceEqDiff, Nat.reduceLT, Int.reduceBEq, Int.reduceBNe]
 refine ⟨by first | exact rfl | exact fun _ => rfl, ?_⟩
 first | simp only [ssH, Nat.reduceAdd, Nat.reduceLeDiff, reduceIte, Nat.reduceEqDiff, Nat.reduceLT, Int.reduceBEq, Int.reduceBNe] | skip
 refine zah (by exact fun m => rLast20_ok nn x) (by simp only [hnl, nbS]) (by first | exact LR.nil | simp only [nbS]) ?_
 simp only [beq_self_eq_true, hc1, entsN, ssH, Nat.reduceAdd, Nat.reduceLeDiff, reduceIte, Nat.reduceEqDiff, Nat.reduceLT, Int.reduceBEq, Int.reduceBNe]
 refine zah (v := .val (.bool true)) (by intro m; have := pSameE_any (Γ := Γ) (m := m) (!(aftN x op).isEmpty) (t := if (zb7 true x op).1 then .non else .full) (aftN x op) (aftN x op) (by omega); rw [decide_eq_true rfl] at this; exact this) (by simp only [zay, nbS]) (by first | exact LR.nil | simp only [nbS]) ?_
 simp only [beq_self_eq_true, ssH, Nat.reduceAdd, Nat.reduceLeDiff, reduceIte, Nat.reduceEqDiff, Nat.reduceLT, Int.reduceBEq, Int.reduceBNe]
 refine zah (v := .val (.bool true)) (by exact fun m => own_args (rSame_ok true nn x (by omega))) (by simp only [hml, hnl, zaT, nbS]) (by first | exact LR.nil | simp only [nbS]) ?_
 simp only [ssH, Nat.reduceAdd, Nat.reduceLeDiff, reduceIte, Nat.reduceEqDiff, Nat.reduceLT, Int.reduceBEq, Int.reduceBNe]
 refine zah (v := .val (.bool true)) (by exact fun m => lives20_ok) (by first | exact LR.nil | simp only [nbS]) (by first | exact LR.nil | simp only [nbS]) ?_
 simp only [ssH, Nat.reduceAdd, Nat.reduceLeDiff, reduceIte, Nat.reduceEqDiff, Nat.reduceLT, Int.reduceBEq, Int.reduceBNe]
 exact fin6 rfl
end
end Go.Av.Fn
