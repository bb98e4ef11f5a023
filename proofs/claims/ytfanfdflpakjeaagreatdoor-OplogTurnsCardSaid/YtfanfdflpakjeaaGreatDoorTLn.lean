/- What is above a number, and what is up to it, are together all entries: the law. Conditions: az ahead. -/
import Derived.Test.YtfanfdflpakjeaaGreatDoorTPs
open Bool renaming and_eq_true → zd6, false_eq_true → zd5
open Int renaming reduceBEq → zd0, reduceBNe → zd1, toNat_natCast → zeS
open List renaming length_map → zed, length_nil → zec, length_cons → zd4, map_append → zeK
open Nat renaming reduceSub → zd3, reduceAdd → zdY, reduceLeDiff → zdW, reduceEqDiff → zdX, reduceLT → zd2
namespace Go.Av.Fn
set_option linter.unusedSimpArgs false
set_option linter.unusedVariables false
set_option maxRecDepth 10000
open Go.Proofs
theorem len_ents {nn : Bool} {l : List Ent} : lenV false (zaW nn l) = some (it l.length) := by
 simp only [zaW, zcU, zed]
theorem app_two {Γ : Glob} {Kp : V → Hl → Prop} {h : Hl} {t : List V} {l : List Item} {K : HS → Prop} {d : Option Tmp} {s : List (Tmp × Option (Tmp × Bool) × AOp)} {nn : Bool} (a : List Ent) (ha : a.length ≤ 1000000) (hh : h.length < 1000000)
  (h0 : a = [] → hth Tryz.prog Γ Kp s l K (hput t h d (some (.sl [] [] (.zero true)))))
  (h1 : a ≠ [] → hth Tryz.prog Γ Kp s l K (hput t (h ++ [some (.tip 60 0)]) d (some (.sl (a.map entV) [] (.tip h.length 0))))) : happS Tryz.prog Γ Kp 60 80 8 (.sl [] [] (.zero true)) (zaW nn a) d s l K t h := by
 by_cases e : a = []
 ·subst e
  exact happ_none rfl (h0 rfl)
 ·refine happ_zero (ys := a.map entV) rfl (by simpa using e) hh rfl (elemsB_ents a) (by simp only [zed, zec]; omega) ?_
  simpa using h1 e
section
variable {Γ : Glob} {m : Store}
end
section
variable {Γ : Glob} {m : Store}
theorem pLeave_ok : zae Tryz.prog Γ 48 [it 77] m fun o m' => o = .ret (entV lv77) ∧ m' = m := by
 refine zay (zaE mixed F48_ok F48_h zaw (by first | exact LR.nil | simp only [nbS]) ?_)
 simp only [F48, ss0, zd3, zdY]
 simp only [zal, ssH, zdY, zdW, reduceIte, zdX, zd2, zd0, zd1]
 exact zac (v := entV lv77) rfl ⟨za5 _, rfl⟩
theorem cut_room {l : List Ent} {t : Tok} : zcG 8 (.sl (l.map entV ++ [entV lv77]) [] t) (some none) (some (some (l.length : Int))) (some none) = some (.sl (l.map entV) [entV lv77] .no) := by
 have hs : szOk 8 ((l.map entV ++ [entV lv77]) ++ []) = true := by
  have := zcb (l ++ [lv77])
  simpa using this
 simp only [zcG, hs, if_true, cutV, Option.getD_none, Option.getD_some, zeS, List.length_append, zed, zd4, zec, Int.toNat_zero, List.drop_zero, List.append_nil]
 rw [if_pos (by simpa using hs), if_pos ⟨by omega, by omega, by omega⟩, if_neg (by omega), if_pos (by omega), List.take_left' (by simp), List.drop_left' (by simp)]
theorem lOwn_ok (nn : Bool) (x : Lg) (hl : x.l.length ≤ 1000) : zae Tryz.prog Γ 31 [lgV nn x] m fun o m' => o = .ret (ownV x) ∧ m' = m := by
 have hnb := zaL (k := 0) nn x
 have hnl := zaD (k := 0) nn x.l
 have hlv := za5 (k := 0) lv77
 refine zay (zaE mixed F31_ok F31_h zaw (by simp only [hnb, nbS]) ?_)
 simp only [F31, lgV, ss0, zd3, zdY]
 simp only [lits_zero, zal, ssH, zdY, zdW, reduceIte, zdX, zd2, zd0, zd1]
 refine app_two x.l (by omega) (by simp only [zd4, zec, zdY, zd2]) (fun h0 => ?_) (fun h0 => ?_)
 ·simp only [ssH, zdY, zdW, reduceIte, zdX, zd2, zd0, zd1]
  refine zah (by exact fun m => pLeave_ok) (by first | exact LR.nil | simp only [nbS]) hlv ?_
  simp only [litE_eq, ssH, zdY, zdW, reduceIte, zdX, zd2, zd0, zd1]
  rw [show litE (entV lv77) = some (.sl [entV lv77] [] .full) from rfl]
  simp only [ssH, zdY, zdW, reduceIte, zdX, zd2, zd0, zd1]
  refine happ_zero (ys := [entV lv77]) rfl (by simp) (by simp only [zd4, zec, zdY, zd2]) rfl rfl (by simp) ?_
  have hc := cut_room (l := x.l) (t := .tip 2 0)
  rw [h0] at hc
  simp only [h0, List.map_nil, List.nil_append, zec] at hc
  simp only [len_ents, h0, zec, za6, za7, optV, hc, zal, ssH, zdY, zdW, reduceIte, zdX, zd2, zd0, zd1]
  exact zac (v := ownV x) (by simp only [ownV, h0]; rfl) ⟨nb_ownV x, rfl⟩
 ·simp only [ssH, zdY, zdW, reduceIte, zdX, zd2, zd0, zd1]
  refine zah (by exact fun m => pLeave_ok) (by first | exact LR.nil | simp only [nbS]) hlv ?_
  simp only [litE_eq, ssH, zdY, zdW, reduceIte, zdX, zd2, zd0, zd1]
  rw [show litE (entV lv77) = some (.sl [entV lv77] [] .full) from rfl]
  simp only [ssH, zdY, zdW, reduceIte, zdX, zd2, zd0, zd1]
  refine happ_tip (ys := [entV lv77]) rfl (by simp) (by simpa using h0) rfl (zcb _) rfl (by simp; omega) ?_
  simp only [len_ents, za6, za7, optV, cut_room, zal, ssH, zdY, zdW, reduceIte, zdX, zd2, zd0, zd1]
  exact zac (v := ownV x) rfl ⟨nb_ownV x, rfl⟩
end
def entBk (e : Ent) : Blk := .var 60 [it e.c, it e.q, it e.k, it e.n, bs e.s, it e.ck, it e.cn, bs e.cs]
def strBk (s : List UInt8) : Blk := .var 9 [bs s]
theorem nb_entBk (e : Ent) : nbB 0 (entBk e) := by simp only [entBk, nbS]
theorem nb_strBk (s : List UInt8) : nbB 0 (strBk s) := by simp only [strBk, nbS]
theorem wN_log {b : Int} {c : List UInt8} {l : List Ent} {t : Tok} (h : l ≠ []) : wN (.agg [it b, bs c, .sl (l.map entV) [] t]) = lgV true ⟨b, c, l⟩ := by
 simp only [wN, wNs, bs, lgV]
 rw [show V.sl (wNs (List.map entV l)) [] (tokN (List.map entV l) t) = wN (.sl (l.map entV) [] t) by simp only [wN, wNs], wN_some (.inl h)]
def zbM (x : Lg) (e : Ent) : Bool × Lg × Int := if entB e = true then (if x.l.length = 64 ∨ x.b + x.l.length = 2147483647 then (false, lg0, 12) else (true, ⟨x.b, x.c, x.l ++ [e]⟩, 0)) else (false, lg0, 2)
def zaH (nn : Bool) (x : Lg) (op : Int) (ck : List UInt8) : Bool × Lg × Int :=
 if (zcF x.b x.l.length op).2 = 0 then
  (if 0 < (zcF x.b x.l.length op).1 then (if ck = [] ∨ 65536 < ck.length then (false, lg0, 2) else (nn, ⟨op, ck, x.l.drop (zcF x.b x.l.length op).1.toNat⟩, 0)) else (nn, x, 0))
 else (false, lg0, (zcF x.b x.l.length op).2)
theorem compIn_nil {nn : Bool} {x : Lg} (hn : nn = true ∨ x.l = []) {op : Int} {ck : List UInt8} : (zaH nn x op ck).1 = true ∨ (zaH nn x op ck).2.1.l = [] := by
 unfold zaH
 split
 ·split
  ·split
   ·exact .inr rfl
   ·exact hn.imp id fun h => by simp [h]
  ·exact hn
 ·exact .inr rfl
theorem appIn_nil {x : Lg} {e : Ent} : (zbM x e).1 = true ∨ (zbM x e).2.1.l = [] := by
 unfold zbM
 split
 ·split
  ·exact .inr rfl
  ·exact .inl rfl
 ·exact .inr rfl
section
variable {Γ : Glob} {m : Store}
theorem app_up {Kp : V → Hl → Prop} {h : Hl} {t : List V} {li : List Item} {K : HS → Prop} {d : Option Tmp} {s : List (Tmp × Option (Tmp × Bool) × AOp)} {nn : Bool} {l : List Ent} (e : Ent) (hl : l.length ≤ 1000000) (hh : h.length < 1000000)
  (hr : hth Tryz.prog Γ Kp s li K (hput t (h ++ [some (.tip 60 0)]) d (some (.sl ((l ++ [e]).map entV) [] (.tip h.length 0))))) : happS Tryz.prog Γ Kp 60 80 8 (upV nn l l.length) (.sl [entV e] [] .full) d s li K t h := by
 rw [zeK] at hr
 unfold upV
 rw [List.take_length]
 by_cases h0 : 0 < l.length
 ·rw [if_pos h0]
  exact happ_full (ys := [entV e]) rfl (by simp) hh (zcb l) rfl (by simp; omega) hr
 ·have hn : l = [] := by cases l with | nil => rfl | cons a b => simp at h0
  subst hn
  rw [if_neg h0]
  cases nn
  ·exact happ_full (ys := [entV e]) rfl (by simp) hh rfl rfl (by simp) hr
  ·exact happ_zero (ys := [entV e]) rfl (by simp) hh rfl rfl (by simp) hr
theorem pAppend1_ok (E : Env Γ) {nn : Bool} {x : Lg} (hn : nn = true ∨ x.l = []) (e : Ent) (hx : lgB x = true) :
  KCalls Tryz.prog Γ 86 [] none [logB nn x, entBk e] fun v => v = .tup [lgV (zbM x e).1 (zbM x e).2.1, it (zbM x e).2.2] := by
 have hnl := zaD (k := 0) nn x.l
 have hb : 0 ≤ x.b ∧ x.b ≤ 2147483647 ∧ x.l.length ≤ 64 := by simp only [lgB, zd6, decide_eq_true_eq] at hx; omega
 have hw : IntKind.i64.wrap (x.b + (x.l.length : Int)) = x.b + (x.l.length : Int) := wrap_i64 (by omega) (by omega)
 have hn0 := zaL (k := 0) false lg0
 have hw0 := wN_lgV (nn := false) (x := lg0) (.inr rfl)
 have bad : ∀ n : Int, zbM x e = (false, lg0, n) → nb 0 (wN (.tup [lgV false lg0, it n])) ∧ wN (.tup [lgV false lg0, it n]) = .tup [lgV (zbM x e).1 (zbM x e).2.1, it (zbM x e).2.2] := by
  intro n h
  rw [h]
  simp only [wN, wNs, hw0]
  exact ⟨by simp only [hn0, nbS], trivial⟩
 refine kcalls mixed F86_ok F86_h zaw (by first | exact LR.nil | simp only [nbS]) (two_blk (zdt nn x) (nb_entBk e)) ?_
 simp only [F86, closA, logB, entBk, zd4, zec, zdY, List.range, List.range.loop, List.map, ss0, zd3, zdY]
 simp only [len_ents, ssH, zdY, zdW, reduceIte, zdX, zd2, zd0, zd1]
 refine zah (by exact fun m => oCheckE_ok E e) (by simp only [nbS]) (by first | exact LR.nil | simp only [nbS]) ?_
 cases he : entB e
 ·simp only [zd5, if_false, zal, ssH, zdY, zdW, reduceIte, zdX, zd2, zd0, zd1]
  exact zac (v := .tup [lgV false lg0, it 2]) rfl (bad _ (by simp only [zbM, he]; rfl))
 ·simp only [if_true, hw, ssH, zdY, zdW, reduceIte, zdX, zd2, zd0, zd1]
  by_cases h1 : x.l.length = 64
  ·simp only [show (((x.l.length : Nat) : Int) == 64) = true by rw [h1]; rfl, zal, ssH, zdY, zdW, reduceIte, zdX, zd2, zd0, zd1]
   exact zac (v := .tup [lgV false lg0, it 12]) rfl (bad _ (by simp only [zbM, he, if_true]; rw [if_pos (.inl h1)]))
  ·simp only [show (((x.l.length : Nat) : Int) == 64) = false by simp; omega, hw, ssH, zdY, zdW, reduceIte, zdX, zd2, zd0, zd1]
   by_cases h2 : x.b + (x.l.length : Int) = 2147483647
   ·simp only [show ((x.b + (x.l.length : Int)) == 2147483647) = true by rw [h2]; rfl, zal, ssH, zdY, zdW, reduceIte, zdX, zd2, zd0, zd1]
    exact zac (v := .tup [lgV false lg0, it 12]) rfl (bad _ (by simp only [zbM, he, if_true]; rw [if_pos (.inr h2)]))
   ·have hg : zbM x e = (true, ⟨x.b, x.c, x.l ++ [e]⟩, 0) := by
     simp only [zbM, he, if_true]
     rw [if_neg (by rintro (k | k) <;> omega)]
    rw [hg]
    have hwl : ∀ t, wN (.agg [it x.b, bs x.c, .sl ((x.l ++ [e]).map entV) [] t]) = lgV true ⟨x.b, x.c, x.l ++ [e]⟩ := fun t => wN_log (by simp)
    have hnl2 := zaL (k := 0) true ⟨x.b, x.c, x.l ++ [e]⟩
    simp only [show ((x.b + (x.l.length : Int)) == 2147483647) = false by simp; omega, za6, za7, optV, cut_upto hn (Nat.le_refl _), litE_eq, litE_ent, ssH, zdY, zdW, reduceIte, zdX, zd2, zd0, zd1]
    refine app_up e (by omega) (by simp only [zd4, zec, zdY, zd2]) ?_
    simp only [zal, zdV, oneV_sl, ssH, zdY, zdW, reduceIte, zdX, zd2, zd0, zd1]
    exact zac (v := .tup [.agg [it x.b, bs x.c, .sl ((x.l ++ [e]).map entV) [] (.tip 3 0)], it 0]) rfl ⟨by simp only [wN, wNs] at hwl ⊢; rw [hwl]; simp only [hnl2, nbS], by simp only [wN, wNs] at hwl ⊢; rw [hwl]⟩
theorem pAppend_ok (E : Env Γ) {nn : Bool} {x : Lg} (hn : nn = true ∨ x.l = []) (e : Ent) :
  zae Tryz.prog Γ 42 [lgV nn x, entV e] m fun o m' => o = .ret (.tup [lgV (doL x (zbM x e)).1 (doL x (zbM x e)).2.1, it (doL x (zbM x e)).2.2]) ∧ m' = m := by
 have hnb := zaL (k := 0) nn x
 have hne := za5 (k := 0) e
 have hdn := doL_nil (x := x) (appIn_nil (x := x) (e := e))
 refine zay (zdE mixed F42_ok F42_h zaw (by simp only [hnb, hne, nbS]) ?_)
 simp only [F42, lgV, entV, ss0, zd3, zdY]
 simp only [zal, ssH, zdY, zdW, reduceIte, zdX, zd2, zd0, zd1]
 refine hcall_k [0, 1] (pOfL2_ok E (nn := nn) (x := x) (appIn_nil (x := x) (e := e)) (two_blk (zdt nn x) (nb_entBk e)) (fun hx => pAppend1_ok E hn e hx)) rfl rfl (by decide) (two_get rfl rfl) (by simp only [hnb, nbS]) (two_blk (zdt nn x) (nb_entBk e)) ?_ ?_
 ·rintro v rfl
  rw [doL_v]
  simp only [zaL, nbS]
 ·rintro v rfl
  rw [doL_v]
  generalize doL x (zbM x e) = r at hdn
  obtain ⟨a, y, e⟩ := r
  have hwa := wN_lgV hdn
  have hna := zaL (k := 0) a y
  simp only [hdrop, lgV, zal, zaG, ssH, zdY, zdW, reduceIte, zdX, zd2, zd0, zd1]
  exact zac (v := .tup [lgV a y, it e]) rfl ⟨by simp only [wN, wNs, hwa, hna, nbS], by simp only [wN, wNs, hwa]; rfl⟩
theorem pCompact1_ok {nn : Bool} {x : Lg} (hn : nn = true ∨ x.l = []) (op : Int) (ck : List UInt8) (hx : lgB x = true) :
  KCalls Tryz.prog Γ 89 [] none [logB nn x, intB op, strBk ck] fun v => v = .tup [lgV (zaH nn x op ck).1 (zaH nn x op ck).2.1, it (zaH nn x op ck).2.2] := by
 have hnl := zaD (k := 0) nn x.l
 have hle : x.l.length ≤ 64 := by simp only [lgB, zd6, decide_eq_true_eq] at hx; omega
 have hn0 := zaL (k := 0) false lg0
 have hw0 := wN_lgV (nn := false) (x := lg0) (.inr rfl)
 have bad : ∀ n : Int, zaH nn x op ck = (false, lg0, n) → nb 0 (wN (.tup [lgV false lg0, it n])) ∧ wN (.tup [lgV false lg0, it n]) = .tup [lgV (zaH nn x op ck).1 (zaH nn x op ck).2.1, it (zaH nn x op ck).2.2] := by
  intro n h
  rw [h]
  simp only [wN, wNs, hw0]
  exact ⟨by simp only [hn0, nbS], trivial⟩
 refine kcalls mixed F89_ok F89_h zaw (by first | exact LR.nil | simp only [nbS]) (three_blk (zdt nn x) (nb_intB op) (nb_strBk ck)) ?_
 simp only [F89, closA, logB, intB, strBk, zd4, zec, zdY, List.range, List.range.loop, List.map, ss0, zd3, zdY]
 simp only [ssH, zdY, zdW, reduceIte, zdX, zd2, zd0, zd1]
 refine zah (by exact fun m => pWithin_ok nn x op hx) (by simp only [hnl, nbS]) (by first | exact LR.nil | simp only [nbS]) ?_
 by_cases he : (zcF x.b x.l.length op).2 = 0
 ·obtain ⟨n, h1, h2, h3⟩ := withL_le hx he
  have hn2 : nn = true ∨ x.l.drop n = [] := hn.imp id fun h => by rw [h, List.drop_nil]
  have hnd := zaD (k := 0) nn (x.l.drop n)
  have fin : ∀ (b : Int) (c : List UInt8), zaH nn x op ck = (nn, ⟨b, c, x.l.drop n⟩, 0) → nb 0 (wN (.tup [lgV nn ⟨b, c, x.l.drop n⟩, it 0])) ∧ wN (.tup [lgV nn ⟨b, c, x.l.drop n⟩, it 0]) = .tup [lgV (zaH nn x op ck).1 (zaH nn x op ck).2.1, it (zaH nn x op ck).2.2] := by
   intro b c h
   have hw := wN_lgV (nn := nn) (x := ⟨b, c, x.l.drop n⟩) hn2
   have hnb := zaL (k := 0) nn ⟨b, c, x.l.drop n⟩
   rw [h]
   simp only [wN, wNs, hw]
   exact ⟨by simp only [hnb, nbS], trivial⟩
  simp only [he, h1, gt_iff_lt, ssH, zdY, zdW, reduceIte, zdX, zd2, zd0, zd1]
  by_cases h0 : 0 < n
  ·have hd : decide ((0 : Int) < (n : Int)) = true := decide_eq_true (by omega)
   cases hc : (ck == [])
   ·simp only [hd, zdD, hc, ssH, zdY, zdW, reduceIte, zdX, zd2, zd0, zd1]
    by_cases hk : (65536 : Int) < (ck.length : Int)
    ·simp only [decide_eq_true hk, zal, ssH, zdY, zdW, reduceIte, zdX, zd2, zd0, zd1]
     exact zac (v := .tup [lgV false lg0, it 2]) rfl (bad _ (by simp only [zaH, he, h1, if_true]; rw [if_pos (by omega), if_pos (.inr (by omega))]))
    ·simp only [decide_eq_false hk, hd, ssH, zdY, zdW, reduceIte, zdX, zd2, zd0, zd1]
     simp only [za6, za7, optV, cut_from hn h2, ssH, zdY, zdW, reduceIte, zdX, zd2, zd0, zd1]
     refine zah (by exact fun m => pClone_e hn2 (by simp; omega)) (by simp only [hnd, nbS]) (by simp only [hnd]) ?_
     simp only [cells_ents, zaG, zal, ssH, zdY, zdW, reduceIte, zdX, zd2, zd0, zd1]
     refine zac (v := .tup [lgV nn ⟨op, ck, x.l.drop n⟩, it 0]) rfl (fin _ _ ?_)
     have hc' : ck ≠ [] := by simpa using hc
     simp only [zaH, he, h1, if_true, zeS]
     rw [if_pos (by omega), if_neg (by rintro (k | k); exact hc' k; omega)]
   ·simp only [hd, zdD, hc, zal, ssH, zdY, zdW, reduceIte, zdX, zd2, zd0, zd1]
    have hc' : ck = [] := by simpa using hc
    exact zac (v := .tup [lgV false lg0, it 2]) rfl (bad _ (by simp only [zaH, he, h1, if_true]; rw [if_pos (by omega), if_pos (.inl hc')]))
  ·have hn0' : n = 0 := by omega
   subst hn0'
   have hd : decide ((0 : Int) < ((0 : Nat) : Int)) = false := rfl
   simp only [hd, ssH, zdY, zdW, reduceIte, zdX, zd2, zd0, zd1]
   simp only [za6, za7, optV, cut_from hn h2, ssH, zdY, zdW, reduceIte, zdX, zd2, zd0, zd1]
   refine zah (by exact fun m => pClone_e hn (by omega)) (by simp only [hnl, nbS]) (by simp only [hnl]) ?_
   simp only [cells_ents, zaG, zal, ssH, zdY, zdW, reduceIte, zdX, zd2, zd0, zd1]
   refine zac (v := .tup [lgV nn ⟨x.b, x.c, x.l.drop 0⟩, it 0]) rfl (fin _ _ ?_)
   simp only [zaH, he, h1, if_true, List.drop_zero]
   rw [if_neg (by omega)]
 ·have hb : ((zcF x.b x.l.length op).2 != 0) = true := by simpa using he
  simp only [hb, zal, ssH, zdY, zdW, reduceIte, zdX, zd2, zd0, zd1]
  exact zac (v := .tup [lgV false lg0, it (zcF x.b x.l.length op).2]) rfl (bad _ (by simp only [zaH, if_neg he]))
theorem pCompact_ok (E : Env Γ) {nn : Bool} {x : Lg} (hn : nn = true ∨ x.l = []) (op : Int) (ck : List UInt8) :
  zae Tryz.prog Γ 46 [lgV nn x, it op, bs ck] m fun o m' => o = .ret (.tup [lgV (doL x (zaH nn x op ck)).1 (doL x (zaH nn x op ck)).2.1, it (doL x (zaH nn x op ck)).2.2]) ∧ m' = m := by
 have hnb := zaL (k := 0) nn x
 have hdn := doL_nil (x := x) (compIn_nil hn (op := op) (ck := ck))
 refine zay (zdE mixed F46_ok F46_h zaw (by simp only [hnb, nbS]) ?_)
 simp only [F46, lgV, ss0, zd3, zdY]
 simp only [zal, ssH, zdY, zdW, reduceIte, zdX, zd2, zd0, zd1]
 refine hcall_k [0, 1, 2] (pOfL3_ok E (nn := nn) (x := x) (compIn_nil hn (op := op) (ck := ck)) (three_blk (zdt nn x) (nb_intB op) (nb_strBk ck)) (fun hx => pCompact1_ok hn op ck hx)) rfl rfl (by decide) (three_get rfl rfl rfl) (by simp only [hnb, nbS]) (three_blk (zdt nn x) (nb_intB op) (nb_strBk ck)) ?_ ?_
 ·rintro v rfl
  rw [doL_v]
  simp only [zaL, nbS]
 ·rintro v rfl
  rw [doL_v]
  generalize doL x (zaH nn x op ck) = r at hdn
  obtain ⟨a, y, e⟩ := r
  have hwa := wN_lgV hdn
  have hna := zaL (k := 0) a y
  simp only [hdrop, lgV, zal, zaG, ssH, zdY, zdW, reduceIte, zdX, zd2, zd0, zd1]
  exact zac (v := .tup [lgV a y, it e]) rfl ⟨by simp only [wN, wNs, hwa, hna, nbS], by simp only [wN, wNs, hwa]; rfl⟩
end
theorem fillV_ents {cells : List V} {off : Nat} {r : List (Nat × Nat × V)} {nn : Bool} {l : List Ent} : zbB cells ((off, 1, zaW nn l) :: r) = if off + 1 ≤ cells.length then zbB (tset cells off (zaW nn l)) r else none := zcB rfl
theorem nb_entsN {k : Nat} {l : List Ent} : nb k (entsN l) := zaD _ _
theorem bet_up {x : Lg} {n : Nat} {op : Int} (h2 : n ≤ x.l.length) (h3 : op = x.b + n) : bet x.b x.b op 0 x.l = x.l.take n := by
 rw [bet_take (n := n) x.l 0 (fun j _ hj => by
  simp only [cndB]
  rw [Bool.eq_iff_iff]
  simp only [zd6, decide_eq_true_eq]
  omega)]
 rfl
theorem bet_dn {x : Lg} {n : Nat} {op : Int} (h2 : n ≤ x.l.length) (h3 : op = x.b + n) : bet x.b op (x.b + x.l.length) 0 x.l = x.l.drop n := by
 rw [bet_drop (n := n) x.l 0 (fun j _ hj => by
  simp only [cndB]
  rw [Bool.eq_iff_iff]
  simp only [zd6, decide_eq_true_eq]
  omega)]
 rfl
theorem bet_all {x : Lg} : bet x.b x.b (x.b + x.l.length) 0 x.l = x.l := bet_dn (n := 0) (Nat.zero_le _) (by omega)
theorem bad_right {x : Lg} {op : Int} (h : badL x op = 0) : lgB x = true ∧ (zcF x.b x.l.length op).2 = 0 := by
 cases hx : lgB x
 ·simp only [badL, hx, zd5, if_false] at h
  exact absurd h (by decide)
 ·exact ⟨rfl, by simpa only [badL, hx, if_true] using h⟩
def lgN (x : Lg) : V := lgV (!x.l.isEmpty) x
theorem nb_lgN {k : Nat} {x : Lg} : nb k (lgN x) := zaL _ _
theorem do_bad {x : Lg} {r : Bool × Lg × Int} {op : Int} (hr : (zcF x.b x.l.length op).2 ≠ 0 → r = (false, lg0, (zcF x.b x.l.length op).2)) (h : badL x op ≠ 0) : doL x r = (false, lg0, badL x op) := by
 unfold badL at h ⊢
 unfold doL
 by_cases hx : lgB x = true
 ·simp only [if_pos hx] at h ⊢
  rw [hr h]
  simp only [if_neg h]
 ·simp only [if_neg hx]
theorem do_err {x y : Lg} {a : Bool} {n : Int} {r : Bool × Lg × Int} (hx : lgB x = true) (h : r = (a, y, n)) (hn : n ≠ 0) : doL x r = (false, lg0, n) := by
 subst h
 simp only [doL, hx, if_true, if_neg hn]
theorem do_fit {x y : Lg} {a : Bool} {r : Bool × Lg × Int} (hx : lgB x = true) (h : r = (a, y, 0)) : doL x r = (a, y, 0) := by
 subst h
 simp only [doL, hx, if_true]
section
variable {Γ : Glob} {m : Store}
theorem rCut20_ok (nn : Bool) (x : Lg) (op : Int) : zae Tryz.prog Γ 45 [lgV nn x, it op] m fun o m' => o = .ret (.tup [lgN (doL x (zca nn x op)).2.1, it (doL x (zca nn x op)).2.2]) ∧ m' = m := by
 have hnb := zaL (k := 0) nn x
 have hnl := zaD (k := 0) nn x.l
 refine zay (zaE mixed F45_ok F45_h zaw (by simp only [hnb, nbS]) ?_)
 simp only [F45, lgV, ss0, zd3, zdY]
 simp only [zal, ssH, zdY, zdW, reduceIte, zdX, zd2, zd0, zd1]
 have fin : ∀ (y : Lg) (e : Int), (doL x (zca nn x op)).2.1 = y → (doL x (zca nn x op)).2.2 = e → nb 0 (.tup [lgN y, it e]) ∧ V.tup [lgN y, it e] = .tup [lgN (doL x (zca nn x op)).2.1, it (doL x (zca nn x op)).2.2] := by
  intro y e h1 h2
  rw [h1, h2]
  exact ⟨by simp only [nb_lgN, nbS], rfl⟩
 refine zah (by exact fun m => rBad_ok nn x op) (by simp only [hnl, nbS]) (by first | exact LR.nil | simp only [nbS]) ?_
 cases hb : (badL x op != 0)
 ·have h0 : badL x op = 0 := by simpa using hb
  obtain ⟨hx, he⟩ := bad_right h0
  obtain ⟨n, h1, h2, h3⟩ := withL_le hx he
  have hc : doL x (zca nn x op) = (nn, ⟨x.b, x.c, x.l.take n⟩, 0) := by simp only [doL, zca, hx, he, h1, if_true, zeS]
  simp only [hb, ssH, zdY, zdW, reduceIte, zdX, zd2, zd0, zd1]
  refine zah (by exact fun m => rBetween_ok nn x x.b op hx) (by simp only [hnl, nbS]) nb_entsN ?_
  rw [bet_up h2 h3]
  have hnn := nb_entsN (k := 0) (l := x.l.take n)
  simp only [entsN, fillV_ents, zal, zaG, ssH, zdY, zdW, reduceIte, zdX, zd2, zd0, zd1]
  exact zac (v := .tup [lgN ⟨x.b, x.c, x.l.take n⟩, it 0]) rfl (fin ⟨x.b, x.c, x.l.take n⟩ 0 (by rw [hc]) (by rw [hc]))
 ·have h0 : badL x op ≠ 0 := by simpa using hb
  have hc := do_bad (x := x) (r := zca nn x op) (op := op) (fun h => by simp only [zca, if_neg h]) h0
  simp only [hb, zal, ssH, zdY, zdW, reduceIte, zdX, zd2, zd0, zd1]
  exact zac (v := .tup [lgN lg0, it (badL x op)]) rfl (fin lg0 (badL x op) (by rw [hc]) (by rw [hc]))
theorem rCompact20_ok (nn : Bool) (x : Lg) (op : Int) (ck : List UInt8) : zae Tryz.prog Γ 47 [lgV nn x, it op, bs ck] m fun o m' => o = .ret (.tup [lgN (doL x (zaH nn x op ck)).2.1, it (doL x (zaH nn x op ck)).2.2]) ∧ m' = m := by
 have hnb := zaL (k := 0) nn x
 have hnl := zaD (k := 0) nn x.l
 refine zay (zaE mixed F47_ok F47_h zaw (by simp only [hnb, nbS]) ?_)
 simp only [F47, lgV, ss0, zd3, zdY]
 simp only [zal, ssH, zdY, zdW, reduceIte, zdX, zd2, zd0, zd1]
 have fin : ∀ (y : Lg) (e : Int), (doL x (zaH nn x op ck)).2.1 = y → (doL x (zaH nn x op ck)).2.2 = e → nb 0 (.tup [lgN y, it e]) ∧ V.tup [lgN y, it e] = .tup [lgN (doL x (zaH nn x op ck)).2.1, it (doL x (zaH nn x op ck)).2.2] := by
  intro y e h1 h2
  rw [h1, h2]
  exact ⟨by simp only [nb_lgN, nbS], rfl⟩
 refine zah (by exact fun m => rBad_ok nn x op) (by simp only [hnl, nbS]) (by first | exact LR.nil | simp only [nbS]) ?_
 cases hb : (badL x op != 0)
 ·have h0 : badL x op = 0 := by simpa using hb
  obtain ⟨hx, he⟩ := bad_right h0
  obtain ⟨n, h1, h2, h3⟩ := withL_le hx he
  simp only [hb, ssH, zdY, zdW, reduceIte, zdX, zd2, zd0, zd1]
  cases hn : (op == x.b)
  ·have hn0 : 0 < n := by
    have : op ≠ x.b := by simpa using hn
    omega
   simp only [zdD, ssH, zdY, zdW, reduceIte, zdX, zd2, zd0, zd1]
   cases hk : (ck == [])
   ·simp only [hk, gt_iff_lt, ssH, zdY, zdW, reduceIte, zdX, zd2, zd0, zd1]
    have hk' : ck ≠ [] := by simpa using hk
    by_cases hl : (65536 : Int) < (ck.length : Int)
    ·have hcI : zaH nn x op ck = (false, lg0, 2) := by
      unfold zaH
      rw [if_pos he, h1, if_pos (by omega), if_pos (.inr (by omega))]
     have hc : doL x (zaH nn x op ck) = (false, lg0, 2) := do_err hx hcI (by decide)
     simp only [decide_eq_true hl, zal, ssH, zdY, zdW, reduceIte, zdX, zd2, zd0, zd1]
     exact zac (v := .tup [lgN lg0, it 2]) rfl (fin lg0 2 (by rw [hc]) (by rw [hc]))
    ·have hc : doL x (zaH nn x op ck) = (nn, ⟨op, ck, x.l.drop n⟩, 0) := by
      refine do_fit hx ?_
      unfold zaH
      rw [if_pos he, h1, if_pos (by omega), if_neg (by rintro (k | k); exact hk' k; omega), zeS]
     simp only [decide_eq_false hl, ssH, zdY, zdW, reduceIte, zdX, zd2, zd0, zd1]
     refine zah (by exact fun m => zdw nn x) (by simp only [hnl, nbS]) (by first | exact LR.nil | simp only [nbS]) ?_
     simp only [hx, if_true, ssH, zdY, zdW, reduceIte, zdX, zd2, zd0, zd1]
     refine zah (by exact fun m => rBetween_ok nn x op (x.b + x.l.length) hx) (by simp only [hnl, nbS]) nb_entsN ?_
     rw [bet_dn h2 h3]
     simp only [entsN, fillV_ents, zal, zaG, ssH, zdY, zdW, reduceIte, zdX, zd2, zd0, zd1]
     exact zac (v := .tup [lgN ⟨op, ck, x.l.drop n⟩, it 0]) rfl (fin ⟨op, ck, x.l.drop n⟩ 0 (by rw [hc]) (by rw [hc]))
   ·have hk' : ck = [] := by simpa using hk
    have hcI : zaH nn x op ck = (false, lg0, 2) := by
     unfold zaH
     rw [if_pos he, h1, if_pos (by omega), if_pos (.inl hk')]
    have hc : doL x (zaH nn x op ck) = (false, lg0, 2) := do_err hx hcI (by decide)
    simp only [hk, zal, ssH, zdY, zdW, reduceIte, zdX, zd2, zd0, zd1]
    exact zac (v := .tup [lgN lg0, it 2]) rfl (fin lg0 2 (by rw [hc]) (by rw [hc]))
  ·have hn0 : op = x.b := by simpa using hn
   have hz : n = 0 := by omega
   subst hz
   have hc : doL x (zaH nn x op ck) = (nn, x, 0) := by
    refine do_fit hx ?_
    unfold zaH
    rw [if_pos he, h1, if_neg (by omega)]
   simp only [ssH, zdY, zdW, reduceIte, zdX, zd2, zd0, zd1]
   refine zah (by exact fun m => zdw nn x) (by simp only [hnl, nbS]) (by first | exact LR.nil | simp only [nbS]) ?_
   simp only [hx, if_true, ssH, zdY, zdW, reduceIte, zdX, zd2, zd0, zd1]
   refine zah (by exact fun m => rBetween_ok nn x op (x.b + x.l.length) hx) (by simp only [hnl, nbS]) nb_entsN ?_
   rw [bet_dn h2 h3]
   simp only [entsN, fillV_ents, zal, zaG, ssH, zdY, zdW, reduceIte, zdX, zd2, zd0, zd1]
   exact zac (v := .tup [lgN x, it 0]) rfl (fin x 0 (by rw [hc]) (by rw [hc]))
 ·have h0 : badL x op ≠ 0 := by simpa using hb
  have hc := do_bad (x := x) (r := zaH nn x op ck) (op := op) (fun h => by simp only [zaH, if_neg h]) h0
  simp only [hb, zal, ssH, zdY, zdW, reduceIte, zdX, zd2, zd0, zd1]
  exact zac (v := .tup [lgN lg0, it (badL x op)]) rfl (fin lg0 (badL x op) (by rw [hc]) (by rw [hc]))
end
end Go.Av.Fn
/- A log appended to: the document. Conditions: as ahead. -/
namespace Go.Av
section
variable {P : Program} {Γ : Glob} {H : Nat → List (Nat × List Nat) × List Nat} {f : FuncId} {F : AFn} {gs : List Nat} {m : Store}
theorem acalls_b (hm : P.follows .mixedOrders = true) (hF : zao P H f = some F) (hok : F.body.okH gs = true) (hG : GOk Γ gs) {args : List V} (ha : nbs 0 args) {e : TypeId} {size : Nat} {es : List V} (hz : szOk size es = true) (hes : nbs 0 es)
  (h : hawp P Γ (fun _ _ => False) 0 F.body (bodyH F.res fun v h' => (es = [] ∧ v = .sl [] [] .full) ∨ (es ≠ [] ∧ ∃ j k, v = .sl es [] (.tip j k) ∧ lk h' j = some (.tip e k))) ⟨start F.ntmps args, []⟩) : zae P Γ f args m fun o m' => ∃ v2, o = .ret v2 ∧ Buf e size m m' v2 es := by
 have h1 := acalls_h (P := P) (Γ := Γ) (R0 := fun _ _ => False) (N := 0) (m := fun _ => none) hm hF hok hG (ha.up _) (hh_nil _ (fun _ _ q => q) _) (fun _ _ q => q.elim) (Q := fun o h' => match o with | .ret v => (es = [] ∧ v = .sl [] [] .full) ∨ (es ≠ [] ∧ ∃ j k, v = .sl es [] (.tip j k) ∧ lk h' j = some (.tip e k)) | .pan _ => False) h
 have hD : Disj (fun _ => none) m := fun b => .inl rfl
 have e0 : Store.or (fun _ => none) m = m := by funext b; rfl
 have h2 := h1.frame hD
 rw [e0] at h2
 refine zae.less h2 ?_
 rintro o m'' ⟨m', rfl, d, S, o0, h', s1, s2, s3, s4⟩
 cases o0 with
 | pan v => exact s4.elim
 | ret v =>
  cases o with
  | pan v' => exact s3.elim
  | ret v' =>
   rcases s4 with ⟨rfl, rfl⟩ | ⟨hne, j, k, rfl, hj⟩
   ·have : v' = .sl [] [] .full := nb_eq (v := .sl [] [] .full) (.sl .nil .nil trivial) s3
    subst this
    refine ⟨m, ?_, _, rfl, hz, .inl ⟨rfl, rfl, rfl⟩⟩
    intro b x hb
    rcases d b with q | q
    ·simp only [Store.or, q]; exact hb
    ·rw [q] at hb; cases hb
   ·obtain ⟨es', mr, k', rfl, ra, rb, rc⟩ := VR.sl_inv s3
    obtain rfl := nbs_eq hes ra
    obtain rfl := rb.nil_inv
    cases k' with
    | tip b k' =>
     obtain ⟨r0, rfl⟩ := rc
     obtain ⟨Y', g1, g2⟩ := s2.blk _ _ _ r0 hj
     cases Y' with
     | tip e' k' =>
      obtain ⟨rfl, rfl⟩ := g2
      have hmb : m b = none := by
       rcases d b with q | q
       ·rw [g1] at q; cases q
       ·exact q
      refine ⟨m.set b (.tip e k), ?_, _, rfl, hz, .inr ⟨hne, b, k, hmb, rfl, rfl⟩⟩
      intro c x hx
      by_cases e : c = b
      ·subst e
       rw [Store.set_same] at hx
       cases hx
       simp only [Store.or, g1]
      ·rw [Store.set_ne _ _ e] at hx
       rcases d c with q | q
       ·simp only [Store.or, q]; exact hx
       ·rw [q] at hx
        cases hx
     | _ => exact g2.elim
    | _ => exact rc.elim
end
section
variable {P : Program} {Γ : Glob} {Kp : V → Hl → Prop} {N : Nat} {l : List Item} {K : HS → Prop} {t : List V} {h : Hl} {d : Option Tmp} {s : List (Tmp × Option (Tmp × Bool) × AOp)} {g : FuncId} {first args caps : List V}
theorem hcall_b {e : TypeId} {size : Nat} {es : List V} (hl : h.length < 1000000) (hA : ∀ m, zae P Γ g (first ++ args ++ caps) m fun o m2 => ∃ v2, o = .ret v2 ∧ Buf e size m m2 v2 es) (ha : nbs 0 (first ++ args ++ caps)) (hes : nbs 0 es)
  (h0 : es = [] → hth P Γ Kp s l K (hput t h d (some (.sl [] [] .full)))) (hr : es ≠ [] → ∀ k, hth P Γ Kp s l K (hput t (h ++ [some (.tip e k)]) d (some (.sl es [] (.tip h.length k))))) : hcallS P Γ Kp (.fn (.func g) first caps) args d s l K t h := by
 intro R args' m' rl H
 obtain rfl := nbs_eq ha rl
 refine (hA m').mono ?_
 rintro o m2 ⟨v2, rfl, hb, (⟨q, rfl, rfl⟩ | ⟨q, b, k, q1, rfl, rfl⟩)⟩
 ·subst q
  exact ⟨R, .ret _, h, R.le_refl, H, VR.sl (k := .full) (k' := .full) .nil .nil trivial, h0 rfl⟩
 ·exact ⟨R.add h.length b, .ret _, _, R.le_add _ _, H.push (x := .tip e k) (x' := .tip e k) q1 hl ⟨rfl, rfl⟩, VR.sl (k := .tip h.length k) (k' := .tip b k) (hes.up _) .nil ⟨.inr ⟨rfl, rfl⟩, rfl⟩, hr q k⟩
end
end Go.Av
namespace Go.Av.Fn
set_option linter.unusedSimpArgs false
set_option linter.unusedVariables false
set_option maxRecDepth 10000
open Go.Proofs
section
variable {Γ : Glob} {m : Store}
theorem rBetween_b (nn : Bool) (x : Lg) (a b : Int) (hx : lgB x = true) : zae Tryz.prog Γ 81 [lgV nn x, it a, it b] m fun o m' => ∃ v, o = .ret v ∧ Buf 60 8 m m' v ((bet x.b a b 0 x.l).map entV) := by
 have hnb := zaL (k := 0) nn x
 refine acalls_b mixed F81_ok F81_h zaw (by simp only [hnb, nbS]) (zcb _) (zc0 za5 _) (rBetween_w nn x a b hx fun tok r hB => ?_)
 rcases hB with ⟨rfl, h0, rfl⟩ | ⟨k, rfl, h0, rfl⟩
 ·exact .inl ⟨by rw [h0]; rfl, by rw [h0]; rfl⟩
 ·exact .inr ⟨by simpa using h0, 1, k, rfl, rfl⟩
theorem rAppend20_ok (nn : Bool) (x : Lg) (e : Ent) : zae Tryz.prog Γ 43 [lgV nn x, entV e] m fun o m' => o = .ret (.tup [lgN (doL x (zbM x e)).2.1, it (doL x (zbM x e)).2.2]) ∧ m' = m := by
 have hnb := zaL (k := 0) nn x
 have hnl := zaD (k := 0) nn x.l
 have hne := za5 (k := 0) e
 refine zay (zdE mixed F43_ok F43_h zaw (by simp only [hnb, hne, nbS]) ?_)
 simp only [F43, lgV, entV, ss0, zd3, zdY]
 simp only [zal, ssH, zdY, zdW, reduceIte, zdX, zd2, zd0, zd1]
 have fin : ∀ (y : Lg) (n : Int) (t : Tok), (doL x (zbM x e)).2.1 = y → (doL x (zbM x e)).2.2 = n → (y.l ≠ [] ∨ t = .full ∧ y.l = []) → nb 0 (wN (.tup [.agg [it y.b, bs y.c, .sl (y.l.map entV) [] t], it n])) ∧ wN (.tup [.agg [it y.b, bs y.c, .sl (y.l.map entV) [] t], it n]) = .tup [lgN (doL x (zbM x e)).2.1, it (doL x (zbM x e)).2.2] := by
  intro y n t h1 h2 h3
  rw [h1, h2]
  have : wN (.agg [it y.b, bs y.c, .sl (y.l.map entV) [] t]) = lgN y := by
   rcases h3 with h3 | ⟨rfl, h3⟩
   ·rw [wN_log h3]
    obtain ⟨b, c, l⟩ := y
    cases l with
    | nil => exact absurd rfl h3
    | cons a l => rfl
   ·obtain ⟨b, c, l⟩ := y
    cases h3
    rfl
  have hny := nb_lgN (k := 0) (x := y)
  simp only [wN, wNs] at this ⊢
  rw [this]
  exact ⟨by simp only [hny, nbS], rfl⟩
 refine zah (by exact fun m => rRight20_ok nn x) (by simp only [hnl, nbS]) (by first | exact LR.nil | simp only [nbS]) ?_
 cases hx : lgB x
 ·have hc : doL x (zbM x e) = (false, lg0, 4) := by simp only [doL, hx, zd5, if_false]
  simp only [zal, ssH, zdY, zdW, reduceIte, zdX, zd2, zd0, zd1]
  exact zac (v := .tup [.agg [it lg0.b, bs lg0.c, .sl (lg0.l.map entV) [] .full], it 4]) rfl (fin lg0 4 .full (by rw [hc]) (by rw [hc]) (.inr ⟨rfl, rfl⟩))
 ·have hb : 0 ≤ x.b ∧ x.b ≤ 2147483647 ∧ x.l.length ≤ 64 ∧ x.b + x.l.length ≤ 2147483647 := by simp only [lgB, zd6, decide_eq_true_eq] at hx; omega
  simp only [ssH, zdY, zdW, reduceIte, zdX, zd2, zd0, zd1]
  refine zah (by exact fun m => rRight19_ok e) (by simp only [nbS]) (by first | exact LR.nil | simp only [nbS]) ?_
  cases he : entB e
  ·have hc : doL x (zbM x e) = (false, lg0, 2) := do_err hx (by simp only [zbM, he]; rfl) (by decide)
   simp only [zal, ssH, zdY, zdW, reduceIte, zdX, zd2, zd0, zd1]
   exact zac (v := .tup [.agg [it lg0.b, bs lg0.c, .sl (lg0.l.map entV) [] .full], it 2]) rfl (fin lg0 2 .full (by rw [hc]) (by rw [hc]) (.inr ⟨rfl, rfl⟩))
  ·have full : (x.l.length = 64 ∨ x.b + x.l.length = 2147483647) → doL x (zbM x e) = (false, lg0, 12) := fun h => do_err hx (by simp only [zbM, he, if_true]; rw [if_pos h]) (by decide)
   simp only [len_ents, ssH, zdY, zdW, reduceIte, zdX, zd2, zd0, zd1]
   by_cases h64 : (64 : Int) ≤ (x.l.length : Int)
   ·have hc := full (.inl (by omega))
    simp only [ge_iff_le, decide_eq_true h64, zal, ssH, zdY, zdW, reduceIte, zdX, zd2, zd0, zd1]
    exact zac (v := .tup [.agg [it lg0.b, bs lg0.c, .sl (lg0.l.map entV) [] .full], it 12]) rfl (fin lg0 12 .full (by rw [hc]) (by rw [hc]) (.inr ⟨rfl, rfl⟩))
   ·simp only [ge_iff_le, decide_eq_false h64, ssH, zdY, zdW, reduceIte, zdX, zd2, zd0, zd1]
    refine zah (by exact fun m => zdw nn x) (by simp only [hnl, nbS]) (by first | exact LR.nil | simp only [nbS]) ?_
    simp only [hx, if_true, ssH, zdY, zdW, reduceIte, zdX, zd2, zd0, zd1]
    by_cases hl : (2147483647 : Int) ≤ x.b + (x.l.length : Int)
    ·have hc := full (.inr (by omega))
     simp only [ge_iff_le, decide_eq_true hl, zal, ssH, zdY, zdW, reduceIte, zdX, zd2, zd0, zd1]
     exact zac (v := .tup [.agg [it lg0.b, bs lg0.c, .sl (lg0.l.map entV) [] .full], it 12]) rfl (fin lg0 12 .full (by rw [hc]) (by rw [hc]) (.inr ⟨rfl, rfl⟩))
    ·have hc : doL x (zbM x e) = (true, ⟨x.b, x.c, x.l ++ [e]⟩, 0) := do_fit hx (by simp only [zbM, he, if_true]; rw [if_neg (by rintro (k | k) <;> omega)])
     simp only [ge_iff_le, decide_eq_false hl, litE_eq, litE_ent, ssH, zdY, zdW, reduceIte, zdX, zd2, zd0, zd1]
     refine zah (by exact fun m => zdw nn x) (by simp only [hnl, nbS]) (by first | exact LR.nil | simp only [nbS]) ?_
     simp only [hx, if_true, ssH, zdY, zdW, reduceIte, zdX, zd2, zd0, zd1]
     refine hcall_b (by simp only [zd4, zec, zdY, zd2]) (by exact fun m => rBetween_b nn x x.b (x.b + x.l.length) hx) (by simp only [hnl, nbS]) (zc0 za5 _) ?_ ?_
     ·intro h0
      rw [bet_all] at h0
      have hl0 : x.l = [] := by simpa using h0
      simp only [ssH, zdY, zdW, reduceIte, zdX, zd2, zd0, zd1]
      refine happ_full (ys := [entV e]) rfl (by simp) (by simp only [zd4, zec, zdY, zd2]) rfl rfl (by simp) ?_
      simp only [zdV, zal, oneV_sl, ssH, zdY, zdW, reduceIte, zdX, zd2, zd0, zd1]
      exact zac (v := .tup [.agg [it x.b, bs x.c, .sl ((x.l ++ [e]).map entV) [] _], it 0]) (by rw [hl0]; rfl) (fin ⟨x.b, x.c, x.l ++ [e]⟩ 0 _ (by rw [hc]) (by rw [hc]) (.inl (by simp)))
     ·intro h0 k
      rw [bet_all] at h0 ⊢
      simp only [ssH, zdY, zdW, reduceIte, zdX, zd2, zd0, zd1]
      refine happ_tip (ys := [entV e]) rfl (by simp) h0 rfl (zcb _) rfl (by simp; omega) ?_
      simp only [zdV, zal, oneV_sl, ssH, zdY, zdW, reduceIte, zdX, zd2, zd0, zd1]
      exact zac (v := .tup [.agg [it x.b, bs x.c, .sl ((x.l ++ [e]).map entV) [] _], it 0]) (by rw [zeK]; rfl) (fin ⟨x.b, x.c, x.l ++ [e]⟩ 0 _ (by rw [hc]) (by rw [hc]) (.inl (by simp)))
end
theorem app_len {x : Lg} {e : Ent} : (doL x (zbM x e)).2.1.l.length ≤ x.l.length + 1 := by
 unfold doL zbM
 (repeat' split) <;> simp [lg0]
theorem cut_len {nn : Bool} {x : Lg} {op : Int} : (doL x (zca nn x op)).2.1.l.length ≤ x.l.length := by
 unfold doL zca
 (repeat' split) <;> simp [lg0] <;> omega
theorem comp_len {nn : Bool} {x : Lg} {op : Int} {ck : List UInt8} : (doL x (zaH nn x op ck)).2.1.l.length ≤ x.l.length := by
 unfold doL zaH
 (repeat' split) <;> simp [lg0]
theorem cut_flag {nn : Bool} {x : Lg} {op : Int} : (doL x (zca nn x op)).2 = (doL x (zca true x op)).2 := by
 unfold doL zca
 (repeat' split) <;> first | rfl | simp_all
theorem comp_flag {nn : Bool} {x : Lg} {op : Int} {ck : List UInt8} : (doL x (zaH nn x op ck)).2 = (doL x (zaH true x op ck)).2 := by
 unfold doL zaH
 (repeat' split) <;> first | rfl | simp_all
theorem cut_all {l : List Ent} : zcG 8 (.sl (l.map entV) [entV lv77] .no) (some none) (some (some ((l.length : Int) + 1))) (some none) = some (.sl ((l ++ [lv77]).map entV) [] .no) := by
 have hs : szOk 8 (l.map entV ++ [entV lv77]) = true := by
  have := zcb (l ++ [lv77])
  rwa [zeK] at this
 simp only [zcG, hs, if_true, cutV, Option.getD_none, Option.getD_some, zed, Int.toNat_zero, List.drop_zero]
 have e : ((l.length : Int) + 1).toNat = l.length + 1 := by omega
 rw [if_pos ⟨by omega, by omega, by omega⟩, e, if_neg (by omega), if_pos (by simp), zeK]
 have e2 : (l.map entV ++ [entV lv77]).length = l.length + 1 := by simp
 rw [← e2, List.take_length, List.drop_length]
 rfl
section
variable {Γ : Glob} {m : Store}
set_option maxHeartbeats 3200000 in
theorem oplogTurns_ok (E : Env Γ) {nn : Bool} {x : Lg} (op : Int) (e : Ent) (ck : List UInt8) : zae Tryz.prog Γ 10 [lgV nn x, it op, entV e, bs ck] m fun o m' => o = .ret (.val (.bool true)) ∧ m' = m := by
 have hnb := zaL (k := 0) nn x
 have hnl := zaD (k := 0) nn x.l
 have hno := nb_ownV (k := 0) x
 have hne := za5 (k := 0) e
 refine zay (zaE mixed F10_ok F10_h zaw (by simp only [hnb, hne, nbS]) ?_)
 simp only [F10, lgV, entV, ss0, zd3, zdY]
 simp only [len_ents, gt_iff_lt, zal, ssH, zdY, zdW, reduceIte, zdX, zd2, zd0, zd1]
 by_cases h100 : (100 : Int) < (x.l.length : Int)
 ·simp only [decide_eq_true h100, ssH, zdY, zdW, reduceIte, zdX, zd2, zd0, zd1]
  refine zah (v := .val (.bool true)) (by exact fun m => lives20_ok) (by first | exact LR.nil | simp only [nbS]) (by first | exact LR.nil | simp only [nbS]) ?_
  simp only [ssH, zdY, zdW, reduceIte, zdX, zd2, zd0, zd1]
  exact fin6 rfl
 simp only [decide_eq_false h100, ssH, zdY, zdW, reduceIte, zdX, zd2, zd0, zd1]
 refine zah (by exact fun m => lOwn_ok nn x (by omega)) (by simp only [hnl, nbS]) hno ?_
 have hml := zc0 (k := 0) za5 x.l
 simp only [ownV, zal, ssH, zdY, zdW, reduceIte, zdX, zd2, zd0, zd1]
 have hl1 := app_len (x := x) (e := e)
 have hA := fun m => pAppend_ok (Γ := Γ) (m := m) E (nn := true) (x := x) (.inl rfl) e
 have hB := fun m => rAppend20_ok (Γ := Γ) (m := m) nn x e
 generalize doL x (zbM x e) = r1 at hA hB hl1
 obtain ⟨a1, y1, n1⟩ := r1
 have hl2 := cut_len (nn := true) (x := x) (op := op)
 have hC := fun m => pCut_ok (Γ := Γ) (m := m) E (nn := true) (x := x) (.inl rfl) op
 have hD := fun m => rCut20_ok (Γ := Γ) (m := m) nn x op
 rw [cut_flag] at hD
 generalize doL x (zca true x op) = r2 at hC hD hl2
 obtain ⟨a2, y2, n2⟩ := r2
 have hl3 := comp_len (nn := true) (x := x) (op := op) (ck := ck)
 have hP := fun m => pCompact_ok (Γ := Γ) (m := m) E (nn := true) (x := x) (.inl rfl) op ck
 have hQ := fun m => rCompact20_ok (Γ := Γ) (m := m) nn x op ck
 rw [comp_flag] at hQ
 generalize doL x (zaH true x op ck) = r3 at hP hQ hl3
 obtain ⟨a3, y3, n3⟩ := r3
 have hlv := za5 (k := 0) lv77
 refine zah (by exact fun m => own_args (hA m)) (by simp only [hml, za5, nbS]) (by simp only [zaL, nbS]) ?_
 simp only [lgV, zal, zaG, ssH, zdY, zdW, reduceIte, zdX, zd2, zd0, zd1]
 refine zah (by exact fun m => hB m) (by simp only [hnl, hne, nbS]) (by simp only [nb_lgN, nbS]) ?_
 simp only [lgN, lgV, zal, zaG, ssH, zdY, zdW, reduceIte, zdX, zd2, zd0, zd1]
 refine zah (by exact fun m => own_args (hC m)) (by simp only [hml, za5, nbS]) (by simp only [zaL, nbS]) ?_
 simp only [lgV, zal, zaG, ssH, zdY, zdW, reduceIte, zdX, zd2, zd0, zd1]
 refine zah (by exact fun m => hD m) (by simp only [hnl, nbS]) (by simp only [nb_lgN, nbS]) ?_
 simp only [lgN, lgV, zal, zaG, ssH, zdY, zdW, reduceIte, zdX, zd2, zd0, zd1]
 refine zah (by exact fun m => own_args (hP m)) (by simp only [hml, za5, nbS]) (by simp only [zaL, nbS]) ?_
 simp only [lgV, zal, zaG, ssH, zdY, zdW, reduceIte, zdX, zd2, zd0, zd1]
 refine zah (by exact fun m => hQ m) (by simp only [hnl, nbS]) (by simp only [nb_lgN, nbS]) ?_
 simp only [lgN, lgV, zal, zaG, ssH, zdY, zdW, reduceIte, zdX, zd2, zd0, zd1]
 have hw1 : IntKind.i64.wrap ((x.l.length : Int) + 1) = (x.l.length : Int) + 1 := wrap_i64 (by omega) (by omega)
 have hw2 : IntKind.i64.wrap ((x.l.length : Int) + 1 - 1) = (x.l.length : Int) := by rw [wrap_i64 (by omega) (by omega)]; omega
 simp only [zed, hw1, za6, za7, optV, cut_all, ssH, zdY, zdW, reduceIte, zdX, zd2, zd0, zd1]
 refine zah (v := .val (.bool true)) (by exact fun m => rSame_ok _ _ y1 (by simp only at hl1; omega)) (by simp only [zaD, nbS]) (by first | exact LR.nil | simp only [nbS]) ?_
 simp only [beq_self_eq_true, ssH, zdY, zdW, reduceIte, zdX, zd2, zd0, zd1]
 refine zah (v := .val (.bool true)) (by exact fun m => rSame_ok _ _ y2 (by simp only at hl2; omega)) (by simp only [zaD, nbS]) (by first | exact LR.nil | simp only [nbS]) ?_
 simp only [beq_self_eq_true, ssH, zdY, zdW, reduceIte, zdX, zd2, zd0, zd1]
 refine zah (v := .val (.bool true)) (by exact fun m => rSame_ok _ _ y3 (by simp only at hl3; omega)) (by simp only [zaD, nbS]) (by first | exact LR.nil | simp only [nbS]) ?_
 simp only [beq_self_eq_true, ssH, zdY, zdW, reduceIte, zdX, zd2, zd0, zd1]
 refine zah (v := .val (.bool true)) (by exact fun m => own_args (rSame_ok true nn x (by omega))) (by simp only [hml, hnl, za5, nbS]) (by first | exact LR.nil | simp only [nbS]) ?_
 have hi : (x.l ++ [lv77])[x.l.length]? = some lv77 := by simp
 have hla : ((x.l ++ [lv77]).map entV).length = x.l.length + 1 := by simp
 have hc := (ent_cmp (.tmp 114) (.tmp 115) lv77 lv77).1
 rw [decide_eq_true rfl] at hc
 simp only [entV] at hc
 simp only [zcU, hla, Int.natCast_add, Int.cast_ofNat_Int, hw2, idx_ent hi, zal, ssH, zdY, zdW, reduceIte, zdX, zd2, zd0, zd1]
 refine zah (by exact fun m => pLeave_ok) (by first | exact LR.nil | simp only [nbS]) hlv ?_
 simp only [entV, ssH, zdY, zdW, reduceIte, zdX, zd2, zd0, zd1]
 refine ⟨by first | exact rfl | exact fun _ => rfl, ?_⟩
 simp only [hc, ssH, zdY, zdW, reduceIte, zdX, zd2, zd0, zd1]
 refine zah (v := .val (.bool true)) (by exact fun m => lives20_ok) (by first | exact LR.nil | simp only [nbS]) (by first | exact LR.nil | simp only [nbS]) ?_
 simp only [ssH, zdY, zdW, reduceIte, zdX, zd2, zd0, zd1]
 exact fin6 rfl
end
end Go.Av.Fn
