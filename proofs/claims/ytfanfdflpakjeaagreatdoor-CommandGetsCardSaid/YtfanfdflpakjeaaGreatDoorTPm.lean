/- A command's text read, and written: what the program tells. Conditions: the library's functions; numbers are written (FmtAt) where they are. -/
import Derived.KernelRfl
import Derived.Lib.ItoaLen
import Derived.Lib.ParseIntBCases
import Derived.Test.YtfanfdflpakjeaaGreatDoorTFh
namespace Go.Av.Fn
set_option linter.unusedSimpArgs false
set_option linter.unusedVariables false
set_option maxRecDepth 10000
open Go.Proofs
structure Env2 (Γ : Glob) : Prop where
 env : Env Γ
 range : ∃ T v, Γ 5 = some [.ifc T v]
 syn : ∃ T v, Γ 4 = some [.ifc T v]
def numB (s : List UInt8) : Int × List UInt8 × Bool := match Lib.parseIntB 64 (cutB s).1 with
 | .ok n => if (Lib.itoa n == (cutB s).1) = true then (n, (cutB s).2.1, (cutB s).2.2) else (-1, [], false)
 | _ => (-1, [], false)
def FmtNum (Γ : Glob) (s : List UInt8) : Prop := ∀ n, Lib.parseIntB 64 (cutB s).1 = .ok n → FmtAt Γ n
def behB (f : Form) (rest : List UInt8) (no : Bool) : Int × List UInt8 × Bool :=
 if (no || (!f.n && !f.s)) = true then (0, [], no && !f.n && !f.s)
 else if f.n = false then (0, rest, true)
 else if (numB rest).2.2 = false then ((numB rest).1, [], decide ((numB rest).1 ≥ 0))
 else ((numB rest).1, (cutIf (numB rest).2.1).1, (cutIf (numB rest).2.1).2 && f.s && !((cutIf (numB rest).2.1).1 == []))
def tryK (s : List UInt8) (k : Nat) : Option (Int × Int × List UInt8) :=
 if ((formOf k).w == (cutB s).1) = true then
  (if ((behB (formOf k) (cutB s).2.1 (!(cutB s).2.2)).2.2 && rightB k (behB (formOf k) (cutB s).2.1 (!(cutB s).2.2)).1 (behB (formOf k) (cutB s).2.1 (!(cutB s).2.2)).2.1) = true
   then some (k, (behB (formOf k) (cutB s).2.1 (!(cutB s).2.2)).1, (behB (formOf k) (cutB s).2.1 (!(cutB s).2.2)).2.1) else none)
 else none
def tryFrom (s : List UInt8) : Nat → Nat → Option (Int × Int × List UInt8)
 | 0, _ => none
 | n + 1, k => match tryK s k with
  | some x => some x
  | none => tryFrom s n (k + 1)
def parseC (s : List UInt8) : Option (Int × Int × List UInt8) := tryFrom s 17 1
def parseV (s : List UInt8) : V := match parseC s with
 | some (k, n, t) => .tup [cmdV k n t, it 0]
 | none => .tup [cmdV 0 0 [], it 6]
theorem cutB_len (s : List UInt8) : (cutB s).1.length ≤ s.length ∧ (cutB s).2.1.length ≤ s.length := by
 unfold cutB
 split
 ·simp; omega
 ·simp
theorem ifc_nil {T : TypeId} {u : V} {xo yo : Operand} : binV Tryz.prog .neq 163 .iface xo yo (.ifc T u) (.val .nilIface) = some (.val (.bool true)) := rfl
theorem nil_nil : binV Tryz.prog .neq 163 .iface (.tmp 21) (.const .nilIface) (.val .nilIface) (.val .nilIface) = some (.val (.bool false)) := by kernel_rfl
section
variable {Γ : Glob} {m : Store}
theorem number_ok2 (E : Env2 Γ) (s : List UInt8) (hs : s.length ≤ 281474976710656) (hf : FmtNum Γ s) : ACalls Tryz.prog Γ 100 [bs s] m fun o m' => o = .ret (.tup [it (numB s).1, bs (numB s).2.1, .val (.bool (numB s).2.2)]) ∧ m' = m := by
 obtain ⟨T, v, hr⟩ := E.range
 obtain ⟨T', v', hsy⟩ := E.syn
 refine acalls_of_awp mixed F100_ok (by rintro v m b x _ ⟨⟨⟩, _⟩) ?_
 simp only [F100, ss0, Nat.reduceSub, Nat.reduceAdd]
 simp only [ssS, Nat.reduceAdd, Nat.reduceLeDiff, reduceIte, Nat.reduceEqDiff]
 refine callS_pure (cut_ok s hs) ?_
 simp only [ssS, Nat.reduceAdd, Nat.reduceLeDiff, reduceIte, Nat.reduceEqDiff]
 refine callS_of (parse_any hr hsy _ (cutB s).1 (by have := cutB_len s; omega)) ?_ (by
  rintro v m' ⟨h, _⟩
  unfold ParseOut at h
  split at h
  ·cases h
  ·obtain ⟨_, _, _, ⟨⟩⟩ := h)
 rintro v m' ⟨h, rfl⟩
 unfold ParseOut at h
 unfold numB
 cases hp : Lib.parseIntB 64 (cutB s).1 with
 | ok n =>
  rw [hp] at h
  cases h
  simp only [nil_nil, ssS, Nat.reduceAdd, Nat.reduceLeDiff, reduceIte, Nat.reduceEqDiff]
  refine callS_pure (fmt_pub (hf n hp)) ?_
  cases he : (Lib.itoa n == (cutB s).1)
  ·simp only [he, Bool.not_false, ssS, Nat.reduceAdd, Nat.reduceLeDiff, reduceIte, Nat.reduceEqDiff]
   exact bodyA_ret resV_three ⟨rfl, rfl⟩
  ·simp only [he, Bool.not_true, ssS, Nat.reduceAdd, Nat.reduceLeDiff, reduceIte, Nat.reduceEqDiff]
   exact bodyA_ret resV_three ⟨rfl, rfl⟩
 | range =>
  rw [hp] at h
  obtain ⟨n, T, u, h⟩ := h
  cases h
  simp only [ifc_nil, ssS, Nat.reduceAdd, Nat.reduceLeDiff, reduceIte, Nat.reduceEqDiff]
  exact bodyA_ret resV_three ⟨rfl, rfl⟩
 | _ =>
  rw [hp] at h
  obtain ⟨n, T, u, h⟩ := h
  cases h
  simp only [ifc_nil, ssS, Nat.reduceAdd, Nat.reduceLeDiff, reduceIte, Nat.reduceEqDiff]
  exact bodyA_ret resV_three ⟨rfl, rfl⟩
theorem behind1_ok (s : List UInt8) : ACalls Tryz.prog Γ 101 [bs s] m fun o m' => o = .ret (.tup [bs (cutIf s).1, .val (.bool (cutIf s).2)]) ∧ m' = m := by
 refine acalls_of_awp mixed F101_ok (by rintro v m b x _ ⟨⟨⟩, _⟩) ?_
 simp only [F101, ss0, Nat.reduceSub, Nat.reduceAdd]
 simp only [ssS, Nat.reduceAdd, Nat.reduceLeDiff, reduceIte, Nat.reduceEqDiff]
 refine callS_pure (cutIf_ok s) ?_
 simp only [ssS, Nat.reduceAdd, Nat.reduceLeDiff, reduceIte, Nat.reduceEqDiff]
 exact bodyA_ret resV_two ⟨rfl, rfl⟩
theorem behind_ok (E : Env2 Γ) (f : Form) (s : List UInt8) (no : Bool) (hs : s.length ≤ 281474976710656) (hf : f.n = true → no = false → FmtNum Γ s) :
  ACalls Tryz.prog Γ 57 [formV f, bs s, .val (.bool no)] m fun o m' => o = .ret (.tup [it (behB f s no).1, bs (behB f s no).2.1, .val (.bool (behB f s no).2.2)]) ∧ m' = m := by
 obtain ⟨w, le, fn, fs⟩ := f
 refine ACalls.less (A := fun o m' => o = .ret (.tup [it (behB ⟨w, le, fn, fs⟩ s no).1, bs (behB ⟨w, le, fn, fs⟩ s no).2.1, .val (.bool (behB ⟨w, le, fn, fs⟩ s no).2.2)]) ∧ SubS m m') ?_ fun o m' h => ⟨m, h.2, h.1, rfl⟩
 refine acalls_of_awp mixed F57_ok (by rintro v m b x _ ⟨⟨⟩, _⟩) ?_
 simp only [F57, formV, ss0, Nat.reduceSub, Nat.reduceAdd]
 simp only [ssS, Nat.reduceAdd, Nat.reduceLeDiff, reduceIte, Nat.reduceEqDiff]
 refine allocS_of fun b hb => ?_
 have hS : ∀ x, SubS m (m.set b x) := fun x => (SubS.refl m).out hb x
 cases no
 case true =>
  cases fn
  ·cases fs
   ·simp only [Store.set_same, Bool.not_false, Bool.not_true, ssS, Nat.reduceAdd, Nat.reduceLeDiff, reduceIte, Nat.reduceEqDiff]
    exact bodyA_ret resV_three ⟨rfl, hS _⟩
   ·simp only [Store.set_same, Bool.not_false, Bool.not_true, ssS, Nat.reduceAdd, Nat.reduceLeDiff, reduceIte, Nat.reduceEqDiff]
    exact bodyA_ret resV_three ⟨rfl, hS _⟩
  ·simp only [Store.set_same, Bool.not_false, Bool.not_true, ssS, Nat.reduceAdd, Nat.reduceLeDiff, reduceIte, Nat.reduceEqDiff]
   exact bodyA_ret resV_three ⟨rfl, hS _⟩
 case false =>
  cases fn
  case false =>
   cases fs
   ·simp only [Store.set_same, Bool.not_false, Bool.not_true, ssS, Nat.reduceAdd, Nat.reduceLeDiff, reduceIte, Nat.reduceEqDiff]
    exact bodyA_ret resV_three ⟨rfl, hS _⟩
   ·simp only [Store.set_same, Bool.not_false, Bool.not_true, ssS, Nat.reduceAdd, Nat.reduceLeDiff, reduceIte, Nat.reduceEqDiff]
    exact bodyA_ret resV_three ⟨rfl, hS _⟩
  case true =>
   simp only [Store.set_same, Bool.not_false, Bool.not_true, ssS, Nat.reduceAdd, Nat.reduceLeDiff, reduceIte, Nat.reduceEqDiff]
   refine callS_pure (number_ok2 E s hs (hf rfl rfl)) ?_
   have hb1 : behB ⟨w, le, true, fs⟩ s false = if (numB s).2.2 = false then ((numB s).1, [], decide ((numB s).1 ≥ 0)) else ((numB s).1, (cutIf (numB s).2.1).1, (cutIf (numB s).2.1).2 && fs && !((cutIf (numB s).2.1).1 == [])) := by
    unfold behB
    rfl
   rw [hb1]
   cases hm : (numB s).2.2
   ·simp only [hm, Bool.not_false, ssS, Nat.reduceAdd, Nat.reduceLeDiff, reduceIte, Nat.reduceEqDiff]
    exact bodyA_ret resV_three ⟨rfl, hS _⟩
   ·simp only [hm, Bool.not_true, ssS, Nat.reduceAdd, Nat.reduceLeDiff, reduceIte, Nat.reduceEqDiff]
    refine callS_pure (behind1_ok _) ?_
    simp only [Store.set_same, ssS, Nat.reduceAdd, Nat.reduceLeDiff, reduceIte, Nat.reduceEqDiff]
    cases h1 : (cutIf (numB s).2.1).2
    ·simp only [h1, Store.set_same, ssS, Nat.reduceAdd, Nat.reduceLeDiff, reduceIte, Nat.reduceEqDiff]
     refine bodyA_ret resV_three ⟨?_, hS _⟩
     simp only [tget_zero, tget_succ]
     rfl
    ·cases fs
     ·simp only [h1, Store.set_same, ssS, Nat.reduceAdd, Nat.reduceLeDiff, reduceIte, Nat.reduceEqDiff]
      refine bodyA_ret resV_three ⟨?_, hS _⟩
      simp only [tget_zero, tget_succ]
      rfl
     ·simp only [h1, Store.set_same, ssS, Nat.reduceAdd, Nat.reduceLeDiff, reduceIte, Nat.reduceEqDiff]
      refine bodyA_ret resV_three ⟨?_, hS _⟩
      simp only [tget_zero, tget_succ]
      rfl
end
end Go.Av.Fn
/- A command's text read: all of it. Conditions as ahead. -/
namespace Go.Av
theorem resV_cut {x y : Nat} {b o : Nat} {T : TypeId} {sz : Option Nat} {cs : List V} {u : V} {t : List V} {m : Store} (h1 : tget t x = .ptr b o) (h2 : m b = some (.var T cs)) (h3 : partV cs o sz = some u) : resV [.cell x sz, .tmp y] ⟨t, m⟩ = some (.tup [u, tget t y]) := by
 simp only [resV, resAll, resOne, tget_eq, h1, h2, h3, Option.map_some]
end Go.Av
namespace Go.Av.Fn
set_option linter.unusedSimpArgs false
set_option linter.unusedVariables false
set_option maxRecDepth 10000
open Go.Proofs
section
variable {Γ : Glob} {m : Store}
theorem parse_ok (E : Env2 Γ) (s : List UInt8) (hs : s.length ≤ 281474976710656) (hf : (cutB s).2.2 = true → FmtNum Γ (cutB s).2.1) : ACalls Tryz.prog Γ 15 [bs s] m fun o m' => o = .ret (parseV s) ∧ m' = m := by
 refine ACalls.less (A := fun o m' => o = .ret (parseV s) ∧ SubS m m') ?_ fun o m' h => ⟨m, h.2, h.1, rfl⟩
 refine acalls_of_awp mixed F15_ok (by rintro v m b x _ ⟨⟨⟩, _⟩) ?_
 simp only [F15, ss0, Nat.reduceSub, Nat.reduceAdd]
 simp only [ssS, Nat.reduceAdd, Nat.reduceLeDiff, reduceIte, Nat.reduceEqDiff]
 refine allocS_of fun b2 hb2 => ?_
 simp only [ssS, Nat.reduceAdd, Nat.reduceLeDiff, reduceIte, Nat.reduceEqDiff]
 refine callS_pure (cut_ok s hs) ?_
 simp only [ssS, Nat.reduceAdd, Nat.reduceLeDiff, reduceIte, Nat.reduceEqDiff]
 obtain ⟨w, rest, more, hc⟩ : ∃ w rest more, cutB s = (w, rest, more) := ⟨_, _, _, rfl⟩
 have hlen := (cutB_len s).2
 rw [hc] at hf hlen
 simp only [hc]
 refine awp_loop' (fun j st => ∃ k : Nat, j = 18 - k ∧ 1 ≤ k ∧ k ≤ 18 ∧ tryFrom s (18 - k) k = parseC s ∧ SubS m st.m ∧ st.m b2 = some (.var 24 [it 0, it 0, bs []]) ∧ st.t.length = 49 ∧ tget st.t 2 = .ptr b2 0 ∧ tget st.t 4 = bs w ∧ tget st.t 5 = bs rest ∧ tget st.t 6 = .val (.bool more) ∧ tget st.t 7 = it k)
  17 ⟨1, rfl, by omega, by omega, rfl, (SubS.refl m).out hb2 _, Store.set_same _ _ _, rfl, rfl, rfl, rfl, rfl, rfl⟩ ?_
 rintro j ⟨t, S⟩ J hJ ⟨k, hj, hk1, hk2, htry, hS, s2, hlen2, t2, t4, t5, t6, t7⟩
 simp only at hS s2 hlen2 t2 t4 t5 t6 t7
 rw [t_eq hlen2]
 simp only [upTo_succ, upTo_zero, Nat.reduceAdd, t2, t4, t5, t6, t7]
 simp only [ssS, Nat.reduceAdd, Nat.reduceLeDiff, reduceIte, Nat.reduceEqDiff]
 refine condS_split (fun h => ?_) (fun h => ?_)
 ·have hk : k ≤ 17 := by have := of_decide_eq_true h; omega
  obtain ⟨r, hr⟩ : ∃ r, 18 - k = r + 1 := ⟨17 - k, by omega⟩
  rw [hr] at htry
  simp only [tryFrom] at htry
  have hnext : tryK s k = none → tryFrom s (18 - (k + 1)) (k + 1) = parseC s := by
   intro h0
   rw [h0] at htry
   rw [← htry]
   congr 1
   omega
  simp only [ssS, Nat.reduceAdd, Nat.reduceLeDiff, reduceIte, Nat.reduceEqDiff]
  refine callS_pure (of_ok (k : Int)) ?_
  obtain ⟨fw, le, fn, fs, hff⟩ : ∃ fw le fn fs, formOf (k : Int) = ⟨fw, le, fn, fs⟩ := ⟨_, _, _, _, rfl⟩
  simp only [hff, formV, ssS, Nat.reduceAdd, Nat.reduceLeDiff, reduceIte, Nat.reduceEqDiff]
  refine allocS_of fun b8 hb8 => ?_
  have h28 : b2 ≠ b8 := ne_of_some s2 hb8
  have hS8 : ∀ x, SubS m (S.set b8 x) := fun x => hS.out (hS.none hb8) x
  simp only [Store.set_same, Store.set_set, ssS, Nat.reduceAdd, Nat.reduceLeDiff, reduceIte, Nat.reduceEqDiff]
  cases hw : (fw == w)
  ·have htk : tryK s k = none := by
    unfold tryK
    rw [hff, hc]
    simp only [hw, Bool.false_eq_true, if_false]
   simp only [hw, Bool.not_false, next_i64 (show k < 4611686018427387904 by omega), ssS, Nat.reduceAdd, Nat.reduceLeDiff, reduceIte, Nat.reduceEqDiff]
   exact hJ (18 - (k + 1)) _ (by omega) ⟨k + 1, rfl, by omega, by omega, hnext htk, hS8 _, by show (Store.set _ _ _) _ = _; rw [Store.set_ne _ _ h28]; exact s2, rfl, rfl, rfl, rfl, rfl, rfl⟩
  ·simp only [hw, Bool.not_true, Store.set_same, ssS, Nat.reduceAdd, Nat.reduceLeDiff, reduceIte, Nat.reduceEqDiff]
   have hfn : fn = true → (!more) = false → FmtNum Γ rest := fun _ h => hf (by simpa using h)
   refine callS_pure (behind_ok E ⟨fw, le, fn, fs⟩ rest (!more) (by simp only at hlen; omega) hfn) ?_
   obtain ⟨n, tx, ok, hbh⟩ : ∃ n tx ok, behB ⟨fw, le, fn, fs⟩ rest (!more) = (n, tx, ok) := ⟨_, _, _, rfl⟩
   have htk : tryK s k = if (ok && rightB k n tx) = true then some ((k : Int), n, tx) else none := by
    unfold tryK
    rw [hff, hc]
    simp only [hw, if_true, hbh]
   simp only [hbh, ssS, Nat.reduceAdd, Nat.reduceLeDiff, reduceIte, Nat.reduceEqDiff]
   refine allocS_of fun b12 hb12 => ?_
   have h212 : b2 ≠ b12 := ne_of_some (by rw [Store.set_ne _ _ h28]; exact s2) hb12
   have hS12 : ∀ x y, SubS m ((S.set b8 x).set b12 y) := fun x y => (hS8 x).out (by
    refine (hS8 (.var 100 [bs fw, it le, .val (.bool fn), .val (.bool fs)])).none hb12) y
   simp only [Store.set_same, Store.set_set, ssS, Nat.reduceAdd, Nat.reduceLeDiff, reduceIte, Nat.reduceEqDiff]
   cases ok
   ·simp only [Bool.false_and, Bool.false_eq_true, if_false] at htk
    simp only [next_i64 (show k < 4611686018427387904 by omega), ssS, Nat.reduceAdd, Nat.reduceLeDiff, reduceIte, Nat.reduceEqDiff]
    exact hJ (18 - (k + 1)) _ (by omega) ⟨k + 1, rfl, by omega, by omega, hnext htk, hS12 _ _, by show (Store.set _ _ _) _ = _; rw [Store.set_ne _ _ h212, Store.set_ne _ _ h28]; exact s2, rfl, rfl, rfl, rfl, rfl, rfl⟩
   ·simp only [Bool.true_and] at htk
    simp only [Store.set_same, ssS, Nat.reduceAdd, Nat.reduceLeDiff, reduceIte, Nat.reduceEqDiff]
    refine callS_pure (right_ok E.env k n tx) ?_
    cases hrt : rightB k n tx
    ·simp only [hrt, Bool.false_eq_true, if_false] at htk
     simp only [next_i64 (show k < 4611686018427387904 by omega), ssS, Nat.reduceAdd, Nat.reduceLeDiff, reduceIte, Nat.reduceEqDiff]
     exact hJ (18 - (k + 1)) _ (by omega) ⟨k + 1, rfl, by omega, by omega, hnext htk, hS12 _ _, by show (Store.set _ _ _) _ = _; rw [Store.set_ne _ _ h212, Store.set_ne _ _ h28]; exact s2, rfl, rfl, rfl, rfl, rfl, rfl⟩
    ·simp only [hrt, if_true] at htk
     rw [htk] at htry
     simp only at htry
     have hpv : parseV s = .tup [cmdV k n tx, it 0] := by
      unfold parseV
      rw [← htry]
     simp only [Store.set_same, Store.set_ne _ _ h212, Store.set_ne _ _ h28, s2, ssS, Nat.reduceAdd, Nat.reduceLeDiff, reduceIte, Nat.reduceEqDiff]
     refine bodyA_ret (resV_cut (u := cmdV k n tx) (b := b2) (o := 0) rfl (Store.set_same _ _ _) rfl) ⟨by rw [hpv]; rfl, ?_⟩
     exact (hS12 _ _).out hb2 _
 ·have hk : k = 18 := by have := of_decide_eq_false h; omega
  subst hk
  have hpv : parseV s = .tup [cmdV 0 0 [], it 6] := by
   unfold parseV
   rw [← htry]
   rfl
  simp only [s2, ssS, Nat.reduceAdd, Nat.reduceLeDiff, reduceIte, Nat.reduceEqDiff]
  refine bodyA_ret (resV_cut (u := cmdV 0 0 []) (b := b2) (o := 0) rfl (Store.set_same _ _ _) rfl) ⟨by rw [hpv]; rfl, ?_⟩
  exact hS.out hb2 _
end
end Go.Av.Fn
/- A command's text written; the document's examples. Conditions as ahead. -/
namespace Go.Av.Fn
set_option linter.unusedSimpArgs false
set_option linter.unusedVariables false
set_option maxRecDepth 100000
open Go.Proofs
def printB (k n : Int) (s : List UInt8) : List UInt8 :=
 let f := formOf k
 let w := if f.n then f.w ++ (32 :: Lib.itoa n) else f.w
 if (f.n && !(s == [])) = true then w ++ ([32, 105, 102, 32] ++ s) else if (f.s && !f.n) = true then w ++ (32 :: s) else w
theorem right_len {k n : Int} {s : List UInt8} (h : rightB k n s = true) : s.length ≤ 255 ∧ 0 ≤ n ∧ n ≤ 4294967296 := by
 unfold rightB at h
 split at h
 ·cases h
 ·rename_i h1
  simp only [Bool.or_eq_true, not_or, Bool.and_eq_true, Bool.not_eq_true', decide_eq_true_eq] at h1
  obtain ⟨⟨⟨⟨h1, h2⟩, h3⟩, h4⟩, h5⟩ := h1
  have hl : 0 ≤ (formOf k).least := by
   have hall : ∀ f ∈ forms, 0 ≤ f.least := by decide
   unfold formOf
   split
   ·decide
   ·cases hg : forms[k.toNat]? with
    | none => decide
    | some f => exact hall f (List.mem_of_getElem? hg)
  refine ⟨?_, by omega, by omega⟩
  split at h
  ·rename_i h6
   simp only [Bool.or_eq_true, Bool.and_eq_true, Bool.not_eq_true'] at h6
   rcases h6 with h6 | ⟨_, h6⟩
   ·have : s = [] := by
     cases hs : (s == []) with
     | true => exact eq_of_beq hs
     | false => exact absurd ⟨h6, hs⟩ h3
    subst this
    simp
   ·rw [eq_of_beq h6]
    simp
  ·unfold writtenB at h
   simp only [Bool.and_eq_true, decide_eq_true_eq] at h
   exact h.2
theorem form_w (k : Int) : (formOf k).w.length ≤ 13 := by
 have hall : ∀ f ∈ forms, f.w.length ≤ 13 := by decide
 unfold formOf
 split
 ·decide
 ·cases hg : forms[k.toNat]? with
  | none => decide
  | some f => exact hall f (List.mem_of_getElem? hg)
theorem decDigits_len : ∀ (u : Nat), (Lib.decDigits u).length ≤ u + 1 := by
 intro u
 induction u using Nat.strongRecOn with
 | ind u ih =>
  rw [Lib.decDigits]
  split
  ·simp
  ·rw [List.length_append]
   have := ih (u / 10) (by omega)
   simp
   omega
theorem itoa_len {n : Int} (h0 : 0 ≤ n) (h1 : n ≤ 4294967296) : (Lib.itoa n).length ≤ 4294967297 := by
 unfold Lib.itoa
 rw [if_neg (by omega)]
 have := decDigits_len n.toNat
 omega
theorem bs_add {P : Program} {T : TypeId} {xo yo : Operand} {x y : List UInt8} (h : x.length + y.length ≤ 9223372036854775807) : binV P .add T .other xo yo (bs x) (bs y) = some (bs (x ++ y)) := bin_badd h
section
variable {Γ : Glob} {m : Store}
theorem print_ok (E : Env Γ) (k n : Int) (s : List UInt8) (hf : rightB k n s = true → (formOf k).n = true → FmtAt Γ n) : ACalls Tryz.prog Γ 18 [cmdV k n s] m fun o m' => o = .ret (.tup [bs (if rightB k n s then printB k n s else []), it (if rightB k n s then 0 else 2)]) ∧ m' = m := by
 refine ACalls.less (A := fun o m' => o = .ret (.tup [bs (if rightB k n s then printB k n s else []), it (if rightB k n s then 0 else 2)]) ∧ SubS m m') ?_ fun o m' h => ⟨m, h.2, h.1, rfl⟩
 refine acalls_of_awp mixed F18_ok (by rintro v m b x _ ⟨⟨⟩, _⟩) ?_
 simp only [F18, cmdV, ss0, Nat.reduceSub, Nat.reduceAdd]
 simp only [ssS, Nat.reduceAdd, Nat.reduceLeDiff, reduceIte, Nat.reduceEqDiff]
 refine allocS_of fun b1 hb1 => ?_
 simp only [Store.set_same, ssS, Nat.reduceAdd, Nat.reduceLeDiff, reduceIte, Nat.reduceEqDiff]
 refine callS_pure (right_ok E k n s) ?_
 cases hr : rightB k n s
 ·simp only [Bool.not_false, ssS, Nat.reduceAdd, Nat.reduceLeDiff, reduceIte, Nat.reduceEqDiff]
  exact bodyA_ret resV_two ⟨rfl, (SubS.refl m).out hb1 _⟩
 ·obtain ⟨hs, hn0, hn1⟩ := right_len hr
  have hw := form_w k
  have hi := itoa_len hn0 hn1
  simp only [Bool.not_true, Store.set_same, ssS, Nat.reduceAdd, Nat.reduceLeDiff, reduceIte, Nat.reduceEqDiff]
  refine callS_pure (of_ok k) ?_
  obtain ⟨w, le, fn, fs, hff⟩ : ∃ w le fn fs, formOf k = ⟨w, le, fn, fs⟩ := ⟨_, _, _, _, rfl⟩
  have hpb : printB k n s = (if (fn && !(s == [])) = true then (if fn then w ++ (32 :: Lib.itoa n) else w) ++ ([32, 105, 102, 32] ++ s) else if (fs && !fn) = true then (if fn then w ++ (32 :: Lib.itoa n) else w) ++ (32 :: s) else (if fn then w ++ (32 :: Lib.itoa n) else w)) := by
   unfold printB
   rw [hff]
  rw [hpb]
  rw [hff] at hf hw
  simp only at hw
  simp only [hff, formV, ssS, Nat.reduceAdd, Nat.reduceLeDiff, reduceIte, Nat.reduceEqDiff]
  refine allocS_of fun b4 hb4 => ?_
  have h14 : b1 ≠ b4 := ne_of_some (Store.set_same _ _ _) hb4
  have hS : ∀ x y, SubS m ((m.set b1 x).set b4 y) := fun x y => ((SubS.refl m).out hb1 _).out (by rw [Store.set_ne _ _ h14.symm] at hb4; exact hb4) _
  simp only [Store.set_same, Store.set_set, Store.set_ne _ _ h14, ssS, Nat.reduceAdd, Nat.reduceLeDiff, reduceIte, Nat.reduceEqDiff]
  cases fn
  ·cases fs
   ·simp only [Store.set_same, ssS, Nat.reduceAdd, Nat.reduceLeDiff, reduceIte, Nat.reduceEqDiff]
    exact bodyA_ret resV_two ⟨rfl, hS _ _⟩
   ·simp only [Store.set_same, Store.set_ne _ _ h14, Bool.not_false, bs_add (x := [32]) (y := s) (by simp; omega), bs_add (x := w) (y := [32] ++ s) (by simp; omega), ssS, Nat.reduceAdd, Nat.reduceLeDiff, reduceIte, Nat.reduceEqDiff]
    exact bodyA_ret resV_two ⟨rfl, hS _ _⟩
  ·simp only [Store.set_same, Store.set_ne _ _ h14, ssS, Nat.reduceAdd, Nat.reduceLeDiff, reduceIte, Nat.reduceEqDiff]
   refine callS_pure (itoa_ok (hf hr rfl)) ?_
   simp only [bs_add (x := [32]) (y := Lib.itoa n) (by simp; omega), bs_add (x := w) (y := [32] ++ Lib.itoa n) (by simp; omega), Store.set_same, Store.set_ne _ _ h14, ssS, Nat.reduceAdd, Nat.reduceLeDiff, reduceIte, Nat.reduceEqDiff]
   cases he : (s == [])
   ·simp only [bs_add (x := [32, 105, 102, 32]) (y := s) (by simp; omega), bs_add (x := w ++ ([32] ++ Lib.itoa n)) (y := [32, 105, 102, 32] ++ s) (by simp; omega), Bool.not_false, Store.set_same, Store.set_ne _ _ h14, ssS, Nat.reduceAdd, Nat.reduceLeDiff, reduceIte, Nat.reduceEqDiff]
    exact bodyA_ret resV_two ⟨rfl, hS _ _⟩
   ·cases fs
    ·simp only [Bool.not_true, Store.set_same, Store.set_ne _ _ h14, ssS, Nat.reduceAdd, Nat.reduceLeDiff, reduceIte, Nat.reduceEqDiff]
     exact bodyA_ret resV_two ⟨rfl, hS _ _⟩
    ·simp only [Bool.not_true, Store.set_same, Store.set_ne _ _ h14, ssS, Nat.reduceAdd, Nat.reduceLeDiff, reduceIte, Nat.reduceEqDiff]
     exact bodyA_ret resV_two ⟨rfl, hS _ _⟩
end
end Go.Av.Fn
/- The program tells the document's examples. No condition. -/
namespace Go.Av.Fn
set_option linter.unusedSimpArgs false
set_option linter.unusedVariables false
set_option maxRecDepth 10000
open Go.Proofs
def skipF : Nat → List UInt8 → Nat → Nat → Nat × Nat
 | 0, _, a, l => (a, l)
 | n + 1, r, a, l =>
  if [10].isPrefixOf r = true then skipF n (r.drop 1) (a + 1) (l + 1)
  else if ([32].isPrefixOf r || [9].isPrefixOf r) = true then skipF n (r.drop 1) (a + 1) l
  else if [47, 47].isPrefixOf r = true then skipF n (r.drop (r.takeWhile notNl).length) (a + (r.takeWhile notNl).length) l
  else (a, l)
theorem skipF_eq : ∀ (n : Nat) (r : List UInt8) (a l : Nat), r.length < n → skipF n r a l = skipL r a l
 | 0, r, a, l, h => absurd h (by omega)
 | n + 1, r, a, l, h => by
  rw [skipL.eq_1]
  simp only [skipF]
  by_cases h1 : [10].isPrefixOf r = true
  ·rw [if_pos h1, dif_pos h1]
   have := pre_len h1
   exact skipF_eq n _ _ _ (by simp at this ⊢; omega)
  ·rw [if_neg h1, dif_neg h1]
   by_cases h2 : ([32].isPrefixOf r || [9].isPrefixOf r) = true
   ·rw [if_pos h2, dif_pos h2]
    have : 1 ≤ r.length := by
     rw [Bool.or_eq_true] at h2
     rcases h2 with h2 | h2
     ·simpa using pre_len h2
     ·simpa using pre_len h2
    exact skipF_eq n _ _ _ (by simp; omega)
   ·rw [if_neg h2, dif_neg h2]
    by_cases h3 : [47, 47].isPrefixOf r = true
    ·rw [if_pos h3, dif_pos h3]
     have h4 := slash_run h3
     have h5 := pre_len h3
     exact skipF_eq n _ _ _ (by simp at h5 ⊢; omega)
    ·rw [if_neg h3, dif_neg h3]
def scanF : Nat → List UInt8 → Nat × Nat → List Tk → Except (Nat × Int) (List Tk)
 | 0, _, _, _ => .ok []
 | n + 1, r, x, acc => match tokL r with
  | .error e => if r.isEmpty then .ok (acc ++ [⟨0, [], 0, x.2, x.1⟩]) else .error (x.1, e)
  | .ok (t, k) => scanF n ((r.drop k).drop ((skipF (r.length + 1) (r.drop k) (x.1 + k) x.2).1 - (x.1 + k))) (skipF (r.length + 1) (r.drop k) (x.1 + k) x.2) (acc ++ [{ t with l := x.2, a := x.1 }])
theorem scanF_eq : ∀ (n : Nat) (r : List UInt8) (x : Nat × Nat) (acc : List Tk), r.length < n → scanF n r x acc = scanN r x acc
 | 0, r, x, acc, h => absurd h (by omega)
 | n + 1, r, x, acc, h => by
  simp only [scanF, scanN]
  cases ht : tokL r with
  | error e =>
   simp only
   cases r with
   | nil => rfl
   | cons c r => rfl
  | ok y =>
   obtain ⟨t, k⟩ := y
   have hk := tokL_len ht
   simp only
   have e1 : skipF (r.length + 1) (r.drop k) (x.1 + k) x.2 = skipL (r.drop k) (x.1 + k) x.2 := skipF_eq _ _ _ _ (by simp; omega)
   rw [e1, scanL_eq]
   exact scanF_eq n _ _ _ (by simp; omega)
theorem scanR_eq {s : List UInt8} {y : Except (Nat × Int) (List Tk)} (h : (s.length ≤ 4096 ∧ scanF (s.length + 1) (s.drop (skipF (s.length + 1) s 0 1).1) (skipF (s.length + 1) s 0 1) [] = y)) : scanR s = y := by
 unfold scanR
 rw [if_neg (by omega), scanL_eq, ← skipF_eq (s.length + 1) s 0 1 (by omega), Nat.sub_zero, ← scanF_eq (s.length + 1) _ _ _ (by simp; omega)]
 exact h.2
end Go.Av.Fn
/- A command's text read, reckoned. No condition. -/
namespace Go.Av.Fn
set_option linter.unusedSimpArgs false
set_option linter.unusedVariables false
set_option maxRecDepth 100000
open Go.Proofs
def decF : Nat → Nat → List UInt8
 | 0, _ => []
 | k + 1, u => if u < 10 then [UInt8.ofNat (48 + u)] else decF k (u / 10) ++ [UInt8.ofNat (48 + u % 10)]
theorem decF_eq : ∀ (k u : Nat), u < k → decF k u = Lib.decDigits u
 | 0, u, h => absurd h (by omega)
 | k + 1, u, h => by
  rw [Lib.decDigits, decF]
  by_cases h1 : u < 10
  ·rw [if_pos h1, dif_pos h1]
  ·rw [if_neg h1, dif_neg h1, decF_eq k (u / 10) (by omega)]
def itoaF (n : Int) : List UInt8 := if n < 0 then 45 :: decF (n.natAbs + 1) n.natAbs else decF (n.toNat + 1) n.toNat
theorem itoaF_eq (n : Int) : itoaF n = Lib.itoa n := by
 unfold itoaF Lib.itoa
 rw [decF_eq _ _ (by omega), decF_eq _ _ (by omega)]
def scanRF (s : List UInt8) : Except (Nat × Int) (List Tk) := if s.length > 4096 then .error (0, 5) else scanF (s.length + 1) (s.drop (skipF (s.length + 1) s 0 1).1) (skipF (s.length + 1) s 0 1) []
theorem scanRF_eq (s : List UInt8) : scanR s = scanRF s := by
 unfold scanRF
 by_cases h : s.length > 4096
 ·rw [if_pos h]
  unfold scanR
  rw [if_pos h]
 ·rw [if_neg h]
  exact scanR_eq ⟨by omega, rfl⟩
def readF (s : List UInt8) : Option Ex × Int × Int := match scanRF s with
 | .error (a, e) => (none, a, e)
 | .ok l => readT l
theorem readF_eq (s : List UInt8) : readS s = readF s := by
 unfold readS readF
 rw [scanRF_eq]
 all_goals (cases scanRF s <;> rfl)
def exprF (s : List UInt8) : Option Ex × Int × Int :=
 if (readF s).2.2 = 0 then (match (readF s).1 with
  | some e => if depthE e > 24 then (none, 0, 7) else (some e, 0, 0)
  | none => (none, 0, 0))
 else (none, (readF s).2.1, (readF s).2.2)
def writtenF (s : List UInt8) : Bool := (exprF s).2.2 == 0 && decide (s.length ≤ 255)
theorem writtenF_eq : writtenB = writtenF := by
 funext s
 unfold writtenB writtenF exprS exprF
 rw [readF_eq]
 all_goals rfl
def numF (s : List UInt8) : Int × List UInt8 × Bool := match Lib.parseIntB 64 (cutB s).1 with
 | .ok n => if (itoaF n == (cutB s).1) = true then (n, (cutB s).2.1, (cutB s).2.2) else (-1, [], false)
 | _ => (-1, [], false)
theorem numF_eq : numB = numF := by
 funext s
 unfold numB numF
 cases h : Lib.parseIntB 64 (cutB s).1 with
 | ok n => simp only [itoaF_eq]
 | _ => rfl
def rightG (wr : List UInt8 → Bool) (k n : Int) (s : List UInt8) : Bool :=
 if (decide (formOf k = noForm) || (!(formOf k).n && n != 0) || (!(formOf k).s && !(s == [])) || decide (n < (formOf k).least) || decide (n > 4294967296)) = true then false
 else if (!(formOf k).s || ((formOf k).n && s == [])) = true then true
 else wr s
def behG (num : List UInt8 → Int × List UInt8 × Bool) (f : Form) (rest : List UInt8) (no : Bool) : Int × List UInt8 × Bool :=
 if (no || (!f.n && !f.s)) = true then (0, [], no && !f.n && !f.s)
 else if f.n = false then (0, rest, true)
 else if (num rest).2.2 = false then ((num rest).1, [], decide ((num rest).1 ≥ 0))
 else ((num rest).1, (cutIf (num rest).2.1).1, (cutIf (num rest).2.1).2 && f.s && !((cutIf (num rest).2.1).1 == []))
def tryG (num : List UInt8 → Int × List UInt8 × Bool) (wr : List UInt8 → Bool) (s : List UInt8) (k : Nat) : Option (Int × Int × List UInt8) :=
 if ((formOf k).w == (cutB s).1) = true then
  (if ((behG num (formOf k) (cutB s).2.1 (!(cutB s).2.2)).2.2 && rightG wr k (behG num (formOf k) (cutB s).2.1 (!(cutB s).2.2)).1 (behG num (formOf k) (cutB s).2.1 (!(cutB s).2.2)).2.1) = true
   then some (k, (behG num (formOf k) (cutB s).2.1 (!(cutB s).2.2)).1, (behG num (formOf k) (cutB s).2.1 (!(cutB s).2.2)).2.1) else none)
 else none
def tryFromG (num : List UInt8 → Int × List UInt8 × Bool) (wr : List UInt8 → Bool) (s : List UInt8) : Nat → Nat → Option (Int × Int × List UInt8)
 | 0, _ => none
 | n + 1, k => match tryG num wr s k with
  | some x => some x
  | none => tryFromG num wr s n (k + 1)
theorem tryFrom_G (s : List UInt8) : ∀ n k, tryFrom s n k = tryFromG numB writtenB s n k
 | 0, _ => rfl
 | n + 1, k => by
  have h : tryK s k = tryG numB writtenB s k := rfl
  rw [tryFrom, tryFromG, h]
  cases tryG numB writtenB s k with
  | some x => rfl
  | none => exact tryFrom_G s n (k + 1)
theorem parse_eq {s : List UInt8} {r : Option (Int × Int × List UInt8)} (h : tryFromG numF writtenF s 17 1 = r) : parseC s = r := by
 rw [parseC, tryFrom_G, numF_eq, writtenF_eq]
 exact h
theorem right_eq {k n : Int} {s : List UInt8} {b : Bool} (h : rightG writtenF k n s = b) : rightB k n s = b := by
 rw [← h, ← writtenF_eq]
 rfl
theorem ex1 : parseC [98, 97, 99, 107, 45, 115, 116, 101, 112] = some (5, 0, []) := parse_eq (by kernel_rfl)
theorem ex2 : parseC [98, 114, 101, 97, 107, 32, 49, 50, 32, 105, 102, 32, 97, 32, 62, 32, 49] = some (10, 12, [97, 32, 62, 32, 49]) := parse_eq (by kernel_rfl)
theorem ex3 : parseC [103, 111, 116, 111, 32, 48] = some (9, 0, []) := parse_eq (by kernel_rfl)
theorem ex4 : parseC [103, 111, 116, 111, 32, 48, 49] = none := parse_eq (by kernel_rfl)
theorem ex5 : parseC [103, 111, 116, 111] = none := parse_eq (by kernel_rfl)
theorem ex6 : parseC [115, 116, 101, 112, 32, 49] = none := parse_eq (by kernel_rfl)
theorem ex7 : parseC [98, 114, 101, 97, 107, 32, 49, 32, 105, 102] = none := parse_eq (by kernel_rfl)
theorem ex8 : parseC [112, 114, 105, 110, 116, 32, 49, 32, 43] = none := parse_eq (by kernel_rfl)
theorem ex9 : rightB 10 12 [97, 32, 62, 32, 49] = true := right_eq (by kernel_rfl)
theorem ex10 : printB 10 12 [97, 32, 62, 32, 49] = [98, 114, 101, 97, 107, 32, 49, 50, 32, 105, 102, 32, 97, 32, 62, 32, 49] := by
 unfold printB
 rw [← itoaF_eq]
 kernel_rfl
end Go.Av.Fn
/- The document's examples of chapter 17: the program tells them. Conditions: the library's functions, and what some variables hold. -/
namespace Go.Av.Fn
set_option linter.unusedSimpArgs false
set_option linter.unusedVariables false
set_option maxRecDepth 10000
open Go.Proofs
theorem cmd_eq (xo yo : Operand) (k n k' n' : Int) (s s' : List UInt8) : binV Tryz.prog .eql 24 .other xo yo (.agg [it k, it n, bs s]) (.agg [it k', it n', bs s']) = some (.val (.bool (decide (k = k' ∧ n = n' ∧ s = s')))) := by
 have h := (struct_eq (P := Tryz.prog) (T := 24) (xo := xo) (yo := yo) (cs := [it k, it n, bs s]) (cs' := [it k', it n', bs s'])
  (xs := [.int .i64 k, .int .i64 n, .string ⟨s.toArray⟩]) (ys := [.int .i64 k', .int .i64 n', .string ⟨s'.toArray⟩])
  (r := (k == k' && (n == n' && ((ByteArray.mk s.toArray).toList == (ByteArray.mk s'.toArray).toList && true))))
  (by kernel_rfl) (by kernel_rfl) (by kernel_rfl) rfl rfl (by kernel_rfl)).1
 have e : (k == k' && (n == n' && ((ByteArray.mk s.toArray).toList == (ByteArray.mk s'.toArray).toList && true))) = decide (k = k' ∧ n = n' ∧ s = s') := by
  rw [ba_toList, ba_toList, Bool.eq_iff_iff]
  simp
 rw [e] at h
 exact h
theorem fmtNum_of {Γ : Glob} {rest : List UInt8} {i : Nat} (h : Lib.parseIntB 64 (cutB rest).1 = .ok (i : Int)) (hi : i < 100) : FmtNum Γ rest := by
 intro n hn
 rw [h] at hn
 cases hn
 exact fmt_small i hi
section
variable {Γ : Glob} {m : Store}
theorem is17_ok (E : Env2 Γ) (s : List UInt8) (hs : s.length ≤ 281474976710656) (hf : (cutB s).2.2 = true → FmtNum Γ (cutB s).2.1) {k n e : Int} {t : List UInt8} (h : parseV s = .tup [cmdV k n t, it e]) :
  ACalls Tryz.prog Γ 61 [bs s, cmdV k n t, it e] m fun o m' => o = .ret (.val (.bool true)) ∧ m' = m := by
 refine ACalls.less (A := fun o m' => o = .ret (.val (.bool true)) ∧ SubS m m') ?_ fun o m' h => ⟨m, h.2, h.1, rfl⟩
 refine acalls_of_awp mixed F61_ok (by rintro v m b x _ ⟨⟨⟩, _⟩) ?_
 simp only [F61, cmdV, ss0, Nat.reduceSub, Nat.reduceAdd]
 simp only [ssS, Nat.reduceAdd, Nat.reduceLeDiff, reduceIte, Nat.reduceEqDiff]
 refine allocS_of fun b4 hb4 => ?_
 simp only [ssS, Nat.reduceAdd, Nat.reduceLeDiff, reduceIte, Nat.reduceEqDiff]
 refine callS_pure (parse_ok E s hs hf) ?_
 simp only [h, cmdV, ssS, Nat.reduceAdd, Nat.reduceLeDiff, reduceIte, Nat.reduceEqDiff]
 refine allocS_of fun b7 hb7 => ?_
 have h47 : b4 ≠ b7 := ne_of_some (Store.set_same _ _ _) hb7
 simp only [Store.set_same, Store.set_set, Store.set_ne _ _ h47, cmd_eq, and_self, decide_true, show (e == e) = true from beq_self_eq_true e, ssS, Nat.reduceAdd, Nat.reduceLeDiff, reduceIte, Nat.reduceEqDiff]
 refine bodyA_ret resV_one ⟨rfl, ?_⟩
 exact ((SubS.refl m).out hb4 _).out (by rw [Store.set_ne _ _ h47.symm] at hb7; exact hb7) _
theorem pv_some {s : List UInt8} {k n : Int} {t : List UInt8} (h : parseC s = some (k, n, t)) : parseV s = .tup [cmdV k n t, it 0] := by
 unfold parseV
 rw [h]
theorem pv_none {s : List UInt8} (h : parseC s = none) : parseV s = .tup [cmdV 0 0 [], it 6] := by
 unfold parseV
 rw [h]
theorem lives17_ok (E : Env2 Γ) : ACalls Tryz.prog Γ 17 [] m fun o m' => o = .ret (.val (.bool true)) ∧ m' = m := by
 refine acalls_of_awp mixed F17_ok (by rintro v m b x _ ⟨⟨⟩, _⟩) ?_
 simp only [F17, ss0, Nat.reduceSub, Nat.reduceAdd]
 simp only [ssS, Nat.reduceAdd, Nat.reduceLeDiff, reduceIte, Nat.reduceEqDiff]
 refine callS_pure (print_ok E.env 10 12 [97, 32, 62, 32, 49] (fun _ _ => fmt_small 12 (by decide))) ?_
 rw [ex9, ex10]
 simp only [if_true, ssS, Nat.reduceAdd, Nat.reduceLeDiff, reduceIte, Nat.reduceEqDiff]
 refine callS_pure (is17_ok E [98, 97, 99, 107, 45, 115, 116, 101, 112] (by decide) (fun h => absurd h (by decide)) (pv_some ex1)) ?_
 simp only [ssS, Nat.reduceAdd, Nat.reduceLeDiff, reduceIte, Nat.reduceEqDiff]
 refine callS_pure (is17_ok E [98, 114, 101, 97, 107, 32, 49, 50, 32, 105, 102, 32, 97, 32, 62, 32, 49] (by decide) (fun h => fmtNum_of (i := 12) (by kernel_rfl) (by decide)) (pv_some ex2)) ?_
 simp only [ssS, Nat.reduceAdd, Nat.reduceLeDiff, reduceIte, Nat.reduceEqDiff]
 refine callS_pure (is17_ok E [103, 111, 116, 111, 32, 48] (by decide) (fun h => fmtNum_of (i := 0) (by kernel_rfl) (by decide)) (pv_some ex3)) ?_
 simp only [ssS, Nat.reduceAdd, Nat.reduceLeDiff, reduceIte, Nat.reduceEqDiff]
 refine callS_pure (is17_ok E [103, 111, 116, 111, 32, 48, 49] (by decide) (fun h => fmtNum_of (i := 1) (by kernel_rfl) (by decide)) (pv_none ex4)) ?_
 simp only [ssS, Nat.reduceAdd, Nat.reduceLeDiff, reduceIte, Nat.reduceEqDiff]
 refine callS_pure (is17_ok E [103, 111, 116, 111] (by decide) (fun h => absurd h (by decide)) (pv_none ex5)) ?_
 simp only [ssS, Nat.reduceAdd, Nat.reduceLeDiff, reduceIte, Nat.reduceEqDiff]
 refine callS_pure (is17_ok E [115, 116, 101, 112, 32, 49] (by decide) (fun h => fmtNum_of (i := 1) (by kernel_rfl) (by decide)) (pv_none ex6)) ?_
 simp only [ssS, Nat.reduceAdd, Nat.reduceLeDiff, reduceIte, Nat.reduceEqDiff]
 refine callS_pure (is17_ok E [98, 114, 101, 97, 107, 32, 49, 32, 105, 102] (by decide) (fun h => fmtNum_of (i := 1) (by kernel_rfl) (by decide)) (pv_none ex7)) ?_
 simp only [ssS, Nat.reduceAdd, Nat.reduceLeDiff, reduceIte, Nat.reduceEqDiff]
 refine callS_pure (is17_ok E [112, 114, 105, 110, 116, 32, 49, 32, 43] (by decide) (fun h => fmtNum_of (i := 1) (by kernel_rfl) (by decide)) (pv_none ex8)) ?_
 simp only [show (([98, 114, 101, 97, 107, 32, 49, 50, 32, 105, 102, 32, 97, 32, 62, 32, 49] : List UInt8) == [98, 114, 101, 97, 107, 32, 49, 50, 32, 105, 102, 32, 97, 32, 62, 32, 49]) = true from by decide, show ((0 : Int) == 0) = true from rfl, ssS, Nat.reduceAdd, Nat.reduceLeDiff, reduceIte, Nat.reduceEqDiff]
 exact bodyA_ret resV_one ⟨rfl, rfl⟩
end
end Go.Av.Fn
/- Commands put, and got. Conditions as ahead. -/
namespace Go.Av.Fn
set_option linter.unusedSimpArgs false
set_option linter.unusedVariables false
set_option maxRecDepth 10000
open Go.Proofs
def getC (s : List UInt8) (a : Nat) (e : Int) : (Int × Int × List UInt8) × Nat × Int :=
 let k := rInt s a e
 let n := rInt s k.2.1 k.2.2
 let t := rText s n.2.1 n.2.2 255
 (if t.2.2 ≠ 0 then (0, 0, []) else (k.1, n.1, t.1), t.2.1, t.2.2)
def cmdT (c : Int × Int × List UInt8) : V := cmdV c.1 c.2.1 c.2.2
def putC (k n : Int) (s : List UInt8) : List UInt8 := Lib.uvarint (Lib.zigzag k) ++ Lib.uvarint (Lib.zigzag n) ++ (Lib.uvarint (Lib.zigzag s.length) ++ s)
section
variable {Γ : Glob} {m : Store} {rb a : Nat} {s : List UInt8} {e : Int}
theorem get_ok (L : LibOk Γ) (hr : m rb = some (rdB s a e)) (ha : a ≤ s.length) (hs : s.length ≤ 281474976710656) :
  ACalls Tryz.prog Γ 23 [.ptr rb 0] m fun o m' => o = .ret (cmdT (getC s a e).1) ∧ m' = m.set rb (rdB s (getC s a e).2.1 (getC s a e).2.2) := by
 refine ACalls.less (A := fun o m' => o = .ret (cmdT (getC s a e).1) ∧ SubS (m.set rb (rdB s (getC s a e).2.1 (getC s a e).2.2)) m') ?_ fun o m' h => ⟨_, h.2, h.1, rfl⟩
 refine acalls_of_awp mixed F23_ok (by rintro v m b x _ ⟨⟨⟩, _⟩) ?_
 unfold getC
 obtain ⟨k, a1, e1, h1⟩ : ∃ k a1 e1, rInt s a e = (k, a1, e1) := ⟨_, _, _, rfl⟩
 have l1 := rInt_le (e := e) ha
 rw [h1] at l1
 obtain ⟨n, a2, e2, h2⟩ : ∃ n a2 e2, rInt s a1 e1 = (n, a2, e2) := ⟨_, _, _, rfl⟩
 have l2 := rInt_le (e := e1) l1
 rw [h2] at l2
 obtain ⟨t, a3, e3, h3⟩ : ∃ t a3 e3, rText s a2 e2 255 = (t, a3, e3) := ⟨_, _, _, rfl⟩
 simp only at l1 l2
 simp only [h1, h2, h3]
 simp only [F23, ss0, Nat.reduceSub, Nat.reduceAdd]
 simp only [ssS, Nat.reduceAdd, Nat.reduceLeDiff, reduceIte, Nat.reduceEqDiff]
 refine allocS_of fun b2 hb2 => ?_
 have hn2 := ne_of_some hr hb2
 simp only [ssS, Nat.reduceAdd, Nat.reduceLeDiff, reduceIte, Nat.reduceEqDiff]
 refine callS_to (wInt_ok (a := a) (e := e) (s := s) (by rw [Store.set_ne _ _ hn2]; exact hr) ha (by omega)) ?_
 simp only [h1, ssS, Nat.reduceAdd, Nat.reduceLeDiff, reduceIte, Nat.reduceEqDiff]
 refine allocS_of fun b3 hb3 => ?_
 have hn3 : rb ≠ b3 := ne_of_some (Store.set_same _ _ _) hb3
 have h23 : b2 ≠ b3 := ne_of_some (by rw [Store.set_ne _ _ hn2.symm, Store.set_same]) hb3
 simp only [Store.set_same, Store.set_set, ssS, Nat.reduceAdd, Nat.reduceLeDiff, reduceIte, Nat.reduceEqDiff]
 refine callS_to (wInt_ok (a := a1) (e := e1) (s := s) (by rw [Store.set_ne _ _ hn3, Store.set_same]) l1 (by omega)) ?_
 simp only [h2, Store.set_same, Store.set_set, Store.set_ne _ _ hn3.symm, ssS, Nat.reduceAdd, Nat.reduceLeDiff, reduceIte, Nat.reduceEqDiff]
 refine callS_to (wText_ok L 255 (a := a2) (e := e2) (s := s) (by rw [Store.set_ne _ _ hn3, Store.set_same]) l2 hs) ?_
 simp only [h3, Store.set_same, Store.set_set, Store.set_ne _ _ hn3.symm, ssS, Nat.reduceAdd, Nat.reduceLeDiff, reduceIte, Nat.reduceEqDiff]
 refine callS_pure (wErr_ok (a := a3) (e := e3) (s := s) (by rw [Store.set_ne _ _ hn3, Store.set_same])) ?_
 have hfin : ∀ (M : Store), M rb = some (rdB s a3 e3) → (∀ c x, m c = some x → c ≠ rb → c ≠ b2 → c ≠ b3 → M c = some x) → ∀ x, SubS (m.set rb (rdB s a3 e3)) (M.set b2 x) := by
  intro M hM hs2 x c y hc
  by_cases h1 : c = rb
  ·subst h1
   rw [Store.set_same] at hc
   cases hc
   rw [Store.set_ne _ _ hn2]
   exact hM
  ·rw [Store.set_ne _ _ h1] at hc
   have h2 : c ≠ b2 := ne_of_some hc hb2
   rw [Store.set_ne _ _ h2]
   refine hs2 c y hc h1 h2 ?_
   rintro rfl
   rw [Store.set_ne _ _ hn3.symm, Store.set_ne _ _ h23.symm, hc] at hb3
   cases hb3
 cases he : (e3 != 0)
 ·have h0 : e3 = 0 := by simpa using he
  subst h0
  simp only [show ((0 : Int) != 0) = false from rfl, Store.set_same, Store.set_set, Store.set_ne _ _ hn3.symm, Store.set_ne _ _ h23, Store.set_ne _ _ hn2.symm, ssS, Nat.reduceAdd, Nat.reduceLeDiff, reduceIte, Nat.reduceEqDiff]
  refine bodyA_ret ((resV_cell (b := b2) rfl (Store.set_same _ _ _)).trans rfl) ⟨?_, hfin _ ?_ ?_ _⟩
  ·simp only [ne_eq, not_true_eq_false, if_false, cmdT, cmdV]
   rfl
  ·first
    | exact Store.set_same _ _ _
    | (rw [Store.set_ne _ _ hn3, Store.set_same])
  ·intro c x hc k1 k2 k3
   simp only [Store.set_ne _ _ k1, Store.set_ne _ _ k2, Store.set_ne _ _ k3]
   exact hc
 ·have h0 : e3 ≠ 0 := by simpa using he
  simp only [he, Store.set_same, Store.set_set, Store.set_ne _ _ hn3.symm, Store.set_ne _ _ h23, Store.set_ne _ _ hn2.symm, ssS, Nat.reduceAdd, Nat.reduceLeDiff, reduceIte, Nat.reduceEqDiff]
  refine bodyA_ret ((resV_cell (b := b2) rfl (Store.set_same _ _ _)).trans rfl) ⟨?_, hfin _ ?_ ?_ _⟩
  ·simp only [ne_eq, h0, not_false_eq_true, if_true, cmdT, cmdV]
   rfl
  ·first
    | exact Store.set_same _ _ _
    | (rw [Store.set_ne _ _ hn3, Store.set_same])
  ·intro c x hc k1 k2 k3
   simp only [Store.set_ne _ _ k1, Store.set_ne _ _ k2, Store.set_ne _ _ k3]
   exact hc
theorem put_ok {m' : Store} {v : V} {l t : List UInt8} {k n : Int} (h : BufI 5 1 m m' v (l.map by8)) (hk : Av.I64 k) (hn : Av.I64 n) (hl : l.length + t.length + 100 ≤ 140737488355328) (hl2 : l.length + 100 < 1099511627776) :
  ACalls Tryz.prog Γ 25 [v, cmdV k n t] m' fun o m2 => ∃ v2, o = .ret v2 ∧ Buf 5 1 m m2 v2 ((l ++ putC k n t).map by8) := by
 refine ACalls.less (A := fun o m2 => ∃ v2 M, o = .ret v2 ∧ SubS M m2 ∧ Buf 5 1 m M v2 ((l ++ putC k n t).map by8)) ?_ fun o m' ⟨v2, M, h1, h2, h3⟩ => ⟨M, h2, v2, h1, h3⟩
 refine acalls_of_awp mixed F25_ok (by rintro v m b x _ ⟨_, _, ⟨⟩, _⟩) ?_
 simp only [F25, cmdV, ss0, Nat.reduceSub, Nat.reduceAdd]
 simp only [ssS, Nat.reduceAdd, Nat.reduceLeDiff, reduceIte, Nat.reduceEqDiff]
 refine allocS_of fun b3 hb3 => ?_
 have hm3 : m b3 = none := by
  cases hc : m b3 with
  | none => rfl
  | some x => rw [h.sub _ _ hc] at hb3; cases hb3
 have z1 := Lib.uvarint_length64 (Av.zigzag_u64 hk)
 have z2 := Lib.uvarint_length64 (Av.zigzag_u64 hn)
 simp only [Store.set_same, ssS, Nat.reduceAdd, Nat.reduceLeDiff, reduceIte, Nat.reduceEqDiff]
 refine callS_of (putInt_ok (h.add (x := .var 24 [it k, it n, bs t]) hb3) hk (by omega)) ?_ (by rintro v m' ⟨_, ⟨⟩, _⟩)
 rintro v2 m2 ⟨_, ⟨⟩, hB⟩
 have hb2 := hB.sub b3 _ (Store.set_same _ _ _)
 simp only [thenO_some, still_free, loadV_at, hb2, ssS, Nat.reduceAdd, Nat.reduceLeDiff, reduceIte, Nat.reduceEqDiff]
 refine callS_of (putInt_ok (.inl hB) hn (by simp; omega)) ?_ (by rintro v m' ⟨_, ⟨⟩, _⟩)
 rintro v3 m3 ⟨_, ⟨⟩, hB3⟩
 have hb3' := hB3.sub b3 _ (Store.set_same _ _ _)
 simp only [thenO_some, still_free, loadV_at, hb3', ssS, Nat.reduceAdd, Nat.reduceLeDiff, reduceIte, Nat.reduceEqDiff]
 refine callS_of (putText_ok hB3 (by simp; omega) (by simp; omega)) ?_ (by rintro v m' ⟨_, ⟨⟩, _⟩)
 rintro v4 m4 ⟨_, ⟨⟩, hB4⟩
 simp only [ssS, Nat.reduceAdd, Nat.reduceLeDiff, reduceIte, Nat.reduceEqDiff]
 obtain ⟨q1, M, q2, q3, q4⟩ := hB4.del hm3
 refine bodyA_ret resV_one ⟨v4, M, rfl, ?_, ?_⟩
 ·intro c x hc
  have hne : c ≠ b3 := by rintro rfl; rw [q3] at hc; cases hc
  have := congrArg (fun f : Store => f c) (q4 (.var 24 []))
  simp only [Store.set_ne _ _ hne] at this
  rw [this]
  exact hc
 ·simp only [putC, List.append_assoc] at q2 ⊢
  exact q2
end
end Go.Av.Fn
/- Commands put are got as they were: plain laws. No condition. -/
namespace Go.Av.Fn
set_option linter.unusedSimpArgs false
set_option linter.unusedVariables false
open Go.Lib
end Go.Av.Fn
/- Commands that are put are got as they were: the statement's function. Conditions as ahead. -/
namespace Go.Av.Fn
set_option linter.unusedSimpArgs false
set_option linter.unusedVariables false
set_option maxRecDepth 10000
open Go.Proofs
theorem nb_rdB {k : Nat} {s : List UInt8} {a : Nat} {e : Int} : nbB k (rdB s a e) := by
 unfold rdB
 simp only [nbS]
theorem nb_cmdT {k : Nat} (c : Int × Int × List UInt8) : nb k (cmdT c) := by
 unfold cmdT cmdV
 simp only [nbS]
theorem nb_cmdV {k : Nat} (a b : Int) (c : List UInt8) : nb k (cmdV a b c) := by
 unfold cmdV
 simp only [nbS]
theorem putC_len {k n : Int} {t : List UInt8} (hk : Av.I64 k) (hn : Av.I64 n) (ht : t.length < 9223372036854775808) : (putC k n t).length ≤ t.length + 30 := by
 have z1 := Lib.uvarint_length64 (Av.zigzag_u64 hk)
 have z2 := Lib.uvarint_length64 (Av.zigzag_u64 hn)
 have z3 := Lib.uvarint_length64 (Av.zigzag_u64 (n := (t.length : Int)) (by unfold Av.I64; omega))
 simp only [putC, List.length_append]
 omega
end Go.Av.Fn
/- What a rule leaves is an end of what it read; the document's reader of tokens, in plain terms. No condition. -/
namespace Go.Av.Fn
set_option linter.unusedSimpArgs false
set_option linter.unusedVariables false
def restP : PR → List Tk
 | .ok _ l => l
 | .st l => l
def Sfx (l : List Tk) (r : Option PR) : Prop := ∀ p, r = some p → restP p <:+ l
theorem Sfx.mono {l l' : List Tk} {r : Option PR} (h : Sfx l r) (hl : l <:+ l') : Sfx l' r := fun p hp => (h p hp).trans hl
/-! ### The document's reader -/
end Go.Av.Fn
/- The small steps of the document's reader: what they do. No condition. -/
namespace Go.Av
end Go.Av
namespace Go.Av.Fn
set_option linter.unusedSimpArgs false
set_option linter.unusedVariables false
set_option maxRecDepth 10000
open Go.Proofs
section
variable {Γ : Glob} {m : Store} {rb : Nat} {L l : List Tk} {t : Tk} {s : List UInt8} {b : Bool}
end
end Go.Av.Fn
/- Functions of a cell whose answer is told without its slices' ends. No condition. -/
namespace Go.Av
set_option linter.unusedSimpArgs false
set_option linter.unusedVariables false
section
variable {P : Program} {Γ : Glob} {H : Nat → List (Nat × List Nat) × List Nat} {f : FuncId} {F : AFn} {gs : List Nat} {m : Store}
end
end Go.Av
/- The document's table of signs. No condition. -/
namespace Go.Av.Fn
set_option linter.unusedSimpArgs false
set_option linter.unusedVariables false
set_option maxRecDepth 10000
open Go.Proofs
end Go.Av.Fn
/- The document's rule for what stands between signs. No condition. -/
namespace Go.Av.Fn
set_option linter.unusedSimpArgs false
set_option linter.unusedVariables false
set_option maxRecDepth 10000
open Go.Proofs
end Go.Av.Fn
/- The document's rule for rows of expressions. No condition. -/
namespace Go.Av.Fn
set_option linter.unusedSimpArgs false
set_option linter.unusedVariables false
set_option maxRecDepth 10000
open Go.Proofs
def Ne (r : Option PR) : Prop := ∀ l1, r = some (.st l1) → l1 ≠ []
/-! ### Rows -/
section
variable {Γ : Glob} {m : Store} {rb n : Nat} {L l : List Tk} {t : Tk} {s : List UInt8} {one : Bool} {p : PR}
end
end Go.Av.Fn
/- The document's rule for signs ahead and for what stands behind. No condition. -/
namespace Go.Av.Fn
set_option linter.unusedSimpArgs false
set_option linter.unusedVariables false
set_option maxRecDepth 10000
open Go.Proofs
end Go.Av.Fn
/- The document's rule for single expressions. No condition. -/
namespace Go.Av.Fn
set_option linter.unusedSimpArgs false
set_option linter.unusedVariables false
set_option maxRecDepth 10000
open Go.Proofs
section
variable {Γ : Glob} {m : Store} {rb n : Nat} {L l : List Tk} {t : Tk} {s : List UInt8} {one : Bool} {p : PR}
end
end Go.Av.Fn
/- The document's rules all; how deep an expression is. No condition. -/
namespace Go.Av
section
variable {P : Program} {Γ : Glob} {Kp : V → Hl → Prop} {t : List V} {h : Hl}
end
end Go.Av
namespace Go.Av.Fn
set_option linter.unusedSimpArgs false
set_option linter.unusedVariables false
set_option maxRecDepth 10000
open Go.Proofs
end Go.Av.Fn
/- A text's expression by the document. No condition. -/
namespace Go.Av
section
variable {P : Program} {Γ : Glob} {H : Nat → List (Nat × List Nat) × List Nat} {f : FuncId} {F : AFn} {gs : List Nat} {m : Store}
end
end Go.Av
namespace Go.Av.Fn
set_option linter.unusedSimpArgs false
set_option linter.unusedVariables false
set_option maxRecDepth 10000
open Go.Proofs
end Go.Av.Fn
/- Numbers and texts az bytes, by the document. No condition. -/
namespace Go.Av.Fn
set_option linter.unusedSimpArgs false
set_option linter.unusedVariables false
set_option maxRecDepth 10000
open Go.Proofs Go.Lib
def Bg (out : List UInt8) (tok : Tok) (r : Hl) : Prop := tok = .full ∧ out = [] ∧ r = [] ∨ ∃ k, tok = .tip 0 k ∧ out ≠ [] ∧ r = [some (.tip 5 k)]
theorem bg_blk {out : List UInt8} {tok : Tok} {r : Hl} (h : Bg out tok r) : ∀ a < r.length, ∀ x, lk r a = some x → nbB r.length x := by
 intro a ha x hx
 rcases h with ⟨rfl, rfl, rfl⟩ | ⟨k, rfl, _, rfl⟩
 ·simp at ha
 ·have : a = 0 := by simp at ha; omega
  subst this
  cases hx
  simp only [nbS]
theorem bg_app {P : Program} {Γ : Glob} {Kp : V → Hl → Prop} {s : List (Tmp × Option (Tmp × Bool) × AOp)} {l : List Item} {K : HS → Prop} {t : List V} {d : Option Tmp} {out : List UInt8} {tok : Tok} {r : Hl} {b : UInt8} (h : Bg out tok r) (hb : out.length ≤ 1099511627776)
  (hr : ∀ k, hth P Γ Kp s l K (hput t [some (.tip 5 k)] d (some (.sl ((out ++ [b]).map by8) [] (.tip 0 k))))) : happS P Γ Kp 5 1 1 (.sl (out.map by8) [] tok) (.sl [by8 b] [] .full) d s l K t r := by
 rw [List.map_append] at hr
 rcases h with ⟨rfl, rfl, rfl⟩ | ⟨k, rfl, h0, rfl⟩
 ·exact happ_full (ys := [by8 b]) rfl (by simp) (by simp) rfl rfl (by simp) (hr 0)
 ·exact happ_tip (j := 0) (k := k) (x := .sl [by8 b] [] .full) (ys := [by8 b]) rfl (by simp) (by simpa using h0) rfl (szOk_by8 out) rfl (by simp; omega) (hr (k + 1))
section
variable {Γ : Glob} {m : Store}
theorem zFold_ok {n : Int} (h : Av.I64 n) : ACalls Tryz.prog Γ 115 [it n] m fun o m' => o = .ret (.val (.int .u64 (zigzag n))) ∧ m' = m := by
 obtain ⟨h1, h2⟩ := h
 refine acalls_v (acalls_p mixed F115_ok F115_h gok_nil (by first | exact LR.nil | simp only [nbS]) ?_)
 simp only [F115, ss0, Nat.reduceSub, Nat.reduceAdd]
 simp only [ssH, Nat.reduceAdd, Nat.reduceLeDiff, reduceIte, Nat.reduceEqDiff, Nat.reduceLT, Int.reduceBEq, Int.reduceBNe]
 by_cases hn : n < 0
 ·have w1 : IntKind.i64.wrap (n + 1) = n + 1 := wrap_i64 (by omega) (by omega)
  have w2 : IntKind.i64.wrap (0 - (n + 1)) = 0 - (n + 1) := wrap_i64 (by omega) (by omega)
  simp only [decide_eq_true hn, w1, w2, eval_conv, conv_i64_u64, ssH, Nat.reduceAdd, Nat.reduceLeDiff, reduceIte, Nat.reduceEqDiff, Nat.reduceLT, Int.reduceBEq, Int.reduceBNe]
  refine bodyH_ret resV_one ⟨(by simp only [tget_zero, tget_succ, nbS]), ?_⟩
  simp only [tget_zero, tget_succ]
  congr 2
  unfold zigzag
  rw [if_neg (by omega), IntKind.wrap_u64, IntKind.wrap_u64, IntKind.wrap_u64]
  omega
 ·simp only [decide_eq_false hn, eval_conv, conv_i64_u64, ssH, Nat.reduceAdd, Nat.reduceLeDiff, reduceIte, Nat.reduceEqDiff, Nat.reduceLT, Int.reduceBEq, Int.reduceBNe]
  refine bodyH_ret resV_one ⟨(by simp only [tget_zero, tget_succ, nbS]), ?_⟩
  simp only [tget_zero, tget_succ]
  congr 2
  unfold zigzag
  rw [if_pos (by omega), IntKind.wrap_u64, IntKind.wrap_u64]
  omega
theorem zUnfold_ok {u : Nat} (h : u < 18446744073709551616) : ACalls Tryz.prog Γ 132 [.val (.int .u64 u)] m fun o m' => o = .ret (it (unzigzag u)) ∧ m' = m := by
 refine acalls_v (acalls_p mixed F132_ok F132_h gok_nil (by first | exact LR.nil | simp only [nbS]) ?_)
 simp only [F132, ss0, Nat.reduceSub, Nat.reduceAdd]
 have e1 : ((u : Int)).tmod 2 = ((u % 2 : Nat) : Int) := by rw [Int.tmod_eq_emod_of_nonneg (by omega)]; omega
 have e2 : IntKind.u64.wrap (((u : Int)).tdiv 2) = ((u / 2 : Nat) : Int) := by
  rw [IntKind.wrap_u64, Int.tdiv_eq_ediv_of_nonneg (by omega)]
  omega
 have e3 : IntKind.i64.wrap ((u / 2 : Nat) : Int) = ((u / 2 : Nat) : Int) := wrap_i64 (by omega) (by omega)
 simp only [bin_rem (show (2 : Int) ≠ 0 by decide), bin_quo (show (2 : Int) ≠ 0 by decide), e1, e2, eval_conv, conv_u64_i64, e3, ssH, Nat.reduceAdd, Nat.reduceLeDiff, reduceIte, Nat.reduceEqDiff, Nat.reduceLT, Int.reduceBEq, Int.reduceBNe]
 by_cases hu : u % 2 = 1
 ·have hb : (((u % 2 : Nat) : Int) == 1) = true := by rw [hu]; rfl
  have w1 : IntKind.i64.wrap (0 - ((u / 2 : Nat) : Int)) = 0 - ((u / 2 : Nat) : Int) := wrap_i64 (by omega) (by omega)
  have w2 : IntKind.i64.wrap (0 - ((u / 2 : Nat) : Int) - 1) = 0 - ((u / 2 : Nat) : Int) - 1 := wrap_i64 (by omega) (by omega)
  simp only [hb, bin_quo (show (2 : Int) ≠ 0 by decide), e2, eval_conv, conv_u64_i64, e3, w1, w2, ssH, Nat.reduceAdd, Nat.reduceLeDiff, reduceIte, Nat.reduceEqDiff, Nat.reduceLT, Int.reduceBEq, Int.reduceBNe]
  refine bodyH_ret resV_one ⟨(by simp only [tget_zero, tget_succ, nbS]), ?_⟩
  simp only [tget_zero, tget_succ]
  congr 2
  unfold unzigzag
  split <;> omega
 ·have hb : (((u % 2 : Nat) : Int) == 1) = false := by
   have : u % 2 = 0 := by omega
   rw [this]; rfl
  simp only [hb, bin_quo (show (2 : Int) ≠ 0 by decide), e2, eval_conv, conv_u64_i64, e3, ssH, Nat.reduceAdd, Nat.reduceLeDiff, reduceIte, Nat.reduceEqDiff, Nat.reduceLT, Int.reduceBEq, Int.reduceBNe]
  refine bodyH_ret resV_one ⟨(by simp only [tget_zero, tget_succ, nbS]), ?_⟩
  simp only [tget_zero, tget_succ]
  congr 2
  unfold unzigzag
  split <;> omega
theorem zInt_ok {n : Int} (h : Av.I64 n) : ACalls Tryz.prog Γ 70 [it n] m fun o m' => o = .ret (bs (uvarint (zigzag n))) ∧ m' = m := by
 refine acalls_v (acalls_p mixed F70_ok F70_h gok_nil (by first | exact LR.nil | simp only [nbS]) ?_)
 simp only [F70, ss0, Nat.reduceSub, Nat.reduceAdd]
 simp only [ssH, Nat.reduceAdd, Nat.reduceLeDiff, reduceIte, Nat.reduceEqDiff, Nat.reduceLT, Int.reduceBEq, Int.reduceBNe]
 refine hcall_pure (by exact fun m => zFold_ok h) (by first | exact LR.nil | simp only [nbS]) (by first | exact LR.nil | simp only [nbS]) ?_
 simp only [ssH, Nat.reduceAdd, Nat.reduceLeDiff, reduceIte, Nat.reduceEqDiff, Nat.reduceLT, Int.reduceBEq, Int.reduceBNe]
 have hlen10 := uvarint_length64 (zigzag_u64 h)
 refine h_loop [3, 4] 24 (fun j vs hh => ∃ (f : Nat) (out : List UInt8) (tok : Tok) (r : Hl), f = j ∧ vs = [.val (.int .u64 f), .sl (out.map by8) [] tok] ∧ hh = r ∧ Bg out tok r ∧ f < 18446744073709551616 ∧ out ++ uvarint f = uvarint (zigzag n)) (zigzag n) (by decide) (by decide) (List.range 0) (back_take rfl (Nat.le_refl _) (by decide) (by simp) (by show nbs 0 [.val (.int .u64 (zigzag n)), .sl [] [] .full]; simp only [nbS]) (fun a ha => by omega) ⟨zigzag n, [], .full, [], rfl, rfl, rfl, .inl ⟨rfl, rfl, rfl⟩, zigzag_u64 h, rfl⟩) ?_
 rintro j t hh J hJ hl ⟨f, out, tok, r, rfl, hv, rfl, hb, hf, he⟩
 simp only [List.map, List.cons.injEq, and_true] at hv
 obtain ⟨h3, h4⟩ := hv
 have htot : out.length + (uvarint f).length = (uvarint (zigzag n)).length := by
  have := congrArg List.length he
  simpa using this
 rw [t_eq hl]
 simp only [upTo_succ, upTo, h3, h4, ge_iff_le, ssH, Nat.reduceAdd, Nat.reduceLeDiff, reduceIte, Nat.reduceEqDiff, Nat.reduceLT, Int.reduceBEq, Int.reduceBNe]
 by_cases hk : 128 ≤ f
 ·have hd : decide ((128 : Int) ≤ (f : Int)) = true := decide_eq_true (by omega)
  have e1 : ((f : Int)).tmod 128 = ((f % 128 : Nat) : Int) := by rw [Int.tmod_eq_emod_of_nonneg (by omega)]; omega
  have e2 : IntKind.u8.wrap ((f % 128 : Nat) : Int) = ((f % 128 : Nat) : Int) := by rw [IntKind.wrap_u8]; omega
  have e3 : IntKind.u8.wrap (((f % 128 : Nat) : Int) + 128) = ((f % 128 + 128 : Nat) : Int) := by rw [IntKind.wrap_u8]; omega
  have e4 : IntKind.u64.wrap (((f : Int)).tdiv 128) = ((f / 128 : Nat) : Int) := by rw [IntKind.wrap_u64, Int.tdiv_eq_ediv_of_nonneg (by omega)]; omega
  simp only [hd, bin_rem (show (128 : Int) ≠ 0 by decide), bin_quo (show (128 : Int) ≠ 0 by decide), e1, eval_conv, conv_u64_u8, e2, e3, by8_big, eval_lit1, by8, litV1_val, ssH, Nat.reduceAdd, Nat.reduceLeDiff, reduceIte, Nat.reduceEqDiff, Nat.reduceLT, Int.reduceBEq, Int.reduceBNe]
  refine bg_app (b := (f % 128 + 128).toUInt8) hb (by omega) fun k => ?_
  simp only [bin_quo (show (128 : Int) ≠ 0 by decide), e4, ssH, Nat.reduceAdd, Nat.reduceLeDiff, reduceIte, Nat.reduceEqDiff, Nat.reduceLT, Int.reduceBEq, Int.reduceBNe]
  have hB : Bg (out ++ [(f % 128 + 128).toUInt8]) (.tip 0 k) [some (.tip 5 k)] := .inr ⟨k, rfl, by simp, rfl⟩
  refine ⟨_, hJ (f / 128) (List.range 1) _ (by omega) (back_take rfl (Nat.zero_le _) (by decide) (by simp) (by show nbs 1 [.val (.int .u64 ((f / 128 : Nat) : Int)), .sl ((out ++ [(f % 128 + 128).toUInt8]).map by8) [] (.tip 0 k)]; simp only [nbS]; decide) (bg_blk hB) ⟨f / 128, _, _, _, rfl, rfl, rfl, hB, by omega, by rw [List.append_assoc, ← he, uvarint_big hk]; rfl⟩)⟩
 ·have hd : decide ((128 : Int) ≤ (f : Int)) = false := decide_eq_false (by omega)
  simp only [hd, eval_conv, conv_u64_u8, by8_small (show f < 128 by omega), eval_lit1, by8, litV1_val, ssH, Nat.reduceAdd, Nat.reduceLeDiff, reduceIte, Nat.reduceEqDiff, Nat.reduceLT, Int.reduceBEq, Int.reduceBNe]
  refine bg_app (b := f.toUInt8) hb (by omega) fun k => ?_
  have hfin : (out ++ [f.toUInt8]) = uvarint (zigzag n) := by rw [← he, uvarint_small (by omega)]
  rw [hfin]
  simp only [eval_b2s, b2s_bs, ssH, Nat.reduceAdd, Nat.reduceLeDiff, reduceIte, Nat.reduceEqDiff, Nat.reduceLT, Int.reduceBEq, Int.reduceBNe]
  exact bodyH_ret resV_one ⟨(by simp only [tget_zero, tget_succ, nbS]), rfl⟩
end
end Go.Av.Fn
/- Readers by the document: what they tell, and how they stand then. No condition. -/
namespace Go.Av.Fn
set_option linter.unusedSimpArgs false
set_option linter.unusedVariables false
set_option maxRecDepth 10000
open Go.Proofs Go.Lib
def rdV (s : List UInt8) (a : Nat) (e : Int) : V := .agg [bs s, it a, it e]
theorem nb_rdV {k : Nat} {s : List UInt8} {a : Nat} {e : Int} : nb k (rdV s a e) := by simp only [rdV, nbS]
def behN (s : List UInt8) (a : Nat) : Nat := if (Av.numL (s.drop a)).2.2 = 0 then a + (Av.numL (s.drop a)).2.1 else 0
section
variable {Γ : Glob} {m : Store}
theorem zText_ok (s : List UInt8) (hs : s.length < 4611686018427387904) : ACalls Tryz.prog Γ 71 [bs s] m fun o m' => o = .ret (bs (uvarint (zigzag s.length) ++ s)) ∧ m' = m := by
 refine acalls_v (acalls_p mixed F71_ok F71_h gok_nil (by first | exact LR.nil | simp only [nbS]) ?_)
 simp only [F71, ss0, Nat.reduceSub, Nat.reduceAdd]
 have h64 : Av.I64 (s.length : Int) := ⟨by omega, by omega⟩
 have hlen := uvarint_length64 (zigzag_u64 h64)
 simp only [ssH, Nat.reduceAdd, Nat.reduceLeDiff, reduceIte, Nat.reduceEqDiff, Nat.reduceLT, Int.reduceBEq, Int.reduceBNe]
 refine hcall_pure (by exact fun m => zInt_ok h64) (by first | exact LR.nil | simp only [nbS]) (by first | exact LR.nil | simp only [nbS]) ?_
 simp only [bs_add (show (uvarint (zigzag (s.length : Int))).length + s.length ≤ 9223372036854775807 by omega), ssH, Nat.reduceAdd, Nat.reduceLeDiff, reduceIte, Nat.reduceEqDiff, Nat.reduceLT, Int.reduceBEq, Int.reduceBNe]
 exact bodyH_ret resV_one ⟨(by simp only [tget_zero, tget_succ, nbS]), rfl⟩
theorem zNumber_ok (s : List UInt8) (a : Nat) (ha : a ≤ s.length) (hl : s.length < 4611686018427387904) : ACalls Tryz.prog Γ 111 [bs s, it a] m fun o m' => o = .ret (.tup [it (Av.numL (s.drop a)).1, it (behN s a), it (Av.numL (s.drop a)).2.2]) ∧ m' = m := by
 refine acalls_v (acalls_p mixed F111_ok F111_h gok_nil (by first | exact LR.nil | simp only [nbS]) ?_)
 simp only [F111, ss0, Nat.reduceSub, Nat.reduceAdd]
 simp only [ssH, Nat.reduceAdd, Nat.reduceLeDiff, reduceIte, Nat.reduceEqDiff, Nat.reduceLT, Int.reduceBEq, Int.reduceBNe]
 have bad : ∀ (e : Int), Av.numL (s.drop a) = (0, 0, e) → e ≠ 0 → (V.tup [it 0, it 0, it e]) = .tup [it (Av.numL (s.drop a)).1, it (behN s a), it (Av.numL (s.drop a)).2.2] := by
  intro e h1 h2
  unfold behN
  rw [h1]
  simp only [if_neg h2]
  rfl
 refine h_loop [0, 1, 7, 8] 53 (fun k vs h => ∃ i f : Nat, k = 10 - i ∧ vs = [bs s, it a, .val (.int .u64 f), it i] ∧ i ≤ 9 ∧ f < 2 ^ (7 * i) ∧ a + i ≤ s.length ∧ Av.numGo i f (s.drop (a + i)) = Av.numL (s.drop a)) 10 (by decide) (by decide) (List.range 0) (back_take rfl (Nat.le_refl _) (by decide) (by simp) (by show nbs 0 [bs s, it a, .val (.int .u64 0), it 0]; simp only [nbS]) (fun a ha => by omega) ⟨0, 0, rfl, rfl, by omega, by decide, by omega, rfl⟩) ?_
 rintro k t h J hJ hlt ⟨i, f, hk, hv, hi, hf, hil, hgo⟩
 simp only [List.map, List.cons.injEq, and_true] at hv
 obtain ⟨g0, g1, g7, g8⟩ := hv
 rw [t_eq hlt]
 have hwa : IntKind.i64.wrap ((a : Int) + (i : Int)) = ((a + i : Nat) : Int) := by rw [wrap_i64 (by omega) (by omega)]; omega
 simp only [upTo_succ, upTo, g0, g1, g7, g8, show decide ((i : Int) < 10) = true from decide_eq_true (by omega), hwa, ge_iff_le, ssH, Nat.reduceAdd, Nat.reduceLeDiff, reduceIte, Nat.reduceEqDiff, Nat.reduceLT, Int.reduceBEq, Int.reduceBNe]
 by_cases hend : s.length ≤ a + i
 ·simp only [show decide ((s.length : Int) ≤ ((a + i : Nat) : Int)) = true from decide_eq_true (by omega), ssH, Nat.reduceAdd, Nat.reduceLeDiff, reduceIte, Nat.reduceEqDiff, Nat.reduceLT, Int.reduceBEq, Int.reduceBNe]
  exact bodyH_ret resV_three ⟨(by simp only [tget_zero, tget_succ, nbS]), bad 3 (by rw [← hgo, List.drop_eq_nil_of_le hend]; rfl) (by decide)⟩
 have hlt2 : a + i < s.length := by omega
 obtain ⟨c, hcs⟩ : ∃ c, s[a + i] = c := ⟨_, rfl⟩
 have hx : s[a + i]? = some c := by rw [List.getElem?_eq_getElem hlt2, hcs]
 have hdrop : s.drop (a + i) = c :: s.drop (a + (i + 1)) := by rw [List.drop_eq_getElem_cons hlt2, hcs, Nat.add_assoc]
 have hc : c.toNat < 256 := c.toNat_lt
 have hw7 : IntKind.i64.wrap (7 * (i : Int)) = ((7 * i : Nat) : Int) := by
  rw [wrap_i64 (by omega) (by omega)]
  omega
 have hm128 : ((c.toNat : Int)).tmod 128 = ((c.toNat % 128 : Nat) : Int) := by rw [Int.tmod_eq_emod_of_nonneg (by omega)]; omega
 have hw127 : IntKind.u64.wrap ((c.toNat % 128 : Nat) : Int) = ((c.toNat % 128 : Nat) : Int) := by
  rw [IntKind.wrap_u64]
  omega
 rw [hdrop] at hgo
 simp only [Av.numGo] at hgo
 simp only [show decide ((s.length : Int) ≤ ((a + i : Nat) : Int)) = false from decide_eq_false (by omega), hwa, idx_bs hx, by8, ssH, Nat.reduceAdd, Nat.reduceLeDiff, reduceIte, Nat.reduceEqDiff, Nat.reduceLT, Int.reduceBEq, Int.reduceBNe]
 have main : ∀ (hc9 : i = 9 → c.toNat = 1), True := fun _ => trivial
 by_cases h9 : i = 9 ∧ c.toNat ≠ 1
 ·obtain ⟨rfl, hc1⟩ := h9
  have hb : (((c.toNat : Nat) : Int) != 1) = true := by simp; omega
  rw [if_pos ⟨rfl, hc1⟩] at hgo
  simp only [show (((9 : Nat) : Int) == 9) = true from rfl, hb, ssH, Nat.reduceAdd, Nat.reduceLeDiff, reduceIte, Nat.reduceEqDiff, Nat.reduceLT, Int.reduceBEq, Int.reduceBNe]
  exact bodyH_ret resV_three ⟨(by simp only [tget_zero, tget_succ, nbS]), bad 4 hgo.symm (by decide)⟩
 rw [if_neg h9] at hgo
 have hc9 : i = 9 → c.toNat = 1 := fun e => Classical.byContradiction fun k => h9 ⟨e, k⟩
 have hlt64 := (Av.num_lt hi hc hc9 hf).1
 have hadd : IntKind.u64.wrap ((f : Int) + ((c.toNat % 128 * 2 ^ (7 * i) : Nat) : Int)) = ((f + c.toNat % 128 * 2 ^ (7 * i) : Nat) : Int) := by rw [IntKind.wrap_u64]; omega
 have step : ∀ (T : Nat × (Operand → Operand → Nat)), True := fun _ => trivial
 have e9 : ((i : Int) == 9) = decide (i = 9) := by rw [Bool.eq_iff_iff, beq_iff_eq, decide_eq_true_eq]; omega
 have hsk : (((c.toNat : Nat) : Int) != 1) = decide (c.toNat ≠ 1) := by rw [Bool.eq_iff_iff]; simp; omega
 have go : ∀ {b : Bool}, b = decide (i = 9) → (b = true → decide (c.toNat ≠ 1) = false) := by
  rintro b rfl hb
  have := hc9 (of_decide_eq_true hb)
  simp [this]
 cases hb9 : decide (i = 9)
 case' true => have hq := go rfl hb9
 all_goals
  simp only [e9, hb9, hsk, ssH, Nat.reduceAdd, Nat.reduceLeDiff, reduceIte, Nat.reduceEqDiff, Nat.reduceLT, Int.reduceBEq, Int.reduceBNe]
 case' true => simp only [hq, ssH, Nat.reduceAdd, Nat.reduceLeDiff, reduceIte, Nat.reduceEqDiff, Nat.reduceLT, Int.reduceBEq, Int.reduceBNe]
 all_goals
  simp only [bin_rem (show (128 : Int) ≠ 0 by decide), hm128, eval_conv, conv_u8_u64, hw127, hw7, bin_shl (show (0 : Int) ≤ ((7 * i : Nat) : Int) from Int.natCast_nonneg _), Av.num_shl hi hc hc9, hadd, ssH, Nat.reduceAdd, Nat.reduceLeDiff, reduceIte, Nat.reduceEqDiff, Nat.reduceLT, Int.reduceBEq, Int.reduceBNe]
  by_cases h128 : c.toNat < 128
  ·simp only [show decide (((c.toNat : Nat) : Int) < 128) = true from decide_eq_true (by omega), gt_iff_lt, ssH, Nat.reduceAdd, Nat.reduceLeDiff, reduceIte, Nat.reduceEqDiff, Nat.reduceLT, Int.reduceBEq, Int.reduceBNe]
   rw [if_neg (by omega)] at hgo
   by_cases h0 : c.toNat = 0 ∧ 0 < i
   ·rw [if_pos h0] at hgo
    simp only [show (((c.toNat : Nat) : Int) == 0) = true by simp; omega, show decide ((0 : Int) < (i : Int)) = true from decide_eq_true (by omega), ssH, Nat.reduceAdd, Nat.reduceLeDiff, reduceIte, Nat.reduceEqDiff, Nat.reduceLT, Int.reduceBEq, Int.reduceBNe]
    exact bodyH_ret resV_three ⟨(by simp only [tget_zero, tget_succ, nbS]), bad 4 hgo.symm (by decide)⟩
   ·rw [if_neg h0] at hgo
    have hw1 : IntKind.i64.wrap (((a + i : Nat) : Int) + 1) = ((a + i + 1 : Nat) : Int) := by rw [wrap_i64 (by omega) (by omega)]; omega
    have hfin : (V.tup [it (unzigzag (f + c.toNat % 128 * 2 ^ (7 * i))), it ((a + i + 1 : Nat) : Int), it 0]) = .tup [it (Av.numL (s.drop a)).1, it (behN s a), it (Av.numL (s.drop a)).2.2] := by
     unfold behN
     rw [← hgo]
     simp only [if_true]
     rw [Nat.add_assoc]
    by_cases hz : c.toNat = 0
    ·have hi0 : i = 0 := by omega
     simp only [show (((c.toNat : Nat) : Int) == 0) = true by simp; omega, show decide ((0 : Int) < (i : Int)) = false from decide_eq_false (by omega), ssH, Nat.reduceAdd, Nat.reduceLeDiff, reduceIte, Nat.reduceEqDiff, Nat.reduceLT, Int.reduceBEq, Int.reduceBNe]
     refine hcall_pure (by exact fun m => zUnfold_ok hlt64) (by first | exact LR.nil | simp only [nbS]) (by first | exact LR.nil | simp only [nbS]) ?_
     simp only [hwa, hw1, ssH, Nat.reduceAdd, Nat.reduceLeDiff, reduceIte, Nat.reduceEqDiff, Nat.reduceLT, Int.reduceBEq, Int.reduceBNe]
     exact bodyH_ret resV_three ⟨(by simp only [tget_zero, tget_succ, nbS]), hfin⟩
    ·simp only [show (((c.toNat : Nat) : Int) == 0) = false by simp; omega, ssH, Nat.reduceAdd, Nat.reduceLeDiff, reduceIte, Nat.reduceEqDiff, Nat.reduceLT, Int.reduceBEq, Int.reduceBNe]
     refine hcall_pure (by exact fun m => zUnfold_ok hlt64) (by first | exact LR.nil | simp only [nbS]) (by first | exact LR.nil | simp only [nbS]) ?_
     simp only [hwa, hw1, ssH, Nat.reduceAdd, Nat.reduceLeDiff, reduceIte, Nat.reduceEqDiff, Nat.reduceLT, Int.reduceBEq, Int.reduceBNe]
     exact bodyH_ret resV_three ⟨(by simp only [tget_zero, tget_succ, nbS]), hfin⟩
  ·rw [if_pos (by omega)] at hgo
   simp only [show decide (((c.toNat : Nat) : Int) < 128) = false from decide_eq_false (by omega), next_i64 (show i < 4611686018427387904 by omega), ssH, Nat.reduceAdd, Nat.reduceLeDiff, reduceIte, Nat.reduceEqDiff, Nat.reduceLT, Int.reduceBEq, Int.reduceBNe]
   have hi8 : i ≤ 8 := by
    rcases Nat.lt_or_ge i 9 with q | q
    ·omega
    ·have := hc9 (by omega)
     omega
   refine ⟨_, hJ (10 - (i + 1)) (List.range 0) _ (by omega) (back_take rfl (Nat.le_refl _) (by decide) (by simp) (by show nbs 0 [bs s, it a, .val (.int .u64 ((f + c.toNat % 128 * 2 ^ (7 * i) : Nat) : Int)), it (i + 1 : Nat)]; simp only [nbS]) (fun a ha => by omega) ⟨i + 1, f + c.toNat % 128 * 2 ^ (7 * i), rfl, rfl, by omega, (Av.num_lt hi hc hc9 hf).2 hi8, by omega, hgo⟩)⟩
end
end Go.Av.Fn
/- Readers by the document: their calls; a command put and got. No condition. -/
namespace Go.Av.Fn
set_option linter.unusedSimpArgs false
set_option linter.unusedVariables false
set_option maxRecDepth 10000
open Go.Proofs Go.Lib
section
variable {Γ : Glob} {m : Store}
theorem zWrong_ok (s : List UInt8) (a : Nat) (e e2 : Int) : ACalls Tryz.prog Γ 112 [rdV s a e, it e2] m fun o m' => o = .ret (rdV s a e2) ∧ m' = m := by
 refine acalls_v (acalls_p mixed F112_ok F112_h gok_nil (by simp only [nb_rdV, nbS]) ?_)
 simp only [F112, rdV, ss0, Nat.reduceSub, Nat.reduceAdd]
 simp only [cells_agg, ssH, Nat.reduceAdd, Nat.reduceLeDiff, reduceIte, Nat.reduceEqDiff, Nat.reduceLT, Int.reduceBEq, Int.reduceBNe]
 exact bodyH_ret (v := rdV s a e2) rfl ⟨nb_rdV, rfl⟩
theorem zRInt_ok (s : List UInt8) (a : Nat) (e : Int) (ha : a ≤ s.length) (hl : s.length < 4611686018427387904) : ACalls Tryz.prog Γ 66 [rdV s a e] m fun o m' => o = .ret (.tup [rdV s (rInt s a e).2.1 (rInt s a e).2.2, it (rInt s a e).1]) ∧ m' = m := by
 refine acalls_v (acalls_p mixed F66_ok F66_h gok_nil (by simp only [nb_rdV, nbS]) ?_)
 simp only [F66, rdV, ss0, Nat.reduceSub, Nat.reduceAdd]
 simp only [cells_agg, ssH, Nat.reduceAdd, Nat.reduceLeDiff, reduceIte, Nat.reduceEqDiff, Nat.reduceLT, Int.reduceBEq, Int.reduceBNe]
 have fin : ∀ (a' : Nat) (e' n : Int), rInt s a e = (n, a', e') → nb 0 (.tup [rdV s a' e', it n]) ∧ V.tup [rdV s a' e', it n] = .tup [rdV s (rInt s a e).2.1 (rInt s a e).2.2, it (rInt s a e).1] := by
  intro a' e' n h
  rw [h]
  exact ⟨by simp only [nb_rdV, nbS], rfl⟩
 cases he : (e != 0)
 ·have h0 : e = 0 := by simpa using he
  subst h0
  simp only [show ((0 : Int) != 0) = false from rfl, ssH, Nat.reduceAdd, Nat.reduceLeDiff, reduceIte, Nat.reduceEqDiff, Nat.reduceLT, Int.reduceBEq, Int.reduceBNe]
  refine hcall_pure (by exact fun m => zNumber_ok s a ha hl) (by first | exact LR.nil | simp only [nbS]) (by first | exact LR.nil | simp only [nbS]) ?_
  cases h1 : ((Av.numL (s.drop a)).2.2 != 0)
  ·have h2 : (Av.numL (s.drop a)).2.2 = 0 := by simpa using h1
   simp only [h1, cells_agg, ssH, Nat.reduceAdd, Nat.reduceLeDiff, reduceIte, Nat.reduceEqDiff, Nat.reduceLT, Int.reduceBEq, Int.reduceBNe]
   refine bodyH_ret (v := .tup [rdV s (behN s a) 0, it (Av.numL (s.drop a)).1]) rfl (fin _ _ _ ?_)
   simp only [rInt, behN, h2, ne_eq, not_true_eq_false, if_false, if_true]
  ·have h2 : (Av.numL (s.drop a)).2.2 ≠ 0 := by simpa using h1
   simp only [h1, cells_agg, ssH, Nat.reduceAdd, Nat.reduceLeDiff, reduceIte, Nat.reduceEqDiff, Nat.reduceLT, Int.reduceBEq, Int.reduceBNe]
   refine hcall_pure (by exact fun m => zWrong_ok s a 0 (Av.numL (s.drop a)).2.2) (by simp only [nbS]) nb_rdV ?_
   simp only [rdV, cells_agg, ssH, Nat.reduceAdd, Nat.reduceLeDiff, reduceIte, Nat.reduceEqDiff, Nat.reduceLT, Int.reduceBEq, Int.reduceBNe]
   refine bodyH_ret (v := .tup [rdV s a (Av.numL (s.drop a)).2.2, it 0]) rfl (fin _ _ _ ?_)
   simp only [rInt, h2, ne_eq, not_true_eq_false, not_false_eq_true, if_false, if_true]
 ·have h0 : e ≠ 0 := by simpa using he
  simp only [he, cells_agg, ssH, Nat.reduceAdd, Nat.reduceLeDiff, reduceIte, Nat.reduceEqDiff, Nat.reduceLT, Int.reduceBEq, Int.reduceBNe]
  refine bodyH_ret (v := .tup [rdV s a e, it 0]) rfl (fin _ _ _ ?_)
  simp only [rInt, h0, ne_eq, not_false_eq_true, if_true]
theorem zRCount_ok (s : List UInt8) (a : Nat) (e most : Int) (ha : a ≤ s.length) (hl : s.length < 4611686018427387904) : ACalls Tryz.prog Γ 113 [rdV s a e, it most] m fun o m' => o = .ret (.tup [rdV s (rCount s a e most).2.1 (rCount s a e most).2.2, it (rCount s a e most).1]) ∧ m' = m := by
 refine acalls_v (acalls_p mixed F113_ok F113_h gok_nil (by simp only [nb_rdV, nbS]) ?_)
 simp only [F113, rdV, ss0, Nat.reduceSub, Nat.reduceAdd]
 simp only [cells_agg, ssH, Nat.reduceAdd, Nat.reduceLeDiff, reduceIte, Nat.reduceEqDiff, Nat.reduceLT, Int.reduceBEq, Int.reduceBNe]
 have fin : ∀ (a' : Nat) (e' n : Int), rCount s a e most = (n, a', e') → nb 0 (.tup [rdV s a' e', it n]) ∧ V.tup [rdV s a' e', it n] = .tup [rdV s (rCount s a e most).2.1 (rCount s a e most).2.2, it (rCount s a e most).1] := by
  intro a' e' n h
  rw [h]
  exact ⟨by simp only [nb_rdV, nbS], rfl⟩
 cases he : (e != 0)
 ·have h0 : e = 0 := by simpa using he
  subst h0
  simp only [show ((0 : Int) != 0) = false from rfl, ssH, Nat.reduceAdd, Nat.reduceLeDiff, reduceIte, Nat.reduceEqDiff, Nat.reduceLT, Int.reduceBEq, Int.reduceBNe]
  refine hcall_pure (by exact fun m => zNumber_ok s a ha hl) (by first | exact LR.nil | simp only [nbS]) (by first | exact LR.nil | simp only [nbS]) ?_
  cases h1 : ((Av.numL (s.drop a)).2.2 != 0)
  ·have h2 : (Av.numL (s.drop a)).2.2 = 0 := by simpa using h1
   simp only [h1, cells_agg, ssH, Nat.reduceAdd, Nat.reduceLeDiff, reduceIte, Nat.reduceEqDiff, Nat.reduceLT, Int.reduceBEq, Int.reduceBNe]
   by_cases h3 : (Av.numL (s.drop a)).1 < 0
   ·simp only [decide_eq_true h3, cells_agg, ssH, Nat.reduceAdd, Nat.reduceLeDiff, reduceIte, Nat.reduceEqDiff, Nat.reduceLT, Int.reduceBEq, Int.reduceBNe]
    refine hcall_pure (by exact fun m => zWrong_ok s a 0 4) (by simp only [nbS]) nb_rdV ?_
    simp only [rdV, cells_agg, ssH, Nat.reduceAdd, Nat.reduceLeDiff, reduceIte, Nat.reduceEqDiff, Nat.reduceLT, Int.reduceBEq, Int.reduceBNe]
    refine bodyH_ret (v := .tup [rdV s a 4, it 0]) rfl (fin _ _ _ ?_)
    simp only [rCount, countL, h2, h3, ne_eq, not_true_eq_false, if_false, if_true]
    rfl
   ·simp only [decide_eq_false h3, eval_mm, q_mm, mm_max, ssH, Nat.reduceAdd, Nat.reduceLeDiff, reduceIte, Nat.reduceEqDiff, Nat.reduceLT, Int.reduceBEq, Int.reduceBNe]
    by_cases h4 : (Av.numL (s.drop a)).1 > max 0 most
    ·simp only [decide_eq_true h4, cells_agg, ssH, Nat.reduceAdd, Nat.reduceLeDiff, reduceIte, Nat.reduceEqDiff, Nat.reduceLT, Int.reduceBEq, Int.reduceBNe]
     refine hcall_pure (by exact fun m => zWrong_ok s a 0 5) (by simp only [nbS]) nb_rdV ?_
     simp only [rdV, cells_agg, ssH, Nat.reduceAdd, Nat.reduceLeDiff, reduceIte, Nat.reduceEqDiff, Nat.reduceLT, Int.reduceBEq, Int.reduceBNe]
     refine bodyH_ret (v := .tup [rdV s a 5, it 0]) rfl (fin _ _ _ ?_)
     simp only [rCount, countL, h2, ne_eq, not_true_eq_false, if_false, if_neg h3, if_pos h4]
     rfl
    ·simp only [decide_eq_false h4, cells_agg, ssH, Nat.reduceAdd, Nat.reduceLeDiff, reduceIte, Nat.reduceEqDiff, Nat.reduceLT, Int.reduceBEq, Int.reduceBNe]
     refine bodyH_ret (v := .tup [rdV s (behN s a) 0, it (Av.numL (s.drop a)).1]) rfl (fin _ _ _ ?_)
     simp only [rCount, countL, behN, h2, ne_eq, not_true_eq_false, if_false, if_true, if_neg h3, if_neg h4]
  ·have h2 : (Av.numL (s.drop a)).2.2 ≠ 0 := by simpa using h1
   simp only [h1, cells_agg, ssH, Nat.reduceAdd, Nat.reduceLeDiff, reduceIte, Nat.reduceEqDiff, Nat.reduceLT, Int.reduceBEq, Int.reduceBNe]
   refine hcall_pure (by exact fun m => zWrong_ok s a 0 (Av.numL (s.drop a)).2.2) (by simp only [nbS]) nb_rdV ?_
   simp only [rdV, cells_agg, ssH, Nat.reduceAdd, Nat.reduceLeDiff, reduceIte, Nat.reduceEqDiff, Nat.reduceLT, Int.reduceBEq, Int.reduceBNe]
   refine bodyH_ret (v := .tup [rdV s a (Av.numL (s.drop a)).2.2, it 0]) rfl (fin _ _ _ ?_)
   simp only [rCount, countL, h2, ne_eq, not_true_eq_false, not_false_eq_true, if_false, if_true]
 ·have h0 : e ≠ 0 := by simpa using he
  simp only [he, cells_agg, ssH, Nat.reduceAdd, Nat.reduceLeDiff, reduceIte, Nat.reduceEqDiff, Nat.reduceLT, Int.reduceBEq, Int.reduceBNe]
  refine bodyH_ret (v := .tup [rdV s a e, it 0]) rfl (fin _ _ _ ?_)
  simp only [rCount, h0, ne_eq, not_false_eq_true, if_true]
theorem zRText_ok (s : List UInt8) (a : Nat) (e most : Int) (ha : a ≤ s.length) (hl : s.length < 4611686018427387904) : ACalls Tryz.prog Γ 67 [rdV s a e, it most] m fun o m' => o = .ret (.tup [rdV s (rText s a e most).2.1 (rText s a e most).2.2, bs (rText s a e most).1]) ∧ m' = m := by
 refine acalls_v (acalls_p mixed F67_ok F67_h gok_nil (by simp only [nb_rdV, nbS]) ?_)
 simp only [F67, rdV, ss0, Nat.reduceSub, Nat.reduceAdd]
 simp only [cells_agg, ssH, Nat.reduceAdd, Nat.reduceLeDiff, reduceIte, Nat.reduceEqDiff, Nat.reduceLT, Int.reduceBEq, Int.reduceBNe]
 have fin : ∀ (a' : Nat) (e' : Int) (t : List UInt8), rText s a e most = (t, a', e') → nb 0 (.tup [rdV s a' e', bs t]) ∧ V.tup [rdV s a' e', bs t] = .tup [rdV s (rText s a e most).2.1 (rText s a e most).2.2, bs (rText s a e most).1] := by
  intro a' e' n h
  rw [h]
  exact ⟨by simp only [nb_rdV, nbS], rfl⟩
 refine hcall_pure (by exact fun m => zRCount_ok s a e most ha hl) (by simp only [nbS]) (by simp only [nb_rdV, nbS]) ?_
 have hle := rCount_le (s := s) (a := a) (e := e) (most := most) ha
 obtain ⟨c1, c2, c3⟩ := countL_le (s.drop a) most
 have hcase : rCount s a e most = (if e ≠ 0 then (0, a, e) else if (countL (s.drop a) most).2.2 ≠ 0 then (0, a, (countL (s.drop a) most).2.2) else ((countL (s.drop a) most).1, a + (countL (s.drop a) most).2.1, 0)) := rfl
 by_cases he : e = 0
 ·subst he
  by_cases h1 : (countL (s.drop a) most).2.2 = 0
  ·have hr : rCount s a 0 most = ((countL (s.drop a) most).1, a + (countL (s.drop a) most).2.1, 0) := by rw [hcase]; simp only [h1, ne_eq, not_true_eq_false, if_false]
   rw [hr] at hle ⊢
   simp only at hle
   have hw : IntKind.i64.wrap ((s.length : Int) - ((a + (countL (s.drop a) most).2.1 : Nat) : Int)) = (s.length : Int) - ((a + (countL (s.drop a) most).2.1 : Nat) : Int) := wrap_i64 (by omega) (by omega)
   simp only [rdV, cells_agg, show ((0 : Int) != 0) = false from rfl, lenV_bs, hw, gt_iff_lt, ssH, Nat.reduceAdd, Nat.reduceLeDiff, reduceIte, Nat.reduceEqDiff, Nat.reduceLT, Int.reduceBEq, Int.reduceBNe]
   by_cases h2 : (s.length : Int) - ((a + (countL (s.drop a) most).2.1 : Nat) : Int) < (countL (s.drop a) most).1
   ·simp only [decide_eq_true h2, cells_agg, ssH, Nat.reduceAdd, Nat.reduceLeDiff, reduceIte, Nat.reduceEqDiff, Nat.reduceLT, Int.reduceBEq, Int.reduceBNe]
    refine hcall_pure (by exact fun m => zWrong_ok s a 0 3) (by simp only [nbS]) nb_rdV ?_
    simp only [rdV, cells_agg, ssH, Nat.reduceAdd, Nat.reduceLeDiff, reduceIte, Nat.reduceEqDiff, Nat.reduceLT, Int.reduceBEq, Int.reduceBNe]
    refine bodyH_ret (v := .tup [rdV s a 3, bs []]) rfl (fin _ _ _ ?_)
    have h3 : (countL (s.drop a) most).1 > ((s.drop a).length : Int) - ((countL (s.drop a) most).2.1 : Int) := by rw [List.length_drop]; omega
    simp only [rText, textL, h1, h3, ne_eq, not_true_eq_false, if_false, if_true]
    rfl
   ·obtain ⟨n, hn⟩ : ∃ k : Nat, (countL (s.drop a) most).1 = (k : Int) := ⟨((countL (s.drop a) most).1).toNat, by omega⟩
    rw [List.length_drop] at c1
    have hw2 : IntKind.i64.wrap (((a + (countL (s.drop a) most).2.1 : Nat) : Int) + (n : Int)) = ((a + (countL (s.drop a) most).2.1 + n : Nat) : Int) := by
     rw [wrap_i64 (by omega) (by omega)]
     omega
    rw [hn] at h2 ⊢
    simp only [decide_eq_false h2, hw2, slice_bs (x := s) (a := a + (countL (s.drop a) most).2.1) (b := a + (countL (s.drop a) most).2.1 + n) (by omega) (by omega), cells_agg, ssH, Nat.reduceAdd, Nat.reduceLeDiff, reduceIte, Nat.reduceEqDiff, Nat.reduceLT, Int.reduceBEq, Int.reduceBNe]
    refine bodyH_ret (v := .tup [rdV s (a + (countL (s.drop a) most).2.1 + n) 0, bs ((s.take (a + (countL (s.drop a) most).2.1 + n)).drop (a + (countL (s.drop a) most).2.1))]) rfl (fin _ _ _ ?_)
    have h3 : ¬ (n : Int) > ((s.drop a).length : Int) - ((countL (s.drop a) most).2.1 : Int) := by rw [List.length_drop]; omega
    simp only [rText, textL, h1, hn, h3, ne_eq, not_true_eq_false, if_false, Int.toNat_natCast]
    refine Prod.ext ?_ (Prod.ext ?_ rfl)
    ·simp only
     rw [List.drop_drop, List.take_drop]
    ·simp only
     omega
  ·have hr : rCount s a 0 most = (0, a, (countL (s.drop a) most).2.2) := by rw [hcase]; simp only [h1, ne_eq, not_true_eq_false, not_false_eq_true, if_false, if_true]
   rw [hr]
   have hb : ((countL (s.drop a) most).2.2 != 0) = true := by simpa using h1
   simp only [rdV, cells_agg, hb, ssH, Nat.reduceAdd, Nat.reduceLeDiff, reduceIte, Nat.reduceEqDiff, Nat.reduceLT, Int.reduceBEq, Int.reduceBNe]
   refine bodyH_ret (v := .tup [rdV s a (countL (s.drop a) most).2.2, bs []]) rfl (fin _ _ _ ?_)
   simp only [rText, textL, h1, ne_eq, not_true_eq_false, not_false_eq_true, if_false, if_true]
 ·have hr : rCount s a e most = (0, a, e) := by rw [hcase]; simp only [he, ne_eq, not_false_eq_true, if_true]
  rw [hr]
  have hb : (e != 0) = true := by simpa using he
  simp only [rdV, cells_agg, hb, ssH, Nat.reduceAdd, Nat.reduceLeDiff, reduceIte, Nat.reduceEqDiff, Nat.reduceLT, Int.reduceBEq, Int.reduceBNe]
  refine bodyH_ret (v := .tup [rdV s a e, bs []]) rfl (fin _ _ _ ?_)
  simp only [rText, he, ne_eq, not_false_eq_true, if_true]
theorem zGet_ok (s : List UInt8) (a : Nat) (e : Int) (ha : a ≤ s.length) (hl : s.length < 4611686018427387904) : ACalls Tryz.prog Γ 24 [rdV s a e] m fun o m' => o = .ret (.tup [rdV s (getC s a e).2.1 (getC s a e).2.2, cmdT (getC s a e).1]) ∧ m' = m := by
 refine acalls_v (acalls_p mixed F24_ok F24_h gok_nil (by simp only [nb_rdV, nbS]) ?_)
 simp only [F24, rdV, ss0, Nat.reduceSub, Nat.reduceAdd]
 simp only [cells_agg, ssH, Nat.reduceAdd, Nat.reduceLeDiff, reduceIte, Nat.reduceEqDiff, Nat.reduceLT, Int.reduceBEq, Int.reduceBNe]
 obtain ⟨k, a1, e1, h1⟩ : ∃ k a1 e1, rInt s a e = (k, a1, e1) := ⟨_, _, _, rfl⟩
 have l1 := rInt_le (e := e) ha
 rw [h1] at l1
 obtain ⟨n, a2, e2, h2⟩ : ∃ n a2 e2, rInt s a1 e1 = (n, a2, e2) := ⟨_, _, _, rfl⟩
 have l2 := rInt_le (e := e1) l1
 rw [h2] at l2
 obtain ⟨t, a3, e3, h3⟩ : ∃ t a3 e3, rText s a2 e2 255 = (t, a3, e3) := ⟨_, _, _, rfl⟩
 have hg : getC s a e = ((if e3 ≠ 0 then (0, 0, []) else (k, n, t)), a3, e3) := by simp only [getC, h1, h2, h3]
 rw [hg]
 refine hcall_pure (by exact fun m => zRInt_ok s a e ha hl) (by simp only [nbS]) (by simp only [nb_rdV, nbS]) ?_
 simp only [h1, rdV, cells_agg, ssH, Nat.reduceAdd, Nat.reduceLeDiff, reduceIte, Nat.reduceEqDiff, Nat.reduceLT, Int.reduceBEq, Int.reduceBNe]
 refine hcall_pure (by exact fun m => zRInt_ok s a1 e1 l1 hl) (by simp only [nbS]) (by simp only [nb_rdV, nbS]) ?_
 simp only [h2, rdV, cells_agg, ssH, Nat.reduceAdd, Nat.reduceLeDiff, reduceIte, Nat.reduceEqDiff, Nat.reduceLT, Int.reduceBEq, Int.reduceBNe]
 refine hcall_pure (by exact fun m => zRText_ok s a2 e2 255 l2 hl) (by simp only [nbS]) (by simp only [nb_rdV, nbS]) ?_
 simp only [h3, rdV, cells_agg, ssH, Nat.reduceAdd, Nat.reduceLeDiff, reduceIte, Nat.reduceEqDiff, Nat.reduceLT, Int.reduceBEq, Int.reduceBNe]
 cases he : (e3 != 0)
 ·have h0 : e3 = 0 := by simpa using he
  subst h0
  simp only [show ((0 : Int) != 0) = false from rfl, cells_agg, ssH, Nat.reduceAdd, Nat.reduceLeDiff, reduceIte, Nat.reduceEqDiff, Nat.reduceLT, Int.reduceBEq, Int.reduceBNe]
  exact bodyH_ret (v := .tup [rdV s a3 0, .agg [it k, it n, bs t]]) rfl ⟨by simp only [nb_rdV, nbS], rfl⟩
 ·have h0 : e3 ≠ 0 := by simpa using he
  simp only [he, cells_agg, ssH, Nat.reduceAdd, Nat.reduceLeDiff, reduceIte, Nat.reduceEqDiff, Nat.reduceLT, Int.reduceBEq, Int.reduceBNe]
  refine bodyH_ret (v := .tup [rdV s a3 e3, .agg [it 0, it 0, bs []]]) rfl ⟨by simp only [nb_rdV, nbS], ?_⟩
  rw [if_pos h0]
  rfl
theorem zPut_ok {k n : Int} (hk : Av.I64 k) (hn : Av.I64 n) {s : List UInt8} (hs : s.length < 4611686018427387000) : ACalls Tryz.prog Γ 26 [.agg [it k, it n, bs s]] m fun o m' => o = .ret (bs (putC k n s)) ∧ m' = m := by
 refine acalls_v (acalls_p mixed F26_ok F26_h gok_nil (by first | exact LR.nil | simp only [nbS]) ?_)
 simp only [F26, ss0, Nat.reduceSub, Nat.reduceAdd]
 have h64 : Av.I64 (s.length : Int) := ⟨by omega, by omega⟩
 have l0 := uvarint_length64 (zigzag_u64 h64)
 have l1 := uvarint_length64 (zigzag_u64 hk)
 have l2 := uvarint_length64 (zigzag_u64 hn)
 simp only [cells_agg, ssH, Nat.reduceAdd, Nat.reduceLeDiff, reduceIte, Nat.reduceEqDiff, Nat.reduceLT, Int.reduceBEq, Int.reduceBNe]
 refine hcall_pure (by exact fun m => zInt_ok hk) (by first | exact LR.nil | simp only [nbS]) (by first | exact LR.nil | simp only [nbS]) ?_
 simp only [ssH, Nat.reduceAdd, Nat.reduceLeDiff, reduceIte, Nat.reduceEqDiff, Nat.reduceLT, Int.reduceBEq, Int.reduceBNe]
 refine hcall_pure (by exact fun m => zInt_ok hn) (by first | exact LR.nil | simp only [nbS]) (by first | exact LR.nil | simp only [nbS]) ?_
 simp only [bs_add (show (uvarint (zigzag k)).length + (uvarint (zigzag n)).length ≤ 9223372036854775807 by omega), ssH, Nat.reduceAdd, Nat.reduceLeDiff, reduceIte, Nat.reduceEqDiff, Nat.reduceLT, Int.reduceBEq, Int.reduceBNe]
 refine hcall_pure (by exact fun m => zText_ok s (by omega)) (by first | exact LR.nil | simp only [nbS]) (by first | exact LR.nil | simp only [nbS]) ?_
 simp only [bs_add (show (uvarint (zigzag k) ++ uvarint (zigzag n)).length + (uvarint (zigzag s.length) ++ s).length ≤ 9223372036854775807 by simp only [List.length_append]; omega), ssH, Nat.reduceAdd, Nat.reduceLeDiff, reduceIte, Nat.reduceEqDiff, Nat.reduceLT, Int.reduceBEq, Int.reduceBNe]
 exact bodyH_ret resV_one ⟨(by simp only [tget_zero, tget_succ, nbS]), rfl⟩
end
end Go.Av.Fn
/- Commands that are put are got as they were: the statement's function, walked. Conditions as ahead. -/
namespace Go.Av.Fn
set_option linter.unusedSimpArgs false
set_option linter.unusedVariables false
set_option maxRecDepth 10000
open Go.Proofs
end Go.Av.Fn
/- Commands printed are parsed as they were; what is parsed is printed as it stood: plain laws. No condition. -/
namespace Go.Av.Fn
set_option linter.unusedSimpArgs false
set_option linter.unusedVariables false
open Go.Lib
/-! ### Cuts -/
/-! ### Forms -/
/-! ### What is parsed -/
end Go.Av.Fn
/- A command that is printed is parsed as it was: plain laws. No condition. -/
namespace Go.Av.Fn
set_option linter.unusedSimpArgs false
set_option linter.unusedVariables false
open Go.Lib
end Go.Av.Fn
/- A command that is printed is parsed as it was; what is parsed is printed as it stood: the statement's function, walked. Conditions as ahead; numbers are written. -/
namespace Go.Av.Fn
set_option linter.unusedSimpArgs false
set_option linter.unusedVariables false
set_option maxRecDepth 10000
open Go.Proofs
def FmtAll (Γ : Glob) : Prop := ∀ n : Int, -9223372036854775808 ≤ n → n ≤ 9223372036854775807 → FmtAt Γ n
theorem FmtAll.num {Γ : Glob} (h : FmtAll Γ) (s : List UInt8) : FmtNum Γ s := by
 intro n hn
 have := Lib.parseIntB_bounds hn
 exact h n (by have := this.1; simpa using this) (by have := this.2; simp at this; omega)
theorem fin6 {t : List V} {h : Hl} {i : Nat} (ht : tget t i = .val (.bool true)) : bodyH [ARes.tmp i] (fun v _ => nb 0 v ∧ v = .val (.bool true)) .ret ⟨t, h⟩ :=
 bodyH_ret resV_one ⟨by rw [show (⟨t, lk h⟩ : St).t = t from rfl, ht]; exact .val _, ht⟩
end Go.Av.Fn
/- Any command has the bytes, and any bytes are the command, that the document says: the law. Conditions: az ahead. -/
namespace Go.Av
section
variable {P : Program} {Γ : Glob} {Kp : V → Hl → Prop} {l : List Item} {K : HS → Prop} {t : List V} {h : Hl} {d : Option Tmp} {s : List (Tmp × Option (Tmp × Bool) × AOp)} {g : FuncId} {first args caps : List V}
theorem hcall_bufg {e : TypeId} {size : Nat} {az es2 : List V} (hl : h.length < 1000000) (he : first ++ args ++ caps = az) (hne : es2 ≠ [])
  (hA : ∀ m, ACalls P Γ g az m fun o m2 => ∃ v2, o = .ret v2 ∧ Buf e size m m2 v2 es2) (ha : nbs 0 az) (h2 : nbs 0 es2)
  (hr : ∀ k, hth P Γ Kp s l K (hput t (h ++ [some (.tip e k)]) d (some (.sl es2 [] (.tip h.length k))))) : hcallS P Γ Kp (.fn (.func g) first caps) args d s l K t h := by
 intro R args' m' rl H
 rw [he] at rl
 obtain rfl := nbs_eq ha rl
 refine (hA m').mono ?_
 rintro o m2 ⟨v2, rfl, hb, (⟨q, _⟩ | ⟨_, b, k, q1, rfl, rfl⟩)⟩
 ·exact absurd q hne
 ·exact ⟨R.add h.length b, .ret _, _, R.le_add _ _, H.push (x := .tip e k) (x' := .tip e k) q1 hl ⟨rfl, rfl⟩, VR.sl (k := .tip h.length k) (k' := .tip b k) (h2.up _) .nil ⟨.inr ⟨rfl, rfl⟩, rfl⟩, hr k⟩
theorem relFull {G : Gh} {es : List V} {u : Value} (h : RelV G (.sl es [] .own) u) : RelV G (.sl es [] .full) u := by
 cases h with
 | nil h => cases h
 | sl a b c d e f => exact .sl a b c d e f.1
theorem acalls_less {f : FuncId} {args args' : List V} {m : Store} {R : Out → Store → Prop} (h : ∀ G cargs, RelL G args cargs → RelL G args' cargs) (hc : ACalls P Γ f args' m R) : ACalls P Γ f args m R :=
 ⟨hc.1, fun G B0 mF w cargs hD hR hL => hc.2 G B0 mF w cargs hD hR (h G cargs hL)⟩
end
end Go.Av
namespace Go.Av.Fn
set_option linter.unusedSimpArgs false
set_option linter.unusedVariables false
set_option maxRecDepth 10000
open Go.Proofs
theorem putx {Γ : Glob} {k n : Int} {t : List UInt8} (hk : Av.I64 k) (hn : Av.I64 n) (hl : t.length ≤ 140737488351232) (m : Store) :
  ACalls Tryz.prog Γ 25 [.sl [by8 120] [] .own, cmdV k n t] m fun o m2 => ∃ v2, o = .ret v2 ∧ Buf 5 1 m m2 v2 ((120 :: putC k n t).map by8) := by
 have := put_ok (Γ := Γ) (m := m) (m' := m) (v := .sl [by8 120] [] .full) (l := [120]) (t := t) (k := k) (n := n) (.inr ⟨rfl, rfl, rfl⟩) hk hn (by simp; omega) (by simp)
 refine acalls_less (fun G cargs h => ?_) this
 cases h with
 | cons a b => exact .cons (relFull a) b
theorem lit_x {Γ : Glob} {t : List V} {m : Store} : evalL Tryz.prog (ev Γ t) m (.lits 1 [.val (.int .u8 0)] 1 [(0, .const (.int .u8 120))]) = some (.sl [by8 120] [] .own) := rfl
theorem bs_cons_add {P : Program} {T : TypeId} {xo yo : Operand} (z : List UInt8) (h : z.length ≤ 1000000000000000000) : binV P .add T .other xo yo (.val (.string (ByteArray.mk #[120]))) (bs z) = some (bs (120 :: z)) := bs_add (x := [120]) (y := z) (by simp; omega)
theorem bs_cons_add2 {P : Program} {T : TypeId} {xo yo : Operand} (z : List UInt8) (h : z.length ≤ 1000000000000000000) : binV P .add T .other xo yo (bs [120]) (bs z) = some (bs (120 :: z)) := bs_add (x := [120]) (y := z) (by simp; omega)
theorem getC_le {s : List UInt8} {a : Nat} {e : Int} (ha : a ≤ s.length) : (getC s a e).2.1 ≤ s.length := by
 unfold getC
 exact rText_le (rInt_le (rInt_le ha))
theorem app_bytes {Γ : Glob} {Kp : V → Hl → Prop} {h : Hl} {t : List V} {l : List Item} {K : HS → Prop} {d : Option Tmp} {s : List (Tmp × Option (Tmp × Bool) × AOp)} (a : List UInt8) (ha : a.length ≤ 140737488351232) (hh : h.length < 1000000)
  (h0 : a = [] → hth Tryz.prog Γ Kp s l K (hput t h d (some (.sl (a.map by8) [] (.zero true)))))
  (h1 : a ≠ [] → hth Tryz.prog Γ Kp s l K (hput t (h ++ [some (.tip 5 0)]) d (some (.sl (a.map by8) [] (.tip h.length 0))))) : happS Tryz.prog Γ Kp 5 1 1 (.sl [] [] (.zero true)) (.sl (a.map by8) [] .no) d s l K t h := by
 by_cases e : a = []
 ·subst e
  exact happ_none rfl (h0 rfl)
 ·refine happ_zero (ys := a.map by8) rfl (by simpa using e) hh rfl (elemsB_by8 a) (by simp only [List.length_map, List.length_nil]; omega) ?_
  simpa using h1 e
set_option maxHeartbeats 1600000 in
theorem commandGets_ok {Γ : Glob} {m : Store} (E : Env2 Γ) (k n : Int) (s l : List UInt8) (hk : Av.I64 k) (hn : Av.I64 n) (hs : s.length ≤ 140737488351232) (hl : l.length ≤ 140737488351232) :
  ACalls Tryz.prog Γ 6 [cmdV k n s, .sl (l.map by8) [] .no] m fun o m' => o = .ret (.val (.bool true)) ∧ m' = m := by
 refine acalls_v (acalls_p mixed F6_ok F6_h gok_nil (by simp only [nb_cmdV, nbS]) ?_)
 simp only [F6, cmdV, ss0, Nat.reduceSub, Nat.reduceAdd]
 simp only [lits_zero, ssH, Nat.reduceAdd, Nat.reduceLeDiff, reduceIte, Nat.reduceEqDiff, Nat.reduceLT, Int.reduceBEq, Int.reduceBNe]
 have hlen := putC_len (k := k) (n := n) hk hn (t := s) (by omega)
 have ha1 : (getC l 0 0).2.1 ≤ l.length := getC_le (Nat.zero_le _)
 obtain ⟨⟨k1, n1, s1⟩, a1, e1, g1⟩ : ∃ c a1 e1, getC l 0 0 = (c, a1, e1) := ⟨_, _, _, rfl⟩
 rw [g1] at ha1
 simp only at ha1
 have ha2 : (getC l a1 e1).2.1 ≤ l.length := getC_le ha1
 obtain ⟨⟨k2, n2, s2⟩, a2, e2, g2⟩ : ∃ c a2 e2, getC l a1 e1 = (c, a2, e2) := ⟨_, _, _, rfl⟩
 have hput := putx (Γ := Γ) (n := n) hk hn hs
 have hx : (120 :: putC k n s).map by8 ≠ [] := by simp
 have hbx : ∀ tk, b2sV (.sl (by8 120 :: (putC k n s).map by8) [] tk) = some (bs (120 :: putC k n s)) := fun tk => b2s_bs (l := 120 :: putC k n s)
 refine app_bytes l hl (by simp only [List.length_cons, List.length_nil, Nat.reduceAdd, Nat.reduceLT]) (fun h0 => ?_) (fun h0 => ?_)
 ·simp only [ssH, Nat.reduceAdd, Nat.reduceLeDiff, reduceIte, Nat.reduceEqDiff, Nat.reduceLT, Int.reduceBEq, Int.reduceBNe]
  refine hcall_newsl (Y := rdB l 0 0) (by simp only [List.length_cons, List.length_nil, Nat.reduceAdd, Nat.reduceLT]) rfl (fun m tok => wNew_ok) (nbs_map_by8 _) (by first | exact LR.nil | simp only [nbS]) (by first | exact LR.nil | simp only [nbS]) nb_rdB ?_
  simp only [ptr_nn, ssH, Nat.reduceAdd, Nat.reduceLeDiff, reduceIte, Nat.reduceEqDiff, Nat.reduceLT, Int.reduceBEq, Int.reduceBNe]
  refine hcall_cell (b := 1) (X := rdB l 0 0) rfl rfl (fun m b' h => get_ok E.env.lib h (Nat.zero_le _) (by omega)) nb_rdB nb_rdB (by first | exact LR.nil | simp only [nbS]) (nb_cmdT _) ?_
  simp only [g1, cmdT, cmdV, cells_agg, eval_b2s, b2s_bs, ssH, Nat.reduceAdd, Nat.reduceLeDiff, reduceIte, Nat.reduceEqDiff, Nat.reduceLT, Int.reduceBEq, Int.reduceBNe]
  refine hcall_pure (by exact fun m => zGet_ok l 0 0 (Nat.zero_le _) (by omega)) (by simp only [nbS]) (by simp only [nb_rdV, nb_cmdT, nbS]) ?_
  simp only [g1, rdV, cmdT, cmdV, cells_agg, ssH, Nat.reduceAdd, Nat.reduceLeDiff, reduceIte, Nat.reduceEqDiff, Nat.reduceLT, Int.reduceBEq, Int.reduceBNe]
  refine hcall_cell (b := 1) (X := rdB l a1 e1) rfl rfl (fun m b' h => get_ok E.env.lib h ha1 (by omega)) nb_rdB nb_rdB (by first | exact LR.nil | simp only [nbS]) (nb_cmdT _) ?_
  simp only [g2, cmdT, cmdV, cells_agg, ssH, Nat.reduceAdd, Nat.reduceLeDiff, reduceIte, Nat.reduceEqDiff, Nat.reduceLT, Int.reduceBEq, Int.reduceBNe]
  refine hcall_pure (by exact fun m => zGet_ok l a1 e1 ha1 (by omega)) (by simp only [nbS]) (by simp only [nb_rdV, nb_cmdT, nbS]) ?_
  simp only [g2, rdV, cmdT, cmdV, lit_x, cells_agg, ssH, Nat.reduceAdd, Nat.reduceLeDiff, reduceIte, Nat.reduceEqDiff, Nat.reduceLT, Int.reduceBEq, Int.reduceBNe]
  refine hcall_bufg (e := 5) (size := 1) (by simp only [List.length_cons, List.length_nil, Nat.reduceAdd, Nat.reduceLT]) rfl hx hput (by simp only [cmdV, nbS]) (nbs_map_by8 _) (fun j => ?_)
  simp only [eval_b2s, hbx, cells_agg, ssH, Nat.reduceAdd, Nat.reduceLeDiff, reduceIte, Nat.reduceEqDiff, Nat.reduceLT, Int.reduceBEq, Int.reduceBNe]
  refine hcall_pure (by exact fun m => zPut_ok (s := s) hk hn (by omega)) (by first | exact LR.nil | simp only [nbS]) (by first | exact LR.nil | simp only [nbS]) ?_
  simp only [bs_cons_add _ (show (putC k n s).length ≤ 1000000000000000000 by omega), bs_cons_add2 _ (show (putC k n s).length ≤ 1000000000000000000 by omega), cmd_eq, beq_self_eq_true, and_self, decide_true, ssH, Nat.reduceAdd, Nat.reduceLeDiff, reduceIte, Nat.reduceEqDiff, Nat.reduceLT, Int.reduceBEq, Int.reduceBNe]
  refine hcall_look (b := 1) rfl rfl (fun m b' h => wAt_ok h) nb_rdB (by first | exact LR.nil | simp only [nbS]) (by first | exact LR.nil | simp only [nbS]) ?_
  simp only [beq_self_eq_true, ssH, Nat.reduceAdd, Nat.reduceLeDiff, reduceIte, Nat.reduceEqDiff, Nat.reduceLT, Int.reduceBEq, Int.reduceBNe]
  refine ⟨by first | exact rfl | exact fun _ => rfl, ?_⟩
  first | simp only [beq_self_eq_true, ssH, Nat.reduceAdd, Nat.reduceLeDiff, reduceIte, Nat.reduceEqDiff, Nat.reduceLT, Int.reduceBEq, Int.reduceBNe] | skip
  refine hcall_look (b := 1) rfl rfl (fun m b' h => wErr_ok h) nb_rdB (by first | exact LR.nil | simp only [nbS]) (by first | exact LR.nil | simp only [nbS]) ?_
  simp only [beq_self_eq_true, ssH, Nat.reduceAdd, Nat.reduceLeDiff, reduceIte, Nat.reduceEqDiff, Nat.reduceLT, Int.reduceBEq, Int.reduceBNe]
  refine ⟨by first | exact rfl | exact fun _ => rfl, ?_⟩
  first | simp only [beq_self_eq_true, ssH, Nat.reduceAdd, Nat.reduceLeDiff, reduceIte, Nat.reduceEqDiff, Nat.reduceLT, Int.reduceBEq, Int.reduceBNe] | skip
  refine hcall_pure (v := .val (.bool true)) (by exact fun m => lives17_ok E) (by first | exact LR.nil | simp only [nbS]) (by first | exact LR.nil | simp only [nbS]) ?_
  simp only [ssH, Nat.reduceAdd, Nat.reduceLeDiff, reduceIte, Nat.reduceEqDiff, Nat.reduceLT, Int.reduceBEq, Int.reduceBNe]
  exact fin6 rfl
 ·simp only [ssH, Nat.reduceAdd, Nat.reduceLeDiff, reduceIte, Nat.reduceEqDiff, Nat.reduceLT, Int.reduceBEq, Int.reduceBNe]
  refine hcall_newsl (Y := rdB l 0 0) (by simp only [List.length_cons, List.length_nil, Nat.reduceAdd, Nat.reduceLT]) rfl (fun m tok => wNew_ok) (nbs_map_by8 _) (by first | exact LR.nil | simp only [nbS]) (by first | exact LR.nil | simp only [nbS]) nb_rdB ?_
  simp only [ptr_nn, ssH, Nat.reduceAdd, Nat.reduceLeDiff, reduceIte, Nat.reduceEqDiff, Nat.reduceLT, Int.reduceBEq, Int.reduceBNe]
  refine hcall_cell (b := 2) (X := rdB l 0 0) rfl rfl (fun m b' h => get_ok E.env.lib h (Nat.zero_le _) (by omega)) nb_rdB nb_rdB (by first | exact LR.nil | simp only [nbS]) (nb_cmdT _) ?_
  simp only [g1, cmdT, cmdV, cells_agg, eval_b2s, b2s_bs, ssH, Nat.reduceAdd, Nat.reduceLeDiff, reduceIte, Nat.reduceEqDiff, Nat.reduceLT, Int.reduceBEq, Int.reduceBNe]
  refine hcall_pure (by exact fun m => zGet_ok l 0 0 (Nat.zero_le _) (by omega)) (by simp only [nbS]) (by simp only [nb_rdV, nb_cmdT, nbS]) ?_
  simp only [g1, rdV, cmdT, cmdV, cells_agg, ssH, Nat.reduceAdd, Nat.reduceLeDiff, reduceIte, Nat.reduceEqDiff, Nat.reduceLT, Int.reduceBEq, Int.reduceBNe]
  refine hcall_cell (b := 2) (X := rdB l a1 e1) rfl rfl (fun m b' h => get_ok E.env.lib h ha1 (by omega)) nb_rdB nb_rdB (by first | exact LR.nil | simp only [nbS]) (nb_cmdT _) ?_
  simp only [g2, cmdT, cmdV, cells_agg, ssH, Nat.reduceAdd, Nat.reduceLeDiff, reduceIte, Nat.reduceEqDiff, Nat.reduceLT, Int.reduceBEq, Int.reduceBNe]
  refine hcall_pure (by exact fun m => zGet_ok l a1 e1 ha1 (by omega)) (by simp only [nbS]) (by simp only [nb_rdV, nb_cmdT, nbS]) ?_
  simp only [g2, rdV, cmdT, cmdV, lit_x, cells_agg, ssH, Nat.reduceAdd, Nat.reduceLeDiff, reduceIte, Nat.reduceEqDiff, Nat.reduceLT, Int.reduceBEq, Int.reduceBNe]
  refine hcall_bufg (e := 5) (size := 1) (by simp only [List.length_cons, List.length_nil, Nat.reduceAdd, Nat.reduceLT]) rfl hx hput (by simp only [cmdV, nbS]) (nbs_map_by8 _) (fun j => ?_)
  simp only [eval_b2s, hbx, cells_agg, ssH, Nat.reduceAdd, Nat.reduceLeDiff, reduceIte, Nat.reduceEqDiff, Nat.reduceLT, Int.reduceBEq, Int.reduceBNe]
  refine hcall_pure (by exact fun m => zPut_ok (s := s) hk hn (by omega)) (by first | exact LR.nil | simp only [nbS]) (by first | exact LR.nil | simp only [nbS]) ?_
  simp only [bs_cons_add _ (show (putC k n s).length ≤ 1000000000000000000 by omega), bs_cons_add2 _ (show (putC k n s).length ≤ 1000000000000000000 by omega), cmd_eq, beq_self_eq_true, and_self, decide_true, ssH, Nat.reduceAdd, Nat.reduceLeDiff, reduceIte, Nat.reduceEqDiff, Nat.reduceLT, Int.reduceBEq, Int.reduceBNe]
  refine hcall_look (b := 2) rfl rfl (fun m b' h => wAt_ok h) nb_rdB (by first | exact LR.nil | simp only [nbS]) (by first | exact LR.nil | simp only [nbS]) ?_
  simp only [beq_self_eq_true, ssH, Nat.reduceAdd, Nat.reduceLeDiff, reduceIte, Nat.reduceEqDiff, Nat.reduceLT, Int.reduceBEq, Int.reduceBNe]
  refine ⟨by first | exact rfl | exact fun _ => rfl, ?_⟩
  first | simp only [beq_self_eq_true, ssH, Nat.reduceAdd, Nat.reduceLeDiff, reduceIte, Nat.reduceEqDiff, Nat.reduceLT, Int.reduceBEq, Int.reduceBNe] | skip
  refine hcall_look (b := 2) rfl rfl (fun m b' h => wErr_ok h) nb_rdB (by first | exact LR.nil | simp only [nbS]) (by first | exact LR.nil | simp only [nbS]) ?_
  simp only [beq_self_eq_true, ssH, Nat.reduceAdd, Nat.reduceLeDiff, reduceIte, Nat.reduceEqDiff, Nat.reduceLT, Int.reduceBEq, Int.reduceBNe]
  refine ⟨by first | exact rfl | exact fun _ => rfl, ?_⟩
  first | simp only [beq_self_eq_true, ssH, Nat.reduceAdd, Nat.reduceLeDiff, reduceIte, Nat.reduceEqDiff, Nat.reduceLT, Int.reduceBEq, Int.reduceBNe] | skip
  refine hcall_pure (v := .val (.bool true)) (by exact fun m => lives17_ok E) (by first | exact LR.nil | simp only [nbS]) (by first | exact LR.nil | simp only [nbS]) ?_
  simp only [ssH, Nat.reduceAdd, Nat.reduceLeDiff, reduceIte, Nat.reduceEqDiff, Nat.reduceLT, Int.reduceBEq, Int.reduceBNe]
  exact fin6 rfl
end Go.Av.Fn
