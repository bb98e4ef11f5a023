/- The document's examples of chapter 17: the program tells them. Conditions: the library's functions, and what some variables hold. -/
import Derived.LaidHandle
import Derived.Test.YtfanfdflpakjeaaGreatDoorCards
import Derived.Test.YtfanfdflpakjeaaGreatDoorTie
import Derived.Test.YtfanfdflpakjeaaGreatDoorTW9
namespace Go.Av.Fn
set_option linter.unusedSimpArgs false
set_option linter.unusedVariables false
set_option maxRecDepth 10000
open Go.Proofs

theorem cmd_eq (xo yo : Operand) (k n k' n' : Int) (s s' : List UInt8) : binV Tryz.prog .eql 24 .other xo yo (.agg [it k, it n, bs s]) (.agg [it k', it n', bs s']) = some (.val (.bool (decide (k = k' ∧ n = n' ∧ s = s')))) := by
  have h := (struct_eq (P := Tryz.prog) (T := 24) (xo := xo) (yo := yo) (cs := [it k, it n, bs s]) (cs' := [it k', it n', bs s'])
    (xs := [.int .i64 k, .int .i64 n, .string ⟨s.toArray⟩]) (ys := [.int .i64 k', .int .i64 n', .string ⟨s'.toArray⟩])
    (r := (k == k' && (n == n' && ((ByteArray.mk s.toArray).toList == (ByteArray.mk s'.toArray).toList && true))))
    (by kernel_rfl) (by kernel_rfl) (by kernel_rfl) rfl rfl (by kernel_rfl)).1
  have e : (k == k' && (n == n' && ((ByteArray.mk s.toArray).toList == (ByteArray.mk s'.toArray).toList && true))) = decide (k = k' ∧ n = n' ∧ s = s') := by
    rw [ba_toList, ba_toList, Bool.eq_iff_iff]
    simp
  rw [e] at h
  exact h
theorem fmtNum_of {Γ : Glob} {rest : List UInt8} {i : Nat} (h : Lib.parseIntB 64 (cutB rest).1 = .ok (i : Int)) (hi : i < 100) : FmtNum Γ rest := by
  intro n hn
  rw [h] at hn
  cases hn
  exact fmt_small i hi

section
variable {Γ : Glob} {m : Store}
theorem is17_ok (E : Env2 Γ) (s : List UInt8) (hs : s.length ≤ 281474976710656) (hf : (cutB s).2.2 = true → FmtNum Γ (cutB s).2.1) {k n e : Int} {t : List UInt8} (h : parseV s = .tup [cmdV k n t, it e]) :
    ACalls Tryz.prog Γ 61 [bs s, cmdV k n t, it e] m fun o m' => o = .ret (.val (.bool true)) ∧ m' = m := by
  refine ACalls.less (A := fun o m' => o = .ret (.val (.bool true)) ∧ SubS m m') ?_ fun o m' h => ⟨m, h.2, h.1, rfl⟩
  refine acalls_of_awp mixed F61_ok (by rintro v m b x _ ⟨⟨⟩, _⟩) ?_
  simp only [F61, cmdV, start, List.cons_append, List.nil_append, List.length_cons, List.length_nil, List.replicate, Nat.reduceSub, Nat.reduceAdd]
  simp only [ssS, bin_or, bin_and, Nat.reduceAdd, Nat.reduceLeDiff, reduceIte, eq_self, Nat.reduceEqDiff]
  refine allocS_of fun b4 hb4 => ?_
  simp only [ssS, bin_or, bin_and, Nat.reduceAdd, Nat.reduceLeDiff, reduceIte, eq_self, Nat.reduceEqDiff]
  refine callS_pure (parse_ok E s hs hf) ?_
  simp only [h, cmdV, ssS, bin_or, bin_and, Nat.reduceAdd, Nat.reduceLeDiff, reduceIte, eq_self, Nat.reduceEqDiff]
  refine allocS_of fun b7 hb7 => ?_
  have h47 : b4 ≠ b7 := ne_of_some (Store.set_same _ _ _) hb7
  simp only [Store.set_same, Store.set_set, Store.set_ne _ _ h47, cmd_eq, and_self, decide_true, show (e == e) = true from beq_self_eq_true e, ssS, bin_or, bin_and, Nat.reduceAdd, Nat.reduceLeDiff, reduceIte, eq_self, Nat.reduceEqDiff]
  refine bodyA_ret resV_one ⟨rfl, ?_⟩
  exact ((SubS.refl m).out hb4 _).out (by rw [Store.set_ne _ _ h47.symm] at hb7; exact hb7) _

theorem pv_some {s : List UInt8} {k n : Int} {t : List UInt8} (h : parseC s = some (k, n, t)) : parseV s = .tup [cmdV k n t, it 0] := by
  unfold parseV
  rw [h]
theorem pv_none {s : List UInt8} (h : parseC s = none) : parseV s = .tup [cmdV 0 0 [], it 6] := by
  unfold parseV
  rw [h]
theorem lives17_ok (E : Env2 Γ) : ACalls Tryz.prog Γ 17 [] m fun o m' => o = .ret (.val (.bool true)) ∧ m' = m := by
  refine acalls_of_awp mixed F17_ok (by rintro v m b x _ ⟨⟨⟩, _⟩) ?_
  simp only [F17, start, List.cons_append, List.nil_append, List.length_cons, List.length_nil, List.replicate, Nat.reduceSub, Nat.reduceAdd]
  simp only [ssS, bin_or, bin_and, Nat.reduceAdd, Nat.reduceLeDiff, reduceIte, eq_self, Nat.reduceEqDiff]
  refine callS_pure (print_ok E.env 10 12 [97, 32, 62, 32, 49] (fun _ _ => fmt_small 12 (by decide))) ?_
  rw [ex9, ex10]
  simp only [if_true, ssS, bin_or, bin_and, Nat.reduceAdd, Nat.reduceLeDiff, reduceIte, eq_self, Nat.reduceEqDiff]
  refine callS_pure (is17_ok E [98, 97, 99, 107, 45, 115, 116, 101, 112] (by decide) (fun h => absurd h (by decide)) (pv_some ex1)) ?_
  simp only [ssS, bin_or, bin_and, Nat.reduceAdd, Nat.reduceLeDiff, reduceIte, eq_self, Nat.reduceEqDiff]
  refine callS_pure (is17_ok E [98, 114, 101, 97, 107, 32, 49, 50, 32, 105, 102, 32, 97, 32, 62, 32, 49] (by decide) (fun h => fmtNum_of (i := 12) (by kernel_rfl) (by decide)) (pv_some ex2)) ?_
  simp only [ssS, bin_or, bin_and, Nat.reduceAdd, Nat.reduceLeDiff, reduceIte, eq_self, Nat.reduceEqDiff]
  refine callS_pure (is17_ok E [103, 111, 116, 111, 32, 48] (by decide) (fun h => fmtNum_of (i := 0) (by kernel_rfl) (by decide)) (pv_some ex3)) ?_
  simp only [ssS, bin_or, bin_and, Nat.reduceAdd, Nat.reduceLeDiff, reduceIte, eq_self, Nat.reduceEqDiff]
  refine callS_pure (is17_ok E [103, 111, 116, 111, 32, 48, 49] (by decide) (fun h => fmtNum_of (i := 1) (by kernel_rfl) (by decide)) (pv_none ex4)) ?_
  simp only [ssS, bin_or, bin_and, Nat.reduceAdd, Nat.reduceLeDiff, reduceIte, eq_self, Nat.reduceEqDiff]
  refine callS_pure (is17_ok E [103, 111, 116, 111] (by decide) (fun h => absurd h (by decide)) (pv_none ex5)) ?_
  simp only [ssS, bin_or, bin_and, Nat.reduceAdd, Nat.reduceLeDiff, reduceIte, eq_self, Nat.reduceEqDiff]
  refine callS_pure (is17_ok E [115, 116, 101, 112, 32, 49] (by decide) (fun h => fmtNum_of (i := 1) (by kernel_rfl) (by decide)) (pv_none ex6)) ?_
  simp only [ssS, bin_or, bin_and, Nat.reduceAdd, Nat.reduceLeDiff, reduceIte, eq_self, Nat.reduceEqDiff]
  refine callS_pure (is17_ok E [98, 114, 101, 97, 107, 32, 49, 32, 105, 102] (by decide) (fun h => fmtNum_of (i := 1) (by kernel_rfl) (by decide)) (pv_none ex7)) ?_
  simp only [ssS, bin_or, bin_and, Nat.reduceAdd, Nat.reduceLeDiff, reduceIte, eq_self, Nat.reduceEqDiff]
  refine callS_pure (is17_ok E [112, 114, 105, 110, 116, 32, 49, 32, 43] (by decide) (fun h => fmtNum_of (i := 1) (by kernel_rfl) (by decide)) (pv_none ex8)) ?_
  simp only [show (([98, 114, 101, 97, 107, 32, 49, 50, 32, 105, 102, 32, 97, 32, 62, 32, 49] : List UInt8) == [98, 114, 101, 97, 107, 32, 49, 50, 32, 105, 102, 32, 97, 32, 62, 32, 49]) = true from by decide, show ((0 : Int) == 0) = true from rfl, ssS, bin_or, bin_and, Nat.reduceAdd, Nat.reduceLeDiff, reduceIte, eq_self, Nat.reduceEqDiff]
  exact bodyA_ret resV_one ⟨rfl, rfl⟩
end
end Go.Av.Fn
/- Commands put, and got. Conditions as ahead. -/
namespace Go.Av.Fn
set_option linter.unusedSimpArgs false
set_option linter.unusedVariables false
set_option maxRecDepth 10000
open Go.Proofs

/-- A command got: it, where the reader stands then, what went wrong. -/
def getC (s : List UInt8) (a : Nat) (e : Int) : (Int × Int × List UInt8) × Nat × Int :=
  let k := rInt s a e
  let n := rInt s k.2.1 k.2.2
  let t := rText s n.2.1 n.2.2 255
  (if t.2.2 ≠ 0 then (0, 0, []) else (k.1, n.1, t.1), t.2.1, t.2.2)
def cmdT (c : Int × Int × List UInt8) : V := cmdV c.1 c.2.1 c.2.2
/-- A command's bytes. -/
def putC (k n : Int) (s : List UInt8) : List UInt8 := Lib.uvarint (Lib.zigzag k) ++ Lib.uvarint (Lib.zigzag n) ++ (Lib.uvarint (Lib.zigzag s.length) ++ s)

section
variable {Γ : Glob} {m : Store} {rb a : Nat} {s : List UInt8} {e : Int}
theorem get_nil : ACalls Tryz.prog Γ 23 [.val (.pointer none)] m fun o m' => o = .ret (cmdV 0 0 []) ∧ m' = m := by
  refine ACalls.less (A := fun o m' => o = .ret (cmdV 0 0 []) ∧ SubS m m') ?_ fun o m' h => ⟨_, h.2, h.1, rfl⟩
  refine acalls_of_awp mixed F23_ok (by rintro v m b x _ ⟨⟨⟩, _⟩) ?_
  simp only [F23, start, List.cons_append, List.nil_append, List.length_cons, List.length_nil, List.replicate, Nat.reduceSub, Nat.reduceAdd]
  simp only [ssS, bin_or, bin_and, Nat.reduceAdd, Nat.reduceLeDiff, reduceIte, eq_self, Nat.reduceEqDiff]
  refine allocS_of fun b2 hb2 => ?_
  simp only [ssS, bin_or, bin_and, Nat.reduceAdd, Nat.reduceLeDiff, reduceIte, eq_self, Nat.reduceEqDiff]
  refine callS_pure rInt_nil ?_
  simp only [ssS, bin_or, bin_and, Nat.reduceAdd, Nat.reduceLeDiff, reduceIte, eq_self, Nat.reduceEqDiff]
  refine allocS_of fun b3 hb3 => ?_
  have h23 : b2 ≠ b3 := ne_of_some (Store.set_same _ _ _) hb3
  simp only [Store.set_same, Store.set_set, ssS, bin_or, bin_and, Nat.reduceAdd, Nat.reduceLeDiff, reduceIte, eq_self, Nat.reduceEqDiff]
  refine callS_pure rInt_nil ?_
  simp only [Store.set_same, Store.set_set, ssS, bin_or, bin_and, Nat.reduceAdd, Nat.reduceLeDiff, reduceIte, eq_self, Nat.reduceEqDiff]
  refine callS_pure (wText_nil 255) ?_
  simp only [Store.set_same, Store.set_set, ssS, bin_or, bin_and, Nat.reduceAdd, Nat.reduceLeDiff, reduceIte, eq_self, Nat.reduceEqDiff]
  refine callS_pure wErr_nil ?_
  simp only [show ((1 : Int) != 0) = true from rfl, Store.set_same, Store.set_set, Store.set_ne _ _ h23, ssS, bin_or, bin_and, Nat.reduceAdd, Nat.reduceLeDiff, reduceIte, eq_self, Nat.reduceEqDiff]
  refine bodyA_ret ((resV_cell (b := b2) rfl (Store.set_same _ _ _)).trans rfl) ⟨rfl, ?_⟩
  exact (((SubS.refl m).out hb2 _).out (by rw [Store.set_ne _ _ h23.symm] at hb3; exact hb3) _).out hb2 _
theorem get_ok (L : LibOk Γ) (hr : m rb = some (rdB s a e)) (ha : a ≤ s.length) (hs : s.length ≤ 281474976710656) :
    ACalls Tryz.prog Γ 23 [.ptr rb 0] m fun o m' => o = .ret (cmdT (getC s a e).1) ∧ m' = m.set rb (rdB s (getC s a e).2.1 (getC s a e).2.2) := by
  refine ACalls.less (A := fun o m' => o = .ret (cmdT (getC s a e).1) ∧ SubS (m.set rb (rdB s (getC s a e).2.1 (getC s a e).2.2)) m') ?_ fun o m' h => ⟨_, h.2, h.1, rfl⟩
  refine acalls_of_awp mixed F23_ok (by rintro v m b x _ ⟨⟨⟩, _⟩) ?_
  unfold getC
  obtain ⟨k, a1, e1, h1⟩ : ∃ k a1 e1, rInt s a e = (k, a1, e1) := ⟨_, _, _, rfl⟩
  have l1 := rInt_le (e := e) ha
  rw [h1] at l1
  obtain ⟨n, a2, e2, h2⟩ : ∃ n a2 e2, rInt s a1 e1 = (n, a2, e2) := ⟨_, _, _, rfl⟩
  have l2 := rInt_le (e := e1) l1
  rw [h2] at l2
  obtain ⟨t, a3, e3, h3⟩ : ∃ t a3 e3, rText s a2 e2 255 = (t, a3, e3) := ⟨_, _, _, rfl⟩
  simp only at l1 l2
  simp only [h1, h2, h3]
  simp only [F23, start, List.cons_append, List.nil_append, List.length_cons, List.length_nil, List.replicate, Nat.reduceSub, Nat.reduceAdd]
  simp only [ssS, bin_or, bin_and, Nat.reduceAdd, Nat.reduceLeDiff, reduceIte, eq_self, Nat.reduceEqDiff]
  refine allocS_of fun b2 hb2 => ?_
  have hn2 := ne_of_some hr hb2
  simp only [ssS, bin_or, bin_and, Nat.reduceAdd, Nat.reduceLeDiff, reduceIte, eq_self, Nat.reduceEqDiff]
  refine callS_to (wInt_ok (a := a) (e := e) (s := s) (by rw [Store.set_ne _ _ hn2]; exact hr) ha (by omega)) ?_
  simp only [h1, ssS, bin_or, bin_and, Nat.reduceAdd, Nat.reduceLeDiff, reduceIte, eq_self, Nat.reduceEqDiff]
  refine allocS_of fun b3 hb3 => ?_
  have hn3 : rb ≠ b3 := ne_of_some (Store.set_same _ _ _) hb3
  have h23 : b2 ≠ b3 := ne_of_some (by rw [Store.set_ne _ _ hn2.symm, Store.set_same]) hb3
  simp only [Store.set_same, Store.set_set, ssS, bin_or, bin_and, Nat.reduceAdd, Nat.reduceLeDiff, reduceIte, eq_self, Nat.reduceEqDiff]
  refine callS_to (wInt_ok (a := a1) (e := e1) (s := s) (by rw [Store.set_ne _ _ hn3, Store.set_same]) l1 (by omega)) ?_
  simp only [h2, Store.set_same, Store.set_set, Store.set_ne _ _ hn3.symm, ssS, bin_or, bin_and, Nat.reduceAdd, Nat.reduceLeDiff, reduceIte, eq_self, Nat.reduceEqDiff]
  refine callS_to (wText_ok L 255 (a := a2) (e := e2) (s := s) (by rw [Store.set_ne _ _ hn3, Store.set_same]) l2 hs) ?_
  simp only [h3, Store.set_same, Store.set_set, Store.set_ne _ _ hn3.symm, ssS, bin_or, bin_and, Nat.reduceAdd, Nat.reduceLeDiff, reduceIte, eq_self, Nat.reduceEqDiff]
  refine callS_pure (wErr_ok (a := a3) (e := e3) (s := s) (by rw [Store.set_ne _ _ hn3, Store.set_same])) ?_
  have hfin : ∀ (M : Store), M rb = some (rdB s a3 e3) → (∀ c x, m c = some x → c ≠ rb → c ≠ b2 → c ≠ b3 → M c = some x) → ∀ x, SubS (m.set rb (rdB s a3 e3)) (M.set b2 x) := by
    intro M hM hs2 x c y hc
    by_cases h1 : c = rb
    · subst h1
      rw [Store.set_same] at hc
      cases hc
      rw [Store.set_ne _ _ hn2]
      exact hM
    · rw [Store.set_ne _ _ h1] at hc
      have h2 : c ≠ b2 := ne_of_some hc hb2
      rw [Store.set_ne _ _ h2]
      refine hs2 c y hc h1 h2 ?_
      rintro rfl
      rw [Store.set_ne _ _ hn3.symm, Store.set_ne _ _ h23.symm, hc] at hb3
      cases hb3
  cases he : (e3 != 0)
  · have h0 : e3 = 0 := by simpa using he
    subst h0
    simp only [show ((0 : Int) != 0) = false from rfl, Store.set_same, Store.set_set, Store.set_ne _ _ hn3.symm, Store.set_ne _ _ h23, Store.set_ne _ _ hn2.symm, ssS, bin_or, bin_and, Nat.reduceAdd, Nat.reduceLeDiff, reduceIte, eq_self, Nat.reduceEqDiff]
    refine bodyA_ret ((resV_cell (b := b2) rfl (Store.set_same _ _ _)).trans rfl) ⟨?_, hfin _ ?_ ?_ _⟩
    · simp only [ne_eq, not_true_eq_false, if_false, cmdT, cmdV]
      rfl
    · first
        | exact Store.set_same _ _ _
        | (rw [Store.set_ne _ _ hn3, Store.set_same])
    · intro c x hc k1 k2 k3
      simp only [Store.set_ne _ _ k1, Store.set_ne _ _ k2, Store.set_ne _ _ k3]
      exact hc
  · have h0 : e3 ≠ 0 := by simpa using he
    simp only [he, Store.set_same, Store.set_set, Store.set_ne _ _ hn3.symm, Store.set_ne _ _ h23, Store.set_ne _ _ hn2.symm, ssS, bin_or, bin_and, Nat.reduceAdd, Nat.reduceLeDiff, reduceIte, eq_self, Nat.reduceEqDiff]
    refine bodyA_ret ((resV_cell (b := b2) rfl (Store.set_same _ _ _)).trans rfl) ⟨?_, hfin _ ?_ ?_ _⟩
    · simp only [ne_eq, h0, not_false_eq_true, if_true, cmdT, cmdV]
      rfl
    · first
        | exact Store.set_same _ _ _
        | (rw [Store.set_ne _ _ hn3, Store.set_same])
    · intro c x hc k1 k2 k3
      simp only [Store.set_ne _ _ k1, Store.set_ne _ _ k2, Store.set_ne _ _ k3]
      exact hc
theorem put_ok {m' : Store} {v : V} {l t : List UInt8} {k n : Int} (h : Buf 5 1 m m' v (l.map by8)) (hk : Av.I64 k) (hn : Av.I64 n) (hl : l.length + t.length + 100 ≤ 140737488355328) (hl2 : l.length + 100 < 1099511627776) :
    ACalls Tryz.prog Γ 25 [v, cmdV k n t] m' fun o m2 => ∃ v2, o = .ret v2 ∧ Buf 5 1 m m2 v2 ((l ++ putC k n t).map by8) := by
  refine ACalls.less (A := fun o m2 => ∃ v2 M, o = .ret v2 ∧ SubS M m2 ∧ Buf 5 1 m M v2 ((l ++ putC k n t).map by8)) ?_ fun o m' ⟨v2, M, h1, h2, h3⟩ => ⟨M, h2, v2, h1, h3⟩
  refine acalls_of_awp mixed F25_ok (by rintro v m b x _ ⟨_, _, ⟨⟩, _⟩) ?_
  simp only [F25, cmdV, start, List.cons_append, List.nil_append, List.length_cons, List.length_nil, List.replicate, Nat.reduceSub, Nat.reduceAdd]
  simp only [ssS, bin_or, bin_and, Nat.reduceAdd, Nat.reduceLeDiff, reduceIte, eq_self, Nat.reduceEqDiff]
  refine allocS_of fun b3 hb3 => ?_
  have hm3 : m b3 = none := by
    cases hc : m b3 with
    | none => rfl
    | some x => rw [h.sub _ _ hc] at hb3; cases hb3
  have z1 := Lib.uvarint_length64 (Av.zigzag_u64 hk)
  have z2 := Lib.uvarint_length64 (Av.zigzag_u64 hn)
  simp only [Store.set_same, ssS, bin_or, bin_and, Nat.reduceAdd, Nat.reduceLeDiff, reduceIte, eq_self, Nat.reduceEqDiff]
  refine callS_of (putInt_ok (h.add (x := .var 24 [it k, it n, bs t]) hb3) hk (by omega)) ?_ (by rintro v m' ⟨_, ⟨⟩, _⟩)
  rintro v2 m2 ⟨_, ⟨⟩, hB⟩
  have hb2 := hB.sub b3 _ (Store.set_same _ _ _)
  simp only [thenO_some, still_free, loadV_at, hb2, ssS, bin_or, bin_and, Nat.reduceAdd, Nat.reduceLeDiff, reduceIte, eq_self, Nat.reduceEqDiff]
  refine callS_of (putInt_ok hB hn (by simp; omega)) ?_ (by rintro v m' ⟨_, ⟨⟩, _⟩)
  rintro v3 m3 ⟨_, ⟨⟩, hB3⟩
  have hb3' := hB3.sub b3 _ (Store.set_same _ _ _)
  simp only [thenO_some, still_free, loadV_at, hb3', ssS, bin_or, bin_and, Nat.reduceAdd, Nat.reduceLeDiff, reduceIte, eq_self, Nat.reduceEqDiff]
  refine callS_of (putText_ok hB3 (by simp; omega) (by simp; omega)) ?_ (by rintro v m' ⟨_, ⟨⟩, _⟩)
  rintro v4 m4 ⟨_, ⟨⟩, hB4⟩
  simp only [ssS, bin_or, bin_and, Nat.reduceAdd, Nat.reduceLeDiff, reduceIte, eq_self, Nat.reduceEqDiff]
  obtain ⟨q1, M, q2, q3, q4⟩ := hB4.del hm3
  refine bodyA_ret resV_one ⟨v4, M, rfl, ?_, ?_⟩
  · intro c x hc
    have hne : c ≠ b3 := by rintro rfl; rw [q3] at hc; cases hc
    have := congrArg (fun f : Store => f c) (q4 (.var 24 []))
    simp only [Store.set_ne _ _ hne] at this
    rw [this]
    exact hc
  · simp only [putC, List.append_assoc] at q2 ⊢
    exact q2
end
end Go.Av.Fn
/- Of no reader there is no command; of one that is not well there is none: the statement's function. Conditions: what some variables hold. -/
namespace Go.Av.Fn
set_option linter.unusedSimpArgs false
set_option linter.unusedVariables false
set_option maxRecDepth 10000
open Go.Proofs

theorem bad_num : Av.numL [128, 0] = (0, 0, 4) := by kernel_rfl
theorem rInt_bad : rInt [128, 0] 0 0 = (0, 0, 4) := by
  unfold rInt
  rw [if_neg (by decide), List.drop_zero, bad_num, if_pos (by decide)]
theorem rInt_bad4 : rInt [128, 0] 0 4 = (0, 0, 4) := by
  unfold rInt
  rw [if_pos (by decide)]
theorem rText_bad4 : rText [128, 0] 0 4 255 = ([], 0, 4) := by
  unfold rText
  rw [if_pos (by decide)]
theorem getC_bad : getC [128, 0] 0 4 = ((0, 0, []), 0, 4) := by
  unfold getC
  simp only [rInt_bad4, rText_bad4]
  rfl
theorem commandNil_ok {Γ : Glob} {m : Store} (E : Env2 Γ) (k n : Int) (s : List UInt8) (hk : Av.I64 k) (hn : Av.I64 n) (hs : s.length ≤ 140737488351232) : ACalls Tryz.prog Γ 8 [cmdV k n s] m fun o m' => o = .ret (.val (.bool true)) := by
  refine acalls_of_awp mixed F8_ok (by rintro v m b x _ ⟨⟩) ?_
  simp only [F8, cmdV, start, List.cons_append, List.nil_append, List.length_cons, List.length_nil, List.replicate, Nat.reduceSub, Nat.reduceAdd]
  simp only [ssS, bin_or, bin_and, Nat.reduceAdd, Nat.reduceLeDiff, reduceIte, eq_self, Nat.reduceEqDiff]
  refine allocS_of fun b1 hb1 => ?_
  have hlit : ∀ {t : List V} {m : Store}, evalL Tryz.prog (ev Γ t) m (.lits 1 [V.val (Value.int IntKind.u8 0)] 2 [(0, .const (.int .u8 128)), (1, .const (.int .u8 0))]) = some (.sl (([128, 0] : List UInt8).map by8) [] .full) := fun {t m} => rfl
  simp only [hlit, ssS, bin_or, bin_and, Nat.reduceAdd, Nat.reduceLeDiff, reduceIte, eq_self, Nat.reduceEqDiff]
  refine callS_of (wNew_ok (l := [128, 0]) (more := []) (tok := .full)) ?_ (by rintro v m' ⟨_, _, ⟨⟩, _⟩)
  rintro v m' ⟨rb, hrb, hv, rfl⟩
  cases hv
  have h1r : b1 ≠ rb := ne_of_some (Store.set_same _ _ _) hrb
  simp only [ptr_nn, ssS, bin_or, bin_and, Nat.reduceAdd, Nat.reduceLeDiff, reduceIte, eq_self, Nat.reduceEqDiff]
  refine callS_to (wInt_ok (s := [128, 0]) (a := 0) (e := 0) (Store.set_same _ _ _) (by decide) (by decide)) ?_
  simp only [rInt_bad, Store.set_set, ssS, bin_or, bin_and, Nat.reduceAdd, Nat.reduceLeDiff, reduceIte, eq_self, Nat.reduceEqDiff]
  refine callS_pure get_nil ?_
  have hz : ∀ xo yo, binV Tryz.prog .eql 24 .other xo yo (.agg [it 0, it 0, bs []]) (.agg [.val (.int .i64 0), .val (.int .i64 0), .val (.string (ByteArray.mk #[]))]) = some (.val (.bool true)) := fun xo yo => cmd_eq xo yo 0 0 0 0 [] []
  simp only [cmdV, hz, ssS, bin_or, bin_and, Nat.reduceAdd, Nat.reduceLeDiff, reduceIte, eq_self, Nat.reduceEqDiff]
  refine callS_to (get_ok E.env.lib (s := [128, 0]) (a := 0) (e := 4) (Store.set_same _ _ _) (by decide) (by decide)) ?_
  simp only [getC_bad, cmdT, cmdV, hz, Store.set_set, ssS, bin_or, bin_and, Nat.reduceAdd, Nat.reduceLeDiff, reduceIte, eq_self, Nat.reduceEqDiff]
  refine callS_pure (wErr_ok (s := [128, 0]) (a := 0) (e := 4) (Store.set_same _ _ _)) ?_
  simp only [show ((4 : Int) == 4) = true from rfl, ssS, bin_or, bin_and, Nat.reduceAdd, Nat.reduceLeDiff, reduceIte, eq_self, Nat.reduceEqDiff]
  refine callS_pure (wAt_ok (s := [128, 0]) (a := 0) (e := 4) (Store.set_same _ _ _)) ?_
  simp only [show (((0 : Nat) : Int) == 0) = true from rfl, Store.set_ne _ _ h1r, Store.set_same, ssS, bin_or, bin_and, Nat.reduceAdd, Nat.reduceLeDiff, reduceIte, eq_self, Nat.reduceEqDiff]
  refine callS_of (put_ok (l := []) (t := s) (k := k) (n := n) Buf.start hk hn (by simp; omega) (by simp)) ?_ (by rintro v m' ⟨_, ⟨⟩, _⟩)
  rintro v m2 ⟨_, ⟨⟩, hB⟩
  obtain ⟨tok, rfl⟩ := hB.val
  have hpos : decide ((((([] ++ putC k n s).map by8).length : Nat) : Int) > 0) = true := by
    refine decide_eq_true ?_
    have := Lib.uvarint_pos (Lib.zigzag k)
    simp only [List.nil_append, List.length_map, putC, List.length_append]
    omega
  simp only [hpos, ssS, bin_or, bin_and, Nat.reduceAdd, Nat.reduceLeDiff, reduceIte, eq_self, Nat.reduceEqDiff]
  refine callS_pure (lives17_ok E) ?_
  simp only [ssS, bin_or, bin_and, Nat.reduceAdd, Nat.reduceLeDiff, reduceIte, eq_self, Nat.reduceEqDiff]
  exact bodyA_ret resV_one rfl
end Go.Av.Fn
/- What the listed variables hold is read off the row. No condition. -/
namespace Go.Av.Fn
set_option linter.unusedVariables false
set_option maxRecDepth 100000
open Go.Proofs Go.RowKit Go.Proofs.YtfanfdflpakjeaaGreatDoor

def laidL : List (String × DataW Unit) := [("math/bits.deBruijn32tab", Rows.laid_math_bits_deBruijn32tab), ("math/bits.deBruijn64tab", Rows.laid_math_bits_deBruijn64tab), ("internal/strconv.uint64pow10", Rows.laid_internal_strconv_uint64pow10), ("errors.errorType", Rows.laid_errors_errorType), ("strconv.ErrRange", Rows.laid_strconv_ErrRange), ("strconv.ErrSyntax", Rows.laid_strconv_ErrSyntax), ("hindcast/lex.words", Rows.laid_hindcast_lex_words), ("hindcast/lex.signs", Rows.laid_hindcast_lex_signs)]
def laidP : List (String × DataW Unit) := [("math/bits.deBruijn32tab", Rows.laid_math_bits_deBruijn32tab), ("math/bits.deBruijn64tab", Rows.laid_math_bits_deBruijn64tab), ("internal/strconv.uint64pow10", Rows.laid_internal_strconv_uint64pow10), ("strconv.ErrRange", Rows.laid_strconv_ErrRange), ("strconv.ErrSyntax", Rows.laid_strconv_ErrSyntax), ("hindcast/lex.words", Rows.laid_hindcast_lex_words), ("hindcast/lex.signs", Rows.laid_hindcast_lex_signs)]
theorem laid_some : (laidL.filter fun x => x.2.handleName?.isSome) = [("errors.errorType", Rows.laid_errors_errorType)] := by kernel_rfl
theorem laid_none : (laidL.filter fun x => x.2.handleName?.isNone) = laidP := by kernel_rfl

theorem gWords : Tryz.prog.globalNamed "hindcast/lex.words" = some 3 := by kernel_rfl
theorem gSigns : Tryz.prog.globalNamed "hindcast/lex.signs" = some 2 := by kernel_rfl
theorem gRange : Tryz.prog.globalNamed "strconv.ErrRange" = some 5 := by kernel_rfl
theorem gSyntax : Tryz.prog.globalNamed "strconv.ErrSyntax" = some 4 := by kernel_rfl
theorem gErrT : Tryz.prog.globalNamed "errors.errorType" = some 6 := by kernel_rfl
theorem tWords : (Tryz.prog.globals[3]?).map (·.type) = some 234 := by kernel_rfl
theorem tSigns : (Tryz.prog.globals[2]?).map (·.type) = some 233 := by kernel_rfl
theorem tRange : (Tryz.prog.globals[5]?).map (·.type) = some 163 := by kernel_rfl
theorem tSyntax : (Tryz.prog.globals[4]?).map (·.type) = some 163 := by kernel_rfl
theorem cells9 : Tryz.prog.cellsOf 9 = 1 := by kernel_rfl
theorem cellsES : Tryz.prog.cellsOf 284 = 1 := by kernel_rfl
theorem star : "*" ++ "errors.errorString" = "*errors.errorString" := by decide
theorem rowES (u : TypeId) (h : Tryz.prog.typeName? 3 u = some "*errors.errorString") : u = 282 :=
  typeName_ptr_named (nm := "errors.errorString") (by rw [star]; kernel_rfl) (by kernel_rfl) (by decide) u (by rw [star]; exact h)
theorem rtRow : (Tryz.prog.cutTypes.find? (·.1 == "internal/reflectlite.rtype")).map (·.2) = some 289 := by kernel_rfl
theorem oneRow : ((List.range Tryz.prog.types.size).filter fun t => Tryz.prog.rowNamed t [101, 114, 114, 111, 114]) = [163] := by kernel_rfl

/-- What the variables hold. -/
def gl (p q : Value) : Glob := fun g => if g = 2 then some (signsB.map bs) else if g = 3 then some (wordsB.map bs) else if g = 5 then some [.ifc 282 (.val p)] else if g = 4 then some [.ifc 282 (.val q)] else if g = 6 then some [.ifc 289 (.agg [.ptr 9 163])] else none

theorem errT_of {W : World} (h : handlesMet Tryz.prog [("errors.errorType", Rows.laid_errors_errorType)] W) : W.cell? ⟨6, 0, none⟩ = some (.iface 289 (.agg #[.pointer (some ⟨9, 163, none⟩)])) := by
  obtain ⟨name, u, ty, e1, e2, e3, e4, e5⟩ := h _ (List.mem_singleton.2 rfl)
  have en : name = [101, 114, 114, 111, 114] := (Option.some.inj e1).symm
  subst en
  obtain rfl := Option.some.inj (rtRow.symm.trans e2)
  have hm : ty ∈ (List.range Tryz.prog.types.size).filter fun t => Tryz.prog.rowNamed t [101, 114, 114, 111, 114] := List.mem_filter.2 ⟨List.mem_range.2 e3, e4⟩
  rw [oneRow] at hm
  obtain rfl := List.mem_singleton.1 hm
  have hh : typeHandle Tryz.prog 163 = .pointer (some ⟨9, 163, none⟩) := by kernel_rfl
  rw [hh] at e5
  simpa using World.var?_cell gErrT e5 0

theorem start_of_laid {W : World} (hH : laidMetH Tryz.prog laidL W) : ∃ p q, noAgg p = true ∧ noAgg q = true ∧ Rep (gl p q) W.heap.size (startG (gl p q) W) (fun _ => none) W := by
  obtain ⟨h, hh⟩ : laidMet Tryz.prog laidP W ∧ handlesMet Tryz.prog [("errors.errorType", Rows.laid_errors_errorType)] W := by
    unfold laidMetH at hH
    rw [laid_some, laid_none] at hH
    exact hH
  have hw := strs_of_reads (L := wordsB) (Lib.laidMet.reads h (.tail _ (.tail _ (.tail _ (.tail _ (.tail _ (.head _))))))) gWords tWords Tryz.underlying234 Tryz.underlying9 cells9
  have hs := strs_of_reads (L := signsB) (Lib.laidMet.reads h (.tail _ (.tail _ (.tail _ (.tail _ (.tail _ (.tail _ (.head _)))))))) gSigns tSigns Tryz.underlying233 Tryz.underlying9 cells9
  obtain ⟨a1, s1, hv1, _⟩ := laid_sentinel h.tail.tail.tail gRange tRange Tryz.underlying163 rowES Tryz.underlying282 Tryz.underlying284 rfl rfl Tryz.underlying9 cellsES cells9
  obtain ⟨a2, s2, hv2, _⟩ := laid_sentinel h.tail.tail.tail.tail gSyntax tSyntax Tryz.underlying163 rowES Tryz.underlying282 Tryz.underlying284 rfl rfl Tryz.underlying9 cellsES cells9
  have he1 : W.cell? ⟨5, 0, none⟩ = some (.iface 282 (.pointer (some a1))) := by simpa using World.var?_cell gRange hv1 0
  have he2 : W.cell? ⟨4, 0, none⟩ = some (.iface 282 (.pointer (some a2))) := by simpa using World.var?_cell gSyntax hv2 0
  have he3 := errT_of hh
  refine ⟨.pointer (some a1), .pointer (some a2), rfl, rfl, start_rep fun g cs hg => ?_⟩
  have hone : ∀ {g : Nat} {v : V} {x : Value}, RelV (startG (gl (.pointer (some a1)) (.pointer (some a2))) W) v x → W.cell? ⟨g, 0, none⟩ = some x → ∃ us, RelL (startG (gl (.pointer (some a1)) (.pointer (some a2))) W) [v] us ∧ ∀ i u, us[i]? = some u → W.cell? ⟨g, i, none⟩ = some u := by
    intro g v x hv hc
    refine ⟨[x], .cons hv .nil, fun i u hu => ?_⟩
    cases i with
    | zero =>
      simp only [List.getElem?_cons_zero, Option.some.injEq] at hu
      rw [← hu]
      exact hc
    | succ i => simp at hu
  unfold gl at hg
  split at hg
  · rename_i h0
    subst h0
    cases hg
    refine ⟨_, rel_bs signsB, fun i u hu => ?_⟩
    rw [List.getElem?_map] at hu
    obtain ⟨s, h1, rfl⟩ := Option.map_eq_some_iff.1 hu
    exact hs i s h1
  · split at hg
    · rename_i h0
      subst h0
      cases hg
      refine ⟨_, rel_bs wordsB, fun i u hu => ?_⟩
      rw [List.getElem?_map] at hu
      obtain ⟨s, h1, rfl⟩ := Option.map_eq_some_iff.1 hu
      exact hw i s h1
    · split at hg
      · rename_i h0
        subst h0
        cases hg
        exact hone (.ifc (.val rfl)) he1
      · split at hg
        · rename_i h0
          subst h0
          cases hg
          exact hone (.ifc (.val rfl)) he2
        · split at hg
          · rename_i h0
            subst h0
            cases hg
            exact hone (.ifc (.agg (.cons (.ptr _ _) .nil))) he3
          · cases hg
theorem env_gl (p q : Value) : Env2 (gl p q) where
  env := { lib := libOk, parse := parse28 (T := 282) (v := .val p) rfl, words := rfl, signs := rfl, errT := rfl }
  range := ⟨282, .val p, rfl⟩
  syn := ⟨282, .val q, rfl⟩
end Go.Av.Fn
