/- A command read off a text, by the document. No condition. -/
import Derived.LaidHandle
import Derived.Test.YtfanfdflpakjeaaGreatDoorCards
import Derived.Test.YtfanfdflpakjeaaGreatDoorTie
import Derived.Test.YtfanfdflpakjeaaGreatDoorTW21
namespace Go.Av.Fn
set_option linter.unusedSimpArgs false
set_option linter.unusedVariables false
set_option maxRecDepth 10000
open Go.Proofs Go.Lib
def zC : List V := [.val (.int .i64 0), .val (.int .i64 0), .val (.string ⟨#[]⟩)]
def NoneB (s : List UInt8) (k : Nat) : Prop := ∀ j : Nat, 1 ≤ j → j < k → (formOf j).w <+: s → ∀ x ∈ cands j s, ¬ (rightB x.1 x.2.1 x.2.2 = true ∧ printB x.1 x.2.1 x.2.2 = s)
theorem nbB1 {k : Nat} {A : Blk} {r : Hl} (hA : nbB k A) : ∀ a < 1, ∀ x, lk (some A :: r) a = some x → nbB k x := by
 intro a ha x hx
 have : a = 0 := by omega
 subst this
 cases hx
 exact hA
theorem nbB_zC {k : Nat} {T : TypeId} : nbB k (.var T zC) := by
 unfold zC
 simp only [nbS]
def cm3 (x : Int × Int × List UInt8) : V := cmdV x.1 x.2.1 x.2.2
theorem nb_cm3 {k : Nat} (x : Int × Int × List UInt8) : nb k (cm3 x) := by
 simp only [cm3, nb_cmdV]
theorem idx_cm3 {C : List (Int × Int × List UInt8)} {tok : Tok} {i : Nat} {x : Int × Int × List UInt8} (h : C[i]? = some x) : idxLV 3 (.sl (C.map cm3) [] tok) (it i) = some (.elt [it x.1, it x.2.1, bs x.2.2]) := idxLV_nat (e := cm3 x) (by rw [List.getElem?_map, h]; rfl) rfl
theorem kParse_inner {Γ : Glob} {s : List UInt8} {C : List (Int × Int × List UInt8)} {tok : Tok} {r : Hl} {k : Nat} {Q : Go.Av.Ex → HS → Prop} {t : List V} (hlen : t.length = 101) (h0 : tget t 0 = bs s) (h2 : tget t 2 = .ptr 0 0) (h4 : tget t 4 = it k) (h8 : tget t 8 = .sl (C.map cm3) [] tok) (h9 : tget t 9 = it (0 : Nat)) (hC : C.length ≤ 4)
  (hr : ∀ a < 1 + r.length, ∀ x, lk (some (.var 24 zC) :: r) a = some x → nbB (1 + r.length) x) (ht : nbT (1 + r.length) tok) (hr2 : r.length ≤ 1)
  (hfound : ∀ x ∈ C, rightB x.1 x.2.1 x.2.2 = true → printB x.1 x.2.1 x.2.2 = s → ∀ t', tget t' 2 = .ptr 0 0 → tget t' 3 = it 0 → Q .ret ⟨t', some (.var 24 [it x.1, it x.2.1, bs x.2.2]) :: r⟩)
  (hnone : (∀ x ∈ C, ¬ (rightB x.1 x.2.1 x.2.2 = true ∧ printB x.1 x.2.1 x.2.2 = s)) → ∀ t', t'.length = 101 → tget t' 0 = bs s → tget t' 2 = .ptr 0 0 → tget t' 4 = it k → Q .normal ⟨t', some (.var 24 zC) :: r⟩) :
  hawp Tryz.prog Γ (fun _ _ => False) 0 (.loop (.seq (.seq (.row [.mk (some 75) none (.mov (.tmp 9)) [], .mk (some 76) none (.mov (.tmp 8)) [], .mk (some 77) none (.len false (.tmp 76)) [], .mk (some 78) none (.bin .lss 3 .other (.tmp 75) (.tmp 77)) []]) (.cond (.tmp 78) .skip (.exit 2))) (.seq (.block 3 (.seq (.row [.mk (some 82) none (.mov (.tmp 8)) [], .mk (some 83) none (.mov (.tmp 9)) [], .mk (some 84) none (.idxL 3 (.tmp 82) (.tmp 83)) [], .mk (some 85) none (.load (some 3) (.tmp 84)) [], .mk (some 86) none (.call (.func 19) [.tmp 85]) [], .mk (some 81) none (.mov (.tmp 86)) [], .mk (some 87) none (.ext (.tmp 81) 0) [], .mk (some 88) none (.ext (.tmp 81) 1) [], .mk (some 10) none (.mov (.tmp 87)) [], .mk (some 11) none (.mov (.tmp 88)) []]) (.seq (.row [.mk (some 89) none (.mov (.tmp 11)) [], .mk (some 90) none (.bin .eql 3 .other (.tmp 89) (.const (.int .i64 0))) [], .mk (some 91) none (.mov (.tmp 90)) [], .mk (some 92) (some (91, true)) (.mov (.tmp 10)) [], .mk (some 93) (some (91, true)) (.mov (.tmp 0)) [], .mk (some 94) (some (91, true)) (.bin .eql 9 .other (.tmp 92) (.tmp 93)) [], .mk (some 95) none (.pick (.tmp 91) (.tmp 94) (.const (.bool false))) []]) (.cond (.tmp 95) (.seq (.row [.mk (some 96) none (.mov (.tmp 8)) [], .mk (some 97) none (.mov (.tmp 9)) [], .mk (some 98) none (.idxL 3 (.tmp 96) (.tmp 97)) [], .mk (some 99) none (.load (some 3) (.tmp 98)) [], .mk none none (.store 3 (.tmp 2) (.tmp 99)) [], .mk (some 3) none (.mov (.const (.int .i64 0))) []]) .ret) .skip)))) (.row [.mk (some 79) none (.mov (.tmp 9)) [], .mk (some 80) none (.bin .add 3 .other (.tmp 79) (.const (.int .i64 1))) [], .mk (some 9) none (.mov (.tmp 80)) []])))) (inBlockH 2 Q) ⟨t, some (.var 24 zC) :: r⟩ := by
 have hnv : ∀ i : Nat, nbs (1 + r.length) [bs s, .ptr 0 0, it k, .sl (C.map cm3) [] tok, it i] := by
  intro i
  simp only [nbS]
  exact ⟨by omega, nbs_map nb_cm3 C, ht⟩
 refine h_loop [0, 2, 4, 8, 9] 101 (fun n vs h => ∃ i : Nat, vs = [bs s, .ptr 0 0, it k, .sl (C.map cm3) [] tok, it i] ∧ h = some (.var 24 zC) :: r ∧ i + n = C.length ∧ ∀ x ∈ C.take i, ¬ (rightB x.1 x.2.1 x.2.2 = true ∧ printB x.1 x.2.1 x.2.2 = s)) C.length (by decide) (by decide) (List.range (1 + r.length)) (back_take hlen (Nat.zero_le _) (by omega) (by simp; omega) (by simp only [List.map, h0, h2, h4, h8, h9]; exact hnv 0) hr ⟨0, by simp only [List.map, h0, h2, h4, h8, h9], by rw [List.take_of_length_le]; simp; omega, by omega, by simp⟩) ?_
 rintro n tt hh J hJ hl2 ⟨i, hv, rfl, hin, hno⟩
 clear h0 h2 h4 h8 h9
 simp only [List.map, List.cons.injEq, and_true] at hv
 obtain ⟨h0, h2, h4, h8, h9⟩ := hv
 rw [t_eq hl2]
 simp only [upTo_succ, upTo, h0, h2, h4, h8, h9, ssH, Nat.reduceAdd, Nat.reduceLeDiff, reduceIte, Nat.reduceEqDiff, Nat.reduceLT, Int.reduceBEq, Int.reduceBNe]
 simp only [List.length_map]
 by_cases hi : i < C.length
 ·have hx : C[i]? = some C[i] := List.getElem?_eq_getElem hi
  have hxm := List.mem_of_getElem? hx
  generalize C[i] = x at hx hxm
  rw [show decide ((i : Int) < (C.length : Int)) = true by simp; omega]
  simp only [idx_cm3 hx, ssH, Nat.reduceAdd, Nat.reduceLeDiff, reduceIte, Nat.reduceEqDiff, Nat.reduceLT, Int.reduceBEq, Int.reduceBNe]
  refine hcall_pure (by exact fun m => kPrint_ok x.1 x.2.1 x.2.2) (nbs_c1 _ _ _) (by first | exact LR.nil | simp only [nbS]) ?_
  have hgo : ¬ (rightB x.1 x.2.1 x.2.2 = true ∧ printB x.1 x.2.1 x.2.2 = s) → ∀ t', t'.length = 101 → tget t' 0 = bs s → tget t' 2 = .ptr 0 0 → tget t' 4 = it k → tget t' 8 = .sl (C.map cm3) [] tok → tget t' 9 = it (i + 1 : Nat) → ∃ names, J names ⟨t', some (.var 24 zC) :: r⟩ := by
   intro hq t' q0 q1 q2 q3 q4 q5
   refine ⟨_, hJ (n - 1) (List.range (1 + r.length)) _ (by omega) (back_take q0 (Nat.zero_le _) (by omega) (by simp; omega) (by simp only [List.map, q1, q2, q3, q4, q5]; exact hnv (i + 1)) hr ⟨i + 1, by simp only [List.map, q1, q2, q3, q4, q5], by rw [List.take_of_length_le]; simp; omega, by omega, ?_⟩)⟩
   rw [List.take_add_one, hx]
   intro y hy
   rcases List.mem_append.1 hy with hy | hy
   ·exact hno y hy
   ·simp only [Option.toList, List.mem_singleton] at hy
    subst hy
    exact hq
  cases hr1 : rightB x.1 x.2.1 x.2.2
  ·simp only [Bool.false_eq_true, if_false, next_i64 (show i < 4611686018427387904 by omega), ssH, Nat.reduceAdd, Nat.reduceLeDiff, reduceIte, Nat.reduceEqDiff, Nat.reduceLT, Int.reduceBEq, Int.reduceBNe]
   exact hgo (by rw [hr1]; simp) _ rfl rfl rfl rfl rfl rfl
  ·simp only [if_true, ssH, Nat.reduceAdd, Nat.reduceLeDiff, reduceIte, Nat.reduceEqDiff, Nat.reduceLT, Int.reduceBEq, Int.reduceBNe]
   cases he : (printB x.1 x.2.1 x.2.2 == s)
   ·simp only [next_i64 (show i < 4611686018427387904 by omega), ssH, Nat.reduceAdd, Nat.reduceLeDiff, reduceIte, Nat.reduceEqDiff, Nat.reduceLT, Int.reduceBEq, Int.reduceBNe]
    exact hgo (by simpa using fun _ => (by simpa using he)) _ rfl rfl rfl rfl rfl rfl
   ·simp only [idx_cm3 hx, zC, ssH, Nat.reduceAdd, Nat.reduceLeDiff, reduceIte, Nat.reduceEqDiff, Nat.reduceLT, Int.reduceBEq, Int.reduceBNe]
    exact hfound x hxm hr1 (by simpa using he) _ rfl rfl
 ·rw [show decide ((i : Int) < (C.length : Int)) = false by simp; omega]
  simp only [ssH, Nat.reduceAdd, Nat.reduceLeDiff, reduceIte, Nat.reduceEqDiff, Nat.reduceLT, Int.reduceBEq, Int.reduceBNe]
  refine hnone ?_ _ rfl rfl rfl rfl
  have : i = C.length := by omega
  subst this
  simpa using hno
theorem numK_le : ∀ (l : List UInt8) (n a : Nat), (numK l n a).2 ≤ a + l.length
 | [], n, a => Nat.le_refl _
 | b :: r, n, a => by
  rw [numK]
  split
  ·have := numK_le r (10 * n + (b.toNat - 48)) (a + 1)
   simp only [List.length_cons]
   omega
  ·exact Nat.le_add_right _ _
theorem lit32_eq {P : Program} {Γ : Glob} {t : List V} {m : Store} {z : List V} {x y : Operand} : evalL P (ev Γ t) m (.lits 3 z 2 [(0, x), (1, y)]) = (litsV 3 [.agg z, .agg z] [(0, ev Γ t x), (1, ev Γ t y)]).map fun es => .sl es [] .full := rfl
theorem lit31_eq {P : Program} {Γ : Glob} {t : List V} {m : Store} {z : List V} {x : Operand} : evalL P (ev Γ t) m (.lits 3 z 1 [(0, x)]) = (litsV 3 [.agg z] [(0, ev Γ t x)]).map fun es => .sl es [] .full := rfl
theorem lits3_one {z : List V} {a b c : V} : ((litsV 3 [.agg z] [(0, .agg [a, b, c])]).map fun es => V.sl es [] .full) = some (.sl [.agg [a, b, c]] [] .full) := rfl
theorem lits3_two {z : List V} {a b c a' b' c' : V} : ((litsV 3 [.agg z, .agg z] [(0, .agg [a, b, c]), (1, .agg [a', b', c'])]).map fun es => V.sl es [] .full) = some (.sl [.agg [a, b, c], .agg [a', b', c']] [] .full) := rfl
theorem szOk_cm : ∀ C : List (Int × Int × List UInt8), szOk 3 (C.map cm3) = true
 | [] => rfl
 | x :: C => by
  have := szOk_cm C
  unfold szOk at this ⊢
  rw [List.map_cons, List.all_cons, this]
  rfl
theorem app_c1 {P : Program} {Γ : Glob} {Kp : V → Hl → Prop} {sl : List (Tmp × Option (Tmp × Bool) × AOp)} {l : List Item} {K : HS → Prop} {t : List V} {d : Option Tmp} {X : Blk} (C : List (Int × Int × List UInt8)) (x : Int × Int × List UInt8) (hC : C.length ≤ 4)
  (hr : hth P Γ Kp sl l K (hput t [some X, some (.tip 24 0)] d (some (.sl ((C ++ [x]).map cm3) [] (.tip 1 0))))) : happS P Γ Kp 24 32 3 (.sl (C.map cm3) [] .full) (.sl [cm3 x] [] .full) d sl l K t [some X] := by
 rw [List.map_append] at hr
 exact happ_full (ys := [cm3 x]) rfl (by simp) (by simp) (szOk_cm C) rfl (by simp only [List.length_map, List.length_cons, List.length_nil]; omega) hr
theorem app_c2 {P : Program} {Γ : Glob} {Kp : V → Hl → Prop} {sl : List (Tmp × Option (Tmp × Bool) × AOp)} {l : List Item} {K : HS → Prop} {t : List V} {d : Option Tmp} {X : Blk} (C : List (Int × Int × List UInt8)) (x : Int × Int × List UInt8) (hC : C.length ≤ 4) (h0 : C ≠ [])
  (hr : hth P Γ Kp sl l K (hput t [some X, some (.tip 24 1)] d (some (.sl ((C ++ [x]).map cm3) [] (.tip 1 1))))) : happS P Γ Kp 24 32 3 (.sl (C.map cm3) [] (.tip 1 0)) (.sl [cm3 x] [] .full) d sl l K t [some X, some (.tip 24 0)] := by
 rw [List.map_append] at hr
 exact happ_tip (j := 1) (k := 0) (x := .sl [cm3 x] [] .full) (ys := [cm3 x]) rfl (by simp) (by simpa using h0) rfl (szOk_cm C) rfl (by simp only [List.length_map, List.length_cons, List.length_nil]; omega) hr
theorem cfin {s : List UInt8} {x : Int × Int × List UInt8} {t : List V} {r : Hl} (h1 : rightB x.1 x.2.1 x.2.2 = true) (h2 : printB x.1 x.2.1 x.2.2 = s) (q2 : tget t 2 = .ptr 0 0) (q3 : tget t 3 = it 0) :
  bodyH [ARes.cell 2 (some 3), ARes.tmp 3] (fun v _ => nb 0 v ∧ v = parseV s) .ret ⟨t, some (.var 24 [it x.1, it x.2.1, bs x.2.2]) :: r⟩ := by
 have hp := print_parse h1
 rw [h2] at hp
 refine bodyH_ret (v := .tup [cmdV x.1 x.2.1 x.2.2, it 0]) ((resV_cut (m := lk (some (.var 24 [it x.1, it x.2.1, bs x.2.2]) :: r)) q2 rfl rfl).trans (by rw [q3]; rfl)) ⟨?_, (pv_some hp).symm⟩
 simp only [nb_cmdV, nbS]
theorem tip_blk {k : Nat} {X : Blk} {T : TypeId} {n : Nat} (hX : ∀ k, nbB k X) : ∀ a < 1 + [some (Blk.tip T n)].length, ∀ x, lk (some X :: [some (Blk.tip T n)]) a = some x → nbB (1 + [some (Blk.tip T n)].length) x := by
 intro a ha x hx
 have : a = 0 ∨ a = 1 := by simp at ha; omega
 rcases this with rfl | rfl
 ·cases hx
  exact hX _
 ·cases hx
  simp only [nbS]
theorem no_blk {X : Blk} (hX : ∀ k, nbB k X) : ∀ a < 1 + ([] : Hl).length, ∀ x, lk (some X :: []) a = some x → nbB (1 + ([] : Hl).length) x := by
 intro a ha x hx
 have : a = 0 := by simp at ha; omega
 subst this
 cases hx
 exact hX _
theorem kParse_ok {Γ : Glob} {m : Store} (s : List UInt8) (hs : s.length < 4611686018427387000) : ACalls Tryz.prog Γ 16 [bs s] m fun o m' => o = .ret (parseV s) ∧ m' = m := by
 refine acalls_v (acalls_p mixed F16_ok F16_h gok_nil (by first | exact LR.nil | simp only [nbS]) ?_)
 simp only [F16, q, qn, qg, qh, ss0, Nat.reduceSub, Nat.reduceAdd]
 simp only [ssH, Nat.reduceAdd, Nat.reduceLeDiff, reduceIte, Nat.reduceEqDiff, Nat.reduceLT, Int.reduceBEq, Int.reduceBNe]
 refine h_loop [0, 2, 4] 101 (fun n vs h => ∃ k : Nat, vs = [bs s, .ptr 0 0, it k] ∧ h = [some (.var 24 zC)] ∧ k + n = 18 ∧ 1 ≤ k ∧ NoneB s k) 17 (by decide) (by decide) (List.range 1) (back_take rfl (by decide) (by decide) (by simp) (by show nbs 1 [bs s, .ptr 0 0, it (1 : Nat)]; simp only [nbS]; decide) (nbB1 nbB_zC) ⟨1, rfl, rfl, rfl, by decide, fun j h1 h2 => by omega⟩) ?_
 rintro n tt hh J hJ hl2 ⟨k, hv, rfl, hkn, hk1, hno⟩
 simp only [List.map, List.cons.injEq, and_true] at hv
 obtain ⟨h0, h2, h4⟩ := hv
 rw [t_eq hl2]
 simp only [upTo_succ, upTo, h0, h2, h4, ssH, Nat.reduceAdd, Nat.reduceLeDiff, reduceIte, Nat.reduceEqDiff, Nat.reduceLT, Int.reduceBEq, Int.reduceBNe]
 by_cases hk : k ≤ 17
 ·have hWl := form_w (k : Int)
  rw [show decide ((k : Int) ≤ 17) = true by simp; omega]
  simp only [ssH, Nat.reduceAdd, Nat.reduceLeDiff, reduceIte, Nat.reduceEqDiff, Nat.reduceLT, Int.reduceBEq, Int.reduceBNe]
  refine hcall_pure (v := bs (formOf (k : Int)).w) (by exact fun m => kWord_ok hk1 (by omega)) (by first | exact LR.nil | simp only [nbS]) (by first | exact LR.nil | simp only [nbS]) ?_
  simp only [ssH, Nat.reduceAdd, Nat.reduceLeDiff, reduceIte, Nat.reduceEqDiff, Nat.reduceLT, Int.reduceBEq, Int.reduceBNe]
  generalize hW : (formOf (k : Int)).w = W at hWl ⊢
  have hnext : (W <+: s → ∀ x ∈ cands k s, ¬ (rightB x.1 x.2.1 x.2.2 = true ∧ printB x.1 x.2.1 x.2.2 = s)) → ∀ t' r, t'.length = 101 → tget t' 0 = bs s → tget t' 2 = .ptr 0 0 → tget t' 4 = it (k + 1 : Nat) → ∃ names, J names ⟨t', some (.var 24 zC) :: r⟩ := by
   intro hq t' r q0 q1 q2 q3
   refine ⟨_, hJ (n - 1) (List.range 1) _ (by omega) (back_take q0 (by decide) (by decide) (by simp) (by simp only [List.map, q1, q2, q3, nbS]; decide) (nbB1 nbB_zC) ⟨k + 1, by simp only [List.map, q1, q2, q3], rfl, by omega, by omega, ?_⟩)⟩
   intro j h1 h2 h3 x hx
   by_cases e : j = k
   ·subst e
    exact hq (hW ▸ h3) x hx
   ·exact hno j h1 (by omega) h3 x hx
  by_cases hl : s.length < W.length
  ·rw [show decide ((s.length : Int) < (W.length : Int)) = true by simp; omega]
   simp only [next_i64 (show k < 4611686018427387904 by omega), ssH, Nat.reduceAdd, Nat.reduceLeDiff, reduceIte, Nat.reduceEqDiff, Nat.reduceLT, Int.reduceBEq, Int.reduceBNe]
   exact hnext (fun hp => absurd hp.length_le (by omega)) _ _ rfl rfl rfl rfl
  rw [show decide ((s.length : Int) < (W.length : Int)) = false by simp; omega]
  by_cases hp : s.take W.length = W
  ·have hpx : W <+: s := hp ▸ List.take_prefix _ _
   have hb : (s.take W.length == W) = true := by simpa using hp
   simp only [slice_upto (show W.length ≤ s.length by omega), hb, next_i64 (show W.length < 4611686018427387904 by omega), ssH, Nat.reduceAdd, Nat.reduceLeDiff, reduceIte, Nat.reduceEqDiff, Nat.reduceLT, Int.reduceBEq, Int.reduceBNe]
   refine hcall_pure (by exact fun m => kNumber_ok s (W.length + 1) (by omega) (by omega)) (by first | exact LR.nil | simp only [nbS]) (by first | exact LR.nil | simp only [nbS]) ?_
   have hle := numK_le (s.drop (W.length + 1)) 0 (W.length + 1)
   have hdl : (s.drop (W.length + 1)).length ≤ s.length := by simp
   cases hx : numK (s.drop (W.length + 1)) 0 (W.length + 1) with
   | mk n1 a1 =>
   rw [hx] at hle
   have hC : cands k s = [((k : Int), (0 : Int), ([] : List UInt8)), ((k : Int), (n1 : Int), [])] ++ (if W.length < s.length then [((k : Int), (0 : Int), s.drop (W.length + 1))] else []) ++ (if a1 + 4 ≤ s.length then [((k : Int), (n1 : Int), s.drop (a1 + 4))] else []) := by
    unfold cands
    simp only [hW, hx]
   have hw4 : IntKind.i64.wrap ((a1 : Int) + 4) = ((a1 + 4 : Nat) : Int) := by
    rw [wrap_i64 (by omega) (by omega)]
    omega
   simp only [lit32_eq, lits3_two, ssH, Nat.reduceAdd, Nat.reduceLeDiff, reduceIte, Nat.reduceEqDiff, Nat.reduceLT, Int.reduceBEq, Int.reduceBNe]
   simp only [gt_iff_lt]
   by_cases c1 : W.length < s.length
   ·rw [show decide ((W.length : Int) < (s.length : Int)) = true by simp; omega]
    simp only [slice_from (show W.length + 1 ≤ s.length by omega), next_i64 (show W.length < 4611686018427387904 by omega), lit31_eq, lits3_one, ssH, Nat.reduceAdd, Nat.reduceLeDiff, reduceIte, Nat.reduceEqDiff, Nat.reduceLT, Int.reduceBEq, Int.reduceBNe]
    refine app_c1 [((k : Int), (0 : Int), ([] : List UInt8)), ((k : Int), (n1 : Int), [])] ((k : Int), (0 : Int), s.drop (W.length + 1)) (by simp) ?_
    simp only [hw4, ssH, Nat.reduceAdd, Nat.reduceLeDiff, reduceIte, Nat.reduceEqDiff, Nat.reduceLT, Int.reduceBEq, Int.reduceBNe]
    by_cases c2 : a1 + 4 ≤ s.length
    ·rw [show decide (((a1 + 4 : Nat) : Int) ≤ (s.length : Int)) = true by simp; omega]
     simp only [slice_from (show a1 + 4 ≤ s.length by omega), hw4, lit31_eq, lits3_one, ssH, Nat.reduceAdd, Nat.reduceLeDiff, reduceIte, Nat.reduceEqDiff, Nat.reduceLT, Int.reduceBEq, Int.reduceBNe]
     refine app_c2 ([((k : Int), (0 : Int), ([] : List UInt8)), ((k : Int), (n1 : Int), [])] ++ [((k : Int), (0 : Int), s.drop (W.length + 1))]) ((k : Int), (n1 : Int), s.drop (a1 + 4)) (by simp) (by simp) ?_
     simp only [ssH, Nat.reduceAdd, Nat.reduceLeDiff, reduceIte, Nat.reduceEqDiff, Nat.reduceLT, Int.reduceBEq, Int.reduceBNe]
     refine kParse_inner (C := [((k : Int), (0 : Int), ([] : List UInt8)), ((k : Int), (n1 : Int), [])] ++ [((k : Int), (0 : Int), s.drop (W.length + 1))] ++ [((k : Int), (n1 : Int), s.drop (a1 + 4))]) (tok := .tip 1 1) (r := [some (.tip 24 1)]) (k := k) rfl rfl rfl rfl rfl rfl (by simp) (tip_blk (k := 0) fun k => nbB_zC) (by rw [nbT_tip]; decide) (by simp) ?_ ?_
     ·intro x hx h1 h2 t' q2 q3
      simp only [ssH, Nat.reduceAdd, Nat.reduceLeDiff, reduceIte, Nat.reduceEqDiff, Nat.reduceLT, Int.reduceBEq, Int.reduceBNe]
      exact cfin h1 h2 q2 q3
     ·intro hq t' q0 q1 q2 q3
      rw [t_eq q0]
      simp only [upTo_succ, upTo, q1, q2, q3, next_i64 (show k < 4611686018427387904 by omega), ssH, Nat.reduceAdd, Nat.reduceLeDiff, reduceIte, Nat.reduceEqDiff, Nat.reduceLT, Int.reduceBEq, Int.reduceBNe]
      refine hnext (fun _ => ?_) _ _ rfl rfl rfl rfl
      rw [hC, if_pos c1, if_pos c2]
      exact hq
    ·rw [show decide (((a1 + 4 : Nat) : Int) ≤ (s.length : Int)) = false by simp; omega]
     simp only [ssH, Nat.reduceAdd, Nat.reduceLeDiff, reduceIte, Nat.reduceEqDiff, Nat.reduceLT, Int.reduceBEq, Int.reduceBNe]
     refine kParse_inner (C := [((k : Int), (0 : Int), ([] : List UInt8)), ((k : Int), (n1 : Int), [])] ++ [((k : Int), (0 : Int), s.drop (W.length + 1))]) (tok := .tip 1 0) (r := [some (.tip 24 0)]) (k := k) rfl rfl rfl rfl rfl rfl (by simp) (tip_blk (k := 0) fun k => nbB_zC) (by rw [nbT_tip]; decide) (by simp) ?_ ?_
     ·intro x hx h1 h2 t' q2 q3
      simp only [ssH, Nat.reduceAdd, Nat.reduceLeDiff, reduceIte, Nat.reduceEqDiff, Nat.reduceLT, Int.reduceBEq, Int.reduceBNe]
      exact cfin h1 h2 q2 q3
     ·intro hq t' q0 q1 q2 q3
      rw [t_eq q0]
      simp only [upTo_succ, upTo, q1, q2, q3, next_i64 (show k < 4611686018427387904 by omega), ssH, Nat.reduceAdd, Nat.reduceLeDiff, reduceIte, Nat.reduceEqDiff, Nat.reduceLT, Int.reduceBEq, Int.reduceBNe]
      refine hnext (fun _ => ?_) _ _ rfl rfl rfl rfl
      rw [hC, if_pos c1, if_neg c2, List.append_nil]
      exact hq
   ·rw [show decide ((W.length : Int) < (s.length : Int)) = false by simp; omega]
    simp only [hw4, ssH, Nat.reduceAdd, Nat.reduceLeDiff, reduceIte, Nat.reduceEqDiff, Nat.reduceLT, Int.reduceBEq, Int.reduceBNe]
    by_cases c2 : a1 + 4 ≤ s.length
    ·rw [show decide (((a1 + 4 : Nat) : Int) ≤ (s.length : Int)) = true by simp; omega]
     simp only [slice_from (show a1 + 4 ≤ s.length by omega), hw4, lit31_eq, lits3_one, ssH, Nat.reduceAdd, Nat.reduceLeDiff, reduceIte, Nat.reduceEqDiff, Nat.reduceLT, Int.reduceBEq, Int.reduceBNe]
     refine app_c1 [((k : Int), (0 : Int), ([] : List UInt8)), ((k : Int), (n1 : Int), [])] ((k : Int), (n1 : Int), s.drop (a1 + 4)) (by simp) ?_
     simp only [ssH, Nat.reduceAdd, Nat.reduceLeDiff, reduceIte, Nat.reduceEqDiff, Nat.reduceLT, Int.reduceBEq, Int.reduceBNe]
     refine kParse_inner (C := [((k : Int), (0 : Int), ([] : List UInt8)), ((k : Int), (n1 : Int), [])] ++ [((k : Int), (n1 : Int), s.drop (a1 + 4))]) (tok := .tip 1 0) (r := [some (.tip 24 0)]) (k := k) rfl rfl rfl rfl rfl rfl (by simp) (tip_blk (k := 0) fun k => nbB_zC) (by rw [nbT_tip]; decide) (by simp) ?_ ?_
     ·intro x hx h1 h2 t' q2 q3
      simp only [ssH, Nat.reduceAdd, Nat.reduceLeDiff, reduceIte, Nat.reduceEqDiff, Nat.reduceLT, Int.reduceBEq, Int.reduceBNe]
      exact cfin h1 h2 q2 q3
     ·intro hq t' q0 q1 q2 q3
      rw [t_eq q0]
      simp only [upTo_succ, upTo, q1, q2, q3, next_i64 (show k < 4611686018427387904 by omega), ssH, Nat.reduceAdd, Nat.reduceLeDiff, reduceIte, Nat.reduceEqDiff, Nat.reduceLT, Int.reduceBEq, Int.reduceBNe]
      refine hnext (fun _ => ?_) _ _ rfl rfl rfl rfl
      rw [hC, if_neg c1, if_pos c2, List.append_nil]
      exact hq
    ·rw [show decide (((a1 + 4 : Nat) : Int) ≤ (s.length : Int)) = false by simp; omega]
     simp only [ssH, Nat.reduceAdd, Nat.reduceLeDiff, reduceIte, Nat.reduceEqDiff, Nat.reduceLT, Int.reduceBEq, Int.reduceBNe]
     refine kParse_inner (C := [((k : Int), (0 : Int), ([] : List UInt8)), ((k : Int), (n1 : Int), [])]) (tok := .full) (r := []) (k := k) rfl rfl rfl rfl rfl rfl (by simp) (no_blk fun k => nbB_zC) (by rw [nbT_full]; trivial) (by simp) ?_ ?_
     ·intro x hx h1 h2 t' q2 q3
      simp only [ssH, Nat.reduceAdd, Nat.reduceLeDiff, reduceIte, Nat.reduceEqDiff, Nat.reduceLT, Int.reduceBEq, Int.reduceBNe]
      exact cfin h1 h2 q2 q3
     ·intro hq t' q0 q1 q2 q3
      rw [t_eq q0]
      simp only [upTo_succ, upTo, q1, q2, q3, next_i64 (show k < 4611686018427387904 by omega), ssH, Nat.reduceAdd, Nat.reduceLeDiff, reduceIte, Nat.reduceEqDiff, Nat.reduceLT, Int.reduceBEq, Int.reduceBNe]
      refine hnext (fun _ => ?_) _ _ rfl rfl rfl rfl
      rw [hC, if_neg c1, if_neg c2, List.append_nil, List.append_nil]
      exact hq
  ·have hb : (s.take W.length == W) = false := by simpa using hp
   simp only [slice_upto (show W.length ≤ s.length by omega), hb, next_i64 (show k < 4611686018427387904 by omega), ssH, Nat.reduceAdd, Nat.reduceLeDiff, reduceIte, Nat.reduceEqDiff, Nat.reduceLT, Int.reduceBEq, Int.reduceBNe]
   exact hnext (fun hq => absurd (List.prefix_iff_eq_take.1 hq).symm hp) _ _ rfl rfl rfl rfl
 ·rw [show decide ((k : Int) ≤ 17) = false by simp; omega]
  have : k = 18 := by omega
  subst this
  have hpn := parse_none hno
  simp only [zC, ssH, Nat.reduceAdd, Nat.reduceLeDiff, reduceIte, Nat.reduceEqDiff, Nat.reduceLT, Int.reduceBEq, Int.reduceBNe]
  refine bodyH_ret (v := .tup [cmdV 0 0 [], it 6]) rfl ⟨?_, (pv_none hpn).symm⟩
  simp only [nb_cmdV, nbS]
end Go.Av.Fn
/- Any text is the command that the document says, or none's: the statement's function, walked. Conditions az ahead; numbers are written. -/
namespace Go.Av.Fn
set_option linter.unusedSimpArgs false
set_option linter.unusedVariables false
set_option maxRecDepth 10000
open Go.Proofs
theorem commandParses_ok {Γ : Glob} {m : Store} (E : Env2 Γ) (F : FmtAll Γ) (s : List UInt8) (hs : s.length ≤ 140737488351232) :
  ACalls Tryz.prog Γ 3 [bs s] m fun o m' => o = .ret (.val (.bool true)) ∧ m' = m := by
 obtain ⟨k, n, t, e, he⟩ : ∃ k n t e, parseV s = .tup [.agg [it k, it n, bs t], it e] := by
  unfold parseV
  split
  ·exact ⟨_, _, _, _, rfl⟩
  ·exact ⟨_, _, _, _, rfl⟩
 have hnb : nb 0 (.tup [.agg [it k, it n, bs t], it e]) := by
  simp only [nbS]
 refine acalls_v (acalls_p mixed F3_ok F3_h gok_nil (by first | exact LR.nil | simp only [nbS]) ?_)
 simp only [F3, q, qn, qg, qh, ss0, Nat.reduceSub, Nat.reduceAdd]
 simp only [ssH, Nat.reduceAdd, Nat.reduceLeDiff, reduceIte, Nat.reduceEqDiff, Nat.reduceLT, Int.reduceBEq, Int.reduceBNe]
 refine hcall_pure (v := .tup [.agg [it k, it n, bs t], it e]) (by intro m; have := parse_ok (m := m) E s (by omega) (fun _ => F.num _); rw [he] at this; exact this) (by first | exact LR.nil | simp only [nbS]) hnb ?_
 simp only [ssH, Nat.reduceAdd, Nat.reduceLeDiff, reduceIte, Nat.reduceEqDiff, Nat.reduceLT, Int.reduceBEq, Int.reduceBNe]
 refine hcall_pure (v := .tup [.agg [it k, it n, bs t], it e]) (by intro m; have := kParse_ok (Γ := Γ) (m := m) s (by omega); rw [he] at this; exact this) (by first | exact LR.nil | simp only [nbS]) hnb ?_
 simp only [cmd_eq, beq_self_eq_true, and_self, decide_true, ssH, Nat.reduceAdd, Nat.reduceLeDiff, reduceIte, Nat.reduceEqDiff, Nat.reduceLT, Int.reduceBEq, Int.reduceBNe]
 refine hcall_pure (v := .val (.bool true)) (by exact fun m => lives17_ok E) (by first | exact LR.nil | simp only [nbS]) (by first | exact LR.nil | simp only [nbS]) ?_
 simp only [ssH, Nat.reduceAdd, Nat.reduceLeDiff, reduceIte, Nat.reduceEqDiff, Nat.reduceLT, Int.reduceBEq, Int.reduceBNe]
 exact fin6 rfl
end Go.Av.Fn
/- What the listed variables hold is read off the row. No condition. -/
namespace Go.Av.Fn
set_option linter.unusedVariables false
set_option maxRecDepth 100000
open Go.Proofs Go.RowKit Go.Proofs.YtfanfdflpakjeaaGreatDoor
def laidL : List (String × DataW Unit) := [("math/bits.deBruijn32tab", Rows.laid_math_bits_deBruijn32tab), ("math/bits.deBruijn64tab", Rows.laid_math_bits_deBruijn64tab), ("internal/strconv.uint64pow10", Rows.laid_internal_strconv_uint64pow10), ("errors.errorType", Rows.laid_errors_errorType), ("strconv.ErrRange", Rows.laid_strconv_ErrRange), ("strconv.ErrSyntax", Rows.laid_strconv_ErrSyntax), ("hindcast/lex.words", Rows.laid_hindcast_lex_words), ("hindcast/lex.signs", Rows.laid_hindcast_lex_signs)]
def laidP : List (String × DataW Unit) := [("math/bits.deBruijn32tab", Rows.laid_math_bits_deBruijn32tab), ("math/bits.deBruijn64tab", Rows.laid_math_bits_deBruijn64tab), ("internal/strconv.uint64pow10", Rows.laid_internal_strconv_uint64pow10), ("strconv.ErrRange", Rows.laid_strconv_ErrRange), ("strconv.ErrSyntax", Rows.laid_strconv_ErrSyntax), ("hindcast/lex.words", Rows.laid_hindcast_lex_words), ("hindcast/lex.signs", Rows.laid_hindcast_lex_signs)]
theorem laid_some : (laidL.filter fun x => x.2.handleName?.isSome) = [("errors.errorType", Rows.laid_errors_errorType)] := by kernel_rfl
theorem laid_none : (laidL.filter fun x => x.2.handleName?.isNone) = laidP := by kernel_rfl
theorem gWords : Tryz.prog.globalNamed "hindcast/lex.words" = some 3 := by kernel_rfl
theorem gSigns : Tryz.prog.globalNamed "hindcast/lex.signs" = some 2 := by kernel_rfl
theorem gRange : Tryz.prog.globalNamed "strconv.ErrRange" = some 5 := by kernel_rfl
theorem gSyntax : Tryz.prog.globalNamed "strconv.ErrSyntax" = some 4 := by kernel_rfl
theorem gErrT : Tryz.prog.globalNamed "errors.errorType" = some 6 := by kernel_rfl
theorem tWords : (Tryz.prog.globals[3]?).map (·.type) = some 234 := by kernel_rfl
theorem tSigns : (Tryz.prog.globals[2]?).map (·.type) = some 233 := by kernel_rfl
theorem tRange : (Tryz.prog.globals[5]?).map (·.type) = some 163 := by kernel_rfl
theorem tSyntax : (Tryz.prog.globals[4]?).map (·.type) = some 163 := by kernel_rfl
theorem gPow : Tryz.prog.globalNamed "internal/strconv.uint64pow10" = some 1 := by kernel_rfl
theorem tPow : (Tryz.prog.globals[1]?).map (·.type) = some 227 := by kernel_rfl
theorem cells9 : Tryz.prog.cellsOf 9 = 1 := by kernel_rfl
theorem cellsES : Tryz.prog.cellsOf 284 = 1 := by kernel_rfl
theorem star : "*" ++ "errors.errorString" = "*errors.errorString" := by decide
theorem rowES (u : TypeId) (h : Tryz.prog.typeName? 3 u = some "*errors.errorString") : u = 282 :=
 typeName_ptr_named (nm := "errors.errorString") (by rw [star]; kernel_rfl) (by kernel_rfl) (by decide) u (by rw [star]; exact h)
theorem rtRow : (Tryz.prog.cutTypes.find? (·.1 == "internal/reflectlite.rtype")).map (·.2) = some 289 := by kernel_rfl
theorem oneRow : ((List.range Tryz.prog.types.size).filter fun t => Tryz.prog.rowNamed t [101, 114, 114, 111, 114]) = [163] := by kernel_rfl
def gl (p q : Value) : Glob := fun g => if g = 2 then some (signsB.map bs) else if g = 3 then some (wordsB.map bs) else if g = 5 then some [.ifc 282 (.val p)] else if g = 4 then some [.ifc 282 (.val q)] else if g = 6 then some [.ifc 289 (.agg [.ptr 9 163])] else if g = 1 then some powV else none
theorem errT_of {W : World} (h : handlesMet Tryz.prog [("errors.errorType", Rows.laid_errors_errorType)] W) : W.cell? ⟨6, 0, none⟩ = some (.iface 289 (.agg #[.pointer (some ⟨9, 163, none⟩)])) := by
 obtain ⟨name, u, ty, e1, e2, e3, e4, e5⟩ := h _ (List.mem_singleton.2 rfl)
 have en : name = [101, 114, 114, 111, 114] := (Option.some.inj e1).symm
 subst en
 obtain rfl := Option.some.inj (rtRow.symm.trans e2)
 have hm : ty ∈ (List.range Tryz.prog.types.size).filter fun t => Tryz.prog.rowNamed t [101, 114, 114, 111, 114] := List.mem_filter.2 ⟨List.mem_range.2 e3, e4⟩
 rw [oneRow] at hm
 obtain rfl := List.mem_singleton.1 hm
 have hh : typeHandle Tryz.prog 163 = .pointer (some ⟨9, 163, none⟩) := by kernel_rfl
 rw [hh] at e5
 simpa using World.var?_cell gErrT e5 0
theorem pow_rel {G : Gh} : ∀ l : List Int, RelL G (l.map fun z => V.val (.int .u64 z)) (l.map fun z => Value.int .u64 z)
 | [] => .nil
 | z :: l => .cons (.val rfl) (pow_rel l)
theorem start_of_laid {W : World} (hH : laidMetH Tryz.prog laidL W) : ∃ p q, noAgg p = true ∧ noAgg q = true ∧ Rep (gl p q) W.heap.size (startG (gl p q) W) (fun _ => none) W := by
 obtain ⟨h, hh⟩ : laidMet Tryz.prog laidP W ∧ handlesMet Tryz.prog [("errors.errorType", Rows.laid_errors_errorType)] W := by
  unfold laidMetH at hH
  rw [laid_some, laid_none] at hH
  exact hH
 have hw := strs_of_reads (L := wordsB) (Lib.laidMet.reads h (.tail _ (.tail _ (.tail _ (.tail _ (.tail _ (.head _))))))) gWords tWords Tryz.underlying234 Tryz.underlying9 cells9
 have hs := strs_of_reads (L := signsB) (Lib.laidMet.reads h (.tail _ (.tail _ (.tail _ (.tail _ (.tail _ (.tail _ (.head _)))))))) gSigns tSigns Tryz.underlying233 Tryz.underlying9 cells9
 obtain ⟨a1, s1, hv1, _⟩ := laid_sentinel h.tail.tail.tail gRange tRange Tryz.underlying163 rowES Tryz.underlying282 Tryz.underlying284 rfl rfl Tryz.underlying9 cellsES cells9
 obtain ⟨a2, s2, hv2, _⟩ := laid_sentinel h.tail.tail.tail.tail gSyntax tSyntax Tryz.underlying163 rowES Tryz.underlying282 Tryz.underlying284 rfl rfl Tryz.underlying9 cellsES cells9
 have he1 : W.cell? ⟨5, 0, none⟩ = some (.iface 282 (.pointer (some a1))) := by simpa using World.var?_cell gRange hv1 0
 have he2 : W.cell? ⟨4, 0, none⟩ = some (.iface 282 (.pointer (some a2))) := by simpa using World.var?_cell gSyntax hv2 0
 have he3 := errT_of hh
 have hpow : Lib.TabIs Tryz.prog W "internal/strconv.uint64pow10" .u64 Lib.pow10Tab := Lib.tabIs_of_head gPow tPow Tryz.underlying227 Tryz.underlying154 (by kernel_rfl) (by kernel_rfl) h.tail.tail
 have hpc : ∃ T fz, W.heap[1]? = some (.cells (Lib.pow10Tab.map fun z => Value.int .u64 z).toArray T fz) := by
  unfold Lib.TabIs World.var? at hpow
  rw [gPow] at hpow
  simp only [Option.bind_some] at hpow
  split at hpow
  ·rename_i cs T fz hcs
   cases hpow
   exact ⟨_, _, hcs⟩
  ·cases hpow
 refine ⟨.pointer (some a1), .pointer (some a2), rfl, rfl, start_rep (fun g cs hg => ?_) ?_⟩
 rotate_left
 ·intro g cs hg h20
  unfold gl at hg
  split at hg
  ·cases hg; simp [signsB] at h20
  ·split at hg
   ·cases hg; simp [wordsB] at h20
   ·split at hg
    ·cases hg; simp at h20
    ·split at hg
     ·cases hg; simp at h20
     ·split at hg
      ·cases hg; simp at h20
      ·split at hg
       ·rename_i e
        subst e
        obtain ⟨T, fz, hcs⟩ := hpc
        exact ⟨(Array.getElem?_eq_some_iff.1 hcs).1, _, T, fz, hcs, by simp [Lib.pow10Tab]⟩
       ·cases hg
 have hone : ∀ {g : Nat} {v : V} {x : Value}, RelV (startG (gl (.pointer (some a1)) (.pointer (some a2))) W) v x → W.cell? ⟨g, 0, none⟩ = some x → ∃ us, RelL (startG (gl (.pointer (some a1)) (.pointer (some a2))) W) [v] us ∧ ∀ i u, us[i]? = some u → W.cell? ⟨g, i, none⟩ = some u := by
  intro g v x hv hc
  refine ⟨[x], .cons hv .nil, fun i u hu => ?_⟩
  cases i with
  | zero =>
   simp only [List.getElem?_cons_zero, Option.some.injEq] at hu
   rw [← hu]
   exact hc
  | succ i => simp at hu
 unfold gl at hg
 split at hg
 ·rename_i h0
  subst h0
  cases hg
  refine ⟨_, rel_bs signsB, fun i u hu => ?_⟩
  rw [List.getElem?_map] at hu
  obtain ⟨s, h1, rfl⟩ := Option.map_eq_some_iff.1 hu
  exact hs i s h1
 ·split at hg
  ·rename_i h0
   subst h0
   cases hg
   refine ⟨_, rel_bs wordsB, fun i u hu => ?_⟩
   rw [List.getElem?_map] at hu
   obtain ⟨s, h1, rfl⟩ := Option.map_eq_some_iff.1 hu
   exact hw i s h1
  ·split at hg
   ·rename_i h0
    subst h0
    cases hg
    exact hone (.ifc (.val rfl)) he1
   ·split at hg
    ·rename_i h0
     subst h0
     cases hg
     exact hone (.ifc (.val rfl)) he2
    ·split at hg
     ·rename_i h0
      subst h0
      cases hg
      exact hone (.ifc (.agg (.cons (.ptr _ _) .nil))) he3
     ·split at hg
      ·rename_i h0
       subst h0
       cases hg
       obtain ⟨T, fz, hcs⟩ := hpc
       refine ⟨Lib.pow10Tab.map fun z => Value.int .u64 z, pow_rel _, fun i u hu => ?_⟩
       simp only [World.cell?, hcs, Option.isSome_none, Bool.false_eq_true, if_false]
       rw [List.getElem?_toArray]
       exact hu
      ·cases hg
theorem fmt_gl (p q : Value) {n : Int} (h0 : -9223372036854775808 ≤ n) (h1 : n ≤ 9223372036854775807) : FmtAt (gl p q) n := fmt_all rfl h0 h1
theorem env_gl (p q : Value) : Env2 (gl p q) where
 env := { lib := libOk, parse := parse28 (T := 282) (v := .val p) rfl, words := rfl, signs := rfl, errT := rfl }
 range := ⟨282, .val p, rfl⟩
 syn := ⟨282, .val q, rfl⟩
end Go.Av.Fn
