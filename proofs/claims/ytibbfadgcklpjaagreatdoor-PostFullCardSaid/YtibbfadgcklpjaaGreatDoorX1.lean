/- What is reckoned out whole: the examples of three chapters, and two statements' functions. No condition. -/
import Derived.Test.YtibbfadgcklpjaaGreatDoorTab
namespace Go.Av.Fn
open Go.Proofs
set_option maxRecDepth 1000000

theorem globOk {Γ : Glob} (h0 : Γ 0 = some (signsB.map bs)) (h1 : Γ 1 = some (wordsB.map bs)) : GlobOk G0 Γ := by
  intro g cs hg
  unfold G0 at hg
  cases hb : Nat.beq g 0
  · rw [hb] at hg
    simp only [cond_false] at hg
    cases hc : Nat.beq g 1
    · rw [hc] at hg
      cases hg
    · rw [hc] at hg
      obtain rfl := Nat.eq_of_beq_eq_true hc
      cases hg
      exact ⟨h1, rfl⟩
  · rw [hb] at hg
    obtain rfl := Nat.eq_of_beq_eq_true hb
    cases hg
    exact ⟨h0, rfl⟩

theorem lives23_run : isTrue (callI Tryz.prog G0 (fun _ _ _ => none) (look tabA) 2000 40 14 [] ⟨0, .nil⟩) = true := by kernel_rfl
theorem postNil_run1 (i : Int) : isTrue (callI Tryz.prog G0 (fun _ _ _ => none) (look tabA) 2000 40 6 [it i, .val (.bool true)] ⟨0, .nil⟩) = true := by kernel_rfl
theorem postNil_run0 (i : Int) : isTrue (callI Tryz.prog G0 (fun _ _ _ => none) (look tabA) 2000 40 6 [it i, .val (.bool false)] ⟨0, .nil⟩) = true := by kernel_rfl
theorem clientNil_run1 (x1 x2 x3 x4 x5 x6 x7 x8 y1 y2 y3 y4 y5 y6 y7 y8 y9 y10 y11 y12 y13 y14 y15 y16 y17 y18 y19 y20 y21 y22 : V) : isTrue (callI Tryz.prog G0 (fun _ _ _ => none) (look tabA) 2000 40 3 [.agg [x1, x2, x3, x4, x5, x6, x7, x8], .agg [y1, y2, y3, y4, y5, y6, y7, y8, y9, y10, y11, y12, y13, y14, y15, y16, y17, y18, y19, y20, y21, y22], .val (.bool true)] ⟨0, .nil⟩) = true := by kernel_rfl
theorem clientNil_run0 (x1 x2 x3 x4 x5 x6 x7 x8 y1 y2 y3 y4 y5 y6 y7 y8 y9 y10 y11 y12 y13 y14 y15 y16 y17 y18 y19 y20 y21 y22 : V) : isTrue (callI Tryz.prog G0 (fun _ _ _ => none) (look tabA) 2000 40 3 [.agg [x1, x2, x3, x4, x5, x6, x7, x8], .agg [y1, y2, y3, y4, y5, y6, y7, y8, y9, y10, y11, y12, y13, y14, y15, y16, y17, y18, y19, y20, y21, y22], .val (.bool false)] ⟨0, .nil⟩) = true := by kernel_rfl

section
variable {Γ : Glob} {m : Store}
theorem lives23_ok (h0 : Γ 0 = some (signsB.map bs)) (h1 : Γ 1 = some (wordsB.map bs)) : ACalls Tryz.prog Γ 14 [] m fun o m' => o = .ret (.val (.bool true)) ∧ m' = m :=
  acalls_true mixed (globOk h0 h1) tabA_ok .nil lives23_run
theorem postNil_ok (h0 : Γ 0 = some (signsB.map bs)) (h1 : Γ 1 = some (wordsB.map bs)) (i : Int) (b : Bool) : ACalls Tryz.prog Γ 6 [it i, .val (.bool b)] m fun o m' => o = .ret (.val (.bool true)) ∧ m' = m := by
  cases b
  · exact acalls_true mixed (globOk h0 h1) tabA_ok (.cons (.val _) (.cons (.val _) .nil)) (postNil_run0 i)
  · exact acalls_true mixed (globOk h0 h1) tabA_ok (.cons (.val _) (.cons (.val _) .nil)) (postNil_run1 i)
theorem list8 {α : Type} {l : List α} (h : l.length = 8) : ∃ x1 x2 x3 x4 x5 x6 x7 x8, l = [x1, x2, x3, x4, x5, x6, x7, x8] := by
  match l, h with
  | [x1, x2, x3, x4, x5, x6, x7, x8], _ => exact ⟨_, _, _, _, _, _, _, _, rfl⟩
theorem list22 {α : Type} {l : List α} (h : l.length = 22) : ∃ y1 y2 y3 y4 y5 y6 y7 y8 y9 y10 y11 y12 y13 y14 y15 y16 y17 y18 y19 y20 y21 y22, l = [y1, y2, y3, y4, y5, y6, y7, y8, y9, y10, y11, y12, y13, y14, y15, y16, y17, y18, y19, y20, y21, y22] := by
  match l, h with
  | [y1, y2, y3, y4, y5, y6, y7, y8, y9, y10, y11, y12, y13, y14, y15, y16, y17, y18, y19, y20, y21, y22], _ => exact ⟨_, _, _, _, _, _, _, _, _, _, _, _, _, _, _, _, _, _, _, _, _, _, rfl⟩
theorem clientNil_ok (h0 : Γ 0 = some (signsB.map bs)) (h1 : Γ 1 = some (wordsB.map bs)) {e g : List Value} (he : e.length = 8) (hg : g.length = 22) (b : Bool) : ACalls Tryz.prog Γ 3 [.agg (e.map .val), .agg (g.map .val), .val (.bool b)] m fun o m' => o = .ret (.val (.bool true)) ∧ m' = m := by
  obtain ⟨x1, x2, x3, x4, x5, x6, x7, x8, rfl⟩ := list8 he
  obtain ⟨y1, y2, y3, y4, y5, y6, y7, y8, y9, y10, y11, y12, y13, y14, y15, y16, y17, y18, y19, y20, y21, y22, rfl⟩ := list22 hg
  cases b
  · exact acalls_true mixed (globOk h0 h1) tabA_ok (.cons (.agg (LR.vals _)) (.cons (.agg (LR.vals _)) (.cons (.val _) .nil))) (clientNil_run0 _ _ _ _ _ _ _ _ _ _ _ _ _ _ _ _ _ _ _ _ _ _ _ _ _ _ _ _ _ _)
  · exact acalls_true mixed (globOk h0 h1) tabA_ok (.cons (.agg (LR.vals _)) (.cons (.agg (LR.vals _)) (.cons (.val _) .nil))) (clientNil_run1 _ _ _ _ _ _ _ _ _ _ _ _ _ _ _ _ _ _ _ _ _ _ _ _ _ _ _ _ _ _)
end
end Go.Av.Fn
