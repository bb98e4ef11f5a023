/- A text's tokens, in plain terms. No condition. -/
import Derived.Test.YtgjmoaifdldkaaaDoorW5
import Derived.Test.YtgjmoaifdldkaaaDoorW9
namespace Go.Av.Fn
set_option linter.unusedSimpArgs false
set_option linter.unusedVariables false

theorem qL_len {r acc : List UInt8} {k : Nat} {l : List UInt8} {k' : Nat} (h : qL r acc k = .ok (l, k')) : k ≤ k' ∧ k' < k + r.length := by
  fun_induction qL r acc k <;> simp_all <;> omega

theorem tokL_len {r : List UInt8} {t : Tk} {n : Nat} (h : tokL r = .ok (t, n)) : 0 < n ∧ n ≤ r.length := by
  unfold tokL at h
  split at h
  · cases h
  · rename_i c r' 
    split at h
    · rename_i hc
      have h1 : 0 < ((c :: r').takeWhile alnum).length := by
        rw [List.takeWhile_cons_of_pos (by simp [alnum, hc])]
        simp
      have h2 := (List.takeWhile_sublist alnum (l := c :: r')).length_le
      split at h
      · simp only [Except.ok.injEq, Prod.mk.injEq] at h
        omega
      · split at h
        · cases h
        · simp only [Except.ok.injEq, Prod.mk.injEq] at h
          omega
    · split at h
      · rename_i hc
        have h1 : 0 < ((c :: r').takeWhile dig).length := by
          rw [List.takeWhile_cons_of_pos hc]
          simp
        have h2 := (List.takeWhile_sublist dig (l := c :: r')).length_le
        split at h
        · cases h
        · simp only [Except.ok.injEq, Prod.mk.injEq] at h
          omega
      · split at h
        · split at h
          · cases h
          · rename_i l k hq
            have := qL_len hq
            simp only [Except.ok.injEq, Prod.mk.injEq] at h
            simp at this ⊢
            omega
        · split at h
          · rename_i p hp
            simp only [Except.ok.injEq, Prod.mk.injEq] at h
            have h1 := List.mem_of_find?_eq_some hp
            have h2 := List.find?_some hp
            have h3 : ∀ p ∈ signsB, 0 < p.length := by decide
            have h4 := h3 p h1
            have h5 := pre_len h2
            omega
          · cases h

/-- A text's tokens, from a place on, or the place and the reason that there are none. -/
def scanL (r : List UInt8) (a l : Nat) (acc : List Tk) : Except (Nat × Int) (List Tk) :=
  let x := skipL r a l
  let r' := r.drop (x.1 - a)
  match h : tokL r' with
  | .error e => if r' = [] then .ok (acc ++ [⟨0, [], 0, x.2, x.1⟩]) else .error (x.1, e)
  | .ok (t, n) => scanL (r'.drop n) (x.1 + n) x.2 (acc ++ [{ t with l := x.2, a := x.1 }])
termination_by r.length
decreasing_by
  have h1 := tokL_len h
  have h2 : r'.length ≤ r.length := by
    show (r.drop _).length ≤ r.length
    rw [List.length_drop]
    omega
  have h3 : r'.length = (r.drop ((skipL r a l).1 - a)).length := rfl
  rw [List.length_drop]
  omega
end Go.Av.Fn
