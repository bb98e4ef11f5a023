/- A text's tokens do not change by going behind a blank. No condition. -/
import Derived.Test.YtgjmoaifdldkaaaDoorW10
namespace Go.Av.Fn
set_option linter.unusedSimpArgs false
set_option linter.unusedVariables false

theorem skipL_ge {r : List UInt8} {a l : Nat} : a ≤ (skipL r a l).1 := by
  fun_induction skipL r a l <;> omega

def scanN (r : List UInt8) (x : Nat × Nat) (acc : List Tk) : Except (Nat × Int) (List Tk) := match tokL r with
  | .error e => if r = [] then .ok (acc ++ [⟨0, [], 0, x.2, x.1⟩]) else .error (x.1, e)
  | .ok (t, n) => scanL (r.drop n) (x.1 + n) x.2 (acc ++ [{ t with l := x.2, a := x.1 }])

theorem scanL_eq (r : List UInt8) (a l : Nat) (acc : List Tk) : scanL r a l acc = scanN (r.drop ((skipL r a l).1 - a)) (skipL r a l) acc := by
  rw [scanL]
  unfold scanN
  split
  · rename_i e h
    simp only [h]
  · rename_i t n h
    simp only [h]

theorem scanL_step {r : List UInt8} {a l k l2 : Nat} {acc : List Tk} (h : skipL r a l = skipL (r.drop k) (a + k) l2) : scanL r a l acc = scanL (r.drop k) (a + k) l2 acc := by
  rw [scanL_eq, scanL_eq (r.drop k), ← h, List.drop_drop]
  have := skipL_ge (r := r.drop k) (a := a + k) (l := l2)
  rw [← h] at this
  rw [show k + ((skipL r a l).1 - (a + k)) = (skipL r a l).1 - a by omega]
end Go.Av.Fn
