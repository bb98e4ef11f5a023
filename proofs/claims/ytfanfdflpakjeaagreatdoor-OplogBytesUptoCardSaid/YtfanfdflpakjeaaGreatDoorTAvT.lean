/- Calls reckoned out whose answer is not closed; slices that are full or whose end is held. No condition. -/
import Derived.Test.YtfanfdflpakjeaaGreatDoorTAvJ
namespace Go.Av
set_option linter.unusedSimpArgs false
set_option linter.unusedVariables false
/-! ### Values without blocks -/
section
variable {P : Program} {Γ Γ0 : Glob} {call : FuncId → List V → Hp → Option (Out × Hp)}
end
/-! ### Slices that are full, or whose end is held -/
def BufF (e : TypeId) (size : Nat) (m m' : Store) (v : V) (es : List V) : Prop := szOk size es = true ∧
 ((v = .sl es [] .full ∧ m' = m) ∨ (es ≠ [] ∧ ∃ b k, m b = none ∧ m' = m.set b (.tip e k) ∧ v = .sl es [] (.tip b k)))
theorem BufF.start {e : TypeId} {size : Nat} {m : Store} : BufF e size m m (.sl [] [] .full) [] := ⟨rfl, .inl ⟨rfl, rfl⟩⟩
theorem BufF.sub {e : TypeId} {size : Nat} {m m' : Store} {v : V} {es : List V} (h : BufF e size m m' v es) : ∀ b x, m b = some x → m' b = some x := by
 rcases h.2 with ⟨_, rfl⟩ | ⟨_, b, k, hb, rfl, _⟩
 ·exact fun _ _ h => h
 ·exact sub_set hb (fun _ _ h => h)
theorem BufF.val {e : TypeId} {size : Nat} {m m' : Store} {v : V} {es : List V} (h : BufF e size m m' v es) : ∃ tok, v = .sl es [] tok := by
 rcases h.2 with ⟨h, _⟩ | ⟨_, b, k, _, _, h⟩
 ·exact ⟨_, h⟩
 ·exact ⟨_, h⟩
theorem BufF.add {e : TypeId} {size : Nat} {m m' : Store} {v : V} {es : List V} (h : BufF e size m m' v es) {b : Nat} {x : Blk} (hb : m' b = none) : BufF e size (m.set b x) (m'.set b x) v es := by
 refine ⟨h.1, ?_⟩
 rcases h.2 with ⟨h2, rfl⟩ | ⟨h1, t, k, ht, rfl, h2⟩
 ·exact .inl ⟨h2, rfl⟩
 ·have hne : t ≠ b := by
   rintro rfl
   rw [Store.set_same] at hb
   cases hb
  exact .inr ⟨h1, t, k, by rw [Store.set_ne _ _ hne, ht], set_comm _ _ _ hne, h2⟩
section
variable {P : Program} {Γ : Glob} {Kp : V → Store → Prop} {l : List Item} {K : St → Prop} {t : List V} {m m' : Store} {d : Option Tmp} {s : List (Tmp × Option (Tmp × Bool) × AOp)}
end
end Go.Av
