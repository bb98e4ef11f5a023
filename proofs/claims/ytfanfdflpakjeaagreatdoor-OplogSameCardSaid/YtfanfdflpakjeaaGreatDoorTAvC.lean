/- A world's start in which all that is there is known; rows of bytes read as data. No condition. -/
import Derived.ChangeMaps5
import Derived.Deep.Slices
import Derived.Test.YtfanfdflpakjeaaGreatDoorTPy
namespace Go.Av
open Go.RowKit Go.ChangeShapes Go.WideShapes Go.ChangeMaps
set_option linter.unusedVariables false
set_option linter.unusedSimpArgs false
def startA (w : World) : Gh := { K := fun b o => w.cell? ⟨b, o, none⟩, H := fun _ _ => none }
theorem startG_le (Γ : Glob) (w : World) : (startG Γ w).le (startA w) where
 K := fun b o u hu => by
  simp only [startG] at hu
  split at hu
  ·exact hu
  ·cases hu
 H := fun t v x hx => by cases hx
theorem rep_startA {Γ : Glob} {w : World} (h : Rep Γ w.heap.size (startG Γ w) (fun _ => none) w) : Rep Γ w.heap.size (startA w) (fun _ => none) w where
 K := fun b o u hu => hu
 base := Nat.le_refl _
 hist := fun t v x hx => by cases hx
 var := fun b T cs hb => by cases hb
 tip := fun t T v ht => by cases ht
 own := fun t v B E C k => by cases k
 apart := fun t T v t' T' v' B E C E' C' a => by cases a
 glob := fun g cs hg => by
  obtain ⟨us, h1, h2⟩ := h.glob g cs hg
  exact ⟨us, h1.mono (startG_le Γ w), h2.mono (startG_le Γ w)⟩
 gsz := h.gsz
 loop := fun b r f t ps x y D hb => by cases hb
 defer := fun b hb => by cases hb
theorem calls_retA {P : Program} {Γ : Glob} {f : FuncId} {args : List V} {cargs : List Value} {w : World} (hw : Rep Γ w.heap.size (startG Γ w) (fun _ => none) w) (hl : RelL (startA w) args cargs)
  (h : zad P Γ f args (fun _ => none) fun o m' => o = .ret (.val (.bool true)) ∧ m' = fun _ => none) : Calls P f cargs.toArray w fun e w' => e = .returned (.bool true) ∧ Below w.heap.size w w' := by
 refine (h.2 (startA w) w.heap.size (fun _ => none) w cargs (fun _ => .inl rfl) ?_ hl).mono ?_
 ·have : Store.or (fun _ => none) (fun _ => none) = fun _ => none := rfl
  rw [this]
  exact rep_startA hw
 ·rintro e w' ⟨G', m', o, _, _, _, hB, ho, rfl, _⟩
  cases ho with
  | ret r =>
   cases r
   exact ⟨rfl, hB⟩
theorem has_cells {w : World} {a : Addr} (hs : a.spot = none) {us : List Value} (h : ∀ i u, us[i]? = some u → w.cell? (a.add i) = some u) : (startA w).has a us := by
 refine ⟨hs, fun i u hu => ?_⟩
 have := h i u hu
 rw [add_plain hs] at this
 exact this
end Go.Av
