/- Answers without what is known of their slices' ends. No condition. -/
import Derived.Test.YtmglaebjmaomnaaGreatDoorTAvE
namespace Go.Av
set_option linter.unusedSimpArgs false
set_option linter.unusedVariables false
mutual
def weak : V → V
 | .agg cs => .agg (za9 cs)
 | .tup cs => .tup (za9 cs)
 | .sl es more _ => .sl (za9 es) (za9 more) .no
 | v => v
def za9 : List V → List V
 | [] => []
 | v :: l => weak v :: za9 l
end
theorem zdE : ∀ (a b : List V),za9 (a ++ b) = za9 a ++ za9 b
 | [],b => rfl
 | v :: l,b => by rw [List.cons_append,za9,zdE l b]; rfl
theorem zcK : ∀ l : List V,(za9 l).length = l.length
 | [] => rfl
 | v :: l => by rw [za9,List.length_cons,zcK l]; rfl
theorem weaks_map {α : Type} {f : α → V} (h : ∀ x,weak (f x) = f x) : ∀ l : List α,za9 (l.map f) = l.map f
 | [] => rfl
 | x :: l => by rw [List.map_cons,za9,h,weaks_map h l]
theorem weak_cells (v : V) : (weak v).cells = za9 v.cells := by
 cases v <;> rfl
theorem flat_weaks : ∀ l : List V,flat (za9 l) = za9 (flat l)
 | [] => rfl
 | v :: l => by rw [za9,zaN,zaN,zdE,weak_cells,flat_weaks l]
theorem weaks_mem : ∀ {l : List V} {e : V},e ∈ za9 l → ∃ x ∈ l,e = weak x
 | v :: l,e,h => by
  rw [za9] at h
  rcases List.mem_cons.1 h with rfl | h
  ·exact ⟨v,List.mem_cons_self ..,rfl⟩
  ·obtain ⟨x,hx,rfl⟩ := weaks_mem h
   exact ⟨x,List.mem_cons_of_mem _ hx,rfl⟩
mutual
theorem RelV.weak {G : Gh} : ∀ {v : V} {u : Value},RelV G v u → RelV G (weak v) u
 | _,_,.val h => .val h
 | _,_,.ptr b o => .ptr b o
 | _,_,.elt h k => .elt h k
 | _,_,.nil h => by
  simp only [Av.weak,za9]
  exact .nil rfl
 | _,_,.arr a b c d => .arr a b c d
 | _,_,.res a b c => .res a b c
 | _,_,.sl (es := es) (more := more) a b c d e f => by
  simp only [Av.weak]
  have hb := RelL.weak b
  rw [← flat_weaks,zdE] at hb
  rw [← zcK es]
  refine .sl (fun x hx => ?_) hb c (by rw [zcK,zcK]; exact d) e trivial
  rw [← zdE] at hx
  obtain ⟨y,hy,rfl⟩ := weaks_mem hx
  rw [weak_cells,zcK]
  exact a y hy
 | _,_,.fn h k => .fn h k
 | _,_,.ifc h => .ifc h
 | _,_,.agg h => by
  simp only [Av.weak]
  exact .agg (RelL.weak h)
 | _,_,.tup h => by
  simp only [Av.weak]
  exact .tup (RelL.weak h)
theorem RelL.weak {G : Gh} : ∀ {v : List V} {u : List Value},RelL G v u → RelL G (za9 v) u
 | _,_,.nil => .nil
 | _,_,.cons h k => .cons (RelV.weak h) (RelL.weak k)
end
theorem zab.weak {P : Program} {Γ : Glob} {f : FuncId} {args : List V} {m : Store} {R R' : Out → Store → Prop} (h : zab P Γ f args m R) (hr : ∀ v m',R (.ret v) m' → R' (.ret (Av.weak v)) m') (hp : ∀ v m',R (.pan v) m' → R' (.pan v) m') : zab P Γ f args m R' := by
 refine ⟨h.1,fun G B0 mF w cargs hD hR hL => (h.2 G B0 mF w cargs hD hR hL).mono ?_⟩
 rintro e w' ⟨G',m',o,a,b,c,d,r,s⟩
 cases o with
 | ret v =>
  cases r with
  | ret r => exact ⟨G',m',.ret (Av.weak v),a,b,c,d,.ret r.weak,hr _ _ s⟩
 | pan v => exact ⟨G',m',.pan v,a,b,c,d,r,hp _ _ s⟩
def SubS (a b : Store) : Prop := ∀ c x,a c = some x → b c = some x
theorem SubS.refl (a : Store) : SubS a a := fun _ _ h => h
theorem SubS.set {a b : Store} (h : SubS a b) (c : Nat) (x : Blk) : SubS (a.set c x) (b.set c x) := by
 intro d y hd
 by_cases e : d = c
 ·subst e
  rw [Store.set_same] at hd ⊢
  exact hd
 ·rw [Store.set_ne _ _ e] at hd ⊢
  exact h d y hd
theorem SubS.out {a b : Store} (h : SubS a b) {c : Nat} (hc : a c = none) (x : Blk) : SubS a (b.set c x) := by
 intro d y hd
 have : d ≠ c := by
  rintro rfl
  rw [hc] at hd
  cases hd
 rw [Store.set_ne _ _ this]
 exact h d y hd
theorem SubS.trans {a b c : Store} (h : SubS a b) (k : SubS b c) : SubS a c := fun d x hd => k d x (h d x hd)
theorem SubS.none {a b : Store} (h : SubS a b) {c : Nat} (hc : b c = none) : a c = none := by
 cases e : a c with
 | none => rfl
 | some x =>
  rw [h c x e] at hc
  cases hc
theorem zal {m : Store} {a b : Nat} {x : Blk} (ha : m a = some x) (hb : m b = none) : a ≠ b := by
 rintro rfl
 rw [ha] at hb
 cases hb
end Go.Av
