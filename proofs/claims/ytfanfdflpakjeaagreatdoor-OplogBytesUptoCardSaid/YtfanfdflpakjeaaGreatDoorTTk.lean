/- A token, in plain terms. No condition. -/
import Derived.Test.YtfanfdflpakjeaaGreatDoorFn1
namespace Go.Av.Fn
structure Tk where
 k : Int
 s : List UInt8
 n : Int
 l : Int
 a : Int
 deriving DecidableEq
def tkV (t : Tk) : V := .agg [it t.k, bs t.s, it t.n, it t.l, it t.a]
end Go.Av.Fn
/- Expressions as trees, and the document's rules for them as a function of tokens: it always comes to an end. No condition. -/
namespace Go.Av.Fn
set_option linter.unusedSimpArgs false
set_option linter.unusedVariables false
inductive Ex where
 | mk (k : Int) (s : List UInt8) (n : Int) (kids : List Ex) (l : Int)
def Ex.line : Ex → Int
 | .mk _ _ _ _ l => l
mutual
def sizeE : Ex → Nat
 | .mk _ _ _ kids _ => sizes kids + 1
def sizes : List Ex → Nat
 | [] => 0
 | e :: r => sizeE e + sizes r
end
mutual
def depthE : Ex → Nat
 | .mk _ _ _ kids _ => depths kids + 1
def depths : List Ex → Nat
 | [] => 0
 | e :: r => max (depthE e) (depths r)
end
inductive PR where
 | ok (es : List Ex) (l : List Tk)
 | st (l : List Tk)
inductive Rule where
 | ex (line : Nat)
 | lp (line : Nat) (e : Ex)
 | un
 | po (e : Ex)
 | si
 | ro (out : List Ex)
def isS (s : List UInt8) (t : Tk) : Bool := (t.k == 4 || t.k == 5) && t.s == s
def level (s : List UInt8) : Int :=
 if s == [124, 124] then 0
 else if s == [38, 38] then 1
 else if s == [61, 61] || s == [33, 61] then 2
 else if s == [60] || (s == [60, 61] || (s == [62] || s == [62, 61])) then 3
 else if s == [43] || s == [45] then 4
 else if s == [42] || (s == [47] || s == [37]) then 5
 else -1
def bind1 (r : Option PR) (k : Ex → List Tk → Option PR) : Option PR := match r with
 | some (.ok [e] l) => k e l
 | some (.st l) => some (.st l)
 | _ => none
def bindL (r : Option PR) (k : List Ex → List Tk → Option PR) : Option PR := match r with
 | some (.ok es l) => k es l
 | some (.st l) => some (.st l)
 | none => none
def mustK (s : List UInt8) (l : List Tk) (k : List Tk → Option PR) : Option PR := match l with
 | t :: r => if isS s t = true then k r else some (.st l)
 | [] => none
def nameK (l : List Tk) (k : List UInt8 → List Tk → Option PR) : Option PR := match l with
 | t :: r => if t.k = 1 then k t.s r else some (.st l)
 | [] => none
def rowR (f : Rule → List Tk → Option PR) (l : List Tk) : Option PR := bind1 (f (.ex 0) l) fun e l1 => f (.ro [e]) l1
def untilR (f : Rule → List Tk → Option PR) (s : List UInt8) (l : List Tk) : Option PR := match l with
 | t :: r => if isS s t = true then some (.ok [] r) else bindL (rowR f l) fun es l2 => mustK s l2 fun l3 => some (.ok es l3)
 | [] => none
def callR (f : Rule → List Tk → Option PR) (t : Tk) (l : List Tk) : Option PR := match l with
 | t2 :: l2 => if isS [40] t2 = true then bindL (untilR f [41] l2) fun es l3 => some (.ok [.mk 5 t.s 0 es t.l] l3) else some (.ok [.mk 4 t.s 0 [] t.l] l)
 | [] => none
def singleR (f : Rule → List Tk → Option PR) (t : Tk) (l : List Tk) : Option PR :=
 if t.k = 2 then some (.ok [.mk 1 [] t.n [] t.l] l)
 else if t.k = 3 then some (.ok [.mk 3 t.s 0 [] t.l] l)
 else if t.k = 1 then callR f t l
 else if isS [116, 114, 117, 101] t = true then some (.ok [.mk 2 [] 1 [] t.l] l)
 else if isS [102, 97, 108, 115, 101] t = true then some (.ok [.mk 2 [] 0 [] t.l] l)
 else if isS [110, 101, 119] t = true then nameK l fun s l2 => mustK [40] l2 fun l3 => bindL (untilR f [41] l3) fun es l4 => some (.ok [.mk 11 s 0 es t.l] l4)
 else if isS [91] t = true then bindL (rowR f l) fun es l2 => mustK [93] l2 fun l3 => some (.ok [.mk 10 [] 0 es t.l] l3)
 else if isS [40] t = true then bind1 (f (.ex 0) l) fun e l2 => mustK [41] l2 fun l3 => some (.ok [e] l3)
 else some (.st (t :: l))
def step (f : Rule → List Tk → Option PR) (t : Tk) (l : List Tk) : Rule → Option PR
 | .ex line => if line = 6 then f .un (t :: l) else bind1 (f (.ex (line + 1)) (t :: l)) fun e l1 => f (.lp line e) l1
 | .lp line e => if (t.k == 4 && level t.s == (line : Int)) = true then bind1 (f (.ex (line + 1)) l) fun e2 l2 => f (.lp line (.mk 7 t.s 0 [e, e2] e.line)) l2 else some (.ok [e] (t :: l))
 | .un => if (isS [45] t || isS [33] t) = true then bind1 (f .un l) fun e l1 => some (.ok [.mk 6 t.s 0 [e] t.l] l1) else bind1 (f .si (t :: l)) fun e l1 => f (.po e) l1
 | .po e => if isS [91] t = true then bind1 (f (.ex 0) l) fun e2 l2 => mustK [93] l2 fun l3 => f (.po (.mk 8 [] 0 [e, e2] e.line)) l3
  else if isS [46] t = true then nameK l fun s l2 => f (.po (.mk 9 s 0 [e] e.line)) l2
  else some (.ok [e] (t :: l))
 | .si => singleR f t l
 | .ro out => if isS [44] t = true then bind1 (f (.ex 0) l) fun e l1 => f (.ro (out ++ [e])) l1 else some (.ok out (t :: l))
def run : Nat → Rule → List Tk → Option PR
 | 0, _, _ => none
 | n + 1, r, l => match l with
  | [] => none
  | t :: l => step (run n) t l r
/-! ### It comes to an end -/
def Good : List Tk → Prop
 | [] => False
 | [t] => t.k = 0
 | _ :: t :: l => Good (t :: l)
theorem Good.tail {t : Tk} {l : List Tk} (h : Good (t :: l)) (hk : t.k ≠ 0) : Good l := by
 cases l with
 | nil => exact absurd h hk
 | cons x l => exact h
theorem Good.ne {l : List Tk} (h : Good l) : ∃ t r, l = t :: r := by
 cases l with
 | nil => exact h.elim
 | cons t r => exact ⟨t, r, rfl⟩
def Fit (many : Bool) (sz : Nat) (l : List Tk) : PR → Prop
 | .ok es l1 => Good l1 ∧ sizes es + l1.length ≤ l.length + sz ∧ (many = false → ∃ e, es = [e])
 | .st l1 => Good l1 ∧ l1.length ≤ l.length
def Fits (many : Bool) (sz : Nat) (l : List Tk) (r : Option PR) : Prop := ∃ p, r = some p ∧ Fit many sz l p
theorem Fits.bind1 {sz sz' : Nat} {l l' : List Tk} {many : Bool} {r : Option PR} {k : Ex → List Tk → Option PR} (h : Fits false sz l r) (hl : l.length ≤ l'.length)
  (hk : ∀ e l1, Good l1 → sizeE e + l1.length ≤ l.length + sz → Fits many sz' l' (k e l1)) : Fits many sz' l' (bind1 r k) := by
 obtain ⟨p, rfl, hp⟩ := h
 cases p with
 | ok es l1 =>
  obtain ⟨h1, h2, h3⟩ := hp
  obtain ⟨e, rfl⟩ := h3 rfl
  simp only [sizes] at h2
  exact hk e l1 h1 (by omega)
 | st l1 => exact ⟨_, rfl, hp.1, by have := hp.2; omega⟩
theorem Fits.bindL {sz sz' : Nat} {l l' : List Tk} {many many' : Bool} {r : Option PR} {k : List Ex → List Tk → Option PR} (h : Fits many sz l r) (hl : l.length ≤ l'.length)
  (hk : ∀ es l1, Good l1 → sizes es + l1.length ≤ l.length + sz → Fits many' sz' l' (k es l1)) : Fits many' sz' l' (bindL r k) := by
 obtain ⟨p, rfl, hp⟩ := h
 cases p with
 | ok es l1 => exact hk es l1 hp.1 hp.2.1
 | st l1 => exact ⟨_, rfl, hp.1, by have := hp.2; omega⟩
theorem Fits.mono {many : Bool} {sz sz' : Nat} {l l' : List Tk} {r : Option PR} (h : Fits many sz l r) (hl : l.length ≤ l'.length) (hs : l.length + sz ≤ l'.length + sz') : Fits many sz' l' r := by
 obtain ⟨p, rfl, hp⟩ := h
 refine ⟨p, rfl, ?_⟩
 cases p with
 | ok es l1 => exact ⟨hp.1, by have := hp.2.1; omega, hp.2.2⟩
 | st l1 => exact ⟨hp.1, by have := hp.2; omega⟩
end Go.Av.Fn
/- The parser's small steps: what they do. No condition. -/
namespace Go.Av
section
variable {P : Program} {Γ : Glob} {Kp : V → Store → Prop} {s : List (Tmp × Option (Tmp × Bool) × AOp)} {l : List Item} {K : St → Prop} {t : List V} {m : Store} {d : Option Tmp}
end
end Go.Av
namespace Go.Av.Fn
set_option linter.unusedSimpArgs false
set_option linter.unusedVariables false
set_option maxRecDepth 10000
open Go.Proofs
def rdr (l : List Tk) : Blk := .var 222 [.sl (l.map tkV) [] .no]
def Ext (m : Store) (rb : Nat) (S : Store) : Prop := ∀ c x, c ≠ rb → m c = some x → S c = some x
section
variable {m S : Store} {rb b : Nat} {x y : Blk} {l : List Tk}
theorem Ext.refl (m : Store) (rb : Nat) : Ext m rb m := fun _ _ _ h => h
theorem Ext.alloc (h : Ext m rb S) (hb : S b = none) (x : Blk) : Ext m rb (S.set b x) := by
 intro c y hc hm
 rw [Store.set_ne _ _ (za0 (h c y hc hm) hb)]
 exact h c y hc hm
theorem Ext.loc (h : Ext m rb S) (hb : m b = none) (x : Blk) : Ext m rb (S.set b x) := by
 intro c y hc hm
 rw [Store.set_ne _ _ (za0 hm hb)]
 exact h c y hc hm
theorem Ext.rd (h : Ext m rb S) (x : Blk) : Ext m rb (S.set rb x) := by
 intro c y hc hm
 rw [Store.set_ne _ _ hc]
 exact h c y hc hm
theorem Ext.none (h : Ext m rb S) (hr : S rb = some y) (hb : S b = none) : m b = none := by
 cases e : m b with
 | none => rfl
 | some z =>
  have hne : b ≠ rb := fun e => za0 hr hb e.symm
  rw [h b z hne e] at hb
  cases hb
theorem Ext.ret (h : Ext m rb S) (hr : S rb = some (rdr l)) : SubS (m.set rb (rdr l)) S := by
 intro c z hc
 by_cases e : c = rb
 ·subst e
  rw [Store.set_same] at hc
  cases hc
  exact hr
 ·rw [Store.set_ne _ _ e] at hc
  exact h c z e hc
theorem Ext.pan (h : Ext m rb S) (l : List Tk) (b : Nat) (z : Blk) : SubS ((m.set rb (rdr l)).set b z) ((S.set rb (rdr l)).set b z) := (Ext.ret (h.rd (rdr l)) (Store.set_same _ _ _)).set b z
end
section
variable {Γ : Glob} {m : Store} {rb : Nat}
end
end Go.Av.Fn
/- The parser's rows of expressions, over what reads one. No condition. -/
namespace Go.Av.Fn
set_option linter.unusedSimpArgs false
set_option linter.unusedVariables false
set_option maxRecDepth 10000
open Go.Proofs
theorem BufF.put {e : TypeId} {size : Nat} {m m' : Store} {v : V} {es : List V} (h : BufF e size m m' v es) {b : Nat} {x y : Blk} (hb : m b = some y) : BufF e size (m.set b x) (m'.set b x) v es := by
 refine ⟨h.1, ?_⟩
 rcases h.2 with ⟨h2, rfl⟩ | ⟨h1, t, k, ht, rfl, h2⟩
 ·exact .inl ⟨h2, rfl⟩
 ·have hne : t ≠ b := fun e => za0 hb ht e.symm
  exact .inr ⟨h1, t, k, by rw [Store.set_ne _ _ hne, ht], set_comm _ _ _ hne, h2⟩
section
variable {Γ : Glob} {m : Store} {rb n : Nat} {l : List Tk} {p : PR}
end
end Go.Av.Fn
/- The parser's expressions with a sign ahead, or behind. No condition. -/
namespace Go.Av.Fn
set_option linter.unusedSimpArgs false
set_option linter.unusedVariables false
set_option maxRecDepth 10000
open Go.Proofs
end Go.Av.Fn
/- How deep an expression is. No condition. -/
namespace Go.Av
section
variable {P : Program} {Γ : Glob} {Kp : V → Store → Prop} {s : List (Tmp × Option (Tmp × Bool) × AOp)} {l : List Item} {K : St → Prop} {t : List V} {m : Store} {d : Option Tmp}
theorem q_mm {mx : Bool} {xs : List Operand} : zaC (.mm mx xs) = true := (rfl)
theorem eval_mm {mx : Bool} {xs : List Operand} : zac P (ev Γ t) m (.mm mx xs) = mmV mx (xs.map (ev Γ t)) := rfl
theorem mm_max {a b : Int} : mmV true [.val (.int .i64 a), .val (.int .i64 b)] = some (.val (.int .i64 (max a b))) := by
 simp only [mmV, mmF, if_true]
 congr 3
 split <;> omega
end
end Go.Av
namespace Go.Av.Fn
set_option linter.unusedSimpArgs false
set_option linter.unusedVariables false
set_option maxRecDepth 10000
open Go.Proofs
end Go.Av.Fn
