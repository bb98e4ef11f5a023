/- A token, in plain terms. No condition. -/
import Derived.LaidEql
import Derived.RowKitTokens
import Derived.Stop.Asserts
import Derived.Test.YtfanfdflpakjeaaGreatDoorProg
import Derived.WalkKit
import Derived.Test.YtfanfdflpakjeaaGreatDoorFn1
namespace Go.Av.Fn
structure Tk where
  k : Int
  s : List UInt8
  n : Int
  l : Int
  a : Int
  deriving DecidableEq
def tkV (t : Tk) : V := .agg [it t.k, bs t.s, it t.n, it t.l, it t.a]
end Go.Av.Fn
/- Expressions as trees, and the document's rules for them as a function of tokens: it always comes to an end. No condition. -/
namespace Go.Av.Fn
set_option linter.unusedSimpArgs false
set_option linter.unusedVariables false
inductive Ex where
  | mk (k : Int) (s : List UInt8) (n : Int) (kids : List Ex) (l : Int)
def Ex.line : Ex → Int
  | .mk _ _ _ _ l => l
mutual
def exV : Ex → V
  | .mk k s n kids l => .agg [it k, bs s, it n, .sl (exVs kids) [] .no, it l]
def exVs : List Ex → List V
  | [] => []
  | e :: r => exV e :: exVs r
end
mutual
def sizeE : Ex → Nat
  | .mk _ _ _ kids _ => sizes kids + 1
def sizes : List Ex → Nat
  | [] => 0
  | e :: r => sizeE e + sizes r
end
mutual
def depthE : Ex → Nat
  | .mk _ _ _ kids _ => depths kids + 1
def depths : List Ex → Nat
  | [] => 0
  | e :: r => max (depthE e) (depths r)
end
theorem exVs_map : ∀ l : List Ex, exVs l = l.map exV
  | [] => rfl
  | e :: r => by rw [exVs, exVs_map r]; rfl
theorem exVs_append (a b : List Ex) : exVs (a ++ b) = exVs a ++ exVs b := by simp [exVs_map]
theorem exVs_length (l : List Ex) : (exVs l).length = l.length := by simp [exVs_map]
theorem sizes_append : ∀ (a b : List Ex), sizes (a ++ b) = sizes a + sizes b
  | [], b => by simp [sizes]
  | e :: r, b => by
    rw [List.cons_append, sizes, sizes, sizes_append r b]
    omega
mutual
theorem depth_size : ∀ e : Ex, depthE e ≤ sizeE e
  | .mk _ _ _ kids _ => by
    have := depths_sizes kids
    simp only [depthE, sizeE]
    omega
theorem depths_sizes : ∀ l : List Ex, depths l ≤ sizes l
  | [] => by simp [depths]
  | e :: r => by
    have h1 := depth_size e
    have h2 := depths_sizes r
    simp only [depths, sizes]
    omega
end
theorem length_sizes : ∀ l : List Ex, l.length ≤ sizes l
  | [] => by simp
  | e :: r => by
    have h2 := length_sizes r
    have h1 : 1 ≤ sizeE e := by
      cases e
      simp only [sizeE]
      omega
    simp only [sizes, List.length_cons]
    omega
theorem size_mem : ∀ {l : List Ex} {e : Ex}, e ∈ l → sizeE e ≤ sizes l
  | x :: r, e, h => by
    simp only [sizes]
    rcases List.mem_cons.1 h with rfl | h
    · omega
    · have := size_mem h
      omega
inductive PR where
  | ok (es : List Ex) (l : List Tk)
  | st (l : List Tk)
inductive Rule where
  | ex (line : Nat)
  | lp (line : Nat) (e : Ex)
  | un
  | po (e : Ex)
  | si
  | ro (out : List Ex)
def isS (s : List UInt8) (t : Tk) : Bool := (t.k == 4 || t.k == 5) && t.s == s
def level (s : List UInt8) : Int :=
  if s == [124, 124] then 0
  else if s == [38, 38] then 1
  else if s == [61, 61] || s == [33, 61] then 2
  else if s == [60] || (s == [60, 61] || (s == [62] || s == [62, 61])) then 3
  else if s == [43] || s == [45] then 4
  else if s == [42] || (s == [47] || s == [37]) then 5
  else -1
def bind1 (r : Option PR) (k : Ex → List Tk → Option PR) : Option PR := match r with
  | some (.ok [e] l) => k e l
  | some (.st l) => some (.st l)
  | _ => none
def bindL (r : Option PR) (k : List Ex → List Tk → Option PR) : Option PR := match r with
  | some (.ok es l) => k es l
  | some (.st l) => some (.st l)
  | none => none
def mustK (s : List UInt8) (l : List Tk) (k : List Tk → Option PR) : Option PR := match l with
  | t :: r => if isS s t = true then k r else some (.st l)
  | [] => none
def nameK (l : List Tk) (k : List UInt8 → List Tk → Option PR) : Option PR := match l with
  | t :: r => if t.k = 1 then k t.s r else some (.st l)
  | [] => none
def rowR (f : Rule → List Tk → Option PR) (l : List Tk) : Option PR := bind1 (f (.ex 0) l) fun e l1 => f (.ro [e]) l1
def untilR (f : Rule → List Tk → Option PR) (s : List UInt8) (l : List Tk) : Option PR := match l with
  | t :: r => if isS s t = true then some (.ok [] r) else bindL (rowR f l) fun es l2 => mustK s l2 fun l3 => some (.ok es l3)
  | [] => none
def callR (f : Rule → List Tk → Option PR) (t : Tk) (l : List Tk) : Option PR := match l with
  | t2 :: l2 => if isS [40] t2 = true then bindL (untilR f [41] l2) fun es l3 => some (.ok [.mk 5 t.s 0 es t.l] l3) else some (.ok [.mk 4 t.s 0 [] t.l] l)
  | [] => none
def singleR (f : Rule → List Tk → Option PR) (t : Tk) (l : List Tk) : Option PR :=
  if t.k = 2 then some (.ok [.mk 1 [] t.n [] t.l] l)
  else if t.k = 3 then some (.ok [.mk 3 t.s 0 [] t.l] l)
  else if t.k = 1 then callR f t l
  else if isS [116, 114, 117, 101] t = true then some (.ok [.mk 2 [] 1 [] t.l] l)
  else if isS [102, 97, 108, 115, 101] t = true then some (.ok [.mk 2 [] 0 [] t.l] l)
  else if isS [110, 101, 119] t = true then nameK l fun s l2 => mustK [40] l2 fun l3 => bindL (untilR f [41] l3) fun es l4 => some (.ok [.mk 11 s 0 es t.l] l4)
  else if isS [91] t = true then bindL (rowR f l) fun es l2 => mustK [93] l2 fun l3 => some (.ok [.mk 10 [] 0 es t.l] l3)
  else if isS [40] t = true then bind1 (f (.ex 0) l) fun e l2 => mustK [41] l2 fun l3 => some (.ok [e] l3)
  else some (.st (t :: l))
def step (f : Rule → List Tk → Option PR) (t : Tk) (l : List Tk) : Rule → Option PR
  | .ex line => if line = 6 then f .un (t :: l) else bind1 (f (.ex (line + 1)) (t :: l)) fun e l1 => f (.lp line e) l1
  | .lp line e => if (t.k == 4 && level t.s == (line : Int)) = true then bind1 (f (.ex (line + 1)) l) fun e2 l2 => f (.lp line (.mk 7 t.s 0 [e, e2] e.line)) l2 else some (.ok [e] (t :: l))
  | .un => if (isS [45] t || isS [33] t) = true then bind1 (f .un l) fun e l1 => some (.ok [.mk 6 t.s 0 [e] t.l] l1) else bind1 (f .si (t :: l)) fun e l1 => f (.po e) l1
  | .po e => if isS [91] t = true then bind1 (f (.ex 0) l) fun e2 l2 => mustK [93] l2 fun l3 => f (.po (.mk 8 [] 0 [e, e2] e.line)) l3
    else if isS [46] t = true then nameK l fun s l2 => f (.po (.mk 9 s 0 [e] e.line)) l2
    else some (.ok [e] (t :: l))
  | .si => singleR f t l
  | .ro out => if isS [44] t = true then bind1 (f (.ex 0) l) fun e l1 => f (.ro (out ++ [e])) l1 else some (.ok out (t :: l))
def run : Nat → Rule → List Tk → Option PR
  | 0, _, _ => none
  | n + 1, r, l => match l with
    | [] => none
    | t :: l => step (run n) t l r
/-! ### It comes to an end -/
def Good : List Tk → Prop
  | [] => False
  | [t] => t.k = 0
  | _ :: t :: l => Good (t :: l)
theorem Good.tail {t : Tk} {l : List Tk} (h : Good (t :: l)) (hk : t.k ≠ 0) : Good l := by
  cases l with
  | nil => exact absurd h hk
  | cons x l => exact h
theorem Good.ne {l : List Tk} (h : Good l) : ∃ t r, l = t :: r := by
  cases l with
  | nil => exact h.elim
  | cons t r => exact ⟨t, r, rfl⟩
theorem isS_ne {s : List UInt8} {t : Tk} (h : isS s t = true) : t.k ≠ 0 := by
  intro h0
  simp [isS, h0] at h
def sizeI : Rule → Nat
  | .lp _ e => sizeE e
  | .po e => sizeE e
  | .ro out => sizes out
  | _ => 0
def rankR : Rule → Nat
  | .ex line => 8 - line
  | .un => 1
  | _ => 0
def lineOk : Rule → Prop
  | .ex line => line ≤ 6
  | .lp line _ => line ≤ 5
  | _ => True
def Fit (many : Bool) (sz : Nat) (l : List Tk) : PR → Prop
  | .ok es l1 => Good l1 ∧ sizes es + l1.length ≤ l.length + sz ∧ (many = false → ∃ e, es = [e])
  | .st l1 => Good l1 ∧ l1.length ≤ l.length
def Fits (many : Bool) (sz : Nat) (l : List Tk) (r : Option PR) : Prop := ∃ p, r = some p ∧ Fit many sz l p
def manyR : Rule → Bool
  | .ro _ => true
  | _ => false
theorem Fits.bind1 {sz sz' : Nat} {l l' : List Tk} {many : Bool} {r : Option PR} {k : Ex → List Tk → Option PR} (h : Fits false sz l r) (hl : l.length ≤ l'.length)
    (hk : ∀ e l1, Good l1 → sizeE e + l1.length ≤ l.length + sz → Fits many sz' l' (k e l1)) : Fits many sz' l' (bind1 r k) := by
  obtain ⟨p, rfl, hp⟩ := h
  cases p with
  | ok es l1 =>
    obtain ⟨h1, h2, h3⟩ := hp
    obtain ⟨e, rfl⟩ := h3 rfl
    simp only [sizes] at h2
    exact hk e l1 h1 (by omega)
  | st l1 => exact ⟨_, rfl, hp.1, by have := hp.2; omega⟩
theorem Fits.bindL {sz sz' : Nat} {l l' : List Tk} {many many' : Bool} {r : Option PR} {k : List Ex → List Tk → Option PR} (h : Fits many sz l r) (hl : l.length ≤ l'.length)
    (hk : ∀ es l1, Good l1 → sizes es + l1.length ≤ l.length + sz → Fits many' sz' l' (k es l1)) : Fits many' sz' l' (bindL r k) := by
  obtain ⟨p, rfl, hp⟩ := h
  cases p with
  | ok es l1 => exact hk es l1 hp.1 hp.2.1
  | st l1 => exact ⟨_, rfl, hp.1, by have := hp.2; omega⟩
theorem fits_must {sz : Nat} {s : List UInt8} {l l' : List Tk} {many : Bool} {k : List Tk → Option PR} (hg : Good l) (hl : l.length ≤ l'.length)
    (hk : ∀ l1, Good l1 → l1.length + 1 = l.length → Fits many sz l' (k l1)) : Fits many sz l' (mustK s l k) := by
  obtain ⟨t, r, rfl⟩ := hg.ne
  simp only [mustK]
  by_cases h : isS s t = true
  · rw [if_pos h]
    exact hk r (hg.tail (isS_ne h)) (by simp)
  · rw [if_neg h]
    exact ⟨_, rfl, hg, hl⟩
theorem fits_name {sz : Nat} {l l' : List Tk} {many : Bool} {k : List UInt8 → List Tk → Option PR} (hg : Good l) (hl : l.length ≤ l'.length)
    (hk : ∀ s l1, Good l1 → l1.length + 1 = l.length → Fits many sz l' (k s l1)) : Fits many sz l' (nameK l k) := by
  obtain ⟨t, r, rfl⟩ := hg.ne
  simp only [nameK]
  by_cases h : t.k = 1
  · rw [if_pos h]
    exact hk _ r (hg.tail (by omega)) (by simp)
  · rw [if_neg h]
    exact ⟨_, rfl, hg, hl⟩
theorem fits_ok {sz : Nat} {l l1 : List Tk} {many : Bool} {e : Ex} (hg : Good l1) (h : sizeE e + l1.length ≤ l.length + sz) : Fits many sz l (some (.ok [e] l1)) := ⟨_, rfl, hg, by simp only [sizes]; omega, fun _ => ⟨e, rfl⟩⟩
theorem Fits.mono {many : Bool} {sz sz' : Nat} {l l' : List Tk} {r : Option PR} (h : Fits many sz l r) (hl : l.length ≤ l'.length) (hs : l.length + sz ≤ l'.length + sz') : Fits many sz' l' r := by
  obtain ⟨p, rfl, hp⟩ := h
  refine ⟨p, rfl, ?_⟩
  cases p with
  | ok es l1 => exact ⟨hp.1, by have := hp.2.1; omega, hp.2.2⟩
  | st l1 => exact ⟨hp.1, by have := hp.2; omega⟩
theorem run_fits : ∀ (n : Nat) (r : Rule) (l : List Tk), Good l → lineOk r → 10 * l.length + rankR r < n → Fits (manyR r) (sizeI r) l (run n r l)
  | 0, r, l, hg, ho, hn => absurd hn (by omega)
  | n + 1, r, l, hg, ho, hn => by
    obtain ⟨t, l, rfl⟩ := hg.ne
    have ih := run_fits n
    have hrow : ∀ l', Good l' → 10 * l'.length + 8 < n → Fits true 0 l' (rowR (run n) l') := by
      intro l' hg' hn'
      refine Fits.bind1 (ih (.ex 0) l' hg' (by simp [lineOk]) (by simpa [rankR] using hn')) (Nat.le_refl _) fun e l1 h1 h2 => ?_
      simp only [sizeI] at h2
      have hp : 1 ≤ sizeE e := by cases e; simp only [sizeE]; omega
      refine (ih (.ro [e]) l1 h1 trivial (by simp only [rankR]; omega)).mono (by omega) ?_
      simp only [sizeI, sizes]
      omega
    have hunt : ∀ s l', Good l' → 10 * l'.length + 8 < n → Fits true 0 l' (untilR (run n) s l') := by
      intro s l' hg' hn'
      obtain ⟨t', r', rfl⟩ := hg'.ne
      simp only [untilR]
      by_cases h : isS s t' = true
      · rw [if_pos h]
        exact ⟨_, rfl, hg'.tail (isS_ne h), by simp [sizes], by simp⟩
      · rw [if_neg h]
        refine Fits.bindL (hrow _ hg' hn') (Nat.le_refl _) fun es l1 h1 h2 => ?_
        refine fits_must h1 (by omega) fun l2 h3 h4 => ⟨_, rfl, h3, by omega, by simp⟩
    simp only [List.length_cons] at hn
    show Fits (manyR r) (sizeI r) (t :: l) (step (run n) t l r)
    cases r with
    | ex line =>
      simp only [step, rankR, lineOk, sizeI, manyR] at hn ho ⊢
      by_cases h : line = 6
      · subst h
        rw [if_pos rfl]
        exact ih .un _ hg trivial (by simp only [rankR, List.length_cons]; omega)
      · rw [if_neg h]
        refine Fits.bind1 (ih (.ex (line + 1)) _ hg (by simp only [lineOk]; omega) (by simp only [rankR, List.length_cons]; omega)) (Nat.le_refl _) fun e l1 h1 h2 => ?_
        simp only [sizeI, List.length_cons] at h2
        have hp : 1 ≤ sizeE e := by cases e; simp only [sizeE]; omega
        exact (ih (.lp line e) l1 h1 (by simp only [lineOk]; omega) (by simp only [rankR]; omega)).mono (by simp only [List.length_cons]; omega) (by simp only [sizeI, List.length_cons]; omega)
    | lp line e =>
      simp only [step, rankR, lineOk, sizeI, manyR] at hn ho ⊢
      by_cases h : (t.k == 4 && level t.s == (line : Int)) = true
      · rw [if_pos h]
        have hk : t.k ≠ 0 := by
          intro h0
          simp [h0] at h
        refine Fits.bind1 (ih (.ex (line + 1)) _ (hg.tail hk) (by simp only [lineOk]; omega) (by simp only [rankR]; omega)) (by simp) fun e2 l2 h1 h2 => ?_
        simp only [sizeI] at h2
        have hp : 1 ≤ sizeE e2 := by cases e2; simp only [sizeE]; omega
        exact (ih (.lp line _) l2 h1 ho (by simp only [rankR]; omega)).mono (by simp only [List.length_cons]; omega) (by simp only [sizeI, sizeE, sizes, List.length_cons]; omega)
      · rw [if_neg h]
        exact fits_ok hg (by simp only [List.length_cons]; omega)
    | un =>
      simp only [step, rankR, lineOk, sizeI, manyR] at hn ho ⊢
      by_cases h : (isS [45] t || isS [33] t) = true
      · rw [if_pos h]
        have hk : t.k ≠ 0 := by
          rw [Bool.or_eq_true] at h
          rcases h with h | h
          · exact isS_ne h
          · exact isS_ne h
        refine Fits.bind1 (ih .un _ (hg.tail hk) trivial (by simp only [rankR]; omega)) (by simp) fun e l1 h1 h2 => ?_
        simp only [sizeI] at h2
        exact fits_ok h1 (by simp only [sizeE, sizes, List.length_cons]; omega)
      · rw [if_neg h]
        refine Fits.bind1 (ih .si _ hg trivial (by simp only [rankR, List.length_cons]; omega)) (Nat.le_refl _) fun e l1 h1 h2 => ?_
        simp only [sizeI, List.length_cons] at h2
        have hp : 1 ≤ sizeE e := by cases e; simp only [sizeE]; omega
        exact (ih (.po e) l1 h1 trivial (by simp only [rankR]; omega)).mono (by simp only [List.length_cons]; omega) (by simp only [sizeI, List.length_cons]; omega)
    | po e =>
      simp only [step, rankR, lineOk, sizeI, manyR] at hn ho ⊢
      by_cases h : isS [91] t = true
      · rw [if_pos h]
        refine Fits.bind1 (ih (.ex 0) _ (hg.tail (isS_ne h)) (by simp [lineOk]) (by simp only [rankR]; omega)) (by simp) fun e2 l2 h1 h2 => ?_
        simp only [sizeI] at h2
        refine fits_must h1 (by simp only [List.length_cons]; omega) fun l3 h3 h4 => ?_
        exact (ih (.po _) l3 h3 trivial (by simp only [rankR]; omega)).mono (by simp only [List.length_cons]; omega) (by simp only [sizeI, sizeE, sizes, List.length_cons]; omega)
      · rw [if_neg h]
        by_cases h : isS [46] t = true
        · rw [if_pos h]
          refine fits_name (hg.tail (isS_ne h)) (by simp) fun s l1 h3 h4 => ?_
          exact (ih (.po _) l1 h3 trivial (by simp only [rankR]; omega)).mono (by simp only [List.length_cons]; omega) (by simp only [sizeI, sizeE, sizes, List.length_cons]; omega)
        · rw [if_neg h]
          exact fits_ok hg (by simp only [List.length_cons]; omega)
    | ro out =>
      simp only [step, rankR, lineOk, sizeI, manyR] at hn ho ⊢
      by_cases h : isS [44] t = true
      · rw [if_pos h]
        refine Fits.bind1 (ih (.ex 0) _ (hg.tail (isS_ne h)) (by simp [lineOk]) (by simp only [rankR]; omega)) (by simp) fun e l1 h1 h2 => ?_
        simp only [sizeI] at h2
        have hp : 1 ≤ sizeE e := by cases e; simp only [sizeE]; omega
        exact (ih (.ro _) l1 h1 trivial (by simp only [rankR]; omega)).mono (by simp only [List.length_cons]; omega) (by simp only [sizeI, sizes_append, sizes, List.length_cons]; omega)
      · rw [if_neg h]
        exact ⟨_, rfl, hg, by simp only [List.length_cons]; omega, by simp⟩
    | si =>
      simp only [step, singleR, rankR, lineOk, sizeI, manyR] at hn ho ⊢
      split
      · rename_i h
        exact fits_ok (hg.tail (by omega)) (by simp only [sizeE, sizes, List.length_cons]; omega)
      · split
        · rename_i h
          exact fits_ok (hg.tail (by omega)) (by simp only [sizeE, sizes, List.length_cons]; omega)
        · split
          · rename_i h
            have hg1 := hg.tail (by omega)
            obtain ⟨t2, l2, rfl⟩ := hg1.ne
            simp only [callR]
            by_cases h2 : isS [40] t2 = true
            · rw [if_pos h2]
              simp only [List.length_cons] at hn
              refine Fits.bindL (hunt [41] _ (hg1.tail (isS_ne h2)) (by omega)) (by simp only [List.length_cons]; omega) fun es l3 h3 h4 => ?_
              exact fits_ok h3 (by simp only [sizeE, sizes, List.length_cons]; omega)
            · rw [if_neg h2]
              exact fits_ok hg1 (by simp only [sizeE, sizes, List.length_cons]; omega)
          · split
            · rename_i h
              exact fits_ok (hg.tail (isS_ne h)) (by simp only [sizeE, sizes, List.length_cons]; omega)
            · split
              · rename_i h
                exact fits_ok (hg.tail (isS_ne h)) (by simp only [sizeE, sizes, List.length_cons]; omega)
              · split
                · rename_i h
                  refine fits_name (hg.tail (isS_ne h)) (by simp) fun s l1 h3 h4 => ?_
                  refine fits_must h3 (by simp only [List.length_cons]; omega) fun l2 h5 h6 => ?_
                  refine Fits.bindL (hunt [41] _ h5 (by omega)) (by simp only [List.length_cons]; omega) fun es l3 h7 h8 => ?_
                  exact fits_ok h7 (by simp only [sizeE, sizes, List.length_cons]; omega)
                · split
                  · rename_i h
                    refine Fits.bindL (hrow _ (hg.tail (isS_ne h)) (by omega)) (by simp) fun es l3 h7 h8 => ?_
                    refine fits_must h7 (by simp only [List.length_cons]; omega) fun l2 h5 h6 => ?_
                    exact fits_ok h5 (by simp only [sizeE, sizes, List.length_cons]; omega)
                  · split
                    · rename_i h
                      refine Fits.bind1 (ih (.ex 0) _ (hg.tail (isS_ne h)) (by simp [lineOk]) (by simp only [rankR]; omega)) (by simp) fun e l1 h1 h2 => ?_
                      simp only [sizeI] at h2
                      refine fits_must h1 (by simp only [List.length_cons]; omega) fun l2 h5 h6 => ?_
                      exact fits_ok h5 (by simp only [sizeE, sizes, List.length_cons]; omega)
                    · exact ⟨_, rfl, hg, Nat.le_refl _⟩
end Go.Av.Fn
/- The parser's small steps: what they do. No condition. -/
namespace Go.Av
section
variable {P : Program} {Γ : Glob} {Kp : V → Store → Prop} {s : List (Tmp × Option (Tmp × Bool) × AOp)} {l : List Item} {K : St → Prop} {t : List V} {m : Store} {d : Option Tmp}
def panS (Kp : V → Store → Prop) (v : V) (m : Store) : Prop := match v with
  | .ifc t v => Kp (.ifc t v) m
  | _ => False
theorem runO_pan {x : Operand} : runO P Γ Kp (⟨d, none, .panic x, s⟩ :: l) K (some ⟨t, m⟩) = panS Kp (ev Γ t x) m := by
  show (match ev Γ t x with
    | .ifc t v => Kp (.ifc t v) m
    | _ => False) = _
  unfold panS
  split <;> rfl
theorem panS_ifc {T : TypeId} {v : V} : panS Kp (.ifc T v) m = Kp (.ifc T v) m := rfl
theorem awp_loop' {c : ACode} {Q : Ex → St → Prop} {st : St} (I : Nat → St → Prop) (n : Nat) (h0 : I n st) (h : ∀ n s (J : St → Prop), (∀ n' s', n' < n → I n' s' → J s') → I n s → awp P Γ Kp c (thenA J Q) s) : awp P Γ Kp (.loop c) Q st :=
  awp_loop I n h0 fun n s hi => h n s _ (fun n' s' hn h => ⟨n', hn, h⟩) hi
theorem eval_sliceL {x : Operand} {lo hi mx : Option Operand} {z : Nat} : evalL P (ev Γ t) m (.sliceL z x lo hi mx) = sliceLF z (ev Γ t x) (optEv (ev Γ t) lo) (optEv (ev Γ t) hi) (optEv (ev Γ t) mx) := rfl
end
end Go.Av
namespace Go.Av.Fn
set_option linter.unusedSimpArgs false
set_option linter.unusedVariables false
set_option maxRecDepth 10000
open Go.Proofs
def rdr (l : List Tk) : Blk := .var 222 [.sl (l.map tkV) [] .no]
def atOf : List Tk → Int
  | t :: _ => t.a
  | [] => 0
def stk (l : List Tk) : Blk := .var 220 [it (atOf l)]
def stV (b : Nat) : V := .ifc 215 (.ptr b 0)
def PL (m : Store) (rb : Nat) (val : List Ex → V) (p : PR) (o : Out) (m' : Store) : Prop := match p with
  | .ok es l => ∃ v, o = .ret v ∧ weak v = val es ∧ SubS (m.set rb (rdr l)) m'
  | .st l => ∃ b, m b = none ∧ o = .pan (stV b) ∧ SubS ((m.set rb (rdr l)).set b (stk l)) m'
def PE (m : Store) (rb : Nat) (val : List Ex → V) (p : PR) (o : Out) (m' : Store) : Prop := match p with
  | .ok es l => o = .ret (val es) ∧ m' = m.set rb (rdr l)
  | .st l => ∃ b, m b = none ∧ o = .pan (stV b) ∧ m' = (m.set rb (rdr l)).set b (stk l)
def Ext (m : Store) (rb : Nat) (S : Store) : Prop := ∀ c x, c ≠ rb → m c = some x → S c = some x
section
variable {m S : Store} {rb b : Nat} {x y : Blk} {l : List Tk}
theorem Ext.refl (m : Store) (rb : Nat) : Ext m rb m := fun _ _ _ h => h
theorem Ext.alloc (h : Ext m rb S) (hb : S b = none) (x : Blk) : Ext m rb (S.set b x) := by
  intro c y hc hm
  rw [Store.set_ne _ _ (ne_of_some (h c y hc hm) hb)]
  exact h c y hc hm
theorem Ext.loc (h : Ext m rb S) (hb : m b = none) (x : Blk) : Ext m rb (S.set b x) := by
  intro c y hc hm
  rw [Store.set_ne _ _ (ne_of_some hm hb)]
  exact h c y hc hm
theorem Ext.rd (h : Ext m rb S) (x : Blk) : Ext m rb (S.set rb x) := by
  intro c y hc hm
  rw [Store.set_ne _ _ hc]
  exact h c y hc hm
theorem Ext.none (h : Ext m rb S) (hr : S rb = some y) (hb : S b = none) : m b = none := by
  cases e : m b with
  | none => rfl
  | some z =>
    have hne : b ≠ rb := fun e => ne_of_some hr hb e.symm
    rw [h b z hne e] at hb
    cases hb
theorem Ext.ret (h : Ext m rb S) (hr : S rb = some (rdr l)) : SubS (m.set rb (rdr l)) S := by
  intro c z hc
  by_cases e : c = rb
  · subst e
    rw [Store.set_same] at hc
    cases hc
    exact hr
  · rw [Store.set_ne _ _ e] at hc
    exact h c z e hc
theorem Ext.pan (h : Ext m rb S) (l : List Tk) (b : Nat) (z : Blk) : SubS ((m.set rb (rdr l)).set b z) ((S.set rb (rdr l)).set b z) := (Ext.ret (h.rd (rdr l)) (Store.set_same _ _ _)).set b z
theorem pl_pan {val : List Ex → V} (h : Ext m rb S) (hr : S rb = some y) (hb : S b = Option.none) : PL m rb val (.st l) (.pan (stV b)) ((S.set rb (rdr l)).set b (stk l)) :=
  ⟨b, h.none hr hb, rfl, h.pan l b _⟩
theorem pl_room {val : List Ex → V} {p : PR} : ∀ v (m1 : Store) b x, m1 b = none → PL m rb val p (.pan v) m1 → PL m rb val p (.pan v) (m1.set b x) := by
  intro v m1 b x hb h
  cases p with
  | ok es l =>
    obtain ⟨_, ⟨⟩, _⟩ := h
  | st l =>
    obtain ⟨c, h1, h2, h3⟩ := h
    exact ⟨c, h1, h2, h3.out (h3.none hb) _⟩
theorem pe_of_pl {P : Program} {Γ : Glob} {f : FuncId} {args : List V} {val : List Ex → V} {p : PR} (h : ACalls P Γ f args m (PL m rb val p)) : ACalls P Γ f args m (PE m rb val p) := by
  cases p with
  | ok es l =>
    refine ACalls.weak (R := fun o m' => ∃ v, o = .ret v ∧ weak v = val es ∧ m' = m.set rb (rdr l)) (h.less ?_) ?_ ?_
    · rintro o m' ⟨v, h1, h2, h3⟩
      exact ⟨_, h3, v, h1, h2, rfl⟩
    · rintro v m' ⟨_, ⟨⟩, h2, h3⟩
      exact ⟨by rw [h2], h3⟩
    · rintro v m' ⟨_, ⟨⟩, _⟩
  | st l =>
    refine h.less ?_
    rintro o m' ⟨b, h1, h2, h3⟩
    exact ⟨_, h3, b, h1, h2, rfl⟩
theorem callS_pe {P : Program} {Γ : Glob} {Kp : V → Store → Prop} {s : List (Tmp × Option (Tmp × Bool) × AOp)} {li : List Item} {K : St → Prop} {t : List V} {d : Option Tmp} {g : FuncId} {first args caps : List V} {val : List Ex → V} {p : PR}
    (h : ACalls P Γ g (first ++ args ++ caps) S (PE S rb val p)) (hok : ∀ es l1, p = .ok es l1 → thenO P Γ Kp s li K (putO t (S.set rb (rdr l1)) d (some (val es))))
    (hst : ∀ l1 b, p = .st l1 → S b = Option.none → Kp (stV b) ((S.set rb (rdr l1)).set b (stk l1))) : callS P Γ Kp (.fn (.func g) first caps) args d s li K t S := by
  refine callS_of h ?_ ?_
  · intro v m' hv
    cases p with
    | ok es l =>
      obtain ⟨h1, rfl⟩ := hv
      cases h1
      exact hok _ _ rfl
    | st l =>
      obtain ⟨_, _, ⟨⟩, _⟩ := hv
  · intro v m' hv
    cases p with
    | ok es l =>
      obtain ⟨⟨⟩, _⟩ := hv
    | st l =>
      obtain ⟨b, h1, h2, rfl⟩ := hv
      cases h2
      exact hst _ _ rfl h1
end
theorem bind1_inv {r : Option PR} {k : Ex → List Tk → Option PR} {p : PR} (h : bind1 r k = some p) : (∃ e l, r = some (.ok [e] l) ∧ k e l = some p) ∨ (∃ l, r = some (.st l) ∧ p = .st l) := by
  unfold bind1 at h
  split at h
  · exact .inl ⟨_, _, rfl, h⟩
  · cases h
    exact .inr ⟨_, rfl, rfl⟩
  · cases h
theorem bindL_inv {r : Option PR} {k : List Ex → List Tk → Option PR} {p : PR} (h : bindL r k = some p) : (∃ es l, r = some (.ok es l) ∧ k es l = some p) ∨ (∃ l, r = some (.st l) ∧ p = .st l) := by
  unfold bindL at h
  split at h
  · exact .inl ⟨_, _, rfl, h⟩
  · cases h
    exact .inr ⟨_, rfl, rfl⟩
  · cases h
mutual
theorem weak_exV : ∀ e : Ex, weak (exV e) = exV e
  | .mk k s n kids l => by
    simp only [exV, weak, weaks, weaks_exVs kids, bs]
theorem weaks_exVs : ∀ l : List Ex, weaks (exVs l) = exVs l
  | [] => rfl
  | e :: r => by simp only [exVs, weaks, weak_exV e, weaks_exVs r]
end
theorem exV_cells (e : Ex) : (exV e).cells.length = 5 := by
  cases e
  rfl
theorem szOk_tk : ∀ l : List Tk, szOk 5 (l.map tkV) = true
  | [] => rfl
  | t :: l => by
    have := szOk_tk l
    simp only [szOk, List.map_cons, List.all_cons, Bool.and_eq_true] at this ⊢
    exact ⟨rfl, this⟩
theorem cut_tk {t : Tk} {l : List Tk} : sliceLF 5 (.sl (tkV t :: l.map tkV) [] .no) (some (some 1)) (some none) (some none) = some (.sl (l.map tkV) [] .no) := by
  have hs : szOk 5 (tkV t :: l.map tkV) = true := szOk_tk (t :: l)
  simp only [sliceLF, List.append_nil, hs, if_true, cutV, Option.getD_none, Option.getD_some]
  rw [if_pos ⟨by decide, by simp, by omega⟩]
  simp [cutTok]
theorem idx_tk {t : Tk} {l : List V} {mm : List V} {tt : Tok} : idxLV 5 (.sl (tkV t :: l) mm tt) (.val (.int .i64 0)) = some (.elt [it t.k, bs t.s, it t.n, it t.l, it t.a]) := idxLV_nat (i := 0) (e := tkV t) rfl rfl
theorem ld5 {m : Store} {a b c d e : V} : loadV m (some 5) (.elt [a, b, c, d, e]) = some (.agg [a, b, c, d, e]) := rfl
theorem lit5_eq {P : Program} {Γ : Glob} {t : List V} {m : Store} {z : List V} {x : Operand} : evalL P (ev Γ t) m (.lits 5 z 1 [(0, x)]) = (litsV 5 [.agg z] [(0, ev Γ t x)]).map fun es => .sl es [] .full := rfl
theorem lit52_eq {P : Program} {Γ : Glob} {t : List V} {m : Store} {z : List V} {x y : Operand} : evalL P (ev Γ t) m (.lits 5 z 2 [(0, x), (1, y)]) = (litsV 5 [.agg z, .agg z] [(0, ev Γ t x), (1, ev Γ t y)]).map fun es => .sl es [] .full := rfl
theorem lits5_one {z : List V} {v : V} (h : v.cells.length = 5) : ((litsV 5 [.agg z] [(0, v)]).map fun es => V.sl es [] .full) = some (.sl [v] [] .full) := by
  rw [litsV_next h (by simp), litsV_done]
  rfl
theorem lits5_two {z : List V} {v u : V} (h : v.cells.length = 5) (k : u.cells.length = 5) : ((litsV 5 [.agg z, .agg z] [(0, v), (1, u)]).map fun es => V.sl es [] .full) = some (.sl [v, u] [] .full) := by
  rw [litsV_next h (by simp), litsV_next k (by simp [← tset_eq]), litsV_done]
  rfl
section
variable {Γ : Glob} {m : Store} {rb : Nat}
theorem level_ok (s : List UInt8) : ACalls Tryz.prog Γ 174 [bs s] m fun o m' => o = .ret (it (level s)) ∧ m' = m := by
  refine acalls_of_awp mixed F174_ok (by rintro v m b x _ ⟨⟨⟩, _⟩) ?_
  simp only [F174, start, List.cons_append, List.nil_append, List.length_cons, List.length_nil, List.replicate, Nat.reduceSub, Nat.reduceAdd]
  simp only [ssS, bin_or, bin_and, Nat.reduceAdd, Nat.reduceLeDiff, reduceIte, eq_self, Nat.reduceEqDiff]
  repeat' first
    | (refine condS_split (fun h => ?_) (fun h => ?_))
    | (simp only [ssS, bin_or, bin_and, Nat.reduceAdd, Nat.reduceLeDiff, reduceIte, eq_self, Nat.reduceEqDiff])
  all_goals
    refine bodyA_ret resV_one ⟨?_, rfl⟩
    simp only [tget_zero, tget_succ]
    simp_all [level]
theorem is_ok {t : Tk} {l : List Tk} (s : List UInt8) (hr : m rb = some (rdr (t :: l))) : ACalls Tryz.prog Γ 222 [.ptr rb 0, bs s] m fun o m' => o = .ret (.val (.bool (isS s t))) ∧ m' = m := by
  refine ACalls.less (A := fun o m' => o = .ret (.val (.bool (isS s t))) ∧ SubS m m') ?_ fun o m' h => ⟨m, h.2, h.1, rfl⟩
  refine acalls_of_awp mixed F222_ok (by rintro v m b x _ ⟨⟨⟩, _⟩) ?_
  simp only [F222, start, List.cons_append, List.nil_append, List.length_cons, List.length_nil, List.replicate, Nat.reduceSub, Nat.reduceAdd]
  simp only [hr, rdr, idx_tk, ld5, ssS, bin_or, bin_and, Nat.reduceAdd, Nat.reduceLeDiff, reduceIte, eq_self, Nat.reduceEqDiff]
  refine allocS_of fun b hb => ?_
  have hn := ne_of_some hr hb
  simp only [Store.set_same, ssS, bin_or, bin_and, Nat.reduceAdd, Nat.reduceLeDiff, reduceIte, eq_self, Nat.reduceEqDiff]
  cases h4 : (t.k == 4)
  · cases h5 : (t.k == 5)
    · simp only [h4, h5, Store.set_same, Store.set_set, ssS, bin_or, bin_and, Nat.reduceAdd, Nat.reduceLeDiff, reduceIte, eq_self, Nat.reduceEqDiff]
      refine bodyA_ret resV_one ⟨?_, (SubS.refl m).out hb _⟩
      simp only [tget_zero, tget_succ, isS, h4, h5]
      rfl
    · simp only [h4, h5, Store.set_same, Store.set_set, ssS, bin_or, bin_and, Nat.reduceAdd, Nat.reduceLeDiff, reduceIte, eq_self, Nat.reduceEqDiff]
      refine bodyA_ret resV_one ⟨?_, (SubS.refl m).out hb _⟩
      simp only [tget_zero, tget_succ, isS, h4, h5]
      rfl
  · simp only [h4, Store.set_same, Store.set_set, ssS, bin_or, bin_and, Nat.reduceAdd, Nat.reduceLeDiff, reduceIte, eq_self, Nat.reduceEqDiff]
    refine bodyA_ret resV_one ⟨?_, (SubS.refl m).out hb _⟩
    simp only [tget_zero, tget_succ, isS, h4]
    rfl
theorem take_yes {t : Tk} {l : List Tk} {s : List UInt8} (hr : m rb = some (rdr (t :: l))) (h : isS s t = true) : ACalls Tryz.prog Γ 201 [.ptr rb 0, bs s] m fun o m' => o = .ret (.val (.bool true)) ∧ m' = m.set rb (rdr l) := by
  refine acalls_of_awp mixed F201_ok (by rintro v m b x _ ⟨⟨⟩, _⟩) ?_
  simp only [F201, start, List.cons_append, List.nil_append, List.length_cons, List.length_nil, List.replicate, Nat.reduceSub, Nat.reduceAdd]
  simp only [ssS, bin_or, bin_and, Nat.reduceAdd, Nat.reduceLeDiff, reduceIte, eq_self, Nat.reduceEqDiff]
  refine callS_pure (is_ok s hr) ?_
  simp only [h, hr, rdr, eval_sliceL, cut_tk, ssS, bin_or, bin_and, Nat.reduceAdd, Nat.reduceLeDiff, reduceIte, eq_self, Nat.reduceEqDiff]
  exact bodyA_ret resV_one ⟨rfl, rfl⟩
theorem take_no {t : Tk} {l : List Tk} {s : List UInt8} (hr : m rb = some (rdr (t :: l))) (h : isS s t = false) : ACalls Tryz.prog Γ 201 [.ptr rb 0, bs s] m fun o m' => o = .ret (.val (.bool false)) ∧ m' = m := by
  refine acalls_of_awp mixed F201_ok (by rintro v m b x _ ⟨⟨⟩, _⟩) ?_
  simp only [F201, start, List.cons_append, List.nil_append, List.length_cons, List.length_nil, List.replicate, Nat.reduceSub, Nat.reduceAdd]
  simp only [ssS, bin_or, bin_and, Nat.reduceAdd, Nat.reduceLeDiff, reduceIte, eq_self, Nat.reduceEqDiff]
  refine callS_pure (is_ok s hr) ?_
  simp only [h, ssS, bin_or, bin_and, Nat.reduceAdd, Nat.reduceLeDiff, reduceIte, eq_self, Nat.reduceEqDiff]
  exact bodyA_ret resV_one ⟨rfl, rfl⟩
theorem stop_ok {t : Tk} {l : List Tk} {val : List Ex → V} (hr : m rb = some (rdr (t :: l))) : ACalls Tryz.prog Γ 172 [.ptr rb 0] m (PE m rb val (.st (t :: l))) := by
  refine pe_of_pl (acalls_of_awp mixed F172_ok pl_room ?_)
  simp only [F172, start, List.cons_append, List.nil_append, List.length_cons, List.length_nil, List.replicate, Nat.reduceSub, Nat.reduceAdd]
  simp only [hr, rdr, idx_tk, ld5, ssS, bin_or, bin_and, Nat.reduceAdd, Nat.reduceLeDiff, reduceIte, eq_self, Nat.reduceEqDiff]
  refine allocS_of fun b hb => ?_
  simp only [runO_pan, panS_ifc, ssS, bin_or, bin_and, Nat.reduceAdd, Nat.reduceLeDiff, reduceIte, eq_self, Nat.reduceEqDiff]
  refine ⟨b, hb, rfl, ?_⟩
  rw [Store.set_eq m hr]
  exact SubS.refl _
theorem must_ok {l : List Tk} {s : List UInt8} {p : PR} (hr : m rb = some (rdr l)) (h : mustK s l (fun l2 => some (.ok [] l2)) = some p) : ACalls Tryz.prog Γ 175 [.ptr rb 0, bs s] m (PE m rb (fun _ => .tup []) p) := by
  cases l with
  | nil => cases h
  | cons t l =>
    simp only [mustK] at h
    refine pe_of_pl (acalls_of_awp mixed F175_ok pl_room ?_)
    simp only [F175, start, List.cons_append, List.nil_append, List.length_cons, List.length_nil, List.replicate, Nat.reduceSub, Nat.reduceAdd]
    simp only [ssS, bin_or, bin_and, Nat.reduceAdd, Nat.reduceLeDiff, reduceIte, eq_self, Nat.reduceEqDiff]
    cases hi : isS s t
    · simp only [hi, Bool.false_eq_true, if_false, Option.some.injEq] at h
      subst h
      refine callS_pure (take_no hr hi) ?_
      simp only [Bool.not_false, ssS, bin_or, bin_and, Nat.reduceAdd, Nat.reduceLeDiff, reduceIte, eq_self, Nat.reduceEqDiff]
      refine callS_pe (stop_ok (val := fun _ => .tup []) hr) (by rintro es l1 ⟨⟩) ?_
      rintro l1 b ⟨⟩ hb
      exact pl_pan (Ext.refl m rb) hr hb
    · simp only [hi, if_true, Option.some.injEq] at h
      subst h
      refine callS_to (take_yes hr hi) ?_
      simp only [Bool.not_true, ssS, bin_or, bin_and, Nat.reduceAdd, Nat.reduceLeDiff, reduceIte, eq_self, Nat.reduceEqDiff]
      exact bodyA_normal (v := .tup []) rfl ⟨_, rfl, rfl, SubS.refl _⟩
theorem name_yes {t : Tk} {l : List Tk} (hr : m rb = some (rdr (t :: l))) (h : t.k = 1) : ACalls Tryz.prog Γ 203 [.ptr rb 0] m fun o m' => o = .ret (bs t.s) ∧ m' = m.set rb (rdr l) := by
  refine ACalls.less (A := fun o m' => o = .ret (bs t.s) ∧ SubS (m.set rb (rdr l)) m') ?_ fun o m' h => ⟨_, h.2, h.1, rfl⟩
  refine acalls_of_awp mixed F203_ok (by rintro v m b x _ ⟨⟨⟩, _⟩) ?_
  simp only [F203, start, List.cons_append, List.nil_append, List.length_cons, List.length_nil, List.replicate, Nat.reduceSub, Nat.reduceAdd]
  simp only [hr, rdr, idx_tk, ld5, ssS, bin_or, bin_and, Nat.reduceAdd, Nat.reduceLeDiff, reduceIte, eq_self, Nat.reduceEqDiff]
  refine allocS_of fun b hb => ?_
  have hn := ne_of_some hr hb
  have h1 : (t.k != 1) = false := by simp [h]
  simp only [Store.set_same, Store.set_set, Store.set_ne _ _ hn, Store.set_ne _ _ hn.symm, hr, rdr, h1, eval_sliceL, cut_tk, ssS, bin_or, bin_and, Nat.reduceAdd, Nat.reduceLeDiff, reduceIte, eq_self, Nat.reduceEqDiff]
  refine bodyA_ret resV_one ⟨rfl, ?_⟩
  exact Ext.ret ((Ext.refl m rb).alloc hb _ |>.rd _) (Store.set_same _ _ _)
theorem name_no {t : Tk} {l : List Tk} {val : List Ex → V} (hr : m rb = some (rdr (t :: l))) (h : ¬ t.k = 1) : ACalls Tryz.prog Γ 203 [.ptr rb 0] m (PE m rb val (.st (t :: l))) := by
  refine pe_of_pl (acalls_of_awp mixed F203_ok pl_room ?_)
  simp only [F203, start, List.cons_append, List.nil_append, List.length_cons, List.length_nil, List.replicate, Nat.reduceSub, Nat.reduceAdd]
  simp only [hr, rdr, idx_tk, ld5, ssS, bin_or, bin_and, Nat.reduceAdd, Nat.reduceLeDiff, reduceIte, eq_self, Nat.reduceEqDiff]
  refine allocS_of fun b hb => ?_
  have hn := ne_of_some hr hb
  have h1 : (t.k != 1) = true := by simp [h]
  simp only [Store.set_same, Store.set_set, h1, ssS, bin_or, bin_and, Nat.reduceAdd, Nat.reduceLeDiff, reduceIte, eq_self, Nat.reduceEqDiff]
  refine callS_pe (S := m.set b _) (stop_ok (val := val) (by rw [Store.set_ne _ _ hn]; exact hr)) (by rintro es l1 ⟨⟩) ?_
  rintro l1 b2 ⟨⟩ hb2
  exact pl_pan ((Ext.refl m rb).alloc hb _) (by rw [Store.set_ne _ _ hn]; exact hr) hb2
end
end Go.Av.Fn
/- The parser's rows of expressions, over what reads one. No condition. -/
namespace Go.Av.Fn
set_option linter.unusedSimpArgs false
set_option linter.unusedVariables false
set_option maxRecDepth 10000
open Go.Proofs
def hdV : List Ex → V
  | e :: _ => exV e
  | [] => un
def slV (es : List Ex) : V := .sl (exVs es) [] .no
def Sgl : PR → Prop
  | .ok es _ => ∃ e, es = [e]
  | .st _ => True
def ExH (Γ : Glob) (n : Nat) : Prop := ∀ (line : Nat) (l : List Tk) (p : PR) (m : Store) (rb : Nat), line ≤ 6 → m rb = some (rdr l) → Sgl p → run n (.ex line) l = some p → ACalls Tryz.prog Γ 146 [.ptr rb 0, it line] m (PE m rb hdV p)
def UnH (Γ : Glob) (n : Nat) : Prop := ∀ (l : List Tk) (p : PR) (m : Store) (rb : Nat), m rb = some (rdr l) → Sgl p → run n .un l = some p → ACalls Tryz.prog Γ 173 [.ptr rb 0] m (PE m rb hdV p)
def SiH (Γ : Glob) (n : Nat) : Prop := ∀ (l : List Tk) (p : PR) (m : Store) (rb : Nat), m rb = some (rdr l) → Sgl p → run n .si l = some p → ACalls Tryz.prog Γ 202 [.ptr rb 0] m (PE m rb hdV p)
theorem BufF.put {e : TypeId} {size : Nat} {m m' : Store} {v : V} {es : List V} (h : BufF e size m m' v es) {b : Nat} {x y : Blk} (hb : m b = some y) : BufF e size (m.set b x) (m'.set b x) v es := by
  refine ⟨h.1, ?_⟩
  rcases h.2 with ⟨h2, rfl⟩ | ⟨h1, t, k, ht, rfl, h2⟩
  · exact .inl ⟨h2, rfl⟩
  · have hne : t ≠ b := fun e => ne_of_some hb ht e.symm
    exact .inr ⟨h1, t, k, by rw [Store.set_ne _ _ hne, ht], set_comm _ _ _ hne, h2⟩
theorem exV_one (e : Ex) : ∀ c ∈ (exV e).cells, oneV c = true := by
  obtain ⟨k, s, n, kids, l⟩ := e
  intro c hc
  simp only [exV, V.cells, List.mem_cons, List.not_mem_nil, or_false] at hc
  rcases hc with rfl | rfl | rfl | rfl | rfl <;> rfl
theorem szOk_ex : ∀ l : List Ex, szOk 5 (exVs l) = true
  | [] => rfl
  | e :: l => by
    have := szOk_ex l
    simp only [szOk, exVs, List.all_cons, Bool.and_eq_true] at this ⊢
    exact ⟨by rw [exV_cells]; rfl, this⟩
theorem body_ex {m m2 : Store} {rb b i : Nat} {t : List V} {k n ln : Int} {s : List UInt8} {vs : List V} {tok : Tok} {kids : List Ex} {l1 : List Tk} (h1 : tget t i = .ptr b 0) (h2 : m2 b = some (.var 170 [it k, bs s, it n, .sl vs [] tok, it ln])) (hv : weaks vs = exVs kids) (hs : SubS (m.set rb (rdr l1)) m2) :
    bodyA [ARes.cell i (some 5)] (PL m rb hdV (.ok [.mk k s n kids ln] l1)) .ret ⟨t, m2⟩ :=
  bodyA_ret (v := .agg [it k, bs s, it n, .sl vs [] tok, it ln]) ((resV_cell h1 h2).trans rfl) ⟨_, rfl, by simp only [weak, weaks, hdV, exV, hv, bs], hs⟩
section
variable {Γ : Glob} {m : Store} {rb n : Nat} {l : List Tk} {p : PR}
theorem any_ok (h : ExH Γ n) (hr : m rb = some (rdr l)) (hs : Sgl p) (hp : run n (.ex 0) l = some p) : ACalls Tryz.prog Γ 224 [.ptr rb 0] m (PE m rb hdV p) := by
  refine pe_of_pl (acalls_of_awp mixed F224_ok pl_room ?_)
  simp only [F224, start, List.cons_append, List.nil_append, List.length_cons, List.length_nil, List.replicate, Nat.reduceSub, Nat.reduceAdd]
  simp only [ssS, bin_or, bin_and, Nat.reduceAdd, Nat.reduceLeDiff, reduceIte, eq_self, Nat.reduceEqDiff]
  refine allocS_of fun b hb => ?_
  have hn := ne_of_some hr hb
  have hE := (Ext.refl m rb).alloc hb (.var 170 [V.val (Value.int IntKind.i64 0), V.val (Value.string (ByteArray.mk #[])), V.val (Value.int IntKind.i64 0), V.sl [] [] Tok.full, V.val (Value.int IntKind.i64 0)])
  simp only [ssS, bin_or, bin_and, Nat.reduceAdd, Nat.reduceLeDiff, reduceIte, eq_self, Nat.reduceEqDiff]
  refine callS_pe (h 0 l p _ rb (by omega) (by rw [Store.set_ne _ _ hn]; exact hr) hs hp) (fun es l1 e => ?_) (fun l1 b2 e hb2 => ?_)
  · subst e
    obtain ⟨e, rfl⟩ := hs
    obtain ⟨k, s, n, kids, ln⟩ := e
    simp only [hdV, exV, Store.set_ne _ _ hn.symm, Store.set_same, ssS, bin_or, bin_and, Nat.reduceAdd, Nat.reduceLeDiff, reduceIte, eq_self, Nat.reduceEqDiff]
    refine body_ex (b := b) rfl (Store.set_same _ _ _) (weaks_exVs _) ?_
    exact ((hE.rd _).loc hb _).ret (by rw [Store.set_ne _ _ hn, Store.set_same])
  · subst e
    exact pl_pan hE (by rw [Store.set_ne _ _ hn]; exact hr) hb2
theorem rowE_ok (hn0 : n ≤ 1099511627776) (h : ∀ k ≤ n, ExH Γ k) (hr : m rb = some (rdr l)) (hp : rowR (run n) l = some p) : ACalls Tryz.prog Γ 225 [.ptr rb 0, .fn (.func 224) [.ptr rb 0] []] m (PE m rb slV p) := by
  refine pe_of_pl (acalls_of_awp mixed F225_ok pl_room ?_)
  simp only [F225, start, List.cons_append, List.nil_append, List.length_cons, List.length_nil, List.replicate, Nat.reduceSub, Nat.reduceAdd]
  simp only [ssS, bin_or, bin_and, Nat.reduceAdd, Nat.reduceLeDiff, reduceIte, eq_self, Nat.reduceEqDiff]
  rcases bind1_inv hp with ⟨e, l1, h1, h2⟩ | ⟨l1, h1, rfl⟩
  case inr =>
    refine callS_pe (any_ok (p := .st l1) (h n (Nat.le_refl _)) hr trivial h1) (by rintro es l2 ⟨⟩) ?_
    rintro l2 b ⟨⟩ hb
    exact pl_pan (Ext.refl m rb) hr hb
  case inl =>
    refine callS_pe (any_ok (p := .ok [e] l1) (h n (Nat.le_refl _)) hr ⟨e, rfl⟩ h1) ?_ (by rintro l2 b ⟨⟩)
    rintro es l2 ⟨⟩
    simp only [hdV, lit5_eq, lits5_one (exV_cells e), ssS, bin_or, bin_and, Nat.reduceAdd, Nat.reduceLeDiff, reduceIte, eq_self, Nat.reduceEqDiff]
    refine awp_loop' (fun j st => ∃ (out : List Ex) (l1 : List Tk) (N : Store) (v : V), run j (.ro out) l1 = some p ∧ out.length + j ≤ n + 1 ∧ Ext m rb N ∧ N rb = some (rdr l1) ∧ BufF 170 5 N st.m v (exVs out) ∧ st.t.length = 17 ∧ tget st.t 0 = .ptr rb 0 ∧ tget st.t 1 = .fn (.func 224) [.ptr rb 0] [] ∧ tget st.t 5 = v)
      n ⟨[e], l1, _, _, h2, by simp; omega, (Ext.refl m rb).rd _, Store.set_same _ _ _, ⟨szOk_ex [e], .inl ⟨rfl, rfl⟩⟩, rfl, rfl, rfl, rfl⟩ ?_
    rintro j ⟨t, M⟩ J hJ ⟨out, l3, N, v, g1, g2, g3, g4, g5, hlen, t0, t1, t5⟩
    simp only at g5 hlen t0 t1 t5
    subst t5
    cases j with
    | zero => cases g1
    | succ j =>
      cases l3 with
      | nil => cases g1
      | cons tk l3 =>
        have g1 : step (run j) tk l3 (.ro out) = some p := g1
        simp only [step] at g1
        obtain ⟨tok, htok⟩ := g5.val
        rw [htok] at g5
        have hM := g5.sub _ _ g4
        rw [t_eq hlen]
        simp only [upTo_succ, upTo_zero, Nat.reduceAdd, t0, t1, htok]
        simp only [ssS, bin_or, bin_and, Nat.reduceAdd, Nat.reduceLeDiff, reduceIte, eq_self, Nat.reduceEqDiff]
        cases hi : isS [44] tk
        · simp only [hi, Bool.false_eq_true, if_false, Option.some.injEq] at g1
          subst g1
          refine callS_pure (take_no hM hi) ?_
          simp only [ssS, bin_or, bin_and, Nat.reduceAdd, Nat.reduceLeDiff, reduceIte, eq_self, Nat.reduceEqDiff]
          refine bodyA_ret resV_one ⟨.sl (exVs out) [] tok, rfl, ?_, ?_⟩
          · simp only [weak, weaks, weaks_exVs, slV]
          · exact (SubS.trans (g3.ret g4) g5.sub)
        · simp only [hi, if_true] at g1
          refine callS_to (take_yes hM hi) ?_
          simp only [ssS, bin_or, bin_and, Nat.reduceAdd, Nat.reduceLeDiff, reduceIte, eq_self, Nat.reduceEqDiff]
          have g6 := BufF.put g5 (x := rdr l3) g4
          have hM6 : (M.set rb (rdr l3)) rb = some (rdr l3) := Store.set_same _ _ _
          have hE6 : Ext m rb (M.set rb (rdr l3)) := fun c x hc hm => by
            rw [Store.set_ne _ _ hc]
            exact g5.sub _ _ (g3 c x hc hm)
          rcases bind1_inv g1 with ⟨e2, l4, k1, k2⟩ | ⟨l4, k1, rfl⟩
          case inr =>
            refine callS_pe (any_ok (p := .st l4) (h j (by omega)) hM6 trivial k1) (by rintro es l2 ⟨⟩) ?_
            rintro l2 b ⟨⟩ hb
            exact pl_pan hE6 hM6 hb
          case inl =>
            refine callS_pe (any_ok (p := .ok [e2] l4) (h j (by omega)) hM6 ⟨e2, rfl⟩ k1) ?_ (by rintro l2 b ⟨⟩)
            rintro es l5 ⟨⟩
            simp only [hdV, lit5_eq, lits5_one (exV_cells e2), Store.set_set, ssS, bin_or, bin_and, Nat.reduceAdd, Nat.reduceLeDiff, reduceIte, eq_self, Nat.reduceEqDiff]
            have g7 := BufF.put g5 (x := rdr l4) g4
            refine appS_bufF g7 (exV_cells e2) (exV_one e2) (by rw [exVs_length]; omega) fun m2 v2 hB2 => ?_
            simp only [ssS, bin_or, bin_and, Nat.reduceAdd, Nat.reduceLeDiff, reduceIte, eq_self, Nat.reduceEqDiff]
            refine hJ j _ (by omega) ⟨out ++ [e2], l4, _, v2, k2, by simp; omega, g3.rd _, Store.set_same _ _ _, by rw [exVs_append]; exact hB2, rfl, rfl, rfl, rfl⟩
theorem until_ok (hn0 : n ≤ 1099511627776) (h : ∀ k ≤ n, ExH Γ k) {s : List UInt8} (hr : m rb = some (rdr l)) (hp : untilR (run n) s l = some p) : ACalls Tryz.prog Γ 223 [.ptr rb 0, bs s, .fn (.func 224) [.ptr rb 0] []] m (PE m rb slV p) := by
  cases l with
  | nil => cases hp
  | cons tk l =>
    simp only [untilR] at hp
    refine pe_of_pl (acalls_of_awp mixed F223_ok pl_room ?_)
    simp only [F223, start, List.cons_append, List.nil_append, List.length_cons, List.length_nil, List.replicate, Nat.reduceSub, Nat.reduceAdd]
    simp only [ssS, bin_or, bin_and, Nat.reduceAdd, Nat.reduceLeDiff, reduceIte, eq_self, Nat.reduceEqDiff]
    cases hi : isS s tk
    · simp only [hi, Bool.false_eq_true, if_false] at hp
      refine callS_pure (take_no hr hi) ?_
      simp only [ssS, bin_or, bin_and, Nat.reduceAdd, Nat.reduceLeDiff, reduceIte, eq_self, Nat.reduceEqDiff]
      rcases bindL_inv hp with ⟨es, l1, h1, h2⟩ | ⟨l1, h1, rfl⟩
      case inr =>
        refine callS_pe (rowE_ok hn0 h hr h1) (by rintro es l2 ⟨⟩) ?_
        rintro l2 b ⟨⟩ hb
        exact pl_pan (Ext.refl m rb) hr hb
      case inl =>
        refine callS_pe (rowE_ok hn0 h hr h1) ?_ (by rintro l2 b ⟨⟩)
        rintro es2 l2 ⟨⟩
        simp only [ssS, bin_or, bin_and, Nat.reduceAdd, Nat.reduceLeDiff, reduceIte, eq_self, Nat.reduceEqDiff]
        cases l1 with
        | nil => cases h2
        | cons t2 l1 =>
          simp only [mustK] at h2
          cases hj : isS s t2
          · simp only [hj, Bool.false_eq_true, if_false, Option.some.injEq] at h2
            subst h2
            refine callS_pe (must_ok (s := s) (p := .st (t2 :: l1)) (Store.set_same _ _ _) (by simp only [mustK, hj, Bool.false_eq_true, if_false])) (by rintro es l2 ⟨⟩) ?_
            rintro l2 b ⟨⟩ hb
            exact pl_pan ((Ext.refl m rb).rd _) (Store.set_same _ _ _) hb
          · simp only [hj, if_true, Option.some.injEq] at h2
            subst h2
            refine callS_pe (must_ok (s := s) (p := .ok [] l1) (Store.set_same _ _ _) (by simp only [mustK, hj, if_true])) ?_ (by rintro l2 b ⟨⟩)
            rintro es3 l3 ⟨⟩
            simp only [ssS, bin_or, bin_and, Nat.reduceAdd, Nat.reduceLeDiff, reduceIte, eq_self, Nat.reduceEqDiff]
            refine bodyA_ret resV_one ⟨slV es, rfl, ?_, ?_⟩
            · simp only [slV, weak, weaks, weaks_exVs]
            · rw [Store.set_set]
              exact SubS.refl _
    · simp only [hi, if_true, Option.some.injEq] at hp
      subst hp
      refine callS_to (take_yes hr hi) ?_
      simp only [ssS, bin_or, bin_and, Nat.reduceAdd, Nat.reduceLeDiff, reduceIte, eq_self, Nat.reduceEqDiff]
      exact bodyA_ret resV_one ⟨_, rfl, rfl, SubS.refl _⟩
end
end Go.Av.Fn
/- The parser's expressions of a line: what the walk comes to, over what reads below. No condition. -/
namespace Go.Av.Fn
set_option linter.unusedSimpArgs false
set_option linter.unusedVariables false
set_option maxRecDepth 10000
open Go.Proofs
abbrev zE : List V := [V.val (Value.int IntKind.i64 0), V.val (Value.string (ByteArray.mk #[])), V.val (Value.int IntKind.i64 0), V.sl [] [] Tok.full, V.val (Value.int IntKind.i64 0)]
theorem isS_self {t : Tk} (h : (t.k == 4) = true) : isS t.s t = true := by simp [isS, h]
theorem run_cons {n : Nat} {r : Rule} {l : List Tk} {p : PR} (h : run n r l = some p) : ∃ j t l', n = j + 1 ∧ l = t :: l' ∧ step (run j) t l' r = some p := by
  cases n with
  | zero => cases h
  | succ j =>
    cases l with
    | nil => cases h
    | cons t l' => exact ⟨j, t, l', rfl, rfl, h⟩
theorem expr_ok {Γ : Glob} {n : Nat} (h : ∀ k < n, ExH Γ k ∧ UnH Γ k) : ExH Γ n := by
  intro line l p m rb hl hr hs hp
  replace hp := run_cons hp
  obtain ⟨n, tk, l, rfl, rfl, hp⟩ := hp
  simp only [step] at hp
  refine pe_of_pl (acalls_of_awp mixed F146_ok pl_room ?_)
  simp only [F146, start, List.cons_append, List.nil_append, List.length_cons, List.length_nil, List.replicate, Nat.reduceSub, Nat.reduceAdd]
  simp only [ssS, bin_or, bin_and, Nat.reduceAdd, Nat.reduceLeDiff, reduceIte, eq_self, Nat.reduceEqDiff]
  refine allocS_of fun b4 hb4 => ?_
  have h4 := ne_of_some hr hb4
  have hE := (Ext.refl m rb).alloc hb4 (.var 170 zE)
  have hr4 : (m.set b4 (.var 170 zE)) rb = some (rdr (tk :: l)) := by rw [Store.set_ne _ _ h4]; exact hr
  simp only [ssS, bin_or, bin_and, Nat.reduceAdd, Nat.reduceLeDiff, reduceIte, eq_self, Nat.reduceEqDiff]
  refine condS_split (fun hc => ?_) (fun hc => ?_)
  · have h6 : line = 6 := by have := eq_of_beq hc; omega
    rw [if_pos h6] at hp
    simp only [ssS, bin_or, bin_and, Nat.reduceAdd, Nat.reduceLeDiff, reduceIte, eq_self, Nat.reduceEqDiff]
    refine callS_pe ((h n (by omega)).2 (tk :: l) p _ rb hr4 hs hp) (fun es l1 e => ?_) (fun l1 b2 e hb2 => ?_)
    · subst e
      obtain ⟨e, rfl⟩ := hs
      obtain ⟨k, s, nn, kids, ln⟩ := e
      simp only [hdV, exV, Store.set_ne _ _ h4.symm, Store.set_same, ssS, bin_or, bin_and, Nat.reduceAdd, Nat.reduceLeDiff, reduceIte, eq_self, Nat.reduceEqDiff]
      refine body_ex (b := b4) rfl (Store.set_same _ _ _) (weaks_exVs _) ?_
      exact ((hE.rd _).loc hb4 _).ret (by rw [Store.set_ne _ _ h4, Store.set_same])
    · subst e
      exact pl_pan hE hr4 hb2
  · have h6 : ¬ line = 6 := by
      intro e
      rw [e] at hc
      simp at hc
    rw [if_neg h6] at hp
    simp only [next_i64 (show line < 4611686018427387904 by omega), ssS, bin_or, bin_and, Nat.reduceAdd, Nat.reduceLeDiff, reduceIte, eq_self, Nat.reduceEqDiff]
    rcases bind1_inv hp with ⟨e, l1, h1, h2⟩ | ⟨l1, h1, rfl⟩
    case inr =>
      refine callS_pe ((h n (by omega)).1 (line + 1) (tk :: l) (.st l1) _ rb (by omega) hr4 trivial h1) (by rintro es l2 ⟨⟩) ?_
      rintro l2 b2 ⟨⟩ hb2
      exact pl_pan hE hr4 hb2
    case inl =>
      refine callS_pe ((h n (by omega)).1 (line + 1) (tk :: l) (.ok [e] l1) _ rb (by omega) hr4 ⟨e, rfl⟩ h1) ?_ (by rintro l2 b2 ⟨⟩)
      rintro es l2 ⟨⟩
      obtain ⟨k, s, nn, kids, ln⟩ := e
      obtain ⟨_, tk2, l2, _, rfl, _⟩ := run_cons h2
      have hE2 := hE.rd (rdr (tk2 :: l2))
      simp only [hdV, exV, ssS, bin_or, bin_and, Nat.reduceAdd, Nat.reduceLeDiff, reduceIte, eq_self, Nat.reduceEqDiff]
      refine allocS_of fun b5 hb5 => ?_
      have h5 := ne_of_some (Store.set_same _ _ _) hb5
      have h45 : b4 ≠ b5 := ne_of_some (x := .var 170 zE) (by rw [Store.set_ne _ _ h4.symm, Store.set_same]) hb5
      have hm5 := hE2.none (Store.set_same _ _ _) hb5
      simp only [Store.set_same, Store.set_set, Store.set_ne _ _ h5, rdr, idx_tk, ld5, ssS, bin_or, bin_and, Nat.reduceAdd, Nat.reduceLeDiff, reduceIte, eq_self, Nat.reduceEqDiff]
      refine allocS_of fun b6 hb6 => ?_
      have h6r : rb ≠ b6 := ne_of_some (x := rdr (tk2 :: l2)) (by rw [Store.set_ne _ _ h5, Store.set_same]; rfl) hb6
      have h46 : b4 ≠ b6 := ne_of_some (x := .var 170 zE) (by rw [Store.set_ne _ _ h45, Store.set_ne _ _ h4.symm, Store.set_same]) hb6
      have h56 : b5 ≠ b6 := ne_of_some (Store.set_same _ _ _) hb6
      simp only [Store.set_same, Store.set_set, ssS, bin_or, bin_and, Nat.reduceAdd, Nat.reduceLeDiff, reduceIte, eq_self, Nat.reduceEqDiff]
      refine awp_loop' (fun j st => ∃ (k : Int) (s : List UInt8) (nn : Int) (kids : List Ex) (ln : Int) (vs : List V) (tok : Tok) (tk : Tk) (l : List Tk) (b6 : Nat), j ≤ n ∧ run j (.lp line (.mk k s nn kids ln)) (tk :: l) = some p ∧ weaks vs = exVs kids ∧ st.m b4 = some (.var 170 zE) ∧ st.m b5 = some (.var 170 [it k, bs s, it nn, .sl vs [] tok, it ln]) ∧ st.m b6 = some (.var 179 [it tk.k, bs tk.s, it tk.n, it tk.l, it tk.a]) ∧ st.m rb = some (rdr (tk :: l)) ∧ Ext m rb st.m ∧ st.t.length = 54 ∧ tget st.t 0 = .ptr rb 0 ∧ tget st.t 1 = it line ∧ tget st.t 4 = .ptr b4 0 ∧ tget st.t 5 = .ptr b5 0 ∧ tget st.t 6 = .ptr b6 0)
        n ⟨k, s, nn, kids, ln, exVs kids, .no, tk2, l2, b6, Nat.le_refl _, h2, weaks_exVs _, ?_, ?_, Store.set_same _ _ _, ?_, ?_, rfl, rfl, rfl, rfl, rfl, rfl⟩ ?_
      · show (Store.set _ _ _) _ = _
        rw [Store.set_ne _ _ h46, Store.set_ne _ _ h45, Store.set_ne _ _ h4.symm, Store.set_same]
      · show (Store.set _ _ _) _ = _
        rw [Store.set_ne _ _ h56, Store.set_same]
      · show (Store.set _ _ _) _ = _
        rw [Store.set_ne _ _ h6r, Store.set_ne _ _ h5, Store.set_same]; rfl
      · exact (hE2.alloc hb5 _).alloc hb6 _
      clear h6r h46 h56 hb6 b6 h2 h1 hp hE2 hb5
      rintro j ⟨t, S⟩ J hJ ⟨k, s, nn, kids, ln, vs, tok, tk, l, b6, hjn, g1, hv, s4, s5, s6, sr, hES, hlen, t0, t1, t4, t5, t6⟩
      simp only at s4 s5 s6 sr hES hlen t0 t1 t4 t5 t6
      have n46 : b6 ≠ b4 := by rintro rfl; rw [s4] at s6; cases s6
      have n56 : b6 ≠ b5 := by rintro rfl; rw [s5] at s6; cases s6
      have n6r : b6 ≠ rb := by rintro rfl; rw [sr] at s6; cases s6
      have n5r : b5 ≠ rb := h5.symm
      have n4r : b4 ≠ rb := h4.symm
      replace g1 := run_cons g1
      obtain ⟨j, _, _, rfl, hc, g1⟩ := g1
      cases hc
      simp only [step] at g1
      rw [t_eq hlen]
      simp only [upTo_succ, upTo_zero, Nat.reduceAdd, t0, t1, t4, t5, t6]
      simp only [s6, ssS, bin_or, bin_and, Nat.reduceAdd, Nat.reduceLeDiff, reduceIte, eq_self, Nat.reduceEqDiff]
      have hfin : ∀ (t : List V), tget t 4 = .ptr b4 0 → bodyA [ARes.cell 4 (some 5)] (PL m rb hdV (.ok [.mk k s nn kids ln] (tk :: l))) .ret ⟨t, S.set b4 (.var 170 [it k, bs s, it nn, .sl vs [] tok, it ln])⟩ := by
        intro t ht
        refine body_ex (b := b4) ht (Store.set_same _ _ _) hv ?_
        exact (hES.loc hb4 _).ret (by rw [Store.set_ne _ _ h4]; exact sr)
      cases hk : (tk.k == 4)
      · simp only [hk, Bool.false_and, Bool.false_eq_true, if_false, Option.some.injEq] at g1
        subst g1
        simp only [s4, s5, ssS, bin_or, bin_and, Nat.reduceAdd, Nat.reduceLeDiff, reduceIte, eq_self, Nat.reduceEqDiff]
        exact hfin _ rfl
      · simp only [s6, ssS, bin_or, bin_and, Nat.reduceAdd, Nat.reduceLeDiff, reduceIte, eq_self, Nat.reduceEqDiff]
        refine callS_pure (level_ok _) ?_
        simp only [ssS, bin_or, bin_and, Nat.reduceAdd, Nat.reduceLeDiff, reduceIte, eq_self, Nat.reduceEqDiff]
        cases hlv : (level tk.s == (line : Int))
        · simp only [hk, hlv, Bool.and_false, Bool.false_eq_true, if_false, Option.some.injEq] at g1
          subst g1
          simp only [s4, s5, ssS, bin_or, bin_and, Nat.reduceAdd, Nat.reduceLeDiff, reduceIte, eq_self, Nat.reduceEqDiff]
          exact hfin _ rfl
        · simp only [hk, hlv, Bool.and_self, if_true] at g1
          simp only [s6, ssS, bin_or, bin_and, Nat.reduceAdd, Nat.reduceLeDiff, reduceIte, eq_self, Nat.reduceEqDiff]
          refine callS_pe (must_ok (s := tk.s) (p := .ok [] l) sr (by simp only [mustK, isS_self hk, if_true])) ?_ (by rintro l2 b2 ⟨⟩)
          rintro es l0 ⟨⟩
          simp only [Store.set_ne _ _ n6r, Store.set_ne _ _ n5r, s6, s5, next_i64 (show line < 4611686018427387904 by omega), ssS, bin_or, bin_and, Nat.reduceAdd, Nat.reduceLeDiff, reduceIte, eq_self, Nat.reduceEqDiff]
          have hr2 : (S.set rb (rdr l)) rb = some (rdr l) := Store.set_same _ _ _
          rcases bind1_inv g1 with ⟨e2, l3, k1, k2⟩ | ⟨l3, k1, rfl⟩
          case inr =>
            refine callS_pe ((h j (by omega)).1 (line + 1) l (.st l3) _ rb (by omega) hr2 trivial k1) (by rintro es l2 ⟨⟩) ?_
            rintro l2 b2 ⟨⟩ hb2
            exact pl_pan (hES.rd _) hr2 hb2
          case inl =>
            refine callS_pe ((h j (by omega)).1 (line + 1) l (.ok [e2] l3) _ rb (by omega) hr2 ⟨e2, rfl⟩ k1) ?_ (by rintro l2 b2 ⟨⟩)
            rintro es l4 ⟨⟩
            obtain ⟨_, tk3, l4, _, rfl, _⟩ := run_cons k2
            simp only [hdV, Store.set_set, Store.set_ne _ _ n56, Store.set_ne _ _ n6r, Store.set_ne _ _ n5r, s6, s5, lit52_eq, lits5_two (v := .agg [it k, bs s, it nn, .sl vs [] tok, it ln]) (u := exV e2) rfl (exV_cells e2), ssS, bin_or, bin_and, Nat.reduceAdd, Nat.reduceLeDiff, reduceIte, eq_self, Nat.reduceEqDiff]
            refine allocS_of fun b7 hb7 => ?_
            have q7r : rb ≠ b7 := ne_of_some (x := rdr (tk3 :: l4)) (by rw [Store.set_ne _ _ h5, Store.set_same]) hb7
            have q57 : b5 ≠ b7 := ne_of_some (Store.set_same _ _ _) hb7
            have q47 : b4 ≠ b7 := ne_of_some (by rw [Store.set_ne _ _ h45, Store.set_ne _ _ n4r]; exact s4) hb7
            have q67 : b6 ≠ b7 := ne_of_some (by rw [Store.set_ne _ _ n56, Store.set_ne _ _ n6r]; exact s6) hb7
            simp only [Store.set_same, Store.set_set, Store.set_ne _ _ q7r, Store.set_ne _ _ q67, Store.set_ne _ _ h5, Store.set_ne _ _ n56, Store.set_ne _ _ n6r, s6, rdr, idx_tk, ld5, ssS, bin_or, bin_and, Nat.reduceAdd, Nat.reduceLeDiff, reduceIte, eq_self, Nat.reduceEqDiff]
            refine hJ j _ (by omega) ⟨7, tk.s, 0, [.mk k s nn kids ln, e2], ln, [.agg [it k, bs s, it nn, .sl vs [] tok, it ln], exV e2], .full, tk3, l4, b7, by omega, k2, ?_, ?_, ?_, Store.set_same _ _ _, ?_, ?_, rfl, rfl, rfl, rfl, rfl, rfl⟩
            · simp only [weaks, weak, exVs, exV, hv, weak_exV, bs]
            · show (Store.set _ _ _) _ = _
              rw [Store.set_ne _ _ q47, Store.set_ne _ _ h45, Store.set_ne _ _ n4r]; exact s4
            · show (Store.set _ _ _) _ = _
              rw [Store.set_ne _ _ q57, Store.set_same]
            · show (Store.set _ _ _) _ = _
              rw [Store.set_ne _ _ q7r, Store.set_ne _ _ h5, Store.set_same]; rfl
            · exact ((hES.rd _).loc hm5 _).alloc hb7 _
end Go.Av.Fn
/- The parser's expressions with a sign ahead, or behind. No condition. -/
namespace Go.Av.Fn
set_option linter.unusedSimpArgs false
set_option linter.unusedVariables false
set_option maxRecDepth 10000
open Go.Proofs
theorem unary_ok {Γ : Glob} {n : Nat} (h : ∀ k < n, ExH Γ k ∧ UnH Γ k ∧ SiH Γ k) : UnH Γ n := by
  intro l p m rb hr hs hp
  replace hp := run_cons hp
  obtain ⟨n, tk, l, rfl, rfl, hp⟩ := hp
  simp only [step] at hp
  refine pe_of_pl (acalls_of_awp mixed F173_ok pl_room ?_)
  simp only [F173, start, List.cons_append, List.nil_append, List.length_cons, List.length_nil, List.replicate, Nat.reduceSub, Nat.reduceAdd]
  simp only [ssS, bin_or, bin_and, Nat.reduceAdd, Nat.reduceLeDiff, reduceIte, eq_self, Nat.reduceEqDiff]
  refine allocS_of fun b2 hb2 => ?_
  have h2 := ne_of_some hr hb2
  have hE := (Ext.refl m rb).alloc hb2 (.var 170 zE)
  simp only [Store.set_ne _ _ h2, hr, rdr, idx_tk, ld5, ssS, bin_or, bin_and, Nat.reduceAdd, Nat.reduceLeDiff, reduceIte, eq_self, Nat.reduceEqDiff]
  refine allocS_of fun b3 hb3 => ?_
  have h3 : rb ≠ b3 := ne_of_some (x := rdr (tk :: l)) (by rw [Store.set_ne _ _ h2]; exact hr) hb3
  have h23 : b2 ≠ b3 := ne_of_some (Store.set_same _ _ _) hb3
  simp only [Store.set_same, Store.set_set, ssS, bin_or, bin_and, Nat.reduceAdd, Nat.reduceLeDiff, reduceIte, eq_self, Nat.reduceEqDiff]
  obtain ⟨S, hS⟩ : ∃ S, (m.set b2 (.var 170 zE)).set b3 (.var 179 [it tk.k, bs tk.s, it tk.n, it tk.l, it tk.a]) = S := ⟨_, rfl⟩
  have s2 : S b2 = some (.var 170 zE) := by rw [← hS, Store.set_ne _ _ h23, Store.set_same]
  have s3 : S b3 = some (.var 179 [it tk.k, bs tk.s, it tk.n, it tk.l, it tk.a]) := by rw [← hS, Store.set_same]
  have sr : S rb = some (rdr (tk :: l)) := by rw [← hS, Store.set_ne _ _ h3, Store.set_ne _ _ h2]; exact hr
  have hES : Ext m rb S := by rw [← hS]; exact hE.alloc hb3 _
  rw [hS]
  clear hS hE hb3
  have n2r := h2.symm
  have n3r := h3.symm
  have n32 := h23.symm
  cases hi : isS [45] tk
  · refine callS_pure (take_no sr hi) ?_
    simp only [ssS, bin_or, bin_and, Nat.reduceAdd, Nat.reduceLeDiff, reduceIte, eq_self, Nat.reduceEqDiff]
    cases hj : isS [33] tk
    · -- neither
      simp only [hi, hj, Bool.or_self, Bool.false_eq_true, if_false] at hp
      refine callS_pure (take_no sr hj) ?_
      simp only [ssS, bin_or, bin_and, Nat.reduceAdd, Nat.reduceLeDiff, reduceIte, eq_self, Nat.reduceEqDiff]
      rcases bind1_inv hp with ⟨e, l1, h1, k2⟩ | ⟨l1, h1, rfl⟩
      case inr =>
        refine callS_pe ((h n (by omega)).2.2 (tk :: l) (.st l1) _ rb sr trivial h1) (by rintro es l2 ⟨⟩) ?_
        rintro l2 b ⟨⟩ hb
        exact pl_pan hES sr hb
      case inl =>
        refine callS_pe ((h n (by omega)).2.2 (tk :: l) (.ok [e] l1) _ rb sr ⟨e, rfl⟩ h1) ?_ (by rintro l2 b ⟨⟩)
        rintro es l2 ⟨⟩
        obtain ⟨k, s, nn, kids, ln⟩ := e
        obtain ⟨_, tk2, l2, _, rfl, _⟩ := run_cons k2
        simp only [hdV, exV, ssS, bin_or, bin_and, Nat.reduceAdd, Nat.reduceLeDiff, reduceIte, eq_self, Nat.reduceEqDiff]
        refine allocS_of fun b4 hb4 => ?_
        have h4 := ne_of_some (Store.set_same _ _ _) hb4
        have h24 : b2 ≠ b4 := ne_of_some (by rw [Store.set_ne _ _ n2r]; exact s2) hb4
        have hE2 := hES.rd (rdr (tk2 :: l2))
        have hm4 := hE2.none (Store.set_same _ _ _) hb4
        simp only [Store.set_same, Store.set_set, ssS, bin_or, bin_and, Nat.reduceAdd, Nat.reduceLeDiff, reduceIte, eq_self, Nat.reduceEqDiff]
        refine awp_loop' (fun j st => ∃ (k : Int) (s : List UInt8) (nn : Int) (kids : List Ex) (ln : Int) (vs : List V) (tok : Tok) (tk : Tk) (l : List Tk), j ≤ n ∧ run j (.po (.mk k s nn kids ln)) (tk :: l) = some p ∧ weaks vs = exVs kids ∧ st.m b2 = some (.var 170 zE) ∧ st.m b4 = some (.var 170 [it k, bs s, it nn, .sl vs [] tok, it ln]) ∧ st.m rb = some (rdr (tk :: l)) ∧ Ext m rb st.m ∧ st.t.length = 50 ∧ tget st.t 0 = .ptr rb 0 ∧ tget st.t 2 = .ptr b2 0 ∧ tget st.t 4 = .ptr b4 0)
          n ⟨k, s, nn, kids, ln, exVs kids, .no, tk2, l2, Nat.le_refl _, k2, weaks_exVs _, ?_, Store.set_same _ _ _, ?_, hE2.alloc hb4 _, rfl, rfl, rfl, rfl⟩ ?_
        · show (Store.set _ _ _) _ = _
          rw [Store.set_ne _ _ h24, Store.set_ne _ _ n2r]; exact s2
        · show (Store.set _ _ _) _ = _
          rw [Store.set_ne _ _ h4, Store.set_same]
        clear hE2 hb4 k2 h1 hp
        clear s2 s3 sr hES S
        rintro j ⟨t, S⟩ J hJ ⟨k, s, nn, kids, ln, vs, tok, tk, l, hjn, g1, hv, s2, s4, sr, hES, hlen, t0, t2, t4⟩
        simp only at s2 s4 sr hES hlen t0 t2 t4
        have n4r := h4.symm
        have n42 := h24.symm
        replace g1 := run_cons g1
        obtain ⟨j, _, _, rfl, hc, g1⟩ := g1
        cases hc
        simp only [step] at g1
        rw [t_eq hlen]
        simp only [upTo_succ, upTo_zero, Nat.reduceAdd, t0, t2, t4]
        simp only [ssS, bin_or, bin_and, Nat.reduceAdd, Nat.reduceLeDiff, reduceIte, eq_self, Nat.reduceEqDiff]
        cases hi : isS [91] tk
        · refine callS_pure (take_no sr hi) ?_
          simp only [hi, Bool.false_eq_true, if_false] at g1
          simp only [ssS, bin_or, bin_and, Nat.reduceAdd, Nat.reduceLeDiff, reduceIte, eq_self, Nat.reduceEqDiff]
          cases hj : isS [46] tk
          · refine callS_pure (take_no sr hj) ?_
            simp only [hj, Bool.false_eq_true, if_false, Option.some.injEq] at g1
            subst g1
            simp only [s4, s2, ssS, bin_or, bin_and, Nat.reduceAdd, Nat.reduceLeDiff, reduceIte, eq_self, Nat.reduceEqDiff]
            refine body_ex (b := b2) rfl (Store.set_same _ _ _) hv ?_
            exact (hES.loc hb2 _).ret (by rw [Store.set_ne _ _ h2]; exact sr)
          · refine callS_to (take_yes sr hj) ?_
            simp only [hj, if_true] at g1
            simp only [Store.set_ne _ _ n4r, s4, lit5_eq, lits5_one (v := .agg [it k, bs s, it nn, .sl vs [] tok, it ln]) rfl, ssS, bin_or, bin_and, Nat.reduceAdd, Nat.reduceLeDiff, reduceIte, eq_self, Nat.reduceEqDiff]
            have hr2 : (S.set rb (rdr l)) rb = some (rdr l) := Store.set_same _ _ _
            cases l with
            | nil => cases g1
            | cons t3 l =>
              simp only [nameK] at g1
              by_cases h1 : t3.k = 1
              · rw [if_pos h1] at g1
                obtain ⟨_, tk4, l4, _, rfl, _⟩ := run_cons g1
                refine callS_to (name_yes hr2 h1) ?_
                simp only [Store.set_set, Store.set_ne _ _ n4r, s4, ssS, bin_or, bin_and, Nat.reduceAdd, Nat.reduceLeDiff, reduceIte, eq_self, Nat.reduceEqDiff]
                refine hJ j _ (by omega) ⟨9, t3.s, 0, [.mk k s nn kids ln], ln, [.agg [it k, bs s, it nn, .sl vs [] tok, it ln]], .full, tk4, l4, by omega, g1, ?_, ?_, Store.set_same _ _ _, ?_, (hES.rd _).loc hm4 _, rfl, rfl, rfl, rfl⟩
                · simp only [weaks, weak, exVs, exV, hv, bs]
                · show (Store.set _ _ _) _ = _
                  rw [Store.set_ne _ _ h24, Store.set_ne _ _ n2r]; exact s2
                · show (Store.set _ _ _) _ = _
                  rw [Store.set_ne _ _ h4, Store.set_same]
              · rw [if_neg h1, Option.some.injEq] at g1
                subst g1
                refine callS_pe (name_no (val := hdV) hr2 h1) (by rintro es l2 ⟨⟩) ?_
                rintro l2 b ⟨⟩ hb
                exact pl_pan (hES.rd _) hr2 hb
        · refine callS_to (take_yes sr hi) ?_
          simp only [hi, if_true] at g1
          simp only [Store.set_ne _ _ n4r, s4, ssS, bin_or, bin_and, Nat.reduceAdd, Nat.reduceLeDiff, reduceIte, eq_self, Nat.reduceEqDiff]
          have hr2 : (S.set rb (rdr l)) rb = some (rdr l) := Store.set_same _ _ _
          rcases bind1_inv g1 with ⟨e2, l3, k1, k2⟩ | ⟨l3, k1, rfl⟩
          case inr =>
            refine callS_pe ((h j (by omega)).1 0 l (.st l3) _ rb (by omega) hr2 trivial k1) (by rintro es l2 ⟨⟩) ?_
            rintro l2 b ⟨⟩ hb
            exact pl_pan (hES.rd _) hr2 hb
          case inl =>
            refine callS_pe ((h j (by omega)).1 0 l (.ok [e2] l3) _ rb (by omega) hr2 ⟨e2, rfl⟩ k1) ?_ (by rintro l2 b ⟨⟩)
            rintro es l4 ⟨⟩
            simp only [hdV, Store.set_set, Store.set_ne _ _ n4r, s4, lit52_eq, lits5_two (v := .agg [it k, bs s, it nn, .sl vs [] tok, it ln]) (u := exV e2) rfl (exV_cells e2), ssS, bin_or, bin_and, Nat.reduceAdd, Nat.reduceLeDiff, reduceIte, eq_self, Nat.reduceEqDiff]
            cases l3 with
            | nil => cases k2
            | cons t5 l3 =>
              simp only [mustK] at k2
              have hr3 : ((S.set rb (rdr (t5 :: l3))).set b4 (.var 170 [it 8, bs [], it 0, .sl [.agg [it k, bs s, it nn, .sl vs [] tok, it ln], exV e2] [] .full, it ln])) rb = some (rdr (t5 :: l3)) := by
                rw [Store.set_ne _ _ h4, Store.set_same]
              cases hj : isS [93] t5
              · simp only [hj, Bool.false_eq_true, if_false, Option.some.injEq] at k2
                subst k2
                refine callS_pe (must_ok (s := [93]) (p := .st (t5 :: l3)) hr3 (by simp only [mustK, hj, Bool.false_eq_true, if_false])) (by rintro es l2 ⟨⟩) ?_
                rintro l2 b ⟨⟩ hb
                exact pl_pan ((hES.rd _).loc hm4 _) hr3 hb
              · simp only [hj, if_true] at k2
                obtain ⟨_, tk4, l5, _, rfl, _⟩ := run_cons k2
                refine callS_pe (must_ok (s := [93]) (p := .ok [] (tk4 :: l5)) hr3 (by simp only [mustK, hj, if_true])) ?_ (by rintro l2 b2 ⟨⟩)
                rintro es l0 ⟨⟩
                simp only [ssS, bin_or, bin_and, Nat.reduceAdd, Nat.reduceLeDiff, reduceIte, eq_self, Nat.reduceEqDiff]
                refine hJ j _ (by omega) ⟨8, [], 0, [.mk k s nn kids ln, e2], ln, [.agg [it k, bs s, it nn, .sl vs [] tok, it ln], exV e2], .full, tk4, l5, by omega, k2, ?_, ?_, ?_, Store.set_same _ _ _, ((hES.rd _).loc hm4 _).rd _, rfl, rfl, rfl, rfl⟩
                · simp only [weaks, weak, exVs, exV, hv, weak_exV, bs]
                · show (Store.set _ _ _) _ = _
                  rw [Store.set_ne _ _ n2r, Store.set_ne _ _ h24, Store.set_ne _ _ n2r]; exact s2
                · show (Store.set _ _ _) _ = _
                  rw [Store.set_ne _ _ n4r, Store.set_same]; rfl
    · -- !
      simp only [hi, hj, Bool.or_true, Bool.true_or, if_true] at hp
      refine callS_to (take_yes sr hj) ?_
      simp only [Store.set_ne _ _ n3r, s3, ssS, bin_or, bin_and, Nat.reduceAdd, Nat.reduceLeDiff, reduceIte, eq_self, Nat.reduceEqDiff]
      have hr2 : (S.set rb (rdr l)) rb = some (rdr l) := Store.set_same _ _ _
      rcases bind1_inv hp with ⟨e, l1, h1, k2⟩ | ⟨l1, h1, rfl⟩
      case inr =>
        refine callS_pe ((h n (by omega)).2.1 l (.st l1) _ rb hr2 trivial h1) (by rintro es l2 ⟨⟩) ?_
        rintro l2 b ⟨⟩ hb
        exact pl_pan (hES.rd _) hr2 hb
      case inl =>
        refine callS_pe ((h n (by omega)).2.1 l (.ok [e] l1) _ rb hr2 ⟨e, rfl⟩ h1) ?_ (by rintro l2 b ⟨⟩)
        rintro es l2 ⟨⟩
        cases k2
        simp only [hdV, Store.set_set, Store.set_ne _ _ n3r, Store.set_ne _ _ n2r, s2, s3, lit5_eq, lits5_one (exV_cells e), ssS, bin_or, bin_and, Nat.reduceAdd, Nat.reduceLeDiff, reduceIte, eq_self, Nat.reduceEqDiff]
        refine body_ex (b := b2) rfl (Store.set_same _ _ _) (by simp only [weaks, weak_exV, exVs]) ?_
        exact ((hES.rd _).loc hb2 _).ret (by rw [Store.set_ne _ _ h2, Store.set_same])
  · -- -
    simp only [hi, Bool.true_or, if_true] at hp
    refine callS_to (take_yes sr hi) ?_
    simp only [Store.set_ne _ _ n3r, s3, ssS, bin_or, bin_and, Nat.reduceAdd, Nat.reduceLeDiff, reduceIte, eq_self, Nat.reduceEqDiff]
    have hr2 : (S.set rb (rdr l)) rb = some (rdr l) := Store.set_same _ _ _
    rcases bind1_inv hp with ⟨e, l1, h1, k2⟩ | ⟨l1, h1, rfl⟩
    case inr =>
      refine callS_pe ((h n (by omega)).2.1 l (.st l1) _ rb hr2 trivial h1) (by rintro es l2 ⟨⟩) ?_
      rintro l2 b ⟨⟩ hb
      exact pl_pan (hES.rd _) hr2 hb
    case inl =>
      refine callS_pe ((h n (by omega)).2.1 l (.ok [e] l1) _ rb hr2 ⟨e, rfl⟩ h1) ?_ (by rintro l2 b ⟨⟩)
      rintro es l2 ⟨⟩
      cases k2
      simp only [hdV, Store.set_set, Store.set_ne _ _ n3r, Store.set_ne _ _ n2r, s2, s3, lit5_eq, lits5_one (exV_cells e), ssS, bin_or, bin_and, Nat.reduceAdd, Nat.reduceLeDiff, reduceIte, eq_self, Nat.reduceEqDiff]
      refine body_ex (b := b2) rfl (Store.set_same _ _ _) (by simp only [weaks, weak_exV, exVs]) ?_
      exact ((hES.rd _).loc hb2 _).ret (by rw [Store.set_ne _ _ h2, Store.set_same])
end Go.Av.Fn
/- The parser's single expressions; with them, all of the parser's. No condition. -/
namespace Go.Av.Fn
set_option linter.unusedSimpArgs false
set_option linter.unusedVariables false
set_option maxRecDepth 10000
open Go.Proofs
theorem single_ok {Γ : Glob} {n : Nat} (hn0 : n ≤ 1099511627776) (h : ∀ k < n, ExH Γ k) : SiH Γ n := by
  intro l p m rb hr hs hp
  replace hp := run_cons hp
  obtain ⟨n, tk, l, rfl, rfl, hp⟩ := hp
  simp only [step, singleR] at hp
  have hle : ∀ k ≤ n, ExH Γ k := fun k hk => h k (by omega)
  refine pe_of_pl (acalls_of_awp mixed F202_ok pl_room ?_)
  simp only [F202, start, List.cons_append, List.nil_append, List.length_cons, List.length_nil, List.replicate, Nat.reduceSub, Nat.reduceAdd]
  simp only [ssS, bin_or, bin_and, Nat.reduceAdd, Nat.reduceLeDiff, reduceIte, eq_self, Nat.reduceEqDiff]
  refine allocS_of fun b2 hb2 => ?_
  have h2 := ne_of_some hr hb2
  have hE := (Ext.refl m rb).alloc hb2 (.var 170 zE)
  simp only [Store.set_ne _ _ h2, hr, rdr, idx_tk, ld5, ssS, bin_or, bin_and, Nat.reduceAdd, Nat.reduceLeDiff, reduceIte, eq_self, Nat.reduceEqDiff]
  refine allocS_of fun b3 hb3 => ?_
  have h3 : rb ≠ b3 := ne_of_some (x := rdr (tk :: l)) (by rw [Store.set_ne _ _ h2]; exact hr) hb3
  have h23 : b2 ≠ b3 := ne_of_some (Store.set_same _ _ _) hb3
  simp only [Store.set_same, Store.set_set, ssS, bin_or, bin_and, Nat.reduceAdd, Nat.reduceLeDiff, reduceIte, eq_self, Nat.reduceEqDiff]
  refine allocS_of fun b4 hb4 => ?_
  have h4 : rb ≠ b4 := ne_of_some (x := rdr (tk :: l)) (by rw [Store.set_ne _ _ h3, Store.set_ne _ _ h2]; exact hr) hb4
  have h24 : b2 ≠ b4 := ne_of_some (x := .var 170 zE) (by rw [Store.set_ne _ _ h23, Store.set_same]) hb4
  have h34 : b3 ≠ b4 := ne_of_some (Store.set_same _ _ _) hb4
  have hm4 := (hE.alloc hb3 (.var 179 [it tk.k, bs tk.s, it tk.n, it tk.l, it tk.a])).none (y := rdr (tk :: l)) (by rw [Store.set_ne _ _ h3, Store.set_ne _ _ h2]; exact hr) hb4
  simp only [Store.set_same, Store.set_set, ssS, bin_or, bin_and, Nat.reduceAdd, Nat.reduceLeDiff, reduceIte, eq_self, Nat.reduceEqDiff]
  obtain ⟨S, hS⟩ : ∃ S, ((m.set b2 (.var 170 zE)).set b3 (.var 179 [it tk.k, bs tk.s, it tk.n, it tk.l, it tk.a])).set b4 (.var 170 [V.val (Value.int IntKind.i64 0), V.val (Value.string (ByteArray.mk #[])), V.val (Value.int IntKind.i64 0), V.sl [] [] Tok.full, it tk.l]) = S := ⟨_, rfl⟩
  have s2 : S b2 = some (.var 170 zE) := by rw [← hS, Store.set_ne _ _ h24, Store.set_ne _ _ h23, Store.set_same]
  have s3 : S b3 = some (.var 179 [it tk.k, bs tk.s, it tk.n, it tk.l, it tk.a]) := by rw [← hS, Store.set_ne _ _ h34, Store.set_same]
  have s4 : S b4 = some (.var 170 [V.val (Value.int IntKind.i64 0), V.val (Value.string (ByteArray.mk #[])), V.val (Value.int IntKind.i64 0), V.sl [] [] Tok.full, it tk.l]) := by rw [← hS, Store.set_same]
  have sr : S rb = some (rdr (tk :: l)) := by rw [← hS, Store.set_ne _ _ h4, Store.set_ne _ _ h3, Store.set_ne _ _ h2]; exact hr
  have hES : Ext m rb S := by rw [← hS]; exact (hE.alloc hb3 _).alloc hb4 _
  rw [hS]
  clear hS hE hb3 hb4
  have n2r := h2.symm
  have n3r := h3.symm
  have n4r := h4.symm
  have n32 := h23.symm
  have n42 := h24.symm
  have n43 := h34.symm
  have hr2 : ∀ l, (S.set rb (rdr l)) rb = some (rdr l) := fun l => Store.set_same _ _ _
  have sr' : S rb = some (.var 222 [.sl (tkV tk :: l.map tkV) [] .no]) := sr
  cases k2 : (tk.k == 2)
  case true =>
    rw [if_pos (eq_of_beq k2), Option.some.injEq] at hp
    subst hp
    simp only [k2, s3, s4, s2, sr', eval_sliceL, cut_tk, Store.set_same, Store.set_set, Store.set_ne _ _ n2r, Store.set_ne _ _ n3r, Store.set_ne _ _ n4r, Store.set_ne _ _ h24, Store.set_ne _ _ h34, ssS, bin_or, bin_and, Nat.reduceAdd, Nat.reduceLeDiff, reduceIte, eq_self, Nat.reduceEqDiff]
    refine body_ex (b := b2) (s := []) (kids := []) (vs := []) rfl (Store.set_same _ _ _) rfl ?_
    exact (((hES.rd _).loc hm4 _).loc hb2 _).ret (by rw [Store.set_ne _ _ h2, Store.set_ne _ _ h4, Store.set_same]; rfl)
  rw [if_neg (by intro e; simp [e] at k2)] at hp
  cases k3 : (tk.k == 3)
  case true =>
    rw [if_pos (eq_of_beq k3), Option.some.injEq] at hp
    subst hp
    simp only [k2, k3, s3, s4, s2, sr', eval_sliceL, cut_tk, Store.set_same, Store.set_set, Store.set_ne _ _ n2r, Store.set_ne _ _ n3r, Store.set_ne _ _ n4r, Store.set_ne _ _ h24, Store.set_ne _ _ h34, ssS, bin_or, bin_and, Nat.reduceAdd, Nat.reduceLeDiff, reduceIte, eq_self, Nat.reduceEqDiff]
    refine body_ex (b := b2) (kids := []) (vs := []) rfl (Store.set_same _ _ _) rfl ?_
    exact (((hES.rd _).loc hm4 _).loc hb2 _).ret (by rw [Store.set_ne _ _ h2, Store.set_ne _ _ h4, Store.set_same]; rfl)
  rw [if_neg (by intro e; simp [e] at k3)] at hp
  cases k1 : (tk.k == 1)
  case true =>
    rw [if_pos (eq_of_beq k1)] at hp
    simp only [k2, k3, k1, s3, ssS, bin_or, bin_and, Nat.reduceAdd, Nat.reduceLeDiff, reduceIte, eq_self, Nat.reduceEqDiff]
    refine callS_to (name_yes sr (eq_of_beq k1)) ?_
    simp only [Store.set_ne _ _ n4r, s4, Store.set_same, Store.set_set, ssS, bin_or, bin_and, Nat.reduceAdd, Nat.reduceLeDiff, reduceIte, eq_self, Nat.reduceEqDiff]
    cases l with
    | nil => cases hp
    | cons t2 l =>
      simp only [callR] at hp
      have hr4 : ∀ x, ((S.set rb (rdr (t2 :: l))).set b4 x) rb = some (rdr (t2 :: l)) := fun x => by rw [Store.set_ne _ _ h4, Store.set_same]
      cases hi : isS [40] t2
      · simp only [hi, Bool.false_eq_true, if_false, Option.some.injEq] at hp
        subst hp
        refine callS_pure (take_no (hr4 _) hi) ?_
        simp only [Store.set_ne _ _ h24, Store.set_ne _ _ n2r, s2, Store.set_same, Store.set_set, ssS, bin_or, bin_and, Nat.reduceAdd, Nat.reduceLeDiff, reduceIte, eq_self, Nat.reduceEqDiff]
        refine body_ex (b := b2) (kids := []) (vs := []) rfl (Store.set_same _ _ _) rfl ?_
        exact (((hES.rd _).loc hm4 _).loc hb2 _).ret (by rw [Store.set_ne _ _ h2]; exact hr4 _)
      · simp only [hi, if_true] at hp
        refine callS_to (take_yes (hr4 _) hi) ?_
        simp only [ssS, bin_or, bin_and, Nat.reduceAdd, Nat.reduceLeDiff, reduceIte, eq_self, Nat.reduceEqDiff]
        rcases bindL_inv hp with ⟨es, l3, q1, q2⟩ | ⟨l3, q1, rfl⟩
        case inr =>
          refine callS_pe (until_ok (by omega) hle (Store.set_same _ _ _) q1) (by rintro es l2 ⟨⟩) ?_
          rintro l2 b ⟨⟩ hb
          exact pl_pan (((hES.rd _).loc hm4 _).rd _) (Store.set_same _ _ _) hb
        case inl =>
          refine callS_pe (until_ok (by omega) hle (Store.set_same _ _ _) q1) ?_ (by rintro l2 b ⟨⟩)
          rintro es2 l4 ⟨⟩
          cases q2
          simp only [slV, Store.set_set, Store.set_ne _ _ n4r, Store.set_ne _ _ h24, Store.set_ne _ _ n2r, s2, Store.set_same, ssS, bin_or, bin_and, Nat.reduceAdd, Nat.reduceLeDiff, reduceIte, eq_self, Nat.reduceEqDiff]
          refine body_ex (b := b2) rfl (Store.set_same _ _ _) (weaks_exVs _) ?_
          exact ((((hES.rd _).loc hm4 _).rd _).loc hm4 _ |>.loc hb2 _).ret (by rw [Store.set_ne _ _ h2, Store.set_ne _ _ h4, Store.set_same])
  rw [if_neg (by intro e; simp [e] at k1)] at hp
  simp only [k2, k3, k1, s3, ssS, bin_or, bin_and, Nat.reduceAdd, Nat.reduceLeDiff, reduceIte, eq_self, Nat.reduceEqDiff]
  cases i1 : isS [116, 114, 117, 101] tk
  case true =>
    rw [if_pos i1, Option.some.injEq] at hp
    subst hp
    refine callS_to (take_yes sr i1) ?_
    simp only [s3, s4, s2, Store.set_same, Store.set_set, Store.set_ne _ _ n2r, Store.set_ne _ _ n3r, Store.set_ne _ _ n4r, Store.set_ne _ _ h24, Store.set_ne _ _ h34, ssS, bin_or, bin_and, Nat.reduceAdd, Nat.reduceLeDiff, reduceIte, eq_self, Nat.reduceEqDiff]
    refine body_ex (b := b2) (s := []) (kids := []) (vs := []) rfl (Store.set_same _ _ _) rfl ?_
    exact (((hES.rd _).loc hm4 _).loc hb2 _).ret (by rw [Store.set_ne _ _ h2, Store.set_ne _ _ h4, Store.set_same])
  rw [if_neg (by rw [i1]; decide)] at hp
  refine callS_pure (take_no sr i1) ?_
  simp only [ssS, bin_or, bin_and, Nat.reduceAdd, Nat.reduceLeDiff, reduceIte, eq_self, Nat.reduceEqDiff]
  cases i2 : isS [102, 97, 108, 115, 101] tk
  case true =>
    rw [if_pos i2, Option.some.injEq] at hp
    subst hp
    refine callS_to (take_yes sr i2) ?_
    simp only [s3, s4, s2, Store.set_same, Store.set_set, Store.set_ne _ _ n2r, Store.set_ne _ _ n3r, Store.set_ne _ _ n4r, Store.set_ne _ _ h24, Store.set_ne _ _ h34, ssS, bin_or, bin_and, Nat.reduceAdd, Nat.reduceLeDiff, reduceIte, eq_self, Nat.reduceEqDiff]
    refine body_ex (b := b2) (s := []) (kids := []) (vs := []) rfl (Store.set_same _ _ _) rfl ?_
    exact (((hES.rd _).loc hm4 _).loc hb2 _).ret (by rw [Store.set_ne _ _ h2, Store.set_ne _ _ h4, Store.set_same])
  rw [if_neg (by rw [i2]; decide)] at hp
  refine callS_pure (take_no sr i2) ?_
  simp only [ssS, bin_or, bin_and, Nat.reduceAdd, Nat.reduceLeDiff, reduceIte, eq_self, Nat.reduceEqDiff]
  cases i3 : isS [110, 101, 119] tk
  case true =>
    rw [if_pos i3] at hp
    refine callS_to (take_yes sr i3) ?_
    simp only [ssS, bin_or, bin_and, Nat.reduceAdd, Nat.reduceLeDiff, reduceIte, eq_self, Nat.reduceEqDiff]
    cases l with
    | nil => cases hp
    | cons t2 l =>
      simp only [nameK] at hp
      by_cases q : t2.k = 1
      · rw [if_pos q] at hp
        refine callS_to (name_yes (hr2 _) q) ?_
        simp only [Store.set_ne _ _ n4r, s4, Store.set_same, Store.set_set, ssS, bin_or, bin_and, Nat.reduceAdd, Nat.reduceLeDiff, reduceIte, eq_self, Nat.reduceEqDiff]
        cases l with
        | nil => cases hp
        | cons t3 l =>
          simp only [mustK] at hp
          have hr4 : ∀ x, ((S.set rb (rdr (t3 :: l))).set b4 x) rb = some (rdr (t3 :: l)) := fun x => by rw [Store.set_ne _ _ h4, Store.set_same]
          cases hi : isS [40] t3
          · simp only [hi, Bool.false_eq_true, if_false, Option.some.injEq] at hp
            subst hp
            refine callS_pe (must_ok (s := [40]) (p := .st (t3 :: l)) (hr4 _) (by simp only [mustK, hi, Bool.false_eq_true, if_false])) (by rintro es l2 ⟨⟩) ?_
            rintro l2 b ⟨⟩ hb
            exact pl_pan ((hES.rd _).loc hm4 _) (hr4 _) hb
          · simp only [hi, if_true] at hp
            refine callS_pe (must_ok (s := [40]) (p := .ok [] l) (hr4 _) (by simp only [mustK, hi, if_true])) ?_ (by rintro l2 b2 ⟨⟩)
            rintro es l0 ⟨⟩
            simp only [ssS, bin_or, bin_and, Nat.reduceAdd, Nat.reduceLeDiff, reduceIte, eq_self, Nat.reduceEqDiff]
            rcases bindL_inv hp with ⟨es, l3, q1, q2⟩ | ⟨l3, q1, rfl⟩
            case inr =>
              refine callS_pe (until_ok (by omega) hle (Store.set_same _ _ _) q1) (by rintro es l2 ⟨⟩) ?_
              rintro l2 b ⟨⟩ hb
              exact pl_pan (((hES.rd _).loc hm4 _).rd _) (Store.set_same _ _ _) hb
            case inl =>
              refine callS_pe (until_ok (by omega) hle (Store.set_same _ _ _) q1) ?_ (by rintro l2 b ⟨⟩)
              rintro es2 l4 ⟨⟩
              cases q2
              simp only [slV, Store.set_set, Store.set_ne _ _ n4r, Store.set_ne _ _ h24, Store.set_ne _ _ n2r, s2, Store.set_same, ssS, bin_or, bin_and, Nat.reduceAdd, Nat.reduceLeDiff, reduceIte, eq_self, Nat.reduceEqDiff]
              refine body_ex (b := b2) rfl (Store.set_same _ _ _) (weaks_exVs _) ?_
              exact ((((hES.rd _).loc hm4 _).rd _).loc hm4 _ |>.loc hb2 _).ret (by rw [Store.set_ne _ _ h2, Store.set_ne _ _ h4, Store.set_same])
      · rw [if_neg q, Option.some.injEq] at hp
        subst hp
        refine callS_pe (name_no (val := hdV) (hr2 _) q) (by rintro es l2 ⟨⟩) ?_
        rintro l2 b ⟨⟩ hb
        exact pl_pan (hES.rd _) (hr2 _) hb
  rw [if_neg (by rw [i3]; decide)] at hp
  refine callS_pure (take_no sr i3) ?_
  simp only [ssS, bin_or, bin_and, Nat.reduceAdd, Nat.reduceLeDiff, reduceIte, eq_self, Nat.reduceEqDiff]
  cases i4 : isS [91] tk
  case true =>
    rw [if_pos i4] at hp
    refine callS_to (take_yes sr i4) ?_
    simp only [ssS, bin_or, bin_and, Nat.reduceAdd, Nat.reduceLeDiff, reduceIte, eq_self, Nat.reduceEqDiff]
    rcases bindL_inv hp with ⟨es, l3, q1, q2⟩ | ⟨l3, q1, rfl⟩
    case inr =>
      refine callS_pe (rowE_ok (by omega) hle (Store.set_same _ _ _) q1) (by rintro es l2 ⟨⟩) ?_
      rintro l2 b ⟨⟩ hb
      exact pl_pan (hES.rd _) (Store.set_same _ _ _) hb
    case inl =>
      refine callS_pe (rowE_ok (by omega) hle (Store.set_same _ _ _) q1) ?_ (by rintro l2 b ⟨⟩)
      rintro es2 l4 ⟨⟩
      simp only [slV, Store.set_set, Store.set_ne _ _ n4r, s4, Store.set_same, ssS, bin_or, bin_and, Nat.reduceAdd, Nat.reduceLeDiff, reduceIte, eq_self, Nat.reduceEqDiff]
      cases l3 with
      | nil => cases q2
      | cons t3 l3 =>
        simp only [mustK] at q2
        have hr4 : ∀ x, ((S.set rb (rdr (t3 :: l3))).set b4 x) rb = some (rdr (t3 :: l3)) := fun x => by rw [Store.set_ne _ _ h4, Store.set_same]
        cases hi : isS [93] t3
        · simp only [hi, Bool.false_eq_true, if_false, Option.some.injEq] at q2
          subst q2
          refine callS_pe (must_ok (s := [93]) (p := .st (t3 :: l3)) (hr4 _) (by simp only [mustK, hi, Bool.false_eq_true, if_false])) (by rintro es l2 ⟨⟩) ?_
          rintro l2 b ⟨⟩ hb
          exact pl_pan ((hES.rd _).loc hm4 _) (hr4 _) hb
        · simp only [hi, if_true, Option.some.injEq] at q2
          subst q2
          refine callS_pe (must_ok (s := [93]) (p := .ok [] l3) (hr4 _) (by simp only [mustK, hi, if_true])) ?_ (by rintro l2 b2 ⟨⟩)
          rintro es l0 ⟨⟩
          simp only [Store.set_set, Store.set_ne _ _ n4r, Store.set_ne _ _ h24, Store.set_ne _ _ n2r, s2, Store.set_same, ssS, bin_or, bin_and, Nat.reduceAdd, Nat.reduceLeDiff, reduceIte, eq_self, Nat.reduceEqDiff]
          refine body_ex (b := b2) (s := []) rfl (Store.set_same _ _ _) (weaks_exVs _) ?_
          exact ((((hES.rd _).loc hm4 _).rd _).loc hb2 _).ret (by rw [Store.set_ne _ _ h2, Store.set_same])
  rw [if_neg (by rw [i4]; decide)] at hp
  refine callS_pure (take_no sr i4) ?_
  simp only [ssS, bin_or, bin_and, Nat.reduceAdd, Nat.reduceLeDiff, reduceIte, eq_self, Nat.reduceEqDiff]
  cases i5 : isS [40] tk
  case true =>
    rw [if_pos i5] at hp
    refine callS_to (take_yes sr i5) ?_
    simp only [ssS, bin_or, bin_and, Nat.reduceAdd, Nat.reduceLeDiff, reduceIte, eq_self, Nat.reduceEqDiff]
    rcases bind1_inv hp with ⟨e, l3, q1, q2⟩ | ⟨l3, q1, rfl⟩
    case inr =>
      refine callS_pe (h n (by omega) 0 l (.st l3) _ rb (by omega) (hr2 _) trivial q1) (by rintro es l2 ⟨⟩) ?_
      rintro l2 b ⟨⟩ hb
      exact pl_pan (hES.rd _) (hr2 _) hb
    case inl =>
      refine callS_pe (h n (by omega) 0 l (.ok [e] l3) _ rb (by omega) (hr2 _) ⟨e, rfl⟩ q1) ?_ (by rintro l2 b ⟨⟩)
      rintro es2 l4 ⟨⟩
      obtain ⟨k, s, nn, kids, ln⟩ := e
      simp only [hdV, exV, Store.set_set, Store.set_ne _ _ n4r, s4, Store.set_same, ssS, bin_or, bin_and, Nat.reduceAdd, Nat.reduceLeDiff, reduceIte, eq_self, Nat.reduceEqDiff]
      cases l3 with
      | nil => cases q2
      | cons t3 l3 =>
        simp only [mustK] at q2
        have hr4 : ∀ x, ((S.set rb (rdr (t3 :: l3))).set b4 x) rb = some (rdr (t3 :: l3)) := fun x => by rw [Store.set_ne _ _ h4, Store.set_same]
        cases hi : isS [41] t3
        · simp only [hi, Bool.false_eq_true, if_false, Option.some.injEq] at q2
          subst q2
          refine callS_pe (must_ok (s := [41]) (p := .st (t3 :: l3)) (hr4 _) (by simp only [mustK, hi, Bool.false_eq_true, if_false])) (by rintro es l2 ⟨⟩) ?_
          rintro l2 b ⟨⟩ hb
          exact pl_pan ((hES.rd _).loc hm4 _) (hr4 _) hb
        · simp only [hi, if_true, Option.some.injEq] at q2
          subst q2
          refine callS_pe (must_ok (s := [41]) (p := .ok [] l3) (hr4 _) (by simp only [mustK, hi, if_true])) ?_ (by rintro l2 b2 ⟨⟩)
          rintro es l0 ⟨⟩
          simp only [Store.set_set, Store.set_ne _ _ n4r, Store.set_ne _ _ h24, Store.set_ne _ _ n2r, s2, Store.set_same, ssS, bin_or, bin_and, Nat.reduceAdd, Nat.reduceLeDiff, reduceIte, eq_self, Nat.reduceEqDiff]
          refine body_ex (b := b2) rfl (Store.set_same _ _ _) (weaks_exVs _) ?_
          exact ((((hES.rd _).loc hm4 _).rd _).loc hb2 _).ret (by rw [Store.set_ne _ _ h2, Store.set_same])
  rw [if_neg (by rw [i5]; decide), Option.some.injEq] at hp
  subst hp
  refine callS_pure (take_no sr i5) ?_
  simp only [ssS, bin_or, bin_and, Nat.reduceAdd, Nat.reduceLeDiff, reduceIte, eq_self, Nat.reduceEqDiff]
  refine callS_pe (stop_ok (val := hdV) sr) (by rintro es l2 ⟨⟩) ?_
  rintro l2 b ⟨⟩ hb
  exact pl_pan hES sr hb
theorem parser_ok {Γ : Glob} : ∀ (n : Nat), n ≤ 1099511627776 → ExH Γ n ∧ UnH Γ n ∧ SiH Γ n := by
  intro n
  induction n using Nat.strongRecOn with
  | ind n ih =>
    intro hn
    have hk : ∀ k < n, ExH Γ k ∧ UnH Γ k ∧ SiH Γ k := fun k hk => ih k hk (by omega)
    exact ⟨expr_ok fun k h => ⟨(hk k h).1, (hk k h).2.1⟩, unary_ok hk, single_ok hn fun k h => (hk k h).1⟩
end Go.Av.Fn
/- How deep an expression is. No condition. -/
namespace Go.Av
section
variable {P : Program} {Γ : Glob} {Kp : V → Store → Prop} {s : List (Tmp × Option (Tmp × Bool) × AOp)} {l : List Item} {K : St → Prop} {t : List V} {m : Store} {d : Option Tmp}
theorem q_mm {mx : Bool} {xs : List Operand} : quietB (.mm mx xs) = true := (rfl)
theorem eval_mm {mx : Bool} {xs : List Operand} : evalL P (ev Γ t) m (.mm mx xs) = mmV mx (xs.map (ev Γ t)) := rfl
theorem mm_max {a b : Int} : mmV true [.val (.int .i64 a), .val (.int .i64 b)] = some (.val (.int .i64 (max a b))) := by
  simp only [mmV, mmF, if_true]
  congr 3
  split <;> omega
end
end Go.Av
namespace Go.Av.Fn
set_option linter.unusedSimpArgs false
set_option linter.unusedVariables false
set_option maxRecDepth 10000
open Go.Proofs
theorem depths_append : ∀ (a b : List Ex), depths (a ++ b) = max (depths a) (depths b)
  | [], b => by simp [depths]
  | e :: r, b => by
    rw [List.cons_append, depths, depths, depths_append r b]
    omega
theorem idx_ex {es : List Ex} {i : Nat} {e : Ex} {k s n kids l} (he : e = .mk k s n kids l) (h : es[i]? = some e) : idxLV 5 (.sl (exVs es) [] .no) (it i) = some (.elt [it k, bs s, it n, .sl (exVs kids) [] .no, it l]) := by
  subst he
  have := idxLV_nat (size := 5) (k := .i64) (es := exVs es) (more := []) (tok := .no) (i := i) (e := exV (.mk k s n kids l)) (by rw [exVs_map, List.getElem?_map, h]; rfl) rfl
  exact this
theorem depth_ok {Γ : Glob} : ∀ (N : Nat) (e : Ex) (m : Store), sizeE e ≤ N → N ≤ 1099511627776 → ACalls Tryz.prog Γ 147 [exV e] m fun o m' => o = .ret (it (depthE e)) ∧ m' = m
  | 0, e, m, h, _ => by
    obtain ⟨k, s, n, kids, l⟩ := e
    simp only [sizeE] at h
    omega
  | N + 1, e, m, h, hN => by
    obtain ⟨k, s, n, kids, l⟩ := e
    simp only [sizeE] at h
    have hle := length_sizes kids
    refine ACalls.less (A := fun o m' => o = .ret (it (depthE (.mk k s n kids l))) ∧ SubS m m') ?_ fun o m' h => ⟨m, h.2, h.1, rfl⟩
    refine acalls_of_awp mixed F147_ok (by rintro v m b x _ ⟨⟨⟩, _⟩) ?_
    simp only [F147, exV, start, List.cons_append, List.nil_append, List.length_cons, List.length_nil, List.replicate, Nat.reduceSub, Nat.reduceAdd]
    simp only [ssS, bin_or, bin_and, Nat.reduceAdd, Nat.reduceLeDiff, reduceIte, eq_self, Nat.reduceEqDiff]
    refine allocS_of fun b1 hb1 => ?_
    simp only [Store.set_same, ssS, bin_or, bin_and, Nat.reduceAdd, Nat.reduceLeDiff, reduceIte, eq_self, Nat.reduceEqDiff]
    refine awp_loop' (fun j st => ∃ (i : Nat), i ≤ kids.length ∧ j = kids.length - i ∧ SubS m st.m ∧ st.t.length = 20 ∧ tget st.t 3 = it (depths (kids.take i)) ∧ tget st.t 7 = .sl (exVs kids) [] .no ∧ tget st.t 8 = it kids.length ∧ tget st.t 9 = it i)
      kids.length ⟨0, Nat.zero_le _, rfl, (SubS.refl m).out hb1 _, rfl, ?_, rfl, ?_, rfl⟩ ?_
    · rw [List.take_zero]; rfl
    · show it _ = _
      rw [exVs_length]
    rintro j ⟨t, S⟩ J hJ ⟨i, hi, hj, hS, hlen, t3, t7, t8, t9⟩
    simp only at hS hlen t3 t7 t8 t9
    rw [t_eq hlen]
    simp only [upTo_succ, upTo_zero, Nat.reduceAdd, t3, t7, t8, t9]
    simp only [ssS, bin_or, bin_and, Nat.reduceAdd, Nat.reduceLeDiff, reduceIte, eq_self, Nat.reduceEqDiff]
    refine condS_split (fun hc => ?_) (fun hc => ?_)
    · have hlt : i < kids.length := by have := of_decide_eq_true hc; omega
      have hget : kids[i]? = some kids[i] := List.getElem?_eq_getElem hlt
      generalize hei : kids[i] = ei at hget
      obtain ⟨k2, s2, n2, kids2, l2⟩ := ei
      simp only [idx_ex rfl hget, ld5, ssS, bin_or, bin_and, Nat.reduceAdd, Nat.reduceLeDiff, reduceIte, eq_self, Nat.reduceEqDiff]
      refine allocS_of fun b5 hb5 => ?_
      have hsz : sizeE (.mk k2 s2 n2 kids2 l2) ≤ N := by
        have := size_mem (List.mem_of_getElem? hget)
        omega
      simp only [Store.set_same, Store.set_set, ssS, bin_or, bin_and, Nat.reduceAdd, Nat.reduceLeDiff, reduceIte, eq_self, Nat.reduceEqDiff]
      refine callS_pure (depth_ok N (.mk k2 s2 n2 kids2 l2) _ hsz (by omega)) ?_
      simp only [eval_mm, q_mm, mm_max, next_i64 (show i < 4611686018427387904 by omega), ssS, bin_or, bin_and, Nat.reduceAdd, Nat.reduceLeDiff, reduceIte, eq_self, Nat.reduceEqDiff]
      refine hJ (kids.length - (i + 1)) _ (by omega) ⟨i + 1, hlt, rfl, hS.out (hS.none hb5) _, rfl, ?_, rfl, rfl, rfl⟩
      show it _ = it _
      congr 2
      rw [List.take_add_one, hget, depths_append]
      simp only [Option.toList, depths]
      omega
    · have hge : i = kids.length := by have := of_decide_eq_false hc; omega
      have hd := depths_sizes kids
      simp only [ssS, bin_or, bin_and, Nat.reduceAdd, Nat.reduceLeDiff, reduceIte, eq_self, Nat.reduceEqDiff]
      have hw : IntKind.i64.wrap ((depths (kids.take i) : Int) + 1) = ((depthE (.mk k s n kids l) : Nat) : Int) := by
        rw [hge, List.take_length, wrap_i64 (by omega) (by omega)]
        simp only [depthE]
        omega
      simp only [hw, ssS, bin_or, bin_and, Nat.reduceAdd, Nat.reduceLeDiff, reduceIte, eq_self, Nat.reduceEqDiff]
      exact bodyA_ret resV_one ⟨rfl, hS⟩
end Go.Av.Fn
/- The small functions of the layer lex and of its reference: what they answer. No condition. -/
namespace Go.Av.Fn
set_option linter.unusedSimpArgs false
set_option linter.unusedVariables false
open Go.Proofs
def dig (b : UInt8) : Bool := decide (48 ≤ b.toNat) && decide (b.toNat ≤ 57)
def let8 (b : UInt8) : Bool := (decide (97 ≤ b.toNat) && decide (b.toNat ≤ 122)) || (decide (65 ≤ b.toNat) && decide (b.toNat ≤ 90)) || b.toNat == 95
def alnum (b : UInt8) : Bool := let8 b || dig b
theorem or32_nat : ∀ n : Nat, n < 256 → ((decide (IntKind.u8.wrap ((BitVec.ofInt IntKind.u8.bits (n : Int) ||| BitVec.ofInt IntKind.u8.bits 32).toNat : Int) ≥ 97) && decide (IntKind.u8.wrap ((BitVec.ofInt IntKind.u8.bits (n : Int) ||| BitVec.ofInt IntKind.u8.bits 32).toNat : Int) ≤ 122)) || (n : Int) == 95)
    = ((decide (97 ≤ n) && decide (n ≤ 122)) || (decide (65 ≤ n) && decide (n ≤ 90)) || n == 95) := by decide +kernel
section
variable {Γ : Glob} {m : Store}
theorem digit_ok (b : UInt8) : ACalls Tryz.prog Γ 184 [by8 b] m fun o m' => o = .ret (.val (.bool (dig b))) ∧ m' = m := by
  refine acalls_of_awp mixed F184_ok (by rintro v m b x _ ⟨⟨⟩, _⟩) ?_
  simp only [F184, start, List.cons_append, List.nil_append, List.length_cons, List.length_nil, List.replicate, Nat.reduceSub, Nat.reduceAdd]
  simp only [ssS, bin_or, bin_and, Nat.reduceAdd, Nat.reduceLeDiff, reduceIte, eq_self, Nat.reduceEqDiff]
  refine gO_split (fun h => ?_) (fun h => ?_) <;> simp only [h, ssS, bin_or, bin_and, Nat.reduceAdd, Nat.reduceLeDiff, reduceIte, eq_self, Nat.reduceEqDiff]
  all_goals refine bodyA_ret resV_one ⟨?_, rfl⟩
  all_goals simp only [tget_zero, tget_succ, dig]
  · have h : 48 ≤ b.toNat := by have := of_decide_eq_true h; omega
    have e : decide ((b.toNat : Int) ≤ 57) = decide (b.toNat ≤ 57) := by rw [decide_eq_decide]; omega
    rw [e]
    simp [h]
  · have h : ¬ 48 ≤ b.toNat := by have := of_decide_eq_false h; omega
    simp [h]
theorem letter_ok (b : UInt8) : ACalls Tryz.prog Γ 187 [by8 b] m fun o m' => o = .ret (.val (.bool (let8 b))) ∧ m' = m := by
  refine acalls_of_awp mixed F187_ok (by rintro v m b x _ ⟨⟨⟩, _⟩) ?_
  have key : let8 b = _ := (or32_nat b.toNat (by have := b.toNat_lt; omega)).symm
  simp only [F187, start, List.cons_append, List.nil_append, List.length_cons, List.length_nil, List.replicate, Nat.reduceSub, Nat.reduceAdd]
  simp only [ssS, bin_or, bin_and, Nat.reduceAdd, Nat.reduceLeDiff, reduceIte, eq_self, Nat.reduceEqDiff]
  refine gO_split (fun h => ?_) (fun h => ?_) <;> simp only [h, ssS, bin_or, bin_and, Nat.reduceAdd, Nat.reduceLeDiff, reduceIte, eq_self, Nat.reduceEqDiff]
  · refine gO_split (fun h2 => ?_) (fun h2 => ?_) <;> simp only [h2, ssS, bin_or, bin_and, Nat.reduceAdd, Nat.reduceLeDiff, reduceIte, eq_self, Nat.reduceEqDiff]
    all_goals refine bodyA_ret resV_one ⟨?_, rfl⟩
    all_goals simp only [tget_zero, tget_succ]
    all_goals rw [key, h, h2]
    all_goals rfl
  · refine bodyA_ret resV_one ⟨?_, rfl⟩
    simp only [tget_zero, tget_succ]
    rw [key, h]
    rfl
theorem notNl_ok (b : UInt8) : ACalls Tryz.prog Γ 231 [by8 b] m fun o m' => o = .ret (.val (.bool (b.toNat != 10))) ∧ m' = m := by
  refine acalls_of_awp mixed F231_ok (by rintro v m b x _ ⟨⟨⟩, _⟩) ?_
  simp only [F231, start, List.cons_append, List.nil_append, List.length_cons, List.length_nil, List.replicate, Nat.reduceSub, Nat.reduceAdd]
  simp only [ssS, bin_or, bin_and, Nat.reduceAdd, Nat.reduceLeDiff, reduceIte, eq_self, Nat.reduceEqDiff]
  refine bodyA_ret resV_one ⟨?_, rfl⟩
  simp only [tget_zero, tget_succ]
  congr 3
  rw [Bool.eq_iff_iff]
  simp
  omega
theorem alnum_ok (b : UInt8) : ACalls Tryz.prog Γ 232 [by8 b] m fun o m' => o = .ret (.val (.bool (alnum b))) ∧ m' = m := by
  refine acalls_of_awp mixed F232_ok (by rintro v m b x _ ⟨⟨⟩, _⟩) ?_
  simp only [F232, start, List.cons_append, List.nil_append, List.length_cons, List.length_nil, List.replicate, Nat.reduceSub, Nat.reduceAdd]
  simp only [ssS, bin_or, bin_and, Nat.reduceAdd, Nat.reduceLeDiff, reduceIte, eq_self, Nat.reduceEqDiff]
  refine callS_pure (letter_ok b) ?_
  simp only [ssS, bin_or, bin_and, Nat.reduceAdd, Nat.reduceLeDiff, reduceIte, eq_self, Nat.reduceEqDiff]
  refine gO_split (fun h => ?_) (fun h => ?_) <;> simp only [h, ssS, bin_or, bin_and, Nat.reduceAdd, Nat.reduceLeDiff, reduceIte, eq_self, Nat.reduceEqDiff]
  · refine bodyA_ret resV_one ⟨?_, rfl⟩
    simp only [tget_zero, tget_succ, alnum, h, Bool.true_or]
  · refine callS_pure (digit_ok b) ?_
    simp only [ssS, bin_or, bin_and, Nat.reduceAdd, Nat.reduceLeDiff, reduceIte, eq_self, Nat.reduceEqDiff]
    refine bodyA_ret resV_one ⟨?_, rfl⟩
    simp only [tget_zero, tget_succ, alnum, h, Bool.false_or]
end
end Go.Av.Fn
/- Rows of texts, words and signs: what the functions about them answer. No condition. -/
namespace Go.Av.Fn
set_option linter.unusedSimpArgs false
set_option linter.unusedVariables false
open Go.Proofs
def wordsB : List (List UInt8) := [[102, 110], [114, 101, 99, 111, 114, 100], [108, 101, 116], [105, 102], [101, 108, 115, 101], [119, 104, 105, 108, 101], [114, 101, 116, 117, 114, 110], [110, 101, 119], [116, 114, 117, 101], [102, 97, 108, 115, 101]]
def signsB : List (List UInt8) := [[61, 61], [33, 61], [60, 61], [62, 61], [38, 38], [124, 124], [40], [41], [123], [125], [91], [93], [44], [58], [59], [46], [61], [60], [62], [43], [45], [42], [47], [37], [33]]
theorem hasPrefix_ok {Γ : Glob} {m : Store} (s p : List UInt8) : ACalls Tryz.prog Γ 143 [bs s, bs p] m fun o m' => o = .ret (.val (.bool (p.isPrefixOf s))) ∧ m' = m := by
  refine acalls_of_awp mixed F143_ok (by rintro v m b x _ ⟨⟨⟩, _⟩) ?_
  simp only [F143, start, List.cons_append, List.nil_append, List.length_cons, List.length_nil, List.replicate, Nat.reduceSub, Nat.reduceAdd]
  simp only [ssS, bin_or, bin_and, Nat.reduceAdd, Nat.reduceLeDiff, reduceIte, eq_self, Nat.reduceEqDiff]
  refine gO_split (fun h => ?_) (fun h => ?_) <;> simp only [h, ssS, bin_or, bin_and, Nat.reduceAdd, Nat.reduceLeDiff, reduceIte, eq_self, Nat.reduceEqDiff]
  · have hl : p.length ≤ s.length := by have := of_decide_eq_true h; omega
    simp only [slice_upto hl, ssS, bin_or, bin_and, Nat.reduceAdd, Nat.reduceLeDiff, reduceIte, eq_self, Nat.reduceEqDiff]
    refine bodyA_ret resV_one ⟨?_, rfl⟩
    simp only [tget_zero, tget_succ]
    congr 3
    rw [Bool.eq_iff_iff]
    simp only [beq_iff_eq, List.isPrefixOf_iff_prefix]
    rw [List.prefix_iff_eq_take, eq_comm]
  · refine bodyA_ret resV_one ⟨?_, rfl⟩
    simp only [tget_zero, tget_succ]
    have hl : ¬ p.length ≤ s.length := by have := of_decide_eq_false h; omega
    congr 3
    rw [Bool.eq_iff_iff]
    simp only [List.isPrefixOf_iff_prefix]
    constructor
    · intro h; cases h
    · intro h; exact absurd h.length_le hl
theorem strHasPrefix_ok {Γ : Glob} {m : Store} (s p : List UInt8) : ACalls Tryz.prog Γ 188 [bs s, bs p] m fun o m' => o = .ret (.val (.bool (p.isPrefixOf s))) ∧ m' = m := by
  refine acalls_of_awp mixed F188_ok (by rintro v m b x _ ⟨⟨⟩, _⟩) ?_
  simp only [F188, start, List.cons_append, List.nil_append, List.length_cons, List.length_nil, List.replicate, Nat.reduceSub, Nat.reduceAdd]
  simp only [ssS, bin_or, bin_and, Nat.reduceAdd, Nat.reduceLeDiff, reduceIte, eq_self, Nat.reduceEqDiff]
  refine callS_pure (hasPrefix_ok s p) ?_
  simp only [ssS, bin_or, bin_and, Nat.reduceAdd, Nat.reduceLeDiff, reduceIte, eq_self, Nat.reduceEqDiff]
  refine bodyA_ret resV_one ⟨?_, rfl⟩
  simp only [tget_zero, tget_succ]
theorem Word_ok {Γ : Glob} {m : Store} (hΓ : Γ 3 = some (wordsB.map bs)) (s : List UInt8) : ACalls Tryz.prog Γ 158 [bs s] m fun o m' => o = .ret (.val (.bool (wordsB.contains s))) ∧ m' = m := by
  refine acalls_of_awp mixed F158_ok (by rintro v m b x _ ⟨⟨⟩, _⟩) ?_
  simp only [F158, start, List.cons_append, List.nil_append, List.length_cons, List.length_nil, List.replicate, Nat.reduceSub, Nat.reduceAdd]
  simp only [ssS, bin_or, bin_and, Nat.reduceAdd, Nat.reduceLeDiff, reduceIte, eq_self, Nat.reduceEqDiff]
  have hlen10 : wordsB.length = 10 := rfl
  refine awp_loop (fun n st => ∃ i : Nat, n = 10 - i ∧ i ≤ 10 ∧ (∀ x ∈ wordsB.take i, x ≠ s) ∧ st.m = m ∧ st.t.length = 13 ∧ tget st.t 0 = bs s ∧ tget st.t 4 = it i) 10 ⟨0, rfl, Nat.zero_le _, by simp, rfl, rfl, rfl, rfl⟩ ?_
  rintro n ⟨t, m1⟩ ⟨i, hn, hi, hpre, hm, hlen, h0, h4⟩
  simp only at hm h0 h4 hlen
  subst hm
  rw [t_eq hlen]
  simp only [upTo_succ, upTo_zero, Nat.reduceAdd, h0, h4]
  simp only [ssS, bin_or, bin_and, Nat.reduceAdd, Nat.reduceLeDiff, reduceIte, eq_self, Nat.reduceEqDiff]
  refine condS_split (fun h => ?_) (fun h => ?_)
  · have hlt : i < 10 := by have := of_decide_eq_true h; omega
    have hlt' : i < wordsB.length := hlt
    have hx : loadV m1 none (.elt ((wordsB.map bs).drop (i * 1))) = some (bs (wordsB[i]'hlt')) := by
      rw [loadV_drop]
      simp [hlt']
    simp only [ev_global hΓ, idxA_elt hlt, hx, next_i64 (show i < 4611686018427387904 by omega), ssS, bin_or, bin_and, Nat.reduceAdd, Nat.reduceLeDiff, reduceIte, eq_self, Nat.reduceEqDiff]
    refine condS_split (fun h => ?_) (fun h => ?_)
    · simp only [ssS, bin_or, bin_and, Nat.reduceAdd, Nat.reduceLeDiff, reduceIte, eq_self, Nat.reduceEqDiff]
      have : wordsB[i]'hlt' = s := by simpa using h
      refine bodyA_ret resV_one ⟨?_, rfl⟩
      simp only [tget_zero, tget_succ]
      rw [List.contains_iff_mem.2 (by rw [← this]; exact List.getElem_mem _)]
    · simp only [next_i64 (show i < 4611686018427387904 by omega), ssS, bin_or, bin_and, Nat.reduceAdd, Nat.reduceLeDiff, reduceIte, eq_self, Nat.reduceEqDiff]
      refine ⟨10 - (i + 1), by omega, i + 1, rfl, hlt, ?_, rfl⟩
      intro x hx
      rw [List.take_add_one] at hx
      rcases List.mem_append.1 hx with hx | hx
      · exact hpre x hx
      · simp only [List.getElem?_eq_getElem hlt', Option.toList_some, List.mem_singleton] at hx
        subst hx
        simpa using h
  · have hge : i = 10 := by have := of_decide_eq_false h; omega
    simp only [ssS, bin_or, bin_and, Nat.reduceAdd, Nat.reduceLeDiff, reduceIte, eq_self, Nat.reduceEqDiff]
    refine bodyA_ret resV_one ⟨?_, rfl⟩
    simp only [tget_zero, tget_succ]
    rw [hge, show 10 = wordsB.length from rfl, List.take_length] at hpre
    have : wordsB.contains s = false := by
      simp only [List.contains_eq_mem, decide_eq_false_iff_not]
      exact fun hm => hpre s hm rfl
    rw [this]
def signOf (s : List UInt8) : List UInt8 := (signsB.find? fun p => p.isPrefixOf s).getD []
theorem sign_ok {Γ : Glob} {m : Store} (hΓ : Γ 2 = some (signsB.map bs)) (s : List UInt8) : ACalls Tryz.prog Γ 157 [bs s] m fun o m' => o = .ret (bs (signOf s)) ∧ m' = m := by
  refine acalls_of_awp mixed F157_ok (by rintro v m b x _ ⟨⟨⟩, _⟩) ?_
  simp only [F157, start, List.cons_append, List.nil_append, List.length_cons, List.length_nil, List.replicate, Nat.reduceSub, Nat.reduceAdd]
  simp only [ssS, bin_or, bin_and, Nat.reduceAdd, Nat.reduceLeDiff, reduceIte, eq_self, Nat.reduceEqDiff]
  have hlen25 : signsB.length = 25 := rfl
  refine awp_loop (fun n st => ∃ i : Nat, n = 25 - i ∧ i ≤ 25 ∧ (∀ x ∈ signsB.take i, x.isPrefixOf s = false) ∧ st.m = m ∧ st.t.length = 16 ∧ tget st.t 0 = bs s ∧ tget st.t 4 = it i) 25 ⟨0, rfl, Nat.zero_le _, by simp, rfl, rfl, rfl, rfl⟩ ?_
  rintro n ⟨t, m1⟩ ⟨i, hn, hi, hpre, hm, hlen, h0, h4⟩
  simp only at hm h0 h4 hlen
  subst hm
  rw [t_eq hlen]
  simp only [upTo_succ, upTo_zero, Nat.reduceAdd, h0, h4]
  simp only [ssS, bin_or, bin_and, Nat.reduceAdd, Nat.reduceLeDiff, reduceIte, eq_self, Nat.reduceEqDiff]
  refine condS_split (fun h => ?_) (fun h => ?_)
  · have hlt : i < 25 := by have := of_decide_eq_true h; omega
    have hlt' : i < signsB.length := hlt
    have hx : loadV m1 none (.elt ((signsB.map bs).drop (i * 1))) = some (bs (signsB[i]'hlt')) := by
      rw [loadV_drop]
      simp [hlt']
    simp only [ev_global hΓ, idxA_elt hlt, hx, ssS, bin_or, bin_and, Nat.reduceAdd, Nat.reduceLeDiff, reduceIte, eq_self, Nat.reduceEqDiff]
    refine callS_pure (strHasPrefix_ok _ _) ?_
    simp only [ssS, bin_or, bin_and, Nat.reduceAdd, Nat.reduceLeDiff, reduceIte, eq_self, Nat.reduceEqDiff]
    refine condS_split (fun h => ?_) (fun h => ?_)
    · simp only [ev_global hΓ, idxA_elt hlt, hx, ssS, bin_or, bin_and, Nat.reduceAdd, Nat.reduceLeDiff, reduceIte, eq_self, Nat.reduceEqDiff]
      refine bodyA_ret resV_one ⟨?_, rfl⟩
      simp only [tget_zero, tget_succ]
      unfold signOf
      have : signsB.find? (fun p => p.isPrefixOf s) = some (signsB[i]'hlt') := by
        rw [List.find?_eq_some_iff_getElem]
        refine ⟨h, i, hlt', rfl, fun j hj => ?_⟩
        have := hpre (signsB[j]'(by omega)) (List.mem_take_iff_getElem.2 ⟨j, by omega, rfl⟩)
        simp [this]
      rw [this]
      rfl
    · simp only [next_i64 (show i < 4611686018427387904 by omega), ssS, bin_or, bin_and, Nat.reduceAdd, Nat.reduceLeDiff, reduceIte, eq_self, Nat.reduceEqDiff]
      refine ⟨25 - (i + 1), by omega, i + 1, rfl, hlt, ?_, rfl⟩
      intro x hx
      rw [List.take_add_one] at hx
      rcases List.mem_append.1 hx with hx | hx
      · exact hpre x hx
      · simp only [List.getElem?_eq_getElem hlt', Option.toList_some, List.mem_singleton] at hx
        subst hx
        exact h
  · have hge : i = 25 := by have := of_decide_eq_false h; omega
    simp only [ssS, bin_or, bin_and, Nat.reduceAdd, Nat.reduceLeDiff, reduceIte, eq_self, Nat.reduceEqDiff]
    refine bodyA_ret resV_one ⟨?_, rfl⟩
    simp only [tget_zero, tget_succ]
    rw [hge, show 25 = signsB.length from rfl, List.take_length] at hpre
    unfold signOf
    have : signsB.find? (fun p => p.isPrefixOf s) = none := by
      rw [List.find?_eq_none]
      intro x hx
      simp [hpre x hx]
    rw [this]
    rfl
end Go.Av.Fn
/- Rows of the reference, runs of bytes: what the functions answer. No condition. -/
namespace Go.Av.Fn
set_option linter.unusedSimpArgs false
set_option linter.unusedVariables false
set_option maxRecDepth 10000
open Go.Proofs
theorem takeWhile_len {p : UInt8 → Bool} : ∀ {s : List UInt8} {i : Nat}, (∀ x ∈ s.take i, p x = true) → i ≤ s.length → (∀ b, s[i]? = some b → p b = false) → (s.takeWhile p).length = i
  | [], i, _, h, _ => by simp at h; simp [h]
  | a :: s, 0, _, _, h => by
    have := h a rfl
    simp [List.takeWhile, this]
  | a :: s, i + 1, h1, h2, h3 => by
    have ha : p a = true := h1 a (by simp)
    rw [List.takeWhile_cons_of_pos ha, List.length_cons, takeWhile_len (i := i) (fun x hx => h1 x (by simp [hx])) (by simpa using h2) (fun b hb => h3 b (by simpa using hb))]
theorem row_ok {Γ : Glob} {m : Store} {g : FuncId} {caps : List V} {p : UInt8 → Bool} (s : List UInt8) (hs : s.length < 4611686018427387904) (hp : ∀ b, ACalls Tryz.prog Γ g ([] ++ [by8 b] ++ caps) m fun o m' => o = .ret (.val (.bool (p b))) ∧ m' = m) :
    ACalls Tryz.prog Γ 185 [bs s, .fn (.func g) [] caps] m fun o m' => o = .ret (it (s.takeWhile p).length) ∧ m' = m := by
  refine acalls_of_awp mixed F185_ok (by rintro v m b x _ ⟨⟨⟩, _⟩) ?_
  simp only [F185, start, List.cons_append, List.nil_append, List.length_cons, List.length_nil, List.replicate, Nat.reduceSub, Nat.reduceAdd]
  simp only [ssS, bin_or, bin_and, Nat.reduceAdd, Nat.reduceLeDiff, reduceIte, eq_self, Nat.reduceEqDiff]
  refine awp_loop (fun n st => ∃ i : Nat, n = s.length - i ∧ i ≤ s.length ∧ (∀ x ∈ s.take i, p x = true) ∧ st.m = m ∧ st.t.length = 20 ∧ tget st.t 0 = bs s ∧ tget st.t 1 = .fn (.func g) [] caps ∧ tget st.t 5 = it i) s.length ⟨0, rfl, Nat.zero_le _, by simp, rfl, rfl, rfl, rfl, rfl⟩ ?_
  rintro n ⟨t, m1⟩ ⟨i, hn, hi, hpre, hm, hlen, h0, h1, h5⟩
  simp only at hm h0 h1 h5 hlen
  subst hm
  rw [t_eq hlen]
  simp only [upTo_succ, upTo_zero, Nat.reduceAdd, h0, h1, h5]
  simp only [ssS, bin_or, bin_and, Nat.reduceAdd, Nat.reduceLeDiff, reduceIte, eq_self, Nat.reduceEqDiff]
  refine gO_split (fun h => ?_) (fun h => ?_)
  · have hlt : i < s.length := by have := of_decide_eq_true h; omega
    have hx : s[i]? = some s[i] := by simp [hlt]
    simp only [h, idx_bs hx, ssS, bin_or, bin_and, Nat.reduceAdd, Nat.reduceLeDiff, reduceIte, eq_self, Nat.reduceEqDiff]
    refine callS_pure (hp _) ?_
    simp only [ssS, bin_or, bin_and, Nat.reduceAdd, Nat.reduceLeDiff, reduceIte, eq_self, Nat.reduceEqDiff]
    refine condS_split (fun h2 => ?_) (fun h2 => ?_)
    · simp only [next_i64 (show i < 4611686018427387904 by omega), ssS, bin_or, bin_and, Nat.reduceAdd, Nat.reduceLeDiff, reduceIte, eq_self, Nat.reduceEqDiff]
      refine ⟨s.length - (i + 1), by omega, i + 1, rfl, hlt, ?_, rfl⟩
      intro x hx
      rw [List.take_add_one] at hx
      rcases List.mem_append.1 hx with hx | hx
      · exact hpre x hx
      · simp only [List.getElem?_eq_getElem hlt, Option.toList_some, List.mem_singleton] at hx
        subst hx
        exact h2
    · simp only [ssS, bin_or, bin_and, Nat.reduceAdd, Nat.reduceLeDiff, reduceIte, eq_self, Nat.reduceEqDiff]
      refine bodyA_ret resV_one ⟨?_, rfl⟩
      simp only [tget_zero, tget_succ]
      rw [takeWhile_len hpre hi (fun b hb => by rw [hx] at hb; cases hb; exact h2)]
  · have hge : ¬ i < s.length := by have := of_decide_eq_false h; omega
    simp only [h, ssS, bin_or, bin_and, Nat.reduceAdd, Nat.reduceLeDiff, reduceIte, eq_self, Nat.reduceEqDiff]
    refine bodyA_ret resV_one ⟨?_, rfl⟩
    simp only [tget_zero, tget_succ]
    rw [takeWhile_len hpre hi (fun b hb => by rw [List.getElem?_eq_none (by omega)] at hb; cases hb)]
end Go.Av.Fn
/- The scanner's words and blanks: what the functions do. No condition. -/
namespace Go.Av.Fn
set_option linter.unusedSimpArgs false
set_option linter.unusedVariables false
set_option maxRecDepth 10000
open Go.Proofs
def markOk (b : Nat) (p : V) : Prop := p = .val (.pointer none) ∨ p = .ptr b 0
def idxB (s : List UInt8) (c : UInt8) : Int := match s.findIdx? (· == c) with
  | some i => i
  | none => -1
structure LibOk (Γ : Glob) : Prop where
  clone : ∀ (m : Store) (s : List UInt8), s.length ≤ 281474976710656 → ACalls Tryz.prog Γ 131 [bs s] m fun o m' => o = .ret (bs s) ∧ m' = m
  copyCheck : ∀ (m : Store) (b : Nat) (p u : V), m b = some (.var 328 [p, u]) → markOk b p → ACalls Tryz.prog Γ 251 [.ptr b 0] m fun o m' => o = .ret (.tup []) ∧ m' = m.set b (.var 328 [.ptr b 0, u])
  string : ∀ (m : Store) (b : Nat) (p u : V) (l : List UInt8), m b = some (.var 328 [p, u]) → l.length ≤ 4096 → ((l = [] ∧ u = .sl [] [] .full) ∨ (l ≠ [] ∧ ∃ t k, m t = some (.tip 5 k) ∧ u = .sl (l.map by8) [] (.tip t k))) →
    ACalls Tryz.prog Γ 241 [.ptr b 0] m fun o m' => o = .ret (bs l) ∧ ∀ c x, m c = some x → (∀ l2 k, u ≠ .sl l2 [] (.tip c k)) → m' c = some x
  indexByte : ∀ (m : Store) (s : List UInt8) (c : UInt8), s.length ≤ 4096 → ACalls Tryz.prog Γ 242 [bs s, by8 c] m fun o m' => o = .ret (it (idxB s c)) ∧ m' = m
section
variable {Γ : Glob} {m : Store} (L : LibOk Γ)
include L
theorem clone_ok (s : List UInt8) (hs : s.length ≤ 281474976710656) : ACalls Tryz.prog Γ 110 [bs s] m fun o m' => o = .ret (bs s) ∧ m' = m := by
  refine acalls_of_awp mixed F110_ok (by rintro v m b x _ ⟨⟨⟩, _⟩) ?_
  simp only [F110, start, List.cons_append, List.nil_append, List.length_cons, List.length_nil, List.replicate, Nat.reduceSub, Nat.reduceAdd]
  simp only [ssS, bin_or, bin_and, Nat.reduceAdd, Nat.reduceLeDiff, reduceIte, eq_self, Nat.reduceEqDiff]
  refine callS_pure (L.clone _ s hs) ?_
  simp only [ssS, bin_or, bin_and, Nat.reduceAdd, Nat.reduceLeDiff, reduceIte, eq_self, Nat.reduceEqDiff]
  exact bodyA_ret resV_one ⟨rfl, rfl⟩
def wordTok (s : List UInt8) : List V := [it (if wordsB.contains s then 5 else 1), bs s, it 0, it 0, it 0]
def wordErr (s : List UInt8) (e : Int) : Int := if wordsB.contains s then e else if s.length > 20 then 5 else e
theorem word_ok (hΓ : Γ 3 = some (wordsB.map bs)) {xb : Nat} {T : TypeId} {a0 a1 a2 : V} {e : Int} (s : List UInt8) (hs : s.length ≤ 281474976710656) (hx : m xb = some (.var T [a0, a1, a2, it e])) :
    ACalls Tryz.prog Γ 233 [.ptr xb 0, bs s] m fun o m' => o = .ret (.agg (wordTok s)) ∧ m' = m.set xb (.var T [a0, a1, a2, it (wordErr s e)]) := by
  refine acalls_of_awp mixed F233_ok (by rintro v m b x _ ⟨⟨⟩, _⟩) ?_
  simp only [F233, start, List.cons_append, List.nil_append, List.length_cons, List.length_nil, List.replicate, Nat.reduceSub, Nat.reduceAdd]
  simp only [ssS, bin_or, bin_and, Nat.reduceAdd, Nat.reduceLeDiff, reduceIte, eq_self, Nat.reduceEqDiff]
  refine allocS_of fun b hb => ?_
  have hne : xb ≠ b := by
    rintro rfl
    rw [hx] at hb
    cases hb
  have hn : ∀ m' x, (Store.set m' b x) xb = m' xb := fun m' x => Store.set_ne m' x hne
  have hn2 : ∀ m' x, (Store.set m' xb x) b = m' b := fun m' x => Store.set_ne m' x hne.symm
  simp only [ssS, bin_or, bin_and, Nat.reduceAdd, Nat.reduceLeDiff, reduceIte, eq_self, Nat.reduceEqDiff]
  refine callS_pure (Word_ok hΓ s) ?_
  simp only [ssS, bin_or, bin_and, Nat.reduceAdd, Nat.reduceLeDiff, reduceIte, eq_self, Nat.reduceEqDiff]
  refine condS_split (fun h => ?_) (fun h => ?_)
  · simp only [Store.set_same, ssS, bin_or, bin_and, Nat.reduceAdd, Nat.reduceLeDiff, reduceIte, eq_self, Nat.reduceEqDiff]
    refine bodyA_less (v := .agg (wordTok s)) (m' := m.set xb (.var T [a0, a1, a2, it (wordErr s e)])) ?_ ?_ ⟨rfl, rfl⟩
    · rw [resV_cell (b := b) rfl (Store.set_same _ _ _)]
      unfold wordTok
      rw [h]
      rfl
    · refine drop_set (b := b) (by rw [hn2, hb]) (fun c hc => ?_)
      have : wordErr s e = e := by simp only [wordErr, h, if_true]
      rw [this, Store.set_eq m hx]
      simp [Store.set, hc]
  · simp only [ssS, bin_or, bin_and, Nat.reduceAdd, Nat.reduceLeDiff, reduceIte, eq_self, Nat.reduceEqDiff]
    refine condS_split (fun h2 => ?_) (fun h2 => ?_)
    · have hl : s.length > 20 := by have := of_decide_eq_true h2; omega
      simp only [hn, hx, ssS, bin_or, bin_and, Nat.reduceAdd, Nat.reduceLeDiff, reduceIte, eq_self, Nat.reduceEqDiff]
      refine callS_pure (clone_ok L s hs) ?_
      simp only [Store.set_same, hn2, ssS, bin_or, bin_and, Nat.reduceAdd, Nat.reduceLeDiff, reduceIte, eq_self, Nat.reduceEqDiff]
      refine bodyA_less (v := .agg (wordTok s)) (m' := m.set xb (.var T [a0, a1, a2, it (wordErr s e)])) ?_ ?_ ⟨rfl, rfl⟩
      · rw [resV_cell (b := b) rfl (Store.set_same _ _ _)]
        unfold wordTok
        rw [h]
        rfl
      · refine drop_set (b := b) (by rw [hn2, hb]) (fun c hc => ?_)
        have : wordErr s e = 5 := by simp only [wordErr, h, hl, if_true]; rfl
        rw [this]
        simp [Store.set, hc]
    · have hl : ¬ s.length > 20 := by have := of_decide_eq_false h2; omega
      simp only [ssS, bin_or, bin_and, Nat.reduceAdd, Nat.reduceLeDiff, reduceIte, eq_self, Nat.reduceEqDiff]
      refine callS_pure (clone_ok L s hs) ?_
      simp only [Store.set_same, ssS, bin_or, bin_and, Nat.reduceAdd, Nat.reduceLeDiff, reduceIte, eq_self, Nat.reduceEqDiff]
      refine bodyA_less (v := .agg (wordTok s)) (m' := m.set xb (.var T [a0, a1, a2, it (wordErr s e)])) ?_ ?_ ⟨rfl, rfl⟩
      · rw [resV_cell (b := b) rfl (Store.set_same _ _ _)]
        unfold wordTok
        rw [h]
        rfl
      · refine drop_set (b := b) (by rw [hn2, hb]) (fun c hc => ?_)
        have : wordErr s e = e := by simp only [wordErr, h, hl, if_false]; rfl
        rw [this, Store.set_eq m hx]
        simp [Store.set, hc]
end
end Go.Av.Fn
/- A builder's length, and a byte written to it. No condition. -/
namespace Go.Av.Fn
set_option linter.unusedSimpArgs false
set_option linter.unusedVariables false
set_option maxRecDepth 10000
open Go.Proofs
theorem bldLen_ok {Γ : Glob} {m : Store} {b : Nat} {T : TypeId} {p : V} {es more : List V} {tok : Tok} (h : m b = some (.var T [p, .sl es more tok])) : ACalls Tryz.prog Γ 243 [.ptr b 0] m fun o m' => o = .ret (it es.length) ∧ m' = m := by
  refine acalls_of_awp mixed F243_ok (by rintro v m b x _ ⟨⟨⟩, _⟩) ?_
  simp only [F243, start, List.cons_append, List.nil_append, List.length_cons, List.length_nil, List.replicate, Nat.reduceSub, Nat.reduceAdd]
  simp only [h, ssS, bin_or, bin_and, Nat.reduceAdd, Nat.reduceLeDiff, reduceIte, eq_self, Nat.reduceEqDiff]
  exact bodyA_ret resV_one ⟨rfl, rfl⟩
theorem bldWrite_ok {Γ : Glob} (L : LibOk Γ) {m : Store} {b : Nat} {p u : V} {l : List UInt8} (c : UInt8) (h : m b = some (.var 328 [p, u])) (hp : markOk b p) (hl : l.length ≤ 4096)
    (hu : (l = [] ∧ u = .sl [] [] .full) ∨ (l ≠ [] ∧ ∃ t k, m t = some (.tip 5 k) ∧ u = .sl (l.map by8) [] (.tip t k))) :
    ACalls Tryz.prog Γ 244 [.ptr b 0, by8 c] m fun o m' => o = .ret (.val .nilIface) ∧ ∃ t k, t ≠ b ∧ (m t = none ∨ ∃ k0, m t = some (.tip 5 k0) ∧ ∃ l0, u = .sl l0 [] (.tip t k0)) ∧ m' = (m.set t (.tip 5 k)).set b (.var 328 [.ptr b 0, .sl ((l ++ [c]).map by8) [] (.tip t k)]) := by
  refine acalls_of_awp mixed F244_ok (by rintro v m b x _ ⟨⟨⟩, _⟩) ?_
  simp only [F244, start, List.cons_append, List.nil_append, List.length_cons, List.length_nil, List.replicate, Nat.reduceSub, Nat.reduceAdd]
  simp only [ssS, bin_or, bin_and, Nat.reduceAdd, Nat.reduceLeDiff, reduceIte, eq_self, Nat.reduceEqDiff]
  refine callS_to (L.copyCheck m b p u h hp) ?_
  simp only [Store.set_same, eval_lit1, litV1_val, ssS, bin_or, bin_and, Nat.reduceAdd, Nat.reduceLeDiff, reduceIte, eq_self, Nat.reduceEqDiff]
  have hel : elemsOk 1 [by8 c] := by
    intro y hy
    rw [List.mem_singleton] at hy
    subst hy
    exact ⟨rfl, by intro z hz; simp [V.cells] at hz; subst hz; rfl⟩
  have hst : ∀ {t : Nat} {A B C : Blk}, t ≠ b → ((m.set b A).set t C).set b B = (m.set t C).set b B := by
    intro t A B C ht
    funext c
    simp only [Store.set]
    by_cases e : c = b
    · simp [e]
    · simp [e]
  rcases hu with ⟨rfl, rfl⟩ | ⟨hne, t, k, ht, rfl⟩
  · refine appS_full (by simp) rfl hel (by simp) fun t ht => ?_
    have htb : t ≠ b := by
      rintro rfl
      rw [Store.set_same] at ht
      cases ht
    have hmt : m t = none := by rwa [Store.set_ne _ _ htb] at ht
    have hbt : ∀ m' x, (Store.set m' t x) b = m' b := fun m' x => Store.set_ne m' x htb.symm
    simp only [hbt, Store.set_same, ssS, bin_or, bin_and, Nat.reduceAdd, Nat.reduceLeDiff, reduceIte, eq_self, Nat.reduceEqDiff]
    refine bodyA_ret resV_one ⟨rfl, t, 0, htb, .inl hmt, ?_⟩
    rw [hst htb]
    rfl
  · have htb : t ≠ b := by
      rintro rfl
      rw [h] at ht
      cases ht
    have hbt : ∀ m' x, (Store.set m' t x) b = m' b := fun m' x => Store.set_ne m' x htb.symm
    refine appS_tip (by simp) (by simpa using hne) (by rw [Store.set_ne _ _ htb, ht]) (szOk_by8 l) hel (by simp; omega) ?_
    simp only [hbt, Store.set_same, ssS, bin_or, bin_and, Nat.reduceAdd, Nat.reduceLeDiff, reduceIte, eq_self, Nat.reduceEqDiff]
    refine bodyA_ret resV_one ⟨rfl, t, k + 1, htb, .inr ⟨k, ht, _, rfl⟩, ?_⟩
    rw [hst htb, List.map_append]
    rfl
end Go.Av.Fn
/- The reference's quoted texts. No condition. -/
namespace Go.Av.Fn
set_option linter.unusedSimpArgs false
set_option linter.unusedVariables false
set_option maxRecDepth 10000
open Go.Proofs
def qL : List UInt8 → List UInt8 → Nat → Except Int (List UInt8 × Nat)
  | [], _, _ => .error 6
  | c :: r, acc, k =>
    if c.toNat = 34 then .ok (acc, k)
    else if c.toNat < 32 ∨ c.toNat > 126 then .error 6
    else if c.toNat = 92 then match r with
      | [] => .error 6
      | d :: r' => if d.toNat ≠ 92 ∧ d.toNat ≠ 34 ∧ d.toNat ≠ 110 then .error 6 else if acc.length = 255 then .error 5 else qL r' (acc ++ [if d.toNat = 110 then 10 else d]) (k + 2)
    else if acc.length = 255 then .error 5 else qL r (acc ++ [c]) (k + 1)
end Go.Av.Fn
/- The program's quoted texts. No condition. -/
namespace Go.Av.Fn
set_option linter.unusedSimpArgs false
set_option linter.unusedVariables false
set_option maxRecDepth 10000
open Go.Proofs
theorem idxB3 (d : UInt8) : idxB [92, 34, 110] d = if d.toNat = 92 then 0 else if d.toNat = 34 then 1 else if d.toNat = 110 then 2 else -1 := by
  have key : ∀ c : UInt8, (c == d) = decide (d.toNat = c.toNat) := by
    intro c
    rw [Bool.eq_iff_iff]
    simp only [beq_iff_eq, decide_eq_true_eq]
    constructor
    · rintro rfl; rfl
    · intro h; exact UInt8.toNat_inj.1 h.symm
  unfold idxB
  simp only [List.findIdx?_cons, key, List.findIdx?_nil]
  by_cases d1 : d.toNat = 92
  · simp [d1]
  · by_cases d2 : d.toNat = 34
    · simp [d2]
    · by_cases d3 : d.toNat = 110
      · simp [d3]
      · simp [d1, d2, d3]
def Bld (m m' : Store) (b : Nat) (l : List UInt8) : Prop := ∃ p u, m' b = some (.var 328 [p, u]) ∧ markOk b p ∧ (∀ c x, m c = some x → m' c = some x) ∧
  ((l = [] ∧ u = .sl [] [] .full) ∨ (l ≠ [] ∧ ∃ t k, m' t = some (.tip 5 k) ∧ m t = none ∧ u = .sl (l.map by8) [] (.tip t k)))
def quotOut (T : TypeId) (a0 a1 a2 : V) (e0 : Int) (xb : Nat) (m : Store) (r : Except Int (List UInt8 × Nat)) (o : Out) (m' : Store) : Prop := match r with
  | .ok (l, k) => o = .ret (.tup [bs l, it ((k + 2 : Nat) : Int)]) ∧ m' = m
  | .error e => o = .ret (.tup [bs [], it 0]) ∧ m' = m.set xb (.var T [a0, a1, a2, it e])
theorem quoted_ok {Γ : Glob} (L : LibOk Γ) {m : Store} {xb : Nat} {T : TypeId} {a0 a1 a2 : V} {e : Int} (s : List UInt8) (hs : s.length ≤ 4096) (hx : m xb = some (.var T [a0, a1, a2, it e])) :
    ACalls Tryz.prog Γ 234 [.ptr xb 0, bs s] m fun o m' => quotOut T a0 a1 a2 e xb m (qL s [] 0) o m' := by
  refine acalls_of_awp mixed F234_ok (by
    rintro v m b x _ h
    exfalso
    unfold quotOut at h
    split at h
    · cases h.1
    · cases h.1) ?_
  simp only [F234, start, List.cons_append, List.nil_append, List.length_cons, List.length_nil, List.replicate, Nat.reduceSub, Nat.reduceAdd]
  simp only [ssS, bin_or, bin_and, Nat.reduceAdd, Nat.reduceLeDiff, reduceIte, eq_self, Nat.reduceEqDiff]
  refine allocS_of fun b hb => ?_
  simp only [ssS, bin_or, bin_and, Nat.reduceAdd, Nat.reduceLeDiff, reduceIte, eq_self, Nat.reduceEqDiff]
  generalize hres : qL s [] 0 = res
  have hxb : xb ≠ b := by
    rintro rfl
    rw [hx] at hb
    cases hb
  have fail : ∀ {t : List V} {m1 : Store} {l : List UInt8} {er : Int}, Bld m m1 b l → res = .error er → resV [.tmp 4, .tmp 5] ⟨t, m1.set xb (.var T [a0, a1, a2, it er])⟩ = some (.tup [bs [], it 0]) →
      bodyA [.tmp 4, .tmp 5] (fun o m' => quotOut T a0 a1 a2 e xb m res o m') .ret ⟨t, m1.set xb (.var T [a0, a1, a2, it er])⟩ := by
    rintro t m1 l er ⟨p, u, h1, h2, h3, h4⟩ hr hv
    refine bodyA_less (m' := m.set xb (.var T [a0, a1, a2, it er])) hv (fun c x hc => ?_) ?_
    · by_cases e : c = xb
      · subst e
        rw [Store.set_same] at hc ⊢
        exact hc
      · rw [Store.set_ne _ _ e] at hc ⊢
        exact h3 c x hc
    · rw [hr]
      exact ⟨rfl, rfl⟩
  have good : ∀ {t : List V} {m1 : Store} {l : List UInt8} {k : Nat}, (∀ c x, m c = some x → m1 c = some x) → res = .ok (l, k) → resV [.tmp 4, .tmp 5] ⟨t, m1⟩ = some (.tup [bs l, it ((k + 2 : Nat) : Int)]) →
      bodyA [.tmp 4, .tmp 5] (fun o m' => quotOut T a0 a1 a2 e xb m res o m') .ret ⟨t, m1⟩ := by
    intro t m1 l k h3 hr hv
    refine bodyA_less (m' := m) hv h3 ?_
    rw [hr]
    exact ⟨rfl, rfl⟩
  refine awp_mono (inBlockA_mono (thenA_mono (n := fun st => ∃ l, Bld m st.m b l ∧ res = .error 6 ∧ st.t.length = 59 ∧ tget st.t 0 = .ptr xb 0) ?_ (fun _ _ h => h))) ?_
  · rintro ⟨t, m1⟩ ⟨l, hB, hr, hlen, h0⟩
    simp only at hB hlen h0
    have hx1 : m1 xb = some (.var T [a0, a1, a2, it e]) := by
      obtain ⟨_, _, _, _, h3, _⟩ := hB
      exact h3 _ _ hx
    rw [t_eq hlen]
    simp only [upTo_succ, upTo_zero, Nat.reduceAdd, h0]
    simp only [hx1, ssS, bin_or, bin_and, Nat.reduceAdd, Nat.reduceLeDiff, reduceIte, eq_self, Nat.reduceEqDiff]
    exact fail hB hr rfl
  · refine awp_loop (fun n st => ∃ (k : Nat) (acc : List UInt8), n = s.length - k ∧ k ≤ s.length ∧ acc.length ≤ 255 ∧ qL (s.drop k) acc k = res ∧ Bld m st.m b acc ∧ st.t.length = 59 ∧ tget st.t 0 = .ptr xb 0 ∧ tget st.t 1 = bs s ∧ tget st.t 6 = .ptr b 0 ∧ tget st.t 7 = it k) s.length
      ⟨0, [], rfl, by omega, by simp, hres, ⟨.val (.pointer none), .sl [] [] .full, Store.set_same _ _ _, .inl rfl, sub_set hb (fun _ _ h => h), .inl ⟨rfl, rfl⟩⟩, rfl, rfl, rfl, rfl, rfl⟩ ?_
    rintro n ⟨t, m1⟩ ⟨k, acc, hn, hk, hacc, hq, hB, hlen, h0, h1, h6, h7⟩
    simp only at hB h0 h1 h6 h7 hlen
    rw [t_eq hlen]
    simp only [upTo_succ, upTo_zero, Nat.reduceAdd, h0, h1, h6, h7]
    simp only [ssS, bin_or, bin_and, Nat.reduceAdd, Nat.reduceLeDiff, reduceIte, eq_self, Nat.reduceEqDiff]
    refine condS_split (fun h => ?_) (fun h => ?_)
    · have hlt : k < s.length := by have := of_decide_eq_true h; omega
      have hx2 : s[k]? = some s[k] := by simp [hlt]
      have hdrop : s.drop k = s[k] :: s.drop (k + 1) := List.drop_eq_getElem_cons hlt
      generalize s[k] = c at hx2 hdrop
      rw [hdrop, qL.eq_def] at hq
      simp only at hq
      simp only [idx_bs hx2, ssS, bin_or, bin_and, Nat.reduceAdd, Nat.reduceLeDiff, reduceIte, eq_self, Nat.reduceEqDiff]
      obtain ⟨p, u, hb1, hb2, hb3, hb4⟩ := id hB
      have hu : ∃ tok, u = .sl (acc.map by8) [] tok := by
        rcases hb4 with ⟨rfl, h⟩ | ⟨_, t, k, _, _, h⟩
        · exact ⟨_, h⟩
        · exact ⟨_, h⟩
      refine condS_split (fun h1 => ?_) (fun h1 => ?_)
      · have e1 : c.toNat = 34 := by have := eq_of_beq h1; omega
        rw [if_pos e1] at hq
        have hw : IntKind.i64.wrap ((k : Int) + 2) = ((k + 2 : Nat) : Int) := by
          rw [wrap_i64 (by omega) (by omega)]
          rfl
        simp only [ssS, bin_or, bin_and, Nat.reduceAdd, Nat.reduceLeDiff, reduceIte, eq_self, Nat.reduceEqDiff]
        refine callS_of (L.string m1 b p u acc hb1 (by omega) (hb4.imp_right fun ⟨h, t, k, x, _, y⟩ => ⟨h, t, k, x, y⟩)) ?_ (by rintro v m' ⟨⟨⟩, _⟩)
        rintro v m' ⟨hv, hkeep⟩
        cases hv
        simp only [hw, ssS, bin_or, bin_and, Nat.reduceAdd, Nat.reduceLeDiff, reduceIte, eq_self, Nat.reduceEqDiff]
        refine good (fun c x hc => hkeep c x (hb3 c x hc) ?_) hq.symm rfl
        rintro l2 k2 hu2
        rcases hb4 with ⟨_, h⟩ | ⟨_, t2, k3, _, h2, h3⟩
        · rw [h] at hu2; cases hu2
        · rw [h3] at hu2
          simp only [V.sl.injEq, Tok.tip.injEq] at hu2
          rw [← hu2.2.2.1, h2] at hc
          cases hc
      · have e1 : ¬ c.toNat = 34 := by
          intro e
          rw [e] at h1
          cases h1
        rw [if_neg e1] at hq
        simp only [ssS, bin_or, bin_and, Nat.reduceAdd, Nat.reduceLeDiff, reduceIte, eq_self, Nat.reduceEqDiff]
        refine gO_split (fun h2 => ?_) (fun h2 => ?_)
        · have e2 : c.toNat < 32 := by have := of_decide_eq_true h2; omega
          rw [if_pos (.inl e2)] at hq
          simp only [h2, ssS, bin_or, bin_and, Nat.reduceAdd, Nat.reduceLeDiff, reduceIte, eq_self, Nat.reduceEqDiff]
          exact ⟨acc, hB, hq.symm⟩
        · have e2 : ¬ c.toNat < 32 := by have := of_decide_eq_false h2; omega
          simp only [h2, ssS, bin_or, bin_and, Nat.reduceAdd, Nat.reduceLeDiff, reduceIte, eq_self, Nat.reduceEqDiff]
          refine condS_split (fun h3 => ?_) (fun h3 => ?_)
          · have e3 : c.toNat > 126 := by have := of_decide_eq_true h3; omega
            rw [if_pos (.inr e3)] at hq
            simp only [ssS, bin_or, bin_and, Nat.reduceAdd, Nat.reduceLeDiff, reduceIte, eq_self, Nat.reduceEqDiff]
            exact ⟨acc, hB, hq.symm⟩
          · have e3 : ¬ c.toNat > 126 := by have := of_decide_eq_false h3; omega
            rw [if_neg (by omega)] at hq
            simp only [ssS, bin_or, bin_and, Nat.reduceAdd, Nat.reduceLeDiff, reduceIte, eq_self, Nat.reduceEqDiff]
            refine condS_then (M := fun st => ∃ (k' : Nat) (c' : UInt8), st.m = m1 ∧ k ≤ k' ∧ k' < s.length ∧ res = (if acc.length = 255 then .error 5 else qL (s.drop (k' + 1)) (acc ++ [c']) (k' + 1)) ∧ st.t.length = 59 ∧ tget st.t 0 = .ptr xb 0 ∧ tget st.t 1 = bs s ∧ tget st.t 6 = .ptr b 0 ∧ tget st.t 7 = it k' ∧ tget st.t 8 = by8 c') ?_ ?_
            · rintro ⟨t, m2⟩ ⟨k', c', hm2, hkk, hlt', hres', hlen, h0, h1, h6, h7, h8⟩
              simp only at hm2 hlen h0 h1 h6 h7 h8
              subst hm2
              rw [t_eq hlen]
              simp only [upTo_succ, upTo_zero, Nat.reduceAdd, h0, h1, h6, h7, h8]
              simp only [ssS, bin_or, bin_and, Nat.reduceAdd, Nat.reduceLeDiff, reduceIte, eq_self, Nat.reduceEqDiff]
              have hu' := hu
              obtain ⟨tok, rfl⟩ := hu'
              refine callS_pure (bldLen_ok hb1) ?_
              simp only [List.length_map, ssS, bin_or, bin_and, Nat.reduceAdd, Nat.reduceLeDiff, reduceIte, eq_self, Nat.reduceEqDiff]
              refine condS_split (fun h => ?_) (fun h => ?_)
              · have h255 : acc.length = 255 := by have := eq_of_beq h; omega
                have hx1 := hb3 _ _ hx
                simp only [hx1, ssS, bin_or, bin_and, Nat.reduceAdd, Nat.reduceLeDiff, reduceIte, eq_self, Nat.reduceEqDiff]
                exact fail (l := acc) hB (by rw [hres', if_pos h255]) rfl
              · have h255 : ¬ acc.length = 255 := by
                  intro e
                  rw [e] at h
                  cases h
                rw [if_neg h255] at hres'
                simp only [ssS, bin_or, bin_and, Nat.reduceAdd, Nat.reduceLeDiff, reduceIte, eq_self, Nat.reduceEqDiff]
                refine callS_of (bldWrite_ok L c' hb1 hb2 (by omega) (hb4.imp_right fun ⟨h, t, k, x, _, y⟩ => ⟨h, t, k, x, y⟩)) ?_ (by rintro v m' ⟨⟨⟩, _⟩)
                rintro v m' ⟨hv, t, j, htb, hmt, rfl⟩
                cases hv
                have hmt0 : m t = none := by
                  rcases hmt with h | ⟨k0, h, l0, hl0⟩
                  · cases hm : m t with
                    | none => rfl
                    | some x => rw [hb3 _ _ hm] at h; cases h
                  · rcases hb4 with ⟨_, h2⟩ | ⟨_, t2, k2, q1, q2, q3⟩
                    · rw [h2] at hl0; cases hl0
                    · rw [q3] at hl0
                      simp only [V.sl.injEq, Tok.tip.injEq] at hl0
                      rw [← hl0.2.2.1]
                      exact q2
                simp only [next_i64 (show k' < 4611686018427387904 by omega), ssS, bin_or, bin_and, Nat.reduceAdd, Nat.reduceLeDiff, reduceIte, eq_self, Nat.reduceEqDiff]
                refine ⟨s.length - (k' + 1), by omega, k' + 1, acc ++ [c'], rfl, by omega, by simp; omega, hres'.symm, ⟨.ptr b 0, _, Store.set_same _ _ _, .inr rfl, ?_, .inr ⟨by simp, t, j, ?_, hmt0, rfl⟩⟩, rfl⟩
                · intro c x hc
                  have n1 : c ≠ b := by rintro rfl; rw [hb] at hc; cases hc
                  have n2 : c ≠ t := by rintro rfl; rw [hmt0] at hc; cases hc
                  rw [Store.set_ne _ _ n1, Store.set_ne _ _ n2]
                  exact hb3 c x hc
                · rw [Store.set_ne _ _ htb, Store.set_same]
            · refine condS_split (fun h4 => ?_) (fun h4 => ?_)
              · have e4 : c.toNat = 92 := by have := eq_of_beq h4; omega
                rw [if_pos e4] at hq
                simp only [next_i64 (show k < 4611686018427387904 by omega), ssS, bin_or, bin_and, Nat.reduceAdd, Nat.reduceLeDiff, reduceIte, eq_self, Nat.reduceEqDiff]
                refine gO_split (fun h5 => ?_) (fun h5 => ?_)
                · have e5 : k + 1 = s.length := by have := eq_of_beq h5; omega
                  rw [e5, List.drop_length] at hq
                  simp only [h5, ssS, bin_or, bin_and, Nat.reduceAdd, Nat.reduceLeDiff, reduceIte, eq_self, Nat.reduceEqDiff]
                  exact ⟨acc, hB, hq.symm⟩
                · have e5 : k + 1 < s.length := by
                    have : ¬ k + 1 = s.length := by
                      intro e
                      rw [e] at h5
                      simp at h5
                    omega
                  have hx3 : s[k + 1]? = some s[k + 1] := by simp [e5]
                  have hdrop2 : s.drop (k + 1) = s[k + 1] :: s.drop (k + 1 + 1) := List.drop_eq_getElem_cons e5
                  generalize s[k + 1] = d at hx3 hdrop2
                  rw [hdrop2] at hq
                  simp only at hq
                  simp only [h5, idx_bs hx3, ssS, bin_or, bin_and, Nat.reduceAdd, Nat.reduceLeDiff, reduceIte, eq_self, Nat.reduceEqDiff]
                  refine callS_pure (L.indexByte m1 [92, 34, 110] d (by decide)) ?_
                  have good2 : (d.toNat = 92 ∨ d.toNat = 34 ∨ d.toNat = 110) → res = (if acc.length = 255 then .error 5 else qL (s.drop (k + 1 + 1)) (acc ++ [if d.toNat = 110 then 10 else d]) (k + 1 + 1)) := by
                    intro hd
                    rw [if_neg (by omega)] at hq
                    exact hq.symm
                  have nq : ∀ {k : Nat}, ¬ d.toNat = k → ((d.toNat : Int) == (k : Int)) = false := by
                    intro k hk
                    simp only [beq_eq_false_iff_ne, ne_eq]
                    omega
                  have hi := idxB3 d
                  by_cases d1 : d.toNat = 92
                  · rw [if_pos d1] at hi
                    have f2 : ((d.toNat : Int) == 110) = false := nq (k := 110) (by omega)
                    have hg := good2 (.inl d1)
                    rw [if_neg (show ¬ d.toNat = 110 by omega)] at hg
                    have f1 : decide (idxB [92, 34, 110] d < 0) = false := by rw [hi]; rfl
                    simp only [f1, idx_bs hx3, f2, ssS, bin_or, bin_and, Nat.reduceAdd, Nat.reduceLeDiff, reduceIte, eq_self, Nat.reduceEqDiff]
                    exact ⟨k + 1, d, by omega, e5, hg, rfl, rfl⟩
                  · rw [if_neg d1] at hi
                    by_cases d2 : d.toNat = 34
                    · rw [if_pos d2] at hi
                      have f2 : ((d.toNat : Int) == 110) = false := nq (k := 110) (by omega)
                      have hg := good2 (.inr (.inl d2))
                      rw [if_neg (show ¬ d.toNat = 110 by omega)] at hg
                      have f1 : decide (idxB [92, 34, 110] d < 0) = false := by rw [hi]; rfl
                      simp only [f1, idx_bs hx3, f2, ssS, bin_or, bin_and, Nat.reduceAdd, Nat.reduceLeDiff, reduceIte, eq_self, Nat.reduceEqDiff]
                      exact ⟨k + 1, d, by omega, e5, hg, rfl, rfl⟩
                    · rw [if_neg d2] at hi
                      by_cases d3 : d.toNat = 110
                      · rw [if_pos d3] at hi
                        have f4 : ((d.toNat : Int) == 110) = true := by rw [d3]; rfl
                        have hg := good2 (.inr (.inr d3))
                        rw [if_pos d3] at hg
                        have f1 : decide (idxB [92, 34, 110] d < 0) = false := by rw [hi]; rfl
                        simp only [f1, idx_bs hx3, f4, ssS, bin_or, bin_and, Nat.reduceAdd, Nat.reduceLeDiff, reduceIte, eq_self, Nat.reduceEqDiff]
                        exact ⟨k + 1, 10, by omega, e5, hg, rfl, rfl⟩
                      · rw [if_neg d3] at hi
                        rw [if_pos ⟨d1, d2, d3⟩] at hq
                        have f1 : decide (idxB [92, 34, 110] d < 0) = true := by rw [hi]; rfl
                        simp only [f1, ssS, bin_or, bin_and, Nat.reduceAdd, Nat.reduceLeDiff, reduceIte, eq_self, Nat.reduceEqDiff]
                        exact ⟨acc, hB, hq.symm⟩
              · have e4 : ¬ c.toNat = 92 := by
                  intro e
                  rw [e] at h4
                  cases h4
                rw [if_neg e4] at hq
                simp only [ssS, bin_or, bin_and, Nat.reduceAdd, Nat.reduceLeDiff, reduceIte, eq_self, Nat.reduceEqDiff]
                exact ⟨k, c, Nat.le_refl k, hlt, hq.symm, rfl, rfl⟩
    · have hge : k = s.length := by have := of_decide_eq_false h; omega
      simp only [ssS, bin_or, bin_and, Nat.reduceAdd, Nat.reduceLeDiff, reduceIte, eq_self, Nat.reduceEqDiff]
      exact ⟨acc, hB, by rw [← hq, hge, List.drop_length, qL]⟩
end Go.Av.Fn
/- Going behind blanks and remarks. No condition. -/
namespace Go.Av.Fn
set_option linter.unusedSimpArgs false
set_option linter.unusedVariables false
set_option maxRecDepth 10000
open Go.Proofs
def notNl (b : UInt8) : Bool := b.toNat != 10
theorem pre_len {p r : List UInt8} (h : p.isPrefixOf r = true) : p.length ≤ r.length := (List.isPrefixOf_iff_prefix.1 h).length_le
theorem slash_run {r : List UInt8} (h : [47, 47].isPrefixOf r = true) : 0 < (r.takeWhile notNl).length := by
  cases r with
  | nil => cases h
  | cons b r =>
    simp only [List.isPrefixOf, Bool.and_eq_true, beq_iff_eq] at h
    obtain ⟨rfl, _⟩ := h
    rw [List.takeWhile_cons_of_pos (by decide)]
    simp
def skipL (r : List UInt8) (a l : Nat) : Nat × Nat :=
  if h : [10].isPrefixOf r = true then skipL (r.drop 1) (a + 1) (l + 1)
  else if h2 : ([32].isPrefixOf r || [9].isPrefixOf r) = true then skipL (r.drop 1) (a + 1) l
  else if h3 : [47, 47].isPrefixOf r = true then skipL (r.drop (r.takeWhile notNl).length) (a + (r.takeWhile notNl).length) l
  else (a, l)
termination_by r.length
decreasing_by
  · have := pre_len h
    simp at this ⊢
    omega
  · have : 1 ≤ r.length := by
      rw [Bool.or_eq_true] at h2
      rcases h2 with h2 | h2
      · simpa using pre_len h2
      · simpa using pre_len h2
    simp
    omega
  · have h4 := slash_run h3
    have h5 := pre_len h3
    simp at h5 ⊢
    omega
theorem skip_ok {Γ : Glob} {m : Store} {xb : Nat} {T : TypeId} {e : Int} (s : List UInt8) (a0 l0 : Nat) (ha : a0 ≤ s.length) (hl : l0 + s.length < 4611686018427387904) (hx : m xb = some (.var T [bs s, it a0, it l0, it e])) :
    ACalls Tryz.prog Γ 217 [.ptr xb 0] m fun o m' => o = .ret (.tup []) ∧ m' = m.set xb (.var T [bs s, it (skipL (s.drop a0) a0 l0).1, it (skipL (s.drop a0) a0 l0).2, it e]) := by
  refine acalls_of_awp mixed F217_ok (by rintro v m b x _ ⟨⟨⟩, _⟩) ?_
  simp only [F217, start, List.cons_append, List.nil_append, List.length_cons, List.length_nil, List.replicate, Nat.reduceSub, Nat.reduceAdd]
  simp only [ssS, bin_or, bin_and, Nat.reduceAdd, Nat.reduceLeDiff, reduceIte, eq_self, Nat.reduceEqDiff]
  refine awp_loop (fun n st => ∃ a l : Nat, n = s.length - a ∧ a ≤ s.length ∧ l + (s.length - a) < 4611686018427387904 ∧ skipL (s.drop a) a l = skipL (s.drop a0) a0 l0 ∧ st.m = m.set xb (.var T [bs s, it a, it l, it e]) ∧ st.t.length = 55 ∧ tget st.t 0 = .ptr xb 0)
    (s.length - a0) ⟨a0, l0, rfl, ha, by omega, rfl, (Store.set_eq m hx).symm, rfl, rfl⟩ ?_
  rintro n ⟨t, m1⟩ ⟨a, l, hn, hal, hll, hres, hm, hlen, h0⟩
  simp only at hm h0 hlen
  subst hm
  rw [t_eq hlen]
  simp only [upTo_succ, upTo_zero, Nat.reduceAdd, h0]
  have hsl : sliceSV (bs s) (some (some (a : Int))) (some none) = some (bs (s.drop a)) := slice_from hal
  simp only [Store.set_same, hsl, ssS, bin_or, bin_and, Nat.reduceAdd, Nat.reduceLeDiff, reduceIte, eq_self, Nat.reduceEqDiff]
  refine callS_pure (strHasPrefix_ok _ _) ?_
  simp only [ssS, bin_or, bin_and, Nat.reduceAdd, Nat.reduceLeDiff, reduceIte, eq_self, Nat.reduceEqDiff]
  refine condS_split (fun h => ?_) (fun h => ?_)
  · have hlt : a < s.length := by have := pre_len h; simp at this; omega
    simp only [Store.set_same, Store.set_set, next_i64 (show l < 4611686018427387904 by omega), next_i64 (show a < 4611686018427387904 by omega), ssS, bin_or, bin_and, Nat.reduceAdd, Nat.reduceLeDiff, reduceIte, eq_self, Nat.reduceEqDiff]
    refine ⟨s.length - (a + 1), by omega, a + 1, l + 1, rfl, hlt, by omega, ?_, rfl⟩
    rw [← hres, skipL.eq_1 (s.drop a), dif_pos h, List.drop_drop]
  · simp only [ssS, bin_or, bin_and, Nat.reduceAdd, Nat.reduceLeDiff, reduceIte, eq_self, Nat.reduceEqDiff]
    refine callS_pure (strHasPrefix_ok _ _) ?_
    simp only [ssS, bin_or, bin_and, Nat.reduceAdd, Nat.reduceLeDiff, reduceIte, eq_self, Nat.reduceEqDiff]
    have blank : ∀ k, ([32].isPrefixOf (s.drop a) || [9].isPrefixOf (s.drop a)) = true → k = skipL (s.drop (a + 1)) (a + 1) l → k = skipL (s.drop a0) a0 l0 := by
      intro k h2 hk
      rw [← hres, skipL.eq_1 (s.drop a), dif_neg (by rw [h]; simp), dif_pos h2, List.drop_drop, hk]
    refine gO_split (fun h2 => ?_) (fun h2 => ?_)
    · have hlt : a < s.length := by have := pre_len h2; simp at this; omega
      simp only [h2, Store.set_same, Store.set_set, next_i64 (show a < 4611686018427387904 by omega), ssS, bin_or, bin_and, Nat.reduceAdd, Nat.reduceLeDiff, reduceIte, eq_self, Nat.reduceEqDiff]
      refine ⟨s.length - (a + 1), by omega, a + 1, l, rfl, hlt, by omega, blank _ (by rw [h2]; rfl) rfl, rfl⟩
    · simp only [h2, ssS, bin_or, bin_and, Nat.reduceAdd, Nat.reduceLeDiff, reduceIte, eq_self, Nat.reduceEqDiff]
      refine callS_pure (strHasPrefix_ok _ _) ?_
      simp only [ssS, bin_or, bin_and, Nat.reduceAdd, Nat.reduceLeDiff, reduceIte, eq_self, Nat.reduceEqDiff]
      refine condS_split (fun h3 => ?_) (fun h3 => ?_)
      · have hlt : a < s.length := by have := pre_len h3; simp at this; omega
        simp only [Store.set_same, Store.set_set, next_i64 (show a < 4611686018427387904 by omega), ssS, bin_or, bin_and, Nat.reduceAdd, Nat.reduceLeDiff, reduceIte, eq_self, Nat.reduceEqDiff]
        refine ⟨s.length - (a + 1), by omega, a + 1, l, rfl, hlt, by omega, blank _ (by rw [h3]; simp) rfl, rfl⟩
      · simp only [ssS, bin_or, bin_and, Nat.reduceAdd, Nat.reduceLeDiff, reduceIte, eq_self, Nat.reduceEqDiff]
        refine callS_pure (strHasPrefix_ok _ _) ?_
        simp only [ssS, bin_or, bin_and, Nat.reduceAdd, Nat.reduceLeDiff, reduceIte, eq_self, Nat.reduceEqDiff]
        have hno : ¬ ([32].isPrefixOf (s.drop a) || [9].isPrefixOf (s.drop a)) = true := by rw [h2, h3]; simp
        have hno1 : ¬ [10].isPrefixOf (s.drop a) = true := by rw [h]; simp
        refine condS_split (fun h4 => ?_) (fun h4 => ?_)
        · simp only [Store.set_same, ssS, bin_or, bin_and, Nat.reduceAdd, Nat.reduceLeDiff, reduceIte, eq_self, Nat.reduceEqDiff]
          refine callS_pure (row_ok (p := notNl) (s.drop a) (by simp; omega) (fun b => notNl_ok b)) ?_
          have hr0 := slash_run h4
          have hr1 : ((s.drop a).takeWhile notNl).length ≤ s.length - a := by
            have := (List.takeWhile_sublist notNl (l := s.drop a)).length_le
            simpa using this
          have hw : IntKind.i64.wrap ((a : Int) + (((s.drop a).takeWhile notNl).length : Int)) = ((a + ((s.drop a).takeWhile notNl).length : Nat) : Int) := by
            rw [wrap_i64 (by omega) (by omega)]
            rfl
          simp only [Store.set_same, Store.set_set, hw, ssS, bin_or, bin_and, Nat.reduceAdd, Nat.reduceLeDiff, reduceIte, eq_self, Nat.reduceEqDiff]
          refine ⟨s.length - (a + ((s.drop a).takeWhile notNl).length), by omega, a + ((s.drop a).takeWhile notNl).length, l, rfl, by omega, by omega, ?_, rfl⟩
          rw [← hres, skipL.eq_1 (s.drop a), dif_neg hno1, dif_neg hno, dif_pos h4, List.drop_drop]
        · simp only [ssS, bin_or, bin_and, Nat.reduceAdd, Nat.reduceLeDiff, reduceIte, eq_self, Nat.reduceEqDiff]
          refine bodyA_ret (v := .tup []) rfl ⟨rfl, ?_⟩
          have hno4 : ¬ [47, 47].isPrefixOf (s.drop a) = true := by rw [h4]; simp
          rw [← hres, skipL.eq_1 (s.drop a), dif_neg hno1, dif_neg hno, dif_neg hno4]
end Go.Av.Fn
/- The reference's numbers. No condition. -/
namespace Go.Av.Fn
set_option linter.unusedSimpArgs false
set_option linter.unusedVariables false
set_option maxRecDepth 10000
open Go.Proofs
def numL : Nat → List UInt8 → Option Nat
  | n, [] => some n
  | n, b :: r => if n > (9223372036854775807 - (b.toNat - 48)) / 10 then none else numL (10 * n + (b.toNat - 48)) r
end Go.Av.Fn
/- Rows of tokens compared. No condition. -/
namespace Go.Av.Fn
set_option linter.unusedSimpArgs false
set_option linter.unusedVariables false
set_option maxRecDepth 10000
open Go.Proofs
end Go.Av.Fn
/- The reference's tokens. No condition. -/
namespace Go.Av.Fn
set_option linter.unusedSimpArgs false
set_option linter.unusedVariables false
set_option maxRecDepth 10000
open Go.Proofs
theorem qL_err {r acc : List UInt8} {k : Nat} {e : Int} (h : qL r acc k = .error e) : e ≠ 0 := by
  fun_induction qL r acc k <;> simp_all <;> (subst h; decide)
def tokL (r : List UInt8) : Except Int (Tk × Nat) := match r with
  | [] => .error 6
  | c :: _ =>
    if let8 c then
      if wordsB.contains (r.takeWhile alnum) then .ok (⟨5, r.takeWhile alnum, 0, 0, 0⟩, (r.takeWhile alnum).length)
      else if (r.takeWhile alnum).length > 20 then .error 5 else .ok (⟨1, r.takeWhile alnum, 0, 0, 0⟩, (r.takeWhile alnum).length)
    else if dig c then match numL 0 (r.takeWhile dig) with
      | none => .error 5
      | some n => .ok (⟨2, [], n, 0, 0⟩, (r.takeWhile dig).length)
    else if c.toNat = 34 then match qL (r.drop 1) [] 0 with
      | .error e => .error e
      | .ok (l, k) => .ok (⟨3, l, 0, 0, 0⟩, k + 2)
    else match signsB.find? fun p => p.isPrefixOf r with
      | some p => .ok (⟨4, p, 0, 0, 0⟩, p.length)
      | none => .error 6
theorem tw_all {p : UInt8 → Bool} : ∀ (r : List UInt8), ∀ x ∈ r.takeWhile p, p x = true
  | [], x, hx => by cases hx
  | b :: r, x, hx => by
    cases hb : p b with
    | true =>
      rw [List.takeWhile_cons_of_pos hb] at hx
      rcases List.mem_cons.1 hx with rfl | hx
      · exact hb
      · exact tw_all r x hx
    | false =>
      rw [List.takeWhile_cons_of_neg (by simp [hb])] at hx
      cases hx
theorem takeWhile_take {p : UInt8 → Bool} (r : List UInt8) : r.take (r.takeWhile p).length = r.takeWhile p := by
  induction r with
  | nil => rfl
  | cons b r ih =>
    cases hb : p b with
    | true => rw [List.takeWhile_cons_of_pos hb, List.length_cons, List.take_succ_cons, ih]
    | false => rw [List.takeWhile_cons_of_neg (by simp [hb])]; rfl
end Go.Av.Fn
/- A text's tokens, in plain terms. No condition. -/
namespace Go.Av.Fn
set_option linter.unusedSimpArgs false
set_option linter.unusedVariables false
theorem qL_len {r acc : List UInt8} {k : Nat} {l : List UInt8} {k' : Nat} (h : qL r acc k = .ok (l, k')) : k ≤ k' ∧ k' < k + r.length := by
  fun_induction qL r acc k <;> simp_all <;> omega
theorem tokL_len {r : List UInt8} {t : Tk} {n : Nat} (h : tokL r = .ok (t, n)) : 0 < n ∧ n ≤ r.length := by
  unfold tokL at h
  split at h
  · cases h
  · rename_i c r' 
    split at h
    · rename_i hc
      have h1 : 0 < ((c :: r').takeWhile alnum).length := by
        rw [List.takeWhile_cons_of_pos (by simp [alnum, hc])]
        simp
      have h2 := (List.takeWhile_sublist alnum (l := c :: r')).length_le
      split at h
      · simp only [Except.ok.injEq, Prod.mk.injEq] at h
        omega
      · split at h
        · cases h
        · simp only [Except.ok.injEq, Prod.mk.injEq] at h
          omega
    · split at h
      · rename_i hc
        have h1 : 0 < ((c :: r').takeWhile dig).length := by
          rw [List.takeWhile_cons_of_pos hc]
          simp
        have h2 := (List.takeWhile_sublist dig (l := c :: r')).length_le
        split at h
        · cases h
        · simp only [Except.ok.injEq, Prod.mk.injEq] at h
          omega
      · split at h
        · split at h
          · cases h
          · rename_i l k hq
            have := qL_len hq
            simp only [Except.ok.injEq, Prod.mk.injEq] at h
            simp at this ⊢
            omega
        · split at h
          · rename_i p hp
            simp only [Except.ok.injEq, Prod.mk.injEq] at h
            have h1 := List.mem_of_find?_eq_some hp
            have h2 := List.find?_some hp
            have h3 : ∀ p ∈ signsB, 0 < p.length := by decide
            have h4 := h3 p h1
            have h5 := pre_len h2
            omega
          · cases h
def scanL (r : List UInt8) (a l : Nat) (acc : List Tk) : Except (Nat × Int) (List Tk) :=
  let x := skipL r a l
  let r' := r.drop (x.1 - a)
  match h : tokL r' with
  | .error e => if r' = [] then .ok (acc ++ [⟨0, [], 0, x.2, x.1⟩]) else .error (x.1, e)
  | .ok (t, n) => scanL (r'.drop n) (x.1 + n) x.2 (acc ++ [{ t with l := x.2, a := x.1 }])
termination_by r.length
decreasing_by
  have h1 := tokL_len h
  have h2 : r'.length ≤ r.length := by
    show (r.drop _).length ≤ r.length
    rw [List.length_drop]
    omega
  have h3 : r'.length = (r.drop ((skipL r a l).1 - a)).length := rfl
  rw [List.length_drop]
  omega
end Go.Av.Fn
/- The program's tokens. No condition. -/
namespace Go.Av.Fn
set_option linter.unusedSimpArgs false
set_option linter.unusedVariables false
set_option maxRecDepth 10000
open Go.Proofs
def ParseOk (Γ : Glob) : Prop := ∀ (m : Store) (s : List UInt8), s ≠ [] → s.length ≤ 4096 → (∀ c ∈ s, dig c = true) →
  ACalls Tryz.prog Γ 125 [bs s, it 10, it 64] m fun o m' => (match numL 0 s with
    | some n => o = .ret (.tup [it n, .val .nilIface])
    | none => ∃ (v : Int) (T : TypeId) (u : V), o = .ret (.tup [it v, .ifc T u])) ∧ m' = m
def tokP (T : TypeId) (a0 a1 a2 : V) (xb : Nat) (m : Store) (r : Except Int (Tk × Nat)) (o : Out) (m' : Store) : Prop := match r with
  | .ok (t, n) => o = .ret (.tup [tkV t, it n]) ∧ m' = m
  | .error er => (∃ (t : Tk) (n : Int), o = .ret (.tup [tkV t, it n])) ∧ er ≠ 0 ∧ m' = m.set xb (.var T [a0, a1, a2, it er])
theorem neq_ifc {xo yo : Operand} {T : TypeId} {u : V} : binV Tryz.prog .neq 163 .iface xo yo (.ifc T u) (.val .nilIface) = some (.val (.bool true)) := rfl
theorem neq_nil : binV Tryz.prog .neq 163 .iface (.tmp 39) (.const .nilIface) (.val .nilIface) (.val .nilIface) = some (.val (.bool false)) := by kernel_rfl
theorem resV_tk2 {x y : Nat} {b o : Nat} {T : TypeId} {sz : Option Nat} {cs : List V} {u : V} {t : List V} {m : Store} (h1 : tget t x = .ptr b o) (h2 : m b = some (.var T cs)) (h3 : partV cs o sz = some u) :
    resV [.cell x sz, .tmp y] ⟨t, m⟩ = some (.tup [u, tget t y]) := by
  simp only [resV, resAll, resOne, tget_eq, h1, h2, h3, Option.map_some]
theorem token_ok {Γ : Glob} (L : LibOk Γ) (L2 : ParseOk Γ) (h0 : Γ 3 = some (wordsB.map bs)) (h1 : Γ 2 = some (signsB.map bs)) {m : Store} {xb : Nat} {T : TypeId} {a0 a1 a2 : V} (s : List UInt8) (hs : s.length ≤ 4096) (hne : s ≠ []) (hx : m xb = some (.var T [a0, a1, a2, it 0])) :
    ACalls Tryz.prog Γ 218 [.ptr xb 0, bs s] m fun o m' => tokP T a0 a1 a2 xb m (tokL s) o m' := by
  refine acalls_of_awp mixed F218_ok (by
    rintro v m b x _ h
    exfalso
    unfold tokP at h
    split at h
    · cases h.1
    · obtain ⟨⟨_, _, h⟩, _⟩ := h
      cases h) ?_
  obtain ⟨c, r, hsc⟩ : ∃ c r, s = c :: r := by
    cases s with
    | nil => exact absurd rfl hne
    | cons c r => exact ⟨c, r, rfl⟩
  have hc0 : idxStrV (bs s) (.val (.int .i64 0)) = some (.val (.int .u8 c.toNat)) := idx_bs (i := 0) (by rw [hsc]; rfl)
  simp only [F218, start, List.cons_append, List.nil_append, List.length_cons, List.length_nil, List.replicate, Nat.reduceSub, Nat.reduceAdd]
  simp only [ssS, bin_or, bin_and, Nat.reduceAdd, Nat.reduceLeDiff, reduceIte, eq_self, Nat.reduceEqDiff]
  refine allocS_of fun b hb => ?_
  have hxb : xb ≠ b := by
    rintro rfl
    rw [hx] at hb
    cases hb
  have hn : ∀ m' x, (Store.set m' b x) xb = m' xb := fun m' x => Store.set_ne m' x hxb
  have hn2 : ∀ m' x, (Store.set m' xb x) b = m' b := fun m' x => Store.set_ne m' x hxb.symm
  simp only [hc0, ssS, bin_or, bin_and, Nat.reduceAdd, Nat.reduceLeDiff, reduceIte, eq_self, Nat.reduceEqDiff]
  refine callS_pure (letter_ok c) ?_
  simp only [ssS, bin_or, bin_and, Nat.reduceAdd, Nat.reduceLeDiff, reduceIte, eq_self, Nat.reduceEqDiff]
  have good : ∀ {t : List V} {m2 : Store} {k : Tk} {n : Nat}, tget t 4 = .ptr b 0 → m2 b = some (.var 179 [it k.k, bs k.s, it k.n, it k.l, it k.a]) → tget t 5 = it n → (∀ c, c ≠ b → m2 c = m c) → tokL s = .ok (k, n) →
      bodyA [.cell 4 (some 5), .tmp 5] (fun o m' => tokP T a0 a1 a2 xb m (tokL s) o m') .ret ⟨t, m2⟩ := by
    intro t m2 k n h1 h2 h3 h4 h5
    refine bodyA_less (resV_tk2 h1 h2 (u := tkV k) rfl) (drop_set hb h4) ?_
    rw [h5, h3]
    exact ⟨rfl, rfl⟩
  have fail : ∀ {t : List V} {m2 : Store} {k : Tk} {n : Int} {er : Int}, tget t 4 = .ptr b 0 → m2 b = some (.var 179 [it k.k, bs k.s, it k.n, it k.l, it k.a]) → tget t 5 = it n → (∀ c, c ≠ b → m2 c = (m.set xb (.var T [a0, a1, a2, it er])) c) → er ≠ 0 → tokL s = .error er →
      bodyA [.cell 4 (some 5), .tmp 5] (fun o m' => tokP T a0 a1 a2 xb m (tokL s) o m') .ret ⟨t, m2⟩ := by
    intro t m2 k n er h1 h2 h3 h4 he h5
    refine bodyA_less (m' := m.set xb (.var T [a0, a1, a2, it er])) (resV_tk2 h1 h2 (u := tkV k) rfl) (drop_set (by rw [hn2, hb]) h4) ?_
    rw [h5, h3]
    exact ⟨⟨_, _, rfl⟩, he, rfl⟩
  refine condS_split (fun hc => ?_) (fun hc => ?_)
  · -- a name or a word
    have hspec : tokL s = if wordsB.contains (s.takeWhile alnum) then .ok (⟨5, s.takeWhile alnum, 0, 0, 0⟩, (s.takeWhile alnum).length)
        else if (s.takeWhile alnum).length > 20 then .error 5 else .ok (⟨1, s.takeWhile alnum, 0, 0, 0⟩, (s.takeWhile alnum).length) := by
      rw [hsc]
      simp only [tokL, hc, if_true]
    have hcut : sliceSV (bs s) (some none) (some (some ((s.takeWhile alnum).length : Int))) = some (bs (s.takeWhile alnum)) := by
      rw [slice_upto (List.takeWhile_sublist alnum).length_le, takeWhile_take]
    have hL := (List.takeWhile_sublist alnum (l := s)).length_le
    simp only [ssS, bin_or, bin_and, Nat.reduceAdd, Nat.reduceLeDiff, reduceIte, eq_self, Nat.reduceEqDiff]
    refine callS_pure (row_ok (p := alnum) s (by omega) (fun b => alnum_ok b)) ?_
    generalize s.takeWhile alnum = W at hspec hcut hL
    simp only [hcut, ssS, bin_or, bin_and, Nat.reduceAdd, Nat.reduceLeDiff, reduceIte, eq_self, Nat.reduceEqDiff]
    refine callS_to (word_ok L h0 W (by omega) (by rw [hn, hx])) ?_
    simp only [hn2, Store.set_same, wordTok, ssS, bin_or, bin_and, Nat.reduceAdd, Nat.reduceLeDiff, reduceIte, eq_self, Nat.reduceEqDiff]
    by_cases hw : wordsB.contains W = true
    · rw [if_pos hw] at hspec
      refine good (k := ⟨5, W, 0, 0, 0⟩) rfl ?_ rfl ?_ hspec
      · rw [Store.set_same, if_pos hw]
      · intro c hc
        have : wordErr W 0 = 0 := by simp only [wordErr, hw, if_true]
        rw [this]
        rw [Store.set_ne _ _ hc]
        by_cases e : c = xb
        · subst e; rw [Store.set_same, hx]
        · rw [Store.set_ne _ _ e, Store.set_ne _ _ hc]
    · rw [if_neg hw] at hspec
      by_cases h20 : W.length > 20
      · rw [if_pos h20] at hspec
        refine fail (k := ⟨1, W, 0, 0, 0⟩) rfl ?_ rfl ?_ (by decide) hspec
        · rw [Store.set_same, if_neg hw]
        · intro c hc
          have : wordErr W 0 = 5 := by simp only [wordErr, hw, h20, if_true]; rfl
          rw [this]
          rw [Store.set_ne _ _ hc]
          by_cases e : c = xb
          · subst e; rw [Store.set_same, Store.set_same]
          · rw [Store.set_ne _ _ e, Store.set_ne _ _ hc, Store.set_ne _ _ e]
      · rw [if_neg h20] at hspec
        refine good (k := ⟨1, W, 0, 0, 0⟩) rfl ?_ rfl ?_ hspec
        · rw [Store.set_same, if_neg hw]
        · intro c hc
          have : wordErr W 0 = 0 := by simp only [wordErr, hw, h20, if_false]; rfl
          rw [this]
          rw [Store.set_ne _ _ hc]
          by_cases e : c = xb
          · subst e; rw [Store.set_same, hx]
          · rw [Store.set_ne _ _ e, Store.set_ne _ _ hc]
  · simp only [ssS, bin_or, bin_and, Nat.reduceAdd, Nat.reduceLeDiff, reduceIte, eq_self, Nat.reduceEqDiff]
    refine callS_pure (digit_ok c) ?_
    simp only [ssS, bin_or, bin_and, Nat.reduceAdd, Nat.reduceLeDiff, reduceIte, eq_self, Nat.reduceEqDiff]
    refine condS_split (fun hc2 => ?_) (fun hc2 => ?_)
    · -- a number
      have hspec : tokL s = match numL 0 (s.takeWhile dig) with
          | none => .error 5
          | some n => .ok (⟨2, [], n, 0, 0⟩, (s.takeWhile dig).length) := by
        rw [hsc]
        simp only [tokL, hc, hc2, if_true, Bool.false_eq_true, if_false]
        all_goals rfl
      have hcut : sliceSV (bs s) (some none) (some (some ((s.takeWhile dig).length : Int))) = some (bs (s.takeWhile dig)) := by
        rw [slice_upto (List.takeWhile_sublist dig).length_le, takeWhile_take]
      have hL := (List.takeWhile_sublist dig (l := s)).length_le
      have hall : ∀ x ∈ s.takeWhile dig, dig x = true := tw_all _
      have hWne : s.takeWhile dig ≠ [] := by
        rw [hsc, List.takeWhile_cons_of_pos hc2]
        simp
      simp only [ssS, bin_or, bin_and, Nat.reduceAdd, Nat.reduceLeDiff, reduceIte, eq_self, Nat.reduceEqDiff]
      refine callS_pure (row_ok (p := dig) s (by omega) (fun b => digit_ok b)) ?_
      generalize s.takeWhile dig = W at hspec hcut hL hall hWne
      simp only [hcut, ssS, bin_or, bin_and, Nat.reduceAdd, Nat.reduceLeDiff, reduceIte, eq_self, Nat.reduceEqDiff]
      refine callS_of (L2 _ W hWne (by omega) hall) ?_ (by
        rintro v m' ⟨h, _⟩
        exfalso
        split at h
        · cases h
        · obtain ⟨_, _, _, h⟩ := h
          cases h)
      rintro v m' ⟨hv, rfl⟩
      cases hnum : numL 0 W with
      | none =>
        rw [hnum] at hv hspec
        simp only at hv hspec
        obtain ⟨v, T', u, hv⟩ := hv
        cases hv
        simp only [neq_ifc, hn, hx, hn2, Store.set_same, ssS, bin_or, bin_and, Nat.reduceAdd, Nat.reduceLeDiff, reduceIte, eq_self, Nat.reduceEqDiff]
        refine fail (k := ⟨2, [], v, 0, 0⟩) rfl (Store.set_same _ _ _) rfl (fun c hc => ?_) (by decide) hspec
        rw [Store.set_ne _ _ hc]
        by_cases e : c = xb
        · subst e; rw [Store.set_same, Store.set_same]
        · rw [Store.set_ne _ _ e, Store.set_ne _ _ hc, Store.set_ne _ _ e]
      | some k =>
        rw [hnum] at hv hspec
        simp only at hv hspec
        cases hv
        simp only [neq_nil, hn, hx, hn2, Store.set_same, ssS, bin_or, bin_and, Nat.reduceAdd, Nat.reduceLeDiff, reduceIte, eq_self, Nat.reduceEqDiff]
        refine good (k := ⟨2, [], k, 0, 0⟩) rfl (Store.set_same _ _ _) rfl (fun c hc => ?_) hspec
        rw [Store.set_ne _ _ hc, Store.set_ne _ _ hc]
    · simp only [ssS, bin_or, bin_and, Nat.reduceAdd, Nat.reduceLeDiff, reduceIte, eq_self, Nat.reduceEqDiff]
      refine condS_split (fun hc3 => ?_) (fun hc3 => ?_)
      · have e3 : c.toNat = 34 := by have := eq_of_beq hc3; omega
        have hspec : tokL s = match qL (s.drop 1) [] 0 with
            | .error e => .error e
            | .ok (l, k) => .ok (⟨3, l, 0, 0, 0⟩, k + 2) := by
          rw [hsc]
          simp only [tokL, hc, hc2, e3, if_true, Bool.false_eq_true, if_false, List.drop_succ_cons, List.drop_zero]
          all_goals rfl
        have hcut : sliceSV (bs s) (some (some 1)) (some none) = some (bs (s.drop 1)) := slice_from (a := 1) (by rw [hsc]; simp)
        simp only [hcut, ssS, bin_or, bin_and, Nat.reduceAdd, Nat.reduceLeDiff, reduceIte, eq_self, Nat.reduceEqDiff]
        refine callS_of (quoted_ok L (s.drop 1) (by simp; omega) (by rw [hn, hx])) ?_ (by
          rintro v m' h
          exfalso
          unfold quotOut at h
          split at h
          · cases h.1
          · cases h.1)
        rintro v m' hv
        cases hq : qL (s.drop 1) [] 0 with
        | error e =>
          rw [hq] at hv hspec
          simp only at hspec
          obtain ⟨hv, rfl⟩ := hv
          cases hv
          simp only [hn, hn2, Store.set_same, ssS, bin_or, bin_and, Nat.reduceAdd, Nat.reduceLeDiff, reduceIte, eq_self, Nat.reduceEqDiff]
          refine fail (k := ⟨3, [], 0, 0, 0⟩) rfl (Store.set_same _ _ _) rfl (fun c hc => ?_) (qL_err hq) hspec
          rw [Store.set_ne _ _ hc]
          by_cases e : c = xb
          · subst e; rw [Store.set_same, Store.set_same]
          · rw [Store.set_ne _ _ e, Store.set_ne _ _ hc, Store.set_ne _ _ e]
        | ok x =>
          obtain ⟨l, k⟩ := x
          rw [hq] at hv hspec
          simp only at hspec
          obtain ⟨hv, rfl⟩ := hv
          cases hv
          simp only [hn, hn2, Store.set_same, ssS, bin_or, bin_and, Nat.reduceAdd, Nat.reduceLeDiff, reduceIte, eq_self, Nat.reduceEqDiff]
          refine good (k := ⟨3, l, 0, 0, 0⟩) rfl (Store.set_same _ _ _) rfl (fun c hc => ?_) hspec
          rw [Store.set_ne _ _ hc, Store.set_ne _ _ hc]
      · have e3 : ¬ c.toNat = 34 := by
          intro e
          rw [e] at hc3
          cases hc3
        have hspec : tokL s = match signsB.find? fun p => p.isPrefixOf s with
            | some p => .ok (⟨4, p, 0, 0, 0⟩, p.length)
            | none => .error 6 := by
          rw [hsc]
          simp only [tokL, hc, hc2, e3, Bool.false_eq_true, if_false]
          all_goals rfl
        simp only [ssS, bin_or, bin_and, Nat.reduceAdd, Nat.reduceLeDiff, reduceIte, eq_self, Nat.reduceEqDiff]
        refine callS_pure (sign_ok h1 s) ?_
        have hsg : signOf s = (signsB.find? fun p => p.isPrefixOf s).getD [] := rfl
        cases hf : signsB.find? (fun p => p.isPrefixOf s) with
        | none =>
          rw [hf] at hspec hsg
          simp only [Option.getD_none] at hsg
          rw [hsg]
          have hnn : (([] : List UInt8) == []) = true := rfl
          simp only at hspec
          simp only [hnn, hn, hx, hn2, Store.set_same, ssS, bin_or, bin_and, Nat.reduceAdd, Nat.reduceLeDiff, reduceIte, eq_self, Nat.reduceEqDiff]
          refine fail (k := ⟨4, [], 0, 0, 0⟩) rfl (Store.set_same _ _ _) rfl (fun c hc => ?_) (by decide) hspec
          rw [Store.set_ne _ _ hc]
          by_cases e : c = xb
          · subst e; rw [Store.set_same, Store.set_same]
          · rw [Store.set_ne _ _ e, Store.set_ne _ _ hc, Store.set_ne _ _ e]
        | some p =>
          rw [hf] at hspec hsg
          simp only [Option.getD_some] at hsg
          have hpne : p ≠ [] := by
            have : ∀ q ∈ signsB, q ≠ [] := by decide
            exact this p (List.mem_of_find?_eq_some hf)
          rw [hsg]
          have hnn : (p == []) = false := by
            cases p with
            | nil => exact absurd rfl hpne
            | cons _ _ => rfl
          simp only at hspec
          simp only [hnn, hn, hx, hn2, Store.set_same, ssS, bin_or, bin_and, Nat.reduceAdd, Nat.reduceLeDiff, reduceIte, eq_self, Nat.reduceEqDiff]
          refine good (k := ⟨4, p, 0, 0, 0⟩) rfl (Store.set_same _ _ _) rfl (fun c hc => ?_) hspec
          rw [Store.set_ne _ _ hc, Store.set_ne _ _ hc]
end Go.Av.Fn
/- A text's tokens do not change by going behind a blank. No condition. -/
namespace Go.Av.Fn
set_option linter.unusedSimpArgs false
set_option linter.unusedVariables false
theorem skipL_ge {r : List UInt8} {a l : Nat} : a ≤ (skipL r a l).1 := by
  fun_induction skipL r a l <;> omega
def scanN (r : List UInt8) (x : Nat × Nat) (acc : List Tk) : Except (Nat × Int) (List Tk) := match tokL r with
  | .error e => if r = [] then .ok (acc ++ [⟨0, [], 0, x.2, x.1⟩]) else .error (x.1, e)
  | .ok (t, n) => scanL (r.drop n) (x.1 + n) x.2 (acc ++ [{ t with l := x.2, a := x.1 }])
theorem scanL_eq (r : List UInt8) (a l : Nat) (acc : List Tk) : scanL r a l acc = scanN (r.drop ((skipL r a l).1 - a)) (skipL r a l) acc := by
  rw [scanL]
  unfold scanN
  split
  · rename_i e h
    simp only [h]
  · rename_i t n h
    simp only [h]
end Go.Av.Fn
/- The program's row of tokens, handed to whoever ranges over it. No condition. -/
namespace Go.Av.Fn
set_option linter.unusedSimpArgs false
set_option linter.unusedVariables false
set_option maxRecDepth 10000
open Go.Proofs
theorem ayields_sub {P : Program} {Γ : Glob} {l : Nat} {args : List V} {mC S : Store} {R : Out → Store → Prop} (h : AYields P Γ l args mC R) (hs : ∀ b x, mC b = some x → S b = some x) :
    AYields P Γ l args S fun o S' => ∃ m', R o m' ∧ (∀ b x, m' b = some x → S' b = some x) ∧ (∀ b x, S b = some x → mC b = none → S' b = some x ∧ m' b = none) := by
  obtain ⟨F, hF⟩ : ∃ F : Store, (fun b => match mC b with | some _ => none | none => S b) = F := ⟨_, rfl⟩
  have e1 : mC.or F = S := by
    funext b
    rw [← hF]
    simp only [Store.or]
    cases hb : mC b with
    | some x => exact (hs b x hb).symm
    | none => rfl
  have e2 : Disj mC F := by
    intro b
    rw [← hF]
    cases hb : mC b with
    | some x => exact .inr (by simp only [hb])
    | none => exact .inl rfl
  have := h.frame e2
  rw [e1] at this
  refine this.mono ?_
  rintro o m'' ⟨m', rfl, hD, hR⟩
  refine ⟨m', hR, fun b x hb => or_left hb, fun b x hb hn => ?_⟩
  have hFb : F b = some x := by rw [← hF]; simp only [hn]; exact hb
  have hm : m' b = none := by
    rcases hD b with k | k
    · exact k
    · rw [hFb] at k; cases k
  exact ⟨by simp only [Store.or, hm, hFb], hm⟩
theorem skipL_le {r : List UInt8} {a l : Nat} : (skipL r a l).1 ≤ a + r.length ∧ (skipL r a l).2 + a ≤ l + (skipL r a l).1 := by
  fun_induction skipL r a l with
  | case1 r a l h ih =>
    have := pre_len h
    simp at this ih ⊢
    omega
  | case2 r a l h h2 ih =>
    have : 1 ≤ r.length := by
      rw [Bool.or_eq_true] at h2
      rcases h2 with h2 | h2
      · simpa using pre_len h2
      · simpa using pre_len h2
    simp at ih ⊢
    omega
  | case3 r a l h h2 h3 ih =>
    have := (List.takeWhile_sublist notNl (l := r)).length_le
    simp at ih ⊢
    omega
  | case4 r a l h h2 h3 => omega
theorem tokens_ok {Γ : Glob} {m : Store} {xb : Nat} : ACalls Tryz.prog Γ 196 [.ptr xb 0] m fun o m' => ∃ pb, m pb = none ∧ o = .ret (.fn (.func 216) [] [.ptr pb 0]) ∧ m' = m.set pb (.var 243 [.ptr xb 0]) := by
  refine acalls_of_awp mixed F196_ok (by rintro v m b x _ ⟨_, _, ⟨⟩, _⟩) ?_
  simp only [F196, start, List.cons_append, List.nil_append, List.length_cons, List.length_nil, List.replicate, Nat.reduceSub, Nat.reduceAdd]
  simp only [ssS, bin_or, bin_and, Nat.reduceAdd, Nat.reduceLeDiff, reduceIte, eq_self, Nat.reduceEqDiff]
  refine allocS_of fun b hb => ?_
  simp only [ssS, bin_or, bin_and, Nat.reduceAdd, Nat.reduceLeDiff, reduceIte, eq_self, Nat.reduceEqDiff]
  exact bodyA_ret resV_one ⟨b, hb, rfl, rfl⟩
def resOut (acc : List Tk) (a : Nat) (e : Int) : Except (Nat × Int) (List Tk) → Prop
  | .ok l => acc = l ∧ e = 0
  | .error (a', e') => a' = a ∧ e' = e ∧ e ≠ 0
def rowOut (J : List Tk → Store → Prop) (xb pb : Nat) (s : List UInt8) (o : Out) (m' : Store) : Prop :=
  o = .ret (.tup []) ∧ ∃ (acc : List Tk) (mC : Store) (a l : Nat) (e : Int), J acc mC ∧ mC xb = none ∧ mC pb = none ∧ m' = (mC.set pb (.var 243 [.ptr xb 0])).set xb (.var 245 [bs s, it a, it l, it e]) ∧
    resOut acc a e (scanL s 0 1 [])
theorem tokens1_ok {Γ : Glob} (L : LibOk Γ) (L2 : ParseOk Γ) (h0 : Γ 3 = some (wordsB.map bs)) (h1 : Γ 2 = some (signsB.map bs)) {y : Nat} {J : List Tk → Store → Prop} {xb pb : Nat} (hxp : xb ≠ pb) (s : List UInt8) (hs : s.length ≤ 4096)
    (hy : ∀ acc t mC, acc.length ≤ 4096 → J acc mC → AYields Tryz.prog Γ y [tkV t] mC fun o m' => o = .ret (.val (.bool true)) ∧ J (acc ++ [t]) m') {mC : Store} (hJ : J [] mC) (hx : mC xb = none) (hp : mC pb = none) :
    ACalls Tryz.prog Γ 216 [.fn (.yield y) [] [], .ptr pb 0] ((mC.set pb (.var 243 [.ptr xb 0])).set xb (.var 245 [bs s, it 0, it 1, it 0])) fun o m' => rowOut J xb pb s o m' := by
  refine acalls_of_awp mixed F216_ok (by
    rintro v m b x _ ⟨h, _⟩
    cases h) ?_
  simp only [F216, start, List.cons_append, List.nil_append, List.length_cons, List.length_nil, List.replicate, Nat.reduceSub, Nat.reduceAdd]
  simp only [ssS, bin_or, bin_and, Nat.reduceAdd, Nat.reduceLeDiff, reduceIte, eq_self, Nat.reduceEqDiff]
  generalize hres : scanL s 0 1 [] = res
  -- the ends
  have fin : ∀ {t : List V} {S mC : Store} {acc : List Tk} {a l : Nat} {e : Int}, J acc mC → mC xb = none → mC pb = none → (∀ b x, mC b = some x → S b = some x) → S xb = some (.var 245 [bs s, it a, it l, it e]) → S pb = some (.var 243 [.ptr xb 0]) →
      resOut acc a e res → bodyA [] (fun o m' => rowOut J xb pb s o m') .ret ⟨t, S⟩ := by
    intro t S mC acc a l e k1 k2 k3 k4 k5 k6 k7
    refine bodyA_less (v := .tup []) (m' := (mC.set pb (.var 243 [.ptr xb 0])).set xb (.var 245 [bs s, it a, it l, it e])) rfl (fun c x hc => ?_) ⟨rfl, acc, mC, a, l, e, k1, k2, k3, rfl, by rw [hres]; exact k7⟩
    by_cases e1 : c = xb
    · subst e1; rw [Store.set_same] at hc; rw [k5]; exact hc
    · rw [Store.set_ne _ _ e1] at hc
      by_cases e2 : c = pb
      · subst e2; rw [Store.set_same] at hc; rw [k6]; exact hc
      · rw [Store.set_ne _ _ e2] at hc; exact k4 c x hc
  refine awp_loop (fun n st => ∃ (a l : Nat) (acc : List Tk) (mC : Store), n = s.length - a ∧ a ≤ s.length ∧ l ≤ a + 1 ∧ acc.length ≤ a ∧ scanL (s.drop a) a l acc = res ∧ J acc mC ∧ mC xb = none ∧ mC pb = none ∧ (∀ b x, mC b = some x → st.m b = some x) ∧ st.m xb = some (.var 245 [bs s, it a, it l, it 0]) ∧ st.m pb = some (.var 243 [.ptr xb 0]) ∧ st.t.length = 71 ∧ tget st.t 0 = .fn (.yield y) [] [] ∧ tget st.t 1 = .ptr pb 0)
    s.length ⟨0, 1, [], mC, rfl, by omega, by omega, by simp, hres, hJ, hx, hp, ?_, Store.set_same _ _ _, ?_, rfl, rfl, rfl⟩ ?_
  · intro b x hb
    have n1 : b ≠ xb := by rintro rfl; rw [hx] at hb; cases hb
    have n2 : b ≠ pb := by rintro rfl; rw [hp] at hb; cases hb
    show ((mC.set pb (.var 243 [.ptr xb 0])).set xb (.var 245 [bs s, it 0, it 1, it 0])) b = some x
    rw [Store.set_ne _ _ n1, Store.set_ne _ _ n2]
    exact hb
  · show ((mC.set pb (.var 243 [.ptr xb 0])).set xb (.var 245 [bs s, it 0, it 1, it 0])) pb = _
    rw [Store.set_ne _ _ (fun e => hxp e.symm), Store.set_same]
  clear hJ hx hp mC
  rintro n ⟨t, S⟩ ⟨a, l, acc, mC, hn, ha, hl, hacc, hres2, hJ, hx, hp, hsub, hX, hP, hlen, ht0, ht1⟩
  simp only at hsub hX hP hlen ht0 ht1
  rw [t_eq hlen]
  simp only [upTo_succ, upTo_zero, Nat.reduceAdd, ht0, ht1]
  simp only [hP, ssS, bin_or, bin_and, Nat.reduceAdd, Nat.reduceLeDiff, reduceIte, eq_self, Nat.reduceEqDiff]
  refine callS_to (skip_ok s a l ha (by omega) hX) ?_
  obtain ⟨q1, q2⟩ := skipL_le (r := s.drop a) (a := a) (l := l)
  have q3 := skipL_ge (r := s.drop a) (a := a) (l := l)
  rw [List.length_drop] at q1
  have hN : scanN (s.drop (skipL (s.drop a) a l).1) (skipL (s.drop a) a l) acc = res := by
    rw [← hres2, scanL_eq, List.drop_drop]
    congr 2
    omega
  generalize hsk : skipL (s.drop a) a l = sk at q1 q2 q3 hN
  obtain ⟨a1, l1⟩ := sk
  simp only at q1 q2 q3 hN
  obtain ⟨S1, hS1⟩ : ∃ S1, S.set xb (.var 245 [bs s, it a1, it l1, it 0]) = S1 := ⟨_, rfl⟩
  have hX1 : S1 xb = some (.var 245 [bs s, it a1, it l1, it 0]) := by rw [← hS1]; exact Store.set_same _ _ _
  have hP1 : S1 pb = some (.var 243 [.ptr xb 0]) := by rw [← hS1, Store.set_ne _ _ (fun e => hxp e.symm)]; exact hP
  have hsub1 : ∀ b x, mC b = some x → S1 b = some x := by
    intro b x hb
    rw [← hS1, Store.set_ne _ _ (by rintro rfl; rw [hx] at hb; cases hb)]
    exact hsub b x hb
  rw [hS1]
  simp only [hX1, hP1, lenV_bs, ssS, bin_or, bin_and, Nat.reduceAdd, Nat.reduceLeDiff, reduceIte, eq_self, Nat.reduceEqDiff]
  refine condS_split (fun h => ?_) (fun h => ?_)
  · -- the end
    have he : a1 = s.length := by have := eq_of_beq h; omega
    simp only [hX1, hP1, ssS, bin_or, bin_and, Nat.reduceAdd, Nat.reduceLeDiff, reduceIte, eq_self, Nat.reduceEqDiff]
    refine callS_yield (ayields_sub (hy acc ⟨0, [], 0, l1, a1⟩ mC (by omega) hJ) hsub1) ?_ (by rintro v m' ⟨_, ⟨⟨⟩, _⟩, _⟩)
    rintro v S2 ⟨mC2, ⟨hv, hJ2⟩, hsub2, hkeep⟩
    cases hv
    simp only [ssS, bin_or, bin_and, Nat.reduceAdd, Nat.reduceLeDiff, reduceIte, eq_self, Nat.reduceEqDiff]
    refine fin hJ2 (hkeep _ _ hX1 hx).2 (hkeep _ _ hP1 hp).2 hsub2 (hkeep _ _ hX1 hx).1 (hkeep _ _ hP1 hp).1 ?_
    rw [← hN, he, List.drop_length]
    exact ⟨rfl, rfl⟩
  · have hlt : a1 < s.length := by
      have : ¬ a1 = s.length := by
        intro e
        rw [e] at h
        simp at h
      omega
    have hcut : sliceSV (bs s) (some (some (a1 : Int))) (some none) = some (bs (s.drop a1)) := slice_from (by omega)
    have hdne : s.drop a1 ≠ [] := by
      intro e
      have := congrArg List.length e
      simp at this
      omega
    simp only [hX1, hP1, hcut, ssS, bin_or, bin_and, Nat.reduceAdd, Nat.reduceLeDiff, reduceIte, eq_self, Nat.reduceEqDiff]
    refine callS_of (token_ok L L2 h0 h1 (s.drop a1) (by simp; omega) hdne hX1) ?_ (by
      rintro v m' h
      exfalso
      unfold tokP at h
      split at h
      · cases h.1
      · obtain ⟨⟨_, _, h⟩, _⟩ := h
        cases h)
    intro v S2 hv
    unfold scanN at hN
    cases htok : tokL (s.drop a1) with
    | error er =>
      rw [htok] at hv hN
      simp only [if_neg hdne] at hN
      obtain ⟨⟨tk, k, hv⟩, hne0, rfl⟩ := hv
      cases hv
      obtain ⟨S2, hS2⟩ : ∃ S2, S1.set xb (.var 245 [bs s, it a1, it l1, it er]) = S2 := ⟨_, rfl⟩
      have hX2 : S2 xb = some (.var 245 [bs s, it a1, it l1, it er]) := by rw [← hS2]; exact Store.set_same _ _ _
      have hP2 : S2 pb = some (.var 243 [.ptr xb 0]) := by rw [← hS2, Store.set_ne _ _ (fun e => hxp e.symm)]; exact hP1
      have hsub2 : ∀ b x, mC b = some x → S2 b = some x := by
        intro b x hb
        rw [← hS2, Store.set_ne _ _ (by rintro rfl; rw [hx] at hb; cases hb)]
        exact hsub1 b x hb
      rw [hS2]
      simp only [tkV, ssS, bin_or, bin_and, Nat.reduceAdd, Nat.reduceLeDiff, reduceIte, eq_self, Nat.reduceEqDiff]
      refine allocS_of fun b hb => ?_
      have n1 : xb ≠ b := by rintro rfl; rw [hX2] at hb; cases hb
      have n2 : pb ≠ b := by rintro rfl; rw [hP2] at hb; cases hb
      have hbx : ∀ m' x, (Store.set m' b x) xb = m' xb := fun m' x => Store.set_ne m' x n1
      have hbp : ∀ m' x, (Store.set m' b x) pb = m' pb := fun m' x => Store.set_ne m' x n2
      have hne1 : ((er : Int) != 0) = true := by simpa using hne0
      simp only [Store.set_same, Store.set_set, hbx, hbp, hX2, hP2, hne1, ssS, bin_or, bin_and, Nat.reduceAdd, Nat.reduceLeDiff, reduceIte, eq_self, Nat.reduceEqDiff]
      refine fin hJ hx hp (fun c x hc => ?_) (by rw [hbx]; exact hX2) (by rw [hbp]; exact hP2) (by rw [← hN]; exact ⟨rfl, rfl, hne0⟩)
      rw [Store.set_ne _ _ (by rintro rfl; rw [hsub2 _ _ hc] at hb; cases hb)]
      exact hsub2 c x hc
    | ok x =>
      obtain ⟨tk, k⟩ := x
      rw [htok] at hv hN
      simp only at hN
      obtain ⟨hv, rfl⟩ := hv
      cases hv
      simp only [tkV, ssS, bin_or, bin_and, Nat.reduceAdd, Nat.reduceLeDiff, reduceIte, eq_self, Nat.reduceEqDiff]
      refine allocS_of fun b hb => ?_
      have n1 : xb ≠ b := by rintro rfl; rw [hX1] at hb; cases hb
      have n2 : pb ≠ b := by rintro rfl; rw [hP1] at hb; cases hb
      have hbx : ∀ m' x, (Store.set m' b x) xb = m' xb := fun m' x => Store.set_ne m' x n1
      have hbp : ∀ m' x, (Store.set m' b x) pb = m' pb := fun m' x => Store.set_ne m' x n2
      have hne1 : ((0 : Int) != 0) = false := rfl
      simp only [Store.set_same, Store.set_set, hbx, hbp, hX1, hP1, hne1, ssS, bin_or, bin_and, Nat.reduceAdd, Nat.reduceLeDiff, reduceIte, eq_self, Nat.reduceEqDiff]
      have htl := tokL_len htok
      rw [List.length_drop] at htl
      have hsub2 : ∀ c x, mC c = some x → (S2.set b (.var 179 [it tk.k, bs tk.s, it tk.n, it l1, it a1])) c = some x := by
        intro c x hc
        rw [Store.set_ne _ _ (by rintro rfl; rw [hsub1 _ _ hc] at hb; cases hb)]
        exact hsub1 c x hc
      refine callS_yield (ayields_sub (hy acc { tk with l := l1, a := a1 } mC (by omega) hJ) hsub2) ?_ (by rintro v m' ⟨_, ⟨⟨⟩, _⟩, _⟩)
      rintro v S3 ⟨mC3, ⟨hv, hJ3⟩, hsub3, hkeep⟩
      cases hv
      obtain ⟨hX3, hx3⟩ := hkeep xb _ (by rw [hbx]; exact hX1) hx
      obtain ⟨hP3, hp3⟩ := hkeep pb _ (by rw [hbp]; exact hP1) hp
      have hw : IntKind.i64.wrap ((a1 : Int) + (k : Int)) = ((a1 + k : Nat) : Int) := by
        rw [wrap_i64 (by omega) (by omega)]
        rfl
      simp only [hX3, hP3, hw, Bool.not_true, ssS, bin_or, bin_and, Nat.reduceAdd, Nat.reduceLeDiff, reduceIte, eq_self, Nat.reduceEqDiff]
      rw [List.drop_drop] at hN
      refine ⟨s.length - (a1 + k), by omega, a1 + k, l1, _, mC3, rfl, by omega, by omega, by simp; omega, hN, hJ3, hx3, hp3, fun c x hc => ?_, Store.set_same _ _ _, ?_⟩
      · rw [Store.set_ne _ _ (by rintro rfl; rw [hx3] at hc; cases hc)]
        exact hsub3 c x hc
      · rw [Store.set_ne _ _ (fun e => hxp e.symm)]
        exact hP3
end Go.Av.Fn
/- The reference's tokens of a text. No condition. -/
namespace Go.Av.Fn
set_option linter.unusedSimpArgs false
set_option linter.unusedVariables false
set_option maxRecDepth 10000
open Go.Proofs
def scanR (s : List UInt8) : Except (Nat × Int) (List Tk) := if s.length > 4096 then .error (0, 5) else scanL s 0 1 []
def ScanOut (r : Except (Nat × Int) (List Tk)) (o : Out) : Prop := match r with
  | .ok l => ∃ tok, o = .ret (.tup [.sl (l.map tkV) [] tok, it 0, it 0])
  | .error (a, e) => o = .ret (.tup [.sl [] [] .full, it a, it e])
theorem cells_tk (t : Tk) : (tkV t).cells = [it t.k, bs t.s, it t.n, it t.l, it t.a] := rfl
def litV5 (z : List V) (v : V) : Option V := (litsV 5 [.agg z] [(0, v)]).map fun es => .sl es [] .full
theorem lit5 {P : Program} {Γ : Glob} {t : List V} {m : Store} {z : List V} {x : Operand} : evalL P (ev Γ t) m (.lits 5 z 1 [(0, x)]) = litV5 z (ev Γ t x) := rfl
theorem litV5_agg {z : List V} {a b c d e : V} : litV5 z (.agg [a, b, c, d, e]) = some (.sl [.agg [a, b, c, d, e]] [] .full) := rfl
end Go.Av.Fn
/- The program's tokens of a text. No condition. -/
namespace Go.Av
section
variable {P : Program} {Γ : Glob} {Kp : V → Store → Prop}
theorem awp_range {f : Operand} {ps : List Tmp} {x y : ACode} {Q : Ex → St → Prop} {t : List V} {m : Store} {g : FuncId} {first caps : List V} (hf : ev Γ t f = .fn (.func g) first caps)
    (h : ∀ H cx cy, comp P H cx = some x → comp P H cy = some y → ∀ fn l D, m l = none → ACalls P Γ g (first ++ [.fn (.yield l) [] []] ++ caps) (m.set l (.loop true fn t ps.toArray cx cy D)) fun o m' => (∃ v, o = .ret v) ∧ ∃ m₁, m' = m₁.set l (.loop true fn t ps.toArray cx cy D) ∧ m₁ l = none ∧ Q .normal ⟨t, m₁⟩) :
    awp P Γ Kp (.range f ps x y) Q ⟨t, m⟩ := by
  simp only [awp, hf]
  intro H cx cy h1 h2 fn l D hl
  refine (h H cx cy h1 h2 fn l D hl).mono fun o m' k => ?_
  obtain ⟨⟨v, rfl⟩, k⟩ := k
  exact k
theorem st_gen {Φ : List V → Prop} {t : List V} (h : ∀ T0, T0 = t → Φ T0) : Φ t := h t rfl
theorem tget_set_ne {t : List V} {i j : Nat} {v : V} (h : i ≠ j) : tget (t.set i v) j = tget t j := by
  rw [← tget_eq, ← tget_eq, List.getD_eq_getElem?_getD, List.getD_eq_getElem?_getD, List.getElem?_set, if_neg h]
theorem tget_set_same {t : List V} {i : Nat} {v : V} (h : i < t.length) : tget (t.set i v) i = v := by
  rw [← tget_eq, List.getD_eq_getElem?_getD, List.getElem?_set]
  simp [h]
theorem Buf.del {e : TypeId} {size : Nat} {N m2 : Store} {v : V} {es : List V} {b : Nat} {x : Blk} (h : Buf e size (N.set b x) m2 v es) (hn : N b = none) :
    m2 b = some x ∧ ∃ M, Buf e size N M v es ∧ M b = none ∧ ∀ y, m2.set b y = M.set b y := by
  obtain ⟨h1, h2⟩ := h
  rcases h2 with ⟨h2, h3, rfl⟩ | ⟨h2, t, k, ht, rfl, h3⟩
  · exact ⟨Store.set_same _ _ _, N, ⟨h1, .inl ⟨h2, h3, rfl⟩⟩, hn, fun y => Store.set_set _ _ _ _⟩
  · have hne : t ≠ b := by rintro rfl; rw [Store.set_same] at ht; cases ht
    rw [Store.set_ne _ _ hne] at ht
    refine ⟨by rw [Store.set_ne _ _ hne.symm, Store.set_same], N.set t (.tip e k), ⟨h1, .inr ⟨h2, t, k, ht, rfl, h3⟩⟩, by rw [Store.set_ne _ _ hne.symm]; exact hn, fun y => ?_⟩
    funext c
    simp only [Store.set]
    by_cases e : c = b
    · simp [e]
    · simp [e]
end
end Go.Av
namespace Go.Av.Fn
set_option linter.unusedSimpArgs false
set_option linter.unusedVariables false
set_option maxRecDepth 10000
open Go.Proofs
def outSt (m : Store) (ob : Nat) (acc : List Tk) (m0 : Store) : Prop := ∃ N M v, (∀ b x, m b = some x → N b = some x) ∧ N ob = none ∧ Buf 179 5 N M v (acc.map tkV) ∧ M ob = none ∧ m0 = M.set ob (.var 194 [v])
theorem scan_ok {Γ : Glob} (L : LibOk Γ) (L2 : ParseOk Γ) (h0 : Γ 3 = some (wordsB.map bs)) (h1 : Γ 2 = some (signsB.map bs)) {m : Store} (s : List UInt8) : ACalls Tryz.prog Γ 169 [bs s] m fun o m' => ScanOut (scanR s) o ∧ m' = m := by
  refine acalls_of_awp mixed F169_ok (by
    rintro v m b x _ ⟨h, _⟩
    exfalso
    unfold ScanOut at h
    split at h
    · obtain ⟨_, h⟩ := h
      cases h
    · cases h) ?_
  simp only [F169, start, List.cons_append, List.nil_append, List.length_cons, List.length_nil, List.replicate, Nat.reduceSub, Nat.reduceAdd]
  simp only [ssS, bin_or, bin_and, Nat.reduceAdd, Nat.reduceLeDiff, reduceIte, eq_self, Nat.reduceEqDiff]
  refine condS_split (fun h => ?_) (fun h => ?_)
  · have hl : s.length > 4096 := by have := of_decide_eq_true h; omega
    simp only [ssS, bin_or, bin_and, Nat.reduceAdd, Nat.reduceLeDiff, reduceIte, eq_self, Nat.reduceEqDiff]
    refine bodyA_ret resV_three ⟨?_, rfl⟩
    unfold scanR
    rw [if_pos hl]
    rfl
  · have hl : ¬ s.length > 4096 := by have := of_decide_eq_false h; omega
    have hres0 : scanR s = scanL s 0 1 [] := by unfold scanR; rw [if_neg hl]
    rw [hres0]
    simp only [ssS, bin_or, bin_and, Nat.reduceAdd, Nat.reduceLeDiff, reduceIte, eq_self, Nat.reduceEqDiff]
    refine allocS_of fun xb hxb => ?_
    simp only [ssS, bin_or, bin_and, Nat.reduceAdd, Nat.reduceLeDiff, reduceIte, eq_self, Nat.reduceEqDiff]
    refine allocS_of fun ob hob => ?_
    have hxo : xb ≠ ob := by rintro rfl; rw [Store.set_same] at hob; cases hob
    have hob' : m ob = none := by rwa [Store.set_ne _ _ hxo.symm] at hob
    simp only [ssS, bin_or, bin_and, Nat.reduceAdd, Nat.reduceLeDiff, reduceIte, eq_self, Nat.reduceEqDiff]
    refine callS_of tokens_ok ?_ (by rintro v m' ⟨_, _, ⟨⟩, _⟩)
    rintro v m' ⟨pb, hpb, hv, rfl⟩
    cases hv
    have hpo : pb ≠ ob := by rintro rfl; rw [Store.set_same] at hpb; cases hpb
    rw [Store.set_ne _ _ hpo] at hpb
    have hpx : pb ≠ xb := by rintro rfl; rw [Store.set_same] at hpb; cases hpb
    have hpb' : m pb = none := by rwa [Store.set_ne _ _ hpx] at hpb
    simp only [ssS, bin_or, bin_and, Nat.reduceAdd, Nat.reduceLeDiff, reduceIte, eq_self, Nat.reduceEqDiff]
    refine st_gen (Φ := fun t => awp _ _ _ _ _ ⟨t, _⟩) fun T0 hT0 => ?_
    have hlen : T0.length = 35 := by rw [hT0]; rfl
    have t5 : tget T0 5 = .ptr xb 0 := by rw [hT0]; rfl
    have t6 : tget T0 6 = .ptr ob 0 := by rw [hT0]; rfl
    have t15 : tget T0 15 = .fn (.func 216) [] [.ptr pb 0] := by rw [hT0]; rfl
    clear hT0
    refine awp_range (g := 216) (first := []) (caps := [.ptr pb 0]) (by simp only [ev_tmp]; exact t15) ?_
    intro H cx cy hcx hcy fn l D hl0
    have hlp : l ≠ pb := by rintro rfl; rw [Store.set_same] at hl0; cases hl0
    rw [Store.set_ne _ _ hlp] at hl0
    have hlo : l ≠ ob := by rintro rfl; rw [Store.set_same] at hl0; cases hl0
    rw [Store.set_ne _ _ hlo] at hl0
    have hlx : l ≠ xb := by rintro rfl; rw [Store.set_same] at hl0; cases hl0
    rw [Store.set_ne _ _ hlx] at hl0
    have hst : ((((m.set xb (.var 245 [bs s, it 0, it 1, it 0])).set ob (.var 194 [.sl [] [] .full])).set pb (.var 243 [.ptr xb 0])).set l (.loop true fn T0 [16].toArray cx cy D))
        = ((((m.set ob (.var 194 [.sl [] [] .full])).set l (.loop true fn T0 [16].toArray cx cy D)).set pb (.var 243 [.ptr xb 0])).set xb (.var 245 [bs s, it 0, it 1, it 0])) := by
      funext c
      simp only [Store.set]
      by_cases e1 : c = l
      · subst e1; simp [hlp, hlx]
      · by_cases e2 : c = pb
        · subst e2; simp [e1, hpx]
        · by_cases e3 : c = ob
          · subst e3; simp [e1, e2, hxo.symm]
          · simp [e1, e2, e3]
    have hy : ∀ acc t mC, acc.length ≤ 4096 → (∃ m0, m0 l = none ∧ mC = m0.set l (.loop true fn T0 [16].toArray cx cy D) ∧ outSt m ob acc m0) →
        AYields Tryz.prog Γ l [tkV t] mC fun o m' => o = .ret (.val (.bool true)) ∧ ∃ m0, m0 l = none ∧ m' = m0.set l (.loop true fn T0 [16].toArray cx cy D) ∧ outSt m ob (acc ++ [t]) m0 := by
      rintro acc tk mC hacc ⟨m0, hm0, rfl, N, M, v, k1, k2, k3, k4, rfl⟩
      refine (ayields_of_awp mixed hcx hcy rfl rfl (R := fun m1 => outSt m ob (acc ++ [tk]) m1) hm0 rfl ?_).mono ?_
      · refine st_gen (Φ := fun t => awp _ _ _ _ _ ⟨t, _⟩) fun T1 hT1 => ?_
        have l1 : T1.length = 35 := by rw [hT1]; exact (List.length_set ..).trans hlen
        have u6 : tget T1 6 = .ptr ob 0 := by rw [hT1]; exact (tget_set_ne (by decide)).trans t6
        have u16 : tget T1 16 = tkV tk := by rw [hT1]; exact tget_set_same (by omega)
        clear hT1
        rw [t_eq l1]
        simp only [upTo_succ, upTo_zero, Nat.reduceAdd, u6, u16]
        simp only [ssS, bin_or, bin_and, Nat.reduceAdd, Nat.reduceLeDiff, reduceIte, eq_self, Nat.reduceEqDiff]
        refine allocS_of fun b hb => ?_
        have hbo : b ≠ ob := by rintro rfl; rw [Store.set_same] at hb; cases hb
        have hMb : M b = none := by rwa [Store.set_ne _ _ hbo] at hb
        have hn : ∀ m' x, (Store.set m' b x) ob = m' ob := fun m' x => Store.set_ne m' x hbo.symm
        have hn2 : ∀ m' x, (Store.set m' ob x) b = m' b := fun m' x => Store.set_ne m' x hbo
        obtain ⟨tok, rfl⟩ := k3.val
        simp only [cells_tk, Store.set_same, Store.set_set, hn, hn2, lit5, litV5_agg, ssS, bin_or, bin_and, Nat.reduceAdd, Nat.reduceLeDiff, reduceIte, eq_self, Nat.reduceEqDiff]
        have hNb : N b = none := by
          cases hc : N b with
          | none => rfl
          | some x => rw [k3.sub _ _ hc] at hMb; cases hMb
        have hbuf := (k3.add (x := .var 179 [it tk.k, bs tk.s, it tk.n, it tk.l, it tk.a]) hMb).add (b := ob) (x := .var 194 [.sl (acc.map tkV) [] tok]) (by rw [hn]; exact k4)
        rw [set_comm M _ _ hbo] at hbuf
        refine appS_buf hbuf rfl (by intro c hc; simp [V.cells] at hc; rcases hc with rfl | rfl | rfl | rfl | rfl <;> rfl) (by simp; omega) fun m3 v3 hb3 => ?_
        obtain ⟨d1, M', d2, d3, d4⟩ := hb3.del (b := ob) (by rw [hn]; exact k2)
        obtain ⟨tok3, rfl⟩ := hb3.val
        simp only [d1, ssS, bin_or, bin_and, Nat.reduceAdd, Nat.reduceLeDiff, reduceIte, eq_self, Nat.reduceEqDiff]
        refine ⟨N.set b (.var 179 [it tk.k, bs tk.s, it tk.n, it tk.l, it tk.a]), M', _, fun c x hc => ?_, by rw [hn]; exact k2, by rw [List.map_append]; exact d2, d3, d4 _⟩
        rw [Store.set_ne _ _ (by rintro rfl; rw [k1 _ _ hc] at hNb; cases hNb)]
        exact k1 _ _ hc
      · rintro o m' ⟨m₁, rfl, hn, rfl, hR⟩
        exact ⟨rfl, m₁, hn, rfl, hR⟩
    have key := tokens1_ok L L2 h0 h1 (y := l) (J := fun acc mC => ∃ m0, m0 l = none ∧ mC = m0.set l (.loop true fn T0 [16].toArray cx cy D) ∧ outSt m ob acc m0) (xb := xb) (pb := pb) (Ne.symm hpx) s (by omega) hy
      (mC := (m.set ob (.var 194 [.sl [] [] .full])).set l (.loop true fn T0 [16].toArray cx cy D)) ⟨m.set ob (.var 194 [.sl [] [] .full]), by rw [Store.set_ne _ _ hlo]; exact hl0, rfl, m, m, _, fun _ _ h => h, hob', Buf.start, hob', rfl⟩
      (by rw [Store.set_ne _ _ hlx.symm, Store.set_ne _ _ hxo]; exact hxb) (by rw [Store.set_ne _ _ hlp.symm, Store.set_ne _ _ hpo]; exact hpb')
    rw [← hst] at key
    refine ACalls.mono (R := fun o m' => rowOut _ xb pb s o m') key ?_
    rintro o m' ⟨rfl, acc, mC, a, ln, e, ⟨m0, hm0, rfl, N, M, v, k1, k2, k3, k4, rfl⟩, g1, g2, rfl, hr⟩
    refine ⟨⟨_, rfl⟩, (((M.set ob (.var 194 [v])).set pb (.var 243 [.ptr xb 0])).set xb (.var 245 [bs s, it a, it ln, it e])), ?_, ?_, ?_⟩
    · funext c
      simp only [Store.set]
      by_cases e1 : c = l
      · subst e1; simp [hlp, hlx]
      · simp [e1]
    · rw [Store.set_ne _ _ hlx, Store.set_ne _ _ hlp]; exact hm0
    · have hxo2 : ∀ m' x, (Store.set m' xb x) ob = m' ob := fun m' x => Store.set_ne m' x hxo.symm
      have hpo2 : ∀ m' x, (Store.set m' pb x) ob = m' ob := fun m' x => Store.set_ne m' x hpo.symm
      have hsub : ∀ c x, m c = some x → (((M.set ob (.var 194 [v])).set pb (.var 243 [.ptr xb 0])).set xb (.var 245 [bs s, it a, it ln, it e])) c = some x := by
        intro c x hc
        rw [Store.set_ne _ _ (by rintro rfl; rw [hxb] at hc; cases hc), Store.set_ne _ _ (by rintro rfl; rw [hpb'] at hc; cases hc), Store.set_ne _ _ (by rintro rfl; rw [hob'] at hc; cases hc)]
        exact k3.sub _ _ (k1 _ _ hc)
      obtain ⟨tok, rfl⟩ := k3.val
      rw [t_eq hlen]
      simp only [upTo_succ, upTo_zero, Nat.reduceAdd, t5, t6, t15]
      cases hsc : scanL s 0 1 [] with
      | ok lx =>
        rw [hsc] at hr
        obtain ⟨rfl, rfl⟩ := hr
        have hz : ((0 : Int) != 0) = false := rfl
        simp only [hz, Store.set_same, hxo2, hpo2, ssS, bin_or, bin_and, Nat.reduceAdd, Nat.reduceLeDiff, reduceIte, eq_self, Nat.reduceEqDiff]
        exact bodyA_less (m' := m) resV_three hsub ⟨⟨tok, rfl⟩, rfl⟩
      | error p =>
        rw [hsc] at hr
        obtain ⟨a', e'⟩ := p
        obtain ⟨rfl, rfl, hne⟩ := hr
        have hz : ((e' : Int) != 0) = true := by simpa using hne
        simp only [hz, Store.set_same, hxo2, hpo2, ssS, bin_or, bin_and, Nat.reduceAdd, Nat.reduceLeDiff, reduceIte, eq_self, Nat.reduceEqDiff]
        exact bodyA_less (m' := m) resV_three hsub ⟨rfl, rfl⟩
end Go.Av.Fn
/- A text's expression, and whether a command is right, in plain terms. No condition. -/
namespace Go.Av.Fn
set_option linter.unusedSimpArgs false
set_option linter.unusedVariables false
def exO : Option Ex → V
  | some e => exV e
  | none => exV (.mk 0 [] 0 [] 0)
structure Form where
  w : List UInt8
  least : Int
  n : Bool
  s : Bool
  deriving DecidableEq
def noForm : Form := ⟨[], 0, false, false⟩
def forms : List Form := [noForm, ⟨[115, 116, 101, 112], 0, false, false⟩, ⟨[110, 101, 120, 116], 0, false, false⟩, ⟨[102, 105, 110, 105, 115, 104], 0, false, false⟩, ⟨[99, 111, 110, 116, 105, 110, 117, 101], 0, false, false⟩,
  ⟨[98, 97, 99, 107, 45, 115, 116, 101, 112], 0, false, false⟩, ⟨[98, 97, 99, 107, 45, 110, 101, 120, 116], 0, false, false⟩, ⟨[98, 97, 99, 107, 45, 102, 105, 110, 105, 115, 104], 0, false, false⟩, ⟨[98, 97, 99, 107, 45, 99, 111, 110, 116, 105, 110, 117, 101], 0, false, false⟩,
  ⟨[103, 111, 116, 111], 0, true, false⟩, ⟨[98, 114, 101, 97, 107], 1, true, true⟩, ⟨[119, 97, 116, 99, 104], 0, false, true⟩, ⟨[100, 101, 108, 101, 116, 101], 1, true, false⟩, ⟨[101, 110, 97, 98, 108, 101], 1, true, false⟩, ⟨[100, 105, 115, 97, 98, 108, 101], 1, true, false⟩,
  ⟨[117, 112], 0, false, false⟩, ⟨[100, 111, 119, 110], 0, false, false⟩, ⟨[112, 114, 105, 110, 116], 0, false, true⟩]
def formOf (k : Int) : Form := if k < 0 then noForm else (forms[k.toNat]?).getD noForm
def formV (f : Form) : V := .agg [bs f.w, it f.least, .val (.bool f.n), .val (.bool f.s)]
def cmdV (k n : Int) (s : List UInt8) : V := .agg [it k, it n, bs s]
theorem Good.end_ : ∀ (l : List Tk) (t : Tk), t.k = 0 → Good (l ++ [t])
  | [], t, h => h
  | [a], t, h => h
  | a :: b :: l, t, h => Good.end_ (b :: l) t h
theorem scanL_good {r : List UInt8} {a l : Nat} {acc L : List Tk} (h : scanL r a l acc = .ok L) : Good L := by
  fun_induction scanL r a l acc with
  | case1 r a l acc x r' e h1 h2 => cases h; exact Good.end_ _ _ rfl
  | case2 r a l acc x r' e h1 h2 => cases h
  | case3 r a l acc x r' t n h1 ih => exact ih h
theorem scanR_good {s : List UInt8} {L : List Tk} (h : scanR s = .ok L) : Good L := by
  unfold scanR at h
  split at h
  · cases h
  · exact scanL_good h
theorem scanL_len {r : List UInt8} {a l : Nat} {acc L : List Tk} (h : scanL r a l acc = .ok L) : L.length ≤ acc.length + r.length + 1 := by
  fun_induction scanL r a l acc with
  | case1 r a l acc x r' e h1 h2 => cases h; simp
  | case2 r a l acc x r' e h1 h2 => cases h
  | case3 r a l acc x r' t n h1 ih =>
    have := ih h
    have h4 := tokL_len h1
    have h5 : r'.length ≤ r.length := by
      show (r.drop _).length ≤ r.length
      rw [List.length_drop]; omega
    simp at this
    omega
theorem scanR_len {s : List UInt8} {L : List Tk} (h : scanR s = .ok L) : L.length ≤ 4097 := by
  unfold scanR at h
  split at h
  · cases h
  · have := scanL_len h
    simp at this
    omega
theorem run_expr {l : List Tk} (h : Good l) : ∃ p, run (10 * l.length + 9) (.ex 0) l = some p ∧ Sgl p ∧ Fit false 0 l p := by
  obtain ⟨p, h1, h2⟩ := run_fits (10 * l.length + 9) (.ex 0) l h (by simp [lineOk]) (by simp [rankR])
  refine ⟨p, h1, ?_, h2⟩
  cases p with
  | ok es l1 => exact h2.2.2 rfl
  | st l1 => trivial
end Go.Av.Fn
/- errors.As at a reader that is stuck: true, and the target is that reader. Condition: what errors.errorType holds. -/
namespace Go.Av.Fn
open Go.RowKit Go.Extern.Stop Go.Stop Go.Extern Go.Proofs
set_option linter.unusedSimpArgs false
set_option linter.unusedVariables false
theorem e_valueOfP (t : Addr) (w : World) : (ReflectliteValue.unpack (.iface 218 (.pointer (some t)))).run Tryz.prog w
    = .ok (.agg #[.pointer (some ⟨9, 218, none⟩), .pointer (some ⟨w.heap.size, 0, none⟩), .int .u64 150]) (w.alloc (.cells #[.pointer (some t)] 218)) := by kernel_rfl
theorem e_typeP (a : Addr) (w : World) : (ReflectliteValue.methodAny (ReflectliteValue.valueError "reflectlite.Value.Type" 0) (fun t _ _ _ => ReflectliteType.toType t) #[.agg #[.pointer (some ⟨9, 218, none⟩), .pointer (some a), .int .u64 150]]).run Tryz.prog w
    = .ok (.iface 289 (.agg #[.pointer (some ⟨9, 218, none⟩)])) w := by kernel_rfl
theorem e_methodKind (h : Value) (w : World) : (Go.method 500 289 (.agg #[h]) "Kind").run Tryz.prog w = .ok (283, h) w := by kernel_rfl
theorem e_kindP (w : World) : ((ReflectliteType.abiMethod fun t => (fun a : Nat => Value.int IntKind.u8 (a : Int)) <$> Rtype.kind t) #[.pointer (some ⟨9, 218, none⟩)]).run Tryz.prog w = .ok (.int .u8 22) w := by kernel_rfl
theorem e_kindT (w : World) : ((ReflectliteType.abiMethod fun t => (fun a : Nat => Value.int IntKind.u8 (a : Int)) <$> Rtype.kind t) #[.pointer (some ⟨9, 215, none⟩)]).run Tryz.prog w = .ok (.int .u8 22) w := by kernel_rfl
theorem e_rlm (z : Sem Value) (f : TypeId → Addr → Nat → Nat → Sem Value) (v : Value) :
    ReflectliteValue.method z f #[v] = (do match ← ReflectliteValue.parts v with | none => z | some (t, a, fl) => f t a fl (fl % 32)) := rfl
theorem e_partsP (a : Addr) (w : World) : (ReflectliteValue.parts (.agg #[.pointer (some ⟨9, 218, none⟩), .pointer (some a), .int .u64 150])).run Tryz.prog w = .ok (some (218, a, 150)) w := by kernel_rfl
theorem e_isNilP (a p : Addr) (W : World) (ha : W.cell? a = some (.pointer (some p))) :
    (ReflectliteValue.method (ReflectliteValue.valueError "reflectlite.Value.IsNil" 0) ReflectliteValue.isNil #[.agg #[.pointer (some ⟨9, 218, none⟩), .pointer (some a), .int .u64 150]]).run Tryz.prog W = .ok (.bool false) W := by
  rw [e_rlm]
  simp only [Sem.run_bind, e_partsP, Result.andThen]
  simp [ReflectliteValue.isNil, loadVar, isAgg, underlying, Tryz.underlying218, ha, Result.andThen]
theorem e_methodElem (h : Value) (w : World) : (Go.method 500 289 (.agg #[h]) "Elem").run Tryz.prog w = .ok (298, .agg #[h]) w := by kernel_rfl
theorem e_methodImplements (h : Value) (w : World) : (Go.method 500 289 (.agg #[h]) "Implements").run Tryz.prog w = .ok (299, .agg #[h]) w := by kernel_rfl
theorem e_methodAssignableTo (h : Value) (w : World) : (Go.method 500 289 (.agg #[h]) "AssignableTo").run Tryz.prog w = .ok (296, .agg #[h]) w := by kernel_rfl
theorem e_elemP (w : World) : (ReflectliteType.method ReflectliteType.elem #[.agg #[.pointer (some ⟨9, 218, none⟩)]]).run Tryz.prog w = .ok (.iface 289 (.agg #[.pointer (some ⟨9, 215, none⟩)])) w := by kernel_rfl
theorem e_implementsT (w : World) : (ReflectliteType.relation "Implements" ReflectliteType.implements_ #[.agg #[.pointer (some ⟨9, 215, none⟩)], .iface 289 (.agg #[.pointer (some ⟨9, 163, none⟩)])]).run Tryz.prog w = .ok (.bool true) w := by kernel_rfl
theorem e_typeOfT (v : Value) (w : World) : (ReflectliteType.typeOf #[.iface 215 v]).run Tryz.prog w = .ok (.iface 289 (.agg #[.pointer (some ⟨9, 215, none⟩)])) w := by kernel_rfl
theorem e_assignableT (w : World) : (ReflectliteType.relation "AssignableTo" ReflectliteType.assignableTo #[.agg #[.pointer (some ⟨9, 215, none⟩)], .iface 289 (.agg #[.pointer (some ⟨9, 215, none⟩)])]).run Tryz.prog w = .ok (.bool true) w := by kernel_rfl
theorem e_valueOfT (e : Addr) (w : World) : (ReflectliteValue.unpack (.iface 215 (.pointer (some e)))).run Tryz.prog w
    = .ok (.agg #[.pointer (some ⟨9, 215, none⟩), .pointer (some ⟨w.heap.size, 0, none⟩), .int .u64 150]) (w.alloc (.cells #[.pointer (some e)] 215)) := by kernel_rfl
theorem e_elemOfP (w : World) : (Rtype.elem? 218).run Tryz.prog w = .ok (some 215) w := by kernel_rfl
theorem e_mkT (p : Addr) (w : World) : (ReflectliteValue.mk 215 p ReflectliteValue.flagAddr).run Tryz.prog w = .ok (.agg #[.pointer (some ⟨9, 215, none⟩), .pointer (some p), .int .u64 406]) w := by kernel_rfl
theorem e_elemVP (a p : Addr) (W : World) (ha : W.cell? a = some (.pointer (some p))) :
    (ReflectliteValue.method (ReflectliteValue.valueError "reflectlite.Value.Elem" 0) ReflectliteValue.elem #[.agg #[.pointer (some ⟨9, 218, none⟩), .pointer (some a), .int .u64 150]]).run Tryz.prog W
      = .ok (.agg #[.pointer (some ⟨9, 215, none⟩), .pointer (some p), .int .u64 406]) W := by
  rw [e_rlm]
  simp only [Sem.run_bind, e_partsP, Result.andThen]
  simp [ReflectliteValue.elem, loadVar, isAgg, underlying, Tryz.underlying218, ha, Result.andThen, e_elemOfP, e_mkT]
theorem e_rls (v x : Value) : ReflectliteValue.set #[v, x] = (do
    let (some (dst, a, fl), some (src, b, _)) := (← ReflectliteValue.parts v, ← ReflectliteValue.parts x)
      | unsupported (.noEntry "extern/(internal/reflectlite.Value).Set.zeroValue")
    if fl / ReflectliteValue.flagAddr % 2 == 0 then unsupported (.noEntry "extern/(internal/reflectlite.Value).Set.unaddressable")
    let val ← loadVar src b
    if ← Rtype.directlyAssignable dst src then storeVar dst a val
    else if ← Rtype.implements dst src then
      if (← Rtype.kind src) == 20 then
        match val with
        | .nilIface => unsupported (.noEntry "extern/reflectlite: a nil value of one interface type handed on as a value of another")
        | _ => storeVar dst a val
      else storeVar dst a (.iface src val)
    else panicString ("reflectlite.Set: value of type " ++ (← Rtype.spelt src) ++ " is not assignable to type " ++ (← Rtype.spelt dst))
    pure (.tuple #[])) := rfl
theorem e_partsTa (a : Addr) (w : World) : (ReflectliteValue.parts (.agg #[.pointer (some ⟨9, 215, none⟩), .pointer (some a), .int .u64 406])).run Tryz.prog w = .ok (some (215, a, 406)) w := by kernel_rfl
theorem e_partsT (a : Addr) (w : World) : (ReflectliteValue.parts (.agg #[.pointer (some ⟨9, 215, none⟩), .pointer (some a), .int .u64 150])).run Tryz.prog w = .ok (some (215, a, 150)) w := by kernel_rfl
theorem e_directT (w : World) : (Rtype.directlyAssignable 215 215).run Tryz.prog w = .ok true w := by kernel_rfl
theorem e_setT (ta b e : Addr) (old : Value) (W : World) (hb : W.cell? b = some (.pointer (some e))) (ht : W.cell? ta = some old) (hf : W.frozen? ta = false) :
    (ReflectliteValue.set #[.agg #[.pointer (some ⟨9, 215, none⟩), .pointer (some ta), .int .u64 406], .agg #[.pointer (some ⟨9, 215, none⟩), .pointer (some b), .int .u64 150]]).run Tryz.prog W
      = .ok (.tuple #[]) (W.setCell ta (.pointer (some e))) := by
  rw [e_rls]
  simp only [Sem.run_bind, e_partsTa, e_partsT, Result.andThen]
  simp [ReflectliteValue.flagAddr, loadVar, isAgg, underlying, Tryz.underlying215, hb, Result.andThen, e_directT, storeVar, Value.cells, storeCells, Addr.add]
  rw [run_store Tryz.prog W ta _ _ (by rfl)]
  simp [ht, hf]
def asWorld (w : World) (e t : Addr) : World := ((((w.alloc (.cells #[.pointer (some t)] 218)).alloc (.cells #[.pointer (some ⟨9, 218, none⟩), .pointer (some ⟨w.heap.size, 0, none⟩), .int .u64 150] 251)).alloc (.cells #[.pointer (some ⟨9, 218, none⟩), .pointer (some ⟨w.heap.size, 0, none⟩), .int .u64 150] 251)).alloc (.cells #[.pointer (some e)] 215)).setCell t (.pointer (some e))
set_option maxHeartbeats 8000000 in
theorem as_hit (e t : Addr) (old : Value) (w : World) (hg : w.cell? ⟨6, 0, none⟩ = some (.iface 289 (.agg #[.pointer (some ⟨9, 163, none⟩)]))) (ht0 : w.cell? t = some old) (hf0 : w.frozen? t = false) :
    Calls Tryz.prog 171 #[.iface 215 (.pointer (some e)), .iface 218 (.pointer (some t))] w fun ev w' => ev = .returned (.bool true) ∧ w' = asWorld w e t := by
  have h6 := @run_callFunc_extern Tryz.prog 197 _ (fun args => ReflectliteValue.unpack (args.getD 0 (.tuple #[]))) Tryz.func197 (by kernel_rfl) (by kernel_rfl) (by kernel_rfl) (by kernel_rfl)
  have h7 := @run_callFunc_extern Tryz.prog 198 _ (ReflectliteValue.methodAny (ReflectliteValue.valueError "reflectlite.Value.Type" 0) (fun t _ _ _ => ReflectliteType.toType t)) Tryz.func198 (by kernel_rfl) (by kernel_rfl) (by kernel_rfl) (by kernel_rfl)
  have h8 := @run_callFunc_extern Tryz.prog 199 _ (ReflectliteValue.method (ReflectliteValue.valueError "reflectlite.Value.IsNil" 0) ReflectliteValue.isNil) Tryz.func199 (by kernel_rfl) (by kernel_rfl) (by kernel_rfl) (by kernel_rfl)
  have h27 := @run_callFunc_extern Tryz.prog 283 _ (ReflectliteType.abiMethod fun t => do pure (.int .u8 (← Rtype.kind t))) Tryz.func283 (by kernel_rfl) (by kernel_rfl) (by kernel_rfl) (by kernel_rfl)
  have h37 := @run_callFunc_extern Tryz.prog 298 _ (ReflectliteType.method ReflectliteType.elem) Tryz.func298 (by kernel_rfl) (by kernel_rfl) (by kernel_rfl) (by kernel_rfl)
  have h38 := @run_callFunc_extern Tryz.prog 299 _ (ReflectliteType.relation "Implements" ReflectliteType.implements_) Tryz.func299 (by kernel_rfl) (by kernel_rfl) (by kernel_rfl) (by kernel_rfl)
  have h10 := @run_callFunc_extern Tryz.prog 219 _ ReflectliteType.typeOf Tryz.func219 (by kernel_rfl) (by kernel_rfl) (by kernel_rfl) (by kernel_rfl)
  have h35 := @run_callFunc_extern Tryz.prog 296 _ (ReflectliteType.relation "AssignableTo" ReflectliteType.assignableTo) Tryz.func296 (by kernel_rfl) (by kernel_rfl) (by kernel_rfl) (by kernel_rfl)
  have h11 := @run_callFunc_extern Tryz.prog 220 _ (ReflectliteValue.method (ReflectliteValue.valueError "reflectlite.Value.Elem" 0) ReflectliteValue.elem) Tryz.func220 (by kernel_rfl) (by kernel_rfl) (by kernel_rfl) (by kernel_rfl)
  have h12 := @run_callFunc_extern Tryz.prog 221 _ ReflectliteValue.set Tryz.func221 (by kernel_rfl) (by kernel_rfl) (by kernel_rfl) (by kernel_rfl)
  have tO := e_typeOfT
  have mA := e_methodAssignableTo
  have a25 := e_assignableT
  have v25 := e_valueOfT
  have f6 := e_valueOfP
  have f7 := e_typeP
  have mK := e_methodKind
  have mE := e_methodElem
  have mI := e_methodImplements
  have k27 := e_kindP
  have k25 := e_kindT
  have e27 := e_elemP
  have i25 := e_implementsT
  have n8 := e_isNilP ⟨w.heap.size, 0, none⟩ t ((w.alloc (.cells #[.pointer (some t)] 218)).alloc (.cells #[.pointer (some ⟨9, 218, none⟩), .pointer (some ⟨w.heap.size, 0, none⟩), .int .u64 150] 251)) (by simp)
  have hlt : 6 < w.heap.size := by
    rcases Nat.lt_or_ge 6 w.heap.size with h | h
    · exact h
    · simp [World.cell?, Array.getElem?_eq_none h] at hg
  have hg2 : ((w.alloc (.cells #[.pointer (some t)] 218)).alloc (.cells #[.pointer (some ⟨9, 218, none⟩), .pointer (some ⟨w.heap.size, 0, none⟩), .int .u64 150] 251)).cell? ⟨6, 0, none⟩ = some (.iface 289 (.agg #[.pointer (some ⟨9, 163, none⟩)])) := by
    rw [World.cell?_alloc_lt _ _ ⟨6, 0, none⟩ (by simp; omega), World.cell?_alloc_lt _ _ ⟨6, 0, none⟩ hlt]; exact hg
  have htl : t.block < w.heap.size := by
    rcases Nat.lt_or_ge t.block w.heap.size with h | h
    · exact h
    · simp [World.cell?, Array.getElem?_eq_none h] at ht0
  have el := e_elemVP ⟨w.heap.size, 0, none⟩ t (((w.alloc (.cells #[.pointer (some t)] 218)).alloc (.cells #[.pointer (some ⟨9, 218, none⟩), .pointer (some ⟨w.heap.size, 0, none⟩), .int .u64 150] 251)).alloc (.cells #[.pointer (some ⟨9, 218, none⟩), .pointer (some ⟨w.heap.size, 0, none⟩), .int .u64 150] 251)) (by rw [World.cell?_alloc_lt _ _ ⟨w.heap.size, 0, none⟩ (by simp; omega)]; simp)
  have st := e_setT t ⟨w.heap.size + 1 + 1 + 1, 0, none⟩ e old ((((w.alloc (.cells #[.pointer (some t)] 218)).alloc (.cells #[.pointer (some ⟨9, 218, none⟩), .pointer (some ⟨w.heap.size, 0, none⟩), .int .u64 150] 251)).alloc (.cells #[.pointer (some ⟨9, 218, none⟩), .pointer (some ⟨w.heap.size, 0, none⟩), .int .u64 150] 251)).alloc (.cells #[.pointer (some e)] 215))
    (by rw [World.cell?_alloc_at _ _ _ _ (by simp)]; rfl)
    (by rw [World.cell?_alloc_lt _ _ t (by simp; omega), World.cell?_alloc_lt _ _ t (by simp; omega), World.cell?_alloc_lt _ _ t (by simp; omega), World.cell?_alloc_lt _ _ t htl]; exact ht0)
    (by rw [World.frozen?_alloc_old _ _ t (by simp; omega), World.frozen?_alloc_old _ _ t (by simp; omega), World.frozen?_alloc_old _ _ t (by simp; omega), World.frozen?_alloc_old _ _ t (Nat.ne_of_lt htl)]; exact hf0)
  unfold asWorld
  go_enter Tryz.func171, Tryz.ntmps171
  go_wp2
  refine wp_loop_rounds 1 ?_
  rw [rounds_succ]
  go_wp2
  go_ret
  exact ⟨rfl, rfl⟩
end Go.Av.Fn
/- errors.As at a reader that is stuck, over abstract values. Condition: what errors.errorType holds. -/
namespace Go.Av.Fn
open Go.RowKit Go.Proofs
set_option linter.unusedSimpArgs false
set_option linter.unusedVariables false
theorem as_ok {Γ : Glob} (hΓ : Γ 6 = some [.ifc 289 (.agg [.ptr 9 163])]) {m : Store} {e eo t : Nat} {c : V} (ht : m t = some (.var 215 [c])) :
    ACalls Tryz.prog Γ 171 [.ifc 215 (.ptr e eo), .ifc 218 (.ptr t 0)] m fun o m' => o = .ret (.val (.bool true)) ∧ m' = m.set t (.var 215 [.ptr e eo]) := by
  refine ⟨by kernel_rfl, fun G B0 mF w cargs hD hR hL => ?_⟩
  obtain ⟨u1, us1, rfl, r1, hL⟩ := hL.cons_inv
  obtain ⟨u2, us2, rfl, r2, hL⟩ := hL.cons_inv
  obtain rfl := hL.nil_inv
  have hu1 : u1 = .iface 215 (.pointer (some ⟨e, eo, none⟩)) := by
    cases r1 with
    | ifc r1 => cases r1; rfl
  have hu2 : u2 = .iface 218 (.pointer (some ⟨t, 0, none⟩)) := by
    cases r2 with
    | ifc r2 => cases r2; rfl
  subst hu1
  subst hu2
  have hM : (m.or mF) t = some (.var 215 [c]) := or_left ht
  obtain ⟨hB, ⟨us, h2, h3⟩, h4⟩ := hR.var t _ _ hM
  obtain ⟨old, us', rfl, r3, r4⟩ := h3.cons_inv
  obtain rfl := r4.nil_inv
  obtain ⟨gs, g1, g2⟩ := hR.glob _ _ hΓ
  obtain ⟨gv, gs', rfl, g3, g4⟩ := g1.cons_inv
  have hgv : gv = .iface 289 (.agg #[.pointer (some ⟨9, 163, none⟩)]) := by
    cases g3 with
    | ifc g3 =>
      cases g3 with
      | agg g5 =>
        obtain ⟨gp, gs'', rfl, g6, g7⟩ := g5.cons_inv
        obtain rfl := g7.nil_inv
        cases g6
        rfl
  subst hgv
  have hg := hR.K _ _ _ (g2.2 0 _ rfl)
  have ht0 : w.cell? ⟨t, 0, none⟩ = some old := by simp [World.cell?, h2]
  have hf0 : w.frozen? ⟨t, 0, none⟩ = false := by simp [World.frozen?, h2]
  refine (as_hit ⟨e, eo, none⟩ ⟨t, 0, none⟩ old w hg ht0 hf0).mono ?_
  rintro ev w' ⟨rfl, rfl⟩
  refine ⟨G, m.set t (.var 215 [.ptr e eo]), .ret (.val (.bool true)), Gh.le.refl G, hD.set _ (hD.of_some ht), ?_, ?_, .ret (.val rfl), rfl, rfl⟩
  · rw [or_set]
    exact ((((hR.alloc _).alloc _).alloc _).alloc _).store hM (o := 0) (.ptr e eo)
  · refine Below.setCell (((((Below.refl B0 w).alloc hR.base _).alloc ?_ _).alloc ?_ _).alloc ?_ _) hB _
    all_goals (simp only [World.size_alloc]; have := hR.base; omega)
end Go.Av.Fn
/- A text read by the parser, and what it says when it can't go on. Condition: what errors.errorType holds. -/
namespace Go.Av
section
variable {P : Program} {Γ : Glob} {l : List Item} {t : List V} {m : Store} {d : Option Tmp}
theorem runP_cons {Kp : V → St → Prop} {K : St → Prop} {g : Option (Tmp × Bool)} {ao : AOp} : runP P Γ Kp (⟨d, g, ao, []⟩ :: l) K ⟨t, m⟩ = runO P Γ (fun v m' => Kp v ⟨t, m'⟩) [⟨d, g, ao, []⟩] (runP P Γ Kp l K) (some ⟨t, m⟩) := by
  apply propext
  simp only [runP, stepP, runO, runA, stepA, stepA0, List.not_mem_nil, false_implies, implies_true, true_and]
theorem runP_nil {Kp : V → St → Prop} {K : St → Prop} {st : St} : runP P Γ Kp [] K st = K st := rfl
theorem awpP_row {Kp : V → St → Prop} {Q : Ex → St → Prop} {st : St} : awpP P Γ Kp (.row l) Q st = runP P Γ Kp l (Q .normal) st := rfl
theorem awpP_seq {Kp : V → St → Prop} {Q : Ex → St → Prop} {a b : PCode} {st : St} : awpP P Γ Kp (.seq a b) Q st = awpP P Γ Kp a (thenA (awpP P Γ Kp b Q) Q) st := rfl
theorem awpP_code {Kp : V → St → Prop} {Q : Ex → St → Prop} {c : ACode} {st : St} : awpP P Γ Kp (.code c) Q st = awp P Γ (fun _ _ => False) c Q st := rfl
def condP (v : V) (A B : Prop) : Prop := match v with
  | .val (.bool t) => (t = true → A) ∧ (t = false → B)
  | _ => False
theorem awpP_cond {Kp : V → St → Prop} {Q : Ex → St → Prop} {c : Operand} {a b : PCode} : awpP P Γ Kp (.cond c a b) Q ⟨t, m⟩ = condP (ev Γ t c) (awpP P Γ Kp a Q ⟨t, m⟩) (awpP P Γ Kp b Q ⟨t, m⟩) := (rfl)
theorem condP_true {A B : Prop} : condP (.val (.bool true)) A B = A := by simp [condP]
theorem condP_false {A B : Prop} : condP (.val (.bool false)) A B = B := by simp [condP]
theorem runA_O {Kp : V → Store → Prop} {K : St → Prop} {st : St} : runA P Γ Kp l K st = runO P Γ Kp l K (some st) := rfl
theorem put_none {st : St} {v : V} : st.put none v = st := rfl
theorem q_asrt {T : TypeId} {x : Operand} : quietB (.asrt T x) = true := (rfl)
theorem eval_asrt {T : TypeId} {x : Operand} : evalL P (ev Γ t) m (.asrt T x) = asrtV P T (ev Γ t x) := rfl
end
end Go.Av
namespace Go.Av.Fn
set_option linter.unusedSimpArgs false
set_option linter.unusedVariables false
set_option maxRecDepth 10000
open Go.Proofs
def readT (l : List Tk) : Option Ex × Int × Int := match run (10 * l.length + 9) (.ex 0) l with
  | some (.ok [e] (t :: _)) => if t.k = 0 then (some e, 0, 0) else (none, t.a, 6)
  | some (.st (t :: _)) => (none, t.a, 6)
  | _ => (none, 0, 0)
def readS (s : List UInt8) : Option Ex × Int × Int := match scanR s with
  | .error (a, e) => (none, a, e)
  | .ok l => readT l
def triV (r : Option Ex × Int × Int) : V := .tup [exO r.1, it r.2.1, it r.2.2]
theorem nil_is : binV Tryz.prog .eql 20 .iface (.tmp 9) (.const .nilIface) (.val .nilIface) (.val .nilIface) = some (.val (.bool true)) := by kernel_rfl
theorem asrt_st {b : Nat} : asrtV Tryz.prog 163 (.ifc 215 (.ptr b 0)) = some (.tup [.ifc 215 (.ptr b 0), .val (.bool true)]) := by kernel_rfl
section
variable {Γ : Glob} {m : Store} {xb ab eb : Nat}
theorem read1_none : ADCalls Tryz.prog Γ 170 [.ptr xb 0, .ptr ab 0, .ptr eb 0] m none (fun m' => m' = m) := by
  refine adcalls_of_awp mixed R170_ok ?_
  have hs : startR R170 [.ptr xb 0, .ptr ab 0, .ptr eb 0] m none = ⟨[.ptr xb 0, .ptr ab 0, .ptr eb 0, .val .nilIface, un, un, un, un, .val .nilIface, un, un, un, un, un, un, un, un, un, un, un, un, un, un, un, un, un, un, un], m⟩ := rfl
  rw [hs]
  simp only [R170]
  simp only [nil_is, ssS, bin_or, bin_and, Nat.reduceAdd, Nat.reduceLeDiff, reduceIte, eq_self, Nat.reduceEqDiff]
  exact ⟨⟨_, rfl⟩, rfl⟩
theorem read1_some (hΓ : Γ 6 = some [.ifc 289 (.agg [.ptr 9 163])]) {b : Nat} {a : Int} {c1 : List V} {c2 c3 : V} (hb : m b = some (.var 220 [it a])) (hx : m xb = some (.var 170 c1)) (h1 : c1.length = 5) (ha : m ab = some (.var 3 [c2])) (he : m eb = some (.var 25 [c3])) (hxa : xb ≠ ab) (hxe : xb ≠ eb) (hae : ab ≠ eb) :
    ADCalls Tryz.prog Γ 170 [.ptr xb 0, .ptr ab 0, .ptr eb 0] m (some (stV b)) (fun m' => m' xb = some (.var 170 zE) ∧ m' ab = some (.var 3 [it a]) ∧ m' eb = some (.var 25 [it 6]) ∧ ∀ c x, c ≠ xb → c ≠ ab → c ≠ eb → m c = some x → m' c = some x) := by
  refine adcalls_of_awp mixed R170_ok ?_
  have hs : startR R170 [.ptr xb 0, .ptr ab 0, .ptr eb 0] m (some (stV b)) = ⟨[.ptr xb 0, .ptr ab 0, .ptr eb 0, stV b, un, un, un, un, stV b, un, un, un, un, un, un, un, un, un, un, un, un, un, un, un, un, un, un, un], m⟩ := rfl
  rw [hs]
  have hst : stV b = .ifc 215 (.ptr b 0) := rfl
  have hni : binV Tryz.prog .eql 20 .iface (.tmp 9) (.const .nilIface) (stV b) (.val .nilIface) = some (.val (.bool false)) := rfl
  simp only [R170]
  simp only [hni, ssS, bin_or, bin_and, Nat.reduceAdd, Nat.reduceLeDiff, reduceIte, eq_self, Nat.reduceEqDiff]
  refine allocS_of fun b4 hb4 => ?_
  have n4 : ∀ {c x}, m c = some x → c ≠ b4 := fun h => ne_of_some h hb4
  simp only [q_asrt, eval_asrt, asrt_st, hst, ssS, bin_or, bin_and, Nat.reduceAdd, Nat.reduceLeDiff, reduceIte, eq_self, Nat.reduceEqDiff]
  refine callS_to (as_ok hΓ (c := .val (.pointer none)) (Store.set_same _ _ _)) ?_
  simp only [Store.set_set, ssS, bin_or, bin_and, Nat.reduceAdd, Nat.reduceLeDiff, reduceIte, eq_self, Nat.reduceEqDiff]
  refine allocS_of fun b7 hb7 => ?_
  have h47 : b4 ≠ b7 := ne_of_some (Store.set_same _ _ _) hb7
  have n7 : ∀ {c x}, m c = some x → c ≠ b7 := fun {c x} h => ne_of_some (x := x) (by rw [Store.set_ne _ _ (n4 h)]; exact h) hb7
  obtain ⟨p1, p2, p3, p4, p5, rfl⟩ : ∃ p1 p2 p3 p4 p5, c1 = [p1, p2, p3, p4, p5] := by
    match c1, h1 with
    | [p1, p2, p3, p4, p5], _ => exact ⟨_, _, _, _, _, rfl⟩
  simp only [Store.set_same, Store.set_ne _ _ h47, Store.set_ne _ _ (n7 hb), Store.set_ne _ _ (n4 hb), hb, Store.set_ne _ _ (n7 hx), Store.set_ne _ _ (n4 hx), hx, ssS, bin_or, bin_and, Nat.reduceAdd, Nat.reduceLeDiff, reduceIte, eq_self, Nat.reduceEqDiff]
  simp only [Store.set_ne _ _ hxa.symm, Store.set_ne _ _ (n7 ha), Store.set_ne _ _ (n4 ha), ha, ssS, bin_or, bin_and, Nat.reduceAdd, Nat.reduceLeDiff, reduceIte, eq_self, Nat.reduceEqDiff]
  simp only [Store.set_ne _ _ hae.symm, Store.set_ne _ _ hxe.symm, Store.set_ne _ _ (n7 he), Store.set_ne _ _ (n4 he), he, ssS, bin_or, bin_and, Nat.reduceAdd, Nat.reduceLeDiff, reduceIte, eq_self, Nat.reduceEqDiff]
  refine ⟨⟨_, rfl⟩, ?_, ?_, Store.set_same _ _ _, ?_⟩
  · show (Store.set _ _ _) _ = _
    rw [Store.set_ne _ _ hxe, Store.set_ne _ _ hxa, Store.set_same]
  · show (Store.set _ _ _) _ = _
    rw [Store.set_ne _ _ hae, Store.set_same]
  · intro c x h1 h2 h3 hc
    show (Store.set _ _ _) _ = _
    rw [Store.set_ne _ _ h3, Store.set_ne _ _ h2, Store.set_ne _ _ h1, Store.set_ne _ _ (n7 hc), Store.set_ne _ _ (n4 hc)]
    exact hc
end
end Go.Av.Fn
/- A text's expression: what the program's Expr tells. Conditions: the library's functions (LibOk, ParseOk), and what four variables hold. -/
namespace Go.Av
theorem ADCalls.mono {P : Program} {Γ : Glob} {g : FuncId} {caps : List V} {m : Store} {p : Option V} {R R' : Store → Prop} (h : ADCalls P Γ g caps m p R) (hr : ∀ m', R m' → R' m') : ADCalls P Γ g caps m p R' := by
  refine ⟨h.1, fun G B0 mF w ccaps u a b c d => ?_⟩
  have := h.2 G B0 mF w ccaps u a b c d
  refine this.mono ?_
  rintro e u' w' ⟨uv, G', m', h1, h2, h3, h4, h5, h6, h7⟩
  exact ⟨uv, G', m', h1, h2, h3, h4, h5, h6, hr _ h7⟩
theorem resV_cells3 {t : List V} {m : Store} {i j k a b c : Nat} {T1 T2 T3 : TypeId} {cs : List V} {u x y : V} (h1 : tget t i = .ptr a 0) (h2 : m a = some (.var T1 cs)) (h3 : partV cs 0 (some 5) = some u) (h4 : tget t j = .ptr b 0) (h5 : m b = some (.var T2 [x])) (h6 : tget t k = .ptr c 0) (h7 : m c = some (.var T3 [y])) :
    resV [.cell i (some 5), .cell j none, .cell k none] ⟨t, m⟩ = some (.tup [u, x, y]) := by
  have e : ∀ z : V, partV [z] 0 none = some z := fun _ => rfl
  simp only [resV, resAll, resOne, tget_eq, h1, h2, h3, h4, h5, h6, h7, e, Option.map_some]
end Go.Av
namespace Go.Av.Fn
set_option linter.unusedSimpArgs false
set_option linter.unusedVariables false
set_option maxRecDepth 10000
open Go.Proofs
structure Env (Γ : Glob) : Prop where
  lib : LibOk Γ
  parse : ParseOk Γ
  words : Γ 3 = some (wordsB.map bs)
  signs : Γ 2 = some (signsB.map bs)
  errT : Γ 6 = some [.ifc 289 (.agg [.ptr 9 163])]
theorem tokL_ne {r : List UInt8} {e : Int} (h : tokL r = .error e) : e ≠ 0 := by
  unfold tokL at h
  split at h
  · cases h; decide
  · split at h
    · split at h
      · cases h
      · split at h
        · cases h; decide
        · cases h
    · split at h
      · split at h
        · cases h; decide
        · cases h
      · split at h
        · split at h
          · rename_i hq
            cases h
            exact qL_err hq
          · cases h
        · split at h
          · cases h
          · cases h; decide
theorem scanL_ne {r : List UInt8} {a l : Nat} {acc : List Tk} {x : Nat × Int} (h : scanL r a l acc = .error x) : x.2 ≠ 0 := by
  fun_induction scanL r a l acc with
  | case1 r a l acc x r' e h1 h2 => cases h
  | case2 r a l acc x r' e h1 h2 => cases h; exact tokL_ne h1
  | case3 r a l acc x r' t n h1 ih => exact ih h
theorem scanR_ne {s : List UInt8} {a : Nat} {e : Int} (h : scanR s = .error (a, e)) : e ≠ 0 := by
  unfold scanR at h
  split at h
  · cases h; decide
  · exact scanL_ne h
def scanV : Except (Nat × Int) (List Tk) → V
  | .ok l => .tup [.sl (l.map tkV) [] .no, it 0, it 0]
  | .error (a, e) => .tup [.sl [] [] .no, it a, it e]
theorem weak_tk (t : Tk) : weak (tkV t) = tkV t := rfl
section
variable {Γ : Glob} {m : Store}
theorem scan_weak (E : Env Γ) (s : List UInt8) : ACalls Tryz.prog Γ 169 [bs s] m fun o m' => o = .ret (scanV (scanR s)) ∧ m' = m := by
  refine ACalls.weak (scan_ok E.lib E.parse E.words E.signs s) ?_ ?_
  · rintro v m' ⟨h, rfl⟩
    refine ⟨?_, rfl⟩
    unfold ScanOut at h
    split at h
    · rename_i l hl
      obtain ⟨tok, h⟩ := h
      cases h
      rw [hl]
      simp only [scanV, weak, weaks, weaks_map weak_tk]
    · rename_i a e hl
      cases h
      rw [hl]
      simp only [scanV, weak, weaks]
  · rintro v m' ⟨h, _⟩
    exfalso
    unfold ScanOut at h
    split at h
    · obtain ⟨_, h⟩ := h
      cases h
    · cases h
theorem Expr1_ok {rb n : Nat} {l : List Tk} {p : PR} (hn0 : n ≤ 1099511627776) (hr : m rb = some (rdr l)) (hs : Sgl p) (hp : run n (.ex 0) l = some p) : ACalls Tryz.prog Γ 145 [.ptr rb 0] m (PE m rb hdV p) := by
  refine pe_of_pl (acalls_of_awp mixed F145_ok pl_room ?_)
  simp only [F145, start, List.cons_append, List.nil_append, List.length_cons, List.length_nil, List.replicate, Nat.reduceSub, Nat.reduceAdd]
  simp only [ssS, bin_or, bin_and, Nat.reduceAdd, Nat.reduceLeDiff, reduceIte, eq_self, Nat.reduceEqDiff]
  refine allocS_of fun b hb => ?_
  have hn := ne_of_some hr hb
  have hE := (Ext.refl m rb).alloc hb (.var 170 zE)
  simp only [ssS, bin_or, bin_and, Nat.reduceAdd, Nat.reduceLeDiff, reduceIte, eq_self, Nat.reduceEqDiff]
  refine callS_pe ((parser_ok n hn0).1 0 l p _ rb (by omega) (by rw [Store.set_ne _ _ hn]; exact hr) hs hp) (fun es l1 e => ?_) (fun l1 b2 e hb2 => ?_)
  · subst e
    obtain ⟨e, rfl⟩ := hs
    obtain ⟨k, s, n, kids, ln⟩ := e
    simp only [hdV, exV, Store.set_ne _ _ hn.symm, Store.set_same, ssS, bin_or, bin_and, Nat.reduceAdd, Nat.reduceLeDiff, reduceIte, eq_self, Nat.reduceEqDiff]
    refine body_ex (b := b) rfl (Store.set_same _ _ _) (weaks_exVs _) ?_
    exact ((hE.rd _).loc hb _).ret (by rw [Store.set_ne _ _ hn, Store.set_same])
  · subst e
    exact pl_pan hE (by rw [Store.set_ne _ _ hn]; exact hr) hb2
theorem read_ok (E : Env Γ) (s : List UInt8) : ACalls Tryz.prog Γ 144 [bs s, .fn (.func 145) [] []] m fun o m' => o = .ret (triV (readS s)) ∧ m' = m := by
  refine ACalls.weak (R := fun o m' => ∃ v, o = .ret v ∧ weak v = triV (readS s) ∧ m' = m) (ACalls.less (A := fun o m' => ∃ v, o = .ret v ∧ weak v = triV (readS s) ∧ SubS m m') ?_ (fun o m' ⟨v, h1, h2, h3⟩ => ⟨m, h3, v, h1, h2, rfl⟩)) ?_ ?_
  rotate_left
  · rintro v m' ⟨_, ⟨⟩, h, rfl⟩
    exact ⟨by rw [h], rfl⟩
  · rintro v m' ⟨_, ⟨⟩, _⟩
  refine acalls_of_defer mixed D144_ok (by rintro v m b x _ ⟨_, ⟨⟩, _⟩) ?_
  simp only [D144, awpD, start, List.cons_append, List.nil_append, List.length_cons, List.length_nil, List.replicate, Nat.reduceSub, Nat.reduceAdd]
  simp only [ssS, bin_or, bin_and, Nat.reduceAdd, Nat.reduceLeDiff, reduceIte, eq_self, Nat.reduceEqDiff]
  refine allocS_of fun xb hxb => ?_
  simp only [ssS, bin_or, bin_and, Nat.reduceAdd, Nat.reduceLeDiff, reduceIte, eq_self, Nat.reduceEqDiff]
  refine allocS_of fun ab hab => ?_
  have n1 : xb ≠ ab := ne_of_some (Store.set_same _ _ _) hab
  simp only [ssS, bin_or, bin_and, Nat.reduceAdd, Nat.reduceLeDiff, reduceIte, eq_self, Nat.reduceEqDiff]
  refine allocS_of fun eb heb => ?_
  have n2 : ab ≠ eb := ne_of_some (Store.set_same _ _ _) heb
  have n3 : xb ≠ eb := ne_of_some (x := .var 170 zE) (by rw [Store.set_ne _ _ n1, Store.set_same]) heb
  simp only [ssS, bin_or, bin_and, Nat.reduceAdd, Nat.reduceLeDiff, reduceIte, eq_self, Nat.reduceEqDiff]
  refine callS_pure (scan_weak E s) ?_
  -- the store
  have key : ∀ S : Store, SubS m S → S xb = some (.var 170 zE) → S ab = some (.var 3 [it 0]) → S eb = some (.var 25 [it 0]) → m xb = none ∧ m ab = none ∧ m eb = none := by
    intro S h1 h2 h3 h4
    refine ⟨hxb, ?_, ?_⟩
    · rw [Store.set_ne _ _ n1.symm] at hab; exact hab
    · rw [Store.set_ne _ _ n2.symm, Store.set_ne _ _ n3.symm] at heb; exact heb
  have hS0 : SubS m (((m.set xb (.var 170 zE)).set ab (.var 3 [it 0])).set eb (.var 25 [it 0])) := (((SubS.refl m).out hxb _).out (by rw [Store.set_ne _ _ n1.symm] at hab; exact hab) _).out (by rw [Store.set_ne _ _ n2.symm, Store.set_ne _ _ n3.symm] at heb; exact heb) _
  have hx0 : (((m.set xb (.var 170 zE)).set ab (.var 3 [it 0])).set eb (.var 25 [it 0])) xb = some (.var 170 zE) := by rw [Store.set_ne _ _ n3, Store.set_ne _ _ n1, Store.set_same]
  have ha0 : (((m.set xb (.var 170 zE)).set ab (.var 3 [it 0])).set eb (.var 25 [it 0])) ab = some (.var 3 [it 0]) := by rw [Store.set_ne _ _ n2, Store.set_same]
  have he0 : (((m.set xb (.var 170 zE)).set ab (.var 3 [it 0])).set eb (.var 25 [it 0])) eb = some (.var 25 [it 0]) := Store.set_same _ _ _
  generalize (((m.set xb (.var 170 zE)).set ab (.var 3 [it 0])).set eb (.var 25 [it 0])) = S at hS0 hx0 ha0 he0
  obtain ⟨mx, ma, me⟩ := key S hS0 hx0 ha0 he0
  clear key hab heb hxb
  cases hsc : scanR s with
  | error x =>
    obtain ⟨a, e⟩ := x
    have hne : ((e : Int) != 0) = true := by simpa using scanR_ne hsc
    simp only [scanV, ha0, he0, hx0, hne, Store.set_same, Store.set_set, Store.set_ne _ _ n1, Store.set_ne _ _ n2, Store.set_ne _ _ n3, Store.set_ne _ _ n1.symm, Store.set_ne _ _ n2.symm, Store.set_ne _ _ n3.symm, ssS, bin_or, bin_and, Nat.reduceAdd, Nat.reduceLeDiff, reduceIte, eq_self, Nat.reduceEqDiff]
    refine bodyA_ret (resV_cells3 (T1 := 170) (T2 := 3) (cs := zE) (u := .agg zE) (x := it a) (y := it e) (a := xb) (b := ab) (c := eb) rfl ?_ rfl rfl ?_ rfl (Store.set_same _ _ _)) ⟨_, rfl, ?_, ?_⟩
    · show (Store.set _ _ _) _ = _
      rw [Store.set_ne _ _ n3, Store.set_ne _ _ n1, Store.set_same]
    · show (Store.set _ _ _) _ = _
      rw [Store.set_ne _ _ n2, Store.set_same]
    · simp only [readS, hsc, triV, exO, exV, exVs, weak, weaks]
      rfl
    · exact ((((hS0.out ma _).out me _).out mx _).out ma _).out me _
  | ok l =>
    have hg := scanR_good hsc
    obtain ⟨p, hp, hsg, hfit⟩ := run_expr hg
    have hl := scanR_len hsc
    have hrd : readS s = readT l := by unfold readS; rw [hsc]
    simp only [scanV, ha0, he0, hx0, Store.set_same, Store.set_set, Store.set_ne _ _ n1, Store.set_ne _ _ n2, Store.set_ne _ _ n3, Store.set_ne _ _ n1.symm, Store.set_ne _ _ n2.symm, Store.set_ne _ _ n3.symm, show ((0 : Int) != 0) = false from rfl, runA_O, put_none, awpP_row, awpP_seq, runP_cons, runP_nil, ssS, bin_or, bin_and, Nat.reduceAdd, Nat.reduceLeDiff, reduceIte, eq_self, Nat.reduceEqDiff]
    have e1 : S.set ab (.var 3 [V.val (Value.int IntKind.i64 0)]) = S := Store.set_eq S ha0
    have e2 : S.set eb (.var 25 [V.val (Value.int IntKind.i64 0)]) = S := Store.set_eq S he0
    rw [e1, e2]
    refine allocS_of fun rb hrb => ?_
    have hrr : (S.set rb (rdr l)) rb = some (rdr l) := Store.set_same _ _ _
    have mr := hS0.none hrb
    have nx := ne_of_some hx0 hrb
    have na := ne_of_some ha0 hrb
    have ne := ne_of_some he0 hrb
    have hst : ∀ (S1 : Store) (t : List V) (l0 l1 : List Tk) (b : Nat), (S.set rb (rdr l0)) b = none → Good l1 → readT l = (none, atOf l1, 6) → tget t 4 = .ptr xb 0 → tget t 5 = .ptr ab 0 → tget t 6 = .ptr eb 0 →
        (∃ c1 c2 c3, S1 = (((S.set xb (.var 170 c1)).set ab (.var 3 [c2])).set eb (.var 25 [c3])).set rb (rdr l1) ∧ c1.length = 5) →
        ADCalls Tryz.prog Γ 170 [.ptr xb 0, .ptr ab 0, .ptr eb 0] (S1.set b (stk l1)) (some (stV b)) (endD [ARes.cell 4 (some 5), ARes.cell 5 none, ARes.cell 6 none] (fun o m' => ∃ v, o = .ret v ∧ weak v = triV (readS s) ∧ SubS m m') t) := by
      rintro S1 t l0 l1 b hb hg1 hrt g1 g2 g3 ⟨c1, c2, c3, rfl, hc1⟩
      have hb' : S b = none := by
        rw [Store.set_ne _ _ (fun e => ne_of_some (Store.set_same S rb (rdr l0)) hb e.symm)] at hb
        exact hb
      have bx := ne_of_some hx0 hb'
      have ba := ne_of_some ha0 hb'
      have be := ne_of_some he0 hb'
      have br : rb ≠ b := ne_of_some (Store.set_same S rb (rdr l0)) hb
      refine (read1_some E.errT (b := b) (a := atOf l1) (c1 := c1) (c2 := c2) (c3 := c3) (Store.set_same _ _ _) ?_ hc1 ?_ ?_ n1 n3 n2).mono ?_
      · rw [Store.set_ne _ _ bx, Store.set_ne _ _ nx, Store.set_ne _ _ n3, Store.set_ne _ _ n1, Store.set_same]
      · rw [Store.set_ne _ _ ba, Store.set_ne _ _ na, Store.set_ne _ _ n2, Store.set_same]
      · rw [Store.set_ne _ _ be, Store.set_ne _ _ ne, Store.set_same]
      · rintro m' ⟨q1, q2, q3, q4⟩
        refine ⟨_, resV_cells3 (a := xb) (b := ab) (c := eb) (u := .agg zE) g1 q1 rfl g2 q2 g3 q3, m', fun _ _ h => h, _, rfl, ?_, fun c x hc => ?_⟩
        · simp only [hrd, hrt, triV, exO, exV, exVs, weak, weaks]
          rfl
        · have k1 : c ≠ xb := fun e => ne_of_some hc mx e
          have k2 : c ≠ ab := fun e => ne_of_some hc ma e
          have k3 : c ≠ eb := fun e => ne_of_some hc me e
          have k4 : c ≠ rb := fun e => ne_of_some hc mr e
          have k5 : c ≠ b := ne_of_some (hS0 c x hc) hb'
          refine q4 c x k1 k2 k3 ?_
          rw [Store.set_ne _ _ k5, Store.set_ne _ _ k4, Store.set_ne _ _ k3, Store.set_ne _ _ k2, Store.set_ne _ _ k1]
          exact hS0 c x hc
    simp only [runP_cons, runP_nil, awpP_row, awpP_seq, ssS, bin_or, bin_and, Nat.reduceAdd, Nat.reduceLeDiff, reduceIte, eq_self, Nat.reduceEqDiff]
    refine callS_pe (S := S.set rb (rdr l)) (Expr1_ok (by omega) hrr hsg hp) (fun es l1 e => ?_) (fun l1 b e hb => ?_)
    · subst e
      obtain ⟨e, rfl⟩ := hsg
      have hg1 := hfit.1
      obtain ⟨tk, l2, rfl⟩ := hg1.ne
      obtain ⟨k, s', n', kids, ln⟩ := e
      simp only [hdV, exV, Store.set_set, Store.set_same, Store.set_ne _ _ nx, Store.set_ne _ _ nx.symm, hx0, rdr, idx_tk, ld5, runP_cons, runP_nil, awpP_row, awpP_seq, awpP_cond, awpP_code, ssS, bin_or, bin_and, Nat.reduceAdd, Nat.reduceLeDiff, reduceIte, eq_self, Nat.reduceEqDiff]
      have hrun : readT l = if tk.k = 0 then (some (.mk k s' n' kids ln), 0, 0) else (none, tk.a, 6) := by
        unfold readT
        rw [hp]
      cases hk : (tk.k != 0)
      · have hk0 : tk.k = 0 := by simpa using hk
        rw [if_pos hk0] at hrun
        simp only [condP_false, leaveD, runP_cons, runP_nil, awpP_row, awpP_seq, awpP_code, Store.set_same, Store.set_set, Store.set_ne _ _ nx, Store.set_ne _ _ nx.symm, Store.set_ne _ _ na, Store.set_ne _ _ na.symm, Store.set_ne _ _ ne, Store.set_ne _ _ ne.symm, Store.set_ne _ _ n1, Store.set_ne _ _ n2, Store.set_ne _ _ n3, Store.set_ne _ _ n1.symm, Store.set_ne _ _ n2.symm, Store.set_ne _ _ n3.symm, hx0, ha0, he0, ssS, bin_or, bin_and, Nat.reduceAdd, Nat.reduceLeDiff, reduceIte, eq_self, Nat.reduceEqDiff]
        refine read1_none.mono ?_
        rintro m' rfl
        refine ⟨_, resV_cells3 (T1 := 170) (T2 := 3) (cs := [it k, bs s', it n', .sl (exVs kids) [] .no, it ln]) (u := .agg [it k, bs s', it n', .sl (exVs kids) [] .no, it ln]) (x := it 0) (y := it 0) (a := xb) (b := ab) (c := eb) rfl ?_ rfl rfl ?_ rfl (Store.set_same _ _ _), _, fun _ _ h => h, _, rfl, ?_, ?_⟩
        · show (Store.set _ _ _) _ = _
          rw [Store.set_ne _ _ n3, Store.set_ne _ _ n1, Store.set_same]
        · show (Store.set _ _ _) _ = _
          rw [Store.set_ne _ _ n2, Store.set_same]
        · rw [hrd, hrun]
          simp only [triV, exO, exV, weak, weaks, weaks_exVs, bs]
        · exact (((hS0.out mr _).out mx _).out ma _).out me _
      · have hk0 : ¬ tk.k = 0 := by simpa using hk
        rw [if_neg hk0] at hrun
        simp only [condP_true]
        have hr2 : ((S.set rb (rdr (tk :: l2))).set xb (.var 170 [it k, bs s', it n', .sl (exVs kids) [] .no, it ln])) rb = some (rdr (tk :: l2)) := by
          rw [Store.set_ne _ _ nx.symm, Store.set_same]
        refine callS_pe (stop_ok (val := hdV) hr2) (by rintro es l3 ⟨⟩) ?_
        rintro l3 b ⟨⟩ hb
        refine hst _ _ (tk :: l2) (tk :: l2) b ?_ hg1 hrun rfl rfl rfl ⟨[it k, bs s', it n', .sl (exVs kids) [] .no, it ln], it 0, it 0, ?_, rfl⟩
        · rw [Store.set_ne _ _ (fun e => ne_of_some (Store.set_same _ _ _) hb e.symm)] at hb
          exact hb
        · rw [set_comm S _ _ nx.symm, Store.set_set, Store.set_eq (S.set xb _) (show (S.set xb _) ab = some (.var 3 [it 0]) by rw [Store.set_ne _ _ n1.symm]; exact ha0), Store.set_eq (S.set xb _) (show (S.set xb _) eb = some (.var 25 [it 0]) by rw [Store.set_ne _ _ n3.symm]; exact he0)]
    · subst e
      have hrun : readT l = (none, atOf l1, 6) := by
        obtain ⟨t, r, rfl⟩ := hfit.1.ne
        unfold readT
        rw [hp]
        rfl
      rw [Store.set_set]
      exact hst _ _ l l1 b hb hfit.1 hrun rfl rfl rfl ⟨zE, it 0, it 0, by rw [Store.set_eq S hx0, Store.set_eq S ha0, Store.set_eq S he0], rfl⟩
end
end Go.Av.Fn
/- Whether a text is an expression's, and a command right. Conditions: the library's functions (LibOk, ParseOk), and what three variables hold. -/
namespace Go.Av.Fn
set_option linter.unusedSimpArgs false
set_option linter.unusedVariables false
set_option maxRecDepth 10000
open Go.Proofs
def exprS (s : List UInt8) : Option Ex × Int × Int :=
  if (readS s).2.2 = 0 then (match (readS s).1 with
    | some e => if depthE e > 24 then (none, 0, 7) else (some e, 0, 0)
    | none => (none, 0, 0))
  else (none, (readS s).2.1, (readS s).2.2)
def writtenB (s : List UInt8) : Bool := (exprS s).2.2 == 0 && decide (s.length ≤ 255)
def rightB (k n : Int) (s : List UInt8) : Bool :=
  if (decide (formOf k = noForm) || (!(formOf k).n && n != 0) || (!(formOf k).s && !(s == [])) || decide (n < (formOf k).least) || decide (n > 4294967296)) = true then false
  else if (!(formOf k).s || ((formOf k).n && s == [])) = true then true
  else writtenB s
theorem readS_size {s : List UInt8} {e : Ex} {x : Int × Int} (h : readS s = (some e, x)) : sizeE e ≤ 4097 := by
  unfold readS at h
  split at h
  · cases h
  · rename_i l hl
    obtain ⟨p, hp, hsg, hfit⟩ := run_expr (scanR_good hl)
    have hlen := scanR_len hl
    unfold readT at h
    rw [hp] at h
    cases p with
    | ok es l1 =>
      obtain ⟨e2, rfl⟩ := hsg
      obtain ⟨tk, l2, rfl⟩ := hfit.1.ne
      have h3 := hfit.2.1
      simp only [sizes] at h3
      simp only at h
      split at h
      · cases h; omega
      · cases h
    | st l1 =>
      obtain ⟨tk, l2, rfl⟩ := hfit.1.ne
      cases h
theorem resV_c5tt {t : List V} {m : Store} {i j k a : Nat} {T1 : TypeId} {cs : List V} {u : V} (h1 : tget t i = .ptr a 0) (h2 : m a = some (.var T1 cs)) (h3 : partV cs 0 (some 5) = some u) :
    resV [.cell i (some 5), .tmp j, .tmp k] ⟨t, m⟩ = some (.tup [u, tget t j, tget t k]) := by
  simp only [resV, resAll, resOne, tget_eq, h1, h2, h3, Option.map_some]
theorem form_eq (xo yo : Operand) (x : Form) : binV Tryz.prog .eql 100 .other xo yo (.agg [bs x.w, it x.least, .val (.bool x.n), .val (.bool x.s)]) (.agg [.val (.string (ByteArray.mk #[])), .val (.int .i64 0), .val (.bool false), .val (.bool false)]) = some (.val (.bool (decide (x = noForm)))) := by
  have h := (struct_eq (P := Tryz.prog) (T := 100) (xo := xo) (yo := yo) (cs := [bs x.w, it x.least, .val (.bool x.n), .val (.bool x.s)]) (cs' := [bs [], it 0, .val (.bool false), .val (.bool false)])
    (xs := [.string ⟨x.w.toArray⟩, .int .i64 x.least, .bool x.n, .bool x.s]) (ys := [.string ⟨([] : List UInt8).toArray⟩, .int .i64 0, .bool false, .bool false])
    (r := ((ByteArray.mk x.w.toArray).toList == (ByteArray.mk ([] : List UInt8).toArray).toList && (x.least == 0 && (x.n == false && (x.s == false && true)))))
    (by kernel_rfl) (by kernel_rfl) (by kernel_rfl) rfl rfl (by kernel_rfl)).1
  have e : ((ByteArray.mk x.w.toArray).toList == (ByteArray.mk ([] : List UInt8).toArray).toList && (x.least == 0 && (x.n == false && (x.s == false && true)))) = decide (x = noForm) := by
    rw [ba_toList, ba_toList, Bool.eq_iff_iff]
    obtain ⟨a, b, c, d⟩ := x
    simp [noForm]
  rw [e] at h
  exact h
section
variable {Γ : Glob} {m : Store}
theorem sExpr_ok (E : Env Γ) (s : List UInt8) : ACalls Tryz.prog Γ 128 [bs s] m fun o m' => o = .ret (triV (exprS s)) ∧ m' = m := by
  refine ACalls.weak (R := fun o m' => ∃ v, o = .ret v ∧ weak v = triV (exprS s) ∧ m' = m) (ACalls.less (A := fun o m' => ∃ v, o = .ret v ∧ weak v = triV (exprS s) ∧ SubS m m') ?_ (fun o m' ⟨v, h1, h2, h3⟩ => ⟨m, h3, v, h1, h2, rfl⟩)) ?_ ?_
  rotate_left
  · rintro v m' ⟨_, ⟨⟩, h, rfl⟩
    exact ⟨by rw [h], rfl⟩
  · rintro v m' ⟨_, ⟨⟩, _⟩
  refine acalls_of_awp mixed F128_ok (by rintro v m b x _ ⟨_, ⟨⟩, _⟩) ?_
  simp only [F128, start, List.cons_append, List.nil_append, List.length_cons, List.length_nil, List.replicate, Nat.reduceSub, Nat.reduceAdd]
  simp only [ssS, bin_or, bin_and, Nat.reduceAdd, Nat.reduceLeDiff, reduceIte, eq_self, Nat.reduceEqDiff]
  refine allocS_of fun b2 hb2 => ?_
  simp only [ssS, bin_or, bin_and, Nat.reduceAdd, Nat.reduceLeDiff, reduceIte, eq_self, Nat.reduceEqDiff]
  refine callS_pure (read_ok E s) ?_
  obtain ⟨k, s', n', kids, ln, hex, hsz, hO⟩ : ∃ k s' n' kids ln, exO (readS s).1 = exV (.mk k s' n' kids ln) ∧ sizeE (.mk k s' n' kids ln) ≤ 4097 ∧ ((readS s).1 = some (.mk k s' n' kids ln) ∨ ((readS s).1 = none ∧ Ex.mk k s' n' kids ln = .mk 0 [] 0 [] 0)) := by
    cases hr : (readS s).1 with
    | none => exact ⟨0, [], 0, [], 0, rfl, by simp [sizeE, sizes], .inr ⟨rfl, rfl⟩⟩
    | some e =>
      have hs := readS_size (s := s) (e := e) (x := (readS s).2) (by rw [← hr])
      obtain ⟨k, s', n', kids, ln⟩ := e
      exact ⟨k, s', n', kids, ln, rfl, hs, .inl rfl⟩
  simp only [triV, hex, exV, ssS, bin_or, bin_and, Nat.reduceAdd, Nat.reduceLeDiff, reduceIte, eq_self, Nat.reduceEqDiff]
  refine allocS_of fun b5 hb5 => ?_
  have h25 : b2 ≠ b5 := ne_of_some (Store.set_same _ _ _) hb5
  have hS : ∀ x y z, SubS m (((m.set b2 x).set b5 y).set b2 z) := fun x y z => (((SubS.refl m).out hb2 _).out (by rw [Store.set_ne _ _ h25.symm] at hb5; exact hb5) _).out hb2 _
  simp only [Store.set_same, Store.set_set, ssS, bin_or, bin_and, Nat.reduceAdd, Nat.reduceLeDiff, reduceIte, eq_self, Nat.reduceEqDiff]
  cases hne : ((readS s).2.2 != 0)
  · have h0 : (readS s).2.2 = 0 := by simpa using hne
    simp only [Store.set_same, ssS, bin_or, bin_and, Nat.reduceAdd, Nat.reduceLeDiff, reduceIte, eq_self, Nat.reduceEqDiff]
    refine callS_pure (depth_ok 4097 (.mk k s' n' kids ln) _ hsz (by omega)) ?_
    simp only [ssS, bin_or, bin_and, Nat.reduceAdd, Nat.reduceLeDiff, reduceIte, eq_self, Nat.reduceEqDiff]
    refine condS_split (fun hc => ?_) (fun hc => ?_)
    · have hd : depthE (.mk k s' n' kids ln) > 24 := by have := of_decide_eq_true hc; omega
      simp only [Store.set_ne _ _ h25, Store.set_same, ssS, bin_or, bin_and, Nat.reduceAdd, Nat.reduceLeDiff, reduceIte, eq_self, Nat.reduceEqDiff]
      refine bodyA_ret (resV_c5tt (T1 := 170) (a := b2) (cs := zE) (u := .agg zE) rfl (Store.set_same _ _ _) rfl) ⟨_, rfl, ?_, hS _ _ _⟩
      rcases hO with h1 | ⟨h1, h2⟩
      · simp only [exprS, h0, if_true, h1, if_pos hd, exO, exV, exVs, weak, weaks]
        rfl
      · rw [h2] at hd
        simp [depthE, depths] at hd
    · have hd : ¬ depthE (.mk k s' n' kids ln) > 24 := by have := of_decide_eq_false hc; omega
      simp only [Store.set_ne _ _ h25, Store.set_same, ssS, bin_or, bin_and, Nat.reduceAdd, Nat.reduceLeDiff, reduceIte, eq_self, Nat.reduceEqDiff]
      refine bodyA_ret (resV_c5tt (T1 := 170) (a := b2) (cs := [it k, bs s', it n', .sl (exVs kids) [] .no, it ln]) (u := .agg [it k, bs s', it n', .sl (exVs kids) [] .no, it ln]) rfl (Store.set_same _ _ _) rfl) ⟨_, rfl, ?_, hS _ _ _⟩
      rcases hO with h1 | ⟨h1, h2⟩
      · simp only [exprS, h0, if_true, h1, if_neg hd, exO, exV, exVs, weak, weaks, weaks_exVs, bs]
        rfl
      · cases h2
        simp only [exprS, h0, if_true, h1, exO, exV, exVs, weak, weaks, bs]
        rfl
  · have h0 : ¬ (readS s).2.2 = 0 := by simpa using hne
    simp only [Store.set_ne _ _ h25, Store.set_same, ssS, bin_or, bin_and, Nat.reduceAdd, Nat.reduceLeDiff, reduceIte, eq_self, Nat.reduceEqDiff]
    refine bodyA_ret (resV_c5tt (T1 := 170) (a := b2) (cs := zE) (u := .agg zE) rfl (Store.set_same _ _ _) rfl) ⟨_, rfl, ?_, hS _ _ _⟩
    simp only [exprS, h0, if_false, exO, exV, exVs, weak, weaks]
    rfl
theorem written_ok (E : Env Γ) (s : List UInt8) : ACalls Tryz.prog Γ 103 [bs s] m fun o m' => o = .ret (.val (.bool (writtenB s))) ∧ m' = m := by
  refine ACalls.less (A := fun o m' => o = .ret (.val (.bool (writtenB s))) ∧ SubS m m') ?_ fun o m' h => ⟨m, h.2, h.1, rfl⟩
  refine acalls_of_awp mixed F103_ok (by rintro v m b x _ ⟨⟨⟩, _⟩) ?_
  simp only [F103, start, List.cons_append, List.nil_append, List.length_cons, List.length_nil, List.replicate, Nat.reduceSub, Nat.reduceAdd]
  simp only [ssS, bin_or, bin_and, Nat.reduceAdd, Nat.reduceLeDiff, reduceIte, eq_self, Nat.reduceEqDiff]
  refine callS_pure (sExpr_ok E s) ?_
  obtain ⟨k, s', n', kids, ln, hex⟩ : ∃ k s' n' kids ln, exO (exprS s).1 = exV (.mk k s' n' kids ln) := by
    cases (exprS s).1 with
    | none => exact ⟨0, [], 0, [], 0, rfl⟩
    | some e => obtain ⟨k, s', n', kids, ln⟩ := e; exact ⟨k, s', n', kids, ln, rfl⟩
  simp only [triV, hex, exV, ssS, bin_or, bin_and, Nat.reduceAdd, Nat.reduceLeDiff, reduceIte, eq_self, Nat.reduceEqDiff]
  refine allocS_of fun b3 hb3 => ?_
  simp only [Store.set_same, Store.set_set, ssS, bin_or, bin_and, Nat.reduceAdd, Nat.reduceLeDiff, reduceIte, eq_self, Nat.reduceEqDiff]
  have hl : decide ((s.length : Int) ≤ 255) = decide (s.length ≤ 255) := by
    rw [decide_eq_decide]
    omega
  cases h0 : ((exprS s).2.2 == 0)
  · simp only [lenV_bs, ssS, bin_or, bin_and, Nat.reduceAdd, Nat.reduceLeDiff, reduceIte, eq_self, Nat.reduceEqDiff]
    refine bodyA_ret resV_one ⟨?_, (SubS.refl m).out hb3 _⟩
    simp only [tget_zero, tget_succ, writtenB, h0]
    rfl
  · simp only [lenV_bs, hl, ssS, bin_or, bin_and, Nat.reduceAdd, Nat.reduceLeDiff, reduceIte, eq_self, Nat.reduceEqDiff]
    refine bodyA_ret resV_one ⟨?_, (SubS.refl m).out hb3 _⟩
    simp only [tget_zero, tget_succ, writtenB, h0]
    rfl
end
end Go.Av.Fn
