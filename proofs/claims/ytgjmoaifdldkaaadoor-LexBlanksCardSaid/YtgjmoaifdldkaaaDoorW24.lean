/- Line ends ahead of a text, and a remark behind it, change no token but for where it is: in plain terms. No condition. -/
import Derived.Test.YtgjmoaifdldkaaaDoorW19
namespace Go.Av.Fn
set_option linter.unusedSimpArgs false
set_option linter.unusedVariables false

theorem tw_app {p : UInt8 → Bool} (hp : p 10 = false) (z : List UInt8) : ∀ r : List UInt8, (r ++ 10 :: z).takeWhile p = r.takeWhile p
  | [] => by rw [List.nil_append, List.takeWhile_cons_of_neg (by simp [hp])]; rfl
  | b :: r => by
    rw [List.cons_append]
    cases hb : p b with
    | true => rw [List.takeWhile_cons_of_pos hb, List.takeWhile_cons_of_pos hb, tw_app hp z r]
    | false => rw [List.takeWhile_cons_of_neg (by simp [hb]), List.takeWhile_cons_of_neg (by simp [hb])]
theorem tw_self {p : UInt8 → Bool} : ∀ l : List UInt8, (∀ x ∈ l, p x = true) → l.takeWhile p = l
  | [], _ => rfl
  | b :: l, h => by rw [List.takeWhile_cons_of_pos (h b (List.mem_cons_self ..)), tw_self l (fun x hx => h x (List.mem_cons_of_mem _ hx))]
theorem pre_app {z : List UInt8} : ∀ (p r : List UInt8), 10 ∉ p → p.isPrefixOf (r ++ 10 :: z) = p.isPrefixOf r
  | [], r, _ => by simp
  | a :: p, [], h => by
    have : (a == (10 : UInt8)) = false := by
      simp only [beq_eq_false_iff_ne, ne_eq]
      rintro rfl
      exact h (List.mem_cons_self ..)
    simp [List.isPrefixOf, this]
  | a :: p, b :: r, h => by
    rw [List.cons_append]
    simp only [List.isPrefixOf]
    rw [pre_app p r (fun k => h (List.mem_cons_of_mem _ k))]
theorem find_congr {α : Type} {p q : α → Bool} : ∀ (l : List α), (∀ x ∈ l, p x = q x) → l.find? p = l.find? q
  | [], _ => rfl
  | a :: l, h => by
    rw [List.find?_cons, List.find?_cons, h a (List.mem_cons_self ..), find_congr l (fun x hx => h x (List.mem_cons_of_mem _ hx))]
theorem qL_nl (z acc : List UInt8) (k : Nat) : qL (10 :: z) acc k = .error 6 := by
  rw [qL.eq_def]
  simp only
  rw [if_neg (by decide), if_pos (.inl (by decide))]
theorem qL_app (z : List UInt8) (r acc : List UInt8) (k : Nat) : qL (r ++ 10 :: z) acc k = qL r acc k := by
  fun_induction qL r acc k with
  | case1 acc k => exact qL_nl z acc k
  | case2 c r acc k h =>
    rw [List.cons_append, qL.eq_def]
    simp only
    rw [if_pos h]
  | case3 c r acc k h h2 =>
    rw [List.cons_append, qL.eq_def]
    simp only
    rw [if_neg h, if_pos h2]
  | case4 c acc k h h2 h3 =>
    rw [List.cons_append, List.nil_append, qL.eq_def]
    simp only
    rw [if_neg h, if_neg h2, if_pos h3, if_pos (by decide)]
  | case5 c acc k h h2 h3 d r h4 =>
    rw [List.cons_append, List.cons_append, qL.eq_def]
    simp only
    rw [if_neg h, if_neg h2, if_pos h3, if_pos h4]
  | case6 c acc k h h2 h3 d r h4 h5 =>
    rw [List.cons_append, List.cons_append, qL.eq_def]
    simp only
    rw [if_neg h, if_neg h2, if_pos h3, if_neg h4, if_pos h5]
  | case7 c acc k h h2 h3 d r h4 h5 ih =>
    rw [List.cons_append, List.cons_append, qL.eq_def]
    simp only
    rw [if_neg h, if_neg h2, if_pos h3, if_neg h4, if_neg h5]
    exact ih
  | case8 c r acc k h h2 h3 h4 =>
    rw [List.cons_append, qL.eq_def]
    simp only
    rw [if_neg h, if_neg h2, if_neg h3, if_pos h4]
  | case9 c r acc k h h2 h3 h4 ih =>
    rw [List.cons_append, qL.eq_def]
    simp only
    rw [if_neg h, if_neg h2, if_neg h3, if_neg h4]
    exact ih

theorem tokL_app (z : List UInt8) {r : List UInt8} (hr : r ≠ []) : tokL (r ++ 10 :: z) = tokL r := by
  cases r with
  | nil => exact absurd rfl hr
  | cons c r =>
    have e1 := tw_app (p := alnum) (by decide) z (c :: r)
    have e2 := tw_app (p := dig) (by decide) z (c :: r)
    have e3 : (signsB.find? fun p => p.isPrefixOf (c :: r ++ 10 :: z)) = signsB.find? fun p => p.isPrefixOf (c :: r) :=
      find_congr signsB fun p hp => pre_app p (c :: r) (by
        have : ∀ p ∈ signsB, 10 ∉ p := by decide
        exact this p hp)
    have e4 : ((c :: r) ++ 10 :: z).drop 1 = r ++ 10 :: z := rfl
    rw [List.cons_append] at e1 e2 e3 e4 ⊢
    unfold tokL
    simp only [e1, e2, e3, List.drop_succ_cons, List.drop_zero, qL_app]

theorem skipL_app (z : List UInt8) (r : List UInt8) (a l : Nat) :
    skipL (r ++ 10 :: z) a l = if r.drop ((skipL r a l).1 - a) = [] then skipL (10 :: z) (skipL r a l).1 (skipL r a l).2 else skipL r a l := by
  fun_induction skipL r a l with
  | case1 r a l h ih =>
    have hp := pre_len h
    have hge := skipL_ge (r := r.drop 1) (a := a + 1) (l := l + 1)
    cases r with
    | nil => simp at hp
    | cons b r =>
      simp only [List.drop_succ_cons, List.drop_zero] at ih hge ⊢
      have h' : [10].isPrefixOf (b :: r ++ 10 :: z) = true := by
        simp only [List.isPrefixOf, List.cons_append, Bool.and_true] at h ⊢
        exact h
      rw [skipL.eq_1 (b :: r ++ 10 :: z), dif_pos h']
      simp only [List.cons_append, List.drop_succ_cons, List.drop_zero]
      rw [ih]
      rw [show (skipL r (a + 1) (l + 1)).1 - a = ((skipL r (a + 1) (l + 1)).1 - (a + 1)) + 1 by omega]
      rfl
  | case2 r a l h h2 ih =>
    have hp : 1 ≤ r.length := by
      rw [Bool.or_eq_true] at h2
      rcases h2 with h2 | h2
      · simpa using pre_len h2
      · simpa using pre_len h2
    have hge := skipL_ge (r := r.drop 1) (a := a + 1) (l := l)
    cases r with
    | nil => simp at hp
    | cons b r =>
      simp only [List.drop_succ_cons, List.drop_zero] at ih hge ⊢
      have h' : ¬ [10].isPrefixOf (b :: r ++ 10 :: z) = true := by
        simp only [List.isPrefixOf, List.cons_append, Bool.and_true] at h ⊢
        exact h
      have h2' : ([32].isPrefixOf (b :: r ++ 10 :: z) || [9].isPrefixOf (b :: r ++ 10 :: z)) = true := by
        rw [pre_app _ _ (by decide), pre_app _ _ (by decide)]
        exact h2
      rw [skipL.eq_1 (b :: r ++ 10 :: z), dif_neg h', dif_pos h2']
      simp only [List.cons_append, List.drop_succ_cons, List.drop_zero]
      rw [ih]
      rw [show (skipL r (a + 1) l).1 - a = ((skipL r (a + 1) l).1 - (a + 1)) + 1 by omega]
      rfl
  | case3 r a l h h2 h3 ih =>
    have hT := (List.takeWhile_sublist notNl (l := r)).length_le
    have hne : r ≠ [] := by rintro rfl; cases h3
    have h' : ¬ [10].isPrefixOf (r ++ 10 :: z) = true := by
      cases r with
      | nil => exact absurd rfl hne
      | cons b r =>
        simp only [List.isPrefixOf, List.cons_append, Bool.and_true] at h ⊢
        exact h
    have h2' : ¬ ([32].isPrefixOf (r ++ 10 :: z) || [9].isPrefixOf (r ++ 10 :: z)) = true := by
      rw [pre_app _ _ (by decide), pre_app _ _ (by decide)]
      exact h2
    have h3' : [47, 47].isPrefixOf (r ++ 10 :: z) = true := by
      rw [pre_app _ _ (by decide)]
      exact h3
    have hge := skipL_ge (r := r.drop (r.takeWhile notNl).length) (a := a + (r.takeWhile notNl).length) (l := l)
    rw [skipL.eq_1 (r ++ 10 :: z), dif_neg h', dif_neg h2', dif_pos h3', tw_app (by decide), List.drop_append_of_le_length hT, ih, List.drop_drop]
    rw [show (r.takeWhile notNl).length + ((skipL (r.drop (r.takeWhile notNl).length) (a + (r.takeWhile notNl).length) l).1 - (a + (r.takeWhile notNl).length)) = (skipL (r.drop (r.takeWhile notNl).length) (a + (r.takeWhile notNl).length) l).1 - a by omega]
  | case4 r a l h h2 h3 =>
    rw [Nat.sub_self, List.drop_zero]
    cases r with
    | nil => simp
    | cons b r =>
      rw [if_neg (by simp)]
      have h' : ¬ [10].isPrefixOf (b :: r ++ 10 :: z) = true := by
        simp only [List.isPrefixOf, List.cons_append, Bool.and_true] at h ⊢
        exact h
      have h2' : ¬ ([32].isPrefixOf (b :: r ++ 10 :: z) || [9].isPrefixOf (b :: r ++ 10 :: z)) = true := by
        rw [pre_app _ _ (by decide), pre_app _ _ (by decide)]
        exact h2
      have h3' : ¬ [47, 47].isPrefixOf (b :: r ++ 10 :: z) = true := by
        rw [pre_app _ _ (by decide)]
        exact h3
      rw [skipL.eq_1, dif_neg h', dif_neg h2', dif_neg h3']

theorem skipL_tail (more : List UInt8) (hm : ∀ c ∈ more, notNl c = true) (a l : Nat) : skipL (10 :: 47 :: 47 :: more) a l = (a + (more.length + 3), l + 1) := by
  have htw : (47 :: 47 :: more).takeWhile notNl = 47 :: 47 :: more := tw_self _ (by
    intro x hx
    rcases List.mem_cons.1 hx with rfl | hx
    · decide
    · rcases List.mem_cons.1 hx with rfl | hx
      · decide
      · exact hm x hx)
  rw [skipL.eq_1, dif_pos (by simp [List.isPrefixOf])]
  simp only [List.drop_succ_cons, List.drop_zero]
  rw [skipL.eq_1, dif_neg (by simp [List.isPrefixOf]), dif_neg (by simp [List.isPrefixOf]), dif_pos (by simp [List.isPrefixOf]), htw, List.drop_length]
  rw [skipL.eq_1, dif_neg (by simp), dif_neg (by simp), dif_neg (by simp)]
  simp only [List.length_cons, Prod.mk.injEq, and_true]
  omega

theorem scanL_app (more : List UInt8) (hm : ∀ c ∈ more, notNl c = true) : ∀ (n : Nat) (r : List UInt8) (a l : Nat) (acc : List Tk), r.length ≤ n →
    (∀ y, scanL r a l acc = .ok y → ∃ y0 t t', y = y0 ++ [t] ∧ scanL (r ++ 10 :: 47 :: 47 :: more) a l acc = .ok (y0 ++ [t'])) ∧ (∀ p, scanL r a l acc = .error p → scanL (r ++ 10 :: 47 :: 47 :: more) a l acc = .error p) := by
  intro n
  induction n with
  | zero => 
    intro r a l acc hr
    obtain rfl := List.eq_nil_of_length_eq_zero (Nat.le_zero.1 hr)
    have e1 : scanL [] a l acc = .ok (acc ++ [⟨0, [], 0, l, a⟩]) := by
      rw [scanL_eq, skipL.eq_1, dif_neg (by simp), dif_neg (by simp), dif_neg (by simp)]
      simp [scanN, tokL]
    have e2 : scanL ([] ++ 10 :: 47 :: 47 :: more) a l acc = .ok (acc ++ [⟨0, [], 0, ((l + 1 : Nat) : Int), ((a + (more.length + 3) : Nat) : Int)⟩]) := by
      rw [List.nil_append, scanL_eq, skipL_tail more hm]
      rw [List.drop_eq_nil_of_le (by simp)]
      simp [scanN, tokL]
    rw [e1, e2]
    exact ⟨fun y hy => ⟨acc, _, _, by cases hy; rfl, rfl⟩, fun p hp => by cases hp⟩
  | succ n ih =>
    intro r a l acc hr
    have hsk := skipL_app (47 :: 47 :: more) r a l
    have hle := skipL_le (r := r) (a := a) (l := l)
    have hge := skipL_ge (r := r) (a := a) (l := l)
    rw [scanL_eq, scanL_eq (r ++ 10 :: 47 :: 47 :: more), hsk]
    generalize hx : skipL r a l = x at hle hge hsk
    by_cases h0 : r.drop (x.1 - a) = []
    · rw [if_pos h0, skipL_tail more hm, h0]
      have hlen : r.length ≤ x.1 - a := List.drop_eq_nil_iff.1 h0
      rw [List.drop_eq_nil_of_le (by simp; omega)]
      simp only [scanN, tokL, if_true]
      exact ⟨fun y hy => ⟨acc, _, _, by cases hy; rfl, rfl⟩, fun p hp => by cases hp⟩
    · rw [if_neg h0, List.drop_append_of_le_length (by omega)]
      have hr' : (r.drop (x.1 - a)).length ≤ r.length := by rw [List.length_drop]; omega
      generalize r.drop (x.1 - a) = r' at h0 hr'
      unfold scanN
      rw [tokL_app _ h0]
      cases ht : tokL r' with
      | error e =>
        simp only [if_neg h0]
        have : ¬ (r' ++ 10 :: 47 :: 47 :: more) = [] := by simp
        simp only [if_neg this]
        exact ⟨(fun y hy => by cases hy), fun p hp => hp⟩
      | ok tn =>
        obtain ⟨t, k⟩ := tn
        have hk := tokL_len ht
        simp only
        rw [List.drop_append_of_le_length hk.2]
        exact ih _ _ _ _ (by rw [List.length_drop]; omega)

def shT (d : Nat) (t : Tk) : Tk := { t with l := t.l + d, a := t.a + d }
theorem skipL_shift (d : Nat) (r : List UInt8) (a l : Nat) : skipL r (a + d) (l + d) = ((skipL r a l).1 + d, (skipL r a l).2 + d) := by
  fun_induction skipL r a l with
  | case1 r a l h ih =>
    rw [skipL.eq_1, dif_pos h, ← ih]
    congr 1 <;> omega
  | case2 r a l h h2 ih =>
    rw [skipL.eq_1, dif_neg h, dif_pos h2, ← ih]
    congr 1
    omega
  | case3 r a l h h2 h3 ih =>
    rw [skipL.eq_1, dif_neg h, dif_neg h2, dif_pos h3, ← ih]
    congr 1
    omega
  | case4 r a l h h2 h3 => rw [skipL.eq_1, dif_neg h, dif_neg h2, dif_neg h3]

theorem scanL_shift (d : Nat) : ∀ (n : Nat) (r : List UInt8) (a l : Nat) (acc : List Tk), r.length ≤ n →
    scanL r (a + d) (l + d) (acc.map (shT d)) = match scanL r a l acc with
      | .ok y => .ok (y.map (shT d))
      | .error (p, e) => .error (p + d, e) := by
  intro n
  induction n with
  | zero =>
    intro r a l acc hr
    obtain rfl := List.eq_nil_of_length_eq_zero (Nat.le_zero.1 hr)
    rw [scanL_eq, scanL_eq [] a l acc, skipL_shift]
    simp [scanN, tokL, shT]
  | succ n ih =>
    intro r a l acc hr
    rw [scanL_eq, scanL_eq r a l acc, skipL_shift]
    have hge := skipL_ge (r := r) (a := a) (l := l)
    generalize skipL r a l = x at hge
    rw [show x.1 + d - (a + d) = x.1 - a by omega]
    have hr' : (r.drop (x.1 - a)).length ≤ r.length := by rw [List.length_drop]; omega
    generalize r.drop (x.1 - a) = r' at hr'
    unfold scanN
    cases ht : tokL r' with
    | error e =>
      by_cases h0 : r' = []
      · simp [h0, shT]
      · simp [h0]
    | ok tn =>
      obtain ⟨t, k⟩ := tn
      have hk := tokL_len ht
      simp only
      have := ih (r'.drop k) (x.1 + k) x.2 (acc ++ [{ t with l := x.2, a := x.1 }]) (by rw [List.length_drop]; omega)
      rw [← this]
      rw [List.map_append, show x.1 + d + k = x.1 + k + d by omega]
      congr 1

theorem scanL_lines : ∀ (n : Nat) (x : List UInt8) (a l : Nat) (acc : List Tk), scanL (List.replicate n 10 ++ x) a l acc = scanL x (a + n) (l + n) acc
  | 0, x, a, l, acc => by simp
  | n + 1, x, a, l, acc => by
    have h := scanL_step (r := List.replicate (n + 1) 10 ++ x) (a := a) (l := l) (k := 1) (l2 := l + 1) (acc := acc) (by
      rw [skipL.eq_1, dif_pos (by simp [List.replicate_succ, List.isPrefixOf])])
    rw [h, List.replicate_succ, List.cons_append, List.drop_succ_cons, List.drop_zero, scanL_lines n]
    congr 1 <;> omega

/-- Where tokens are. -/
theorem scanL_where : ∀ (n : Nat) (r : List UInt8) (a l : Nat) (acc y : List Tk), r.length ≤ n → scanL r a l acc = .ok y → ∀ t ∈ y, t ∈ acc ∨ (0 ≤ t.l ∧ t.l ≤ l + r.length ∧ 0 ≤ t.a ∧ t.a ≤ a + r.length) := by
  intro n
  induction n with
  | zero =>
    intro r a l acc y hr h t ht
    obtain rfl := List.eq_nil_of_length_eq_zero (Nat.le_zero.1 hr)
    rw [scanL_eq, skipL.eq_1, dif_neg (by simp), dif_neg (by simp), dif_neg (by simp)] at h
    simp [scanN, tokL] at h
    subst h
    rcases List.mem_append.1 ht with h | h
    · exact .inl h
    · rw [List.mem_singleton] at h
      subst h
      exact .inr (by simp)
  | succ n ih =>
    intro r a l acc y hr h t ht
    rw [scanL_eq] at h
    have hle := skipL_le (r := r) (a := a) (l := l)
    have hge := skipL_ge (r := r) (a := a) (l := l)
    generalize skipL r a l = x at h hle hge
    have hd : (r.drop (x.1 - a)).length = r.length - (x.1 - a) := List.length_drop
    generalize r.drop (x.1 - a) = r' at h hd
    unfold scanN at h
    cases htk : tokL r' with
    | error e =>
      rw [htk] at h
      simp only at h
      split at h
      · cases h
        rcases List.mem_append.1 ht with h | h
        · exact .inl h
        · rw [List.mem_singleton] at h
          subst h
          right
          simp only
          omega
      · cases h
    | ok tn =>
      obtain ⟨t0, k⟩ := tn
      have hk := tokL_len htk
      rw [htk] at h
      simp only at h
      have hd2 : (r'.drop k).length = r'.length - k := List.length_drop
      rcases ih _ _ _ _ _ (by omega) h t ht with h1 | h1
      · rcases List.mem_append.1 h1 with h1 | h1
        · exact .inl h1
        · rw [List.mem_singleton] at h1
          subst h1
          right
          simp only
          omega
      · right
        omega

/-- The law: line ends ahead, and a remark behind. -/
theorem blanks_law (s more : List UInt8) (n : Nat) (hs : s.length ≤ 3000) (hn : n ≤ 100) (hl : more.length ≤ 500) (hm : ∀ c ∈ more, notNl c = true) :
    (∀ y, scanR s = .ok y → ∃ y0 t t', y = y0 ++ [t] ∧ scanR (List.replicate n 10 ++ s ++ [10, 47, 47] ++ more) = .ok (y0.map (shT n) ++ [t']) ∧ ∀ u ∈ y0, 0 ≤ u.l ∧ u.l ≤ 4000 ∧ 0 ≤ u.a ∧ u.a ≤ 4000) ∧
    (∀ p e, scanR s = .error (p, e) → scanR (List.replicate n 10 ++ s ++ [10, 47, 47] ++ more) = .error (p + n, e)) := by
  have e0 : scanR s = scanL s 0 1 [] := by unfold scanR; rw [if_neg (by omega)]
  have e1 : List.replicate n 10 ++ s ++ [10, 47, 47] ++ more = List.replicate n 10 ++ (s ++ 10 :: 47 :: 47 :: more) := by simp
  have e2 : scanR (List.replicate n 10 ++ s ++ [10, 47, 47] ++ more) = scanL (s ++ 10 :: 47 :: 47 :: more) (0 + n) (1 + n) ([].map (shT n)) := by
    unfold scanR
    rw [if_neg (by simp; omega), e1, scanL_lines]
    rfl
  rw [e2, scanL_shift n _ _ _ _ _ (Nat.le_refl _), e0]
  obtain ⟨h1, h2⟩ := scanL_app more hm s.length s 0 1 [] (Nat.le_refl _)
  constructor
  · intro y hy
    obtain ⟨y0, t, t', rfl, h3⟩ := h1 y hy
    refine ⟨y0, t, shT n t', rfl, ?_, fun u hu => ?_⟩
    · rw [h3]
      simp
    · rcases scanL_where _ _ _ _ _ _ (Nat.le_refl _) hy u (List.mem_append_left _ hu) with h | h
      · cases h
      · omega
  · intro p e hp
    rw [h2 _ hp]
end Go.Av.Fn
