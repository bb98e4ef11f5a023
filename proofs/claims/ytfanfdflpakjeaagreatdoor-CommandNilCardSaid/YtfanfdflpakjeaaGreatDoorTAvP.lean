/- Going through code with rows that change: made, looked into, set. No condition. -/
import Derived.Test.YtfanfdflpakjeaaGreatDoorTAvN
namespace Go.Av
set_option linter.unusedSimpArgs false
set_option linter.unusedVariables false
section
variable {P : Program} {Γ : Glob} {Kp : V → Store → Prop} {s : List (Tmp × Option (Tmp × Bool) × AOp)} {l : List Item} {K : St → Prop} {t : List V} {m : Store} {d : Option Tmp}
theorem e_mks {e : TypeId} {a : Nat} {z : List V} {x y : Operand} : effB (.mks e a z x y) = true := (rfl)

/-- A row made. -/
def mksS (P : Program) (Γ : Glob) (Kp : V → Store → Prop) (e : TypeId) (bytes : Nat) (z : List V) (len cap : V) (d : Option Tmp) (s : List (Tmp × Option (Tmp × Bool) × AOp)) (l : List Item) (K : St → Prop) (t : List V) (m : Store) : Prop := match len, cap with
  | .val (.int .i64 x), .val (.int .i64 c) => 0 ≤ x ∧ x ≤ c ∧ c.toNat * bytes ≤ 140737488355328 ∧ ∀ b, m b = none → thenO P Γ Kp s l K (putO t (m.set b (.var e (List.replicate c.toNat z).flatten)) d (some (.arr b 0 x.toNat c.toNat)))
  | _, _ => False
theorem runO_mks {e : TypeId} {bytes : Nat} {z : List V} {x y : Operand} : runO P Γ Kp (⟨d, none, .mks e bytes z x y, s⟩ :: l) K (some ⟨t, m⟩) = mksS P Γ Kp e bytes z (ev Γ t x) (ev Γ t y) d s l K t m := by
  show (match ev Γ t x, ev Γ t y with
    | .val (.int .i64 x), .val (.int .i64 c) => _
    | _, _ => False) = _
  unfold mksS
  split <;> rfl
theorem mksS_of {e : TypeId} {bytes : Nat} {v : V} {n : Nat} (hb : n * bytes ≤ 140737488355328) (h : ∀ b, m b = none → thenO P Γ Kp s l K (putO t (m.set b (.var e (List.replicate n v))) d (some (.arr b 0 n n)))) :
    mksS P Γ Kp e bytes [v] (it n) (it n) d s l K t m := by
  refine ⟨Int.natCast_nonneg n, Int.le_refl _, by simpa using hb, fun b hm => ?_⟩
  have := h b hm
  have e : (List.replicate ((n : Int)).toNat [v]).flatten = List.replicate n v := by
    rw [Int.toNat_natCast]
    clear this h hb
    induction n with
    | zero => rfl
    | succ n ih => rw [List.replicate_succ, List.replicate_succ, List.flatten_cons, ih]; rfl
  rw [e]
  simpa using this
theorem idxLV_arr {size b o len cap : Nat} {k : IntKind} {i : Nat} (h : i < len) : idxLV size (.arr b o len cap) (.val (.int k (i : Int))) = some (.ptr b (o + i * size)) := by
  simp [idxLV, h]
theorem next_i64 {i : Nat} (h : i < 4611686018427387904) : IntKind.i64.wrap ((i : Int) + 1) = ((i + 1 : Nat) : Int) := by
  rw [wrap_i64 (by omega) (by omega)]
  simp
theorem resV_two {a b : Nat} {st : St} : resV [.tmp a, .tmp b] st = some (.tup [tget st.t a, tget st.t b]) := by
  simp only [resV, resAll, resOne, tget_eq, Option.map_some]
theorem resV_three {a b c : Nat} {st : St} : resV [.tmp a, .tmp b, .tmp c] st = some (.tup [tget st.t a, tget st.t b, tget st.t c]) := by
  simp only [resV, resAll, resOne, tget_eq, Option.map_some]
end
end Go.Av
