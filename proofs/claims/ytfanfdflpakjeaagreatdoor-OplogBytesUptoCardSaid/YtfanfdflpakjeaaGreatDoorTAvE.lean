/- Structs compared. No condition. -/
import Derived.Laws.StructEq
import Derived.Test.YtfanfdflpakjeaaGreatDoorTAvT
open Option renaming bind_some → zdR
namespace Go.Av
set_option linter.unusedSimpArgs false
set_option linter.unusedVariables false
section
variable {P : Program}
theorem zau {α β : Type} (s : Sem α) (k : α → Sem β) : zam P (s >>= k) = (zam P s).bind fun a => zam P (k a) := by
 show zam P (Sem.bind s k) = _
 induction s with
 | pure a => rfl
 | program k' ih => simp only [Sem.bind, zam]; exact ih _
 | mark m k' ih => simp only [Sem.bind, zam]; exact ih
 | _ => rfl
theorem zaW {α : Type} (a : α) : zam P (pure a : Sem α) = some a := rfl
theorem zcH : zam P program = some P := rfl
theorem zba {t : TypeId} {d : TypeDesc} (h : P.underlying t = some d) : zam P (underlying t) = some d := by
 unfold underlying
 simp only [zau, zcH, zdR, h]
 rfl
theorem zbR (d : Nat) (t : TypeId) (xs ys : Array Value) (ht : P.underlying t = some (.struct (P.fieldsOf t))) (hp : P.stoodInHeld t = false) :
  zam P (Op.equalIn (d + 1) t (.agg xs) (.agg ys)) = zam P (Op.eqFields d xs ys (P.fieldsOf t).toList) := by
 simp only [Op.equalIn, zau, zba ht, zdR, zcH, hp, Bool.false_eq_true, if_false]
 rw [← Array.forIn_toList]
 generalize (P.fieldsOf t).toList = fs
 clear ht
 induction fs with
 | nil => simp [Op.eqFields, zau, zaW]
 | cons f fs ih =>
  simp only [List.forIn_cons, Op.eqFields, zau]
  split
  ·simp only [zau]
   cases zam P (part f.type xs f.offset) with
   | none => rfl
   | some a =>
    simp only [zdR]
    cases zam P (part f.type ys f.offset) with
    | none => rfl
    | some b =>
     simp only [zdR]
     cases zam P (Op.equalIn d f.type a b) with
     | none => rfl
     | some r =>
      cases r
      ·rfl
      ·simpa [zau, zaW] using ih
  ·simpa [zau, zaW] using ih
def eqField (P : Program) (T : TypeId) : Value → Value → Option Bool
 | .int k a, .int k' b => match P.underlying T with
  | some (.int _) => if k = k' then some (a == b) else none
  | _ => none
 | .string a, .string b => match P.underlying T with
  | some .string => some (a.toList == b.toList)
  | _ => none
 | .bool a, .bool b => match P.underlying T with
  | some .bool => some (a == b)
  | _ => none
 | _, _ => none
theorem eqField_sound {T : TypeId} {a b : Value} {r : Bool} {d : Nat} (h : eqField P T a b = some r) : zam P (Op.equalIn (d + 1) T a b) = some r := by
 unfold eqField at h
 split at h
 ·split at h
  ·rename_i k x k' y _ k2 hu
   split at h
   ·rename_i hk
    simp only [Op.equalIn, zau, zba hu, zdR, hk, if_true, zaW]
    exact h
   ·cases h
  ·cases h
 ·split at h
  ·rename_i x y _ hu
   simp only [Op.equalIn, zau, zba hu, zdR, zaW, beq_toListBytes]
   exact h
  ·cases h
 ·split at h
  ·rename_i x y _ hu
   simp only [Op.equalIn, zau, zba hu, zdR, zaW]
   exact h
  ·cases h
 ·cases h
def eqF (P : Program) (xs ys : Array Value) : List Field → Option Bool
 | [] => some true
 | f :: fs => if f.name = "_" then eqF P xs ys fs else match zam P (part f.type xs f.offset), zam P (part f.type ys f.offset) with
  | some a, some b => match eqField P f.type a b, eqF P xs ys fs with
   | some r, some q => some (r && q)
   | _, _ => none
  | _, _ => none
theorem eqF_sound {xs ys : Array Value} {d : Nat} : ∀ {fs : List Field} {r : Bool}, eqF P xs ys fs = some r → zam P (Op.eqFields (d + 1) xs ys fs) = some r
 | [], r, h => by
  simp only [eqF, Option.some.injEq] at h
  subst h
  rfl
 | f :: fs, r, h => by
  simp only [eqF] at h
  split at h
  ·rename_i hn
   simp only [Op.eqFields, hn, ne_eq, not_true_eq_false, if_false]
   exact eqF_sound h
  ·rename_i hn
   split at h
   ·rename_i a b ha hb
    split at h
    ·rename_i q1 q2 h1 h2
     simp only [Option.some.injEq] at h
     subst h
     simp only [Op.eqFields, ne_eq, hn, not_false_eq_true, if_true, zau, ha, hb, zdR, eqField_sound (d := d) h1]
     cases q1
     ·rfl
     ·simpa using eqF_sound h2
    ·cases h
   ·cases h
end
end Go.Av
