/- Structs compared. No condition. -/
import Derived.Laws.StructEq
import Derived.Test.YtmglaebjmaomnaaGreatDoorTAvT
open Bool renaming false_eq_true → zeX
open Option renaming bind_some → zfg
namespace Go.Av
set_option linter.unusedSimpArgs false
set_option linter.unusedVariables false
section
variable {P : Program}
theorem zaA {α β : Type} (s : Sem α) (k : α → Sem β) : zaw P (s >>= k) = (zaw P s).bind fun a => zaw P (k a) := by
 show zaw P (Sem.bind s k) = _
 induction s with
 | pure a => rfl
 | program k' ih => simp only [Sem.bind,zaw]; exact ih _
 | mark m k' ih => simp only [Sem.bind,zaw]; exact ih
 | _ => rfl
theorem zaP {α : Type} (a : α) : zaw P (pure a : Sem α) = some a := rfl
theorem zb0 : zaw P program = some P := rfl
theorem zbk {t : TypeId} {d : TypeDesc} (h : P.underlying t = some d) : zaw P (underlying t) = some d := by
 unfold underlying
 simp only [zaA,zb0,zfg,h]
 rfl
theorem zbJ (d : Nat) (t : TypeId) (xs ys : Array Value) (ht : P.underlying t = some (.struct (P.fieldsOf t))) (hp : P.stoodInHeld t = false) :
  zaw P (Op.equalIn (d + 1) t (.agg xs) (.agg ys)) = zaw P (Op.eqFields d xs ys (P.fieldsOf t).toList) := by
 simp only [Op.equalIn,zaA,zbk ht,zfg,zb0,hp,zeX,if_false]
 rw [← Array.forIn_toList]
 generalize (P.fieldsOf t).toList = fs
 clear ht
 induction fs with
 | nil => simp [Op.eqFields,zaA,zaP]
 | cons f fs ih =>
  simp only [List.forIn_cons,Op.eqFields,zaA]
  split
  ·simp only [zaA]
   cases zaw P (part f.type xs f.offset) with
   | none => rfl
   | some a =>
    simp only [zfg]
    cases zaw P (part f.type ys f.offset) with
    | none => rfl
    | some b =>
     simp only [zfg]
     cases zaw P (Op.equalIn d f.type a b) with
     | none => rfl
     | some r =>
      cases r
      ·rfl
      ·simpa [zaA,zaP] using ih
  ·simpa [zaA,zaP] using ih
def eqField (P : Program) (T : TypeId) : Value → Value → Option Bool
 | .int k a,.int k' b => match P.underlying T with
  | some (.int _) => if k = k' then some (a == b) else none
  | _ => none
 | .string a,.string b => match P.underlying T with
  | some .string => some (a.toList == b.toList)
  | _ => none
 | .bool a,.bool b => match P.underlying T with
  | some .bool => some (a == b)
  | _ => none
 | _,_ => none
theorem zeF {T : TypeId} {a b : Value} {r : Bool} {d : Nat} (h : eqField P T a b = some r) : zaw P (Op.equalIn (d + 1) T a b) = some r := by
 unfold eqField at h
 split at h
 ·split at h
  ·rename_i k x k' y _ k2 hu
   split at h
   ·rename_i hk
    simp only [Op.equalIn,zaA,zbk hu,zfg,hk,if_true,zaP]
    exact h
   ·cases h
  ·cases h
 ·split at h
  ·rename_i x y _ hu
   simp only [Op.equalIn,zaA,zbk hu,zfg,zaP,beq_toListBytes]
   exact h
  ·cases h
 ·split at h
  ·rename_i x y _ hu
   simp only [Op.equalIn,zaA,zbk hu,zfg,zaP]
   exact h
  ·cases h
 ·cases h
def eqF (P : Program) (xs ys : Array Value) : List Field → Option Bool
 | [] => some true
 | f :: fs => if f.name = "_" then eqF P xs ys fs else match zaw P (part f.type xs f.offset), zaw P (part f.type ys f.offset) with
  | some a,some b => match eqField P f.type a b,eqF P xs ys fs with
   | some r,some q => some (r && q)
   | _,_ => none
  | _,_ => none
theorem eqF_sound {xs ys : Array Value} {d : Nat} : ∀ {fs : List Field} {r : Bool},eqF P xs ys fs = some r → zaw P (Op.eqFields (d + 1) xs ys fs) = some r
 | [],r,h => by
  simp only [eqF,Option.some.injEq] at h
  subst h
  rfl
 | f :: fs,r,h => by
  simp only [eqF] at h
  split at h
  ·rename_i hn
   simp only [Op.eqFields,hn,ne_eq,not_true_eq_false,if_false]
   exact eqF_sound h
  ·rename_i hn
   split at h
   ·rename_i a b ha hb
    split at h
    ·rename_i q1 q2 h1 h2
     simp only [Option.some.injEq] at h
     subst h
     simp only [Op.eqFields,ne_eq,hn,not_false_eq_true,if_true,zaA,ha,hb,zfg,zeF (d := d) h1]
     cases q1
     ·rfl
     ·simpa using eqF_sound h2
    ·cases h
   ·cases h
theorem struct_eq {T : TypeId} {xo yo : Operand} {cs cs' : List V} {xs ys : List Value} {r : Bool} (ht : P.underlying T = some (.struct (P.fieldsOf T))) (hp : P.stoodInHeld T = false) (hg : P.eqGuardType P.depth T = false)
  (h1 : raws cs = some xs) (h2 : raws cs' = some ys) (he : eqF P xs.toArray ys.toArray (P.fieldsOf T).toList = some r) :
  binV P .eql T .other xo yo (.agg cs) (.agg cs') = some (.val (.bool r)) ∧ binV P .neq T .other xo yo (.agg cs) (.agg cs') = some (.val (.bool !r)) := by
 have e0 : zaw P (Op.equal T (.agg xs.toArray) (.agg ys.toArray)) = some r := by
  show zaw P (Op.equalIn (9998 + 1 + 1) T _ _) = some r
  rw [zbJ _ _ _ _ ht hp]
  exact eqF_sound he
 have g : ∀ op,zaw P (eqGuard op T xo yo (.agg xs.toArray) (.agg ys.toArray)) = some () := by
  intro op
  unfold eqGuard
  split <;> simp only [Bool.not_true,Bool.not_false,zeX,if_false,if_true,zaA,zb0,zfg,hg,zaP]
 have r1 : raw (.agg cs) = some (.agg xs.toArray) := by simp only [raw,h1,Option.map_some]
 have r2 : raw (.agg cs') = some (.agg ys.toArray) := by simp only [raw,h2,Option.map_some]
 constructor
 ·simp only [binV,zbZ,zaM,zeE,Bool.false_and,Bool.or_self,zeX,if_false,r1,r2,zaA,g,zfg,binOp,e0,zaP,zbn,if_true]
 ·simp only [binV,zbZ,zaM,zeE,Bool.false_and,Bool.or_self,zeX,if_false,r1,r2,zaA,g,zfg,binOp,e0,zaP,zbn,if_true]
end
end Go.Av
