/- Commands put are got as they were: plain laws. No condition. -/
import Derived.Lib.ItoaLen
import Derived.Lib.ParseIntBCases
import Derived.Test.YtfanfdflpakjeaaGreatDoorTFh
open Bool renaming eq_iff_iff → ze8, not_true → zeI, not_false → zeH, false_eq_true → zeB, and_eq_true → zeA
open Int renaming reduceBEq → zev, reduceBNe → zew, toNat_natCast → zeX
open List renaming length_append → zeK, length_cons → zey, getElem?_map → ze9, length_map → zeL, range → zeP, map → ze2, getElem?_eq_getElem → zeC, mem_of_getElem? → ze4, mem_cons_self → zeG, mem_cons_of_mem → zeJ, length_nil → zeE, append_nil → ze5, length_take → ze0, map_append → ze1, append_assoc → zeM
open Nat renaming reduceSub → zez, reduceAdd → zeu, reduceLeDiff → zer, reduceEqDiff → zes, reduceLT → zex, le_refl → zeY
open Option renaming getD_none → zeR, getD_some → zeN, bind_some → zeO
namespace Go.Av.Fn
set_option linter.unusedSimpArgs false
set_option linter.unusedVariables false
open Go.Lib
theorem drop_mid {α : Type} (a b : List α) : (a ++ b).drop a.length = b := by simp
theorem rInt_put {n : Int} (h : Av.I64 n) (a r : List UInt8) : rInt (a ++ (uvarint (zigzag n) ++ r)) a.length 0 = (n, a.length + (uvarint (zigzag n)).length, 0) := by
 unfold rInt
 rw [drop_mid, Av.numL_put h r]
 simp
theorem countL_put {n : Nat} (h : Av.I64 n) (r : List UInt8) (most : Int) (hm : 0 ≤ most) : zbg (uvarint (zigzag n) ++ r) most = if (n : Int) > most then (0, 0, 5) else ((n : Int), (uvarint (zigzag n)).length, 0) := by
 unfold zbg
 rw [Av.numL_put h r]
 simp only [ne_eq, not_true_eq_false, if_false]
 rw [if_neg (by omega), Int.max_eq_right hm]
theorem textL_put {s : List UInt8} (hs : s.length < 9223372036854775808) (r : List UInt8) (most : Nat) :
  textL (uvarint (zigzag s.length) ++ (s ++ r)) most = if s.length > most then ([], 0, 5) else (s, (uvarint (zigzag s.length)).length + s.length, 0) := by
 have hi : Av.I64 (s.length : Int) := by unfold Av.I64; omega
 unfold textL
 rw [countL_put hi _ _ (by omega)]
 by_cases h : s.length > most
 ·have h' : (s.length : Int) > (most : Int) := by omega
  rw [if_pos h', if_pos h]
  simp
 ·have h' : ¬ (s.length : Int) > (most : Int) := by omega
  rw [if_neg h', if_neg h]
  simp only [ne_eq, not_true_eq_false, if_false]
  have hc : ¬ (s.length : Int) > ((uvarint (zigzag s.length) ++ (s ++ r)).length : Int) - ((uvarint (zigzag s.length)).length : Int) := by
   simp only [zeK]
   omega
  rw [if_neg hc]
  simp
theorem rText_put {s : List UInt8} (hs : s.length < 9223372036854775808) (a r : List UInt8) (most : Nat) :
  zeg (a ++ (uvarint (zigzag s.length) ++ (s ++ r))) a.length 0 most = if s.length > most then ([], a.length, 5) else (s, a.length + ((uvarint (zigzag s.length)).length + s.length), 0) := by
 unfold zeg
 rw [drop_mid, textL_put hs]
 by_cases h : s.length > most
 ·simp [h]
 ·simp [h]
theorem ite255 {α : Type} {n : Nat} (h : n ≤ 255) (x y : α) : (if n > 255 then x else y) = y := if_neg (by omega)
theorem getC_put {k n : Int} {s : List UInt8} (hk : Av.I64 k) (hn : Av.I64 n) (hs : s.length ≤ 255) (a r : List UInt8) : getC (a ++ (putC k n s ++ r)) a.length 0 = ((k, n, s), a.length + (putC k n s).length, 0) := by
 unfold getC putC
 have e1 : a ++ (uvarint (zigzag k) ++ uvarint (zigzag n) ++ (uvarint (zigzag s.length) ++ s) ++ r) = a ++ (uvarint (zigzag k) ++ (uvarint (zigzag n) ++ (uvarint (zigzag s.length) ++ (s ++ r)))) := by simp
 rw [e1, rInt_put hk]
 have e2 : a ++ (uvarint (zigzag k) ++ (uvarint (zigzag n) ++ (uvarint (zigzag s.length) ++ (s ++ r)))) = (a ++ uvarint (zigzag k)) ++ (uvarint (zigzag n) ++ (uvarint (zigzag s.length) ++ (s ++ r))) := by simp
 have l2 : a.length + (uvarint (zigzag k)).length = (a ++ uvarint (zigzag k)).length := by simp
 simp only
 rw [e2, l2, rInt_put hn]
 have e3 : (a ++ uvarint (zigzag k)) ++ (uvarint (zigzag n) ++ (uvarint (zigzag s.length) ++ (s ++ r))) = (a ++ uvarint (zigzag k) ++ uvarint (zigzag n)) ++ (uvarint (zigzag s.length) ++ (s ++ r)) := by simp
 have l3 : (a ++ uvarint (zigzag k)).length + (uvarint (zigzag n)).length = (a ++ uvarint (zigzag k) ++ uvarint (zigzag n)).length := by simp [Nat.add_assoc]
 simp only
 rw [e3, l3]
 have := rText_put (s := s) (by omega) (a ++ uvarint (zigzag k) ++ uvarint (zigzag n)) r 255
 rw [show ((255 : Nat) : Int) = 255 from rfl] at this
 rw [this, ite255 hs]
 simp
 omega
end Go.Av.Fn
/- Commands that are put are got as they were: the statement's function. Conditions as ahead. -/
namespace Go.Av.Fn
set_option linter.unusedSimpArgs false
set_option linter.unusedVariables false
set_option maxRecDepth 10000
open Go.Proofs
theorem zaI {k : Nat} {s : List UInt8} {a : Nat} {e : Int} : nbB k (rdB s a e) := by
 unfold rdB
 simp only [nbS]
theorem nb_cmdT {k : Nat} (c : Int × Int × List UInt8) : nb k (cmdT c) := by
 unfold cmdT cmdV
 simp only [nbS]
theorem nb_cmdV {k : Nat} (a b : Int) (c : List UInt8) : nb k (cmdV a b c) := by
 unfold cmdV
 simp only [nbS]
theorem nbs_cmd1 (a b : Int) (c : List UInt8) : nbs 0 [cmdV a b c] := by
 simp only [nbs_cons, nb_cmdV, nbs_nil, and_self]
theorem putC_len {k n : Int} {t : List UInt8} (hk : Av.I64 k) (hn : Av.I64 n) (ht : t.length < 9223372036854775808) : (putC k n t).length ≤ t.length + 30 := by
 have z1 := Lib.uvarint_length64 (Av.zigzag_u64 hk)
 have z2 := Lib.uvarint_length64 (Av.zigzag_u64 hn)
 have z3 := Lib.uvarint_length64 (Av.zigzag_u64 (n := (t.length : Int)) (by unfold Av.I64; omega))
 simp only [putC, zeK]
 omega
end Go.Av.Fn
/- What a rule leaves is an end of what it read; the document's reader of tokens, in plain terms. No condition. -/
namespace Go.Av.Fn
set_option linter.unusedSimpArgs false
set_option linter.unusedVariables false
def restP : PR → List Tk
 | .ok _ l => l
 | .st l => l
def Sfx (l : List Tk) (r : Option PR) : Prop := ∀ p, r = some p → restP p <:+ l
theorem Sfx.mono {l l' : List Tk} {r : Option PR} (h : Sfx l r) (hl : l <:+ l') : Sfx l' r := fun p hp => (h p hp).trans hl
/-! ### The document's reader -/
end Go.Av.Fn
/- The small steps of the document's reader: what they do. No condition. -/
namespace Go.Av
end Go.Av
namespace Go.Av.Fn
set_option linter.unusedSimpArgs false
set_option linter.unusedVariables false
set_option maxRecDepth 10000
open Go.Proofs
section
variable {Γ : Glob} {m : Store} {rb : Nat} {L l : List Tk} {t : Tk} {s : List UInt8} {b : Bool}
end
end Go.Av.Fn
/- Functions of a cell whose answer is told without its slices' ends. No condition. -/
namespace Go.Av
set_option linter.unusedSimpArgs false
set_option linter.unusedVariables false
section
variable {P : Program} {Γ : Glob} {H : Nat → List (Nat × List Nat) × List Nat} {f : FuncId} {F : AFn} {gs : List Nat} {m : Store}
end
end Go.Av
/- The document's table of signs. No condition. -/
namespace Go.Av.Fn
set_option linter.unusedSimpArgs false
set_option linter.unusedVariables false
set_option maxRecDepth 10000
open Go.Proofs
end Go.Av.Fn
/- The document's rule for what stands between signs. No condition. -/
namespace Go.Av.Fn
set_option linter.unusedSimpArgs false
set_option linter.unusedVariables false
set_option maxRecDepth 10000
open Go.Proofs
end Go.Av.Fn
/- The document's rule for rows of expressions. No condition. -/
namespace Go.Av.Fn
set_option linter.unusedSimpArgs false
set_option linter.unusedVariables false
set_option maxRecDepth 10000
open Go.Proofs
def Ne (r : Option PR) : Prop := ∀ l1, r = some (.st l1) → l1 ≠ []
/-! ### Rows -/
section
variable {Γ : Glob} {m : Store} {rb n : Nat} {L l : List Tk} {t : Tk} {s : List UInt8} {one : Bool} {p : PR}
end
end Go.Av.Fn
/- The document's rule for single expressions. No condition. -/
namespace Go.Av.Fn
set_option linter.unusedSimpArgs false
set_option linter.unusedVariables false
set_option maxRecDepth 10000
open Go.Proofs
section
variable {Γ : Glob} {m : Store} {rb n : Nat} {L l : List Tk} {t : Tk} {s : List UInt8} {one : Bool} {p : PR}
end
end Go.Av.Fn
/- The document's rules all; how deep an expression is. No condition. -/
namespace Go.Av
section
variable {P : Program} {Γ : Glob} {Kp : V → Hl → Prop} {t : List V} {h : Hl}
end
end Go.Av
namespace Go.Av.Fn
set_option linter.unusedSimpArgs false
set_option linter.unusedVariables false
set_option maxRecDepth 10000
open Go.Proofs
end Go.Av.Fn
/- A text's expression by the document. No condition. -/
namespace Go.Av
section
variable {P : Program} {Γ : Glob} {H : Nat → List (Nat × List Nat) × List Nat} {f : FuncId} {F : AFn} {gs : List Nat} {m : Store}
end
end Go.Av
namespace Go.Av.Fn
set_option linter.unusedSimpArgs false
set_option linter.unusedVariables false
set_option maxRecDepth 10000
open Go.Proofs
end Go.Av.Fn
/- Commands printed are parsed as they were; what is parsed is printed as it stood: plain laws. No condition. -/
namespace Go.Av.Fn
set_option linter.unusedSimpArgs false
set_option linter.unusedVariables false
open Go.Lib
/-! ### Cuts -/
/-! ### Forms -/
/-! ### What is parsed -/
end Go.Av.Fn
/- A command that is printed is parsed as it was; what is parsed is printed as it stood: the statement's function, walked. Conditions as ahead; numbers are written. -/
namespace Go.Av.Fn
set_option linter.unusedSimpArgs false
set_option linter.unusedVariables false
set_option maxRecDepth 10000
open Go.Proofs
theorem fin6 {t : List V} {h : Hl} {i : Nat} (ht : tget t i = .val (.bool true)) : bodyH [ARes.tmp i] (fun v _ => nb 0 v ∧ v = .val (.bool true)) .ret ⟨t, h⟩ :=
 zaf zah ⟨by rw [show (⟨t, lk h⟩ : St).t = t from rfl, ht]; exact .val _, ht⟩
theorem cmd_neq (xo yo : Operand) (k n k' n' : Int) (s s' : List UInt8) : binV Tryz.prog .neq 24 .other xo yo (.agg [it k, it n, bs s]) (.agg [it k', it n', bs s']) = some (.val (.bool (!decide (k = k' ∧ n = n' ∧ s = s')))) := by
 have h := (struct_eq (P := Tryz.prog) (T := 24) (xo := xo) (yo := yo) (cs := [it k, it n, bs s]) (cs' := [it k', it n', bs s'])
  (xs := [.int .i64 k, .int .i64 n, .string ⟨s.toArray⟩]) (ys := [.int .i64 k', .int .i64 n', .string ⟨s'.toArray⟩])
  (r := (k == k' && (n == n' && ((ByteArray.mk s.toArray).toList == (ByteArray.mk s'.toArray).toList && true))))
  (by kernel_rfl) (by kernel_rfl) (by kernel_rfl) rfl rfl (by kernel_rfl)).2
 have e : (k == k' && (n == n' && ((ByteArray.mk s.toArray).toList == (ByteArray.mk s'.toArray).toList && true))) = decide (k = k' ∧ n = n' ∧ s = s') := by
  rw [zbN, zbN, ze8]
  simp
 rw [e] at h
 exact h
theorem nbs_c1 (a b : Int) (c : List UInt8) : nbs 0 [.agg [it a, it b, bs c]] := nbs_cmd1 a b c
end Go.Av.Fn
/- Whether a command fits its kind, by the document. No condition. -/
namespace Go.Av.Fn
set_option linter.unusedSimpArgs false
set_option linter.unusedVariables false
set_option maxRecDepth 10000
open Go.Proofs
theorem bs_eq0 {P : Program} {T : TypeId} {xo yo : Operand} {s : List UInt8} : binV P .eql T .other xo yo (bs s) (.val (.string (ByteArray.mk #[]))) = some (.val (.bool (s == []))) := zeq (x := s) (y := [])
theorem bs_ne0 {P : Program} {T : TypeId} {xo yo : Operand} {s : List UInt8} : binV P .neq T .other xo yo (bs s) (.val (.string (ByteArray.mk #[]))) = some (.val (.bool (!(s == [])))) := zep (x := s) (y := [])
section
variable {Γ : Glob} {m : Store}
end
end Go.Av.Fn
/- A number's digits by the document. No condition. -/
namespace Go.Av.Fn
set_option linter.unusedSimpArgs false
set_option linter.unusedVariables false
set_option maxRecDepth 10000
open Go.Proofs Go.Lib
end Go.Av.Fn
/- Whether a command is right by the document. No condition. -/
namespace Go.Av.Fn
set_option linter.unusedSimpArgs false
set_option linter.unusedVariables false
set_option maxRecDepth 10000
open Go.Proofs Go.Lib
section
variable {Γ : Glob} {m : Store}
end
section
variable {Γ : Glob} {m : Store}
end
end Go.Av.Fn
/- Any command is right or not, and has the text that the document says: the statement's function, walked. Conditions az ahead; numbers are written. -/
namespace Go.Av.Fn
set_option linter.unusedSimpArgs false
set_option linter.unusedVariables false
set_option maxRecDepth 10000
open Go.Proofs
end Go.Av.Fn
/- An entry's parts: clients, names. Conditions: az ahead. -/
namespace Go.Av.Fn
set_option linter.unusedSimpArgs false
set_option linter.unusedVariables false
set_option maxRecDepth 10000
open Go.Proofs
def zel (n : Int) : Bool := decide (1 ≤ n) && decide (n ≤ 2147483647)
section
variable {Γ : Glob} {m : Store}
theorem client_ok (n : Int) : zad Tryz.prog Γ 118 [it n] m fun o m' => o = .ret (.val (.bool (zel n))) ∧ m' = m := by
 refine zaG (zbo mixed F118_ok F118_h zaD (by first | exact LR.nil | simp only [nbS]) ?_)
 simp only [F118, ss0, zez, zeu]
 simp only [ge_iff_le, ssH, zeu, zer, reduceIte, zes, zex, zev, zew]
 cases h : decide (1 ≤ n)
 ·simp only [h, ssH, zeu, zer, reduceIte, zes, zex, zev, zew]
  exact zaf zah ⟨(by simp only [zaa, zab, nbS]), by simp only [zel, h]; rfl⟩
 ·simp only [h, ssH, zeu, zer, reduceIte, zes, zex, zev, zew]
  exact zaf zah ⟨(by simp only [zaa, zab, nbS]), by simp only [zel, h]; rfl⟩
def nameB (s : List UInt8) : Bool := !(s == []) && decide (s.length ≤ 20) && !(dig (s.headD 0)) && !(zaW.contains s) && decide ((s.takeWhile fun b => let8 b || dig b).length = s.length)
theorem lname1_ok (b : UInt8) : zad Tryz.prog Γ 186 [by8 b] m fun o m' => o = .ret (.val (.bool (let8 b || dig b))) ∧ m' = m := by
 refine zaG (zbo mixed F186_ok F186_h zaD (by first | exact LR.nil | simp only [nbS]) ?_)
 simp only [F186, ss0, zez, zeu]
 simp only [ssH, zeu, zer, reduceIte, zes, zex, zev, zew]
 refine zaq (by exact fun m => letter_ok b) (by first | exact LR.nil | simp only [nbS]) (by first | exact LR.nil | simp only [nbS]) ?_
 cases h : let8 b
 ·simp only [ssH, zeu, zer, reduceIte, zes, zex, zev, zew]
  refine zaq (by exact fun m => digit_ok b) (by first | exact LR.nil | simp only [nbS]) (by first | exact LR.nil | simp only [nbS]) ?_
  simp only [ssH, zeu, zer, reduceIte, zes, zex, zev, zew]
  exact zaf zah ⟨(by simp only [zaa, zab, nbS]), by simp [tget]⟩
 ·simp only [ssH, zeu, zer, reduceIte, zes, zex, zev, zew]
  exact zaf zah ⟨(by simp only [zaa, zab, nbS]), by simp [tget]⟩
theorem lname_ok (hw : Γ 3 = some (zaW.map bs)) (s : List UInt8) : zad Tryz.prog Γ 156 [bs s] m fun o m' => o = .ret (.val (.bool (nameB s))) ∧ m' = m := by
 refine zaG (zbo mixed F156_ok F156_h zaD (by first | exact LR.nil | simp only [nbS]) ?_)
 simp only [F156, ss0, zez, zeu]
 simp only [bs_ne0, ssH, zeu, zer, reduceIte, zes, zex, zev, zew]
 cases s with
 | nil =>
  have h0 : (([] : List UInt8) == []) = true := rfl
  have hn : nameB [] = false := rfl
  simp only [h0, zeI, hn, ssH, zeu, zer, reduceIte, zes, zex, zev, zew]
  exact zaf zah ⟨(by simp only [zaa, zab, nbS]), rfl⟩
 | cons b r =>
  have h0 : ((b :: r) == []) = false := rfl
  have hx : idxStrV (bs (b :: r)) (.val (.int .i64 0)) = some (by8 b) := idx_bs (i := 0) rfl
  by_cases hl : (b :: r).length ≤ 20
  ·have hd : decide (((r.length + 1 : Nat) : Int) ≤ 20) = true := by
    simp only [zey] at hl
    simp
    omega
   have hl2 : decide ((b :: r).length ≤ 20) = true := by simpa using hl
   simp only [h0, zeH, hd, hx, ssH, zeu, zer, reduceIte, zes, zex, zev, zew]
   refine zaq (by exact fun m => digit_ok b) (by first | exact LR.nil | simp only [nbS]) (by first | exact LR.nil | simp only [nbS]) ?_
   cases h1 : dig b
   ·simp only [ssH, zeu, zer, reduceIte, zes, zex, zev, zew]
    refine zaq (by exact fun m => Word_ok hw (b :: r)) (by first | exact LR.nil | simp only [nbS]) (by first | exact LR.nil | simp only [nbS]) ?_
    cases h2 : zaW.contains (b :: r)
    ·simp only [ssH, zeu, zer, reduceIte, zes, zex, zev, zew]
     refine zaq (by exact fun m => row_ok (b :: r) (by omega) (p := fun b => let8 b || dig b) (fun b => lname1_ok b)) (by first | exact LR.nil | simp only [nbS]) (by first | exact LR.nil | simp only [nbS]) ?_
     simp only [ssH, zeu, zer, reduceIte, zes, zex, zev, zew]
     refine zaf zah ⟨(by simp only [zaa, zab, nbS]), ?_⟩
     have e : (((((b :: r).takeWhile fun b => let8 b || dig b).length : Nat) : Int) == ((r.length + 1 : Nat) : Int)) = nameB (b :: r) := by
      simp only [nameB, h0, hl2, List.headD_cons, h1, h2, zeH, Bool.true_and]
      rw [ze8, beq_iff_eq, decide_eq_true_eq, zey]
      omega
     exact congrArg (fun b => V.val (.bool b)) e
    ·simp only [ssH, zeu, zer, reduceIte, zes, zex, zev, zew]
     exact zaf zah ⟨(by simp only [zaa, zab, nbS]), by simp only [zaa, zab, nameB, h0, hl2, List.headD_cons, h1, h2]; rfl⟩
   ·simp only [ssH, zeu, zer, reduceIte, zes, zex, zev, zew]
    exact zaf zah ⟨(by simp only [zaa, zab, nbS]), by simp only [zaa, zab, nameB, h0, hl2, List.headD_cons, h1]; rfl⟩
  ·have hd : decide (((r.length + 1 : Nat) : Int) ≤ 20) = false := by
    simp only [zey] at hl
    simp
    omega
   have hl2 : decide ((b :: r).length ≤ 20) = false := by simpa using hl
   simp only [h0, zeH, hd, ssH, zeu, zer, reduceIte, zes, zex, zev, zew]
   exact zaf zah ⟨(by simp only [zaa, zab, nbS]), by simp only [zaa, zab, nameB, h0, hl2]; rfl⟩
end
section
variable {Γ : Glob} {m : Store}
theorem lTextName_ok (hw : Γ 3 = some (zaW.map bs)) (s : List UInt8) : zad Tryz.prog Γ 133 [.agg [it 1, bs s, it 0, it 0, it 0]] m fun o m' => o = .ret (.tup [bs (if nameB s = true then s else []), it (if nameB s = true then 0 else 2)]) ∧ m' = m := by
 refine zaG (zbo mixed F133_ok F133_h zaD (by first | exact LR.nil | simp only [nbS]) ?_)
 simp only [F133, ss0, zez, zeu]
 simp only [ssH, zeu, zer, reduceIte, zes, zex, zev, zew]
 refine zaq (by exact fun m => lname_ok hw s) (by first | exact LR.nil | simp only [nbS]) (by first | exact LR.nil | simp only [nbS]) ?_
 cases h : nameB s
 ·simp only [zeB, if_false, ssH, zeu, zer, reduceIte, zes, zex, zev, zew]
  exact zaf resV_two ⟨(by simp only [zaa, zab, nbS]), rfl⟩
 ·simp only [if_true, ssH, zeu, zer, reduceIte, zes, zex, zev, zew]
  exact zaf resV_two ⟨(by simp only [zaa, zab, nbS]), rfl⟩
theorem oName_ok (hw : Γ 3 = some (zaW.map bs)) (s : List UInt8) : zad Tryz.prog Γ 119 [bs s] m fun o m' => o = .ret (.val (.bool (nameB s))) ∧ m' = m := by
 refine zaG (zbo mixed F119_ok F119_h zaD (by first | exact LR.nil | simp only [nbS]) ?_)
 simp only [F119, ss0, zez, zeu]
 simp only [ssH, zeu, zer, reduceIte, zes, zex, zev, zew]
 refine zaq (by exact fun m => lTextName_ok hw s) (by first | exact LR.nil | simp only [nbS]) (by first | exact LR.nil | simp only [nbS]) ?_
 cases h : nameB s
 ·simp only [zeB, if_false, ssH, zeu, zer, reduceIte, zes, zex, zev, zew]
  exact zaf zah ⟨(by simp only [zaa, zab, nbS]), rfl⟩
 ·simp only [if_true, ssH, zeu, zer, reduceIte, zes, zex, zev, zew]
  exact zaf zah ⟨(by simp only [zaa, zab, nbS]), rfl⟩
end
theorem cmd_ne00 (xo yo : Operand) (k n : Int) (s : List UInt8) : binV Tryz.prog .neq 24 .other xo yo (.agg [it k, it n, bs s]) (.agg [.val (.int .i64 0), .val (.int .i64 0), .val (.string (ByteArray.mk #[]))]) = some (.val (.bool (!decide (k = 0 ∧ n = 0 ∧ s = [])))) := cmd_neq xo yo k n 0 0 s []
structure Ent where
 c : Int
 q : Int
 k : Int
 n : Int
 s : List UInt8
 ck : Int
 cn : Int
 cs : List UInt8
 deriving DecidableEq
def entV (e : Ent) : V := .agg [it e.c, it e.q, it e.k, it e.n, bs e.s, it e.ck, it e.cn, bs e.cs]
def noCmd (e : Ent) : Bool := decide (e.ck = 0 ∧ e.cn = 0 ∧ e.cs = [])
def entB (e : Ent) : Bool := zel e.c && zel e.q &&
 (if e.k = 1 then nameB e.s && (e.n == 0 || e.n == 1) && noCmd e
 else if e.k = 4 then e.s == [] && zel e.n && noCmd e
 else if e.k = 2 ∨ e.k = 3 ∨ e.k = 5 ∨ e.k = 6 then e.s == [] && e.n == 0 && noCmd e
 else if e.k = 7 then e.s == [] && e.n == 0 && zcr e.ck e.cn e.cs
 else false)
section
variable {Γ : Glob} {m : Store}
set_option maxHeartbeats 3200000 in
theorem oCheckE_ok (E : Env Γ) (e : Ent) : zad Tryz.prog Γ 84 [entV e] m fun o m' => o = .ret (it (if entB e = true then 0 else 2)) ∧ m' = m := by
 obtain ⟨c, q, k, n, s, ck, cn, cs⟩ := e
 refine zaG (zbo mixed F84_ok F84_h zaD (by simp only [entV, nbS]) ?_)
 simp only [F84, entV, ss0, zez, zeu]
 simp only [ssH, zeu, zer, reduceIte, zes, zex, zev, zew]
 refine zaq (by exact fun m => client_ok c) (by first | exact LR.nil | simp only [nbS]) (by first | exact LR.nil | simp only [nbS]) ?_
 have hk : k = 1 ∨ k = 4 ∨ k = 2 ∨ k = 3 ∨ k = 5 ∨ k = 6 ∨ k = 7 ∨ (k ≠ 1 ∧ k ≠ 4 ∧ k ≠ 2 ∧ k ≠ 3 ∧ k ≠ 5 ∧ k ≠ 6 ∧ k ≠ 7) := by omega
 cases h1 : zel c
 ·simp only [ssH, zeu, zer, reduceIte, zes, zex, zev, zew]
  rcases hk with rfl | rfl | rfl | rfl | rfl | rfl | rfl | ⟨n1, n4, n2, n3, n5, n6, n7⟩
  case inr.inr.inr.inr.inr.inr.inr =>
   simp only [show (k == 1) = false by simpa using n1, show (k == 4) = false by simpa using n4, show (k == 2) = false by simpa using n2, show (k == 3) = false by simpa using n3, show (k == 5) = false by simpa using n5, show (k == 6) = false by simpa using n6, show (k == 7) = false by simpa using n7, ssH, zeu, zer, reduceIte, zes, zex, zev, zew]
   exact zaf zah ⟨(by simp only [zaa, zab, nbS]), by simp [tget, entB, h1]⟩
  all_goals
   simp only [ssH, zeu, zer, reduceIte, zes, zex, zev, zew]
   exact zaf zah ⟨(by simp only [zaa, zab, nbS]), by simp [tget, entB, h1]⟩
 ·simp only [ssH, zeu, zer, reduceIte, zes, zex, zev, zew]
  refine zaq (by exact fun m => client_ok q) (by first | exact LR.nil | simp only [nbS]) (by first | exact LR.nil | simp only [nbS]) ?_
  simp only [ssH, zeu, zer, reduceIte, zes, zex, zev, zew]
  cases h2 : zel q
  ·rcases hk with rfl | rfl | rfl | rfl | rfl | rfl | rfl | ⟨n1, n4, n2, n3, n5, n6, n7⟩
   case inr.inr.inr.inr.inr.inr.inr =>
    simp only [show (k == 1) = false by simpa using n1, show (k == 4) = false by simpa using n4, show (k == 2) = false by simpa using n2, show (k == 3) = false by simpa using n3, show (k == 5) = false by simpa using n5, show (k == 6) = false by simpa using n6, show (k == 7) = false by simpa using n7, ssH, zeu, zer, reduceIte, zes, zex, zev, zew]
    exact zaf zah ⟨(by simp only [zaa, zab, nbS]), by simp [tget, entB, h2]⟩
   all_goals
    simp only [ssH, zeu, zer, reduceIte, zes, zex, zev, zew]
    exact zaf zah ⟨(by simp only [zaa, zab, nbS]), by simp [tget, entB, h2]⟩
  ·rcases hk with rfl | rfl | rfl | rfl | rfl | rfl | rfl | ⟨n1, n4, n2, n3, n5, n6, n7⟩
   case inr.inr.inr.inr.inr.inr.inr =>
    simp only [show (k == 1) = false by simpa using n1, show (k == 4) = false by simpa using n4, show (k == 2) = false by simpa using n2, show (k == 3) = false by simpa using n3, show (k == 5) = false by simpa using n5, show (k == 6) = false by simpa using n6, show (k == 7) = false by simpa using n7, ssH, zeu, zer, reduceIte, zes, zex, zev, zew]
    exact zaf zah ⟨(by simp only [zaa, zab, nbS]), by simp [tget, entB, n1, n2, n3, n4, n5, n6, n7]⟩
   case inr.inr.inr.inr.inr.inr.inl =>
    cases h3 : (s == []) <;> cases h4 : (n == 0) <;> simp only [bs_ne0, bne, h3, h4, zeI, zeH, ssH, zeu, zer, reduceIte, zes, zex, zev, zew]
    case true.true =>
     refine zaq (by exact fun m => cCheck_ok E ck cn cs) (nbs_c1 _ _ _) (by first | exact LR.nil | simp only [nbS]) ?_
     simp only [ssH, zeu, zer, reduceIte, zes, zex, zev, zew]
     refine zaf zah ⟨(by simp only [zaa, zab, nbS]), ?_⟩
     simp only [zaa, zab, entB, h1, h2, h3, h4]
     cases zcr ck cn cs <;> rfl
    all_goals exact zaf zah ⟨(by simp only [zaa, zab, nbS]), by simp only [zaa, zab, entB, h1, h2, h3, h4]; rfl⟩
   case inl =>
    simp only [ssH, zeu, zer, reduceIte, zes, zex, zev, zew]
    refine zaq (by exact fun m => oName_ok E.words s) (by first | exact LR.nil | simp only [nbS]) (by first | exact LR.nil | simp only [nbS]) ?_
    cases h3 : nameB s <;> cases h4 : (n == 0) <;> cases h6 : (n == 1) <;> cases h5 : decide (ck = 0 ∧ cn = 0 ∧ cs = []) <;> simp only [h4, h6, cmd_ne00, h5, zeI, zeH, ssH, zeu, zer, reduceIte, zes, zex, zev, zew] <;> exact zaf zah ⟨(by simp only [zaa, zab, nbS]), by simp only [zaa, zab, entB, noCmd, h1, h2, h3, h4, h5, h6]; rfl⟩
   case inr.inl =>
    cases h3 : (s == [])
    ·simp only [bs_eq0, h3, ssH, zeu, zer, reduceIte, zes, zex, zev, zew]
     exact zaf zah ⟨(by simp only [zaa, zab, nbS]), by simp only [zaa, zab, entB, h1, h2, h3]; rfl⟩
    ·simp only [bs_eq0, h3, ssH, zeu, zer, reduceIte, zes, zex, zev, zew]
     refine zaq (by exact fun m => client_ok n) (by first | exact LR.nil | simp only [nbS]) (by first | exact LR.nil | simp only [nbS]) ?_
     cases h4 : zel n <;> cases h5 : decide (ck = 0 ∧ cn = 0 ∧ cs = []) <;> simp only [cmd_ne00, h5, zeI, zeH, ssH, zeu, zer, reduceIte, zes, zex, zev, zew] <;> exact zaf zah ⟨(by simp only [zaa, zab, nbS]), by simp only [zaa, zab, entB, noCmd, h1, h2, h3, h4, h5]; rfl⟩
   all_goals
    cases h3 : (s == []) <;> cases h4 : (n == 0) <;> cases h5 : decide (ck = 0 ∧ cn = 0 ∧ cs = []) <;> simp only [bs_eq0, h3, h4, cmd_ne00, h5, zeI, zeH, ssH, zeu, zer, reduceIte, zes, zex, zev, zew] <;> exact zaf zah ⟨(by simp only [zaa, zab, nbS]), by simp only [zaa, zab, entB, noCmd, h1, h2, h3, h4, h5]; rfl⟩
end
structure Lg where
 b : Int
 c : List UInt8
 l : List Ent
def za4 (nn : Bool) (l : List Ent) : V := .sl (l.map entV) [] (if nn then .non else .full)
def lgV (nn : Bool) (x : Lg) : V := .agg [it x.b, bs x.c, za4 nn x.l]
def lgB (x : Lg) : Bool := decide (0 ≤ x.b) && decide (x.b ≤ 2147483647) && decide (x.c.length ≤ 65536) && ((x.c == []) == (x.b == 0)) && decide (x.l.length ≤ 64) && decide ((x.l.length : Int) ≤ 2147483647 - x.b) && x.l.all entB
theorem zaN {k : Nat} (e : Ent) : nb k (entV e) := by simp only [entV, nbS]
theorem zaM {k : Nat} (nn : Bool) (l : List Ent) : nb k (za4 nn l) := by
 cases nn <;> simp only [za4, zeB, if_false, if_true, nbS] <;> exact zdD zaN l
theorem zaJ {k : Nat} (nn : Bool) (x : Lg) : nb k (lgV nn x) := by
 have := zaM (k := k) nn x.l
 simp only [lgV, this, nbS]
theorem idx_ent {l : List Ent} {more : List V} {tok : Tok} {i : Nat} {e : Ent} (h : l[i]? = some e) : idxLV 8 (.sl (l.map entV) more tok) (it i) = some (.elt [it e.c, it e.q, it e.k, it e.n, bs e.s, it e.ck, it e.cn, bs e.cs]) := idxLV_nat (e := entV e) (by rw [ze9, h]; rfl) rfl
section
variable {Γ : Glob} {m : Store}
theorem pIndexF_ok {g : FuncId} {p : Ent → Bool} (hp : ∀ e m, zad Tryz.prog Γ g ([] ++ [entV e] ++ []) m fun o m' => o = .ret (.val (.bool (p e))) ∧ m' = m) (nn : Bool) (l : List Ent) (hl : l.length < 4611686018427387904) :
  zad Tryz.prog Γ 117 [za4 nn l, .fn (.func g) [] []] m fun o m' => (∃ v, o = .ret v ∧ ∃ i : Int, v = it i ∧ decide (0 ≤ i) = l.any p) ∧ m' = m := by
 have hnb := zaM (k := 0) nn l
 refine zbo mixed F117_ok F117_h zaD (by simp only [hnb, nbS]) ?_
 simp only [F117, ss0, zez, zeu]
 simp only [za4, zeL, ssH, zeu, zer, reduceIte, zes, zex, zev, zew]
 refine h_loop [0, 1, 7, 8] 19 (fun n vs h => ∃ i : Nat, vs = [za4 nn l, .fn (.func g) [] [], it l.length, it i] ∧ i + n = l.length + 1 ∧ i ≤ l.length ∧ (l.take i).any p = false) (l.length + 1) (by decide) (by decide) (zeP 0) (back_take rfl (zeY _) (by decide) (by simp) (by show nbs 0 [za4 nn l, .fn (.func g) [] [], it l.length, it 0]; simp only [hnb, nbS]) (fun a ha => by omega) ⟨0, rfl, by omega, by omega, by simp⟩) ?_
 rintro n t h J hJ hlt ⟨i, hv, hn, hi, hpre⟩
 simp only [ze2, List.cons.injEq, and_true] at hv
 obtain ⟨h0, h1, h7, h8⟩ := hv
 rw [t_eq hlt]
 simp only [zav, upTo, h0, h1, h7, h8, za4, ssH, zeu, zer, reduceIte, zes, zex, zev, zew]
 by_cases hil : i < l.length
 ·rw [show decide ((i : Int) < (l.length : Int)) = true by simp; omega]
  have hx : l[i]? = some l[i] := zeC hil
  generalize l[i] = e at hx
  simp only [idx_ent hx, ssH, zeu, zer, reduceIte, zes, zex, zev, zew]
  refine zaq (by exact fun m => hp e m) (by have := zaN (k := 0) e; simp only [entV] at this; simp only [this, nbS]) (by first | exact LR.nil | simp only [nbS]) ?_
  have hany : (l.take (i + 1)).any p = p e := by
   rw [List.take_add_one, hx, List.any_append, hpre]
   simp
  cases he : p e
  ·simp only [zaB (show i < 4611686018427387904 by omega), ssH, zeu, zer, reduceIte, zes, zex, zev, zew]
   refine ⟨_, hJ (n - 1) (zeP 0) _ (by omega) (back_take rfl (zeY _) (by decide) (by simp) (by show nbs 0 [za4 nn l, .fn (.func g) [] [], it l.length, it (i + 1 : Nat)]; simp only [hnb, nbS]) (fun a ha => by omega) ⟨i + 1, rfl, by omega, by omega, by rw [hany, he]⟩)⟩
  ·simp only [ssH, zeu, zer, reduceIte, zes, zex, zev, zew]
   refine zaf zah ⟨(by simp only [zaa, zab, nbS]), i, rfl, ?_⟩
   rw [decide_eq_true (by omega)]
   symm
   rw [List.any_eq_true]
   exact ⟨e, ze4 hx, he⟩
 ·rw [show decide ((i : Int) < (l.length : Int)) = false by simp; omega]
  simp only [ssH, zeu, zer, reduceIte, zes, zex, zev, zew]
  refine zaf zah ⟨(by simp only [zaa, zab, nbS]), -1, rfl, ?_⟩
  rw [show l.take i = l from List.take_of_length_le (by omega)] at hpre
  rw [hpre]
  rfl
theorem pContains_ok {g : FuncId} {p : Ent → Bool} (hp : ∀ e m, zad Tryz.prog Γ g ([] ++ [entV e] ++ []) m fun o m' => o = .ret (.val (.bool (p e))) ∧ m' = m) (nn : Bool) (l : List Ent) (hl : l.length < 4611686018427387904) :
  zad Tryz.prog Γ 82 [za4 nn l, .fn (.func g) [] []] m fun o m' => o = .ret (.val (.bool (l.any p))) ∧ m' = m := by
 have hnb := zaM (k := 0) nn l
 refine zaG (zbo mixed F82_ok F82_h zaD (by simp only [hnb, nbS]) ?_)
 simp only [F82, ss0, zez, zeu]
 simp only [ssH, zeu, zer, reduceIte, zes, zex, zev, zew]
 refine hcall_some (by exact fun m => pIndexF_ok hp nn l hl) (by simp only [hnb, nbS]) (by rintro v ⟨i, rfl, _⟩; exact .val _) ?_
 rintro v ⟨i, rfl, hi⟩
 simp only [ge_iff_le, ssH, zeu, zer, reduceIte, zes, zex, zev, zew]
 exact zaf zah ⟨(by simp only [zaa, zab, nbS]), by rw [← hi]; rfl⟩
theorem pCheck1_ok (E : Env Γ) (e : Ent) : zad Tryz.prog Γ 83 [entV e] m fun o m' => o = .ret (.val (.bool (!entB e))) ∧ m' = m := by
 have hnb := zaN (k := 0) e
 refine zaG (zbo mixed F83_ok F83_h zaD (by simp only [hnb, nbS]) ?_)
 simp only [F83, ss0, zez, zeu]
 simp only [entV, ssH, zeu, zer, reduceIte, zes, zex, zev, zew]
 refine zaq (by exact fun m => oCheckE_ok E e) (by simp only [entV] at hnb; simp only [hnb, nbS]) (by first | exact LR.nil | simp only [nbS]) ?_
 cases h : entB e
 ·simp only [zeB, if_false, ssH, zeu, zer, reduceIte, zes, zex, zev, zew]
  exact zaf zah ⟨(by simp only [zaa, zab, nbS]), rfl⟩
 ·simp only [if_true, ssH, zeu, zer, reduceIte, zes, zex, zev, zew]
  exact zaf zah ⟨(by simp only [zaa, zab, nbS]), rfl⟩
end
section
variable {Γ : Glob} {m : Store}
theorem neq_bool (xo yo : Operand) (a b : Bool) : binV Tryz.prog .neq 4 .other xo yo (.val (.bool a)) (.val (.bool b)) = some (.val (.bool (a != b))) := by cases a <;> cases b <;> kernel_rfl
theorem pCheck_ok (E : Env Γ) (nn : Bool) (x : Lg) : zad Tryz.prog Γ 36 [lgV nn x] m fun o m' => o = .ret (it (if lgB x = true then 0 else 4)) ∧ m' = m := by
 obtain ⟨b, c, l⟩ := x
 have hnb := zaJ (k := 0) nn ⟨b, c, l⟩
 have hnl := zaM (k := 0) nn l
 have hno : lgB ⟨b, c, l⟩ ≠ true → it 4 = it (if lgB ⟨b, c, l⟩ = true then 0 else 4) := fun h => by rw [if_neg h]
 refine zaG (zbo mixed F36_ok F36_h zaD (by simp only [hnb, nbS]) ?_)
 simp only [F36, lgV, ss0, zez, zeu]
 simp only [za4, zeL, gt_iff_lt, bs_eq0, ssH, zeu, zer, reduceIte, zes, zex, zev, zew]
 by_cases h1 : b < 0
 ·simp only [decide_eq_true h1, ssH, zeu, zer, reduceIte, zes, zex, zev, zew]
  exact zaf zah ⟨(by simp only [zaa, zab, nbS]), hno fun h => by simp only [lgB, zeA, decide_eq_true_eq] at h; omega⟩
 simp only [decide_eq_false h1, ssH, zeu, zer, reduceIte, zes, zex, zev, zew]
 by_cases h2 : 2147483647 < b
 ·simp only [decide_eq_true h2, ssH, zeu, zer, reduceIte, zes, zex, zev, zew]
  exact zaf zah ⟨(by simp only [zaa, zab, nbS]), hno fun h => by simp only [lgB, zeA, decide_eq_true_eq] at h; omega⟩
 simp only [decide_eq_false h2, ssH, zeu, zer, reduceIte, zes, zex, zev, zew]
 by_cases h3 : (65536 : Int) < (c.length : Int)
 ·simp only [decide_eq_true h3, ssH, zeu, zer, reduceIte, zes, zex, zev, zew]
  exact zaf zah ⟨(by simp only [zaa, zab, nbS]), hno fun h => by simp only [lgB, zeA, decide_eq_true_eq] at h; omega⟩
 simp only [decide_eq_false h3, neq_bool, ssH, zeu, zer, reduceIte, zes, zex, zev, zew]
 cases h4 : ((c == []) != (b == 0))
 case true =>
  simp only [ssH, zeu, zer, reduceIte, zes, zex, zev, zew]
  refine zaf zah ⟨(by simp only [zaa, zab, nbS]), hno fun h => ?_⟩
  simp only [lgB, zeA, beq_iff_eq] at h
  rw [h.1.1.1.2] at h4
  simp at h4
 simp only [ssH, zeu, zer, reduceIte, zes, zex, zev, zew]
 by_cases h5 : (64 : Int) < (l.length : Int)
 ·simp only [decide_eq_true h5, ssH, zeu, zer, reduceIte, zes, zex, zev, zew]
  exact zaf zah ⟨(by simp only [zaa, zab, nbS]), hno fun h => by simp only [lgB, zeA, decide_eq_true_eq] at h; omega⟩
 have hw : IntKind.i64.wrap (2147483647 - b) = 2147483647 - b := wrap_i64 (by omega) (by omega)
 simp only [decide_eq_false h5, hw, ssH, zeu, zer, reduceIte, zes, zex, zev, zew]
 by_cases h6 : 2147483647 - b < (l.length : Int)
 ·simp only [decide_eq_true h6, ssH, zeu, zer, reduceIte, zes, zex, zev, zew]
  exact zaf zah ⟨(by simp only [zaa, zab, nbS]), hno fun h => by simp only [lgB, zeA, decide_eq_true_eq] at h; omega⟩
 simp only [decide_eq_false h6, ssH, zeu, zer, reduceIte, zes, zex, zev, zew]
 refine zaq (by exact fun m => pContains_ok (p := fun e => !entB e) (fun e m => pCheck1_ok E e) nn l (by omega)) (by simp only [za4] at hnl; simp only [hnl, nbS]) (by first | exact LR.nil | simp only [nbS]) ?_
 have hb : lgB ⟨b, c, l⟩ = l.all entB := by
  have h4' : ((c == []) == (b == 0)) = true := by
   revert h4
   cases (c == []) <;> cases (b == 0) <;> simp
  simp only [lgB, h4', decide_eq_true (show (0 : Int) ≤ b by omega), decide_eq_true (show b ≤ 2147483647 by omega), decide_eq_true (show c.length ≤ 65536 by omega), decide_eq_true (show l.length ≤ 64 by omega), decide_eq_true (show (l.length : Int) ≤ 2147483647 - b by omega), Bool.true_and]
 have ha : l.any (fun e => !entB e) = !l.all entB := by
  rw [List.all_eq_not_any_not]; simp
 cases h7 : l.any fun e => !entB e
 ·simp only [ssH, zeu, zer, reduceIte, zes, zex, zev, zew]
  have hy : lgB ⟨b, c, l⟩ = true := by rw [hb]; rw [h7] at ha; simpa using ha.symm
  have h0 : it 0 = it (if lgB ⟨b, c, l⟩ = true then 0 else 4) := by rw [if_pos hy]
  exact zaf zah ⟨(by simp only [zaa, zab, nbS]), h0⟩
 ·simp only [ssH, zeu, zer, reduceIte, zes, zex, zev, zew]
  refine zaf zah ⟨(by simp only [zaa, zab, nbS]), hno ?_⟩
  rw [hb]
  rw [h7] at ha
  simpa using ha.symm
theorem pLast_ok (E : Env Γ) (nn : Bool) (x : Lg) : zad Tryz.prog Γ 38 [lgV nn x] m fun o m' => o = .ret (it (if lgB x = true then x.b + x.l.length else 0)) ∧ m' = m := by
 have hnb := zaJ (k := 0) nn x
 have hnl := zaM (k := 0) nn x.l
 refine zaG (zbo mixed F38_ok F38_h zaD (by simp only [hnb, nbS]) ?_)
 simp only [F38, lgV, ss0, zez, zeu]
 simp only [za4, ssH, zeu, zer, reduceIte, zes, zex, zev, zew]
 refine zaq (by exact fun m => pCheck_ok E nn x) (by simp only [lgV, za4] at hnb; simp only [hnb, nbS]) (by first | exact LR.nil | simp only [nbS]) ?_
 cases h : lgB x
 ·simp only [zeB, if_false, ssH, zeu, zer, reduceIte, zes, zex, zev, zew]
  exact zaf zah ⟨(by simp only [zaa, zab, nbS]), rfl⟩
 ·have hx : 0 ≤ x.b ∧ x.b ≤ 2147483647 ∧ x.l.length ≤ 64 := by simp only [lgB, zeA, decide_eq_true_eq] at h; omega
  have hw : IntKind.i64.wrap (x.b + (x.l.length : Int)) = x.b + (x.l.length : Int) := wrap_i64 (by omega) (by omega)
  simp only [if_true, zeL, hw, ssH, zeu, zer, reduceIte, zes, zex, zev, zew]
  exact zaf zah ⟨(by simp only [zaa, zab, nbS]), rfl⟩
def zco (b : Int) (n : Nat) (op : Int) : Int × Int := if op < b then (0, 16) else if b + (n : Int) < op then (0, 10) else (op - b, 0)
theorem pWithin_ok (nn : Bool) (x : Lg) (op : Int) (hx : lgB x = true) : zad Tryz.prog Γ 76 [lgV nn x, it op] m fun o m' => o = .ret (.tup [it (zco x.b x.l.length op).1, it (zco x.b x.l.length op).2]) ∧ m' = m := by
 have hnb := zaJ (k := 0) nn x
 have hnl := zaM (k := 0) nn x.l
 have hb : 0 ≤ x.b ∧ x.b ≤ 2147483647 ∧ x.l.length ≤ 64 := by simp only [lgB, zeA, decide_eq_true_eq] at hx; omega
 have hw : IntKind.i64.wrap (x.b + (x.l.length : Int)) = x.b + (x.l.length : Int) := wrap_i64 (by omega) (by omega)
 refine zaG (zbo mixed F76_ok F76_h zaD (by simp only [hnb, nbS]) ?_)
 simp only [F76, lgV, ss0, zez, zeu]
 simp only [za4, gt_iff_lt, zeL, ssH, zeu, zer, reduceIte, zes, zex, zev, zew]
 unfold zco
 by_cases h1 : op < x.b
 ·simp only [decide_eq_true h1, ssH, zeu, zer, reduceIte, zes, zex, zev, zew]
  exact zaf resV_two ⟨(by simp only [zaa, zab, nbS]), by rw [if_pos h1]; rfl⟩
 simp only [decide_eq_false h1, hw, ssH, zeu, zer, reduceIte, zes, zex, zev, zew]
 by_cases h2 : x.b + (x.l.length : Int) < op
 ·simp only [decide_eq_true h2, ssH, zeu, zer, reduceIte, zes, zex, zev, zew]
  exact zaf resV_two ⟨(by simp only [zaa, zab, nbS]), by rw [if_neg h1, if_pos h2]; rfl⟩
 have hw2 : IntKind.i64.wrap (op - x.b) = op - x.b := wrap_i64 (by omega) (by omega)
 simp only [decide_eq_false h2, hw2, ssH, zeu, zer, reduceIte, zes, zex, zev, zew]
 exact zaf resV_two ⟨(by simp only [zaa, zab, nbS]), by rw [if_neg h1, if_neg h2]; rfl⟩
end
end Go.Av.Fn
/- Functions that are handed a closure that holds variables' pointers. No condition. -/
namespace Go.Av
set_option linter.unusedSimpArgs false
set_option linter.unusedVariables false
def tokN : List V → Tok → Tok
 | [], .full => .full
 | [], t => if zb0 t then .no else .non
 | _ :: _, _ => .non
mutual
def wN : V → V
 | .agg cs => .agg (wNs cs)
 | .tup cs => .tup (wNs cs)
 | .sl es more t => .sl (wNs es) (wNs more) (tokN es t)
 | v => v
def wNs : List V → List V
 | [] => []
 | v :: l => wN v :: wNs l
end
theorem wNs_append : ∀ (a b : List V), wNs (a ++ b) = wNs a ++ wNs b
 | [], b => rfl
 | v :: l, b => by rw [List.cons_append, wNs, wNs_append l b]; rfl
theorem zdE : ∀ l : List V, (wNs l).length = l.length
 | [] => rfl
 | v :: l => by rw [wNs, zey, zdE l]; rfl
theorem wNs_map {α : Type} {f : α → V} (h : ∀ x, wN (f x) = f x) : ∀ l : List α, wNs (l.map f) = l.map f
 | [] => rfl
 | x :: l => by rw [List.map_cons, wNs, h, wNs_map h l]
theorem wN_cells (v : V) : (wN v).cells = wNs v.cells := by
 cases v <;> rfl
theorem flat_wNs : ∀ l : List V, flat (wNs l) = wNs (flat l)
 | [] => rfl
 | v :: l => by rw [wNs, zaE, zaE, wNs_append, wN_cells, flat_wNs l]
theorem wNs_mem : ∀ {l : List V} {e : V}, e ∈ wNs l → ∃ x ∈ l, e = wN x
 | v :: l, e, h => by
  rw [wNs] at h
  rcases List.mem_cons.1 h with rfl | h
  ·exact ⟨v, zeG .., rfl⟩
  ·obtain ⟨x, hx, rfl⟩ := wNs_mem h
   exact ⟨x, zeJ _ hx, rfl⟩
theorem tokN_ok {G : Gh} {es : List V} {t : Tok} {a : Addr} {cap s : Nat} (h : G.tokOk t a es.length cap s) : G.tokOk (tokN es t) a es.length cap s := by
 cases es with
 | cons x l => trivial
 | nil =>
  cases t with
  | full => exact absurd rfl h.2
  | _ => simp only [tokN]; split <;> trivial
theorem tokN_nil {t : Tok} (h : zb0 t = true) : zb0 (tokN [] t) = true := by
 cases t <;> first | rfl | cases h | (simp only [tokN, h, if_true]; rfl)
mutual
theorem RelV.wN {G : Gh} : ∀ {v : V} {u : Value}, RelV G v u → RelV G (wN v) u
 | _, _, .val h => .val h
 | _, _, .ptr b o => .ptr b o
 | _, _, .elt h k => .elt h k
 | _, _, .nil h => by
  simp only [Av.wN, wNs]
  exact .nil (tokN_nil h)
 | _, _, .arr a b c d => .arr a b c d
 | _, _, .res a b c => .res a b c
 | _, _, .sl (es := es) (more := more) a b c d e f => by
  simp only [Av.wN]
  have hb := RelL.wN b
  rw [← flat_wNs, wNs_append] at hb
  have h8 := tokN_ok f
  rw [← zdE es] at h8 ⊢
  refine .sl (fun x hx => ?_) hb c (by rw [zdE, zdE]; exact d) e h8
  rw [← wNs_append] at hx
  obtain ⟨y, hy, rfl⟩ := wNs_mem hx
  rw [wN_cells, zdE]
  exact a y hy
 | _, _, .fn h k => .fn h k
 | _, _, .ifc h => .ifc h
 | _, _, .agg h => by
  simp only [Av.wN]
  exact .agg (RelL.wN h)
 | _, _, .tup h => by
  simp only [Av.wN]
  exact .tup (RelL.wN h)
theorem RelL.wN {G : Gh} : ∀ {v : List V} {u : List Value}, RelL G v u → RelL G (wNs v) u
 | _, _, .nil => .nil
 | _, _, .cons a b => .cons (RelV.wN a) (RelL.wN b)
end
theorem tokN_vr {R : Ren} {es es' : List V} {k k' : Tok} (a : LR R es es') (c : TokR R k k') : TokR R (tokN es k) (tokN es' k') := by
 cases a with
 | cons _ _ => trivial
 | nil =>
  have hn := nilTok_vr c
  cases k <;> cases k' <;> first | exact c.elim | trivial | (simp only [tokN, hn]; split <;> trivial)
mutual
theorem VR.wN {R : Ren} : ∀ {v v' : V}, VR R v v' → VR R (wN v) (wN v')
 | _, _, .val v => .val v
 | _, _, .ptr o r => .ptr o r
 | _, _, .elt r => .elt r
 | _, _, .sl a b c => by
  simp only [Av.wN]
  exact .sl (LR.wN a) (LR.wN b) (tokN_vr a c)
 | _, _, .fn h a b => .fn h a b
 | _, _, .ifc r => .ifc r
 | _, _, .agg r => by
  simp only [Av.wN]
  exact .agg (LR.wN r)
 | _, _, .tup r => by
  simp only [Av.wN]
  exact .tup (LR.wN r)
 | _, _, .arr o l c r => .arr o l c r
 | _, _, .res v z n r => .res v z n r
theorem LR.wN {R : Ren} : ∀ {v v' : List V}, LR R v v' → LR R (wNs v) (wNs v')
 | _, _, .nil => .nil
 | _, _, .cons a b => .cons (VR.wN a) (LR.wN b)
end
theorem zad.wnd {P : Program} {Γ : Glob} {f : FuncId} {args : List V} {m : Store} {R R' : Out → Store → Prop} (h : zad P Γ f args m R) (hr : ∀ v m', R (.ret v) m' → R' (.ret (Av.wN v)) m') (hp : ∀ v m', R (.pan v) m' → R' (.pan v) m') : zad P Γ f args m R' := by
 refine ⟨h.1, fun G B0 mF w cargs hD hR hL => (h.2 G B0 mF w cargs hD hR hL).mono ?_⟩
 rintro e w' ⟨G', m', o, a, b, c, d, r, s⟩
 cases o with
 | ret v =>
  cases r with
  | ret r => exact ⟨G', m', .ret (Av.wN v), a, b, c, d, .ret r.wN, hr _ _ s⟩
 | pan v => exact ⟨G', m', .pan v, a, b, c, d, r, hp _ _ s⟩
def closA (pre : List V) (w : Option FuncId) (bs : List Nat) : List V := pre ++ match w with
 | some f => [.fn (.func f) [] (bs.map fun b => .ptr b 0)]
 | none => bs.map fun b => .ptr b 0
structure CellsOk (Xs : List Blk) (cs : List Nat) (m : Store) : Prop where
 len : cs.length = Xs.length
 nodup : ∀ (i j c : Nat), cs[i]? = some c → cs[j]? = some c → i = j
 cell : ∀ (i c : Nat) (X : Blk), cs[i]? = some c → Xs[i]? = some X → m c = some X
def delL (m : Store) (cs : List Nat) : Store := fun c => if c ∈ cs then none else m c
def KCalls (P : Program) (Γ : Glob) (g : FuncId) (pre : List V) (w : Option FuncId) (Xs : List Blk) (Qv : V → Prop) : Prop :=
 ∀ m cs, CellsOk Xs cs m → zad P Γ g (closA pre w cs) m fun o m' => (∃ v, o = .ret v ∧ Qv v) ∧ m' = delL m cs
section
variable {P : Program} {Γ : Glob} {H : Nat → List (Nat × List Nat) × List Nat} {f : FuncId} {F : AFn} {gs : List Nat}
theorem lr_ptrs {R : Ren} : ∀ {bs cs : List Nat}, bs.length = cs.length → (∀ (i b c : Nat), bs[i]? = some b → cs[i]? = some c → R b c) → LR R (bs.map fun b => .ptr b 0) (cs.map fun b => .ptr b 0)
 | [], [], _, _ => .nil
 | b :: bs, c :: cs, hl, h => .cons (.ptr 0 (h 0 b c rfl rfl)) (lr_ptrs (by simpa using hl) fun i => h (i + 1))
theorem lr_ptrs_inv {R : Ren} : ∀ {bs : List Nat} {vs : List V}, LR R (bs.map fun b => .ptr b 0) vs → ∃ cs : List Nat, vs = cs.map (fun b => V.ptr b 0) ∧ cs.length = bs.length ∧ ∀ (i b c : Nat), bs[i]? = some b → cs[i]? = some c → R b c
 | [], vs, h => by cases h; exact ⟨[], rfl, rfl, fun i b c hb => by simp at hb⟩
 | b :: bs, vs, h => by
  cases h with
  | cons h1 h2 =>
   cases h1 with
   | @ptr _ c _ r =>
    obtain ⟨cs, rfl, hl, hr⟩ := lr_ptrs_inv h2
    refine ⟨c :: cs, rfl, by simp [hl], ?_⟩
    intro i b' c' hb hc
    cases i with
    | zero => cases hb; cases hc; exact r
    | succ i => exact hr i b' c' (by simpa using hb) (by simpa using hc)
theorem lr_app_inv {R : Ren} : ∀ {a b : List V} {vs : List V}, LR R (a ++ b) vs → ∃ a' b', vs = a' ++ b' ∧ LR R a a' ∧ LR R b b'
 | [], b, vs, h => ⟨[], vs, rfl, .nil, h⟩
 | x :: a, b, vs, h => by
  cases h with
  | cons h1 h2 =>
   obtain ⟨a', b', rfl, r1, r2⟩ := lr_app_inv h2
   exact ⟨_ :: a', b', rfl, .cons h1 r1, r2⟩
theorem closA_lr {R : Ren} {pre : List V} {w : Option FuncId} {bs cs : List Nat} (hp : nbs 0 pre) (hl : bs.length = cs.length) (h : ∀ (i b c : Nat), bs[i]? = some b → cs[i]? = some c → R b c) : LR R (closA pre w bs) (closA pre w cs) := by
 refine (hp.up R).append ?_
 cases w with
 | none => exact lr_ptrs hl h
 | some f => exact .cons (.fn rfl .nil (lr_ptrs hl h)) .nil
theorem closA_inv {R : Ren} {pre : List V} {w : Option FuncId} {bs : List Nat} {vs : List V} (hp : nbs 0 pre) (h : LR R (closA pre w bs) vs) : ∃ cs : List Nat, vs = closA pre w cs ∧ cs.length = bs.length ∧ ∀ (i b c : Nat), bs[i]? = some b → cs[i]? = some c → R b c := by
 obtain ⟨a', b', rfl, r1, r2⟩ := lr_app_inv h
 obtain rfl := zda hp r1
 cases w with
 | none =>
  obtain ⟨cs, rfl, q1, q2⟩ := lr_ptrs_inv r2
  exact ⟨cs, rfl, q1, q2⟩
 | some f =>
  cases r2 with
  | cons h1 h2 =>
   cases h2
   cases h1 with
   | fn _ r3 r4 =>
    cases r3
    obtain ⟨cs, rfl, q1, q2⟩ := lr_ptrs_inv r4
    exact ⟨cs, rfl, q1, q2⟩
theorem get_map_some {Xs : List Blk} : ∀ {a : Nat} {x : Blk}, lk (Xs.map some) a = some x → Xs[a]? = some x := by
 induction Xs with
 | nil => intro a x h; cases a <;> cases h
 | cons X Xs ih =>
  intro a x h
  cases a with
  | zero => simpa [lk] using h
  | succ a => simpa using ih (a := a) h
theorem range_get {n i b : Nat} (h : (zeP n)[i]? = some b) : b = i ∧ i < n := by
 obtain ⟨h1, rfl⟩ := List.getElem?_eq_some_iff.1 h
 simp at h1 ⊢
 exact h1
theorem kcalls (hm : P.follows .mixedOrders = true) (hF : zam P H f = some F) (hok : F.body.okH gs = true) (hG : GOk Γ gs) {pre : List V} {w : Option FuncId} {Xs : List Blk} (ha : nbs 0 pre) (hX : ∀ X ∈ Xs, nbB 0 X) {Qv : V → Prop}
  (h : hawp P Γ (fun _ _ => False) Xs.length F.body (bodyH F.res fun v _ => nb 0 (wN v) ∧ Qv (wN v)) ⟨start F.ntmps (closA pre w (zeP Xs.length)), Xs.map some⟩) : KCalls P Γ f pre w Xs Qv := by
 intro m cs hc
 have hH : HH (fun a c => cs[a]? = some c) (Xs.map some) (fun c => if c ∈ cs then m c else none) := {
  blk := by
   intro a c x r hx
   refine ⟨x, ?_, (hX x ?_).up _⟩
   ·show (if c ∈ cs then m c else none) = some x
    rw [if_pos (ze4 r)]
    exact hc.cell a c x r (get_map_some hx)
   ·exact ze4 (get_map_some hx)
  left := by
   intro a c c' r r'
   rw [r] at r'
   exact Option.some.inj r'
  right := by
   intro a b c x y r r' _ _
   exact hc.nodup a b c r r'
  dom := by
   intro a c r
   left
   have := (List.getElem?_eq_some_iff.1 r).1
   rw [hc.len] at this
   simpa using this }
 have h1 := acalls_h (P := P) (Γ := Γ) (R0 := fun a c => cs[a]? = some c) (N := Xs.length) (m := fun c => if c ∈ cs then m c else none) hm hF hok hG (args0 := closA pre w (zeP Xs.length)) (args := closA pre w cs)
  (closA_lr ha (by simp [hc.len]) fun i b c hb hc' => by rw [(range_get hb).1]; exact hc') hH (fun b b' r => by have := (List.getElem?_eq_some_iff.1 r).1; rw [hc.len] at this; exact this) (Q := fun o h' => match o with | .ret v => nb 0 (wN v) ∧ Qv (wN v) | .pan _ => False) h
 have hD : Disj (fun c => if c ∈ cs then m c else none) (delL m cs) := by
  intro c
  unfold delL
  by_cases e : c ∈ cs
  ·exact .inr (by simp [e])
  ·exact .inl (by simp [e])
 have e : Store.or (fun c => if c ∈ cs then m c else none) (delL m cs) = m := by
  funext c
  unfold Store.or delL
  by_cases e : c ∈ cs
  ·simp only [if_pos e]
   cases m c <;> rfl
  ·simp only [if_neg e]
 have h2 := h1.frame hD
 rw [e] at h2
 refine zad.wnd (R := fun o m' => (∃ v, o = .ret v ∧ Qv (wN v)) ∧ m' = delL m cs) (zad.less h2 ?_) ?_ ?_
 ·rintro o m'' ⟨m', rfl, d, S, o0, h', s1, s2, s3, s4⟩
  refine ⟨delL m cs, ?_, ?_, rfl⟩
  ·intro b x hb
   rcases d b with q | q
   ·simp only [Store.or, q]; exact hb
   ·rw [q] at hb; cases hb
  ·cases o0 with
   | ret v =>
    cases o with
    | ret v' =>
     have e3 : wN v' = wN v := nb_eq s4.1 (VR.wN s3)
     exact ⟨v', rfl, by rw [e3]; exact s4.2⟩
    | pan v' => exact s3.elim
   | pan v => exact s4.elim
 ·rintro v m' ⟨⟨v', e9, q⟩, h9⟩
  cases e9
  exact ⟨⟨_, rfl, q⟩, h9⟩
 ·rintro v m' ⟨⟨v', e9, q⟩, _⟩
  cases e9
theorem acalls_pn (hm : P.follows .mixedOrders = true) (hF : zam P H f = some F) (hok : F.body.okH gs = true) (hG : GOk Γ gs) {args : List V} {m : Store} (ha : nbs 0 args) {Qv : V → Prop}
  (h : hawp P Γ (fun _ _ => False) 0 F.body (bodyH F.res fun v _ => nb 0 (wN v) ∧ Qv (wN v)) ⟨start F.ntmps args, []⟩) : zad P Γ f args m fun o m' => (∃ v, o = .ret v ∧ Qv v) ∧ m' = m := by
 have := kcalls (pre := args) (w := none) (Xs := []) hm hF hok hG ha (fun _ h => by cases h) (Qv := Qv) (by simpa [closA] using h) m [] ⟨rfl, fun i j c h => by simp at h, fun i c X h => by simp at h⟩
 have e : delL m [] = m := by funext c; simp [delL]
 rw [e] at this
 simpa [closA] using this
def hdrop (h : Hl) : List Nat → Hl
 | [] => h
 | b :: bs => hdrop (hset h b none) bs
theorem hh_drops {R : Ren} {m : Store} : ∀ {h : Hl} (bs : List Nat), HH R h m → HH R (hdrop h bs) m
 | h, [], H => H
 | h, b :: bs, H => hh_drops bs (H.drop b)
theorem lk_hset_le {h : Hl} {b c : Nat} {x : Blk} (e : lk (hset h b none) c = some x) : c ≠ b ∧ lk h c = some x := by
 rw [lk_hset] at e
 split at e
 ·cases e
 ·rename_i k
  refine ⟨?_, e⟩
  rintro rfl
  exact k ⟨rfl, lk_lt e⟩
theorem lk_hdrop_le : ∀ (bs : List Nat) {h : Hl} {c : Nat} {x : Blk}, lk (hdrop h bs) c = some x → c ∉ bs ∧ lk h c = some x
 | [], h, c, x, e => ⟨by simp, e⟩
 | b :: bs, h, c, x, e => by
  obtain ⟨h1, h2⟩ := lk_hdrop_le bs e
  obtain ⟨h3, h4⟩ := lk_hset_le h2
  exact ⟨by simp [h1, h3], h4⟩
section
variable {Γ : Glob} {Kp : V → Hl → Prop} {l : List Item} {K : HS → Prop} {t : List V} {h : Hl} {d : Option Tmp} {s : List (Tmp × Option (Tmp × Bool) × AOp)} {g : FuncId} {first args caps : List V}
theorem hcall_k {pre : List V} {w : Option FuncId} {Xs : List Blk} {Qv : V → Prop} (bs : List Nat) (hA : KCalls P Γ g pre w Xs Qv) (he : first ++ args ++ caps = closA pre w bs) (hl : bs.length = Xs.length) (hn : bs.Nodup) (hb : ∀ (i b : Nat) (X : Blk), bs[i]? = some b → Xs[i]? = some X → lk h b = some X)
  (hp : nbs 0 pre) (hX : ∀ X ∈ Xs, nbB 0 X) (hv : ∀ v, Qv v → nb 0 v) (hr : ∀ v, Qv v → hth P Γ Kp s l K (hput t (hdrop h bs) d (some v))) : hcallS P Γ Kp (.fn (.func g) first caps) args d s l K t h := by
 intro R args' m' rl H
 rw [he] at rl
 obtain ⟨cs, rfl, c1, c2⟩ := closA_inv hp rl
 have hcell : ∀ (i b c : Nat) (X : Blk), bs[i]? = some b → cs[i]? = some c → Xs[i]? = some X → m' c = some X := by
  intro i b c X h1 h2 h3
  obtain ⟨x', h4, h5⟩ := H.blk _ _ _ (c2 i b c h1 h2) (hb i b X h1 h3)
  obtain rfl := nbB_eq (hX X (ze4 h3)) h5
  exact h4
 have hlen : cs.length = Xs.length := c1.trans hl
 have hok : CellsOk Xs cs m' := {
  len := hlen
  nodup := by
   intro i j c e1 e2
   have hi := (List.getElem?_eq_some_iff.1 e1).1
   have hj := (List.getElem?_eq_some_iff.1 e2).1
   have b1 : bs[i]? = some (bs[i]'(by omega)) := zeC (by omega)
   have b2 : bs[j]? = some (bs[j]'(by omega)) := zeC (by omega)
   have x1 : Xs[i]? = some (Xs[i]'(by omega)) := zeC (by omega)
   have x2 : Xs[j]? = some (Xs[j]'(by omega)) := zeC (by omega)
   have e := H.right _ _ _ _ _ (c2 i _ _ b1 e1) (c2 j _ _ b2 e2) (hb i _ _ b1 x1) (hb j _ _ b2 x2)
   have hp2 := List.pairwise_iff_getElem.1 hn
   rcases Nat.lt_trichotomy i j with k | k | k
   ·exact absurd e (hp2 i j (by omega) (by omega) k)
   ·exact k
   ·exact absurd e.symm (hp2 j i (by omega) (by omega) k)
  cell := by
   intro i c X h2 h3
   have hi : i < bs.length := by have := (List.getElem?_eq_some_iff.1 h3).1; omega
   exact hcell i _ c X (zeC hi) h2 h3 }
 refine (hA m' cs hok).mono ?_
 rintro o m'' ⟨⟨v, rfl, hq⟩, rfl⟩
 refine ⟨R, .ret v, hdrop h bs, R.le_refl, (hh_drops bs H).to fun b c x hbc hx => ?_, (hv v hq).up R, hr v hq⟩
 unfold delL
 rw [if_neg]
 intro hmem
 obtain ⟨i, hi⟩ := List.getElem?_of_mem hmem
 have hlt := (List.getElem?_eq_some_iff.1 hi).1
 have b1 : bs[i]? = some (bs[i]'(by omega)) := zeC (by omega)
 have x1 : Xs[i]? = some (Xs[i]'(by omega)) := zeC (by omega)
 obtain ⟨h1, h2⟩ := lk_hdrop_le bs hx
 have e := H.right _ _ _ _ _ hbc (c2 i _ _ b1 hi) h2 (hb i _ _ b1 x1)
 subst e
 exact h1 (ze4 b1)
end
end
end Go.Av
/- Entries copied; what is done with a right log. Conditions: az ahead. -/
namespace Go.Av.Fn
set_option linter.unusedSimpArgs false
set_option linter.unusedVariables false
set_option maxRecDepth 10000
open Go.Proofs
theorem wN_entV (e : Ent) : wN (entV e) = entV e := by simp only [entV, wN, wNs]; rfl
theorem wNs_ents (l : List Ent) : wNs (l.map entV) = l.map entV := wNs_map wN_entV l
theorem wN_some {l : List Ent} {t : Tok} (h : l ≠ [] ∨ zb0 t = false) : wN (.sl (l.map entV) [] t) = za4 true l := by
 simp only [wN, wNs_ents, za4, if_true]
 cases l with
 | nil =>
  have ht : zb0 t = false := by simpa using h
  have e2 : tokN [] t = .non := by
   cases t with
   | no => cases ht
   | full => cases ht
   | zero b => cases b <;> first | rfl | cases ht
   | _ => rfl
  simp only [List.map_nil, wNs, e2]
 | cons e l => rfl
theorem wN_entsV {nn : Bool} {l : List Ent} (h : nn = true ∨ l = []) : wN (za4 nn l) = za4 nn l := by
 cases nn
 ·have : l = [] := by simpa using h
  subst this
  rfl
 ·exact wN_some (.inr rfl)
theorem wN_lgV {nn : Bool} {x : Lg} (h : nn = true ∨ x.l = []) : wN (lgV nn x) = lgV nn x := by
 simp only [lgV, wN, wNs, wN_entsV h, bs]
theorem elemsB_ents (l : List Ent) : elemsB 8 (l.map entV) = true := by
 simp only [elemsB, List.all_map, List.all_eq_true]
 intro x _
 rfl
theorem zc3 (l : List Ent) : szOk 8 (l.map entV) = true := by
 simp only [szOk, List.all_map, List.all_eq_true]
 intro x _
 rfl
section
variable {Γ : Glob} {m : Store}
theorem eq_nil {xo yo : Operand} {l : List Ent} {more : List V} {t : Tok} (h : l ≠ [] ∨ zb0 t = false) : binV Tryz.prog .eql 54 .slice xo yo (.sl (l.map entV) more t) (.sl [] [] .full) = some (.val (.bool false)) := by
 have hs : zbK .slice (.sl (l.map entV) more t) = true := by
  cases l with
  | nil =>
   have ht : zb0 t = false := by simpa using h
   simp only [List.map_nil, zbK, ht]
   rfl
  | cons e l => rfl
 unfold binV
 rw [hs]
 rfl
theorem eq_nil_nil {xo yo : Operand} : binV Tryz.prog .eql 54 .slice xo yo (.sl [] [] .full) (.sl [] [] .full) = some (.val (.bool true)) := by kernel_rfl
theorem pClone_nil : zad Tryz.prog Γ 79 [.sl [] [] .full] m fun o m' => (∃ v, o = .ret v ∧ v = za4 false []) ∧ m' = m := by
 refine zbo mixed F79_ok F79_h zaD (by first | exact LR.nil | simp only [nbS]) ?_
 simp only [F79, ss0, zez, zeu]
 simp only [eq_nil_nil, ssH, zeu, zer, reduceIte, zes, zex, zev, zew]
 exact zaf zah ⟨(by simp only [zaa, zab, nbS]), rfl⟩
theorem pClone_ok {t : Tok} (ht : nbT 0 t) (l : List Ent) (hl : l.length ≤ 1000000) (h : l ≠ [] ∨ zb0 t = false) : zad Tryz.prog Γ 79 [.sl (l.map entV) [] t] m fun o m' => (∃ v, o = .ret v ∧ v = za4 true l) ∧ m' = m := by
 have hnl := zdD (k := 0) zaN l
 have hne := zaM (k := 0) true l
 refine acalls_pn mixed F79_ok F79_h zaD (by simp only [ht, hnl, nbS]) ?_
 simp only [F79, ss0, zez, zeu]
 simp only [eq_nil h, lits_zero, ssH, zeu, zer, reduceIte, zes, zex, zev, zew]
 by_cases h0 : l = []
 ·subst h0
  refine happ_none rfl ?_
  simp only [ssH, zeu, zer, reduceIte, zes, zex, zev, zew]
  exact zaf zah ⟨by simp only [zaa, zab, wN, wNs, tokN, zb0, zeB, if_false, nbS], rfl⟩
 ·have hne2 : l.map entV ≠ [] := by simpa using h0
  refine happ_zero (ys := l.map entV) rfl hne2 (by simp only [zey, zeE, zeu, zex]) rfl (elemsB_ents _) (by simp only [zeL, zeE]; omega) ?_
  simp only [ssH, zeu, zer, reduceIte, zes, zex, zev, zew]
  have e : ∀ k, wN (.sl (l.map entV) [] (.tip k 0)) = za4 true l := fun k => wN_some (.inl h0)
  exact zaf zah ⟨by simp only [zaa, zab, e, hne], by simp only [zaa, zab, e]⟩
end
def logB (nn : Bool) (x : Lg) : Blk := .var 56 [it x.b, bs x.c, za4 nn x.l]
theorem zbV (nn : Bool) (x : Lg) : nbB 0 (logB nn x) := by
 have := zaM (k := 0) nn x.l
 simp only [logB, this, nbS]
theorem cells_ents {nn : Bool} {l : List Ent} : (za4 nn l).cells = [za4 nn l] := (rfl)
theorem zax {nn : Bool} {l : List Ent} : oneV (za4 nn l) = true := (rfl)
theorem cut_from {nn : Bool} {l : List Ent} (h : nn = true ∨ l = []) {n : Nat} (hn : n ≤ l.length) : zcy 8 (za4 nn l) (some (some (n : Int))) (some none) (some none) = some (za4 nn (l.drop n)) := by
 have hs : szOk 8 (l.map entV ++ []) = true := by rw [ze5]; exact zc3 l
 simp only [za4, zcy, hs, if_true, cutV, zeR, zeN, zeX, zeL]
 rw [if_pos ⟨by omega, hn, by omega⟩, List.map_drop]
 cases nn
 ·have hl : l = [] := by simpa using h
  subst hl
  have : n = 0 := by simpa using hn
  subst this
  rfl
 ·rfl
def upV (nn : Bool) (l : List Ent) (n : Nat) : V := .sl ((l.take n).map entV) [] (if 0 < n then .full else if nn then .zero true else .full)
theorem cut_upto {nn : Bool} {l : List Ent} (h : nn = true ∨ l = []) {n : Nat} (hn : n ≤ l.length) : zcy 8 (za4 nn l) (some none) (some (some (n : Int))) (some (some (n : Int))) = some (upV nn l n) := by
 have hs : szOk 8 (l.map entV ++ []) = true := by rw [ze5]; exact zc3 l
 simp only [za4, zcy, hs, if_true, cutV, zeR, zeN, zeX, zeL, Int.toNat_zero, List.drop_zero]
 rw [if_pos ⟨by omega, by omega, by omega, rfl, trivial, by omega, hn⟩, upV, List.map_take]
 congr 2
 simp only [cutEnd]
 by_cases h0 : 0 < n
 ·rw [if_pos h0, if_pos h0]
 ·rw [if_neg h0, if_neg h0]
  cases l with
  | nil => cases nn <;> rfl
  | cons e l =>
   have : nn = true := by simpa using h
   subst this
   rfl
section
variable {Γ : Glob} {m : Store}
theorem pClone_e {nn : Bool} {l : List Ent} (h : nn = true ∨ l = []) (hl : l.length ≤ 1000000) : zad Tryz.prog Γ 79 [za4 nn l] m fun o m' => o = .ret (za4 nn l) ∧ m' = m := by
 cases nn
 ·have : l = [] := by simpa using h
  subst this
  exact zaG pClone_nil
 ·exact zaG (pClone_ok (t := .non) trivial l hl (.inr rfl))
theorem pClone_u {nn : Bool} {l : List Ent} (h : nn = true ∨ l = []) (hl : l.length ≤ 1000000) {n : Nat} (hn : n ≤ l.length) : zad Tryz.prog Γ 79 [upV nn l n] m fun o m' => o = .ret (za4 nn (l.take n)) ∧ m' = m := by
 have hle : (l.take n).length ≤ 1000000 := by simp; omega
 cases nn
 ·have : l = [] := by simpa using h
  subst this
  have : n = 0 := by simpa using hn
  subst this
  exact zaG pClone_nil
 ·by_cases h0 : 0 < n
  ·have := zaG (pClone_ok (Γ := Γ) (m := m) (t := .full) trivial (l.take n) hle (.inl (by intro e; have := congrArg List.length e; rw [ze0] at this; simp only [zeE] at this; omega)))
   simpa only [upV, if_pos h0] using this
  ·have := zaG (pClone_ok (Γ := Γ) (m := m) (t := .zero true) rfl (l.take n) hle (.inr rfl))
   simpa only [upV, if_neg h0, if_true] using this
theorem nb_upV {k : Nat} {nn : Bool} {l : List Ent} {n : Nat} : nb k (upV nn l n) := by
 have := zdD (k := k) zaN (l.take n)
 unfold upV
 split
 ·simp only [this, nbS]
 ·split <;> simp only [this, nbS]
theorem withL_le {x : Lg} {op : Int} (hx : lgB x = true) (h : (zco x.b x.l.length op).2 = 0) : ∃ n : Nat, (zco x.b x.l.length op).1 = (n : Int) ∧ n ≤ x.l.length ∧ op = x.b + n := by
 unfold zco at h ⊢
 split at h
 ·cases h
 ·rename_i h1
  rw [if_neg h1]
  split at h
  ·cases h
  ·rename_i h2
   rw [if_neg h2]
   exact ⟨(op - x.b).toNat, by show op - x.b = _; omega, by omega, by omega⟩
theorem zeb {X1 X2 : Blk} (h1 : nbB 0 X1) (h2 : nbB 0 X2) : ∀ X ∈ [X1, X2], nbB 0 X := by
 intro X hX
 simp only [List.mem_cons, List.not_mem_nil, or_false] at hX
 rcases hX with rfl | rfl <;> assumption
theorem two_get {h : Hl} {X1 X2 : Blk} {a b : Nat} (h1 : lk h a = some X1) (h2 : lk h b = some X2) : ∀ (i c : Nat) (X : Blk), [a, b][i]? = some c → [X1, X2][i]? = some X → lk h c = some X := by
 intro i c X hb hX
 match i with
 | 0 => cases hb; cases hX; exact h1
 | 1 => cases hb; cases hX; exact h2
 | i + 2 => simp at hb
def intB (n : Int) : Blk := .var 3 [it n]
theorem zei (n : Int) : nbB 0 (intB n) := by simp only [intB, nbS]
end
section
variable {Γ : Glob} {m : Store}
end
def lg0 : Lg := ⟨0, [], []⟩
theorem three_blk {X1 X2 X3 : Blk} (h1 : nbB 0 X1) (h2 : nbB 0 X2) (h3 : nbB 0 X3) : ∀ X ∈ [X1, X2, X3], nbB 0 X := by
 intro X hX
 simp only [List.mem_cons, List.not_mem_nil, or_false] at hX
 rcases hX with rfl | rfl | rfl <;> assumption
theorem three_get {h : Hl} {X1 X2 X3 : Blk} {a b d : Nat} (h1 : lk h a = some X1) (h2 : lk h b = some X2) (h3 : lk h d = some X3) : ∀ (i c : Nat) (X : Blk), [a, b, d][i]? = some c → [X1, X2, X3][i]? = some X → lk h c = some X := by
 intro i c X hb hX
 match i with
 | 0 => cases hb; cases hX; exact h1
 | 1 => cases hb; cases hX; exact h2
 | 2 => cases hb; cases hX; exact h3
 | i + 3 => simp at hb
section
variable {Γ : Glob} {m : Store}
theorem pOfL2_ok (E : Env Γ) {nn : Bool} {x : Lg} {g : FuncId} {X1 X2 : Blk} {a : Bool} {y : Lg} {e : Int} (ha : a = true ∨ y.l = []) (hX : ∀ X ∈ [X1, X2], nbB 0 X)
  (hdo : lgB x = true → KCalls Tryz.prog Γ g [] none [X1, X2] fun v => v = .tup [lgV a y, it e]) :
  KCalls Tryz.prog Γ 85 [lgV nn x] (some g) [X1, X2] fun v => v = if lgB x = true then (if e = 0 then .tup [lgV a y, it 0] else .tup [lgV false lg0, it e]) else .tup [lgV false lg0, it 4] := by
 have hnb := zaJ (k := 0) nn x
 have hna := zaJ (k := 0) a y
 have hn0 := zaJ (k := 0) false lg0
 have hwa := wN_lgV ha
 have hw0 := wN_lgV (nn := false) (x := lg0) (.inr rfl)
 refine kcalls mixed F85_ok F85_h zaD (by simp only [hnb, nbS]) hX ?_
 simp only [F85, closA, zey, zeE, zeu, zeP, List.range.loop, ze2, lgV, ss0, zez, zeu]
 simp only [zak, zax, ssH, zeu, zer, reduceIte, zes, zex, zev, zew]
 refine zaq (by exact fun m => pCheck_ok E nn x) (by simp only [lgV] at hnb; simp only [hnb, nbS]) (by first | exact LR.nil | simp only [nbS]) ?_
 cases hx : lgB x
 ·simp only [zeB, if_false, ssH, zeu, zer, reduceIte, zes, zex, zev, zew]
  exact zaf (v := .tup [lgV false lg0, it 4]) rfl ⟨by simp only [wN, wNs, hw0, hn0, nbS], by simp only [wN, wNs, hw0]; rfl⟩
 ·simp only [if_true, ssH, zeu, zer, reduceIte, zes, zex, zev, zew]
  refine hcall_k [0, 1] (hdo hx) rfl rfl (by decide) (two_get rfl rfl) (by first | exact LR.nil | simp only [nbS]) hX (by rintro v rfl; simp only [hna, nbS]) ?_
  rintro v rfl
  simp only [hdrop, lgV, zak, zax, ssH, zeu, zer, reduceIte, zes, zex, zev, zew]
  by_cases he : e = 0
  ·subst he
   simp only [if_true, zak, zax, ssH, zeu, zer, reduceIte, zes, zex, zev, zew]
   exact zaf (v := .tup [lgV a y, it 0]) rfl ⟨by simp only [wN, wNs, hwa, hna, nbS], by simp only [wN, wNs, hwa]; rfl⟩
  ·have hb : (e != 0) = true := by simpa using he
   simp only [hb, if_neg he, zak, zax, ssH, zeu, zer, reduceIte, zes, zex, zev, zew]
   exact zaf (v := .tup [lgV false lg0, it e]) rfl ⟨by simp only [wN, wNs, hw0, hn0, nbS], by simp only [wN, wNs, hw0]; rfl⟩
theorem pOfL3_ok (E : Env Γ) {nn : Bool} {x : Lg} {g : FuncId} {X1 X2 X3 : Blk} {a : Bool} {y : Lg} {e : Int} (ha : a = true ∨ y.l = []) (hX : ∀ X ∈ [X1, X2, X3], nbB 0 X)
  (hdo : lgB x = true → KCalls Tryz.prog Γ g [] none [X1, X2, X3] fun v => v = .tup [lgV a y, it e]) :
  KCalls Tryz.prog Γ 85 [lgV nn x] (some g) [X1, X2, X3] fun v => v = if lgB x = true then (if e = 0 then .tup [lgV a y, it 0] else .tup [lgV false lg0, it e]) else .tup [lgV false lg0, it 4] := by
 have hnb := zaJ (k := 0) nn x
 have hna := zaJ (k := 0) a y
 have hn0 := zaJ (k := 0) false lg0
 have hwa := wN_lgV ha
 have hw0 := wN_lgV (nn := false) (x := lg0) (.inr rfl)
 refine kcalls mixed F85_ok F85_h zaD (by simp only [hnb, nbS]) hX ?_
 simp only [F85, closA, zey, zeE, zeu, zeP, List.range.loop, ze2, lgV, ss0, zez, zeu]
 simp only [zak, zax, ssH, zeu, zer, reduceIte, zes, zex, zev, zew]
 refine zaq (by exact fun m => pCheck_ok E nn x) (by simp only [lgV] at hnb; simp only [hnb, nbS]) (by first | exact LR.nil | simp only [nbS]) ?_
 cases hx : lgB x
 ·simp only [zeB, if_false, ssH, zeu, zer, reduceIte, zes, zex, zev, zew]
  exact zaf (v := .tup [lgV false lg0, it 4]) rfl ⟨by simp only [wN, wNs, hw0, hn0, nbS], by simp only [wN, wNs, hw0]; rfl⟩
 ·simp only [if_true, ssH, zeu, zer, reduceIte, zes, zex, zev, zew]
  refine hcall_k [0, 1, 2] (hdo hx) rfl rfl (by decide) (three_get rfl rfl rfl) (by first | exact LR.nil | simp only [nbS]) hX (by rintro v rfl; simp only [hna, nbS]) ?_
  rintro v rfl
  simp only [hdrop, lgV, zak, zax, ssH, zeu, zer, reduceIte, zes, zex, zev, zew]
  by_cases he : e = 0
  ·subst he
   simp only [if_true, zak, zax, ssH, zeu, zer, reduceIte, zes, zex, zev, zew]
   exact zaf (v := .tup [lgV a y, it 0]) rfl ⟨by simp only [wN, wNs, hwa, hna, nbS], by simp only [wN, wNs, hwa]; rfl⟩
  ·have hb : (e != 0) = true := by simpa using he
   simp only [hb, if_neg he, zak, zax, ssH, zeu, zer, reduceIte, zes, zex, zev, zew]
   exact zaf (v := .tup [lgV false lg0, it e]) rfl ⟨by simp only [wN, wNs, hw0, hn0, nbS], by simp only [wN, wNs, hw0]; rfl⟩
def cutIn (nn : Bool) (x : Lg) (op : Int) : Bool × Lg × Int :=
 if (zco x.b x.l.length op).2 = 0 then (nn, ⟨x.b, x.c, x.l.take (zco x.b x.l.length op).1.toNat⟩, 0) else (false, lg0, (zco x.b x.l.length op).2)
def doL (x : Lg) (r : Bool × Lg × Int) : Bool × Lg × Int := if lgB x = true then (if r.2.2 = 0 then r else (false, lg0, r.2.2)) else (false, lg0, 4)
theorem doL_nil {x : Lg} {r : Bool × Lg × Int} (h : r.1 = true ∨ r.2.1.l = []) : (doL x r).1 = true ∨ (doL x r).2.1.l = [] := by
 unfold doL
 split
 ·split
  ·exact h
  ·exact .inr rfl
 ·exact .inr rfl
theorem doL_v {x : Lg} {r : Bool × Lg × Int} : (if lgB x = true then (if r.2.2 = 0 then V.tup [lgV r.1 r.2.1, it 0] else .tup [lgV false lg0, it r.2.2]) else .tup [lgV false lg0, it 4]) = .tup [lgV (doL x r).1 (doL x r).2.1, it (doL x r).2.2] := by
 unfold doL
 by_cases h : lgB x = true
 ·by_cases he : r.2.2 = 0
  ·simp only [if_pos h, if_pos he]
   rw [he]
  ·simp only [if_pos h, if_neg he]
 ·simp only [if_neg h]
theorem cutIn_nil {nn : Bool} {x : Lg} (hn : nn = true ∨ x.l = []) {op : Int} : (cutIn nn x op).1 = true ∨ (cutIn nn x op).2.1.l = [] := by
 unfold cutIn
 split
 ·exact hn.imp id fun h => by rw [h, List.take_nil]
 ·exact .inr rfl
theorem pCut1_ok {nn : Bool} {x : Lg} (hn : nn = true ∨ x.l = []) (op : Int) (hx : lgB x = true) :
  KCalls Tryz.prog Γ 88 [] none [logB nn x, intB op] fun v => v = .tup [lgV (cutIn nn x op).1 (cutIn nn x op).2.1, it (cutIn nn x op).2.2] := by
 have hnb := zaJ (k := 0) nn x
 have hle : x.l.length ≤ 64 := by simp only [lgB, zeA, decide_eq_true_eq] at hx; omega
 refine kcalls mixed F88_ok F88_h zaD (by first | exact LR.nil | simp only [nbS]) (zeb (zbV nn x) (zei op)) ?_
 simp only [F88, closA, logB, intB, zey, zeE, zeu, zeP, List.range.loop, ze2, ss0, zez, zeu]
 simp only [ssH, zeu, zer, reduceIte, zes, zex, zev, zew]
 refine zaq (by exact fun m => pWithin_ok nn x op hx) (by simp only [lgV] at hnb; simp only [hnb, nbS]) (by first | exact LR.nil | simp only [nbS]) ?_
 by_cases he : (zco x.b x.l.length op).2 = 0
 ·obtain ⟨n, h1, h2, _⟩ := withL_le hx he
  have hnd := zaM (k := 0) nn (x.l.take n)
  have hr : cutIn nn x op = (nn, ⟨x.b, x.c, x.l.take n⟩, 0) := by simp only [cutIn, he, h1, if_true, zeX]
  have hnl := zaJ (k := 0) nn ⟨x.b, x.c, x.l.take n⟩
  have hw := wN_lgV (nn := nn) (x := ⟨x.b, x.c, x.l.take n⟩) (hn.imp id fun h => by simp [h])
  rw [hr]
  simp only [he, h1, if_true, za3, zaR, optV, cut_upto hn h2, ssH, zeu, zer, reduceIte, zes, zex, zev, zew]
  refine zaq (by exact fun m => pClone_u hn (by omega) h2) (by simp only [nb_upV, nbS]) (by simp only [hnd]) ?_
  simp only [cells_ents, zax, zak, ssH, zeu, zer, reduceIte, zes, zex, zev, zew]
  exact zaf (v := .tup [lgV nn ⟨x.b, x.c, x.l.take n⟩, it 0]) rfl ⟨by simp only [wN, wNs, hw, hnl, nbS], by simp only [wN, wNs, hw]⟩
 ·have hb : ((zco x.b x.l.length op).2 != 0) = true := by simpa using he
  have hn0 := zaJ (k := 0) false lg0
  have hw0 := wN_lgV (nn := false) (x := lg0) (.inr rfl)
  have hr : cutIn nn x op = (false, lg0, (zco x.b x.l.length op).2) := by simp only [cutIn, if_neg he]
  rw [hr]
  simp only [hb, ssH, zeu, zer, reduceIte, zes, zex, zev, zew]
  exact zaf (v := .tup [lgV false lg0, it (zco x.b x.l.length op).2]) rfl ⟨by simp only [wN, wNs, hw0, hn0, nbS], by simp only [wN, wNs, hw0]⟩
theorem pCut_ok (E : Env Γ) {nn : Bool} {x : Lg} (hn : nn = true ∨ x.l = []) (op : Int) :
  zad Tryz.prog Γ 44 [lgV nn x, it op] m fun o m' => o = .ret (.tup [lgV (doL x (cutIn nn x op)).1 (doL x (cutIn nn x op)).2.1, it (doL x (cutIn nn x op)).2.2]) ∧ m' = m := by
 have hnb := zaJ (k := 0) nn x
 have hdn := doL_nil (x := x) (cutIn_nil hn (op := op))
 refine zaG (acalls_pn mixed F44_ok F44_h zaD (by simp only [hnb, nbS]) ?_)
 simp only [F44, lgV, ss0, zez, zeu]
 simp only [zak, ssH, zeu, zer, reduceIte, zes, zex, zev, zew]
 refine hcall_k [0, 1] (pOfL2_ok E (nn := nn) (x := x) (cutIn_nil hn (op := op)) (zeb (zbV nn x) (zei op)) (fun hx => pCut1_ok hn op hx)) rfl rfl (by decide) (two_get rfl rfl) (by simp only [hnb, nbS]) (zeb (zbV nn x) (zei op)) ?_ ?_
 ·rintro v rfl
  rw [doL_v]
  simp only [zaJ, nbS]
 ·rintro v rfl
  rw [doL_v]
  generalize doL x (cutIn nn x op) = r at hdn
  obtain ⟨a, y, e⟩ := r
  have hwa := wN_lgV hdn
  have hna := zaJ (k := 0) a y
  simp only [hdrop, lgV, zak, zax, ssH, zeu, zer, reduceIte, zes, zex, zev, zew]
  exact zaf (v := .tup [lgV a y, it e]) rfl ⟨by simp only [wN, wNs, hwa, hna, nbS], by simp only [wN, wNs, hwa]; rfl⟩
end
section
variable {Γ : Glob} {m : Store}
end
end Go.Av.Fn
/- Entries compared; rows of them. Conditions: az ahead. -/
namespace Go.Av
set_option linter.unusedSimpArgs false
set_option linter.unusedVariables false
section
variable {P : Program}
def eqF2 (P : Program) (T0 : TypeId) (xs ys : Array Value) : List Field → Option Bool
 | [] => some true
 | f :: fs => if f.name = "_" then eqF2 P T0 xs ys fs else match zau P (part f.type xs f.offset), zau P (part f.type ys f.offset) with
  | some a, some b => match (match a, b with | .agg az', .agg bs' => if f.type = T0 then eqF P az' bs' (P.fieldsOf T0).toList else none | a, b => eqField P f.type a b), eqF2 P T0 xs ys fs with
   | some r, some q => some (r && q)
   | _, _ => none
  | _, _ => none
theorem eqF2_sound {T0 : TypeId} (ht : P.underlying T0 = some (.struct (P.fieldsOf T0))) (hp : P.stoodInHeld T0 = false) {xs ys : Array Value} {d : Nat} : ∀ {fs : List Field} {r : Bool}, eqF2 P T0 xs ys fs = some r → zau P (Op.eqFields (d + 1 + 1) xs ys fs) = some r
 | [], r, h => by
  simp only [eqF2, Option.some.injEq] at h
  subst h
  rfl
 | f :: fs, r, h => by
  simp only [eqF2] at h
  split at h
  ·rename_i hn
   simp only [Op.eqFields, hn, ne_eq, not_true_eq_false, if_false]
   exact eqF2_sound ht hp h
  ·rename_i hn
   split at h
   ·rename_i a b ha hb
    split at h
    ·rename_i q1 q2 h1 h2
     simp only [Option.some.injEq] at h
     subst h
     have key : zau P (Op.equalIn (d + 1 + 1) f.type a b) = some q1 := by
      split at h1
      ·split at h1
       ·rename_i e
        rw [e, zbt _ _ _ _ ht hp]
        exact eqF_sound h1
       ·cases h1
      ·exact eqField_sound h1
     simp only [Op.eqFields, ne_eq, hn, not_false_eq_true, if_true, zaw, ha, hb, zeO, key]
     cases q1
     ·rfl
     ·simpa using eqF2_sound ht hp h2
    ·cases h
   ·cases h
theorem struct_eq2 {T T0 : TypeId} {xo yo : Operand} {cs cs' : List V} {xs ys : List Value} {r : Bool} (ht : P.underlying T = some (.struct (P.fieldsOf T))) (hp : P.stoodInHeld T = false) (hg : P.eqGuardType P.depth T = false)
  (ht0 : P.underlying T0 = some (.struct (P.fieldsOf T0))) (hp0 : P.stoodInHeld T0 = false)
  (h1 : raws cs = some xs) (h2 : raws cs' = some ys) (he : eqF2 P T0 xs.toArray ys.toArray (P.fieldsOf T).toList = some r) :
  binV P .eql T .other xo yo (.agg cs) (.agg cs') = some (.val (.bool r)) ∧ binV P .neq T .other xo yo (.agg cs) (.agg cs') = some (.val (.bool !r)) := by
 have e0 : zau P (Op.equal T (.agg xs.toArray) (.agg ys.toArray)) = some r := by
  show zau P (Op.equalIn (9997 + 1 + 1 + 1) T _ _) = some r
  rw [zbt _ _ _ _ ht hp]
  exact eqF2_sound ht0 hp0 he
 have g : ∀ op, zau P (eqGuard op T xo yo (.agg xs.toArray) (.agg ys.toArray)) = some () := by
  intro op
  unfold eqGuard
  split <;> simp only [zeI, zeH, zeB, if_false, if_true, zaw, zcl, zeO, hg, zaK]
 have r1 : raw (.agg cs) = some (.agg xs.toArray) := by simp only [raw, h1, Option.map_some]
 have r2 : raw (.agg cs') = some (.agg ys.toArray) := by simp only [raw, h2, Option.map_some]
 refine ⟨?_, ?_⟩
 ·simp only [binV, zbK, zaC, Bool.false_and, Bool.and_false, Bool.or_false, zeB, if_false, r1, r2, isSliceC, binOp, zaw, g, zeO, e0, zaK]
  rfl
 ·simp only [binV, zbK, zaC, Bool.false_and, Bool.and_false, Bool.or_false, zeB, if_false, r1, r2, isSliceC, binOp, zaw, g, zeO, e0, zaK]
  rfl
end
end Go.Av
namespace Go.Av.Fn
set_option linter.unusedSimpArgs false
set_option linter.unusedVariables false
set_option maxRecDepth 10000
open Go.Proofs
theorem ent_cmp (xo yo : Operand) (a b : Ent) : binV Tryz.prog .eql 60 .other xo yo (entV a) (entV b) = some (.val (.bool (decide (a = b)))) ∧ binV Tryz.prog .neq 60 .other xo yo (entV a) (entV b) = some (.val (.bool (!decide (a = b)))) := by
 obtain ⟨c, q, k, n, s, ck, cn, cs⟩ := a
 obtain ⟨c', q', k', n', s', ck', cn', cs'⟩ := b
 have h := struct_eq2 (P := Tryz.prog) (T := 60) (T0 := 24) (xo := xo) (yo := yo) (cs := [it c, it q, it k, it n, bs s, it ck, it cn, bs cs]) (cs' := [it c', it q', it k', it n', bs s', it ck', it cn', bs cs'])
  (xs := [.int .i64 c, .int .i64 q, .int .i64 k, .int .i64 n, .string ⟨s.toArray⟩, .int .i64 ck, .int .i64 cn, .string ⟨cs.toArray⟩]) (ys := [.int .i64 c', .int .i64 q', .int .i64 k', .int .i64 n', .string ⟨s'.toArray⟩, .int .i64 ck', .int .i64 cn', .string ⟨cs'.toArray⟩])
  (r := (c == c' && (q == q' && (k == k' && (n == n' && ((ByteArray.mk s.toArray).toList == (ByteArray.mk s'.toArray).toList && ((ck == ck' && (cn == cn' && ((ByteArray.mk cs.toArray).toList == (ByteArray.mk cs'.toArray).toList && true))) && true)))))))
  (by kernel_rfl) (by kernel_rfl) (by kernel_rfl) (by kernel_rfl) (by kernel_rfl) rfl rfl (by kernel_rfl)
 have e : (c == c' && (q == q' && (k == k' && (n == n' && ((ByteArray.mk s.toArray).toList == (ByteArray.mk s'.toArray).toList && ((ck == ck' && (cn == cn' && ((ByteArray.mk cs.toArray).toList == (ByteArray.mk cs'.toArray).toList && true))) && true)))))) = decide ((⟨c, q, k, n, s, ck, cn, cs⟩ : Ent) = ⟨c', q', k', n', s', ck', cn', cs'⟩) := by
  simp only [zbN]
  rw [ze8]
  simp [and_assoc]
 rw [e] at h
 exact h
section
variable {Γ : Glob} {m : Store}
end
/-! ### Entries between two numbers -/
def entsN (l : List Ent) : V := za4 (!l.isEmpty) l
theorem entsN_nil {l : List Ent} : (!l.isEmpty) = true ∨ l = [] := by cases l <;> simp
def zEnt : List V := [.val (.int .i64 0), .val (.int .i64 0), .val (.int .i64 0), .val (.int .i64 0), .val (.string (ByteArray.mk #[])), .val (.int .i64 0), .val (.int .i64 0), .val (.string (ByteArray.mk #[]))]
def litE (v : V) : Option V := (zdc 8 [.agg zEnt] [(0, v)]).map fun es => .sl es [] .full
theorem litE_eq {Γ : Glob} {t : List V} {m : Store} {x : Nat} : zal Tryz.prog (ev Γ t) m (.lits 8 [.val (.int .i64 0), .val (.int .i64 0), .val (.int .i64 0), .val (.int .i64 0), .val (.string (ByteArray.mk #[])), .val (.int .i64 0), .val (.int .i64 0), .val (.string (ByteArray.mk #[]))] 1 [(0, .tmp x)]) = litE (tget t x) := by
 rw [← zd5 (Γ := Γ)]
 rfl
theorem litE_ent (e : Ent) : litE (.agg [it e.c, it e.q, it e.k, it e.n, bs e.s, it e.ck, it e.cn, bs e.cs]) = some (.sl [entV e] [] .full) := rfl
section
variable {Γ : Glob} {m : Store}
end
end Go.Av.Fn
/- What is asked of logs: the program's answers, and the document's. Conditions: az ahead. -/
namespace Go.Av
end Go.Av
namespace Go.Av.Fn
set_option linter.unusedSimpArgs false
set_option linter.unusedVariables false
set_option maxRecDepth 10000
open Go.Proofs
def e0 : Ent := ⟨0, 0, 0, 0, [], 0, 0, []⟩
def askE (x : Lg) (op : Int) : Ent × Int := if lgB x = true then (if op ≤ x.b then (e0, 16) else if x.b + (x.l.length : Int) < op then (e0, 10) else (x.l.getD (op - x.b - 1).toNat e0, 0)) else (e0, 4)
def askIn (x : Lg) (op : Int) : Ent × Int := if op ≤ x.b then (e0, 16) else if x.b + (x.l.length : Int) < op then (e0, 10) else (x.l.getD (op - x.b - 1).toNat e0, 0)
theorem ask_e {x : Lg} {op : Int} (h : lgB x = true) (he : (askIn x op).2 ≠ 0) : askIn x op = (e0, (askIn x op).2) := by
 unfold askIn at he ⊢
 split
 ·rfl
 ·split
  ·rfl
  ·rename_i h1 h2
   rw [if_neg h1, if_neg h2] at he
   exact absurd rfl he
section
variable {Γ : Glob} {m : Store}
end
end Go.Av.Fn
/- The document's examples of logs, reckoned. No condition. -/
namespace Go.Av.Fn
set_option linter.unusedSimpArgs false
set_option linter.unusedVariables false
set_option maxRecDepth 100000
open Go.Proofs
def G20 : Glob := fun _ => none
def tab20 : List (Nat × AFn) := [(30, F30), (32, F32), (34, F34), (36, F36), (38, F38), (42, F42), (44, F44), (46, F46), (74, F74), (75, F75), (76, F76), (77, F77), (78, F78), (79, F79), (82, F82), (83, F83), (85, F85), (86, F86), (88, F88), (89, F89), (117, F117), (84, F84), (118, F118), (48, F48)]
theorem tab20_ok : TabOk Tryz.prog G20 tab20 :=
 (.cons ⟨_, F30_ok⟩ (by kernel_rfl) (.cons ⟨_, F32_ok⟩ (by kernel_rfl) (.cons ⟨_, F34_ok⟩ (by kernel_rfl) (.cons ⟨_, F36_ok⟩ (by kernel_rfl) (.cons ⟨_, F38_ok⟩ (by kernel_rfl) (.cons ⟨_, F42_ok⟩ (by kernel_rfl) (.cons ⟨_, F44_ok⟩ (by kernel_rfl) (.cons ⟨_, F46_ok⟩ (by kernel_rfl) (.cons ⟨_, F74_ok⟩ (by kernel_rfl) (.cons ⟨_, F75_ok⟩ (by kernel_rfl) (.cons ⟨_, F76_ok⟩ (by kernel_rfl) (.cons ⟨_, F77_ok⟩ (by kernel_rfl) (.cons ⟨_, F78_ok⟩ (by kernel_rfl) (.cons ⟨_, F79_ok⟩ (by kernel_rfl) (.cons ⟨_, F82_ok⟩ (by kernel_rfl) (.cons ⟨_, F83_ok⟩ (by kernel_rfl) (.cons ⟨_, F85_ok⟩ (by kernel_rfl) (.cons ⟨_, F86_ok⟩ (by kernel_rfl) (.cons ⟨_, F88_ok⟩ (by kernel_rfl) (.cons ⟨_, F89_ok⟩ (by kernel_rfl) (.cons ⟨_, F117_ok⟩ (by kernel_rfl) (.cons ⟨_, F84_ok⟩ (by kernel_rfl) (.cons ⟨_, F118_ok⟩ (by kernel_rfl) (.cons ⟨_, F48_ok⟩ (by kernel_rfl) TabOk.nil))))))))))))))))))))))))
theorem lives20_ok {Γ : Glob} {m : Store} : zad Tryz.prog Γ 30 [] m fun o m' => o = .ret (.val (.bool true)) ∧ m' = m :=
 acalls_true (Γ0 := G20) (N := 1000) (n := 30) mixed (by intro g cs h; cases h) tab20_ok .nil (by kernel_rfl)
end Go.Av.Fn
/- What is above a number, and what is up to it, are together all entries: the law. Conditions: az ahead. -/
namespace Go.Av.Fn
set_option linter.unusedSimpArgs false
set_option linter.unusedVariables false
set_option maxRecDepth 10000
open Go.Proofs
theorem len_ents {nn : Bool} {l : List Ent} : lenV false (za4 nn l) = some (it l.length) := by
 simp only [za4, zaU, zeL]
section
variable {Γ : Glob} {m : Store}
end
theorem zcG (e : Ent) (n : Int) : wN (.tup [entV e, it n]) = .tup [entV e, it n] := by simp only [wN, wNs, wN_entV]
section
variable {Γ : Glob} {m : Store}
theorem pOfE_ok (E : Env Γ) {nn : Bool} {x : Lg} {g : FuncId} {X1 X2 : Blk} {y : Ent} {e : Int} (hX : ∀ X ∈ [X1, X2], nbB 0 X)
  (hdo : lgB x = true → KCalls Tryz.prog Γ g [] none [X1, X2] fun v => v = .tup [entV y, it e]) :
  KCalls Tryz.prog Γ 74 [lgV nn x] (some g) [X1, X2] fun v => v = if lgB x = true then (if e = 0 then .tup [entV y, it 0] else .tup [entV e0, it e]) else .tup [entV e0, it 4] := by
 have hnb := zaJ (k := 0) nn x
 have hny := zaN (k := 0) y
 have hn0 := zaN (k := 0) e0
 have hnl := zaM (k := 0) nn x.l
 refine kcalls mixed F74_ok F74_h zaD (by simp only [hnb, nbS]) hX ?_
 simp only [F74, closA, zey, zeE, zeu, zeP, List.range.loop, ze2, lgV, ss0, zez, zeu]
 simp only [zak, ssH, zeu, zer, reduceIte, zes, zex, zev, zew]
 refine zaq (by exact fun m => pCheck_ok E nn x) (by simp only [hnl, nbS]) (by first | exact LR.nil | simp only [nbS]) ?_
 cases hx : lgB x
 ·simp only [zeB, if_false, zak, ssH, zeu, zer, reduceIte, zes, zex, zev, zew]
  exact zaf (v := .tup [entV e0, it 4]) rfl ⟨by rw [zcG]; simp only [hn0, nbS], zcG _ _⟩
 ·simp only [if_true, ssH, zeu, zer, reduceIte, zes, zex, zev, zew]
  refine hcall_k [0, 1] (hdo hx) rfl rfl (by decide) (two_get rfl rfl) (by first | exact LR.nil | simp only [nbS]) hX (by rintro v rfl; simp only [hny, nbS]) ?_
  rintro v rfl
  simp only [hdrop, entV, zak, ssH, zeu, zer, reduceIte, zes, zex, zev, zew]
  by_cases he : e = 0
  ·subst he
   simp only [if_true, zak, ssH, zeu, zer, reduceIte, zes, zex, zev, zew]
   exact zaf (v := .tup [entV y, it 0]) rfl ⟨by rw [zcG]; simp only [hny, nbS], zcG _ _⟩
  ·have hb : (e != 0) = true := by simpa using he
   simp only [hb, if_neg he, zak, ssH, zeu, zer, reduceIte, zes, zex, zev, zew]
   exact zaf (v := .tup [entV e0, it e]) rfl ⟨by rw [zcG]; simp only [hn0, nbS], zcG _ _⟩
theorem pAt1_ok {nn : Bool} {x : Lg} (op : Int) (hx : lgB x = true) :
  KCalls Tryz.prog Γ 75 [] none [logB nn x, intB op] fun v => v = .tup [entV (askIn x op).1, it (askIn x op).2] := by
 have hnb := zaJ (k := 0) nn x
 have hnl := zaM (k := 0) nn x.l
 have hb : 0 ≤ x.b ∧ x.b ≤ 2147483647 ∧ x.l.length ≤ 64 := by simp only [lgB, zeA, decide_eq_true_eq] at hx; omega
 have fin : ∀ (e : Ent) (n : Int), askIn x op = (e, n) → nb 0 (wN (.tup [entV e, it n])) ∧ wN (V.tup [entV e, it n]) = .tup [entV (askIn x op).1, it (askIn x op).2] := by
  intro e n h
  rw [h, zcG]
  have := zaN (k := 0) e
  exact ⟨by simp only [this, nbS], rfl⟩
 refine kcalls mixed F75_ok F75_h zaD (by first | exact LR.nil | simp only [nbS]) (zeb (zbV nn x) (zei op)) ?_
 simp only [F75, closA, logB, intB, zey, zeE, zeu, zeP, List.range.loop, ze2, ss0, zez, zeu]
 simp only [ssH, zeu, zer, reduceIte, zes, zex, zev, zew]
 refine zaq (by exact fun m => pWithin_ok nn x op hx) (by simp only [hnl, nbS]) (by first | exact LR.nil | simp only [nbS]) ?_
 by_cases he : (zco x.b x.l.length op).2 = 0
 ·obtain ⟨n, h1, h2, h3⟩ := withL_le hx he
  simp only [he, h1, ssH, zeu, zer, reduceIte, zes, zex, zev, zew]
  by_cases hn : n = 0
  ·subst hn
   simp only [show (((0 : Nat) : Int) == 0) = true from rfl, zak, ssH, zeu, zer, reduceIte, zes, zex, zev, zew]
   exact zaf (v := .tup [entV e0, it 16]) rfl (fin _ _ (by simp only [askIn]; rw [if_pos (by omega)]))
  ·have hw : IntKind.i64.wrap ((n : Int) - 1) = ((n - 1 : Nat) : Int) := by rw [wrap_i64 (by omega) (by omega)]; omega
   have hx2 : x.l[n - 1]? = some (x.l[n - 1]'(by omega)) := zeC (by omega)
   have hg : askIn x op = (x.l[n - 1]'(by omega), 0) := by
    simp only [askIn]
    rw [if_neg (by omega), if_neg (by omega), show (op - x.b - 1).toNat = n - 1 by omega]
    simp only [List.getD, hx2, zeN]
   simp only [show (((n : Nat) : Int) == 0) = false by simp; omega, hw, za4, idx_ent hx2, zak, ssH, zeu, zer, reduceIte, zes, zex, zev, zew]
   exact zaf (v := .tup [entV (x.l[n - 1]'(by omega)), it 0]) rfl (fin _ _ hg)
 ·have hb2 : ((zco x.b x.l.length op).2 != 0) = true := by simpa using he
  simp only [hb2, zak, ssH, zeu, zer, reduceIte, zes, zex, zev, zew]
  refine zaf (v := .tup [entV e0, it (zco x.b x.l.length op).2]) rfl (fin _ _ ?_)
  simp only [askIn, zco] at he ⊢
  by_cases h1 : op < x.b
  ·rw [if_pos (by omega), if_pos h1]
  ·rw [if_neg h1] at he ⊢
   by_cases h2 : x.b + (x.l.length : Int) < op
   ·rw [if_neg (by omega), if_pos h2, if_pos h2]
   ·rw [if_neg h2] at he
    exact absurd rfl he
theorem pAt_ok (E : Env Γ) (nn : Bool) (x : Lg) (op : Int) :
  zad Tryz.prog Γ 32 [lgV nn x, it op] m fun o m' => o = .ret (.tup [entV (askE x op).1, it (askE x op).2]) ∧ m' = m := by
 have hnb := zaJ (k := 0) nn x
 have hnl := zaM (k := 0) nn x.l
 refine zaG (acalls_pn mixed F32_ok F32_h zaD (by simp only [hnb, nbS]) ?_)
 simp only [F32, lgV, ss0, zez, zeu]
 simp only [zak, ssH, zeu, zer, reduceIte, zes, zex, zev, zew]
 refine hcall_k [0, 1] (pOfE_ok E (nn := nn) (x := x) (zeb (zbV nn x) (zei op)) (fun hx => pAt1_ok op hx)) rfl rfl (by decide) (two_get rfl rfl) (by simp only [hnb, nbS]) (zeb (zbV nn x) (zei op)) ?_ ?_
 ·rintro v rfl
  split
  ·split <;> simp only [zaN, nbS]
  ·simp only [zaN, nbS]
 ·rintro v hv
  have : v = .tup [entV (askE x op).1, it (askE x op).2] := by
   rw [hv]
   have e1 : askE x op = if lgB x = true then askIn x op else (e0, 4) := rfl
   rw [e1]
   by_cases hx : lgB x = true
   ·simp only [if_pos hx]
    by_cases he : (askIn x op).2 = 0
    ·simp only [if_pos he]
     rw [he]
    ·simp only [if_neg he]
     rw [ask_e hx he]
   ·simp only [if_neg hx]
  subst this
  generalize askE x op = r
  obtain ⟨y, e⟩ := r
  have hny := zaN (k := 0) y
  simp only [hdrop, entV, zak, ssH, zeu, zer, reduceIte, zes, zex, zev, zew]
  exact zaf (v := .tup [entV y, it e]) rfl ⟨by rw [zcG]; simp only [hny, nbS], zcG _ _⟩
end
def entBk (e : Ent) : Blk := .var 60 [it e.c, it e.q, it e.k, it e.n, bs e.s, it e.ck, it e.cn, bs e.cs]
def strBk (s : List UInt8) : Blk := .var 9 [bs s]
theorem nb_entBk (e : Ent) : nbB 0 (entBk e) := by simp only [entBk, nbS]
theorem nb_strBk (s : List UInt8) : nbB 0 (strBk s) := by simp only [strBk, nbS]
theorem wN_log {b : Int} {c : List UInt8} {l : List Ent} {t : Tok} (h : l ≠ []) : wN (.agg [it b, bs c, .sl (l.map entV) [] t]) = lgV true ⟨b, c, l⟩ := by
 simp only [wN, wNs, bs, lgV]
 rw [show V.sl (wNs (ze2 entV l)) [] (tokN (ze2 entV l) t) = wN (.sl (l.map entV) [] t) by simp only [wN, wNs], wN_some (.inl h)]
def zcQ (x : Lg) (e : Ent) : Bool × Lg × Int := if entB e = true then (if x.l.length = 64 ∨ x.b + x.l.length = 2147483647 then (false, lg0, 12) else (true, ⟨x.b, x.c, x.l ++ [e]⟩, 0)) else (false, lg0, 2)
def za0 (nn : Bool) (x : Lg) (op : Int) (ck : List UInt8) : Bool × Lg × Int :=
 if (zco x.b x.l.length op).2 = 0 then
  (if 0 < (zco x.b x.l.length op).1 then (if ck = [] ∨ 65536 < ck.length then (false, lg0, 2) else (nn, ⟨op, ck, x.l.drop (zco x.b x.l.length op).1.toNat⟩, 0)) else (nn, x, 0))
 else (false, lg0, (zco x.b x.l.length op).2)
theorem compIn_nil {nn : Bool} {x : Lg} (hn : nn = true ∨ x.l = []) {op : Int} {ck : List UInt8} : (za0 nn x op ck).1 = true ∨ (za0 nn x op ck).2.1.l = [] := by
 unfold za0
 split
 ·split
  ·split
   ·exact .inr rfl
   ·exact hn.imp id fun h => by simp [h]
  ·exact hn
 ·exact .inr rfl
theorem appIn_nil {x : Lg} {e : Ent} : (zcQ x e).1 = true ∨ (zcQ x e).2.1.l = [] := by
 unfold zcQ
 split
 ·split
  ·exact .inr rfl
  ·exact .inl rfl
 ·exact .inr rfl
section
variable {Γ : Glob} {m : Store}
theorem app_up {Kp : V → Hl → Prop} {h : Hl} {t : List V} {li : List Item} {K : HS → Prop} {d : Option Tmp} {s : List (Tmp × Option (Tmp × Bool) × AOp)} {nn : Bool} {l : List Ent} (e : Ent) (hl : l.length ≤ 1000000) (hh : h.length < 1000000)
  (hr : hth Tryz.prog Γ Kp s li K (hput t (h ++ [some (.tip 60 0)]) d (some (.sl ((l ++ [e]).map entV) [] (.tip h.length 0))))) : happS Tryz.prog Γ Kp 60 80 8 (upV nn l l.length) (.sl [entV e] [] .full) d s li K t h := by
 rw [ze1] at hr
 unfold upV
 rw [List.take_length]
 by_cases h0 : 0 < l.length
 ·rw [if_pos h0]
  exact happ_full (ys := [entV e]) rfl (by simp) hh (zc3 l) rfl (by simp; omega) hr
 ·have hn : l = [] := by cases l with | nil => rfl | cons a b => simp at h0
  subst hn
  rw [if_neg h0]
  cases nn
  ·exact happ_full (ys := [entV e]) rfl (by simp) hh rfl rfl (by simp) hr
  ·exact happ_zero (ys := [entV e]) rfl (by simp) hh rfl rfl (by simp) hr
theorem pAppend1_ok (E : Env Γ) {nn : Bool} {x : Lg} (hn : nn = true ∨ x.l = []) (e : Ent) (hx : lgB x = true) :
  KCalls Tryz.prog Γ 86 [] none [logB nn x, entBk e] fun v => v = .tup [lgV (zcQ x e).1 (zcQ x e).2.1, it (zcQ x e).2.2] := by
 have hnl := zaM (k := 0) nn x.l
 have hb : 0 ≤ x.b ∧ x.b ≤ 2147483647 ∧ x.l.length ≤ 64 := by simp only [lgB, zeA, decide_eq_true_eq] at hx; omega
 have hw : IntKind.i64.wrap (x.b + (x.l.length : Int)) = x.b + (x.l.length : Int) := wrap_i64 (by omega) (by omega)
 have hn0 := zaJ (k := 0) false lg0
 have hw0 := wN_lgV (nn := false) (x := lg0) (.inr rfl)
 have bad : ∀ n : Int, zcQ x e = (false, lg0, n) → nb 0 (wN (.tup [lgV false lg0, it n])) ∧ wN (.tup [lgV false lg0, it n]) = .tup [lgV (zcQ x e).1 (zcQ x e).2.1, it (zcQ x e).2.2] := by
  intro n h
  rw [h]
  simp only [wN, wNs, hw0]
  exact ⟨by simp only [hn0, nbS], trivial⟩
 refine kcalls mixed F86_ok F86_h zaD (by first | exact LR.nil | simp only [nbS]) (zeb (zbV nn x) (nb_entBk e)) ?_
 simp only [F86, closA, logB, entBk, zey, zeE, zeu, zeP, List.range.loop, ze2, ss0, zez, zeu]
 simp only [len_ents, ssH, zeu, zer, reduceIte, zes, zex, zev, zew]
 refine zaq (by exact fun m => oCheckE_ok E e) (by simp only [nbS]) (by first | exact LR.nil | simp only [nbS]) ?_
 cases he : entB e
 ·simp only [zeB, if_false, zak, ssH, zeu, zer, reduceIte, zes, zex, zev, zew]
  exact zaf (v := .tup [lgV false lg0, it 2]) rfl (bad _ (by simp only [zcQ, he]; rfl))
 ·simp only [if_true, hw, ssH, zeu, zer, reduceIte, zes, zex, zev, zew]
  by_cases h1 : x.l.length = 64
  ·simp only [show (((x.l.length : Nat) : Int) == 64) = true by rw [h1]; rfl, zak, ssH, zeu, zer, reduceIte, zes, zex, zev, zew]
   exact zaf (v := .tup [lgV false lg0, it 12]) rfl (bad _ (by simp only [zcQ, he, if_true]; rw [if_pos (.inl h1)]))
  ·simp only [show (((x.l.length : Nat) : Int) == 64) = false by simp; omega, hw, ssH, zeu, zer, reduceIte, zes, zex, zev, zew]
   by_cases h2 : x.b + (x.l.length : Int) = 2147483647
   ·simp only [show ((x.b + (x.l.length : Int)) == 2147483647) = true by rw [h2]; rfl, zak, ssH, zeu, zer, reduceIte, zes, zex, zev, zew]
    exact zaf (v := .tup [lgV false lg0, it 12]) rfl (bad _ (by simp only [zcQ, he, if_true]; rw [if_pos (.inr h2)]))
   ·have hg : zcQ x e = (true, ⟨x.b, x.c, x.l ++ [e]⟩, 0) := by
     simp only [zcQ, he, if_true]
     rw [if_neg (by rintro (k | k) <;> omega)]
    rw [hg]
    have hwl : ∀ t, wN (.agg [it x.b, bs x.c, .sl ((x.l ++ [e]).map entV) [] t]) = lgV true ⟨x.b, x.c, x.l ++ [e]⟩ := fun t => wN_log (by simp)
    have hnl2 := zaJ (k := 0) true ⟨x.b, x.c, x.l ++ [e]⟩
    simp only [show ((x.b + (x.l.length : Int)) == 2147483647) = false by simp; omega, za3, zaR, optV, cut_upto hn (zeY _), litE_eq, litE_ent, ssH, zeu, zer, reduceIte, zes, zex, zev, zew]
    refine app_up e (by omega) (by simp only [zey, zeE, zeu, zex]) ?_
    simp only [zak, zdv, oneV_sl, ssH, zeu, zer, reduceIte, zes, zex, zev, zew]
    exact zaf (v := .tup [.agg [it x.b, bs x.c, .sl ((x.l ++ [e]).map entV) [] (.tip 3 0)], it 0]) rfl ⟨by simp only [wN, wNs] at hwl ⊢; rw [hwl]; simp only [hnl2, nbS], by simp only [wN, wNs] at hwl ⊢; rw [hwl]⟩
theorem pAppend_ok (E : Env Γ) {nn : Bool} {x : Lg} (hn : nn = true ∨ x.l = []) (e : Ent) :
  zad Tryz.prog Γ 42 [lgV nn x, entV e] m fun o m' => o = .ret (.tup [lgV (doL x (zcQ x e)).1 (doL x (zcQ x e)).2.1, it (doL x (zcQ x e)).2.2]) ∧ m' = m := by
 have hnb := zaJ (k := 0) nn x
 have hne := zaN (k := 0) e
 have hdn := doL_nil (x := x) (appIn_nil (x := x) (e := e))
 refine zaG (acalls_pn mixed F42_ok F42_h zaD (by simp only [hnb, hne, nbS]) ?_)
 simp only [F42, lgV, entV, ss0, zez, zeu]
 simp only [zak, ssH, zeu, zer, reduceIte, zes, zex, zev, zew]
 refine hcall_k [0, 1] (pOfL2_ok E (nn := nn) (x := x) (appIn_nil (x := x) (e := e)) (zeb (zbV nn x) (nb_entBk e)) (fun hx => pAppend1_ok E hn e hx)) rfl rfl (by decide) (two_get rfl rfl) (by simp only [hnb, nbS]) (zeb (zbV nn x) (nb_entBk e)) ?_ ?_
 ·rintro v rfl
  rw [doL_v]
  simp only [zaJ, nbS]
 ·rintro v rfl
  rw [doL_v]
  generalize doL x (zcQ x e) = r at hdn
  obtain ⟨a, y, e⟩ := r
  have hwa := wN_lgV hdn
  have hna := zaJ (k := 0) a y
  simp only [hdrop, lgV, zak, zax, ssH, zeu, zer, reduceIte, zes, zex, zev, zew]
  exact zaf (v := .tup [lgV a y, it e]) rfl ⟨by simp only [wN, wNs, hwa, hna, nbS], by simp only [wN, wNs, hwa]; rfl⟩
theorem pCompact1_ok {nn : Bool} {x : Lg} (hn : nn = true ∨ x.l = []) (op : Int) (ck : List UInt8) (hx : lgB x = true) :
  KCalls Tryz.prog Γ 89 [] none [logB nn x, intB op, strBk ck] fun v => v = .tup [lgV (za0 nn x op ck).1 (za0 nn x op ck).2.1, it (za0 nn x op ck).2.2] := by
 have hnl := zaM (k := 0) nn x.l
 have hle : x.l.length ≤ 64 := by simp only [lgB, zeA, decide_eq_true_eq] at hx; omega
 have hn0 := zaJ (k := 0) false lg0
 have hw0 := wN_lgV (nn := false) (x := lg0) (.inr rfl)
 have bad : ∀ n : Int, za0 nn x op ck = (false, lg0, n) → nb 0 (wN (.tup [lgV false lg0, it n])) ∧ wN (.tup [lgV false lg0, it n]) = .tup [lgV (za0 nn x op ck).1 (za0 nn x op ck).2.1, it (za0 nn x op ck).2.2] := by
  intro n h
  rw [h]
  simp only [wN, wNs, hw0]
  exact ⟨by simp only [hn0, nbS], trivial⟩
 refine kcalls mixed F89_ok F89_h zaD (by first | exact LR.nil | simp only [nbS]) (three_blk (zbV nn x) (zei op) (nb_strBk ck)) ?_
 simp only [F89, closA, logB, intB, strBk, zey, zeE, zeu, zeP, List.range.loop, ze2, ss0, zez, zeu]
 simp only [ssH, zeu, zer, reduceIte, zes, zex, zev, zew]
 refine zaq (by exact fun m => pWithin_ok nn x op hx) (by simp only [hnl, nbS]) (by first | exact LR.nil | simp only [nbS]) ?_
 by_cases he : (zco x.b x.l.length op).2 = 0
 ·obtain ⟨n, h1, h2, h3⟩ := withL_le hx he
  have hn2 : nn = true ∨ x.l.drop n = [] := hn.imp id fun h => by rw [h, List.drop_nil]
  have hnd := zaM (k := 0) nn (x.l.drop n)
  have fin : ∀ (b : Int) (c : List UInt8), za0 nn x op ck = (nn, ⟨b, c, x.l.drop n⟩, 0) → nb 0 (wN (.tup [lgV nn ⟨b, c, x.l.drop n⟩, it 0])) ∧ wN (.tup [lgV nn ⟨b, c, x.l.drop n⟩, it 0]) = .tup [lgV (za0 nn x op ck).1 (za0 nn x op ck).2.1, it (za0 nn x op ck).2.2] := by
   intro b c h
   have hw := wN_lgV (nn := nn) (x := ⟨b, c, x.l.drop n⟩) hn2
   have hnb := zaJ (k := 0) nn ⟨b, c, x.l.drop n⟩
   rw [h]
   simp only [wN, wNs, hw]
   exact ⟨by simp only [hnb, nbS], trivial⟩
  simp only [he, h1, gt_iff_lt, ssH, zeu, zer, reduceIte, zes, zex, zev, zew]
  by_cases h0 : 0 < n
  ·have hd : decide ((0 : Int) < (n : Int)) = true := decide_eq_true (by omega)
   cases hc : (ck == [])
   ·simp only [hd, bs_eq0, hc, ssH, zeu, zer, reduceIte, zes, zex, zev, zew]
    by_cases hk : (65536 : Int) < (ck.length : Int)
    ·simp only [decide_eq_true hk, zak, ssH, zeu, zer, reduceIte, zes, zex, zev, zew]
     exact zaf (v := .tup [lgV false lg0, it 2]) rfl (bad _ (by simp only [za0, he, h1, if_true]; rw [if_pos (by omega), if_pos (.inr (by omega))]))
    ·simp only [decide_eq_false hk, hd, ssH, zeu, zer, reduceIte, zes, zex, zev, zew]
     simp only [za3, zaR, optV, cut_from hn h2, ssH, zeu, zer, reduceIte, zes, zex, zev, zew]
     refine zaq (by exact fun m => pClone_e hn2 (by simp; omega)) (by simp only [hnd, nbS]) (by simp only [hnd]) ?_
     simp only [cells_ents, zax, zak, ssH, zeu, zer, reduceIte, zes, zex, zev, zew]
     refine zaf (v := .tup [lgV nn ⟨op, ck, x.l.drop n⟩, it 0]) rfl (fin _ _ ?_)
     have hc' : ck ≠ [] := by simpa using hc
     simp only [za0, he, h1, if_true, zeX]
     rw [if_pos (by omega), if_neg (by rintro (k | k); exact hc' k; omega)]
   ·simp only [hd, bs_eq0, hc, zak, ssH, zeu, zer, reduceIte, zes, zex, zev, zew]
    have hc' : ck = [] := by simpa using hc
    exact zaf (v := .tup [lgV false lg0, it 2]) rfl (bad _ (by simp only [za0, he, h1, if_true]; rw [if_pos (by omega), if_pos (.inl hc')]))
  ·have hn0' : n = 0 := by omega
   subst hn0'
   have hd : decide ((0 : Int) < ((0 : Nat) : Int)) = false := rfl
   simp only [hd, ssH, zeu, zer, reduceIte, zes, zex, zev, zew]
   simp only [za3, zaR, optV, cut_from hn h2, ssH, zeu, zer, reduceIte, zes, zex, zev, zew]
   refine zaq (by exact fun m => pClone_e hn (by omega)) (by simp only [hnl, nbS]) (by simp only [hnl]) ?_
   simp only [cells_ents, zax, zak, ssH, zeu, zer, reduceIte, zes, zex, zev, zew]
   refine zaf (v := .tup [lgV nn ⟨x.b, x.c, x.l.drop 0⟩, it 0]) rfl (fin _ _ ?_)
   simp only [za0, he, h1, if_true, List.drop_zero]
   rw [if_neg (by omega)]
 ·have hb : ((zco x.b x.l.length op).2 != 0) = true := by simpa using he
  simp only [hb, zak, ssH, zeu, zer, reduceIte, zes, zex, zev, zew]
  exact zaf (v := .tup [lgV false lg0, it (zco x.b x.l.length op).2]) rfl (bad _ (by simp only [za0, if_neg he]))
theorem pCompact_ok (E : Env Γ) {nn : Bool} {x : Lg} (hn : nn = true ∨ x.l = []) (op : Int) (ck : List UInt8) :
  zad Tryz.prog Γ 46 [lgV nn x, it op, bs ck] m fun o m' => o = .ret (.tup [lgV (doL x (za0 nn x op ck)).1 (doL x (za0 nn x op ck)).2.1, it (doL x (za0 nn x op ck)).2.2]) ∧ m' = m := by
 have hnb := zaJ (k := 0) nn x
 have hdn := doL_nil (x := x) (compIn_nil hn (op := op) (ck := ck))
 refine zaG (acalls_pn mixed F46_ok F46_h zaD (by simp only [hnb, nbS]) ?_)
 simp only [F46, lgV, ss0, zez, zeu]
 simp only [zak, ssH, zeu, zer, reduceIte, zes, zex, zev, zew]
 refine hcall_k [0, 1, 2] (pOfL3_ok E (nn := nn) (x := x) (compIn_nil hn (op := op) (ck := ck)) (three_blk (zbV nn x) (zei op) (nb_strBk ck)) (fun hx => pCompact1_ok hn op ck hx)) rfl rfl (by decide) (three_get rfl rfl rfl) (by simp only [hnb, nbS]) (three_blk (zbV nn x) (zei op) (nb_strBk ck)) ?_ ?_
 ·rintro v rfl
  rw [doL_v]
  simp only [zaJ, nbS]
 ·rintro v rfl
  rw [doL_v]
  generalize doL x (za0 nn x op ck) = r at hdn
  obtain ⟨a, y, e⟩ := r
  have hwa := wN_lgV hdn
  have hna := zaJ (k := 0) a y
  simp only [hdrop, lgV, zak, zax, ssH, zeu, zer, reduceIte, zes, zex, zev, zew]
  exact zaf (v := .tup [lgV a y, it e]) rfl ⟨by simp only [wN, wNs, hwa, hna, nbS], by simp only [wN, wNs, hwa]; rfl⟩
end
def lgN (x : Lg) : V := lgV (!x.l.isEmpty) x
theorem nb_lgN {k : Nat} {x : Lg} : nb k (lgN x) := zaJ _ _
theorem do_err {x y : Lg} {a : Bool} {n : Int} {r : Bool × Lg × Int} (hx : lgB x = true) (h : r = (a, y, n)) (hn : n ≠ 0) : doL x r = (false, lg0, n) := by
 subst h
 simp only [doL, hx, if_true, if_neg hn]
theorem do_fit {x y : Lg} {a : Bool} {r : Bool × Lg × Int} (hx : lgB x = true) (h : r = (a, y, 0)) : doL x r = (a, y, 0) := by
 subst h
 simp only [doL, hx, if_true]
section
variable {Γ : Glob} {m : Store}
end
end Go.Av.Fn
/- A log appended to: the document. Conditions: az ahead. -/
namespace Go.Av
section
variable {P : Program} {Γ : Glob} {H : Nat → List (Nat × List Nat) × List Nat} {f : FuncId} {F : AFn} {gs : List Nat} {m : Store}
end
section
variable {P : Program} {Γ : Glob} {Kp : V → Hl → Prop} {N : Nat} {l : List Item} {K : HS → Prop} {t : List V} {h : Hl} {d : Option Tmp} {s : List (Tmp × Option (Tmp × Bool) × AOp)} {g : FuncId} {first args caps : List V}
end
end Go.Av
namespace Go.Av.Fn
set_option linter.unusedSimpArgs false
set_option linter.unusedVariables false
set_option maxRecDepth 10000
open Go.Proofs
section
variable {Γ : Glob} {m : Store}
end
section
variable {Γ : Glob} {m : Store}
end
end Go.Av.Fn
/- Numbers and texts az bytes, by the document. No condition. -/
namespace Go.Av.Fn
set_option linter.unusedSimpArgs false
set_option linter.unusedVariables false
set_option maxRecDepth 10000
open Go.Proofs Go.Lib
section
variable {Γ : Glob} {m : Store}
end
section
variable {Γ : Glob} {m : Store}
end
section
variable {Γ : Glob} {m : Store}
end
end Go.Av.Fn
/- Commands that are put are got as they were: the statement's function, walked. Conditions as ahead. -/
namespace Go.Av.Fn
set_option linter.unusedSimpArgs false
set_option linter.unusedVariables false
set_option maxRecDepth 10000
open Go.Proofs
end Go.Av.Fn
/- Any command has the bytes, and any bytes are the command, that the document says: the law. Conditions: az ahead. -/
namespace Go.Av
section
variable {P : Program} {Γ : Glob} {Kp : V → Hl → Prop} {l : List Item} {K : HS → Prop} {t : List V} {h : Hl} {d : Option Tmp} {s : List (Tmp × Option (Tmp × Bool) × AOp)} {g : FuncId} {first args caps : List V}
end
end Go.Av
namespace Go.Av.Fn
set_option linter.unusedSimpArgs false
set_option linter.unusedVariables false
set_option maxRecDepth 10000
open Go.Proofs
theorem getC_le {s : List UInt8} {a : Nat} {e : Int} (ha : a ≤ s.length) : (getC s a e).2.1 ≤ s.length := by
 unfold getC
 exact rText_le (zb3 (zb3 ha))
end Go.Av.Fn
/- Functions that put behind a slice, over blocks. No condition. -/
namespace Go.Av
def BH (e : TypeId) (x0 : Option Blk) (tok : Tok) (es : List V) : Prop := (x0 = none ∧ tok = .full) ∨ ∃ k, x0 = some (.tip e k) ∧ tok = .tip 0 k ∧ es ≠ []
section
variable {P : Program} {Γ : Glob} {H : Nat → List (Nat × List Nat) × List Nat} {f : FuncId} {F : AFn} {gs : List Nat} {m m' : Store}
theorem acalls_bu (hm : P.follows .mixedOrders = true) (hF : zam P H f = some F) (hok : F.body.okH gs = true) (hG : GOk Γ gs) {e : TypeId} {size : Nat} {es es2 az : List V} {v : V} (hB : BufI e size m m' v es) (hes : nbs 0 es) (ha : nbs 0 az) (h2 : nbs 0 es2) (hz : szOk size es2 = true) (hne : es2 ≠ [])
  (h : ∀ x0 tok, BH e x0 tok es → hawp P Γ (fun _ _ => False) 1 F.body (bodyH F.res fun v h' => ∃ j k, v = .sl es2 [] (.tip j k) ∧ lk h' j = some (.tip e k)) ⟨start F.ntmps (.sl es [] tok :: az), [x0]⟩) :
  zad P Γ f (v :: az) m' fun o m2 => ∃ v2, o = .ret v2 ∧ Buf e size m m2 v2 es2 := by
 have full : ∀ M : Store, szOk size es = true → zad P Γ f (.sl es [] .full :: az) M fun o m2 => ∃ v2, o = .ret v2 ∧ Buf e size M m2 v2 es2 := by
  intro M hs
  have h1 := acalls_h (P := P) (Γ := Γ) (R0 := fun _ _ => False) (N := 1) (m := fun _ => none) (h0 := [none]) hm hF hok hG (args0 := .sl es [] .full :: az) (args := .sl es [] .full :: az) (.cons (VR.sl (k := .full) (k' := .full) (hes.up _) .nil trivial) (ha.up _)) ⟨fun a c x r hx => r.elim, fun a b c r _ => r.elim, fun a b c x y r _ _ _ => r.elim, fun a b r => r.elim⟩ (fun _ _ q => q.elim) (Q := fun o h' => match o with | .ret v => ∃ j k, v = .sl es2 [] (.tip j k) ∧ lk h' j = some (.tip e k) | .pan _ => False) (h none .full (.inl ⟨rfl, rfl⟩))
  have hD : Disj (fun _ => none) M := fun b => .inl rfl
  have e0 : Store.or (fun _ => none) M = M := by funext b; rfl
  have h3 := h1.frame hD
  rw [e0] at h3
  refine zad.less h3 ?_
  rintro o m'' ⟨m1, rfl, d, S, o0, h', s1, s2, s3, s4⟩
  cases o0 with
  | pan v => exact s4.elim
  | ret v =>
   cases o with
   | pan v' => exact s3.elim
   | ret v' =>
    obtain ⟨j, k, rfl, hj⟩ := s4
    obtain ⟨es', mr, k', rfl, ra, rb, rc⟩ := VR.sl_inv s3
    obtain rfl := zda h2 ra
    obtain rfl := rb.nil_inv
    cases k' with
    | tip b k' =>
     obtain ⟨r0, rfl⟩ := rc
     obtain ⟨Y', g1, g2⟩ := s2.blk _ _ _ r0 hj
     cases Y' with
     | tip e' k' =>
      obtain ⟨rfl, rfl⟩ := g2
      have hmb : M b = none := by
       rcases d b with q | q
       ·rw [g1] at q; cases q
       ·exact q
      refine ⟨M.set b (.tip e k), ?_, _, rfl, hz, .inr ⟨hne, b, k, hmb, rfl, rfl⟩⟩
      intro c x hx
      by_cases e : c = b
      ·subst e
       rw [Store.set_same] at hx
       cases hx
       simp only [Store.or, g1]
      ·rw [Store.set_ne _ _ e] at hx
       rcases d c with q | q
       ·simp only [Store.or, q]; exact hx
       ·rw [q] at hx
        cases hx
     | _ => exact g2.elim
    | _ => exact rc.elim
 rcases hB with ⟨hs, (⟨rfl, rfl, rfl⟩ | ⟨hne0, b, k, hb, rfl, rfl⟩)⟩ | ⟨hs, rfl, rfl⟩
 ·exact full _ hs
 ·have hmb : (m.set b (.tip e k)) b = some (.tip e k) := Store.set_same _ _ _
  have h1 := acalls_h (P := P) (Γ := Γ) (R0 := fun a c => a = 0 ∧ c = b) (N := 1) (m := one b (.tip e k)) hm hF hok hG (args0 := .sl es [] (.tip 0 k) :: az) (args := .sl es [] (.tip b k) :: az) (.cons (VR.sl (k := .tip 0 k) (k' := .tip b k) (hes.up _) .nil ⟨⟨rfl, rfl⟩, rfl⟩) (ha.up _)) (hh_one (X := .tip e k) ⟨rfl, rfl⟩) (fun _ _ q => by omega) (Q := fun o h' => match o with | .ret v => ∃ j k, v = .sl es2 [] (.tip j k) ∧ lk h' j = some (.tip e k) | .pan _ => False) (h _ _ (.inr ⟨k, rfl, rfl, hne0⟩))
  have h3 := h1.frame (one_disj b (.tip e k) (m := m.set b (.tip e k)))
  rw [one_del hmb] at h3
  refine zad.less h3 ?_
  rintro o m'' ⟨m1, rfl, d, S, o0, h', s1, s2, s3, s4⟩
  cases o0 with
  | pan v => exact s4.elim
  | ret v =>
   cases o with
   | pan v' => exact s3.elim
   | ret v' =>
    obtain ⟨j, k2, rfl, hj⟩ := s4
    obtain ⟨es', mr, k', rfl, ra, rb, rc⟩ := VR.sl_inv s3
    obtain rfl := zda h2 ra
    obtain rfl := rb.nil_inv
    cases k' with
    | tip b2 k' =>
     obtain ⟨r0, rfl⟩ := rc
     obtain ⟨Y', g1, g2⟩ := s2.blk _ _ _ r0 hj
     cases Y' with
     | tip e' k' =>
      obtain ⟨rfl, rfl⟩ := g2
      have hmb2 : m b2 = none := by
       by_cases e : b2 = b
       ·rw [e]; exact hb
       ·rcases d b2 with q | q
        ·rw [g1] at q; cases q
        ·simp only [del, if_neg e, Store.set_ne _ _ e] at q
         exact q
      refine ⟨m.set b2 (.tip e k2), ?_, _, rfl, hz, .inr ⟨hne, b2, k2, hmb2, rfl, rfl⟩⟩
      intro c x hx
      by_cases e : c = b2
      ·subst e
       rw [Store.set_same] at hx
       cases hx
       simp only [Store.or, g1]
      ·rw [Store.set_ne _ _ e] at hx
       have hcb : c ≠ b := by rintro rfl; rw [hb] at hx; cases hx
       rcases d c with q | q
       ·simp only [Store.or, q, del, if_neg hcb, Store.set_ne _ _ hcb]; exact hx
       ·simp only [del, if_neg hcb, Store.set_ne _ _ hcb] at q
        rw [q] at hx
        cases hx
     | _ => exact g2.elim
    | _ => exact rc.elim
 ·exact full _ hs
end
section
variable {P : Program} {Γ : Glob} {Kp : V → Hl → Prop} {N : Nat} {l : List Item} {K : HS → Prop} {t : List V} {r : Hl} {d : Option Tmp} {s : List (Tmp × Option (Tmp × Bool) × AOp)} {g : FuncId} {first args caps : List V}
theorem hcall_bh {e : TypeId} {size : Nat} {az es es2 : List V} {x0 : Option Blk} {tok : Tok} (hl : r.length < 999999) (he : first ++ args ++ caps = .sl es [] tok :: az) (hB : BH e x0 tok es) (hz : szOk size es = true) (hne : es2 ≠ [])
  (hA : ∀ m m' v, BufI e size m m' v es → zad P Γ g (v :: az) m' fun o m2 => ∃ v2, o = .ret v2 ∧ Buf e size m m2 v2 es2) (h1 : nbs 0 es) (ha : nbs 0 az) (h2 : nbs 0 es2)
  (hr : ∀ k, hth P Γ Kp s l K (hput t (none :: (r ++ [some (.tip e k)])) d (some (.sl es2 [] (.tip (r.length + 1) k))))) : hcallS P Γ Kp (.fn (.func g) first caps) args d s l K t (x0 :: r) := by
 rcases hB with ⟨rfl, rfl⟩ | ⟨k0, rfl, rfl, hne0⟩
 ·intro R args' m' rl H
  rw [he] at rl
  obtain ⟨y, ys, rfl, r1, r2⟩ := rl.cons_inv
  obtain rfl := zda ha r2
  have : y = .sl es [] .full := nb_eq (v := .sl es [] .full) (VR.sl (k := .full) (k' := .full) h1 .nil trivial) r1
  subst this
  refine (hA m' m' _ (.inr ⟨hz, rfl, rfl⟩)).mono ?_
  rintro o m2 ⟨v2, rfl, hb, (⟨q, _⟩ | ⟨_, b, k, q1, rfl, rfl⟩)⟩
  ·exact absurd q hne
  ·have hlen : ((none : Option Blk) :: r).length = r.length + 1 := rfl
   exact ⟨R.add (r.length + 1) b, .ret _, _, R.le_add _ _, H.push (x := .tip e k) (x' := .tip e k) q1 (by rw [hlen]; omega) ⟨rfl, rfl⟩, VR.sl (k := .tip (r.length + 1) k) (k' := .tip b k) (h2.up _) .nil ⟨.inr ⟨rfl, rfl⟩, rfl⟩, hr k⟩
 ·refine zdf (j := 0) (k := k0) (e := e) (size := size) (es := es) (es2 := es2) (by simp only [zey]; omega) he rfl hz hne0 hne (fun m m' v h => hA m m' v (.inl h)) h1 ha h2 fun k => ?_
  have := hr k
  simpa only [hset, List.cons_append, zey] using this
end
end Go.Av
/- Entries and logs put behind bytes, az the program does. Conditions: az ahead. -/
namespace Go.Av
section
variable {P : Program} {Γ : Glob} {t : List V} {h : Hl} {N : Nat}
theorem lk_apps {hs r : Hl} {a : Nat} : lk (hs ++ r) a = if a < hs.length then lk hs a else lk r (a - hs.length) := by
 induction hs generalizing a with
 | nil => simp
 | cons x hs ih =>
  cases a with
  | zero => simp [lk]
  | succ a =>
   simp only [List.cons_append, lk, ih, zey, Nat.add_lt_add_iff_right, Nat.add_sub_add_right]
theorem back_tip {S : List Nat} {c L : Nat} {J : List V → Hl → Prop} {e : TypeId} {j k : Nat} {es more : List V} (hs : Hl) (h1 : t.length = L) (hN : N ≤ c) (hcj : c ≤ j) (hc2 : c < 1000000) (hj : lk h j = some (.tip e k)) (hlen : hs.length = c) (hS : S.map (tget t) = .sl es [] (.tip j k) :: more) (hes : nbs 0 es) (hm : nbs c more)
  (hB : ∀ a < c, ∀ x, lk hs a = some x → lk h a = some x ∧ nbB c x) (hJ : J (.sl es [] (.tip c k) :: more) (hs ++ [some (.tip e k)])) : Back S (zeP c ++ [j]) N L J ⟨t, h⟩ := by
 have g1 : ∀ a < c, (zeP c ++ [j])[a]? = some a := by
  intro a ha
  rw [List.getElem?_append_left (by simpa using ha)]
  exact nm_range ha
 have g2 : (zeP c ++ [j])[c]? = some j := by
  rw [List.getElem?_append_right (by simp)]
  simp
 have hm' : (NB c).le (Nm (zeP c ++ [j])) := fun a b ⟨e, l⟩ => by subst e; exact g1 _ l
 refine ⟨h1, fun a ha => g1 a (by omega), ?_, by simp; omega, _, hs ++ [some (.tip e k)], ?_, by simp [hlen], ?_, hJ⟩
 ·rw [List.nodup_append]
  refine ⟨List.nodup_range, by simp, ?_⟩
  intro a ha b hb
  simp only [List.mem_range] at ha
  simp only [List.mem_singleton] at hb
  omega
 ·rw [hS]
  exact .cons (VR.sl (k := .tip c k) (k' := .tip j k) (hes.up _) .nil ⟨g2, rfl⟩) (LR.mono hm' hm)
 ·intro a b hab
  by_cases ha : a < c
  ·rw [g1 a ha] at hab
   cases hab
   simp only
   rw [lk_apps, if_pos (by omega)]
   cases hx : lk hs a with
   | none => trivial
   | some x =>
    obtain ⟨q1, q2⟩ := hB a ha x hx
    rw [q1]
    exact BR.mono hm' q2
  ·have hac : a = c := by
    have := (List.getElem?_eq_some_iff.1 hab).1
    simp at this
    omega
   subst hac
   rw [g2] at hab
   cases hab
   simp only
   rw [lk_apps, if_neg (by omega), hlen, Nat.sub_self, hj]
   exact ⟨rfl, rfl⟩
end
end Go.Av
namespace Go.Av.Fn
set_option linter.unusedSimpArgs false
set_option linter.unusedVariables false
set_option maxRecDepth 10000
open Go.Proofs
def uz (n : Int) : List UInt8 := Lib.uvarint (Lib.zigzag n)
def zbO : List Int → List UInt8
 | [] => []
 | n :: l => uz n ++ zbO l
theorem numsB_app (a b : List Int) : zbO (a ++ b) = zbO a ++ zbO b := by
 induction a with
 | nil => rfl
 | cons n a ih => simp only [List.cons_append, zbO, ih, zeM]
theorem uz_len {n : Int} (h : Av.I64 n) : (uz n).length ≤ 10 := Lib.uvarint_length64 (Av.zigzag_u64 h)
theorem uz_ne (n : Int) : uz n ≠ [] := by
 unfold uz
 rw [Lib.uvarint]
 split <;> simp
theorem numsB_len {l : List Int} (h : ∀ n ∈ l, Av.I64 n) : (zbO l).length ≤ 10 * l.length := by
 induction l with
 | nil => exact zeY _
 | cons n l ih =>
  have h1 := uz_len (h n (zeG ..))
  have h2 := ih fun x hx => h x (zeJ _ hx)
  simp only [zbO, zeK, zey]
  omega
theorem nbs_its {k : Nat} (l : List Int) : nbs k (l.map it) := zdD (fun n => by simp only [nbS]) l
theorem zb1 {l : List UInt8} (h : l ≠ []) : l.map by8 ≠ [] := by simpa using h
section
variable {Γ : Glob} {m m' : Store}
theorem nums_ok {v : V} {l : List UInt8} (hB : BufI 5 1 m m' v (l.map by8)) (ns : List Int) (hn : ∀ n ∈ ns, Av.I64 n) (hne : ns ≠ []) (hl : l.length + 10 * ns.length < 1099511627776) (hc : ns.length < 1000000) :
  zad Tryz.prog Γ 123 [v, .sl (ns.map it) [] .full] m' fun o m2 => ∃ v2, o = .ret v2 ∧ Buf 5 1 m m2 v2 ((l ++ zbO ns).map by8) := by
 have hne2 : zbO ns ≠ [] := by
  cases ns with
  | nil => exact absurd rfl hne
  | cons n ns => simp only [zbO]; intro h; exact uz_ne n (List.append_eq_nil_iff.1 h).1
 refine acalls_bu mixed F123_ok F123_h zaD hB (zas _) (by simp only [nbs_its, nbS]) (zas _) (zbz _) (zb1 (by simp [hne2])) fun x0 tok hx => ?_
 simp only [F123, ss0, zez, zeu]
 simp only [ssH, zeu, zer, reduceIte, zes, zex, zev, zew]
 refine h_loop [0, 7, 8, 9] 18 (fun n vs h => ∃ (i : Nat) (tk : Tok), vs = [.sl ((l ++ zbO (ns.take i)).map by8) [] tk, .sl (ns.map it) [] .full, it ns.length, it i] ∧ i + n = ns.length + 1 ∧ i ≤ ns.length ∧ ((i = 0 ∧ h = [x0] ∧ tk = tok) ∨ (0 < i ∧ ∃ k, h = [none, some (.tip 5 k)] ∧ tk = .tip 1 k))) (ns.length + 1) (by decide) (by decide) (zeP 1) ?_ ?_
 ·have e0 : [0, 7, 8, 9].map (tget [.sl (l.map by8) [] tok, .sl (ns.map it) [] .full, un, un, .sl [] [] .full, un, un, .sl (ns.map it) [] .full, it (ns.map it).length, it 0, un, un, un, un, un, un, un, un]) = [.sl ((l ++ zbO (ns.take 0)).map by8) [] tok, .sl (ns.map it) [] .full, it ns.length, it ((0 : Nat) : Int)] := by
   rw [show l ++ zbO (ns.take 0) = l by simp [zbO], zeL]
   rfl
  refine back_take rfl (by decide) (by decide) (by simp) ?_ ?_ ⟨0, tok, e0, by omega, by omega, .inl ⟨rfl, rfl, rfl⟩⟩
  ·show nbs 1 [.sl (l.map by8) [] tok, .sl (ns.map it) [] .full, it (ns.map it).length, it 0]
   rcases hx with ⟨rfl, rfl⟩ | ⟨k, rfl, rfl, _⟩
   ·simp only [nbs_its, nbS]
   ·simp only [nbs_its, nbS]; decide
  ·intro a ha x hx'
   have : a = 0 := by omega
   subst this
   rcases hx with ⟨rfl, rfl⟩ | ⟨k, rfl, rfl, _⟩
   ·cases hx'
   ·cases hx'; simp only [nbS]
 rintro n t h J hJ hlt ⟨i, tk, hv, hi1, hi2, hh⟩
 simp only [ze2, List.cons.injEq, and_true] at hv
 obtain ⟨g0, g7, g8, g9⟩ := hv
 have hlen : (l ++ zbO (ns.take i)).length ≤ l.length + 10 * ns.length := by
  have := numsB_len (l := ns.take i) fun x hx => hn x (List.mem_of_mem_take hx)
  rw [ze0] at this
  simp only [zeK]
  omega
 obtain ⟨pr, hpr⟩ : ∃ z, z = l ++ zbO (ns.take i) := ⟨_, rfl⟩
 rw [← hpr] at g0 hlen
 rw [t_eq hlt]
 simp only [zav, upTo, g0, g7, g8, g9, zeL, ssH, zeu, zer, reduceIte, zes, zex, zev, zew]
 by_cases hil : i < ns.length
 ·have hx2 : ns[i]? = some ns[i] := zeC hil
  have hni : Av.I64 ns[i] := hn _ (List.getElem_mem _)
  have hst : zbO (ns.take (i + 1)) = zbO (ns.take i) ++ uz ns[i] := by rw [List.take_add_one, hx2, numsB_app]; simp [zbO]
  generalize ns[i] = a at hx2 hni hst
  have hnb := nbs_its (k := 0) ns
  have hnb1 := nbs_its (k := 1) ns
  obtain ⟨nx, hnx⟩ : ∃ z, z = l ++ zbO (ns.take (i + 1)) := ⟨_, rfl⟩
  have hp : nx = pr ++ uz a := by rw [hnx, hpr, hst, zeM]
  have hcall : ∀ (mm mm' : Store) (w : V), BufI 5 1 mm mm' w (pr.map by8) → zad Tryz.prog Γ 69 [w, it a] mm' fun o m2 => ∃ v2, o = .ret v2 ∧ Buf 5 1 mm m2 v2 (nx.map by8) := by
   intro mm mm' w hw
   rw [hp]
   exact zdK (Γ := Γ) hw hni (by omega)
  have hi9 : idxLV 1 (.sl (ns.map it) [] .full) (it i) = some (.elt [it a]) := idxLV_nat (e := it a) (by rw [ze9, hx2]; rfl) rfl
  have hne3 : nx.map by8 ≠ [] := zb1 (by rw [hp]; simp [uz_ne])
  have fin : ∀ {t' : List V} {h' : Hl} (j k : Nat), t'.length = 18 → tget t' 0 = .sl (nx.map by8) [] (.tip j k) → tget t' 7 = .sl (ns.map it) [] .full → tget t' 8 = it ns.length → tget t' 9 = it (i + 1 : Nat) → lk h' j = some (.tip 5 k) → 1 ≤ j → ∃ names, J names ⟨t', h'⟩ := by
   intro t' h' j k q q0 q7 q8 q9 qj hj
   refine ⟨_, hJ (n - 1) _ _ (by omega) (back_tip (c := 1) (j := j) (k := k) (es := nx.map by8) (more := [.sl (ns.map it) [] .full, it ns.length, it (i + 1 : Nat)]) [none] q (zeY _) hj (by decide) qj rfl (by simp only [ze2, q0, q7, q8, q9]) (zas _) (by simp only [hnb1, nbS]) ?_ ⟨i + 1, .tip 1 k, by rw [← hnx], by omega, by omega, .inr ⟨by omega, k, rfl, rfl⟩⟩)⟩
   intro a ha x hx
   have : a = 0 := by omega
   subst this
   cases hx
  simp only [show decide ((i : Int) < (ns.length : Int)) = true from decide_eq_true (by omega), hi9, ssH, zeu, zer, reduceIte, zes, zex, zev, zew]
  rcases hh with ⟨hi0, rfl, rfl⟩ | ⟨hi0, k, rfl, rfl⟩
  ·have hB0 : BH 5 x0 tk (pr.map by8) := by rw [hpr, hi0]; simpa [zbO] using hx
   refine hcall_bh (size := 1) (az := [it a]) (by simp) rfl hB0 (zbz _) hne3 hcall (zas _) (by first | exact LR.nil | simp only [nbS]) (zas _) fun k => ?_
   simp only [zeE, zaB (show i < 4611686018427387904 by omega), ssH, zeu, zer, reduceIte, zes, zex, zev, zew]
   exact fin 1 k rfl rfl rfl rfl rfl rfl (by decide)
  ·refine zdf (j := 1) (size := 1) (az := [it a]) (by simp) rfl rfl (zbz _) ?_ hne3 (fun mm mm' w hw => hcall mm mm' w (.inl hw)) (zas _) (by first | exact LR.nil | simp only [nbS]) (zas _) fun k => ?_
   ·refine zb1 ?_
    rw [hpr]
    cases ns with
    | nil => simp at hil
    | cons n ns =>
     cases i with
     | zero => omega
     | succ i => simp [zbO, uz_ne]
   simp only [zey, zeE, zaB (show i < 4611686018427387904 by omega), ssH, zeu, zer, reduceIte, zes, zex, zev, zew]
   exact fin 2 k rfl rfl rfl rfl rfl rfl (by decide)
 ·simp only [show decide ((i : Int) < (ns.length : Int)) = false from decide_eq_false (by omega), ssH, zeu, zer, reduceIte, zes, zex, zev, zew]
  have hie : i = ns.length := by omega
  rw [hie, List.take_length] at hpr
  subst hpr
  rcases hh with ⟨hi0, rfl, rfl⟩ | ⟨hi0, k, rfl, rfl⟩
  ·have : ns = [] := List.length_eq_zero_iff.1 (by omega)
   exact absurd this hne
  ·exact zaf rfl ⟨1, k, rfl, rfl⟩
def putE (e : Ent) : List UInt8 := zbO [e.c, e.q, e.k, e.n] ++ (uz e.s.length ++ e.s) ++ putC e.ck e.cn e.cs
def EntN (e : Ent) : Prop := Av.I64 e.c ∧ Av.I64 e.q ∧ Av.I64 e.k ∧ Av.I64 e.n ∧ Av.I64 e.ck ∧ Av.I64 e.cn
def litF (a b c d : V) : Option V := (zdc 1 [.val (.int .i64 0), .val (.int .i64 0), .val (.int .i64 0), .val (.int .i64 0)] [(0, a), (1, b), (2, c), (3, d)]).map fun es => .sl es [] .full
theorem litF_eq {t : List V} {a b c d : Nat} : zal Tryz.prog (ev Γ t) m (.lits 1 [.val (.int .i64 0)] 4 [(0, .tmp a), (1, .tmp b), (2, .tmp c), (3, .tmp d)]) = litF (tget t a) (tget t b) (tget t c) (tget t d) := by
 rw [← zd5 (Γ := Γ), ← zd5 (Γ := Γ), ← zd5 (Γ := Γ), ← zd5 (Γ := Γ)]
 rfl
theorem litF_it (a b c d : Int) : litF (it a) (it b) (it c) (it d) = some (.sl ([a, b, c, d].map it) [] .full) := rfl
theorem putE_len {e : Ent} (h : EntN e) (hs : e.cs.length ≤ 1099511627776) (hs2 : e.s.length ≤ 1099511627776) : (putE e).length ≤ 80 + e.s.length + e.cs.length := by
 obtain ⟨h1, h2, h3, h4, h5, h6⟩ := h
 have a := numsB_len (l := [e.c, e.q, e.k, e.n]) (by intro n hn; simp only [List.mem_cons, List.not_mem_nil, or_false] at hn; rcases hn with rfl | rfl | rfl | rfl <;> assumption)
 have b := uz_len (n := (e.s.length : Int)) ⟨by omega, by omega⟩
 have c := putC_len (k := e.ck) (n := e.cn) h5 h6 (t := e.cs) (by omega)
 simp only [putE, zeK, zey, zeE] at a ⊢
 omega
theorem sPut_ok {v : V} {l : List UInt8} (hB : BufI 5 1 m m' v (l.map by8)) (e : Ent) (he : EntN e) (hl : l.length + e.s.length + e.cs.length + 1000 < 1099511627776) :
  zad Tryz.prog Γ 97 [v, entV e] m' fun o m2 => ∃ v2, o = .ret v2 ∧ Buf 5 1 m m2 v2 ((l ++ putE e).map by8) := by
 have hne := zaN (k := 0) e
 have hn4 : ∀ n ∈ [e.c, e.q, e.k, e.n], Av.I64 n := by
  obtain ⟨h1, h2, h3, h4, h5, h6⟩ := he
  intro n hn
  simp only [List.mem_cons, List.not_mem_nil, or_false] at hn
  rcases hn with rfl | rfl | rfl | rfl <;> assumption
 have hlen := numsB_len hn4
 simp only [zey, zeE] at hlen
 have hz : zbO [e.c, e.q, e.k, e.n] ≠ [] := by simp [zbO, uz_ne]
 refine acalls_bu mixed F97_ok F97_h zaD hB (zas _) (by simp only [hne, nbS]) (zas _) (zbz _) (zb1 (by simp [putE, hz])) fun x0 tok hx => ?_
 simp only [F97, entV, ss0, zez, zeu]
 simp only [litF_eq, litF_it, zak, ssH, zeu, zer, reduceIte, zes, zex, zev, zew]
 have hni := nbs_its (k := 0) [e.c, e.q, e.k, e.n]
 have hb2 := uz_len (n := (e.s.length : Int)) ⟨by omega, by omega⟩
 refine hcall_bh (size := 1) (az := [.sl ([e.c, e.q, e.k, e.n].map it) [] .full]) (by simp) rfl hx (zbz _) (es2 := (l ++ zbO [e.c, e.q, e.k, e.n]).map by8) (zb1 (by simp [hz])) (fun mm mm' w hw => nums_ok hw _ hn4 (by simp) (by simp; omega) (by simp)) (zas _) (by simp only [hni, nbS]) (zas _) fun k => ?_
 simp only [zey, zeE, List.map_cons, List.map_nil, ssH, zeu, zer, reduceIte, zes, zex, zev, zew]
 refine zdf (e := 5) (j := 2) (size := 1) (az := [bs e.s]) (by simp) rfl rfl (zbz _) (es2 := (l ++ zbO [e.c, e.q, e.k, e.n] ++ uz e.s.length ++ e.s).map by8) (zb1 (by simp [hz])) (zb1 (by simp [hz])) (fun mm mm' w hw => putText_ok hw (by simp; omega) (by simp; omega)) (zas _) (by first | exact LR.nil | simp only [nbS]) (zas _) fun k2 => ?_
 simp only [zey, zeE, ssH, zeu, zer, reduceIte, zes, zex, zev, zew]
 have e2 : l ++ putE e = l ++ zbO [e.c, e.q, e.k, e.n] ++ uz e.s.length ++ e.s ++ putC e.ck e.cn e.cs := by simp only [putE, zeM]
 rw [e2]
 refine zdf (e := 5) (j := 3) (size := 1) (az := [cmdV e.ck e.cn e.cs]) (by simp) rfl rfl (zbz _) (es2 := (l ++ zbO [e.c, e.q, e.k, e.n] ++ uz e.s.length ++ e.s ++ putC e.ck e.cn e.cs).map by8) (zb1 (by simp [hz])) (zb1 (by simp [hz])) (fun mm mm' w hw => put_ok (.inl hw) he.2.2.2.2.1 he.2.2.2.2.2 (by simp; omega) (by simp; omega)) (zas _) (by simp only [cmdV, nbS]) (zas _) fun k3 => ?_
 simp only [zey, zeE, ssH, zeu, zer, reduceIte, zes, zex, zev, zew]
 exact zaf rfl ⟨4, k3, rfl, rfl⟩
def zb4 : List Ent → List UInt8
 | [] => []
 | e :: l => putE e ++ zb4 l
theorem putEs_app (a b : List Ent) : zb4 (a ++ b) = zb4 a ++ zb4 b := by
 induction a with
 | nil => rfl
 | cons e a ih => simp only [List.cons_append, zb4, ih, zeM]
def putL (x : Lg) : List UInt8 := uz x.b ++ (uz x.c.length ++ x.c) ++ uz x.l.length ++ zb4 x.l
def EntS (e : Ent) : Prop := EntN e ∧ e.s.length ≤ 255 ∧ e.cs.length ≤ 255
theorem putEs_len {l : List Ent} (h : ∀ e ∈ l, EntS e) : (zb4 l).length ≤ 600 * l.length := by
 induction l with
 | nil => exact zeY _
 | cons e l ih =>
  obtain ⟨h1, h2, h3⟩ := h e (zeG ..)
  have h4 := ih fun x hx => h x (zeJ _ hx)
  have h5 := putE_len h1 (by omega) (by omega)
  simp only [zb4, zeK, zey]
  omega
def LogS (x : Lg) : Prop := Av.I64 x.b ∧ x.c.length ≤ 65536 ∧ x.l.length ≤ 64 ∧ ∀ e ∈ x.l, EntS e
theorem putL_len {x : Lg} (h : LogS x) : (putL x).length ≤ 110000 := by
 obtain ⟨h1, h2, h3, h4⟩ := h
 have a := uz_len h1
 have b := uz_len (n := (x.c.length : Int)) ⟨by omega, by omega⟩
 have c := uz_len (n := (x.l.length : Int)) ⟨by omega, by omega⟩
 have d := putEs_len h4
 simp only [putL, zeK]
 omega
theorem oPut_ok {v : V} {l : List UInt8} (hB : BufI 5 1 m m' v (l.map by8)) (nn : Bool) (x : Lg) (hx : LogS x) (hl : l.length ≤ 1000000) :
  zad Tryz.prog Γ 51 [v, lgV nn x] m' fun o m2 => ∃ v2, o = .ret v2 ∧ Buf 5 1 m m2 v2 ((l ++ putL x).map by8) := by
 have hnb := zaJ (k := 0) nn x
 have hnl := zaM (k := 0) nn x.l
 obtain ⟨h1, h2, h3, h4⟩ := id hx
 have hb2 := uz_len h1
 have hc2 := uz_len (n := (x.c.length : Int)) ⟨by omega, by omega⟩
 have hd2 := uz_len (n := (x.l.length : Int)) ⟨by omega, by omega⟩
 refine acalls_bu mixed F51_ok F51_h zaD hB (zas _) (by simp only [hnb, nbS]) (zas _) (zbz _) (zb1 (by simp [putL, uz_ne])) fun x0 tok hx0 => ?_
 simp only [F51, lgV, ss0, zez, zeu]
 simp only [len_ents, zak, ssH, zeu, zer, reduceIte, zes, zex, zev, zew]
 refine hcall_bh (e := 5) (size := 1) (az := [it x.b]) (by simp) rfl hx0 (zbz _) (es2 := (l ++ uz x.b).map by8) (zb1 (by simp [uz_ne])) (fun mm mm' w hw => zdK hw h1 (by omega)) (zas _) (by first | exact LR.nil | simp only [nbS]) (zas _) fun k => ?_
 simp only [zey, zeE, ssH, zeu, zer, reduceIte, zes, zex, zev, zew]
 refine zdf (e := 5) (j := 2) (size := 1) (az := [bs x.c]) (by simp) rfl rfl (zbz _) (es2 := (l ++ uz x.b ++ uz x.c.length ++ x.c).map by8) (zb1 (by simp [uz_ne])) (zb1 (by simp [uz_ne])) (fun mm mm' w hw => putText_ok hw (by simp; omega) (by simp; omega)) (zas _) (by first | exact LR.nil | simp only [nbS]) (zas _) fun k2 => ?_
 simp only [zey, zeE, ssH, zeu, zer, reduceIte, zes, zex, zev, zew]
 refine zdf (e := 5) (j := 3) (size := 1) (az := [it x.l.length]) (by simp) rfl rfl (zbz _) (es2 := (l ++ uz x.b ++ uz x.c.length ++ x.c ++ uz x.l.length).map by8) (zb1 (by simp [uz_ne])) (zb1 (by simp [uz_ne])) (fun mm mm' w hw => zdK (.inl hw) ⟨by omega, by omega⟩ (by simp; omega)) (zas _) (by first | exact LR.nil | simp only [nbS]) (zas _) fun k3 => ?_
 obtain ⟨pl, hpl⟩ : ∃ z, z = l ++ uz x.b ++ uz x.c.length ++ x.c ++ uz x.l.length := ⟨_, rfl⟩
 rw [← hpl]
 simp only [zey, zeE, len_ents, ssH, zeu, zer, reduceIte, zes, zex, zev, zew]
 have hpe : l ++ putL x = pl ++ zb4 x.l := by rw [hpl]; simp only [putL, zeM]
 have hpn : pl ≠ [] := by rw [hpl]; simp [uz_ne]
 have hpo : pl.length ≤ 1100000 := by rw [hpl]; simp only [zeK]; omega
 rw [hpe]
 clear hpl hpe
 have hnl2 := zaM (k := 2) nn x.l
 have back : ∀ {t' : List V} {h' : Hl} (n' i' j k : Nat), t'.length = 30 → tget t' 0 = .sl ((pl ++ zb4 (x.l.take i')).map by8) [] (.tip j k) → tget t' 3 = .ptr 1 0 → tget t' 19 = za4 nn x.l → tget t' 20 = it x.l.length → tget t' 21 = it i' → lk h' 1 = some (logB nn x) → lk h' j = some (.tip 5 k) → 2 ≤ j → i' + n' = x.l.length + 1 → i' ≤ x.l.length →
   Back [0, 3, 19, 20, 21] (zeP 2 ++ [j]) 1 30 (fun vs h => ∃ (i k : Nat), vs = [.sl ((pl ++ zb4 (x.l.take i)).map by8) [] (.tip 2 k), .ptr 1 0, za4 nn x.l, it x.l.length, it i] ∧ i + n' = x.l.length + 1 ∧ i ≤ x.l.length ∧ h = [none, some (logB nn x), some (.tip 5 k)]) ⟨t', h'⟩ := by
  intro t' h' n' i' j k q q0 q3 q19 q20 q21 qb qj hj hn' hi'
  refine back_tip (c := 2) (j := j) (k := k) (es := (pl ++ zb4 (x.l.take i')).map by8) (more := [.ptr 1 0, za4 nn x.l, it x.l.length, it i']) [none, some (logB nn x)] q (by decide) hj (by decide) qj rfl (by simp only [ze2, q0, q3, q19, q20, q21]) (zas _) (by simp only [hnl2, nbS]; decide) ?_ ⟨i', k, rfl, hn', hi', rfl⟩
  intro a ha y hy
  have : a = 0 ∨ a = 1 := by omega
  rcases this with rfl | rfl
  ·cases hy
  ·cases hy
   exact ⟨qb, by simp only [logB, hnl2, nbS]⟩
 refine h_loop [0, 3, 19, 20, 21] 30 (fun n vs h => ∃ (i k : Nat), vs = [.sl ((pl ++ zb4 (x.l.take i)).map by8) [] (.tip 2 k), .ptr 1 0, za4 nn x.l, it x.l.length, it i] ∧ i + n = x.l.length + 1 ∧ i ≤ x.l.length ∧ h = [none, some (logB nn x), some (.tip 5 k)]) (x.l.length + 1) (by decide) (by decide) (zeP 2 ++ [4]) (back (x.l.length + 1) 0 4 k3 rfl (by simp only [List.take_zero, zb4, ze5]; rfl) rfl rfl rfl rfl rfl rfl (by decide) (by omega) (by omega)) ?_
 rintro n t h J hJ hlt ⟨i, k, hv, hi1, hi2, rfl⟩
 simp only [ze2, List.cons.injEq, and_true] at hv
 obtain ⟨g0, g3, g19, g20, g21⟩ := hv
 have hlen : (zb4 (x.l.take i)).length ≤ 600 * 64 := by
  have := putEs_len (l := x.l.take i) fun e he => h4 e (List.mem_of_mem_take he)
  rw [ze0] at this
  omega
 obtain ⟨pr, hpr⟩ : ∃ z, z = pl ++ zb4 (x.l.take i) := ⟨_, rfl⟩
 have hprl : pr.length ≤ 1200000 := by rw [hpr, zeK]; omega
 have hpr0 : pr ≠ [] := by rw [hpr]; simp [hpn]
 rw [← hpr] at g0
 rw [t_eq hlt]
 simp only [zav, upTo, g0, g3, g19, g20, g21, logB, ssH, zeu, zer, reduceIte, zes, zex, zev, zew]
 by_cases hil : i < x.l.length
 ·have hx2 : x.l[i]? = some x.l[i] := zeC hil
  have hei : EntS x.l[i] := h4 _ (List.getElem_mem _)
  have hst : pl ++ zb4 (x.l.take (i + 1)) = pr ++ putE x.l[i] := by
   rw [List.take_add_one, hx2, putEs_app, hpr]
   simp [zb4]
  generalize x.l[i] = e at hx2 hei hst
  simp only [show decide ((i : Int) < (x.l.length : Int)) = true from decide_eq_true (by omega), za4, idx_ent hx2, zak, ssH, zeu, zer, reduceIte, zes, zex, zev, zew]
  refine zdf (e := 5) (j := 2) (size := 1) (az := [entV e]) (by simp) rfl rfl (zbz _) (es2 := (pr ++ putE e).map by8) (zb1 hpr0) (zb1 (by simp [hpr0])) (fun mm mm' w hw => sPut_ok (.inl hw) e hei.1 (by have := hei.2; omega)) (zas _) (by simp only [zaN, nbS]) (zas _) fun k2 => ?_
  simp only [zey, zeE, zaB (show i < 4611686018427387904 by omega), ssH, zeu, zer, reduceIte, zes, zex, zev, zew]
  exact ⟨_, hJ (n - 1) _ _ (by omega) (back (n - 1) (i + 1) 4 k2 rfl (by rw [hst]; rfl) rfl rfl rfl rfl rfl rfl (by decide) (by omega) (by omega))⟩
 ·simp only [show decide ((i : Int) < (x.l.length : Int)) = false from decide_eq_false (by omega), ssH, zeu, zer, reduceIte, zes, zex, zev, zew]
  have hie : i = x.l.length := by omega
  rw [hie, List.take_length] at hpr
  subst hpr
  exact zaf rfl ⟨2, k, rfl, rfl⟩
end
end Go.Av.Fn
/- Entries and logs got, az the program does. Conditions: az ahead. -/
namespace Go.Av
section
variable {P : Program} {Γ : Glob} {H : Nat → List (Nat × List Nat) × List Nat} {f : FuncId} {F : AFn} {gs : List Nat} {m : Store}
theorem acalls_cn (hm : P.follows .mixedOrders = true) (hF : zam P H f = some F) (hok : F.body.okH gs = true) (hG : GOk Γ gs) {rb o : Nat} {az : List V} {X : Blk} (hb : m rb = some X) (hX : nbB 0 X) (ha : nbs 0 az) {Q : V → Blk → Prop}
  (h : hawp P Γ (fun _ _ => False) 1 F.body (bodyH F.res fun v h' => nb 0 (wN v) ∧ ∃ Y, lk h' 0 = some Y ∧ nbB 0 Y ∧ Q (wN v) Y) ⟨start F.ntmps (.ptr 0 o :: az), [some X]⟩) :
  zad P Γ f (.ptr rb o :: az) m fun o m' => ∃ v Y, o = .ret v ∧ m' = m.set rb Y ∧ Q v Y := by
 have h1 := acalls_h (P := P) (Γ := Γ) (R0 := fun a c => a = 0 ∧ c = rb) (N := 1) (m := one rb X) hm hF hok hG (args0 := .ptr 0 o :: az) (args := .ptr rb o :: az) (.cons (.ptr o ⟨rfl, rfl⟩) (ha.up _)) (hh_one hX) (fun _ _ q => by omega) (Q := fun o h' => match o with | .ret v => nb 0 (wN v) ∧ ∃ Y, lk h' 0 = some Y ∧ nbB 0 Y ∧ Q (wN v) Y | .pan _ => False) h
 have h2 := h1.frame (one_disj rb X (m := m))
 rw [one_del hb] at h2
 refine zad.wnd (R := fun o m' => ∃ v Y, o = .ret v ∧ m' = m.set rb Y ∧ Q (wN v) Y) (zad.less h2 ?_) ?_ ?_
 ·rintro o m'' ⟨m', rfl, d, S, o0, h', s1, s2, s3, s4⟩
  cases o0 with
  | pan v => exact s4.elim
  | ret v =>
   cases o with
   | pan v' => exact s3.elim
   | ret v' =>
    obtain ⟨q1, Y, q2, q3, q4⟩ := s4
    obtain ⟨Y', g1, g2⟩ := s2.blk _ _ _ (s1 _ _ ⟨rfl, rfl⟩) q2
    obtain rfl := nbB_eq q3 g2
    have e3 : wN v' = wN v := nb_eq q1 (VR.wN s3)
    refine ⟨m.set rb Y', ?_, v', Y', rfl, rfl, by rw [e3]; exact q4⟩
    intro b x hx
    by_cases e : b = rb
    ·subst e
     rw [Store.set_same] at hx
     cases hx
     simp only [Store.or, g1]
    ·rw [Store.set_ne _ _ e] at hx
     rcases d b with q | q
     ·simp only [Store.or, q, del, if_neg e]; exact hx
     ·simp only [del, if_neg e] at q
      rw [q] at hx
      cases hx
 ·rintro v m' ⟨v', Y, e, e2, q⟩
  cases e
  exact ⟨_, Y, rfl, e2, q⟩
 ·rintro v m' ⟨v', Y, e, _⟩
  cases e
end
end Go.Av
namespace Go.Av.Fn
set_option linter.unusedSimpArgs false
set_option linter.unusedVariables false
set_option maxRecDepth 10000
open Go.Proofs
def getE (s : List UInt8) (a : Nat) (e : Int) : Ent × Nat × Int :=
 let c := rInt s a e
 let q := rInt s c.2.1 c.2.2
 let k := rInt s q.2.1 q.2.2
 let n := rInt s k.2.1 k.2.2
 let t := zeg s n.2.1 n.2.2 255
 let d := getC s t.2.1 t.2.2
 (if d.2.2 ≠ 0 then e0 else ⟨c.1, q.1, k.1, n.1, t.1, d.1.1, d.1.2.1, d.1.2.2⟩, d.2.1, d.2.2)
theorem getE_le {s : List UInt8} {a : Nat} {e : Int} (ha : a ≤ s.length) : (getE s a e).2.1 ≤ s.length := by
 unfold getE
 exact getC_le (rText_le (zb3 (zb3 (zb3 (zb3 ha)))))
section
variable {Γ : Glob} {m : Store} {rb a : Nat} {s : List UInt8} {e : Int}
set_option maxHeartbeats 1600000 in
theorem sGet_ok (L : LibOk Γ) (hr : m rb = some (rdB s a e)) (ha : a ≤ s.length) (hs : s.length ≤ 281474976710656) :
  zad Tryz.prog Γ 91 [.ptr rb 0] m fun o m' => o = .ret (entV (getE s a e).1) ∧ m' = m.set rb (rdB s (getE s a e).2.1 (getE s a e).2.2) := by
 unfold getE
 obtain ⟨c, a1, e1, h1⟩ : ∃ x y z, rInt s a e = (x, y, z) := ⟨_, _, _, rfl⟩
 have l1 := zb3 (e := e) ha
 rw [h1] at l1
 obtain ⟨q, a2, e2, h2⟩ : ∃ x y z, rInt s a1 e1 = (x, y, z) := ⟨_, _, _, rfl⟩
 have l2 := zb3 (e := e1) l1
 rw [h2] at l2
 obtain ⟨k, a3, e3, h3⟩ : ∃ x y z, rInt s a2 e2 = (x, y, z) := ⟨_, _, _, rfl⟩
 have l3 := zb3 (e := e2) l2
 rw [h3] at l3
 obtain ⟨n, a4, e4, h4⟩ : ∃ x y z, rInt s a3 e3 = (x, y, z) := ⟨_, _, _, rfl⟩
 have l4 := zb3 (e := e3) l3
 rw [h4] at l4
 obtain ⟨t, a5, e5, h5⟩ : ∃ x y z, zeg s a4 e4 255 = (x, y, z) := ⟨_, _, _, rfl⟩
 have l5 := rText_le (most := 255) (e := e4) l4
 rw [h5] at l5
 obtain ⟨⟨dk, dn, dt⟩, a6, e6, h6⟩ : ∃ x y z, getC s a5 e5 = (x, y, z) := ⟨_, _, _, rfl⟩
 simp only at l1 l2 l3 l4 l5
 simp only [h1, h2, h3, h4, h5, h6]
 refine acalls_cv (acalls_c mixed F91_ok F91_h zaD hr zaI (by first | exact LR.nil | simp only [nbS]) ?_)
 simp only [F91, ss0, zez, zeu]
 simp only [ssH, zeu, zer, reduceIte, zes, zex, zev, zew]
 refine zba (b := 0) (X := rdB s a e) rfl rfl (fun m b' h => wInt_ok h ha (by omega)) zaI zaI (by first | exact LR.nil | simp only [nbS]) (by first | exact LR.nil | simp only [nbS]) ?_
 simp only [h1, ssH, zeu, zer, reduceIte, zes, zex, zev, zew]
 refine zba (b := 0) (X := rdB s a1 e1) rfl rfl (fun m b' h => wInt_ok h l1 (by omega)) zaI zaI (by first | exact LR.nil | simp only [nbS]) (by first | exact LR.nil | simp only [nbS]) ?_
 simp only [h2, ssH, zeu, zer, reduceIte, zes, zex, zev, zew]
 refine zba (b := 0) (X := rdB s a2 e2) rfl rfl (fun m b' h => wInt_ok h l2 (by omega)) zaI zaI (by first | exact LR.nil | simp only [nbS]) (by first | exact LR.nil | simp only [nbS]) ?_
 simp only [h3, ssH, zeu, zer, reduceIte, zes, zex, zev, zew]
 refine zba (b := 0) (X := rdB s a3 e3) rfl rfl (fun m b' h => wInt_ok h l3 (by omega)) zaI zaI (by first | exact LR.nil | simp only [nbS]) (by first | exact LR.nil | simp only [nbS]) ?_
 simp only [h4, ssH, zeu, zer, reduceIte, zes, zex, zev, zew]
 refine zba (b := 0) (az := [it 255]) (X := rdB s a4 e4) rfl rfl (fun m b' h => wText_ok L 255 h l4 hs) zaI zaI (by first | exact LR.nil | simp only [nbS]) (by first | exact LR.nil | simp only [nbS]) ?_
 simp only [h5, ssH, zeu, zer, reduceIte, zes, zex, zev, zew]
 refine zba (b := 0) (X := rdB s a5 e5) rfl rfl (fun m b' h => get_ok L h l5 hs) zaI zaI (by first | exact LR.nil | simp only [nbS]) (nb_cmdT _) ?_
 simp only [h6, cmdT, cmdV, zak, ssH, zeu, zer, reduceIte, zes, zex, zev, zew]
 refine hcall_look (b := 0) rfl rfl (fun m b' h => wErr_ok h) zaI (by first | exact LR.nil | simp only [nbS]) (by first | exact LR.nil | simp only [nbS]) ?_
 cases he : (e6 != 0)
 ·have h0 : e6 = 0 := by simpa using he
  subst h0
  simp only [he, zak, ssH, zeu, zer, reduceIte, zes, zex, zev, zew]
  exact zaf (v := entV ⟨c, q, k, n, t, dk, dn, dt⟩) rfl ⟨zaN _, _, rfl, zaI, by simp, rfl⟩
 ·have h0 : e6 ≠ 0 := by simpa using he
  simp only [he, zak, ssH, zeu, zer, reduceIte, zes, zex, zev, zew]
  exact zaf (v := entV e0) rfl ⟨zaN _, _, rfl, zaI, by rw [if_pos h0], rfl⟩
def getEs : Nat → List UInt8 → Nat → Int → List Ent × Nat × Int
 | 0, _, a, e => ([], a, e)
 | n + 1, s, a, e => if e = 0 then ((getE s a e).1 :: (getEs n s (getE s a e).2.1 (getE s a e).2.2).1, (getEs n s (getE s a e).2.1 (getE s a e).2.2).2) else ([], a, e)
theorem getEs_bad {n : Nat} {s : List UInt8} {a : Nat} {e : Int} (h : e ≠ 0) : getEs n s a e = ([], a, e) := by
 cases n with
 | zero => rfl
 | succ n => rw [getEs, if_neg h]
def getL (s : List UInt8) (a : Nat) (e : Int) : Lg × Nat × Int :=
 let b := rInt s a e
 let c := zeg s b.2.1 b.2.2 65536
 let n := zc6 s c.2.1 c.2.2 1048576
 let r := getEs n.1.toNat s n.2.1 n.2.2
 (if r.2.2 ≠ 0 then lg0 else ⟨b.1, c.1, r.1⟩, r.2.1, r.2.2)
theorem rCount_rng {s : List UInt8} {a : Nat} {e : Int} : 0 ≤ (zc6 s a e 1048576).1 ∧ (zc6 s a e 1048576).1 ≤ 1048576 := by
 have hc : (zbg (s.drop a) 1048576).1 ≤ 1048576 := by
  unfold zbg
  (repeat' split) <;> simp <;> omega
 have := (countL_le (s.drop a) 1048576).2.1
 unfold zc6
 (repeat' split) <;> simp <;> omega
def Bo (out : List Ent) (tok : Tok) (r : Hl) : Prop := tok = .full ∧ out = [] ∧ r = [] ∨ ∃ k, tok = .tip 3 k ∧ out ≠ [] ∧ r = [some (.tip 60 k)]
theorem bo_app {Kp : V → Hl → Prop} {s : List (Tmp × Option (Tmp × Bool) × AOp)} {l : List Item} {K : HS → Prop} {t : List V} {d : Option Tmp} {X0 X1 X2 : Option Blk} {out : List Ent} {tok : Tok} {r : Hl} {e : Ent} (h : Bo out tok r) (hb : out.length ≤ 1500000)
  (hr : ∀ k, hth Tryz.prog Γ Kp s l K (hput t [X0, X1, X2, some (.tip 60 k)] d (some (.sl ((out ++ [e]).map entV) [] (.tip 3 k))))) : happS Tryz.prog Γ Kp 60 80 8 (.sl (out.map entV) [] tok) (.sl [entV e] [] .full) d s l K t (X0 :: X1 :: X2 :: r) := by
 have he : elemsB 8 [entV e] = true := rfl
 rw [ze1] at hr
 rcases h with ⟨rfl, rfl, rfl⟩ | ⟨k, rfl, h0, rfl⟩
 ·exact happ_full (ys := [entV e]) rfl (by simp) (by simp) rfl he (by simp) (hr 0)
 ·exact happ_tip (j := 3) (k := k) (x := .sl [entV e] [] .full) (ys := [entV e]) rfl (by simp) (by simpa using h0) rfl (zc3 out) he (by simp; omega) (hr (k + 1))
theorem bo_wN {out : List Ent} {tok : Tok} {r : Hl} (h : Bo out tok r) : wN (.sl (out.map entV) [] tok) = entsN out := by
 rcases h with ⟨rfl, rfl, rfl⟩ | ⟨k, rfl, h0, rfl⟩
 ·rfl
 ·rw [wN_some (.inl h0), entsN]
  cases out with
  | nil => exact absurd rfl h0
  | cons e l => rfl
theorem bo_nb {out : List Ent} {tok : Tok} {r : Hl} (h : Bo out tok r) : nb (3 + r.length) (.sl (out.map entV) [] tok) := by
 rcases h with ⟨rfl, rfl, rfl⟩ | ⟨k, rfl, _, rfl⟩
 ·simp only [List.map_nil, nbS]
 ·have := zdD (k := 4) zaN out
  simp only [zey, zeE, this, nbS]
  decide
theorem bo_len {out : List Ent} {tok : Tok} {r : Hl} (h : Bo out tok r) : r.length ≤ 1 := by
 rcases h with ⟨rfl, rfl, rfl⟩ | ⟨k, rfl, _, rfl⟩ <;> simp
def lgZ : Blk := .var 56 [it 0, bs [], .sl [] [] .full]
def lgT (b : Int) (c : List UInt8) (out : List Ent) (tok : Tok) : Blk := .var 56 [it b, bs c, .sl (out.map entV) [] tok]
theorem bo_blk {b : Int} {c : List UInt8} {out : List Ent} {tok : Tok} {r : Hl} (h : Bo out tok r) : ∀ i < 3 + r.length, ∀ x, lk (some (rdB s a e) :: some lgZ :: some (lgT b c out tok) :: r) i = some x → nbB (3 + r.length) x := by
 intro i hi x hx
 have hv := bo_nb h
 have : i = 0 ∨ i = 1 ∨ i = 2 ∨ i = 3 := by have := bo_len h; omega
 rcases this with rfl | rfl | rfl | rfl
 ·cases hx; exact zaI
 ·cases hx; simp only [lgZ, nbS]
 ·cases hx; simp only [lgT, hv, nbS]
 ·rcases h with ⟨rfl, rfl, rfl⟩ | ⟨k, rfl, _, rfl⟩
  ·cases hx
  ·cases hx; simp only [nbS]
set_option maxHeartbeats 1600000 in
theorem oGet_ok (L : LibOk Γ) (hr : m rb = some (rdB s a e)) (ha : a ≤ s.length) (hs : s.length ≤ 281474976710656) :
  zad Tryz.prog Γ 49 [.ptr rb 0] m fun o m' => o = .ret (lgN (getL s a e).1) ∧ m' = m.set rb (rdB s (getL s a e).2.1 (getL s a e).2.2) := by
 unfold getL
 obtain ⟨b, a1, e1, h1⟩ : ∃ x y z, rInt s a e = (x, y, z) := ⟨_, _, _, rfl⟩
 have l1 := zb3 (e := e) ha
 rw [h1] at l1
 obtain ⟨c, a2, e2, h2⟩ : ∃ x y z, zeg s a1 e1 65536 = (x, y, z) := ⟨_, _, _, rfl⟩
 have l2 := rText_le (most := 65536) (e := e1) l1
 rw [h2] at l2
 have hcr := rCount_rng (s := s) (a := a2) (e := e2)
 obtain ⟨n0, a3, e3, h3⟩ : ∃ x y z, zc6 s a2 e2 1048576 = (x, y, z) := ⟨_, _, _, rfl⟩
 have l3 := rCount_le (most := 1048576) (e := e2) l2
 rw [h3] at l3 hcr
 simp only at l1 l2 l3 hcr
 obtain ⟨n1, rfl⟩ := Int.eq_ofNat_of_zero_le hcr.1
 simp only [h1, h2, h3, zeX]
 have hn1 : n1 ≤ 1048576 := by omega
 refine acalls_cv (acalls_cn mixed F49_ok F49_h zaD hr zaI (by first | exact LR.nil | simp only [nbS]) ?_)
 simp only [F49, ss0, zez, zeu]
 simp only [ssH, zeu, zer, reduceIte, zes, zex, zev, zew]
 refine zba (b := 0) (X := rdB s a e) rfl rfl (fun m b' h => wInt_ok h ha (by omega)) zaI zaI (by first | exact LR.nil | simp only [nbS]) (by first | exact LR.nil | simp only [nbS]) ?_
 simp only [h1, ssH, zeu, zer, reduceIte, zes, zex, zev, zew]
 refine zba (b := 0) (az := [it 65536]) (X := rdB s a1 e1) rfl rfl (fun m b' h => wText_ok L 65536 h l1 hs) zaI zaI (by first | exact LR.nil | simp only [nbS]) (by first | exact LR.nil | simp only [nbS]) ?_
 simp only [h2, zak, ssH, zeu, zer, reduceIte, zes, zex, zev, zew]
 refine zba (b := 0) (az := [it 1048576]) (X := rdB s a2 e2) rfl rfl (fun m b' h => wCount_ok 1048576 h l2 hs) zaI zaI (by first | exact LR.nil | simp only [nbS]) (by first | exact LR.nil | simp only [nbS]) ?_
 simp only [h3, ssH, zeu, zer, reduceIte, zes, zex, zev, zew]
 generalize hQ : zbW 0 _ = Q
 have tail : ∀ {t' : List V} {a : Nat} {e : Int} {out : List Ent} {tok : Tok} {r : Hl}, t'.length = 33 → tget t' 0 = .ptr 0 0 → tget t' 2 = .ptr 1 0 → tget t' 3 = .ptr 2 0 → Bo out tok r → getEs n1 s a3 e3 = (out, a, e) →
   Q (.exit 0) ⟨t', some (rdB s a e) :: some lgZ :: some (lgT b c out tok) :: r⟩ := by
  intro t' a e out tok r hlt q0 q2 q3 hB hg
  rw [← hQ, t_eq hlt]
  simp only [zav, upTo, q0, q2, q3, hg, lgZ, lgT, ssH, zeu, zer, reduceIte, zes, zex, zev, zew]
  refine hcall_look (b := 0) (X := rdB s a e) rfl rfl (fun m b' h => wErr_ok h) zaI (by first | exact LR.nil | simp only [nbS]) (by first | exact LR.nil | simp only [nbS]) ?_
  cases he : (e != 0)
  ·have h0 : e = 0 := by simpa using he
   subst h0
   have hw : wN (.agg [it b, bs c, .sl (out.map entV) [] tok]) = lgN ⟨b, c, out⟩ := by
    have := bo_wN hB
    simp only [wN, wNs] at this ⊢
    rw [this]
    rfl
   simp only [he, zak, ssH, zeu, zer, reduceIte, zes, zex, zev, zew]
   exact zaf (v := .agg [it b, bs c, .sl (out.map entV) [] tok]) rfl ⟨by rw [hw]; exact nb_lgN, _, rfl, zaI, by rw [hw, if_neg (by simp)], rfl⟩
  ·have h0 : e ≠ 0 := by simpa using he
   simp only [he, zak, ssH, zeu, zer, reduceIte, zes, zex, zev, zew]
   exact zaf (v := .agg [it 0, bs [], .sl [] [] .full]) rfl ⟨nb_lgN (x := lg0), _, rfl, zaI, by rw [if_pos h0]; rfl, rfl⟩
 refine h_loop [0, 2, 3, 4] 33 (fun n vs h => ∃ (j a : Nat) (e : Int) (out : List Ent) (tok : Tok) (r : Hl), vs = [.ptr 0 0, .ptr 1 0, .ptr 2 0, it j] ∧ h = some (rdB s a e) :: some lgZ :: some (lgT b c out tok) :: r ∧ Bo out tok r ∧ a ≤ s.length ∧ n = j + 1 ∧ j + out.length ≤ n1 ∧ getEs n1 s a3 e3 = (out ++ (getEs j s a e).1, (getEs j s a e).2)) (n1 + 1) (by decide) (by decide) (zeP 3) (back_take rfl (by decide) (by decide) (by simp) ?_ ?_ ⟨n1, a3, e3, [], .full, [], rfl, rfl, .inl ⟨rfl, rfl, rfl⟩, l3, rfl, by simp, rfl⟩) ?_
 ·show nbs 3 [.ptr 0 0, .ptr 1 0, .ptr 2 0, it n1]
  simp only [nbS]
  decide
 ·exact bo_blk (r := []) (.inl ⟨rfl, rfl, rfl⟩)
 rintro n t h J hJ hlt ⟨j, a, e, out, tok, r, hv, rfl, hB, hle, hn, hjo, hg⟩
 simp only [ze2, List.cons.injEq, and_true] at hv
 obtain ⟨g0, g2, g3, g4⟩ := hv
 rw [t_eq hlt]
 simp only [zav, upTo, g0, g2, g3, g4, gt_iff_lt, ssH, zeu, zer, reduceIte, zes, zex, zev, zew]
 by_cases hj : 0 < j
 ·simp only [show decide ((0 : Int) < (j : Int)) = true from decide_eq_true (by omega), ssH, zeu, zer, reduceIte, zes, zex, zev, zew]
  refine hcall_look (b := 0) (X := rdB s a e) rfl rfl (fun m b' h => wErr_ok h) zaI (by first | exact LR.nil | simp only [nbS]) (by first | exact LR.nil | simp only [nbS]) ?_
  cases he : (e == 0)
  ·have h0 : e ≠ 0 := by simpa using he
   rw [getEs_bad h0] at hg
   simp only [he, ssH, zeu, zer, reduceIte, zes, zex, zev, zew]
   exact tail rfl rfl rfl rfl hB (by rw [hg, ze5])
  ·have h0 : e = 0 := by simpa using he
   subst h0
   obtain ⟨j, rfl⟩ : ∃ i, j = i + 1 := ⟨j - 1, by omega⟩
   have l4 := getE_le (e := 0) hle
   obtain ⟨x, a4, e4, h4⟩ : ∃ x y z, getE s a 0 = (x, y, z) := ⟨_, _, _, rfl⟩
   rw [getEs, if_pos rfl, h4] at hg
   rw [h4] at l4
   have hw : IntKind.i64.wrap (((j + 1 : Nat) : Int) - 1) = (j : Int) := by rw [wrap_i64 (by omega) (by omega)]; omega
   simp only [he, lgT, ssH, zeu, zer, reduceIte, zes, zex, zev, zew]
   refine zba (b := 0) (X := rdB s a 0) rfl rfl (fun m b' h => sGet_ok L h hle hs) zaI zaI (by first | exact LR.nil | simp only [nbS]) (zaN _) ?_
   simp only [h4, entV, litE_eq, litE_ent, ssH, zeu, zer, reduceIte, zes, zex, zev, zew]
   refine bo_app hB (by omega) fun k => ?_
   simp only [zdv, oneV_sl, hw, ssH, zeu, zer, reduceIte, zes, zex, zev, zew]
   have hB2 : Bo (out ++ [x]) (.tip 3 k) [some (.tip 60 k)] := .inr ⟨k, rfl, by simp, rfl⟩
   refine ⟨_, hJ (j + 1) (zeP 4) _ (by omega) (back_take rfl (by decide) (by decide) (by simp) ?_ (bo_blk hB2 (s := s) (a := a4) (e := e4) (b := b) (c := c)) ⟨j, a4, e4, out ++ [x], .tip 3 k, _, rfl, rfl, hB2, l4, rfl, by simp; omega, by rw [hg]; simp⟩)⟩
   show nbs 4 [.ptr 0 0, .ptr 1 0, .ptr 2 0, it j]
   simp only [nbS]
   decide
 ·have hj0 : j = 0 := by omega
  subst hj0
  simp only [show decide ((0 : Int) < ((0 : Nat) : Int)) = false from rfl, ssH, zeu, zer, reduceIte, zes, zex, zev, zew]
  rw [getEs] at hg
  exact tail rfl rfl rfl rfl hB (by rw [hg, ze5])
end
theorem gI {s p r : List UInt8} {n : Int} (hn : Av.I64 n) (h : s = p ++ (uz n ++ r)) : rInt s p.length 0 = (n, (p ++ uz n).length, 0) ∧ s = (p ++ uz n) ++ r := by
 refine ⟨?_, by rw [h, zeM]⟩
 rw [h, zeK]
 exact rInt_put hn p r
theorem gT {s p r x : List UInt8} (most : Nat) (hx : x.length ≤ most) (hm : most < 9223372036854775808) (h : s = p ++ (uz x.length ++ (x ++ r))) : zeg s p.length 0 most = (x, (p ++ uz x.length ++ x).length, 0) ∧ s = (p ++ uz x.length ++ x) ++ r := by
 refine ⟨?_, by rw [h]; simp only [zeM]⟩
 have := rText_put (s := x) (by omega) p r most
 rw [if_neg (by omega)] at this
 rw [h, show (p ++ uz x.length ++ x).length = p.length + ((uz x.length).length + x.length) by simp only [zeK]; omega]
 exact this
theorem gN {s p r : List UInt8} {n : Nat} (hn : n ≤ 1048576) (h : s = p ++ (uz n ++ r)) : zc6 s p.length 0 1048576 = ((n : Int), (p ++ uz n).length, 0) ∧ s = (p ++ uz n) ++ r := by
 refine ⟨?_, by rw [h, zeM]⟩
 have hi : Av.I64 (n : Int) := ⟨by omega, by omega⟩
 have := countL_put hi r 1048576 (by decide)
 rw [if_neg (by omega)] at this
 have e : s.drop p.length = Lib.uvarint (Lib.zigzag n) ++ r := by rw [h, drop_mid]; rfl
 unfold zc6
 simp only [e, this]
 simp [uz]
theorem gC {s p r x : List UInt8} {k n : Int} (hk : Av.I64 k) (hn : Av.I64 n) (hx : x.length ≤ 255) (h : s = p ++ (putC k n x ++ r)) : getC s p.length 0 = ((k, n, x), (p ++ putC k n x).length, 0) ∧ s = (p ++ putC k n x) ++ r := by
 refine ⟨?_, by rw [h, zeM]⟩
 rw [h, zeK]
 exact getC_put hk hn hx p r
theorem gE {s p r : List UInt8} {e : Ent} (he : EntS e) (h : s = p ++ (putE e ++ r)) : getE s p.length 0 = (e, (p ++ putE e).length, 0) ∧ s = (p ++ putE e) ++ r := by
 refine ⟨?_, by rw [h, zeM]⟩
 obtain ⟨⟨h1, h2, h3, h4, h5, h6⟩, hs, hc⟩ := he
 have e0 : s = p ++ (uz e.c ++ (uz e.q ++ (uz e.k ++ (uz e.n ++ (uz e.s.length ++ (e.s ++ (putC e.ck e.cn e.cs ++ r))))))) := by
  rw [h]
  simp only [putE, zbO, zeM, ze5]
 obtain ⟨a1, b1⟩ := gI h1 e0
 obtain ⟨a2, b2⟩ := gI h2 b1
 obtain ⟨a3, b3⟩ := gI h3 b2
 obtain ⟨a4, b4⟩ := gI h4 b3
 obtain ⟨a5, b5⟩ := gT 255 hs (by decide) b4
 obtain ⟨a6, b6⟩ := gC h5 h6 hc b5
 unfold getE
 simp only [a1, a2, a3, a4, show zeg s (p ++ uz e.c ++ uz e.q ++ uz e.k ++ uz e.n).length 0 255 = _ from a5, a6]
 refine Prod.ext (by simp) (Prod.ext ?_ rfl)
 simp only [putE, zbO, zeK, zeE]
 omega
theorem gEs : ∀ {l : List Ent} {s p r : List UInt8}, (∀ e ∈ l, EntS e) → s = p ++ (zb4 l ++ r) → getEs l.length s p.length 0 = (l, (p ++ zb4 l).length, 0) ∧ s = (p ++ zb4 l) ++ r
 | [], s, p, r, _, h => ⟨by simp [getEs, zb4], by rw [h]; simp [zb4]⟩
 | e :: l, s, p, r, he, h => by
  refine ⟨?_, by rw [h, zeM]⟩
  obtain ⟨a1, b1⟩ := gE (he e (zeG ..)) (h.trans (by rw [zb4, zeM]) : s = p ++ (putE e ++ (zb4 l ++ r)))
  obtain ⟨a2, b2⟩ := gEs (fun x hx => he x (zeJ _ hx)) b1
  rw [zey, getEs, if_pos rfl, a1]
  simp only
  rw [a2]
  simp only [zb4, zeM]
theorem gL {s p r : List UInt8} {x : Lg} (hx : LogS x) (h : s = p ++ (putL x ++ r)) : getL s p.length 0 = (x, (p ++ putL x).length, 0) := by
 obtain ⟨h1, h2, h3, h4⟩ := hx
 have e0 : s = p ++ (uz x.b ++ (uz x.c.length ++ (x.c ++ (uz x.l.length ++ (zb4 x.l ++ r))))) := by
  rw [h]
  simp only [putL, zeM]
 obtain ⟨a1, b1⟩ := gI h1 e0
 obtain ⟨a2, b2⟩ := gT 65536 h2 (by decide) b1
 obtain ⟨a3, b3⟩ := gN (by omega) b2
 obtain ⟨a4, b4⟩ := gEs h4 b3
 unfold getL
 simp only [a1, show zeg s (p ++ uz x.b).length 0 65536 = _ from a2, a3, zeX, a4]
 refine Prod.ext (by simp) (Prod.ext ?_ rfl)
 simp only [putL, zeK]
 omega
theorem entB_len {e : Ent} (h : entB e = true) : e.s.length ≤ 255 ∧ e.cs.length ≤ 255 := by
 unfold entB at h
 rw [zeA] at h
 have hno : ∀ e : Ent, noCmd e = true → e.cs.length ≤ 255 := by
  intro e h
  simp only [noCmd, decide_eq_true_eq] at h
  rw [h.2.2]
  decide
 have hs0 : ∀ s : List UInt8, (s == []) = true → s.length ≤ 255 := by
  intro s h
  have : s = [] := by simpa using h
  rw [this]
  decide
 have h2 := h.2
 split at h2
 ·simp only [zeA] at h2
  exact ⟨by have := h2.1.1; unfold nameB at this; simp only [zeA, decide_eq_true_eq] at this; omega, hno e h2.2⟩
 ·split at h2
  ·simp only [zeA] at h2
   exact ⟨hs0 _ h2.1.1, hno e h2.2⟩
  ·split at h2
   ·simp only [zeA] at h2
    exact ⟨hs0 _ h2.1.1, hno e h2.2⟩
   ·split at h2
    ·simp only [zeA] at h2
     exact ⟨hs0 _ h2.1.1, (right_len h2.2).1⟩
    ·exact absurd h2 (by decide)
theorem logS_of {x : Lg} (h : lgB x = true) (hb : Av.I64 x.b) (he : ∀ e ∈ x.l, EntN e) : LogS x := by
 simp only [lgB, zeA, decide_eq_true_eq] at h
 refine ⟨hb, by omega, by omega, fun e hx => ⟨he e hx, ?_⟩⟩
 exact entB_len (List.all_eq_true.1 h.2 e hx)
theorem lgB_iff {x : Lg} : lgB x = true ↔ 0 ≤ x.b ∧ x.b ≤ 2147483647 ∧ x.c.length ≤ 65536 ∧ (x.c = [] ↔ x.b = 0) ∧ x.l.length ≤ 64 ∧ (x.l.length : Int) ≤ 2147483647 - x.b ∧ ∀ e ∈ x.l, entB e = true := by
 simp only [lgB, zeA, decide_eq_true_eq, List.all_eq_true, beq_iff_eq, and_assoc]
 have : ((x.c == []) = (x.b == 0)) ↔ (x.c = [] ↔ x.b = 0) := by
  rw [ze8]
  simp
 rw [this]
structure Inv (nn : Bool) (x : Lg) (L : List Ent) : Prop where
 nil : nn = true ∨ x.l = []
 right : lgB x = true
 len : x.b + x.l.length = L.length
 ent : x.l = L.drop x.b.toNat
 nums : ∀ e ∈ x.l, EntN e
theorem inv_start : Inv false lg0 [] := ⟨.inr rfl, rfl, rfl, rfl, fun e h => by cases h⟩
theorem Inv.base {nn : Bool} {x : Lg} {L : List Ent} (h : Inv nn x L) : 0 ≤ x.b ∧ x.b ≤ L.length ∧ x.l.length ≤ 64 ∧ x.b ≤ 2147483647 := by
 have h1 := lgB_iff.1 h.right
 have h2 := h.len
 omega
theorem cut_case (nn : Bool) {x : Lg} (hx : lgB x = true) (op : Int) : (∃ n : Nat, n ≤ x.l.length ∧ op = x.b + n ∧ doL x (cutIn nn x op) = (nn, ⟨x.b, x.c, x.l.take n⟩, 0)) ∨ ∃ e, e ≠ 0 ∧ doL x (cutIn nn x op) = (false, lg0, e) := by
 by_cases he : (zco x.b x.l.length op).2 = 0
 ·obtain ⟨n, h1, h2, h3⟩ := withL_le hx he
  exact .inl ⟨n, h2, h3, do_fit hx (by simp only [cutIn, he, h1, if_true, zeX])⟩
 ·exact .inr ⟨_, he, do_err (a := false) (y := lg0) hx (by simp only [cutIn, if_neg he]) he⟩
theorem comp_case (nn : Bool) {x : Lg} (hx : lgB x = true) (op : Int) : (∃ n : Nat, n ≤ x.l.length ∧ op = x.b + n ∧ (doL x (za0 nn x op [99]) = (nn, x, 0) ∨ (0 < n ∧ doL x (za0 nn x op [99]) = (nn, ⟨op, [99], x.l.drop n⟩, 0)))) ∨ ∃ e, e ≠ 0 ∧ doL x (za0 nn x op [99]) = (false, lg0, e) := by
 by_cases he : (zco x.b x.l.length op).2 = 0
 ·obtain ⟨n, h1, h2, h3⟩ := withL_le hx he
  refine .inl ⟨n, h2, h3, ?_⟩
  by_cases h0 : 0 < n
  ·refine .inr ⟨h0, do_fit hx ?_⟩
   unfold za0
   rw [if_pos he, h1, if_pos (by omega), if_neg (by rintro (k | k); cases k; simp at k), zeX]
  ·refine .inl (do_fit hx ?_)
   unfold za0
   rw [if_pos he, h1, if_neg (by omega)]
 ·exact .inr ⟨_, he, do_err (a := false) (y := lg0) hx (by simp only [za0, if_neg he]) he⟩
theorem app_case {x : Lg} (hx : lgB x = true) (e : Ent) : (doL x (zcQ x e) = (true, ⟨x.b, x.c, x.l ++ [e]⟩, 0) ∧ entB e = true ∧ x.l.length < 64 ∧ x.b + x.l.length < 2147483647) ∨ ∃ n, n ≠ 0 ∧ doL x (zcQ x e) = (false, lg0, n) := by
 have hb := lgB_iff.1 hx
 by_cases he : entB e = true
 ·by_cases hf : x.l.length = 64 ∨ x.b + x.l.length = 2147483647
  ·exact .inr ⟨12, by decide, do_err (a := false) (y := lg0) hx (by simp only [zcQ, he, if_true, if_pos hf]) (by decide)⟩
  ·refine .inl ⟨do_fit hx (by simp only [zcQ, he, if_true, if_neg hf]), he, ?_, ?_⟩ <;> omega
 ·exact .inr ⟨2, by decide, do_err (a := false) (y := lg0) hx (by simp only [zcQ, if_neg he]) (by decide)⟩
theorem Inv.cut {nn : Bool} {x : Lg} {L : List Ent} (h : Inv nn x L) {n : Nat} (hn : n ≤ x.l.length) : Inv nn ⟨x.b, x.c, x.l.take n⟩ (L.take (x.b + n).toNat) := by
 have hb := h.base
 have hr := lgB_iff.1 h.right
 have hl := h.len
 refine ⟨h.nil.imp id fun q => by simp [q], lgB_iff.2 ⟨hr.1, hr.2.1, hr.2.2.1, hr.2.2.2.1, ?_, ?_, ?_⟩, ?_, ?_, ?_⟩
 ·simp only [ze0]; omega
 ·simp only [ze0]; omega
 ·exact fun e he => hr.2.2.2.2.2.2 e (List.mem_of_mem_take he)
 ·show x.b + ((x.l.take n).length : Int) = ((L.take (x.b + n).toNat).length : Int)
  simp only [ze0]
  omega
 ·show x.l.take n = (L.take (x.b + n).toNat).drop x.b.toNat
  rw [h.ent, List.drop_take, show (x.b + (n : Int)).toNat - x.b.toNat = n by omega]
 ·exact fun e he => h.nums e (List.mem_of_mem_take he)
theorem Inv.comp {nn : Bool} {x : Lg} {L : List Ent} (h : Inv nn x L) {n : Nat} (hn : n ≤ x.l.length) (h0 : 0 < n) : Inv nn ⟨x.b + n, [99], x.l.drop n⟩ L := by
 have hb := h.base
 have hr := lgB_iff.1 h.right
 have hl := h.len
 refine ⟨h.nil.imp id fun q => by simp [q], lgB_iff.2 ⟨?_, ?_, ?_, ?_, ?_, ?_, ?_⟩, ?_, ?_, ?_⟩
 ·simp only; omega
 ·simp only; omega
 ·simp
 ·simp only [List.cons_ne_nil, false_iff]; omega
 ·simp; omega
 ·simp; omega
 ·exact fun e he => hr.2.2.2.2.2.2 e (List.mem_of_mem_drop he)
 ·simp; omega
 ·show x.l.drop n = L.drop (x.b + n).toNat
  rw [h.ent, List.drop_drop]
  congr 1
  omega
 ·exact fun e he => h.nums e (List.mem_of_mem_drop he)
theorem Inv.app {nn : Bool} {x : Lg} {L : List Ent} (h : Inv nn x L) {e : Ent} (he : entB e = true) (hn : EntN e) (h1 : x.l.length < 64) (h2 : x.b + x.l.length < 2147483647) : Inv true ⟨x.b, x.c, x.l ++ [e]⟩ (L ++ [e]) := by
 have hb := h.base
 have hr := lgB_iff.1 h.right
 have hl := h.len
 refine ⟨.inl rfl, lgB_iff.2 ⟨hr.1, hr.2.1, hr.2.2.1, hr.2.2.2.1, ?_, ?_, ?_⟩, ?_, ?_, ?_⟩
 ·simp; omega
 ·simp; omega
 ·intro y hy
  rcases List.mem_append.1 hy with q | q
  ·exact hr.2.2.2.2.2.2 y q
  ·rw [List.mem_singleton.1 q]; exact he
 ·simp; omega
 ·show x.l ++ [e] = (L ++ [e]).drop x.b.toNat
  rw [List.drop_append_of_le_length (by omega), ← h.ent]
 ·intro y hy
  rcases List.mem_append.1 hy with q | q
  ·exact h.nums y q
  ·rw [List.mem_singleton.1 q]; exact hn
theorem Inv.logS {nn : Bool} {x : Lg} {L : List Ent} (h : Inv nn x L) : LogS x := by
 have hb := h.base
 exact logS_of h.right ⟨by omega, by omega⟩ h.nums
theorem Inv.again {nn : Bool} {x : Lg} {L : List Ent} (h : Inv nn x L) : Inv (!x.l.isEmpty) x L := ⟨entsN_nil, h.right, h.len, h.ent, h.nums⟩
theorem Inv.ask {nn : Bool} {x : Lg} {L : List Ent} (h : Inv nn x L) {m : Nat} (h1 : x.b < m) (h2 : m ≤ L.length) : ∃ e, L[m - 1]? = some e ∧ askE x m = (e, 0) := by
 have hb := h.base
 have hl := h.len
 have hlt : m - 1 < L.length := by omega
 refine ⟨L[m - 1], zeC hlt, ?_⟩
 unfold askE
 rw [if_pos h.right, if_neg (by omega), if_neg (by omega)]
 have : x.l[((m : Int) - x.b - 1).toNat]? = some L[m - 1] := by
  rw [h.ent, List.getElem?_drop, ← zeC hlt]
  congr 1
  omega
 simp only [List.getD, this, zeN]
end Go.Av.Fn
/- A log az a list of all entries: slices that are cut and put behind. No condition. -/
namespace Go.Av
def TokC (k : Tok) : Prop := TokR (fun _ _ => False) k k
def TokA (k : Tok) : Prop := TokC k ∨ ∃ j v, k = .tip j v ∧ 1 ≤ j
def Tok1 (k : Tok) : Prop := TokC k ∨ ∃ v, k = .tip 1 v
theorem Tok1.a {k : Tok} (h : Tok1 k) : TokA k := h.imp id fun ⟨v, e⟩ => ⟨1, v, e, zeY _⟩
section
variable {t : List V} {h : Hl}
theorem back_all {S : List Nat} {L : Nat} {J : List V → Hl → Prop} {X : Blk} {es more rest : List V} {tok : Tok} (h1 : t.length = L) (h0 : lk h 0 = some X) (hX : nbB 0 X) (hS : S.map (tget t) = .sl es more tok :: rest) (hes : nbs 0 es) (hmo : nbs 0 more) (hr : nbs 1 rest) (ht : TokA tok)
  (hJ : ∀ tok', Tok1 tok' → J (.sl es more tok' :: rest) [some X, none]) : ∃ names, Back S names 0 L J ⟨t, h⟩ := by
 have key : ∀ (names : List Nat) (tok' : Tok), names.length = 2 → names[0]? = some 0 → names.Nodup → Tok1 tok' → TokR (Nm names) tok' tok → Back S names 0 L J ⟨t, h⟩ := by
  intro names tok' hl hn0 hnd hk hkr
  have hm : (NB 1).le (Nm names) := fun a b ⟨e, l⟩ => by
   subst e
   have : a = 0 := by omega
   subst this
   exact hn0
  refine ⟨h1, fun a ha => by omega, hnd, by omega, _, [some X, none], ?_, by rw [hl]; rfl, ?_, hJ tok' hk⟩
  ·rw [hS]
   exact .cons (VR.sl (hes.up _) (hmo.up _) hkr) (LR.mono hm hr)
  ·intro a b hab
   have : a = 0 ∨ a = 1 := by
    have := (List.getElem?_eq_some_iff.1 hab).1
    omega
   rcases this with rfl | rfl
   ·rw [hn0] at hab
    cases hab
    simp only [h0]
    exact hX.up _
   ·trivial
 rcases ht with ht | ⟨j, v, rfl, hj⟩
 ·exact ⟨[0, 1], key [0, 1] tok rfl rfl (by decide) (.inl ht) (TokR.mono (fun _ _ q => q.elim) ht)⟩
 ·exact ⟨[0, j], key [0, j] (.tip 1 v) rfl rfl (by simp; omega) (.inr ⟨v, rfl⟩) ⟨rfl, rfl⟩⟩
end
theorem h_loopE {P : Program} {Γ : Glob} {Kp : V → Hl → Prop} {N : Nat} {c : zaP} {Q : Ex → HS → Prop} {st : HS} (S : List Nat) (L : Nat) (I : Nat → List V → Hl → Prop) (n0 : Nat) (hn : S.Nodup) (hS : ∀ i ∈ S, i < L) (h0 : ∃ names, Back S names N L (I n0) st)
  (hstep : ∀ n t h (J : List Nat → HS → Prop), (∀ n' names s', n' < n → Back S names N L (I n') s' → J names s') → t.length = L → I n (S.map (tget t)) h → hawp P Γ Kp N c (thenH (fun s' => ∃ names, J names s') Q) ⟨t, h⟩) : hawp P Γ Kp N (.loop c) Q st := by
 obtain ⟨names, h0⟩ := h0
 exact h_loop S L I n0 hn hS names h0 hstep
theorem cutTok_a {k : Tok} (h : TokA k) (n : Nat) : TokA (zcu k 0 n) := by
 rcases h with h | ⟨j, v, rfl, hj⟩
 ·left
  cases k with
  | tip j v => exact h.1.elim
  | tipz j v z => exact h.1.elim
  | full => simp only [zcu]; (repeat' split) <;> first | exact trivial | exact Eq.refl true
  | own => simp only [zcu]; (repeat' split) <;> exact trivial
  | no => exact trivial
  | non => exact trivial
  | zero b => exact rfl
 ·right
  exact ⟨j, v, by simp [zcu], hj⟩
end Go.Av
namespace Go.Av.Fn
set_option linter.unusedSimpArgs false
set_option linter.unusedVariables false
set_option maxRecDepth 10000
open Go.Proofs
theorem szOk_two (l m : List Ent) : szOk 8 (l.map entV ++ m.map entV) = true := by
 have := zc3 (l ++ m)
 rwa [ze1] at this
theorem cut_to {l m : List Ent} {tok : Tok} (ht : TokA tok) {n : Nat} (hn : n ≤ l.length) : ∃ (m' : List Ent) (tok' : Tok), TokA tok' ∧ zcy 8 (.sl (l.map entV) (m.map entV) tok) (some none) (some (some (n : Int))) (some none) = some (.sl ((l.take n).map entV) (m'.map entV) tok') := by
 have hs := szOk_two l m
 simp only [zcy, hs, if_true, cutV, zeR, zeN, zeL, Int.toNat_zero, List.drop_zero, zeX]
 rw [if_pos ⟨by omega, by omega, by omega⟩]
 by_cases he : n = l.length
 ·rw [if_pos he, he, List.take_length]
  exact ⟨m, _, cutTok_a ht _, rfl⟩
 ·rw [if_neg he, if_pos (by omega)]
  refine ⟨(l ++ m).drop n, .no, .inl trivial, ?_⟩
  rw [← ze1, ← List.map_take, ← List.map_drop, List.take_append_of_le_length hn]
theorem cut_up {l m : List Ent} {tok : Tok} : ∃ tok', (tok' = .full ∨ ∃ b, tok' = .zero b) ∧ zcy 8 (.sl (l.map entV) (m.map entV) tok) (some none) (some (some (l.length : Int))) (some (some (l.length : Int))) = some (.sl (l.map entV) [] tok') := by
 have hs := szOk_two l m
 simp only [zcy, hs, if_true, cutV, zeR, zeN, zeL, Int.toNat_zero, List.drop_zero, zeX]
 rw [if_pos ⟨by omega, by omega, by omega, rfl, trivial, by omega, by omega⟩]
 refine ⟨_, ?_, by rw [← zeL (f := entV), List.take_length]⟩
 unfold cutEnd
 (repeat' split) <;> simp
theorem app_one {Γ : Glob} {Kp : V → Hl → Prop} {h : Hl} {t : List V} {s : List (Tmp × Option (Tmp × Bool) × AOp)} {li : List Item} {K : HS → Prop} {d : Option Tmp} {l : List Ent} {tok : Tok} (e : Ent) (ht : tok = .full ∨ ∃ b, tok = .zero b) (hl : l.length ≤ 1000000) (hh : h.length < 1000000)
  (hr : hth Tryz.prog Γ Kp s li K (hput t (h ++ [some (.tip 60 0)]) d (some (.sl ((l ++ [e]).map entV) [] (.tip h.length 0))))) : happS Tryz.prog Γ Kp 60 80 8 (.sl (l.map entV) [] tok) (.sl [entV e] [] .full) d s li K t h := by
 rw [ze1] at hr
 rcases ht with rfl | ⟨b, rfl⟩
 ·exact happ_full (ys := [entV e]) rfl (by simp) hh (zc3 l) rfl (by simp; omega) hr
 ·exact happ_zero (ys := [entV e]) rfl (by simp) hh (zc3 l) rfl (by simp; omega) hr
structure Act where
 k : Int
 op : Int
 e : Ent
def actV (a : Act) : V := .agg [it a.k, it a.op, it a.e.c, it a.e.q, it a.e.k, it a.e.n, bs a.e.s, it a.e.ck, it a.e.cn, bs a.e.cs]
theorem nb_actV {k : Nat} (a : Act) : nb k (actV a) := by simp only [actV, nbS]
theorem idx_act {l : List Act} {more : List V} {tok : Tok} {i : Nat} {a : Act} (h : l[i]? = some a) : idxLV 10 (.sl (l.map actV) more tok) (it i) = some (.elt [it a.k, it a.op, it a.e.c, it a.e.q, it a.e.k, it a.e.n, bs a.e.s, it a.e.ck, it a.e.cn, bs a.e.cs]) := idxLV_nat (e := actV a) (by rw [ze9, h]; rfl) rfl
def actsV (nn : Bool) (l : List Act) : V := .sl (l.map actV) [] (if nn then .non else .full)
theorem nb_actsV {k : Nat} (nn : Bool) (l : List Act) : nb k (actsV nn l) := by
 cases nn <;> simp only [actsV, zeB, if_false, if_true, nbS] <;> exact zdD nb_actV l
theorem len_acts {nn : Bool} {l : List Act} : lenV false (actsV nn l) = some (it l.length) := by
 cases nn <;> simp only [actsV, zaU, zeL] <;> rfl
def SameI (an : Bool) (acts : List Act) (n : Nat) (vs : List V) (h : Hl) : Prop :=
 ∃ (i : Nat) (nn : Bool) (x : Lg) (L M : List Ent) (tok : Tok), vs = [.sl (L.map entV) (M.map entV) tok, actsV an acts, .val (.bool false), .ptr 0 0, it i] ∧ h = [some (logB nn x), none] ∧ Tok1 tok ∧ Inv nn x L ∧ L.length ≤ i ∧ i ≤ acts.length ∧ i + n = acts.length + 1
def SameJ (an : Bool) (acts : List Act) (i : Nat) (nn : Bool) (x : Lg) (L : List Ent) (n : Nat) (vs : List V) (h : Hl) : Prop :=
 ∃ (k : Nat) (M : List Ent) (tok : Tok), vs = [.sl (L.map entV) (M.map entV) tok, actsV an acts, .val (.bool false), .ptr 0 0, it i, it k] ∧ h = [some (logB nn x), none] ∧ Tok1 tok ∧ x.b < k ∧ k ≤ L.length + 1 ∧ k + n = L.length + 2
section
variable {Γ : Glob} {m : Store}
set_option maxHeartbeats 6400000 in
theorem oplogSame_ok (E : Env Γ) (an : Bool) (acts : List Act) (hact : ∀ a ∈ acts, EntN a.e) : zad Tryz.prog Γ 14 [actsV an acts] m fun o m' => o = .ret (.val (.bool true)) ∧ m' = m := by
 have hna := nb_actsV (k := 0) an acts
 have hna1 := nb_actsV (k := 1) an acts
 refine zaG (zbo mixed F14_ok F14_h zaD (by simp only [hna, nbS]) ?_)
 simp only [F14, ss0, zez, zeu]
 simp only [len_acts, gt_iff_lt, ssH, zeu, zer, reduceIte, zes, zex, zev, zew]
 by_cases h100 : (100 : Int) < (acts.length : Int)
 ·simp only [decide_eq_true h100, ssH, zeu, zer, reduceIte, zes, zex, zev, zew]
  refine zaq (v := .val (.bool true)) (by exact fun m => lives20_ok) (by first | exact LR.nil | simp only [nbS]) (by first | exact LR.nil | simp only [nbS]) ?_
  simp only [ssH, zeu, zer, reduceIte, zes, zex, zev, zew]
  exact fin6 rfl
 simp only [decide_eq_false h100, ssH, zeu, zer, reduceIte, zes, zex, zev, zew]
 have hbackO : ∀ {t' : List V} {h' : Hl} {nn : Bool} {x : Lg} {L M : List Ent} {tok : Tok} {i n : Nat}, t'.length = 145 → lk h' 0 = some (logB nn x) → tget t' 4 = .sl (L.map entV) (M.map entV) tok → tget t' 0 = actsV an acts → tget t' 2 = .val (.bool false) → tget t' 3 = .ptr 0 0 → tget t' 5 = it i → TokA tok → Inv nn x L → L.length ≤ i → i ≤ acts.length → i + n = acts.length + 1 →
   ∃ names, Back [4, 0, 2, 3, 5] names 0 145 (SameI an acts n) ⟨t', h'⟩ := by
  intro t' h' nn x L M tok i n q q0 q4 q00 q2 q3 q5 ht hI hL hi hn
  refine back_all (X := logB nn x) (es := L.map entV) (more := M.map entV) (tok := tok) (rest := [actsV an acts, .val (.bool false), .ptr 0 0, it i]) q q0 (zbV _ _) (by simp only [ze2, q4, q00, q2, q3, q5]) (zdD zaN _) (zdD zaN _) (by simp only [hna1, nbS]; decide) ht ?_
  intro tok' ht'
  exact ⟨i, nn, x, L, M, tok', rfl, rfl, ht', hI, hL, hi, hn⟩
 have hbackJ : ∀ {t' : List V} {h' : Hl} {nn : Bool} {x : Lg} {L M : List Ent} {tok : Tok} {i k n : Nat}, t'.length = 145 → lk h' 0 = some (logB nn x) → tget t' 4 = .sl (L.map entV) (M.map entV) tok → tget t' 0 = actsV an acts → tget t' 2 = .val (.bool false) → tget t' 3 = .ptr 0 0 → tget t' 5 = it i → tget t' 14 = it k → TokA tok → x.b < k → k ≤ L.length + 1 → k + n = L.length + 2 →
   ∃ names, Back [4, 0, 2, 3, 5, 14] names 0 145 (SameJ an acts i nn x L n) ⟨t', h'⟩ := by
  intro t' h' nn x L M tok i k n q q0 q4 q00 q2 q3 q5 q14 ht hk hk2 hn
  refine back_all (X := logB nn x) (es := L.map entV) (more := M.map entV) (tok := tok) (rest := [actsV an acts, .val (.bool false), .ptr 0 0, it i, it k]) q q0 (zbV _ _) (by simp only [ze2, q4, q00, q2, q3, q5, q14]) (zdD zaN _) (zdD zaN _) (by simp only [hna1, nbS]; decide) ht ?_
  intro tok' ht'
  exact ⟨k, M, tok', rfl, rfl, ht', hk, hk2, hn⟩
 generalize hQ0 : zbW 0 _ = Q0
 have tail0 : ∀ {t' : List V} {h' : Hl}, t'.length = 145 → Q0 (.exit 0) ⟨t', h'⟩ := by
  intro t' h' q
  rw [← hQ0, t_eq q]
  simp only [zav, upTo, ssH, zeu, zer, reduceIte, zes, zex, zev, zew]
  refine zaq (v := .val (.bool true)) (by exact fun m => lives20_ok) (by first | exact LR.nil | simp only [nbS]) (by first | exact LR.nil | simp only [nbS]) ?_
  simp only [ssH, zeu, zer, reduceIte, zes, zex, zev, zew]
  exact fin6 rfl
 refine h_loopE [4, 0, 2, 3, 5] 145 (SameI an acts) (acts.length + 1) (by decide) (by decide) (hbackO (nn := false) (x := lg0) (L := []) (M := []) (tok := .full) (i := 0) (n := acts.length + 1) rfl rfl rfl rfl rfl rfl rfl (.inl trivial) inv_start (by simp) (by omega) (by omega)) ?_
 rintro n t h J hJ hlt ⟨i, nn, x, L, M, tok, hv, rfl, ht, hI, hL, hi, hn⟩
 simp only [ze2, List.cons.injEq, and_true] at hv
 obtain ⟨g4, g0, g2, g3, g5⟩ := hv
 rw [t_eq hlt]
 simp only [zav, upTo, g0, g2, g3, g4, g5, len_acts, ssH, zeu, zer, reduceIte, zes, zex, zev, zew]
 by_cases hil : i < acts.length
 ·have hx2 : acts[i]? = some acts[i] := zeC hil
  have hae := hact _ (List.getElem_mem hil)
  generalize acts[i] = a at hx2 hae
  have hidx : idxLV 10 (actsV an acts) (it i) = some (.elt [it a.k, it a.op, it a.e.c, it a.e.q, it a.e.k, it a.e.n, bs a.e.s, it a.e.ck, it a.e.cn, bs a.e.cs]) := idx_act hx2
  simp only [show decide ((i : Int) < (acts.length : Int)) = true from decide_eq_true (by omega), hidx, zak, ssH, zeu, zer, reduceIte, zes, zex, zev, zew]
  generalize hQ : zbW 2 _ = Q
  have tail : ∀ {t' : List V} {r : Hl} {nn : Bool} {x : Lg} {L M : List Ent} {tok : Tok}, t'.length = 145 → tget t' 4 = .sl (L.map entV) (M.map entV) tok → tget t' 0 = actsV an acts → tget t' 2 = .val (.bool false) → tget t' 3 = .ptr 0 0 → tget t' 5 = it i → TokA tok → Inv nn x L → L.length ≤ i + 1 → Q .normal ⟨t', some (logB nn x) :: r⟩ := by
   intro t' r nn x L M tok q q4 q0 q2 q3 q5 ht hI hL
   have hnl := zaM (k := 0) nn x.l
   have hb := hI.base
   have hlen := hI.len
   have hw1 : IntKind.i64.wrap (x.b + 1) = ((x.b.toNat + 1 : Nat) : Int) := by rw [wrap_i64 (by omega) (by omega)]; omega
   rw [← hQ, t_eq q]
   simp only [zav, upTo, q0, q2, q3, q4, q5, logB, ssH, zeu, zer, reduceIte, zes, zex, zev, zew]
   refine zaq (by exact fun m => pCheck_ok E nn x) (by simp only [hnl, nbS]) (by first | exact LR.nil | simp only [nbS]) ?_
   simp only [hI.right, if_true, ssH, zeu, zer, reduceIte, zes, zex, zev, zew]
   refine zaq (by exact fun m => pLast_ok E nn x) (by simp only [hnl, nbS]) (by first | exact LR.nil | simp only [nbS]) ?_
   simp only [hI.right, if_true, zaU, zeL, show (x.b + (x.l.length : Int) != (L.length : Int)) = false by simp; omega, show decide ((L.length : Int) < x.b) = false from decide_eq_false (by omega), gt_iff_lt, hw1, ssH, zeu, zer, reduceIte, zes, zex, zev, zew]
   refine h_loopE [4, 0, 2, 3, 5, 14] 145 (SameJ an acts i nn x L) (L.length + 1 - x.b.toNat) (by decide) (by decide) (hbackJ (nn := nn) (x := x) (L := L) (M := M) (tok := tok) (i := i) (k := x.b.toNat + 1) rfl rfl rfl rfl rfl rfl rfl rfl ht (by omega) (by omega) (by omega)) ?_
   rintro n2 t2 h2 J2 hJ2 hlt2 ⟨k, M2, tok2, hv2, rfl, ht2, hk1, hk2, hkn⟩
   simp only [ze2, List.cons.injEq, and_true] at hv2
   obtain ⟨p4, p0, p2, p3, p5, p14⟩ := hv2
   rw [t_eq hlt2]
   simp only [zav, upTo, p0, p2, p3, p4, p5, p14, logB, zaU, zeL, ssH, zeu, zer, reduceIte, zes, zex, zev, zew]
   by_cases hkl : k ≤ L.length
   ·obtain ⟨e, he, hask⟩ := hI.ask hk1 hkl
    have hw2 : IntKind.i64.wrap ((k : Int) - 1) = ((k - 1 : Nat) : Int) := by rw [wrap_i64 (by omega) (by omega)]; omega
    have hc := (ent_cmp (.tmp 133) (.tmp 138) e e).2
    rw [decide_eq_true rfl] at hc
    simp only [entV, zeI] at hc
    have hat : ∀ m, zad Tryz.prog Γ 32 [lgV nn x, it k] m fun o m' => o = .ret (.tup [entV e, it 0]) ∧ m' = m := by
     intro m
     have := pAt_ok (m := m) E nn x k
     rwa [hask] at this
    simp only [show decide ((k : Int) ≤ (L.length : Int)) = true from decide_eq_true (by omega), ssH, zeu, zer, reduceIte, zes, zex, zev, zew]
    refine zaq (by exact fun m => hat m) (by simp only [hnl, nbS]) (by simp only [zaN, nbS]) ?_
    simp only [entV, zak, hw2, idx_ent he, hc, zaB (show k < 4611686018427387904 by omega), ssH, zeu, zer, reduceIte, zes, zex, zev, zew]
    exact (hbackJ (nn := nn) (x := x) (L := L) (M := M2) (tok := tok2) (i := i) (k := k + 1) (n := n2 - 1) rfl rfl rfl rfl rfl rfl rfl rfl ht2.a (by omega) (by omega) (by omega)).imp fun names hb => hJ2 (n2 - 1) names _ (by omega) hb
   ·simp only [show decide ((k : Int) ≤ (L.length : Int)) = false from decide_eq_false (by omega), zaB (show i < 4611686018427387904 by omega), ssH, zeu, zer, reduceIte, zes, zex, zev, zew]
    exact (hbackO (nn := nn) (x := x) (L := L) (M := M2) (tok := tok2) (i := i + 1) (n := n - 1) rfl rfl rfl rfl rfl rfl rfl ht2.a hI hL (by omega) (by omega)).imp fun names hb => hJ (n - 1) names _ (by omega) hb
  clear hQ
  have hnl := zaM (k := 0) nn x.l
  have hbx := hI.base
  have hlx := hI.len
  cases h1 : (a.k == 1)
  ·simp only [h1, logB, ssH, zeu, zer, reduceIte, zes, zex, zev, zew]
   cases h2 : (a.k == 2)
   ·simp only [h2, ssH, zeu, zer, reduceIte, zes, zex, zev, zew]
    cases h3 : (a.k == 3)
    ·simp only [h3, zak, ssH, zeu, zer, reduceIte, zes, zex, zev, zew]
     refine zaq (by exact fun m => pAppend_ok E hI.nil a.e) (by simp only [hnl, zaN, nbS]) (by simp only [zaJ, nbS]) ?_
     rcases app_case hI.right a.e with ⟨hr, hb, hl1, hl2⟩ | ⟨er, her, hr⟩
     ·rw [hr]
      obtain ⟨tok', ht', hcut⟩ := cut_up (l := L) (m := M) (tok := tok)
      simp only [lgV, zak, zax, zaU, zeL, za3, zaR, optV, hcut, litE_eq, litE_ent, ssH, zeu, zer, reduceIte, zes, zex, zev, zew]
      refine app_one a.e ht' (by omega) (by simp only [zey, zeE, zeu, zex]) ?_
      simp only [zak, zax, ssH, zeu, zer, reduceIte, zes, zex, zev, zew]
      exact tail (nn := true) (x := ⟨x.b, x.c, x.l ++ [a.e]⟩) (L := L ++ [a.e]) (M := []) rfl rfl rfl rfl rfl rfl (.inr ⟨4, 0, rfl, by decide⟩) (hI.app hb hae hl1 hl2) (by simp; omega)
     ·rw [hr]
      simp only [lgV, zak, zax, show (er == 0) = false by simpa using her, ssH, zeu, zer, reduceIte, zes, zex, zev, zew]
      exact tail rfl rfl rfl rfl rfl rfl ht.a hI (by omega)
    ·simp only [h3, ssH, zeu, zer, reduceIte, zes, zex, zev, zew]
     have hS := hI.logS
     have hpl := putL_len hS
     have hg := gL (s := putL x) (p := []) (r := []) hS (by simp)
     simp only [zeE, List.nil_append] at hg
     have hput : ∀ m, zad Tryz.prog Γ 51 [.sl [] [] .full, lgV nn x] m fun o m2 => ∃ v2, o = .ret v2 ∧ Buf 5 1 m m2 v2 ((putL x).map by8) := by
      intro m
      have := oPut_ok (Γ := Γ) (m := m) (l := []) (.inl Buf.start) nn x hS (by simp)
      simpa only [List.nil_append] using this
     have hend : ∀ (m : Store) (b' : Nat), m b' = some (rdB (putL x) (putL x).length 0) → zad Tryz.prog Γ 54 [.ptr b' 0] m fun o m' => o = .ret (it 0) ∧ m' = m := by
      intro m b' h
      have := wEnd_ok (Γ := Γ) h
      simpa using this
     refine hcall_buf0 (e := 5) (size := 1) (az := [lgV nn x]) (by simp only [zey, zeE, zeu, zex]) rfl (zb1 (by simp [putL, uz_ne])) hput (by simp only [zaJ, nbS]) (zas _) fun k => ?_
     simp only [ssH, zeu, zer, reduceIte, zes, zex, zev, zew]
     refine hcall_newsl (Y := rdB (putL x) 0 0) (by simp only [zey, zeE, zeu, zex]) rfl (fun m tok => wNew_ok) (zas _) (by first | exact LR.nil | simp only [nbS]) (by first | exact LR.nil | simp only [nbS]) zaI ?_
     simp only [ssH, zeu, zer, reduceIte, zes, zex, zev, zew]
     refine zba (b := 4) (X := rdB (putL x) 0 0) rfl rfl (fun m b' h => oGet_ok E.lib h (Nat.zero_le _) (by omega)) zaI zaI (by first | exact LR.nil | simp only [nbS]) nb_lgN ?_
     simp only [hg, lgN, lgV, zak, zax, ssH, zeu, zer, reduceIte, zes, zex, zev, zew]
     refine hcall_look (b := 4) (X := rdB (putL x) (putL x).length 0) rfl rfl hend zaI (by first | exact LR.nil | simp only [nbS]) (by first | exact LR.nil | simp only [nbS]) ?_
     simp only [ssH, zeu, zer, reduceIte, zes, zex, zev, zew]
     exact tail (nn := !x.l.isEmpty) (x := x) rfl rfl rfl rfl rfl rfl ht.a hI.again (by omega)
   ·simp only [h2, ssH, zeu, zer, reduceIte, zes, zex, zev, zew]
    refine zaq (by exact fun m => pCompact_ok E hI.nil a.op [99]) (by simp only [hnl, nbS]) (by simp only [zaJ, nbS]) ?_
    rcases comp_case nn hI.right a.op with ⟨n', hn', ho, hr⟩ | ⟨er, her, hr⟩
    ·rcases hr with hr | ⟨h0, hr⟩
     ·rw [hr]
      simp only [lgV, zak, zax, ssH, zeu, zer, reduceIte, zes, zex, zev, zew]
      exact tail rfl rfl rfl rfl rfl rfl ht.a hI (by omega)
     ·rw [hr]
      simp only [lgV, zak, zax, ssH, zeu, zer, reduceIte, zes, zex, zev, zew]
      exact tail (nn := nn) (x := ⟨a.op, [99], x.l.drop n'⟩) rfl rfl rfl rfl rfl rfl ht.a (by rw [ho]; exact hI.comp hn' h0) (by omega)
    ·rw [hr]
     simp only [lgV, zak, zax, show (er == 0) = false by simpa using her, ssH, zeu, zer, reduceIte, zes, zex, zev, zew]
     exact tail rfl rfl rfl rfl rfl rfl ht.a hI (by omega)
  ·simp only [h1, logB, ssH, zeu, zer, reduceIte, zes, zex, zev, zew]
   refine zaq (by exact fun m => pCut_ok E hI.nil a.op) (by simp only [hnl, nbS]) (by simp only [zaJ, nbS]) ?_
   rcases cut_case nn hI.right a.op with ⟨n', hn', ho, hr⟩ | ⟨er, her, hr⟩
   ·rw [hr]
    obtain ⟨M', tok', ht', hcut⟩ := cut_to (m := M) ht.a (l := L) (n := (x.b + n').toNat) (by omega)
    have e : (((x.b + (n' : Int)).toNat : Nat) : Int) = a.op := by omega
    rw [e] at hcut
    simp only [lgV, zak, zax, zaU, zeL, show decide (a.op < 0) = false from decide_eq_false (by omega), show decide ((L.length : Int) < a.op) = false from decide_eq_false (by omega), gt_iff_lt, za3, zaR, optV, hcut, ssH, zeu, zer, reduceIte, zes, zex, zev, zew]
    exact tail (nn := nn) (x := ⟨x.b, x.c, x.l.take n'⟩) rfl rfl rfl rfl rfl rfl ht' (hI.cut hn') (by simp only [ze0]; omega)
   ·rw [hr]
    simp only [lgV, zak, zax, show (er == 0) = false by simpa using her, ssH, zeu, zer, reduceIte, zes, zex, zev, zew]
    exact tail rfl rfl rfl rfl rfl rfl ht.a hI (by omega)
 ·simp only [show decide ((i : Int) < (acts.length : Int)) = false from decide_eq_false (by omega), ssH, zeu, zer, reduceIte, zes, zex, zev, zew]
  exact tail0 rfl
end
end Go.Av.Fn
