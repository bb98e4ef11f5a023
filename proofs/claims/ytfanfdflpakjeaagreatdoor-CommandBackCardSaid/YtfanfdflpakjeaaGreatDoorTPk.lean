/- Whether a command is right: the program's. Conditions: the library's functions (LibOk, ParseOk), and what three variables hold. -/
import Derived.KernelRfl
import Derived.Lib.AppendIntMem
import Derived.Lib.ParseIntBCases
import Derived.Lib.UnsafeStr
import Derived.Lib.VarintBits
import Derived.Lib.VarintDec
import Derived.Lib.Zigzag
import Derived.Shelf.LaysC
import Derived.Shelf.LaysM
import Derived.Shelf.RegionOpenPlain
import Derived.Shelf.Small.Strs
import Derived.Shelf.Strconv.Clone
import Derived.Shelf.Strconv.Itoa3
import Derived.Shelf.Strconv.ParseIntPublic10
import Derived.Shelf.Strings.Builder1
import Derived.Shelf.Strings.Search1
import Derived.Shelf.Strings.Search2
import Derived.Test.YtfanfdflpakjeaaGreatDoorProg
import Derived.WalkKit
import Derived.Test.YtfanfdflpakjeaaGreatDoorTTk
namespace Go.Av
theorem fillV_4 {cells : List V} {off : Nat} {a b c d : V} {r : List (Nat × Nat × V)} : fillV cells ((off, 4, .agg [a, b, c, d]) :: r) = if off + 4 ≤ cells.length then fillV (tset (tset (tset (tset cells off a) (off + 1) b) (off + 2) c) (off + 3) d) r else none := by
  simp only [fillV, V.cells, List.length_cons, List.length_nil, Nat.reduceAdd, true_and, List.zipIdx_cons, List.zipIdx_nil, List.foldl_cons, List.foldl_nil, Nat.add_zero, tset_eq, Nat.zero_add]
end Go.Av
namespace Go.Av.Fn
set_option linter.unusedSimpArgs false
set_option linter.unusedVariables false
set_option maxRecDepth 100000
open Go.Proofs
def tabOf : List (Nat × AFn) := [(56, F56)]
def noG : Glob := fun _ => none
theorem tabOf_ok : TabOk Tryz.prog noG tabOf := .cons ⟨_, F56_ok⟩ (by kernel_rfl) .nil
section
variable {Γ : Glob} {m : Store}
theorem of_ok (k : Int) : ACalls Tryz.prog Γ 56 [it k] m fun o m' => o = .ret (formV (formOf k)) ∧ m' = m := by
  by_cases hk : 0 ≤ k ∧ k < 18
  · obtain ⟨h0, h18⟩ := hk
    have hi : k = 0 ∨ k = 1 ∨ k = 2 ∨ k = 3 ∨ k = 4 ∨ k = 5 ∨ k = 6 ∨ k = 7 ∨ k = 8 ∨ k = 9 ∨ k = 10 ∨ k = 11 ∨ k = 12 ∨ k = 13 ∨ k = 14 ∨ k = 15 ∨ k = 16 ∨ k = 17 := by omega
    have hc : CallOk Tryz.prog Γ (callI Tryz.prog noG (fun _ _ _ => none) (look tabOf) 2000 40) := callI_ok mixed (fun _ _ h => by cases h) tabOf_ok 2000 40
    rcases hi with rfl | rfl | rfl | rfl | rfl | rfl | rfl | rfl | rfl | rfl | rfl | rfl | rfl | rfl | rfl | rfl | rfl | rfl
    all_goals exact acalls_plain hc (by kernel_rfl) (.cons (.val _) .nil) rfl
  · have hf : formOf k = noForm := by
      unfold formOf
      by_cases h : k < 0
      · rw [if_pos h]
      · rw [if_neg h, List.getElem?_eq_none (by show 18 ≤ k.toNat; omega)]
        rfl
    rw [hf]
    refine ACalls.less (A := fun o m' => o = .ret (formV noForm) ∧ SubS m m') ?_ fun o m' h => ⟨m, h.2, h.1, rfl⟩
    refine acalls_of_awp mixed F56_ok (by rintro v m b x _ ⟨⟨⟩, _⟩) ?_
    simp only [F56, start, List.cons_append, List.nil_append, List.length_cons, List.length_nil, List.replicate, Nat.reduceSub, Nat.reduceAdd]
    simp only [ssS, bin_or, bin_and, Nat.reduceAdd, Nat.reduceLeDiff, reduceIte, eq_self, Nat.reduceEqDiff]
    refine allocS_of fun b2 hb2 => ?_
    simp only [fillV_4, ssS, bin_or, bin_and, Nat.reduceAdd, Nat.reduceLeDiff, reduceIte, eq_self, Nat.reduceEqDiff]
    refine allocS_of fun b3 hb3 => ?_
    have h23 : b2 ≠ b3 := ne_of_some (Store.set_same _ _ _) hb3
    have fin : ∀ (t : List V) (x y z : Blk), tget t 2 = .ptr b2 0 → z = .var 100 [bs [], it 0, .val (.bool false), .val (.bool false)] → bodyA [ARes.cell 2 (some 4)] (fun o m' => o = Out.ret (formV noForm) ∧ SubS m m') .ret ⟨t, ((m.set b2 x).set b3 y).set b2 z⟩ := by
      rintro t x y z ht rfl
      refine bodyA_ret ((resV_cell ht (Store.set_same _ _ _)).trans rfl) ⟨rfl, ?_⟩
      exact ((((SubS.refl m).out hb2 _).out (by rw [Store.set_ne _ _ h23.symm] at hb3; exact hb3) _).out hb2 _)
    cases hn : decide (k < 0)
    · have hg : decide (k ≥ 18) = true := by
        have := of_decide_eq_false hn
        exact decide_eq_true (by omega)
      simp only [Store.set_same, Store.set_set, hn, hg, Store.set_ne _ _ h23, ssS, bin_or, bin_and, Nat.reduceAdd, Nat.reduceLeDiff, reduceIte, eq_self, Nat.reduceEqDiff]
      exact fin _ _ _ _ rfl rfl
    · simp only [Store.set_same, Store.set_set, hn, Store.set_ne _ _ h23, ssS, bin_or, bin_and, Nat.reduceAdd, Nat.reduceLeDiff, reduceIte, eq_self, Nat.reduceEqDiff]
      exact fin _ _ _ _ rfl rfl
theorem right_fin {k n : Int} {s : List UInt8} {t : List V} {S : Store} (b : Bool) (h : rightB k n s = b) (h2 : tget t 2 = .val (.bool b)) (hs : SubS m S) : bodyA [ARes.tmp 2] (fun o m' => o = Out.ret (.val (.bool (rightB k n s))) ∧ SubS m m') .ret ⟨t, S⟩ :=
  bodyA_ret resV_one ⟨by rw [h, h2], hs⟩
theorem right_ok (E : Env Γ) (k n : Int) (s : List UInt8) : ACalls Tryz.prog Γ 58 [cmdV k n s] m fun o m' => o = .ret (.val (.bool (rightB k n s))) ∧ m' = m := by
  refine ACalls.less (A := fun o m' => o = .ret (.val (.bool (rightB k n s))) ∧ SubS m m') ?_ fun o m' h => ⟨m, h.2, h.1, rfl⟩
  refine acalls_of_awp mixed F58_ok (by rintro v m b x _ ⟨⟨⟩, _⟩) ?_
  simp only [F58, cmdV, start, List.cons_append, List.nil_append, List.length_cons, List.length_nil, List.replicate, Nat.reduceSub, Nat.reduceAdd]
  simp only [ssS, bin_or, bin_and, Nat.reduceAdd, Nat.reduceLeDiff, reduceIte, eq_self, Nat.reduceEqDiff]
  refine allocS_of fun b1 hb1 => ?_
  simp only [Store.set_same, ssS, bin_or, bin_and, Nat.reduceAdd, Nat.reduceLeDiff, reduceIte, eq_self, Nat.reduceEqDiff]
  refine callS_pure (of_ok k) ?_
  obtain ⟨w, le, fn, fs, hf⟩ : ∃ w le fn fs, formOf k = ⟨w, le, fn, fs⟩ := ⟨_, _, _, _, rfl⟩
  simp only [hf, formV, ssS, bin_or, bin_and, Nat.reduceAdd, Nat.reduceLeDiff, reduceIte, eq_self, Nat.reduceEqDiff]
  refine allocS_of fun b3 hb3 => ?_
  have h13 : b1 ≠ b3 := ne_of_some (Store.set_same _ _ _) hb3
  have hS : ∀ x y, SubS m ((m.set b1 x).set b3 y) := fun x y => ((SubS.refl m).out hb1 _).out (by rw [Store.set_ne _ _ h13.symm] at hb3; exact hb3) _
  have hfe : ∀ xo yo, binV Tryz.prog .eql 100 .other xo yo (.agg [bs w, it le, .val (.bool fn), .val (.bool fs)]) (.agg [.val (.string (ByteArray.mk #[])), .val (.int .i64 0), .val (.bool false), .val (.bool false)]) = some (.val (.bool (decide (Form.mk w le fn fs = noForm)))) := fun xo yo => form_eq xo yo ⟨w, le, fn, fs⟩
  simp only [Store.set_same, Store.set_set, Store.set_ne _ _ h13, hfe, ssS, bin_or, bin_and, Nat.reduceAdd, Nat.reduceLeDiff, reduceIte, eq_self, Nat.reduceEqDiff]
  have hF : (decide (Form.mk w le fn fs = noForm) || (!fn && n != 0) || (!fs && !(s == [])) || decide (n < le) || decide (n > 4294967296)) = true → rightB k n s = false := by
    intro h
    unfold rightB
    rw [hf, if_pos h]
  have hT : (decide (Form.mk w le fn fs = noForm) || (!fn && n != 0) || (!fs && !(s == [])) || decide (n < le) || decide (n > 4294967296)) = false → (!fs || (fn && s == [])) = true → rightB k n s = true := by
    intro h h2
    unfold rightB
    rw [hf, if_neg (by rw [h]; decide), if_pos h2]
  have hW : (decide (Form.mk w le fn fs = noForm) || (!fn && n != 0) || (!fs && !(s == [])) || decide (n < le) || decide (n > 4294967296)) = false → (!fs || (fn && s == [])) = false → rightB k n s = writtenB s := by
    intro h h2
    unfold rightB
    rw [hf, if_neg (by rw [h]; decide), if_neg (by rw [h2]; decide)]
  clear hf hfe
  generalize decide (Form.mk w le fn fs = noForm) = hz at hF hT hW ⊢
  generalize h1 : (n != 0) = a1 at hF hT hW ⊢
  generalize h2 : (s == ([] : List UInt8)) = a2 at hF hT hW ⊢
  generalize h3 : decide (n < le) = a3 at hF hT hW ⊢
  generalize h4 : decide (n > 4294967296) = a4 at hF hT hW ⊢
  cases hz
  case true =>
    simp only [h1, h2, h3, h4, Store.set_same, Store.set_ne _ _ h13, Bool.not_true, Bool.not_false, ssS, bin_or, bin_and, Nat.reduceAdd, Nat.reduceLeDiff, reduceIte, eq_self, Nat.reduceEqDiff]
    exact right_fin false (hF rfl) rfl (hS _ _)
  case false =>
    cases fn
    case true =>
      cases fs
      case true =>
        cases a3
        case true =>
          simp only [h1, h2, h3, h4, Store.set_same, Store.set_ne _ _ h13, Bool.not_true, Bool.not_false, ssS, bin_or, bin_and, Nat.reduceAdd, Nat.reduceLeDiff, reduceIte, eq_self, Nat.reduceEqDiff]
          exact right_fin false (hF rfl) rfl (hS _ _)
        case false =>
          cases a4
          case true =>
            simp only [h1, h2, h3, h4, Store.set_same, Store.set_ne _ _ h13, Bool.not_true, Bool.not_false, ssS, bin_or, bin_and, Nat.reduceAdd, Nat.reduceLeDiff, reduceIte, eq_self, Nat.reduceEqDiff]
            exact right_fin false (hF rfl) rfl (hS _ _)
          case false =>
            cases a2
            case true =>
              simp only [h1, h2, h3, h4, Store.set_same, Store.set_ne _ _ h13, Bool.not_true, Bool.not_false, ssS, bin_or, bin_and, Nat.reduceAdd, Nat.reduceLeDiff, reduceIte, eq_self, Nat.reduceEqDiff]
              exact right_fin true (hT rfl rfl) rfl (hS _ _)
            case false =>
              simp only [h1, h2, h3, h4, Store.set_same, Store.set_ne _ _ h13, Bool.not_true, Bool.not_false, ssS, bin_or, bin_and, Nat.reduceAdd, Nat.reduceLeDiff, reduceIte, eq_self, Nat.reduceEqDiff]
              refine callS_pure (written_ok E s) ?_
              simp only [ssS, bin_or, bin_and, Nat.reduceAdd, Nat.reduceLeDiff, reduceIte, eq_self, Nat.reduceEqDiff]
              exact right_fin (writtenB s) (hW rfl rfl) rfl (hS _ _)
      case false =>
        cases a2
        case true =>
          cases a3
          case true =>
            simp only [h1, h2, h3, h4, Store.set_same, Store.set_ne _ _ h13, Bool.not_true, Bool.not_false, ssS, bin_or, bin_and, Nat.reduceAdd, Nat.reduceLeDiff, reduceIte, eq_self, Nat.reduceEqDiff]
            exact right_fin false (hF rfl) rfl (hS _ _)
          case false =>
            cases a4
            case true =>
              simp only [h1, h2, h3, h4, Store.set_same, Store.set_ne _ _ h13, Bool.not_true, Bool.not_false, ssS, bin_or, bin_and, Nat.reduceAdd, Nat.reduceLeDiff, reduceIte, eq_self, Nat.reduceEqDiff]
              exact right_fin false (hF rfl) rfl (hS _ _)
            case false =>
              simp only [h1, h2, h3, h4, Store.set_same, Store.set_ne _ _ h13, Bool.not_true, Bool.not_false, ssS, bin_or, bin_and, Nat.reduceAdd, Nat.reduceLeDiff, reduceIte, eq_self, Nat.reduceEqDiff]
              exact right_fin true (hT rfl rfl) rfl (hS _ _)
        case false =>
          simp only [h1, h2, h3, h4, Store.set_same, Store.set_ne _ _ h13, Bool.not_true, Bool.not_false, ssS, bin_or, bin_and, Nat.reduceAdd, Nat.reduceLeDiff, reduceIte, eq_self, Nat.reduceEqDiff]
          exact right_fin false (hF rfl) rfl (hS _ _)
    case false =>
      cases a1
      case true =>
        simp only [h1, h2, h3, h4, Store.set_same, Store.set_ne _ _ h13, Bool.not_true, Bool.not_false, ssS, bin_or, bin_and, Nat.reduceAdd, Nat.reduceLeDiff, reduceIte, eq_self, Nat.reduceEqDiff]
        exact right_fin false (hF rfl) rfl (hS _ _)
      case false =>
        cases fs
        case true =>
          cases a3
          case true =>
            simp only [h1, h2, h3, h4, Store.set_same, Store.set_ne _ _ h13, Bool.not_true, Bool.not_false, ssS, bin_or, bin_and, Nat.reduceAdd, Nat.reduceLeDiff, reduceIte, eq_self, Nat.reduceEqDiff]
            exact right_fin false (hF rfl) rfl (hS _ _)
          case false =>
            cases a4
            case true =>
              simp only [h1, h2, h3, h4, Store.set_same, Store.set_ne _ _ h13, Bool.not_true, Bool.not_false, ssS, bin_or, bin_and, Nat.reduceAdd, Nat.reduceLeDiff, reduceIte, eq_self, Nat.reduceEqDiff]
              exact right_fin false (hF rfl) rfl (hS _ _)
            case false =>
              simp only [h1, h2, h3, h4, Store.set_same, Store.set_ne _ _ h13, Bool.not_true, Bool.not_false, ssS, bin_or, bin_and, Nat.reduceAdd, Nat.reduceLeDiff, reduceIte, eq_self, Nat.reduceEqDiff]
              refine callS_pure (written_ok E s) ?_
              simp only [ssS, bin_or, bin_and, Nat.reduceAdd, Nat.reduceLeDiff, reduceIte, eq_self, Nat.reduceEqDiff]
              exact right_fin (writtenB s) (hW rfl rfl) rfl (hS _ _)
        case false =>
          cases a2
          case true =>
            cases a3
            case true =>
              simp only [h1, h2, h3, h4, Store.set_same, Store.set_ne _ _ h13, Bool.not_true, Bool.not_false, ssS, bin_or, bin_and, Nat.reduceAdd, Nat.reduceLeDiff, reduceIte, eq_self, Nat.reduceEqDiff]
              exact right_fin false (hF rfl) rfl (hS _ _)
            case false =>
              cases a4
              case true =>
                simp only [h1, h2, h3, h4, Store.set_same, Store.set_ne _ _ h13, Bool.not_true, Bool.not_false, ssS, bin_or, bin_and, Nat.reduceAdd, Nat.reduceLeDiff, reduceIte, eq_self, Nat.reduceEqDiff]
                exact right_fin false (hF rfl) rfl (hS _ _)
              case false =>
                simp only [h1, h2, h3, h4, Store.set_same, Store.set_ne _ _ h13, Bool.not_true, Bool.not_false, ssS, bin_or, bin_and, Nat.reduceAdd, Nat.reduceLeDiff, reduceIte, eq_self, Nat.reduceEqDiff]
                exact right_fin true (hT rfl rfl) rfl (hS _ _)
          case false =>
            simp only [h1, h2, h3, h4, Store.set_same, Store.set_ne _ _ h13, Bool.not_true, Bool.not_false, ssS, bin_or, bin_and, Nat.reduceAdd, Nat.reduceLeDiff, reduceIte, eq_self, Nat.reduceEqDiff]
            exact right_fin false (hF rfl) rfl (hS _ _)
theorem cCheck_ok (E : Env Γ) (k n : Int) (s : List UInt8) : ACalls Tryz.prog Γ 20 [cmdV k n s] m fun o m' => o = .ret (it (if rightB k n s then 0 else 2)) ∧ m' = m := by
  refine ACalls.less (A := fun o m' => o = .ret (it (if rightB k n s then 0 else 2)) ∧ SubS m m') ?_ fun o m' h => ⟨m, h.2, h.1, rfl⟩
  refine acalls_of_awp mixed F20_ok (by rintro v m b x _ ⟨⟨⟩, _⟩) ?_
  simp only [F20, cmdV, start, List.cons_append, List.nil_append, List.length_cons, List.length_nil, List.replicate, Nat.reduceSub, Nat.reduceAdd]
  simp only [ssS, bin_or, bin_and, Nat.reduceAdd, Nat.reduceLeDiff, reduceIte, eq_self, Nat.reduceEqDiff]
  refine allocS_of fun b1 hb1 => ?_
  simp only [Store.set_same, ssS, bin_or, bin_and, Nat.reduceAdd, Nat.reduceLeDiff, reduceIte, eq_self, Nat.reduceEqDiff]
  refine callS_pure (right_ok E k n s) ?_
  cases rightB k n s
  · simp only [Bool.not_false, ssS, bin_or, bin_and, Nat.reduceAdd, Nat.reduceLeDiff, reduceIte, eq_self, Nat.reduceEqDiff]
    exact bodyA_ret resV_one ⟨rfl, (SubS.refl m).out hb1 _⟩
  · simp only [Bool.not_true, ssS, bin_or, bin_and, Nat.reduceAdd, Nat.reduceLeDiff, reduceIte, eq_self, Nat.reduceEqDiff]
    exact bodyA_ret resV_one ⟨rfl, (SubS.refl m).out hb1 _⟩
end
end Go.Av.Fn
/-
  DERIVED: THE SHELF's CONTRACTS AT THIS DUMP, IN PLAIN WORDS (tools/lay-plain.mjs out of 'TryzShelf.lean', which tools/lay-shelf.mjs wrote): THE SAME DECLARATIONS UNDER THE SAME NAMES: 'import', 'namespace', 'open', 'def', 'theorem' AND NOTHING ELSE: no command of the shelf's: FOR A HAND-IN. Each laying: the table of numbers ('.._ren') and one theorem, a field a fact of the dump's own or the kernel's comparison; each contract: ONE APPLICATION.
-/
namespace Go.Proofs
open Go.Shelf
def Tryz.lays169_ren : Go.Shelf.Ren := ⟨fun | 169 => 241 | n => n, fun | 70 => 326 | 9 => 9 | 0 => 0 | 72 => 328 | 37 => 40 | 127 => 201 | 3 => 3 | 5 => 5 | n => n, fun | n => n⟩
theorem Tryz.lays169 : Go.Proofs.Lays.n169 Tryz.prog Tryz.lays169_ren := {
  mixed := by kernel_rfl
  f169 := Tryz.func241.trans (congrArg some (by kernel_rfl))
  t0 := Tryz.underlying0
  a0 := Tryz.isAgg0
  z0 := Tryz.sizeOf0
  v0 := Tryz.zeroValue0
  t3 := Tryz.underlying3
  a3 := Tryz.isAgg3
  z3 := Tryz.sizeOf3
  v3 := Tryz.zeroValue3
  t9 := Tryz.underlying9
  a9 := Tryz.isAgg9
  z9 := Tryz.sizeOf9
  v9 := Tryz.zeroValue9
  t37 := Tryz.underlying40
  a37 := Tryz.isAgg40
  z37 := Tryz.sizeOf40
  v37 := Tryz.zeroValue40
  t70 := Tryz.underlying326
  a70 := Tryz.isAgg326
  z70 := Tryz.sizeOf326
  v70 := Tryz.zeroValue326
  t72 := Tryz.underlying328
  a72 := Tryz.isAgg328
  z72 := Tryz.sizeOf328
  v72 := Tryz.zeroValue328
  t127 := Tryz.underlying201
  a127 := Tryz.isAgg201
  z127 := Tryz.sizeOf201
  v127 := Tryz.zeroValue201 }
theorem Tryz.Builder_Extra_169 : Builder.Extra Tryz.prog Tryz.lays169_ren := {
  sizeBuilder := by kernel_rfl
  liesBuilder := by kernel_rfl
  t5 := Tryz.underlying5
  a5 := Tryz.isAgg5
  z5 := Tryz.sizeOf5
  v5 := Tryz.zeroValue5
  infoByte := by kernel_rfl
  cellsByte := by kernel_rfl
  sizeByte := by kernel_rfl
  neB5 := by decide }
def Tryz.lays137_ren : Go.Shelf.Ren := ⟨fun | 137 => 242 | 217 => 137 | 266 => 162 | n => n, fun | 9 => 9 | 5 => 5 | 3 => 3 | n => n, fun | n => n⟩
theorem Tryz.lays137 : Go.Proofs.Lays.n137 Tryz.prog Tryz.lays137_ren := {
  mixed := by kernel_rfl
  f137 := Tryz.func242.trans (congrArg some (by kernel_rfl))
  f217 := Tryz.func137.trans (congrArg some (by kernel_rfl))
  f266 := Tryz.func162.trans (congrArg some (by kernel_rfl))
  t3 := Tryz.underlying3
  a3 := Tryz.isAgg3
  z3 := Tryz.sizeOf3
  v3 := Tryz.zeroValue3
  t5 := Tryz.underlying5
  a5 := Tryz.isAgg5
  z5 := Tryz.sizeOf5
  v5 := Tryz.zeroValue5
  t9 := Tryz.underlying9
  a9 := Tryz.isAgg9
  z9 := Tryz.sizeOf9
  v9 := Tryz.zeroValue9 }
open Go.RowKit in
theorem Tryz.strings_IndexByte (s : ByteArray) (c : Int) (w : World) :
    Calls Tryz.prog 242 #[.string s, .int .u8 c] w fun e w' => e = .returned (.int .i64 (Lib.indexByte s.data.toList c.toNat.toUInt8)) ∧ w' = w := Any.strings_IndexByte Tryz.lays137 s c w
def Tryz.laysM246_ren : Go.Shelf.Ren := ⟨fun | 246 => 129 | 283 => 148 | 284 => 149 | 285 => 150 | 286 => 151 | 129 => 177 | 317 => 176 | 318 => 178 | 319 => 179 | 320 => 180 | 337 => 204 | 338 => 205 | n => n, fun | 2 => 2 | 3 => 3 | 9 => 9 | 4 => 4 | 171 => 190 | 0 => 0 | 53 => 154 | 37 => 40 | 5 => 5 | 173 => 192 | 212 => 227 | 51 => 204 | 20 => 20 | 213 => 228 | 46 => 156 | 232 => 304 | 233 => 305 | n => n, fun | 17 => 1 | 18 => 7 | 19 => 8 | n => n⟩
theorem Tryz.laysM246 : Go.Proofs.LaysM.n246 Tryz.prog Tryz.laysM246_ren := {
  mixed := by kernel_rfl
  f129 := Tryz.func177.trans (congrArg some (by kernel_rfl))
  f246 := Tryz.func129.trans (congrArg some (by kernel_rfl))
  f283 := Tryz.func148.trans (congrArg some (by kernel_rfl))
  f284 := Tryz.func149.trans (congrArg some (by kernel_rfl))
  f285 := Tryz.func150.trans (congrArg some (by kernel_rfl))
  f286 := Tryz.func151.trans (congrArg some (by kernel_rfl))
  f317 := Tryz.func176.trans (congrArg some (by kernel_rfl))
  f318 := Tryz.func178.trans (congrArg some (by kernel_rfl))
  f319 := Tryz.func179.trans (congrArg some (by kernel_rfl))
  f320 := Tryz.func180.trans (congrArg some (by kernel_rfl))
  f337 := Tryz.func204.trans (congrArg some (by kernel_rfl))
  f338 := Tryz.func205.trans (congrArg some (by kernel_rfl))
  t0 := Tryz.underlying0
  a0 := Tryz.isAgg0
  z0 := Tryz.sizeOf0
  v0 := Tryz.zeroValue0
  t2 := Tryz.underlying2
  a2 := Tryz.isAgg2
  z2 := Tryz.sizeOf2
  v2 := Tryz.zeroValue2
  t3 := Tryz.underlying3
  a3 := Tryz.isAgg3
  z3 := Tryz.sizeOf3
  v3 := Tryz.zeroValue3
  t4 := Tryz.underlying4
  a4 := Tryz.isAgg4
  z4 := Tryz.sizeOf4
  v4 := Tryz.zeroValue4
  t5 := Tryz.underlying5
  a5 := Tryz.isAgg5
  z5 := Tryz.sizeOf5
  v5 := Tryz.zeroValue5
  t9 := Tryz.underlying9
  a9 := Tryz.isAgg9
  z9 := Tryz.sizeOf9
  v9 := Tryz.zeroValue9
  t20 := Tryz.underlying20
  a20 := Tryz.isAgg20
  z20 := Tryz.sizeOf20
  v20 := Tryz.zeroValue20
  t37 := Tryz.underlying40
  a37 := Tryz.isAgg40
  z37 := Tryz.sizeOf40
  v37 := Tryz.zeroValue40
  t46 := Tryz.underlying156
  a46 := Tryz.isAgg156
  z46 := Tryz.sizeOf156
  v46 := Tryz.zeroValue156
  t51 := Tryz.underlying204
  a51 := Tryz.isAgg204
  z51 := Tryz.sizeOf204
  v51 := Tryz.zeroValue204
  t53 := Tryz.underlying154
  a53 := Tryz.isAgg154
  z53 := Tryz.sizeOf154
  v53 := Tryz.zeroValue154
  t171 := Tryz.underlying190
  a171 := Tryz.isAgg190
  z171 := Tryz.sizeOf190
  v171 := Tryz.zeroValue190
  t173 := Tryz.underlying192
  a173 := Tryz.isAgg192
  z173 := Tryz.sizeOf192
  v173 := Tryz.zeroValue192
  t212 := Tryz.underlying227
  a212 := Tryz.isAgg227
  z212 := Tryz.sizeOf227
  v212 := Tryz.zeroValue227
  t213 := Tryz.underlying228
  a213 := Tryz.isAgg228
  z213 := Tryz.sizeOf228
  t232 := Tryz.underlying304
  a232 := Tryz.isAgg304
  z232 := Tryz.sizeOf304
  v232 := Tryz.zeroValue304
  t233 := Tryz.underlying305
  a233 := Tryz.isAgg305
  z233 := Tryz.sizeOf305
  v233 := Tryz.zeroValue305
  g17 := by kernel_rfl
  g18 := by kernel_rfl
  g19 := by kernel_rfl
  i0 := by kernel_rfl
  i2 := by kernel_rfl
  i3 := by kernel_rfl
  i4 := by kernel_rfl
  i5 := by kernel_rfl
  i9 := by kernel_rfl
  i20 := by kernel_rfl
  i37 := by kernel_rfl
  i46 := by kernel_rfl
  i51 := by kernel_rfl
  i53 := by kernel_rfl
  i171 := by kernel_rfl
  i173 := by kernel_rfl
  i212 := by kernel_rfl
  i232 := by kernel_rfl
  i233 := by kernel_rfl
  m17 := by kernel_rfl
  m18 := by kernel_rfl
  m19 := by kernel_rfl }
open Go.RowKit Go.Sort Go.Lib in
theorem Tryz.internal_strconv_FormatInt_10 (n : Int) (h0 : -9223372036854775808 ≤ n) (h1 : n ≤ 9223372036854775807) (w : World) (htab : Lib.TabIs Tryz.prog w "internal/strconv.uint64pow10" .u64 Lib.pow10Tab) :
    Calls Tryz.prog 129 #[.int .i64 n, .int .i64 10] w fun e w' => e = .returned (.string ⟨(Lib.itoa n).toArray⟩) ∧ ∃ k os, w' = grow (w.drewN k) os := Any.internal_strconv_FormatInt_10 Tryz.laysM246 n h0 h1 w htab
def Tryz.lays246_ren : Go.Shelf.Ren := ⟨fun | 246 => 129 | 283 => 148 | 284 => 149 | 285 => 150 | 286 => 151 | 129 => 177 | 317 => 176 | 318 => 178 | 319 => 179 | 320 => 180 | 337 => 204 | 338 => 205 | n => n, fun | 2 => 2 | 3 => 3 | 9 => 9 | 4 => 4 | 171 => 190 | 0 => 0 | 53 => 154 | 37 => 40 | 5 => 5 | 173 => 192 | 212 => 227 | 51 => 204 | 20 => 20 | 213 => 228 | 46 => 156 | 232 => 304 | 233 => 305 | n => n, fun | 17 => 1 | 18 => 7 | 19 => 8 | n => n⟩
theorem Tryz.lays246 : Go.Proofs.Lays.n246 Tryz.prog Tryz.lays246_ren := {
  mixed := by kernel_rfl
  f129 := Tryz.func177.trans (congrArg some (by kernel_rfl))
  f246 := Tryz.func129.trans (congrArg some (by kernel_rfl))
  f283 := Tryz.func148.trans (congrArg some (by kernel_rfl))
  f284 := Tryz.func149.trans (congrArg some (by kernel_rfl))
  f285 := Tryz.func150.trans (congrArg some (by kernel_rfl))
  f286 := Tryz.func151.trans (congrArg some (by kernel_rfl))
  f317 := Tryz.func176.trans (congrArg some (by kernel_rfl))
  f318 := Tryz.func178.trans (congrArg some (by kernel_rfl))
  f319 := Tryz.func179.trans (congrArg some (by kernel_rfl))
  f320 := Tryz.func180.trans (congrArg some (by kernel_rfl))
  f337 := Tryz.func204.trans (congrArg some (by kernel_rfl))
  f338 := Tryz.func205.trans (congrArg some (by kernel_rfl))
  t0 := Tryz.underlying0
  a0 := Tryz.isAgg0
  z0 := Tryz.sizeOf0
  v0 := Tryz.zeroValue0
  t2 := Tryz.underlying2
  a2 := Tryz.isAgg2
  z2 := Tryz.sizeOf2
  v2 := Tryz.zeroValue2
  t3 := Tryz.underlying3
  a3 := Tryz.isAgg3
  z3 := Tryz.sizeOf3
  v3 := Tryz.zeroValue3
  t4 := Tryz.underlying4
  a4 := Tryz.isAgg4
  z4 := Tryz.sizeOf4
  v4 := Tryz.zeroValue4
  t5 := Tryz.underlying5
  a5 := Tryz.isAgg5
  z5 := Tryz.sizeOf5
  v5 := Tryz.zeroValue5
  t9 := Tryz.underlying9
  a9 := Tryz.isAgg9
  z9 := Tryz.sizeOf9
  v9 := Tryz.zeroValue9
  t20 := Tryz.underlying20
  a20 := Tryz.isAgg20
  z20 := Tryz.sizeOf20
  v20 := Tryz.zeroValue20
  t37 := Tryz.underlying40
  a37 := Tryz.isAgg40
  z37 := Tryz.sizeOf40
  v37 := Tryz.zeroValue40
  t46 := Tryz.underlying156
  a46 := Tryz.isAgg156
  z46 := Tryz.sizeOf156
  v46 := Tryz.zeroValue156
  t51 := Tryz.underlying204
  a51 := Tryz.isAgg204
  z51 := Tryz.sizeOf204
  v51 := Tryz.zeroValue204
  t53 := Tryz.underlying154
  a53 := Tryz.isAgg154
  z53 := Tryz.sizeOf154
  v53 := Tryz.zeroValue154
  t171 := Tryz.underlying190
  a171 := Tryz.isAgg190
  z171 := Tryz.sizeOf190
  v171 := Tryz.zeroValue190
  t173 := Tryz.underlying192
  a173 := Tryz.isAgg192
  z173 := Tryz.sizeOf192
  v173 := Tryz.zeroValue192
  t212 := Tryz.underlying227
  a212 := Tryz.isAgg227
  z212 := Tryz.sizeOf227
  v212 := Tryz.zeroValue227
  t213 := Tryz.underlying228
  a213 := Tryz.isAgg228
  z213 := Tryz.sizeOf228
  t232 := Tryz.underlying304
  a232 := Tryz.isAgg304
  z232 := Tryz.sizeOf304
  v232 := Tryz.zeroValue304
  t233 := Tryz.underlying305
  a233 := Tryz.isAgg305
  z233 := Tryz.sizeOf305
  v233 := Tryz.zeroValue305
  g17 := by kernel_rfl
  g18 := by kernel_rfl
  g19 := by kernel_rfl }
open Go.RowKit Go.Sort Go.Lib in
theorem Tryz.internal_strconv_FormatInt_10_small (i : Nat) (hi : i < 100) (w : World) :
    Calls Tryz.prog 129 #[.int .i64 i, .int .i64 10] w fun e w' => e = .returned (.string ⟨(Lib.decDigits i).toArray⟩) ∧ w' = w := Any.internal_strconv_FormatInt_10_small Tryz.lays246 i hi w
def Tryz.laysM316_ren : Go.Shelf.Ren := ⟨fun | 316 => 131 | n => n, fun | 9 => 9 | 3 => 3 | 4 => 4 | 37 => 40 | 0 => 0 | 127 => 201 | 5 => 5 | n => n, fun | n => n⟩
theorem Tryz.laysM316 : Go.Proofs.LaysM.n316 Tryz.prog Tryz.laysM316_ren := {
  mixed := by kernel_rfl
  f316 := Tryz.func131.trans (congrArg some (by kernel_rfl))
  t0 := Tryz.underlying0
  a0 := Tryz.isAgg0
  z0 := Tryz.sizeOf0
  v0 := Tryz.zeroValue0
  t3 := Tryz.underlying3
  a3 := Tryz.isAgg3
  z3 := Tryz.sizeOf3
  v3 := Tryz.zeroValue3
  t4 := Tryz.underlying4
  a4 := Tryz.isAgg4
  z4 := Tryz.sizeOf4
  v4 := Tryz.zeroValue4
  t9 := Tryz.underlying9
  a9 := Tryz.isAgg9
  z9 := Tryz.sizeOf9
  v9 := Tryz.zeroValue9
  t37 := Tryz.underlying40
  a37 := Tryz.isAgg40
  z37 := Tryz.sizeOf40
  v37 := Tryz.zeroValue40
  t127 := Tryz.underlying201
  a127 := Tryz.isAgg201
  z127 := Tryz.sizeOf201
  v127 := Tryz.zeroValue201
  t5 := Tryz.underlying5
  a5 := Tryz.isAgg5
  z5 := Tryz.sizeOf5
  v5 := Tryz.zeroValue5
  i0 := by kernel_rfl
  i3 := by kernel_rfl
  i4 := by kernel_rfl
  i5 := by kernel_rfl
  i9 := by kernel_rfl
  i37 := by kernel_rfl
  i127 := by kernel_rfl }
open Go.RowKit in
theorem Tryz.stringslite_Clone (s : ByteArray) (w : World) (hlim : s.size ≤ 281474976710656) :
    Calls Tryz.prog 131 #[.string s] w fun e w' => e = .returned (.string s) ∧ Below w.heap.size w w' := Any.stringslite_Clone Tryz.laysM316 s w hlim
def Tryz.laysC174_ren : Go.Shelf.Ren := ⟨fun | 174 => 125 | 247 => 141 | 245 => 142 | 287 => 164 | 279 => 165 | 280 => 166 | 281 => 167 | 282 => 168 | 321 => 193 | 322 => 194 | 316 => 131 | 171 => 62 | 205 => 195 | 243 => 104 | 246 => 129 | 283 => 148 | 284 => 149 | 285 => 150 | 286 => 151 | 129 => 177 | 317 => 176 | 318 => 178 | 319 => 179 | 320 => 180 | 337 => 204 | 338 => 205 | n => n, fun | 9 => 9 | 3 => 3 | 2 => 2 | 75 => 163 | 85 => 164 | 4 => 4 | 167 => 207 | 5 => 5 | 53 => 154 | 175 => 208 | 46 => 156 | 168 => 210 | 37 => 40 | 0 => 0 | 210 => 241 | 21 => 21 | 127 => 201 | 145 => 284 | 143 => 282 | 171 => 190 | 173 => 192 | 212 => 227 | 51 => 204 | 20 => 20 | 213 => 228 | 232 => 304 | 233 => 305 | 80 => 260 | n => n, fun | 15 => 4 | 16 => 5 | 17 => 1 | 18 => 7 | 19 => 8 | n => n⟩
theorem Tryz.laysC174 : Go.Proofs.LaysC.n174 Tryz.prog Tryz.laysC174_ren := {
  mixed := by kernel_rfl
  f129 := Tryz.func177.trans (congrArg some (by kernel_rfl))
  f171 := Tryz.func62.trans (congrArg some (by kernel_rfl))
  f174 := Tryz.func125.trans (congrArg some (by kernel_rfl))
  f205 := Tryz.func195.trans (congrArg some (by kernel_rfl))
  f243 := Tryz.func104.trans (congrArg some (by kernel_rfl))
  f245 := Tryz.func142.trans (congrArg some (by kernel_rfl))
  f246 := Tryz.func129.trans (congrArg some (by kernel_rfl))
  f247 := Tryz.func141.trans (congrArg some (by kernel_rfl))
  f279 := Tryz.func165.trans (congrArg some (by kernel_rfl))
  f280 := Tryz.func166.trans (congrArg some (by kernel_rfl))
  f281 := Tryz.func167.trans (congrArg some (by kernel_rfl))
  f282 := Tryz.func168.trans (congrArg some (by kernel_rfl))
  f283 := Tryz.func148.trans (congrArg some (by kernel_rfl))
  f284 := Tryz.func149.trans (congrArg some (by kernel_rfl))
  f285 := Tryz.func150.trans (congrArg some (by kernel_rfl))
  f286 := Tryz.func151.trans (congrArg some (by kernel_rfl))
  f287 := Tryz.func164.trans (congrArg some (by kernel_rfl))
  f316 := Tryz.func131.trans (congrArg some (by kernel_rfl))
  f317 := Tryz.func176.trans (congrArg some (by kernel_rfl))
  f318 := Tryz.func178.trans (congrArg some (by kernel_rfl))
  f319 := Tryz.func179.trans (congrArg some (by kernel_rfl))
  f320 := Tryz.func180.trans (congrArg some (by kernel_rfl))
  f321 := Tryz.func193.trans (congrArg some (by kernel_rfl))
  f322 := Tryz.func194.trans (congrArg some (by kernel_rfl))
  f337 := Tryz.func204.trans (congrArg some (by kernel_rfl))
  f338 := Tryz.func205.trans (congrArg some (by kernel_rfl))
  t0 := Tryz.underlying0
  a0 := Tryz.isAgg0
  z0 := Tryz.sizeOf0
  v0 := Tryz.zeroValue0
  t2 := Tryz.underlying2
  a2 := Tryz.isAgg2
  z2 := Tryz.sizeOf2
  v2 := Tryz.zeroValue2
  t3 := Tryz.underlying3
  a3 := Tryz.isAgg3
  z3 := Tryz.sizeOf3
  v3 := Tryz.zeroValue3
  t4 := Tryz.underlying4
  a4 := Tryz.isAgg4
  z4 := Tryz.sizeOf4
  v4 := Tryz.zeroValue4
  t5 := Tryz.underlying5
  a5 := Tryz.isAgg5
  z5 := Tryz.sizeOf5
  v5 := Tryz.zeroValue5
  t9 := Tryz.underlying9
  a9 := Tryz.isAgg9
  z9 := Tryz.sizeOf9
  v9 := Tryz.zeroValue9
  t20 := Tryz.underlying20
  a20 := Tryz.isAgg20
  z20 := Tryz.sizeOf20
  v20 := Tryz.zeroValue20
  t21 := Tryz.underlying21
  a21 := Tryz.isAgg21
  z21 := Tryz.sizeOf21
  v21 := Tryz.zeroValue21
  t37 := Tryz.underlying40
  a37 := Tryz.isAgg40
  z37 := Tryz.sizeOf40
  v37 := Tryz.zeroValue40
  t46 := Tryz.underlying156
  a46 := Tryz.isAgg156
  z46 := Tryz.sizeOf156
  v46 := Tryz.zeroValue156
  t51 := Tryz.underlying204
  a51 := Tryz.isAgg204
  z51 := Tryz.sizeOf204
  v51 := Tryz.zeroValue204
  t53 := Tryz.underlying154
  a53 := Tryz.isAgg154
  z53 := Tryz.sizeOf154
  v53 := Tryz.zeroValue154
  t75 := Tryz.underlying163
  a75 := Tryz.isAgg163
  z75 := Tryz.sizeOf163
  v75 := Tryz.zeroValue163
  t85 := Tryz.underlying164
  a85 := Tryz.isAgg164
  z85 := Tryz.sizeOf164
  v85 := Tryz.zeroValue164
  t127 := Tryz.underlying201
  a127 := Tryz.isAgg201
  z127 := Tryz.sizeOf201
  v127 := Tryz.zeroValue201
  t143 := Tryz.underlying282
  a143 := Tryz.isAgg282
  z143 := Tryz.sizeOf282
  v143 := Tryz.zeroValue282
  t145 := Tryz.underlying284
  a145 := Tryz.isAgg284
  z145 := Tryz.sizeOf284
  v145 := Tryz.zeroValue284
  t167 := Tryz.underlying207
  a167 := Tryz.isAgg207
  z167 := Tryz.sizeOf207
  v167 := Tryz.zeroValue207
  t168 := Tryz.underlying210
  a168 := Tryz.isAgg210
  z168 := Tryz.sizeOf210
  v168 := Tryz.zeroValue210
  t171 := Tryz.underlying190
  a171 := Tryz.isAgg190
  z171 := Tryz.sizeOf190
  v171 := Tryz.zeroValue190
  t173 := Tryz.underlying192
  a173 := Tryz.isAgg192
  z173 := Tryz.sizeOf192
  v173 := Tryz.zeroValue192
  t175 := Tryz.underlying208
  a175 := Tryz.isAgg208
  z175 := Tryz.sizeOf208
  v175 := Tryz.zeroValue208
  t210 := Tryz.underlying241
  a210 := Tryz.isAgg241
  z210 := Tryz.sizeOf241
  v210 := Tryz.zeroValue241
  t212 := Tryz.underlying227
  a212 := Tryz.isAgg227
  z212 := Tryz.sizeOf227
  v212 := Tryz.zeroValue227
  t213 := Tryz.underlying228
  a213 := Tryz.isAgg228
  z213 := Tryz.sizeOf228
  t232 := Tryz.underlying304
  a232 := Tryz.isAgg304
  z232 := Tryz.sizeOf304
  v232 := Tryz.zeroValue304
  t233 := Tryz.underlying305
  a233 := Tryz.isAgg305
  z233 := Tryz.sizeOf305
  v233 := Tryz.zeroValue305
  g15 := by kernel_rfl
  g16 := by kernel_rfl
  g17 := by kernel_rfl
  g18 := by kernel_rfl
  g19 := by kernel_rfl
  t80 := Tryz.underlying260
  a80 := Tryz.isAgg260
  z80 := Tryz.sizeOf260
  v80 := Tryz.zeroValue260
  i0 := by kernel_rfl
  i2 := by kernel_rfl
  i3 := by kernel_rfl
  i4 := by kernel_rfl
  i5 := by kernel_rfl
  i9 := by kernel_rfl
  i20 := by kernel_rfl
  i21 := by kernel_rfl
  i37 := by kernel_rfl
  i46 := by kernel_rfl
  i51 := by kernel_rfl
  i53 := by kernel_rfl
  i75 := by kernel_rfl
  i80 := by kernel_rfl
  i85 := by kernel_rfl
  i127 := by kernel_rfl
  i143 := by kernel_rfl
  i145 := by kernel_rfl
  i167 := by kernel_rfl
  i168 := by kernel_rfl
  i171 := by kernel_rfl
  i173 := by kernel_rfl
  i175 := by kernel_rfl
  i210 := by kernel_rfl
  i212 := by kernel_rfl
  i232 := by kernel_rfl
  i233 := by kernel_rfl
  m15 := by kernel_rfl
  m16 := by kernel_rfl
  m17 := by kernel_rfl
  m18 := by kernel_rfl
  m19 := by kernel_rfl
  c0 := by kernel_rfl
  c2 := by kernel_rfl
  c3 := by kernel_rfl
  c4 := by kernel_rfl
  c5 := by kernel_rfl
  c9 := by kernel_rfl
  c20 := by kernel_rfl
  c21 := by kernel_rfl
  c37 := by kernel_rfl
  c46 := by kernel_rfl
  c51 := by kernel_rfl
  c53 := by kernel_rfl
  c75 := by kernel_rfl
  c80 := by kernel_rfl
  c85 := by kernel_rfl
  c127 := by kernel_rfl
  c143 := by kernel_rfl
  c145 := by kernel_rfl
  c167 := by kernel_rfl
  c168 := by kernel_rfl
  c171 := by kernel_rfl
  c173 := by kernel_rfl
  c175 := by kernel_rfl
  c210 := by kernel_rfl
  c212 := by kernel_rfl
  c213 := by kernel_rfl
  c232 := by kernel_rfl
  c233 := by kernel_rfl }
open Go.RowKit in
theorem Tryz.strconv_ParseInt_10_at64_ok (s : ByteArray) (hmax : s.size ≤ 9223372036854775806) (v : Int) (h : Lib.parseIntB 64 s.data.toList = .ok v) (w : World) :
    Calls Tryz.prog 125 #[.string s, .int .i64 10, .int .i64 64] w fun e w' => e = .returned (.tuple #[.int .i64 v, .nilIface]) ∧ (w' = w ∨ ∃ t, w' = Lib.bytesWorld w 5 t) := Any.strconv_ParseInt_10_at64_ok Tryz.laysC174 s hmax v h w
open Go.RowKit in
theorem Tryz.strconv_ParseInt_10_at64_syntax (s : ByteArray) (hlim : s.size ≤ 281474976710656) (h : Lib.parseIntB 64 s.data.toList = Lib.NumEnd.syntax) (ev : Value) (w : World) (hv : w.cell? ⟨4, 0, none⟩ = some ev) (hev : ev = .nilIface ∨ ∃ te pe, ev = .iface te pe) :
    Calls Tryz.prog 125 #[.string s, .int .i64 10, .int .i64 64] w fun e w' => ∃ N, e = .returned (.tuple #[.int .i64 (0), .iface 210 (.pointer (some ⟨N, 0, none⟩))]) ∧ w.heap.size ≤ N ∧ w'.heap[N]? = some (.cells #[.string ⟨#[80, 97, 114, 115, 101, 73, 110, 116]⟩, .string s, ev] 241 (0, 0)) ∧ Below w.heap.size w w' := Any.strconv_ParseInt_10_at64_syntax Tryz.laysC174 s hlim h ev w hv hev
open Go.RowKit in
theorem Tryz.strconv_ParseInt_10_at64_range (s : ByteArray) (hlim : s.size ≤ 281474976710656) (h : Lib.parseIntB 64 s.data.toList = .range) (ev : Value) (w : World) (hv : w.cell? ⟨5, 0, none⟩ = some ev) (hev : ev = .nilIface ∨ ∃ te pe, ev = .iface te pe) :
    Calls Tryz.prog 125 #[.string s, .int .i64 10, .int .i64 64] w fun e w' => ∃ N, e = .returned (.tuple #[.int .i64 (Lib.intSat 64 s.data.toList), .iface 210 (.pointer (some ⟨N, 0, none⟩))]) ∧ w.heap.size ≤ N ∧ w'.heap[N]? = some (.cells #[.string ⟨#[80, 97, 114, 115, 101, 73, 110, 116]⟩, .string s, ev] 241 (0, 0)) ∧ Below w.heap.size w w' := Any.strconv_ParseInt_10_at64_range Tryz.laysC174 s hlim h ev w hv hev
def Tryz.lays217_ren : Go.Shelf.Ren := ⟨fun | 217 => 137 | 266 => 162 | n => n, fun | 9 => 9 | 5 => 5 | 3 => 3 | n => n, fun | n => n⟩
theorem Tryz.lays217 : Go.Proofs.Lays.n217 Tryz.prog Tryz.lays217_ren := {
  mixed := by kernel_rfl
  f217 := Tryz.func137.trans (congrArg some (by kernel_rfl))
  f266 := Tryz.func162.trans (congrArg some (by kernel_rfl))
  t3 := Tryz.underlying3
  a3 := Tryz.isAgg3
  z3 := Tryz.sizeOf3
  v3 := Tryz.zeroValue3
  t5 := Tryz.underlying5
  a5 := Tryz.isAgg5
  z5 := Tryz.sizeOf5
  v5 := Tryz.zeroValue5
  t9 := Tryz.underlying9
  a9 := Tryz.isAgg9
  z9 := Tryz.sizeOf9
  v9 := Tryz.zeroValue9 }
open Go.RowKit Go.Lib in
theorem Tryz.stringslite_IndexByte (s : ByteArray) (c : Int) (w : World) :
    Calls Tryz.prog 137 #[.string s, .int .u8 c] w fun e w' => e = .returned (.int .i64 (Lib.indexByte s.data.toList c.toNat.toUInt8)) ∧ w' = w := Any.stringslite_IndexByte Tryz.lays217 s c w
def Tryz.lays240_ren : Go.Shelf.Ren := ⟨fun | 240 => 251 | 276 => 261 | n => n, fun | 0 => 0 | 4 => 4 | 9 => 9 | 20 => 20 | 37 => 40 | 70 => 326 | 72 => 328 | 164 => 248 | n => n, fun n => n⟩
theorem Tryz.lays240 : Go.Proofs.Lays.n240 Tryz.prog Tryz.lays240_ren := {
  mixed := by kernel_rfl
  f240 := Tryz.func251.trans (congrArg some (by kernel_rfl))
  f276 := Tryz.func261.trans (congrArg some (by kernel_rfl))
  t0 := Tryz.underlying0
  a0 := Tryz.isAgg0
  z0 := Tryz.sizeOf0
  v0 := Tryz.zeroValue0
  t4 := Tryz.underlying4
  a4 := Tryz.isAgg4
  z4 := Tryz.sizeOf4
  v4 := Tryz.zeroValue4
  t9 := Tryz.underlying9
  a9 := Tryz.isAgg9
  z9 := Tryz.sizeOf9
  v9 := Tryz.zeroValue9
  t20 := Tryz.underlying20
  a20 := Tryz.isAgg20
  z20 := Tryz.sizeOf20
  v20 := Tryz.zeroValue20
  t70 := Tryz.underlying326
  a70 := Tryz.isAgg326
  z70 := Tryz.sizeOf326
  v70 := Tryz.zeroValue326
  t72 := Tryz.underlying328
  a72 := Tryz.isAgg328
  z72 := Tryz.sizeOf328
  v72 := Tryz.zeroValue328
  t164 := Tryz.underlying248
  a164 := Tryz.isAgg248
  z164 := Tryz.sizeOf248
  v164 := Tryz.zeroValue248
}
theorem Tryz.Builder_X72_240 : Builder.X72 Tryz.prog Tryz.lays240_ren := {
  sizeBuilder := by kernel_rfl
  liesBuilder := by kernel_rfl
}
end Go.Proofs
/- The library's functions, told over abstract values. No condition. -/
namespace Go.Proofs
open Go.Shelf Go.RowKit
variable {P : Program} {ρ : Ren}
theorem liesAt_off {e : TypeId} (hc : P.cellsOf e = 1) (count off n : Nat) (hn : off + n ≤ count) : liesAt P P.depth e count off e n = true := by
  have hd : P.depth = (2 * (P.types.size + Made.depth) + 1) + 1 := rfl
  rw [hd]
  simp only [liesAt, Bool.or_eq_true]
  left
  rw [hd]
  simp [rowAt, hc, hn, sameLayout, Nat.mod_one]
theorem unsafeString_at (w : World) (pt it ty e : TypeId) (hp : P.underlying pt = some (.pointer e)) (hc : P.cellsOf e = 1) (a : Addr) (cells : Nat) (hsh : w.shape? a.block = some (e, cells)) (l : List UInt8) (h0 : l ≠ []) (hn : a.off + l.length ≤ cells) (h63 : l.length ≤ 9223372036854775807)
    (hcell : ∀ j x, l[j]? = some x → w.cell? (a.add j) = some (.int .u8 x.toNat)) :
    (Builtin.unsafeString_ #[pt, it] ty #[.pointer (some a), .int .i64 l.length]).run P w = .ok (.string ⟨l.toArray⟩) (w.freeze a l.length) := by
  have hl : l.length ≠ 0 := by simpa using h0
  have hlb := Lib.run_loadBytes (P := P) w l a .empty hcell
  have hlies := liesAt_off (P := P) hc (cells / P.cellsOf e) a.off l.length (by rw [hc]; simpa using hn)
  have h63' : ¬ (9223372036854775807 : Int) < (l.length : Int) := by omega
  have hdef : Builtin.unsafeString_ #[pt, it] ty #[.pointer (some a), .int .i64 l.length] =
      (do
        let n ← asInt (.int .i64 l.length)
        if n < 0 then runtimePanic (.error "unsafe.String: len out of range")
        if n > IntKind.i64.max then unsupported (.unsafePointer "String: a length above the largest int")
        if n = 0 then pure (.string .empty)
        else if ← variablesAt a (← elemOf pt) n.toNat then do
          let s ← loadBytes a .empty n.toNat
          freeze a n.toNat
          pure (.string s)
        else unsupported (.unsafePointer "String: not so many bytes at ptr")) := rfl
  rw [hdef]
  have hmax : IntKind.i64.max = 9223372036854775807 := rfl
  have hneg : ¬ (l.length : Int) < 0 := by omega
  simp [asInt, asIntOf, hmax, h63', hneg, hl, variablesAt, hsh, elemOf, run_underlying hp, hlies, hlb]
set_option maxHeartbeats 1000000 in
set_option maxRecDepth 100000 in
theorem builderString_at (L : Lays.n169 P ρ) (X : Builder.Extra P ρ) (b : Nat) (p : Value) (a : Addr) (cap n : Nat) (l : List UInt8) (w : World) (hbk : w.heap[b]? = some (.cells #[p, .slice (some a) l.length cap] (ρ.t 72) (0, 0))) (h0 : l ≠ []) (hcap : l.length ≤ cap) (h63 : l.length ≤ 9223372036854775807)
    (hsh : w.shape? a.block = some (ρ.t 5, n)) (hn : a.off + l.length ≤ n) (hcell : ∀ j x, l[j]? = some x → w.cell? (a.add j) = some (.int .u8 x.toNat)) :
    Calls P (ρ.f 169) #[.pointer (some ⟨b, 0, none⟩)] w fun e w' => e = .returned (.string ⟨l.toArray⟩) ∧ w' = w.drew.freeze a l.length := by
  have hl0 : l.length ≠ 0 := by simpa using h0
  have c1 : w.drew.cell? ⟨b, 1, none⟩ = some (.slice (some a) l.length cap) := by
    have : w.drew.heap[b]? = some (.cells #[p, .slice (some a) l.length cap] (ρ.t 72) (0, 0)) := hbk
    rw [Lib.cell_of_heap this]; rfl
  have hSD : (Builtin.unsafeSliceData_ #[(ρ.t 37)] (ρ.t 127) #[.slice (some a) l.length cap]).run P w.drew = .ok (.pointer (some a)) w.drew :=
    Lib.run_unsafeSliceData_row _ _ _ _ _ _ (by omega)
  have hUS : (Builtin.unsafeString_ #[(ρ.t 127), (ρ.t 3)] (ρ.t 9) #[.pointer (some a), .int .i64 l.length]).run P w.drew = .ok (.string ⟨l.toArray⟩) (w.drew.freeze a l.length) :=
    unsafeString_at w.drew (ρ.t 127) (ρ.t 3) (ρ.t 9) (ρ.t 5) L.t127 X.cellsByte a n hsh l h0 hn h63 hcell
  have mixed := L.mixed
  have t72 := L.t72; have a72 := L.a72; have z72 := L.z72; have v72 := L.v72; have u72 := run_underlying L.t72
  have t70 := L.t70; have a70 := L.a70; have z70 := L.z70; have v70 := L.v70; have u70 := run_underlying L.t70
  have t37 := L.t37; have a37 := L.a37; have z37 := L.z37; have v37 := L.v37; have u37 := run_underlying L.t37
  have t127 := L.t127; have a127 := L.a127; have z127 := L.z127; have v127 := L.v127; have u127 := run_underlying L.t127
  have t3 := L.t3; have a3 := L.a3; have z3 := L.z3; have v3 := L.v3; have u3 := run_underlying L.t3
  have t9 := L.t9; have a9 := L.a9; have z9 := L.z9; have v9 := L.v9; have u9 := run_underlying L.t9
  have t5 := X.t5; have a5 := X.a5; have z5 := X.z5; have v5 := X.v5; have u5 := run_underlying X.t5
  go_enter L.f169, Body.n169_ntmps ρ
  go_wp2
  go_region_o
  all_goals (go_wp2; go_ret; exact ⟨rfl, rfl⟩)
end Go.Proofs
/- The library's functions hold what is asked of them. No condition but the variable that ParseInt looks at. -/
namespace Go.Av
open Go.RowKit
section
variable {P : Program} {Γ : Glob} {B0 : Nat} {G : Gh} {m : Store} {w : World}
theorem heap_freeze_ne {a : Addr} {n b : Nat} (h : b ≠ a.block) : (w.freeze a n).heap[b]? = w.heap[b]? := by
  unfold World.freeze
  split
  · rfl
  · simp only [Array.getElem?_modify]
    rw [if_neg (fun e => h e.symm)]
theorem cell_freeze {a c : Addr} {n : Nat} : (w.freeze a n).cell? c = w.cell? c := by
  by_cases h : c.block = a.block
  · unfold World.freeze
    split
    · rfl
    · simp only [World.cell?, Array.getElem?_modify, h, if_true]
      cases hb : w.heap[a.block]? with
      | none => rfl
      | some o => cases o <;> rfl
  · exact World.cell?_of_block (heap_freeze_ne h)
theorem size_freeze {a : Addr} {n : Nat} : (w.freeze a n).heap.size = w.heap.size := by
  unfold World.freeze
  split
  · rfl
  · simp
theorem Rep.freeze (h : Rep Γ B0 G m w) {t : Nat} {T : TypeId} {k : Nat} (ht : m t = some (.tip T k)) {a : Addr} {E C n : Nat} (hH : G.H t k = some (a.block, E, C)) : Rep Γ B0 G (fun c => if c = t then none else m c) (w.freeze a n) := by
  obtain ⟨_, B, E', C', q1, q2, q3, q4, ⟨cs0, fz0, q5⟩, _⟩ := h.tip t T k ht
  rw [hH] at q1
  simp only [Option.some.injEq, Prod.mk.injEq] at q1
  obtain ⟨rfl, rfl, rfl⟩ := q1
  have sub : ∀ b x, (if b = t then none else m b) = some x → b ≠ t ∧ m b = some x := by
    intro b x hb
    by_cases e : b = t
    · simp [e] at hb
    · exact ⟨e, by simpa [e] using hb⟩
  exact {
    K := fun b o u hu => by rw [cell_freeze]; exact h.K b o u hu
    base := by rw [size_freeze]; exact h.base
    hist := fun t' v x hx => by rw [size_freeze]; exact ⟨(h.hist t' v x hx).1, fun T' v' hv => (h.hist t' v x hx).2 T' v' (sub _ _ hv).2⟩
    var := fun b T' cs hb => by
      obtain ⟨h1, ⟨us, h2, h3⟩, h4⟩ := h.var b T' cs (sub _ _ hb).2
      have hne : b ≠ a.block := by rintro rfl; exact q4 _ _ (sub _ _ hb).2
      exact ⟨h1, ⟨us, by rw [heap_freeze_ne hne]; exact h2, h3⟩, h4⟩
    tip := fun t' T' v ht' => by
      rw [size_freeze]
      obtain ⟨hne, ht''⟩ := sub _ _ ht'
      obtain ⟨p1, B', E', C', p2, p3, p4, p5, ⟨y1, y2, y3⟩, p6⟩ := h.tip t' T' v ht''
      have hB : B' ≠ a.block := by
        rintro rfl
        exact h.apart t' T' v t T k a.block E' C' E C ht'' ht hne p2 hH
      refine ⟨p1, B', E', C', p2, p3, p4, fun T2 cs hc => p5 T2 cs (sub _ _ hc).2, ⟨y1, y2, by rw [heap_freeze_ne hB]; exact y3⟩, fun o h1 h2 => ?_⟩
      obtain ⟨f1, f2, f3⟩ := p6 o h1 h2
      exact ⟨by rw [cell_freeze]; exact f1, by rw [World.frozen?_of_block (w := w) (heap_freeze_ne hB)]; exact f2, f3⟩
    apart := fun t1 T1 v1 t2 T2 v2 B E C E' C' k1 k2 => h.apart t1 T1 v1 t2 T2 v2 B E C E' C' (sub _ _ k1).2 (sub _ _ k2).2
    glob := h.glob
    gsz := fun g cs hg h20 => by
      obtain ⟨a1, us', T', fz, b', c'⟩ := h.gsz g cs hg h20
      exact ⟨a1, us', T', fz, by rw [heap_freeze_ne (by omega)]; exact b', c'⟩
    loop := fun b r f t' ps x y D hb => by
      obtain ⟨h1, us, h2, h3⟩ := h.loop b r f t' ps x y D (sub _ _ hb).2
      have hne : b ≠ a.block := by rintro rfl; rw [q5] at h2; cases h2
      exact ⟨h1, us, by rw [heap_freeze_ne hne]; exact h2, h3⟩
    defer := fun b hb => by
      obtain ⟨h1, h2⟩ := h.defer b (sub _ _ hb).2
      have hne : b ≠ a.block := by rintro rfl; rw [q5] at h2; cases h2
      exact ⟨h1, by rw [heap_freeze_ne hne]; exact h2⟩ }
theorem by8s_inv : ∀ {l : List UInt8} {us : List Value}, RelL G (l.map by8) us → us = l.map fun b => Value.int .u8 b.toNat
  | [], us, h => h.nil_inv
  | b :: l, us, h => by
    obtain ⟨y, ys, rfl, r1, r2⟩ := h.cons_inv
    cases r1
    rw [by8s_inv r2]
    rfl
end
end Go.Av
namespace Go.Av.Fn
set_option linter.unusedSimpArgs false
set_option linter.unusedVariables false
set_option maxRecDepth 10000
open Go.Proofs Go.RowKit
theorem idxB_eq (s : List UInt8) (c : UInt8) : Lib.indexByte s c = idxB s c := by
  unfold idxB
  induction s with
  | nil => rfl
  | cons b s ih =>
    rw [List.findIdx?_cons, Lib.indexByte]
    by_cases h : (b == c) = true
    · simp [h]
    · simp only [h, Bool.false_eq_true, if_false]
      rw [ih]
      cases List.findIdx? (· == c) s with
      | none => rfl
      | some i =>
        simp only [Option.map_some]
        have : ¬ ((i : Int) == -1) = true := by
          intro k
          have := eq_of_beq k
          omega
        rw [if_neg this]
        rfl
theorem parse_ge : ∀ (l : List UInt8) (acc u : Nat), Lib.parseUintM (2 ^ 64 - 1) acc l = .ok u → acc ≤ u
  | [], acc, u, h => by
    simp only [Lib.parseUintM, Lib.NumEnd.ok.injEq] at h
    omega
  | c :: r, acc, u, h => by
    simp only [Lib.parseUintM] at h
    split at h
    · split at h
      · cases h
      · split at h
        · cases h
        · have := parse_ge r _ u h
          omega
    · cases h
theorem parse_no : ∀ (l : List UInt8) (acc : Nat), (∀ c ∈ l, dig c = true) → (∃ u, Lib.parseUintM (2 ^ 64 - 1) acc l = .ok u) ∨ Lib.parseUintM (2 ^ 64 - 1) acc l = .range
  | [], acc, _ => .inl ⟨acc, rfl⟩
  | c :: r, acc, hd => by
    have hc := hd c (List.mem_cons_self ..)
    simp only [dig, Bool.and_eq_true, decide_eq_true_eq] at hc
    have hc' : 48 ≤ c.toNat ∧ c.toNat ≤ 57 := hc
    simp only [Lib.parseUintM, if_pos hc']
    split
    · exact .inr rfl
    · split
      · exact .inr rfl
      · exact parse_no r _ (fun c hc => hd c (List.mem_cons_of_mem _ hc))
theorem parse_num : ∀ (l : List UInt8) (acc : Nat), (∀ c ∈ l, dig c = true) → acc < 9223372036854775808 →
    (∃ u, Lib.parseUintM (2 ^ 64 - 1) acc l = .ok u ∧ numL acc l = if u < 9223372036854775808 then some u else none) ∨ (Lib.parseUintM (2 ^ 64 - 1) acc l = .range ∧ numL acc l = none)
  | [], acc, _, ha => .inl ⟨acc, rfl, by simp only [numL]; rw [if_pos ha]⟩
  | c :: r, acc, hd, ha => by
    have hc := hd c (List.mem_cons_self ..)
    simp only [dig, Bool.and_eq_true, decide_eq_true_eq] at hc
    have hc' : 48 ≤ c.toNat ∧ c.toNat ≤ 57 := hc
    simp only [Lib.parseUintM, numL, if_pos hc']
    have key : (acc > (9223372036854775807 - (c.toNat - 48)) / 10) ↔ 9223372036854775807 < 10 * acc + (c.toNat - 48) := by omega
    have e10 : acc * 10 + (c.toNat - 48) = 10 * acc + (c.toNat - 48) := by omega
    rw [e10]
    by_cases h1 : 1844674407370955162 ≤ acc
    · rw [if_pos h1, if_pos (key.2 (by omega))]
      exact .inr ⟨rfl, rfl⟩
    · rw [if_neg h1]
      by_cases h2 : 2 ^ 64 - 1 < 10 * acc + (c.toNat - 48)
      · rw [if_pos h2, if_pos (key.2 (by omega))]
        exact .inr ⟨rfl, rfl⟩
      · rw [if_neg h2]
        by_cases h3 : 9223372036854775807 < 10 * acc + (c.toNat - 48)
        · rw [if_pos (key.2 h3)]
          rcases parse_no r (10 * acc + (c.toNat - 48)) (fun c hc => hd c (List.mem_cons_of_mem _ hc)) with ⟨u, hp⟩ | hp
          · have := parse_ge r _ u hp
            exact .inl ⟨u, hp, by rw [if_neg (by omega)]⟩
          · exact .inr ⟨hp, rfl⟩
        · rw [if_neg (fun k => h3 (key.1 k))]
          exact parse_num r _ (fun c hc => hd c (List.mem_cons_of_mem _ hc)) (by omega)
theorem parseB {s : List UInt8} (hne : s ≠ []) (hd : ∀ c ∈ s, dig c = true) : match numL 0 s with
    | some n => Lib.parseIntB 64 s = .ok (n : Int)
    | none => Lib.parseIntB 64 s = .range := by
  obtain ⟨c, r, rfl⟩ : ∃ c r, s = c :: r := by
    cases s with
    | nil => exact absurd rfl hne
    | cons c r => exact ⟨c, r, rfl⟩
  have hc := hd c (List.mem_cons_self ..)
  simp only [dig, Bool.and_eq_true, decide_eq_true_eq] at hc
  have h1 : ¬ (c.toNat = 43 ∨ c.toNat = 45) := by omega
  have h2 : ¬ c.toNat = 45 := by omega
  have hU : Lib.parseUintB 64 (c :: r) = Lib.parseUintM (2 ^ 64 - 1) 0 (c :: r) := by
    unfold Lib.parseUintB
    rw [if_neg (List.cons_ne_nil c r)]
  have hok : ∀ u, Lib.parseUintM (2 ^ 64 - 1) 0 (c :: r) = .ok u → Lib.parseIntB 64 (c :: r) = if 9223372036854775808 ≤ u then .range else .ok (u : Int) := by
    intro u hu
    unfold Lib.parseIntB
    simp only
    rw [if_neg h1, hU, hu]
    simp [h2]
  have hra : Lib.parseUintM (2 ^ 64 - 1) 0 (c :: r) = .range → Lib.parseIntB 64 (c :: r) = .range := by
    intro hu
    unfold Lib.parseIntB
    simp only
    rw [if_neg h1, hU, hu]
  rcases parse_num (c :: r) 0 hd (by omega) with ⟨u, e1, e2⟩ | ⟨e1, e2⟩
  · rw [e2]
    by_cases hu : u < 9223372036854775808
    · rw [if_pos hu]
      simp only
      rw [hok u e1, if_neg (by omega)]
    · rw [if_neg hu]
      simp only
      rw [hok u e1, if_pos (by omega)]
  · rw [e2]
    exact hra e1
theorem clone41 {Γ : Glob} (m : Store) (s : List UInt8) (hs : s.length ≤ 281474976710656) : ACalls Tryz.prog Γ 131 [bs s] m fun o m' => o = .ret (bs s) ∧ m' = m :=
  ACalls.of_vals (xs := [.string ⟨s.toArray⟩]) (u := .string ⟨s.toArray⟩) (by kernel_rfl) rfl (fun w => Tryz.stringslite_Clone ⟨s.toArray⟩ w (by simpa [ByteArray.size] using hs))
theorem index38 {Γ : Glob} (m : Store) (s : List UInt8) (c : UInt8) : ACalls Tryz.prog Γ 242 [bs s, by8 c] m fun o m' => o = .ret (it (idxB s c)) ∧ m' = m :=
  ACalls.of_vals (xs := [.string ⟨s.toArray⟩, .int .u8 c.toNat]) (u := .int .i64 (idxB s c)) (by kernel_rfl) rfl (fun w => (Tryz.strings_IndexByte ⟨s.toArray⟩ c.toNat w).mono (by
    rintro e w' ⟨rfl, rfl⟩
    refine ⟨?_, Below.refl _ _⟩
    have e1 : (c.toNat : Int).toNat.toUInt8 = c := by simp
    rw [e1, ← idxB_eq]))
theorem parse28 {Γ : Glob} {T : TypeId} {v : V} (hΓ : Γ 5 = some [.ifc T v]) : ParseOk Γ := by
  intro m s hne hs hd
  have hp := parseB hne hd
  refine ⟨by kernel_rfl, fun G B0 mF w cargs hD hR hL => ?_⟩
  obtain ⟨c1, r1, rfl, h1, hL⟩ := hL.cons_inv
  obtain ⟨c2, r2, rfl, h2, hL⟩ := hL.cons_inv
  obtain ⟨c3, r3, rfl, h3, hL⟩ := hL.cons_inv
  obtain rfl := hL.nil_inv
  cases h1
  cases h2
  cases h3
  have hsz : (⟨s.toArray⟩ : ByteArray).data.toList = s := by simp
  have hsz2 : (⟨s.toArray⟩ : ByteArray).size = s.length := by simp [ByteArray.size]
  cases hn : numL 0 s with
  | some n =>
    rw [hn] at hp
    refine (Tryz.strconv_ParseInt_10_at64_ok ⟨s.toArray⟩ (by omega) n (by rw [hsz]; exact hp) w).mono ?_
    rintro e w' ⟨rfl, hw⟩
    have hB : Below w.heap.size w w' := by
      rcases hw with rfl | ⟨t, rfl⟩
      · exact Below.refl _ _
      · exact Lib.bytesWorld_below w 5 t
    exact ⟨G, m, .ret (.tup [it n, .val .nilIface]), Gh.le.refl G, hD, hR.below hB, hB.mono hR.base, .ret (.tup (.cons (.val rfl) (.cons (.val rfl) .nil))), rfl, rfl⟩
  | none =>
    rw [hn] at hp
    obtain ⟨us, g1, g2⟩ := hR.glob 5 _ hΓ
    obtain ⟨u, ys, rfl, g3, g4⟩ := g1.cons_inv
    obtain rfl := g4.nil_inv
    have hcell := hR.K 5 0 u (g2.2 0 u rfl)
    cases g3 with
    | ifc g3 =>
      refine (Tryz.strconv_ParseInt_10_at64_range ⟨s.toArray⟩ (by omega) (by rw [hsz]; exact hp) _ w hcell (.inr ⟨_, _, rfl⟩)).mono ?_
      rintro e w' ⟨N, rfl, _, _, hB⟩
      exact ⟨G, m, .ret (.tup [it (Lib.intSat 64 (ByteArray.mk s.toArray).data.toList), .ifc 210 (.ptr N 0)]), Gh.le.refl G, hD, hR.below hB, hB.mono hR.base, .ret (.tup (.cons (.val rfl) (.cons (.ifc (.ptr _ _)) .nil))), ⟨_, _, _, rfl⟩, rfl⟩
theorem copy48 {Γ : Glob} (m : Store) (b : Nat) (p u : V) (h : m b = some (.var 328 [p, u])) (hp : markOk b p) : ACalls Tryz.prog Γ 251 [.ptr b 0] m fun o m' => o = .ret (.tup []) ∧ m' = m.set b (.var 328 [.ptr b 0, u]) := by
  refine ⟨by kernel_rfl, fun G B0 mF w cargs hD hR hL => ?_⟩
  obtain ⟨c1, r1, rfl, h1, hL⟩ := hL.cons_inv
  obtain rfl := hL.nil_inv
  cases h1
  have hb := or_left (f := mF) h
  obtain ⟨hB0, ⟨us, hw, hu⟩, hK⟩ := hR.var b 328 _ hb
  obtain ⟨x, us1, rfl, r1, hu⟩ := hu.cons_inv
  obtain ⟨y, us2, rfl, r2, hu⟩ := hu.cons_inv
  obtain rfl := hu.nil_inv
  rcases hp with rfl | rfl
  · cases r1
    refine (Any.Builder_copyCheck_fresh Tryz.lays240 Tryz.Builder_X72_240 b w (by simp [World.cell?, hw]) (by simp [World.shape?, hw]; rfl) (by simp [World.frozen?, hw])).mono ?_
    rintro e w' ⟨rfl, rfl⟩
    have hst := hR.store hb (o := 0) (RelV.ptr (G := G) b 0)
    rw [← or_set] at hst
    exact ⟨G, _, .ret (.tup []), Gh.le.refl G, hD.set _ (hD.of_some h), hst, (Below.refl B0 w).setCell (p := ⟨b, 0, none⟩) hB0 _, .ret (.tup .nil), rfl, rfl⟩
  · cases r1
    refine (Any.Builder_copyCheck_used Tryz.lays240 Tryz.Builder_X72_240 b w (by simp [World.cell?, hw])).mono ?_
    rintro e w' ⟨rfl, rfl⟩
    exact ⟨G, m, .ret (.tup []), Gh.le.refl G, hD, hR, Below.refl _ _, .ret (.tup .nil), rfl, (Store.set_eq m h).symm⟩
theorem string37 {Γ : Glob} (m : Store) (b : Nat) (p u : V) (l : List UInt8) (h : m b = some (.var 328 [p, u])) (hl : l.length ≤ 4096) (hu : (l = [] ∧ u = .sl [] [] .full) ∨ (l ≠ [] ∧ ∃ t k, m t = some (.tip 5 k) ∧ u = .sl (l.map by8) [] (.tip t k))) :
    ACalls Tryz.prog Γ 241 [.ptr b 0] m fun o m' => o = .ret (bs l) ∧ ∀ c x, m c = some x → (∀ l2 k, u ≠ .sl l2 [] (.tip c k)) → m' c = some x := by
  refine ⟨by kernel_rfl, fun G B0 mF w cargs hD hR hL => ?_⟩
  obtain ⟨c1, r1, rfl, h1, hL⟩ := hL.cons_inv
  obtain rfl := hL.nil_inv
  cases h1
  have hb := or_left (f := mF) h
  obtain ⟨hB0, ⟨us, hw, hus⟩, hK⟩ := hR.var b 328 _ hb
  obtain ⟨x, us1, rfl, r1, hus⟩ := hus.cons_inv
  obtain ⟨y, us2, rfl, r2, hus⟩ := hus.cons_inv
  obtain rfl := hus.nil_inv
  rcases hu with ⟨rfl, rfl⟩ | ⟨hne, t, k, ht, rfl⟩
  · have hy : y = .slice none 0 0 := by
      cases r2 with
      | nil _ => rfl
      | sl q1 q2 q3 q4 q5 q6 => exact absurd rfl q6.2
    subst hy
    refine (Any.Builder_String_nil Tryz.lays169 Tryz.Builder_Extra_169 w.heap.size b x w hw).mono ?_
    rintro e w' ⟨rfl, hB⟩
    exact ⟨G, m, .ret (bs []), Gh.le.refl G, hD, hR.below hB, hB.mono hR.base, .ret (.val rfl), rfl, fun c x hc _ => hc⟩
  · have hy : ∃ (a : Addr) (cap : Nat), y = .slice (some a) l.length cap ∧ l.length ≤ cap ∧ G.has a (l.map fun b => Value.int .u8 b.toNat) ∧ G.H t k = some (a.block, a.off + l.length, a.off + cap) := by
      obtain ⟨c, r, rfl⟩ : ∃ c r, l = c :: r := by
        cases l with
        | nil => exact absurd rfl hne
        | cons c r => exact ⟨c, r, rfl⟩
      cases r2 with
      | @sl _ _ _ us a cap sz q1 q2 q3 q4 q5 q6 =>
        have hsz : sz = 1 := (q1 (by8 c) (by simp)).symm
        subst hsz
        have hfl : flat ((c :: r).map by8 ++ []) = (c :: r).map by8 := by
          have : ∀ l : List UInt8, flat (l.map by8) = l.map by8 := by
            intro l
            induction l with
            | nil => rfl
            | cons b l ih => rw [List.map_cons, flat_cons, ih]; rfl
          rw [List.append_nil, this]
        rw [hfl] at q2
        have hus := by8s_inv q2
        subst hus
        have q6' : G.H t k = some (a.block, a.off + ((c :: r).map by8).length * 1, a.off + cap * 1) := q6
        rw [List.length_map, Nat.mul_one, Nat.mul_one] at q6'
        exact ⟨a, cap, by rw [List.length_map], by simpa using q4, q3, q6'⟩
    obtain ⟨a, cap, rfl, hcap, hhas, hH⟩ := hy
    have htm := or_left (f := mF) ht
    obtain ⟨_, B, E, C, p1, p2, p3, p4, ⟨cs, fz, p5⟩, p6⟩ := hR.tip t 5 k htm
    rw [hH] at p1
    simp only [Option.some.injEq, Prod.mk.injEq] at p1
    obtain ⟨rfl, rfl, rfl⟩ := p1
    have hcell : ∀ j x, l[j]? = some x → w.cell? (a.add j) = some (.int .u8 x.toNat) := by
      intro j x hx
      have hk := hhas.2 j (.int .u8 x.toNat) (by simp [hx])
      have := hR.K _ _ _ hk
      rw [add_plain hhas.1]
      exact this
    have hsz : a.off + l.length ≤ cs.size := by
      have hl0 : 0 < l.length := by cases l with | nil => exact absurd rfl hne | cons _ _ => simp
      have := hcell (l.length - 1) l[l.length - 1] (by simp [hl0])
      rw [add_plain hhas.1] at this
      simp only [World.cell?, p5] at this
      have h2 := (Array.getElem?_eq_some_iff.1 this).1
      omega
    refine (builderString_at Tryz.lays169 Tryz.Builder_Extra_169 b x a cap cs.size l w hw hne hcap (by omega) (by simp [World.shape?, p5]; rfl) hsz hcell).mono ?_
    rintro e w' ⟨rfl, rfl⟩
    have hfz := hR.drew.freeze htm (a := a) (n := l.length) hH
    have hor : (fun c => if c = t then none else (m.or mF) c) = Store.or (fun c => if c = t then none else m c) mF := by
      funext c
      by_cases e : c = t
      · subst e
        have := hD.of_some ht
        simp [Store.or, this]
      · simp [Store.or, e]
    rw [hor] at hfz
    refine ⟨G, _, .ret (bs l), Gh.le.refl G, fun c => ?_, hfz, Lib.below_freeze (Below.drew (Below.refl B0 w)) p2 _, .ret (.val rfl), rfl, fun c x hc hk => ?_⟩
    · rcases hD c with h | h
      · left
        by_cases e : c = t
        · simp [e]
        · simp [e, h]
      · exact .inr h
    · have : c ≠ t := by rintro rfl; exact hk _ _ rfl
      simp [this, hc]
theorem libOk {Γ : Glob} : LibOk Γ where
  clone := clone41
  copyCheck := copy48
  string := string37
  indexByte := fun m s c _ => index38 m s c
end Go.Av.Fn
/- Numerals read, written small ones; texts cut at a blank. Condition: what two variables hold. -/
namespace Go.Av.Fn
set_option linter.unusedSimpArgs false
set_option linter.unusedVariables false
set_option maxRecDepth 10000
open Go.Proofs Go.RowKit
def ParseOut (s : List UInt8) (o : Out) : Prop := match Lib.parseIntB 64 s with
  | .ok n => o = .ret (.tup [it n, .val .nilIface])
  | _ => ∃ (n : Int) (T : TypeId) (u : V), o = .ret (.tup [it n, .ifc T u])
theorem parse_any {Γ : Glob} {T T' : TypeId} {v v' : V} (hr : Γ 5 = some [.ifc T v]) (hsy : Γ 4 = some [.ifc T' v']) (m : Store) (s : List UInt8) (hs : s.length ≤ 281474976710656) :
    ACalls Tryz.prog Γ 125 [bs s, it 10, it 64] m fun o m' => ParseOut s o ∧ m' = m := by
  refine ⟨by kernel_rfl, fun G B0 mF w cargs hD hR hL => ?_⟩
  obtain ⟨c1, r1, rfl, h1, hL⟩ := hL.cons_inv
  obtain ⟨c2, r2, rfl, h2, hL⟩ := hL.cons_inv
  obtain ⟨c3, r3, rfl, h3, hL⟩ := hL.cons_inv
  obtain rfl := hL.nil_inv
  cases h1
  cases h2
  cases h3
  have hsz : (⟨s.toArray⟩ : ByteArray).data.toList = s := by simp
  have hsz2 : (⟨s.toArray⟩ : ByteArray).size = s.length := by simp [ByteArray.size]
  unfold ParseOut
  cases hp : Lib.parseIntB 64 s with
  | ok n =>
    refine (Tryz.strconv_ParseInt_10_at64_ok ⟨s.toArray⟩ (by omega) n (by rw [hsz]; exact hp) w).mono ?_
    rintro e w' ⟨rfl, hw⟩
    have hB : Below w.heap.size w w' := by
      rcases hw with rfl | ⟨t, rfl⟩
      · exact Below.refl _ _
      · exact Lib.bytesWorld_below w 5 t
    exact ⟨G, m, .ret (.tup [it n, .val .nilIface]), Gh.le.refl G, hD, hR.below hB, hB.mono hR.base, .ret (.tup (.cons (.val rfl) (.cons (.val rfl) .nil))), rfl, rfl⟩
  | range =>
    obtain ⟨us, g1, g2⟩ := hR.glob 5 _ hr
    obtain ⟨u, ys, rfl, g3, g4⟩ := g1.cons_inv
    obtain rfl := g4.nil_inv
    have hcell := hR.K 5 0 u (g2.2 0 u rfl)
    cases g3 with
    | ifc g3 =>
      refine (Tryz.strconv_ParseInt_10_at64_range ⟨s.toArray⟩ (by omega) (by rw [hsz]; exact hp) _ w hcell (.inr ⟨_, _, rfl⟩)).mono ?_
      rintro e w' ⟨N, rfl, _, _, hB⟩
      exact ⟨G, m, .ret (.tup [it (Lib.intSat 64 (ByteArray.mk s.toArray).data.toList), .ifc 210 (.ptr N 0)]), Gh.le.refl G, hD, hR.below hB, hB.mono hR.base, .ret (.tup (.cons (.val rfl) (.cons (.ifc (.ptr _ _)) .nil))), ⟨_, _, _, rfl⟩, rfl⟩
  | _ =>
    obtain ⟨us, g1, g2⟩ := hR.glob 4 _ hsy
    obtain ⟨u, ys, rfl, g3, g4⟩ := g1.cons_inv
    obtain rfl := g4.nil_inv
    have hcell := hR.K 4 0 u (g2.2 0 u rfl)
    cases g3 with
    | ifc g3 =>
      refine (Tryz.strconv_ParseInt_10_at64_syntax ⟨s.toArray⟩ (by omega) (by rw [hsz]; exact hp) _ w hcell (.inr ⟨_, _, rfl⟩)).mono ?_
      rintro e w' ⟨N, rfl, _, _, hB⟩
      exact ⟨G, m, .ret (.tup [it 0, .ifc 210 (.ptr N 0)]), Gh.le.refl G, hD, hR.below hB, hB.mono hR.base, .ret (.tup (.cons (.val rfl) (.cons (.ifc (.ptr _ _)) .nil))), ⟨_, _, _, rfl⟩, rfl⟩
def FmtAt (Γ : Glob) (n : Int) : Prop := ∀ m, ACalls Tryz.prog Γ 129 [it n, it 10] m fun o m' => o = .ret (bs (Lib.itoa n)) ∧ m' = m
theorem itoa_nat (i : Nat) : Lib.itoa (i : Int) = Lib.decDigits i := by
  unfold Lib.itoa
  rw [if_neg (by omega), Int.toNat_natCast]
theorem fmt_small {Γ : Glob} (i : Nat) (hi : i < 100) : FmtAt Γ (i : Int) := fun m => by
  rw [itoa_nat]
  exact ACalls.of_vals (xs := [.int .i64 i, .int .i64 10]) (u := .string ⟨(Lib.decDigits i).toArray⟩) (by kernel_rfl) rfl (fun w => (Tryz.internal_strconv_FormatInt_10_small i hi w).mono (by
    rintro e w' ⟨rfl, rfl⟩
    exact ⟨rfl, Below.refl _ _⟩))
def powV : List V := Lib.pow10Tab.map fun z => .val (.int .u64 z)
theorem powV_inv {G : Gh} : ∀ {l : List Int} {us : List Value}, RelL G (l.map fun z => .val (.int .u64 z)) us → us = l.map fun z => Value.int .u64 z
  | [], us, h => h.nil_inv
  | z :: l, us, h => by
    obtain ⟨y, ys, rfl, r1, r2⟩ := h.cons_inv
    cases r1
    rw [powV_inv r2]
    rfl
theorem fmt_all {Γ : Glob} (hΓ : Γ 1 = some powV) {n : Int} (h0 : -9223372036854775808 ≤ n) (h1 : n ≤ 9223372036854775807) : FmtAt Γ n := by
  intro m
  refine ⟨by kernel_rfl, fun G B0 mF w cargs hD hR hL => ?_⟩
  have hc : cargs = [.int .i64 n, .int .i64 10] := RelL.vals_inv (xs := [.int .i64 n, .int .i64 10]) hL
  subst hc
  have h20 : powV.length = 20 := by simp [powV, Lib.pow10Tab]
  obtain ⟨_, us, T, fz, hb, hsz⟩ := hR.gsz _ _ hΓ h20
  obtain ⟨vs, g1, g2⟩ := hR.glob _ _ hΓ
  have hvs := powV_inv g1
  subst hvs
  have hus : us = (Lib.pow10Tab.map fun z => Value.int .u64 z).toArray := by
    apply Array.ext'
    apply List.ext_getElem?
    intro i
    by_cases hi : i < 20
    · have hlen : i < (Lib.pow10Tab.map fun z => Value.int IntKind.u64 z).length := by simp [Lib.pow10Tab]; omega
      have := g2.2 i _ (List.getElem?_eq_getElem hlen)
      have hc := hR.K _ _ _ this
      simp only [World.cell?, Nat.zero_add, hb, Option.isSome_none, Bool.false_eq_true, if_false] at hc
      rw [Array.getElem?_toList, hc, List.getElem?_eq_getElem hlen]
    · rw [List.getElem?_eq_none (by rw [Array.length_toList, hsz]; omega), List.getElem?_eq_none (by simp [Lib.pow10Tab]; omega)]
  have htab : Lib.TabIs Tryz.prog w "internal/strconv.uint64pow10" .u64 Lib.pow10Tab := by
    unfold Lib.TabIs World.var?
    rw [show Tryz.prog.globalNamed "internal/strconv.uint64pow10" = some 1 by kernel_rfl]
    simp only [Option.bind_some, hb, hus]
  refine (Tryz.internal_strconv_FormatInt_10 n h0 h1 w htab).mono ?_
  rintro e w' ⟨rfl, k, os, rfl⟩
  have hB : Below w.heap.size w (Sort.grow (w.drewN k) os) := Lib.below_grow _ _ (Nat.le_refl _) _ _
  exact ⟨G, m, .ret (bs (Lib.itoa n)), Gh.le.refl G, hD, hR.below hB, hB.mono hR.base, .ret (.val rfl), rfl, rfl⟩
theorem fmt_pub {Γ : Glob} {m : Store} {n : Int} (h : FmtAt Γ n) : ACalls Tryz.prog Γ 126 [it n, it 10] m fun o m' => o = .ret (bs (Lib.itoa n)) ∧ m' = m := by
  refine acalls_of_awp mixed F126_ok (by rintro v m b x _ ⟨⟨⟩, _⟩) ?_
  simp only [F126, start, List.cons_append, List.nil_append, List.length_cons, List.length_nil, List.replicate, Nat.reduceSub, Nat.reduceAdd]
  simp only [ssS, bin_or, bin_and, Nat.reduceAdd, Nat.reduceLeDiff, reduceIte, eq_self, Nat.reduceEqDiff]
  refine callS_pure (h _) ?_
  simp only [ssS, bin_or, bin_and, Nat.reduceAdd, Nat.reduceLeDiff, reduceIte, eq_self, Nat.reduceEqDiff]
  exact bodyA_ret resV_one ⟨rfl, rfl⟩
theorem itoa_ok {Γ : Glob} {m : Store} {n : Int} (h : FmtAt Γ n) : ACalls Tryz.prog Γ 62 [it n] m fun o m' => o = .ret (bs (Lib.itoa n)) ∧ m' = m := by
  refine acalls_of_awp mixed F62_ok (by rintro v m b x _ ⟨⟨⟩, _⟩) ?_
  simp only [F62, start, List.cons_append, List.nil_append, List.length_cons, List.length_nil, List.replicate, Nat.reduceSub, Nat.reduceAdd]
  simp only [ssS, bin_or, bin_and, Nat.reduceAdd, Nat.reduceLeDiff, reduceIte, eq_self, Nat.reduceEqDiff]
  refine callS_pure (v := bs (Lib.itoa n)) ?_ ?_
  · refine acalls_of_awp mixed F104_ok (by rintro v m b x _ ⟨⟨⟩, _⟩) ?_
    simp only [F104, start, List.cons_append, List.nil_append, List.length_cons, List.length_nil, List.replicate, Nat.reduceSub, Nat.reduceAdd]
    simp only [ssS, bin_or, bin_and, Nat.reduceAdd, Nat.reduceLeDiff, reduceIte, eq_self, Nat.reduceEqDiff]
    refine callS_pure (h _) ?_
    simp only [ssS, bin_or, bin_and, Nat.reduceAdd, Nat.reduceLeDiff, reduceIte, eq_self, Nat.reduceEqDiff]
    exact bodyA_ret resV_one ⟨rfl, rfl⟩
  · simp only [ssS, bin_or, bin_and, Nat.reduceAdd, Nat.reduceLeDiff, reduceIte, eq_self, Nat.reduceEqDiff]
    exact bodyA_ret resV_one ⟨rfl, rfl⟩
/-! ### Cut at a blank -/
def cutB (s : List UInt8) : List UInt8 × List UInt8 × Bool := match s.findIdx? (· == 32) with
  | some i => (s.take i, s.drop (i + 1), true)
  | none => (s, [], false)
section
variable {Γ : Glob} {m : Store}
theorem lIndexByte_ok (s : List UInt8) (c : UInt8) : ACalls Tryz.prog Γ 137 [bs s, by8 c] m fun o m' => o = .ret (it (idxB s c)) ∧ m' = m :=
  ACalls.of_vals (xs := [.string ⟨s.toArray⟩, .int .u8 c.toNat]) (u := .int .i64 (idxB s c)) (by kernel_rfl) rfl (fun w => (Tryz.stringslite_IndexByte ⟨s.toArray⟩ c.toNat w).mono (by
    rintro e w' ⟨rfl, rfl⟩
    refine ⟨?_, Below.refl _ _⟩
    have e1 : (c.toNat : Int).toNat.toUInt8 = c := by simp
    rw [e1, ← idxB_eq]))
theorem c1 : ((1 : Nat) : Int) = 1 := rfl
theorem c3 : ((3 : Nat) : Int) = 3 := rfl
theorem at32 : idxStrV (bs [32]) (.val (.int .i64 0)) = some (by8 32) := rfl
theorem lIndex_ok (s : List UInt8) : ACalls Tryz.prog Γ 124 [bs s, bs [32]] m fun o m' => o = .ret (it (idxB s 32)) ∧ m' = m := by
  refine acalls_of_awp mixed F124_ok (by rintro v m b x _ ⟨⟨⟩, _⟩) ?_
  simp only [F124, start, List.cons_append, List.nil_append, List.length_cons, List.length_nil, List.replicate, Nat.reduceSub, Nat.reduceAdd]
  simp only [c1, show ((1 : Int) == 0) = false from rfl, ssS, bin_or, bin_and, Nat.reduceAdd, Nat.reduceLeDiff, reduceIte, eq_self, Nat.reduceEqDiff]
  cases h : (([32] : List UInt8) == s)
  · simp only [c1, at32, show ((1 : Int) == 1) = true from rfl, show ((1 : Int) == 0) = false from rfl, h, ssS, bin_or, bin_and, Nat.reduceAdd, Nat.reduceLeDiff, reduceIte, eq_self, Nat.reduceEqDiff]
    refine callS_pure (lIndexByte_ok s 32) ?_
    simp only [ssS, bin_or, bin_and, Nat.reduceAdd, Nat.reduceLeDiff, reduceIte, eq_self, Nat.reduceEqDiff]
    exact bodyA_ret resV_one ⟨rfl, rfl⟩
  · simp only [c1, show ((1 : Int) == 0) = false from rfl, h, ssS, bin_or, bin_and, Nat.reduceAdd, Nat.reduceLeDiff, reduceIte, eq_self, Nat.reduceEqDiff]
    refine bodyA_ret resV_one ⟨?_, rfl⟩
    rw [← eq_of_beq h]
    rfl
theorem lCut_ok (s : List UInt8) (hs : s.length ≤ 281474976710656) : ACalls Tryz.prog Γ 99 [bs s, bs [32]] m fun o m' => o = .ret (.tup [bs (cutB s).1, bs (cutB s).2.1, .val (.bool (cutB s).2.2)]) ∧ m' = m := by
  refine acalls_of_awp mixed F99_ok (by rintro v m b x _ ⟨⟨⟩, _⟩) ?_
  simp only [F99, start, List.cons_append, List.nil_append, List.length_cons, List.length_nil, List.replicate, Nat.reduceSub, Nat.reduceAdd]
  simp only [ssS, bin_or, bin_and, Nat.reduceAdd, Nat.reduceLeDiff, reduceIte, eq_self, Nat.reduceEqDiff]
  refine callS_pure (lIndex_ok s) ?_
  unfold idxB cutB
  cases h : s.findIdx? (· == 32) with
  | none =>
    simp only [show decide ((-1 : Int) ≥ 0) = false from rfl, ssS, bin_or, bin_and, Nat.reduceAdd, Nat.reduceLeDiff, reduceIte, eq_self, Nat.reduceEqDiff]
    exact bodyA_ret resV_three ⟨rfl, rfl⟩
  | some i =>
    have hi : i < s.length := by
      obtain ⟨hi, _⟩ := List.findIdx?_eq_some_iff_getElem.1 h
      exact hi
    have hd : decide ((i : Int) ≥ 0) = true := decide_eq_true (by omega)
    simp only [hd, c1, next_i64 (show i < 4611686018427387904 by omega), slice_upto (show i ≤ s.length by omega), slice_from (show i + 1 ≤ s.length by omega), ssS, bin_or, bin_and, Nat.reduceAdd, Nat.reduceLeDiff, reduceIte, eq_self, Nat.reduceEqDiff]
    exact bodyA_ret resV_three ⟨rfl, rfl⟩
theorem cut_ok (s : List UInt8) (hs : s.length ≤ 281474976710656) : ACalls Tryz.prog Γ 55 [bs s, bs [32]] m fun o m' => o = .ret (.tup [bs (cutB s).1, bs (cutB s).2.1, .val (.bool (cutB s).2.2)]) ∧ m' = m := by
  refine acalls_of_awp mixed F55_ok (by rintro v m b x _ ⟨⟨⟩, _⟩) ?_
  simp only [F55, start, List.cons_append, List.nil_append, List.length_cons, List.length_nil, List.replicate, Nat.reduceSub, Nat.reduceAdd]
  simp only [ssS, bin_or, bin_and, Nat.reduceAdd, Nat.reduceLeDiff, reduceIte, eq_self, Nat.reduceEqDiff]
  refine callS_pure (lCut_ok s hs) ?_
  simp only [ssS, bin_or, bin_and, Nat.reduceAdd, Nat.reduceLeDiff, reduceIte, eq_self, Nat.reduceEqDiff]
  exact bodyA_ret resV_three ⟨rfl, rfl⟩
def cutIf (s : List UInt8) : List UInt8 × Bool := if [105, 102, 32].isPrefixOf s = true then (s.drop 3, true) else (s, false)
theorem len_if : lenV true (bs [105, 102, 32]) = some (it (3 : Nat)) := rfl
theorem cutIf_ok (s : List UInt8) : ACalls Tryz.prog Γ 102 [bs s, bs [105, 102, 32]] m fun o m' => o = .ret (.tup [bs (cutIf s).1, .val (.bool (cutIf s).2)]) ∧ m' = m := by
  refine acalls_of_awp mixed F102_ok (by rintro v m b x _ ⟨⟨⟩, _⟩) ?_
  simp only [F102, start, List.cons_append, List.nil_append, List.length_cons, List.length_nil, List.replicate, Nat.reduceSub, Nat.reduceAdd]
  simp only [ssS, bin_or, bin_and, Nat.reduceAdd, Nat.reduceLeDiff, reduceIte, eq_self, Nat.reduceEqDiff]
  refine callS_pure (v := .tup [bs (cutIf s).1, .val (.bool (cutIf s).2)]) ?_ ?_
  · refine acalls_of_awp mixed F127_ok (by rintro v m b x _ ⟨⟨⟩, _⟩) ?_
    simp only [F127, start, List.cons_append, List.nil_append, List.length_cons, List.length_nil, List.replicate, Nat.reduceSub, Nat.reduceAdd]
    simp only [ssS, bin_or, bin_and, Nat.reduceAdd, Nat.reduceLeDiff, reduceIte, eq_self, Nat.reduceEqDiff]
    refine callS_pure (hasPrefix_ok s _) ?_
    unfold cutIf
    cases h : ([105, 102, 32] : List UInt8).isPrefixOf s
    · simp only [Bool.not_false, ssS, bin_or, bin_and, Nat.reduceAdd, Nat.reduceLeDiff, reduceIte, eq_self, Nat.reduceEqDiff]
      exact bodyA_ret resV_two ⟨rfl, rfl⟩
    · have := pre_len h
      simp only [Bool.not_true, len_if, slice_from (show 3 ≤ s.length from this), ssS, bin_or, bin_and, Nat.reduceAdd, Nat.reduceLeDiff, reduceIte, eq_self, Nat.reduceEqDiff]
      exact bodyA_ret resV_two ⟨rfl, rfl⟩
  · simp only [ssS, bin_or, bin_and, Nat.reduceAdd, Nat.reduceLeDiff, reduceIte, eq_self, Nat.reduceEqDiff]
    exact bodyA_ret resV_two ⟨rfl, rfl⟩
end
end Go.Av.Fn
/- A command's text read, and written: what the program tells. Conditions: the library's functions; numbers are written (FmtAt) where they are. -/
namespace Go.Av.Fn
set_option linter.unusedSimpArgs false
set_option linter.unusedVariables false
set_option maxRecDepth 10000
open Go.Proofs
structure Env2 (Γ : Glob) : Prop where
  env : Env Γ
  range : ∃ T v, Γ 5 = some [.ifc T v]
  syn : ∃ T v, Γ 4 = some [.ifc T v]
def numB (s : List UInt8) : Int × List UInt8 × Bool := match Lib.parseIntB 64 (cutB s).1 with
  | .ok n => if (Lib.itoa n == (cutB s).1) = true then (n, (cutB s).2.1, (cutB s).2.2) else (-1, [], false)
  | _ => (-1, [], false)
def FmtNum (Γ : Glob) (s : List UInt8) : Prop := ∀ n, Lib.parseIntB 64 (cutB s).1 = .ok n → FmtAt Γ n
def behB (f : Form) (rest : List UInt8) (no : Bool) : Int × List UInt8 × Bool :=
  if (no || (!f.n && !f.s)) = true then (0, [], no && !f.n && !f.s)
  else if f.n = false then (0, rest, true)
  else if (numB rest).2.2 = false then ((numB rest).1, [], decide ((numB rest).1 ≥ 0))
  else ((numB rest).1, (cutIf (numB rest).2.1).1, (cutIf (numB rest).2.1).2 && f.s && !((cutIf (numB rest).2.1).1 == []))
def tryK (s : List UInt8) (k : Nat) : Option (Int × Int × List UInt8) :=
  if ((formOf k).w == (cutB s).1) = true then
    (if ((behB (formOf k) (cutB s).2.1 (!(cutB s).2.2)).2.2 && rightB k (behB (formOf k) (cutB s).2.1 (!(cutB s).2.2)).1 (behB (formOf k) (cutB s).2.1 (!(cutB s).2.2)).2.1) = true
      then some (k, (behB (formOf k) (cutB s).2.1 (!(cutB s).2.2)).1, (behB (formOf k) (cutB s).2.1 (!(cutB s).2.2)).2.1) else none)
  else none
def tryFrom (s : List UInt8) : Nat → Nat → Option (Int × Int × List UInt8)
  | 0, _ => none
  | n + 1, k => match tryK s k with
    | some x => some x
    | none => tryFrom s n (k + 1)
def parseC (s : List UInt8) : Option (Int × Int × List UInt8) := tryFrom s 17 1
def parseV (s : List UInt8) : V := match parseC s with
  | some (k, n, t) => .tup [cmdV k n t, it 0]
  | none => .tup [cmdV 0 0 [], it 6]
theorem cutB_len (s : List UInt8) : (cutB s).1.length ≤ s.length ∧ (cutB s).2.1.length ≤ s.length := by
  unfold cutB
  split
  · simp; omega
  · simp
theorem ifc_nil {T : TypeId} {u : V} {xo yo : Operand} : binV Tryz.prog .neq 163 .iface xo yo (.ifc T u) (.val .nilIface) = some (.val (.bool true)) := rfl
theorem nil_nil : binV Tryz.prog .neq 163 .iface (.tmp 21) (.const .nilIface) (.val .nilIface) (.val .nilIface) = some (.val (.bool false)) := by kernel_rfl
section
variable {Γ : Glob} {m : Store}
theorem number_ok2 (E : Env2 Γ) (s : List UInt8) (hs : s.length ≤ 281474976710656) (hf : FmtNum Γ s) : ACalls Tryz.prog Γ 100 [bs s] m fun o m' => o = .ret (.tup [it (numB s).1, bs (numB s).2.1, .val (.bool (numB s).2.2)]) ∧ m' = m := by
  obtain ⟨T, v, hr⟩ := E.range
  obtain ⟨T', v', hsy⟩ := E.syn
  refine acalls_of_awp mixed F100_ok (by rintro v m b x _ ⟨⟨⟩, _⟩) ?_
  simp only [F100, start, List.cons_append, List.nil_append, List.length_cons, List.length_nil, List.replicate, Nat.reduceSub, Nat.reduceAdd]
  simp only [ssS, bin_or, bin_and, Nat.reduceAdd, Nat.reduceLeDiff, reduceIte, eq_self, Nat.reduceEqDiff]
  refine callS_pure (cut_ok s hs) ?_
  simp only [ssS, bin_or, bin_and, Nat.reduceAdd, Nat.reduceLeDiff, reduceIte, eq_self, Nat.reduceEqDiff]
  refine callS_of (parse_any hr hsy _ (cutB s).1 (by have := cutB_len s; omega)) ?_ (by
    rintro v m' ⟨h, _⟩
    unfold ParseOut at h
    split at h
    · cases h
    · obtain ⟨_, _, _, ⟨⟩⟩ := h)
  rintro v m' ⟨h, rfl⟩
  unfold ParseOut at h
  unfold numB
  cases hp : Lib.parseIntB 64 (cutB s).1 with
  | ok n =>
    rw [hp] at h
    cases h
    simp only [nil_nil, ssS, bin_or, bin_and, Nat.reduceAdd, Nat.reduceLeDiff, reduceIte, eq_self, Nat.reduceEqDiff]
    refine callS_pure (fmt_pub (hf n hp)) ?_
    cases he : (Lib.itoa n == (cutB s).1)
    · simp only [he, Bool.not_false, ssS, bin_or, bin_and, Nat.reduceAdd, Nat.reduceLeDiff, reduceIte, eq_self, Nat.reduceEqDiff]
      exact bodyA_ret resV_three ⟨rfl, rfl⟩
    · simp only [he, Bool.not_true, ssS, bin_or, bin_and, Nat.reduceAdd, Nat.reduceLeDiff, reduceIte, eq_self, Nat.reduceEqDiff]
      exact bodyA_ret resV_three ⟨rfl, rfl⟩
  | range =>
    rw [hp] at h
    obtain ⟨n, T, u, h⟩ := h
    cases h
    simp only [ifc_nil, ssS, bin_or, bin_and, Nat.reduceAdd, Nat.reduceLeDiff, reduceIte, eq_self, Nat.reduceEqDiff]
    exact bodyA_ret resV_three ⟨rfl, rfl⟩
  | _ =>
    rw [hp] at h
    obtain ⟨n, T, u, h⟩ := h
    cases h
    simp only [ifc_nil, ssS, bin_or, bin_and, Nat.reduceAdd, Nat.reduceLeDiff, reduceIte, eq_self, Nat.reduceEqDiff]
    exact bodyA_ret resV_three ⟨rfl, rfl⟩
theorem behind1_ok (s : List UInt8) : ACalls Tryz.prog Γ 101 [bs s] m fun o m' => o = .ret (.tup [bs (cutIf s).1, .val (.bool (cutIf s).2)]) ∧ m' = m := by
  refine acalls_of_awp mixed F101_ok (by rintro v m b x _ ⟨⟨⟩, _⟩) ?_
  simp only [F101, start, List.cons_append, List.nil_append, List.length_cons, List.length_nil, List.replicate, Nat.reduceSub, Nat.reduceAdd]
  simp only [ssS, bin_or, bin_and, Nat.reduceAdd, Nat.reduceLeDiff, reduceIte, eq_self, Nat.reduceEqDiff]
  refine callS_pure (cutIf_ok s) ?_
  simp only [ssS, bin_or, bin_and, Nat.reduceAdd, Nat.reduceLeDiff, reduceIte, eq_self, Nat.reduceEqDiff]
  exact bodyA_ret resV_two ⟨rfl, rfl⟩
theorem behind_ok (E : Env2 Γ) (f : Form) (s : List UInt8) (no : Bool) (hs : s.length ≤ 281474976710656) (hf : f.n = true → no = false → FmtNum Γ s) :
    ACalls Tryz.prog Γ 57 [formV f, bs s, .val (.bool no)] m fun o m' => o = .ret (.tup [it (behB f s no).1, bs (behB f s no).2.1, .val (.bool (behB f s no).2.2)]) ∧ m' = m := by
  obtain ⟨w, le, fn, fs⟩ := f
  refine ACalls.less (A := fun o m' => o = .ret (.tup [it (behB ⟨w, le, fn, fs⟩ s no).1, bs (behB ⟨w, le, fn, fs⟩ s no).2.1, .val (.bool (behB ⟨w, le, fn, fs⟩ s no).2.2)]) ∧ SubS m m') ?_ fun o m' h => ⟨m, h.2, h.1, rfl⟩
  refine acalls_of_awp mixed F57_ok (by rintro v m b x _ ⟨⟨⟩, _⟩) ?_
  simp only [F57, formV, start, List.cons_append, List.nil_append, List.length_cons, List.length_nil, List.replicate, Nat.reduceSub, Nat.reduceAdd]
  simp only [ssS, bin_or, bin_and, Nat.reduceAdd, Nat.reduceLeDiff, reduceIte, eq_self, Nat.reduceEqDiff]
  refine allocS_of fun b hb => ?_
  have hS : ∀ x, SubS m (m.set b x) := fun x => (SubS.refl m).out hb x
  cases no
  case true =>
    cases fn
    · cases fs
      · simp only [Store.set_same, Bool.not_false, Bool.not_true, ssS, bin_or, bin_and, Nat.reduceAdd, Nat.reduceLeDiff, reduceIte, eq_self, Nat.reduceEqDiff]
        exact bodyA_ret resV_three ⟨rfl, hS _⟩
      · simp only [Store.set_same, Bool.not_false, Bool.not_true, ssS, bin_or, bin_and, Nat.reduceAdd, Nat.reduceLeDiff, reduceIte, eq_self, Nat.reduceEqDiff]
        exact bodyA_ret resV_three ⟨rfl, hS _⟩
    · simp only [Store.set_same, Bool.not_false, Bool.not_true, ssS, bin_or, bin_and, Nat.reduceAdd, Nat.reduceLeDiff, reduceIte, eq_self, Nat.reduceEqDiff]
      exact bodyA_ret resV_three ⟨rfl, hS _⟩
  case false =>
    cases fn
    case false =>
      cases fs
      · simp only [Store.set_same, Bool.not_false, Bool.not_true, ssS, bin_or, bin_and, Nat.reduceAdd, Nat.reduceLeDiff, reduceIte, eq_self, Nat.reduceEqDiff]
        exact bodyA_ret resV_three ⟨rfl, hS _⟩
      · simp only [Store.set_same, Bool.not_false, Bool.not_true, ssS, bin_or, bin_and, Nat.reduceAdd, Nat.reduceLeDiff, reduceIte, eq_self, Nat.reduceEqDiff]
        exact bodyA_ret resV_three ⟨rfl, hS _⟩
    case true =>
      simp only [Store.set_same, Bool.not_false, Bool.not_true, ssS, bin_or, bin_and, Nat.reduceAdd, Nat.reduceLeDiff, reduceIte, eq_self, Nat.reduceEqDiff]
      refine callS_pure (number_ok2 E s hs (hf rfl rfl)) ?_
      have hb1 : behB ⟨w, le, true, fs⟩ s false = if (numB s).2.2 = false then ((numB s).1, [], decide ((numB s).1 ≥ 0)) else ((numB s).1, (cutIf (numB s).2.1).1, (cutIf (numB s).2.1).2 && fs && !((cutIf (numB s).2.1).1 == [])) := by
        unfold behB
        rfl
      rw [hb1]
      cases hm : (numB s).2.2
      · simp only [hm, Bool.not_false, ssS, bin_or, bin_and, Nat.reduceAdd, Nat.reduceLeDiff, reduceIte, eq_self, Nat.reduceEqDiff]
        exact bodyA_ret resV_three ⟨rfl, hS _⟩
      · simp only [hm, Bool.not_true, ssS, bin_or, bin_and, Nat.reduceAdd, Nat.reduceLeDiff, reduceIte, eq_self, Nat.reduceEqDiff]
        refine callS_pure (behind1_ok _) ?_
        simp only [Store.set_same, ssS, bin_or, bin_and, Nat.reduceAdd, Nat.reduceLeDiff, reduceIte, eq_self, Nat.reduceEqDiff]
        cases h1 : (cutIf (numB s).2.1).2
        · simp only [h1, Store.set_same, ssS, bin_or, bin_and, Nat.reduceAdd, Nat.reduceLeDiff, reduceIte, eq_self, Nat.reduceEqDiff]
          refine bodyA_ret resV_three ⟨?_, hS _⟩
          simp only [tget_zero, tget_succ]
          rfl
        · cases fs
          · simp only [h1, Store.set_same, ssS, bin_or, bin_and, Nat.reduceAdd, Nat.reduceLeDiff, reduceIte, eq_self, Nat.reduceEqDiff]
            refine bodyA_ret resV_three ⟨?_, hS _⟩
            simp only [tget_zero, tget_succ]
            rfl
          · simp only [h1, Store.set_same, ssS, bin_or, bin_and, Nat.reduceAdd, Nat.reduceLeDiff, reduceIte, eq_self, Nat.reduceEqDiff]
            refine bodyA_ret resV_three ⟨?_, hS _⟩
            simp only [tget_zero, tget_succ]
            rfl
end
end Go.Av.Fn
/- A command's text read: all of it. Conditions as ahead. -/
namespace Go.Av
theorem resV_cut {x y : Nat} {b o : Nat} {T : TypeId} {sz : Option Nat} {cs : List V} {u : V} {t : List V} {m : Store} (h1 : tget t x = .ptr b o) (h2 : m b = some (.var T cs)) (h3 : partV cs o sz = some u) : resV [.cell x sz, .tmp y] ⟨t, m⟩ = some (.tup [u, tget t y]) := by
  simp only [resV, resAll, resOne, tget_eq, h1, h2, h3, Option.map_some]
end Go.Av
namespace Go.Av.Fn
set_option linter.unusedSimpArgs false
set_option linter.unusedVariables false
set_option maxRecDepth 10000
open Go.Proofs
section
variable {Γ : Glob} {m : Store}
theorem parse_ok (E : Env2 Γ) (s : List UInt8) (hs : s.length ≤ 281474976710656) (hf : (cutB s).2.2 = true → FmtNum Γ (cutB s).2.1) : ACalls Tryz.prog Γ 15 [bs s] m fun o m' => o = .ret (parseV s) ∧ m' = m := by
  refine ACalls.less (A := fun o m' => o = .ret (parseV s) ∧ SubS m m') ?_ fun o m' h => ⟨m, h.2, h.1, rfl⟩
  refine acalls_of_awp mixed F15_ok (by rintro v m b x _ ⟨⟨⟩, _⟩) ?_
  simp only [F15, start, List.cons_append, List.nil_append, List.length_cons, List.length_nil, List.replicate, Nat.reduceSub, Nat.reduceAdd]
  simp only [ssS, bin_or, bin_and, Nat.reduceAdd, Nat.reduceLeDiff, reduceIte, eq_self, Nat.reduceEqDiff]
  refine allocS_of fun b2 hb2 => ?_
  simp only [ssS, bin_or, bin_and, Nat.reduceAdd, Nat.reduceLeDiff, reduceIte, eq_self, Nat.reduceEqDiff]
  refine callS_pure (cut_ok s hs) ?_
  simp only [ssS, bin_or, bin_and, Nat.reduceAdd, Nat.reduceLeDiff, reduceIte, eq_self, Nat.reduceEqDiff]
  obtain ⟨w, rest, more, hc⟩ : ∃ w rest more, cutB s = (w, rest, more) := ⟨_, _, _, rfl⟩
  have hlen := (cutB_len s).2
  rw [hc] at hf hlen
  simp only [hc]
  refine awp_loop' (fun j st => ∃ k : Nat, j = 18 - k ∧ 1 ≤ k ∧ k ≤ 18 ∧ tryFrom s (18 - k) k = parseC s ∧ SubS m st.m ∧ st.m b2 = some (.var 24 [it 0, it 0, bs []]) ∧ st.t.length = 49 ∧ tget st.t 2 = .ptr b2 0 ∧ tget st.t 4 = bs w ∧ tget st.t 5 = bs rest ∧ tget st.t 6 = .val (.bool more) ∧ tget st.t 7 = it k)
    17 ⟨1, rfl, by omega, by omega, rfl, (SubS.refl m).out hb2 _, Store.set_same _ _ _, rfl, rfl, rfl, rfl, rfl, rfl⟩ ?_
  rintro j ⟨t, S⟩ J hJ ⟨k, hj, hk1, hk2, htry, hS, s2, hlen2, t2, t4, t5, t6, t7⟩
  simp only at hS s2 hlen2 t2 t4 t5 t6 t7
  rw [t_eq hlen2]
  simp only [upTo_succ, upTo_zero, Nat.reduceAdd, t2, t4, t5, t6, t7]
  simp only [ssS, bin_or, bin_and, Nat.reduceAdd, Nat.reduceLeDiff, reduceIte, eq_self, Nat.reduceEqDiff]
  refine condS_split (fun h => ?_) (fun h => ?_)
  · have hk : k ≤ 17 := by have := of_decide_eq_true h; omega
    obtain ⟨r, hr⟩ : ∃ r, 18 - k = r + 1 := ⟨17 - k, by omega⟩
    rw [hr] at htry
    simp only [tryFrom] at htry
    have hnext : tryK s k = none → tryFrom s (18 - (k + 1)) (k + 1) = parseC s := by
      intro h0
      rw [h0] at htry
      rw [← htry]
      congr 1
      omega
    simp only [ssS, bin_or, bin_and, Nat.reduceAdd, Nat.reduceLeDiff, reduceIte, eq_self, Nat.reduceEqDiff]
    refine callS_pure (of_ok (k : Int)) ?_
    obtain ⟨fw, le, fn, fs, hff⟩ : ∃ fw le fn fs, formOf (k : Int) = ⟨fw, le, fn, fs⟩ := ⟨_, _, _, _, rfl⟩
    simp only [hff, formV, ssS, bin_or, bin_and, Nat.reduceAdd, Nat.reduceLeDiff, reduceIte, eq_self, Nat.reduceEqDiff]
    refine allocS_of fun b8 hb8 => ?_
    have h28 : b2 ≠ b8 := ne_of_some s2 hb8
    have hS8 : ∀ x, SubS m (S.set b8 x) := fun x => hS.out (hS.none hb8) x
    simp only [Store.set_same, Store.set_set, ssS, bin_or, bin_and, Nat.reduceAdd, Nat.reduceLeDiff, reduceIte, eq_self, Nat.reduceEqDiff]
    cases hw : (fw == w)
    · have htk : tryK s k = none := by
        unfold tryK
        rw [hff, hc]
        simp only [hw, Bool.false_eq_true, if_false]
      simp only [hw, Bool.not_false, next_i64 (show k < 4611686018427387904 by omega), ssS, bin_or, bin_and, Nat.reduceAdd, Nat.reduceLeDiff, reduceIte, eq_self, Nat.reduceEqDiff]
      exact hJ (18 - (k + 1)) _ (by omega) ⟨k + 1, rfl, by omega, by omega, hnext htk, hS8 _, by show (Store.set _ _ _) _ = _; rw [Store.set_ne _ _ h28]; exact s2, rfl, rfl, rfl, rfl, rfl, rfl⟩
    · simp only [hw, Bool.not_true, Store.set_same, ssS, bin_or, bin_and, Nat.reduceAdd, Nat.reduceLeDiff, reduceIte, eq_self, Nat.reduceEqDiff]
      have hfn : fn = true → (!more) = false → FmtNum Γ rest := fun _ h => hf (by simpa using h)
      refine callS_pure (behind_ok E ⟨fw, le, fn, fs⟩ rest (!more) (by simp only at hlen; omega) hfn) ?_
      obtain ⟨n, tx, ok, hbh⟩ : ∃ n tx ok, behB ⟨fw, le, fn, fs⟩ rest (!more) = (n, tx, ok) := ⟨_, _, _, rfl⟩
      have htk : tryK s k = if (ok && rightB k n tx) = true then some ((k : Int), n, tx) else none := by
        unfold tryK
        rw [hff, hc]
        simp only [hw, if_true, hbh]
      simp only [hbh, ssS, bin_or, bin_and, Nat.reduceAdd, Nat.reduceLeDiff, reduceIte, eq_self, Nat.reduceEqDiff]
      refine allocS_of fun b12 hb12 => ?_
      have h212 : b2 ≠ b12 := ne_of_some (by rw [Store.set_ne _ _ h28]; exact s2) hb12
      have hS12 : ∀ x y, SubS m ((S.set b8 x).set b12 y) := fun x y => (hS8 x).out (by
        refine (hS8 (.var 100 [bs fw, it le, .val (.bool fn), .val (.bool fs)])).none hb12) y
      simp only [Store.set_same, Store.set_set, ssS, bin_or, bin_and, Nat.reduceAdd, Nat.reduceLeDiff, reduceIte, eq_self, Nat.reduceEqDiff]
      cases ok
      · simp only [Bool.false_and, Bool.false_eq_true, if_false] at htk
        simp only [next_i64 (show k < 4611686018427387904 by omega), ssS, bin_or, bin_and, Nat.reduceAdd, Nat.reduceLeDiff, reduceIte, eq_self, Nat.reduceEqDiff]
        exact hJ (18 - (k + 1)) _ (by omega) ⟨k + 1, rfl, by omega, by omega, hnext htk, hS12 _ _, by show (Store.set _ _ _) _ = _; rw [Store.set_ne _ _ h212, Store.set_ne _ _ h28]; exact s2, rfl, rfl, rfl, rfl, rfl, rfl⟩
      · simp only [Bool.true_and] at htk
        simp only [Store.set_same, ssS, bin_or, bin_and, Nat.reduceAdd, Nat.reduceLeDiff, reduceIte, eq_self, Nat.reduceEqDiff]
        refine callS_pure (right_ok E.env k n tx) ?_
        cases hrt : rightB k n tx
        · simp only [hrt, Bool.false_eq_true, if_false] at htk
          simp only [next_i64 (show k < 4611686018427387904 by omega), ssS, bin_or, bin_and, Nat.reduceAdd, Nat.reduceLeDiff, reduceIte, eq_self, Nat.reduceEqDiff]
          exact hJ (18 - (k + 1)) _ (by omega) ⟨k + 1, rfl, by omega, by omega, hnext htk, hS12 _ _, by show (Store.set _ _ _) _ = _; rw [Store.set_ne _ _ h212, Store.set_ne _ _ h28]; exact s2, rfl, rfl, rfl, rfl, rfl, rfl⟩
        · simp only [hrt, if_true] at htk
          rw [htk] at htry
          simp only at htry
          have hpv : parseV s = .tup [cmdV k n tx, it 0] := by
            unfold parseV
            rw [← htry]
          simp only [Store.set_same, Store.set_ne _ _ h212, Store.set_ne _ _ h28, s2, ssS, bin_or, bin_and, Nat.reduceAdd, Nat.reduceLeDiff, reduceIte, eq_self, Nat.reduceEqDiff]
          refine bodyA_ret (resV_cut (u := cmdV k n tx) (b := b2) (o := 0) rfl (Store.set_same _ _ _) rfl) ⟨by rw [hpv]; rfl, ?_⟩
          exact (hS12 _ _).out hb2 _
  · have hk : k = 18 := by have := of_decide_eq_false h; omega
    subst hk
    have hpv : parseV s = .tup [cmdV 0 0 [], it 6] := by
      unfold parseV
      rw [← htry]
      rfl
    simp only [s2, ssS, bin_or, bin_and, Nat.reduceAdd, Nat.reduceLeDiff, reduceIte, eq_self, Nat.reduceEqDiff]
    refine bodyA_ret (resV_cut (u := cmdV 0 0 []) (b := b2) (o := 0) rfl (Store.set_same _ _ _) rfl) ⟨by rw [hpv]; rfl, ?_⟩
    exact hS.out hb2 _
end
end Go.Av.Fn
/- A command's text written; the document's examples. Conditions as ahead. -/
namespace Go.Av.Fn
set_option linter.unusedSimpArgs false
set_option linter.unusedVariables false
set_option maxRecDepth 100000
open Go.Proofs
def printB (k n : Int) (s : List UInt8) : List UInt8 :=
  let f := formOf k
  let w := if f.n then f.w ++ (32 :: Lib.itoa n) else f.w
  if (f.n && !(s == [])) = true then w ++ ([32, 105, 102, 32] ++ s) else if (f.s && !f.n) = true then w ++ (32 :: s) else w
theorem right_len {k n : Int} {s : List UInt8} (h : rightB k n s = true) : s.length ≤ 255 ∧ 0 ≤ n ∧ n ≤ 4294967296 := by
  unfold rightB at h
  split at h
  · cases h
  · rename_i h1
    simp only [Bool.or_eq_true, not_or, Bool.and_eq_true, Bool.not_eq_true', decide_eq_true_eq] at h1
    obtain ⟨⟨⟨⟨h1, h2⟩, h3⟩, h4⟩, h5⟩ := h1
    have hl : 0 ≤ (formOf k).least := by
      have hall : ∀ f ∈ forms, 0 ≤ f.least := by decide
      unfold formOf
      split
      · decide
      · cases hg : forms[k.toNat]? with
        | none => decide
        | some f => exact hall f (List.mem_of_getElem? hg)
    refine ⟨?_, by omega, by omega⟩
    split at h
    · rename_i h6
      simp only [Bool.or_eq_true, Bool.and_eq_true, Bool.not_eq_true'] at h6
      rcases h6 with h6 | ⟨_, h6⟩
      · have : s = [] := by
          cases hs : (s == []) with
          | true => exact eq_of_beq hs
          | false => exact absurd ⟨h6, hs⟩ h3
        subst this
        simp
      · rw [eq_of_beq h6]
        simp
    · unfold writtenB at h
      simp only [Bool.and_eq_true, decide_eq_true_eq] at h
      exact h.2
theorem form_w (k : Int) : (formOf k).w.length ≤ 13 := by
  have hall : ∀ f ∈ forms, f.w.length ≤ 13 := by decide
  unfold formOf
  split
  · decide
  · cases hg : forms[k.toNat]? with
    | none => decide
    | some f => exact hall f (List.mem_of_getElem? hg)
theorem decDigits_len : ∀ (u : Nat), (Lib.decDigits u).length ≤ u + 1 := by
  intro u
  induction u using Nat.strongRecOn with
  | ind u ih =>
    rw [Lib.decDigits]
    split
    · simp
    · rw [List.length_append]
      have := ih (u / 10) (by omega)
      simp
      omega
theorem itoa_len {n : Int} (h0 : 0 ≤ n) (h1 : n ≤ 4294967296) : (Lib.itoa n).length ≤ 4294967297 := by
  unfold Lib.itoa
  rw [if_neg (by omega)]
  have := decDigits_len n.toNat
  omega
theorem bs_add {P : Program} {T : TypeId} {xo yo : Operand} {x y : List UInt8} (h : x.length + y.length ≤ 9223372036854775807) : binV P .add T .other xo yo (bs x) (bs y) = some (bs (x ++ y)) := bin_badd h
section
variable {Γ : Glob} {m : Store}
theorem print_ok (E : Env Γ) (k n : Int) (s : List UInt8) (hf : rightB k n s = true → (formOf k).n = true → FmtAt Γ n) : ACalls Tryz.prog Γ 18 [cmdV k n s] m fun o m' => o = .ret (.tup [bs (if rightB k n s then printB k n s else []), it (if rightB k n s then 0 else 2)]) ∧ m' = m := by
  refine ACalls.less (A := fun o m' => o = .ret (.tup [bs (if rightB k n s then printB k n s else []), it (if rightB k n s then 0 else 2)]) ∧ SubS m m') ?_ fun o m' h => ⟨m, h.2, h.1, rfl⟩
  refine acalls_of_awp mixed F18_ok (by rintro v m b x _ ⟨⟨⟩, _⟩) ?_
  simp only [F18, cmdV, start, List.cons_append, List.nil_append, List.length_cons, List.length_nil, List.replicate, Nat.reduceSub, Nat.reduceAdd]
  simp only [ssS, bin_or, bin_and, Nat.reduceAdd, Nat.reduceLeDiff, reduceIte, eq_self, Nat.reduceEqDiff]
  refine allocS_of fun b1 hb1 => ?_
  simp only [Store.set_same, ssS, bin_or, bin_and, Nat.reduceAdd, Nat.reduceLeDiff, reduceIte, eq_self, Nat.reduceEqDiff]
  refine callS_pure (right_ok E k n s) ?_
  cases hr : rightB k n s
  · simp only [Bool.not_false, ssS, bin_or, bin_and, Nat.reduceAdd, Nat.reduceLeDiff, reduceIte, eq_self, Nat.reduceEqDiff]
    exact bodyA_ret resV_two ⟨rfl, (SubS.refl m).out hb1 _⟩
  · obtain ⟨hs, hn0, hn1⟩ := right_len hr
    have hw := form_w k
    have hi := itoa_len hn0 hn1
    simp only [Bool.not_true, Store.set_same, ssS, bin_or, bin_and, Nat.reduceAdd, Nat.reduceLeDiff, reduceIte, eq_self, Nat.reduceEqDiff]
    refine callS_pure (of_ok k) ?_
    obtain ⟨w, le, fn, fs, hff⟩ : ∃ w le fn fs, formOf k = ⟨w, le, fn, fs⟩ := ⟨_, _, _, _, rfl⟩
    have hpb : printB k n s = (if (fn && !(s == [])) = true then (if fn then w ++ (32 :: Lib.itoa n) else w) ++ ([32, 105, 102, 32] ++ s) else if (fs && !fn) = true then (if fn then w ++ (32 :: Lib.itoa n) else w) ++ (32 :: s) else (if fn then w ++ (32 :: Lib.itoa n) else w)) := by
      unfold printB
      rw [hff]
    rw [hpb]
    rw [hff] at hf hw
    simp only at hw
    simp only [hff, formV, ssS, bin_or, bin_and, Nat.reduceAdd, Nat.reduceLeDiff, reduceIte, eq_self, Nat.reduceEqDiff]
    refine allocS_of fun b4 hb4 => ?_
    have h14 : b1 ≠ b4 := ne_of_some (Store.set_same _ _ _) hb4
    have hS : ∀ x y, SubS m ((m.set b1 x).set b4 y) := fun x y => ((SubS.refl m).out hb1 _).out (by rw [Store.set_ne _ _ h14.symm] at hb4; exact hb4) _
    simp only [Store.set_same, Store.set_set, Store.set_ne _ _ h14, ssS, bin_or, bin_and, Nat.reduceAdd, Nat.reduceLeDiff, reduceIte, eq_self, Nat.reduceEqDiff]
    cases fn
    · cases fs
      · simp only [Store.set_same, ssS, bin_or, bin_and, Nat.reduceAdd, Nat.reduceLeDiff, reduceIte, eq_self, Nat.reduceEqDiff]
        exact bodyA_ret resV_two ⟨rfl, hS _ _⟩
      · simp only [Store.set_same, Store.set_ne _ _ h14, Bool.not_false, bs_add (x := [32]) (y := s) (by simp; omega), bs_add (x := w) (y := [32] ++ s) (by simp; omega), ssS, bin_or, bin_and, Nat.reduceAdd, Nat.reduceLeDiff, reduceIte, eq_self, Nat.reduceEqDiff]
        exact bodyA_ret resV_two ⟨rfl, hS _ _⟩
    · simp only [Store.set_same, Store.set_ne _ _ h14, ssS, bin_or, bin_and, Nat.reduceAdd, Nat.reduceLeDiff, reduceIte, eq_self, Nat.reduceEqDiff]
      refine callS_pure (itoa_ok (hf hr rfl)) ?_
      simp only [bs_add (x := [32]) (y := Lib.itoa n) (by simp; omega), bs_add (x := w) (y := [32] ++ Lib.itoa n) (by simp; omega), Store.set_same, Store.set_ne _ _ h14, ssS, bin_or, bin_and, Nat.reduceAdd, Nat.reduceLeDiff, reduceIte, eq_self, Nat.reduceEqDiff]
      cases he : (s == [])
      · simp only [bs_add (x := [32, 105, 102, 32]) (y := s) (by simp; omega), bs_add (x := w ++ ([32] ++ Lib.itoa n)) (y := [32, 105, 102, 32] ++ s) (by simp; omega), Bool.not_false, Store.set_same, Store.set_ne _ _ h14, ssS, bin_or, bin_and, Nat.reduceAdd, Nat.reduceLeDiff, reduceIte, eq_self, Nat.reduceEqDiff]
        exact bodyA_ret resV_two ⟨rfl, hS _ _⟩
      · cases fs
        · simp only [Bool.not_true, Store.set_same, Store.set_ne _ _ h14, ssS, bin_or, bin_and, Nat.reduceAdd, Nat.reduceLeDiff, reduceIte, eq_self, Nat.reduceEqDiff]
          exact bodyA_ret resV_two ⟨rfl, hS _ _⟩
        · simp only [Bool.not_true, Store.set_same, Store.set_ne _ _ h14, ssS, bin_or, bin_and, Nat.reduceAdd, Nat.reduceLeDiff, reduceIte, eq_self, Nat.reduceEqDiff]
          exact bodyA_ret resV_two ⟨rfl, hS _ _⟩
end
end Go.Av.Fn
/- Commands printed are parsed as they were; what is parsed is printed as it stood: plain laws. No condition. -/
namespace Go.Av.Fn
set_option linter.unusedSimpArgs false
set_option linter.unusedVariables false
open Go.Lib
theorem decDigits_big {u : Nat} (h : ¬ u < 10) : decDigits u = decDigits (u / 10) ++ [UInt8.ofNat (48 + u % 10)] := by
  rw [decDigits, dif_neg h]
theorem digit_nat {d : Nat} (h : d < 10) : (UInt8.ofNat (48 + d)).toNat = 48 + d := by
  rw [UInt8.toNat_ofNat']
  omega
theorem decDigits_dig (u : Nat) : ∀ b ∈ decDigits u, 48 ≤ b.toNat ∧ b.toNat ≤ 57 := by
  induction u using Nat.strongRecOn with
  | _ u ih =>
    intro b hb
    by_cases h : u < 10
    · rw [decDigits_one h] at hb
      simp only [List.mem_singleton] at hb
      subst hb
      rw [digit_nat h]
      omega
    · rw [decDigits_big h] at hb
      rcases List.mem_append.1 hb with hb | hb
      · exact ih (u / 10) (by omega) b hb
      · simp only [List.mem_singleton] at hb
        subst hb
        rw [digit_nat (by omega)]
        omega
theorem decDigits_ne (u : Nat) : decDigits u ≠ [] := by
  by_cases h : u < 10
  · rw [decDigits_one h]; simp
  · rw [decDigits_big h]; simp
theorem parseM_dec {M : Nat} (hM : M ≤ 18446744073709551615) (u : Nat) : ∀ r, u ≤ M → parseUintM M 0 (decDigits u ++ r) = parseUintM M u r := by
  induction u using Nat.strongRecOn with
  | _ u ih =>
    intro r hu
    by_cases h : u < 10
    · rw [decDigits_one h]
      simp only [List.cons_append, List.nil_append, parseUintM, digit_nat h]
      rw [if_pos (by omega), if_neg (by omega), if_neg (by omega)]
      congr 1
      omega
    · rw [decDigits_big h, List.append_assoc, ih (u / 10) (by omega) _ (by omega)]
      simp only [List.cons_append, List.nil_append, parseUintM, digit_nat (show u % 10 < 10 by omega)]
      rw [if_pos (by omega), if_neg (by omega), if_neg (by omega)]
      congr 1
      omega
theorem itoa_pos {n : Int} (h : 0 ≤ n) : itoa n = decDigits n.toNat := by
  unfold itoa
  rw [if_neg (by omega)]
theorem parse_itoa {n : Int} (h0 : 0 ≤ n) (h1 : n < 9223372036854775808) : parseIntB 64 (itoa n) = .ok n := by
  rw [itoa_pos h0]
  have hd := decDigits_dig n.toNat
  have hp := parseM_dec (M := 2 ^ 64 - 1) (by decide) n.toNat [] (by omega)
  rw [List.append_nil] at hp
  cases he : decDigits n.toNat with
  | nil => exact absurd he (decDigits_ne _)
  | cons c r =>
    rw [he] at hd hp
    have hc := hd c (List.mem_cons_self ..)
    unfold parseIntB
    simp only
    rw [if_neg (by omega)]
    unfold parseUintB
    rw [if_neg (by simp), hp]
    simp only [parseUintM]
    rw [if_neg (by omega), if_neg (by omega), if_neg (by omega)]
    congr 1
    omega
/-! ### Cuts -/
theorem cutB_cons (b : UInt8) (s : List UInt8) : cutB (b :: s) = if (b == 32) = true then ([], s, true) else (b :: (cutB s).1, (cutB s).2.1, (cutB s).2.2) := by
  unfold cutB
  rw [List.findIdx?_cons]
  cases h : (b == 32)
  · simp only [Bool.false_eq_true, if_false]
    cases s.findIdx? (· == 32) <;> simp
  · simp
theorem cutB_nil : cutB [] = ([], [], false) := rfl
theorem cutB_app : ∀ {w : List UInt8} (r : List UInt8), (∀ b ∈ w, b ≠ 32) → cutB (w ++ 32 :: r) = (w, r, true)
  | [], r, _ => by rw [List.nil_append, cutB_cons]; rfl
  | b :: w, r, h => by
    rw [List.cons_append, cutB_cons, cutB_app r fun x hx => h x (List.mem_cons_of_mem _ hx)]
    have : (b == 32) = false := by simpa using h b (List.mem_cons_self ..)
    simp [this]
theorem cutB_none : ∀ {w : List UInt8}, (∀ b ∈ w, b ≠ 32) → cutB w = (w, [], false)
  | [], _ => rfl
  | b :: w, h => by
    rw [cutB_cons, cutB_none fun x hx => h x (List.mem_cons_of_mem _ hx)]
    have : (b == 32) = false := by simpa using h b (List.mem_cons_self ..)
    simp [this]
theorem cutB_true : ∀ {s : List UInt8}, (cutB s).2.2 = true → s = (cutB s).1 ++ 32 :: (cutB s).2.1
  | [], h => by simp [cutB_nil] at h
  | b :: s, h => by
    rw [cutB_cons] at h ⊢
    cases hb : (b == 32)
    · simp only [hb, Bool.false_eq_true, if_false] at h ⊢
      rw [List.cons_append, ← cutB_true h]
    · simp only [if_true, List.nil_append]
      rw [eq_of_beq hb]
theorem cutB_false : ∀ {s : List UInt8}, (cutB s).2.2 = false → (cutB s).1 = s ∧ (cutB s).2.1 = []
  | [], h => ⟨rfl, rfl⟩
  | b :: s, h => by
    rw [cutB_cons] at h ⊢
    cases hb : (b == 32)
    · simp only [hb, Bool.false_eq_true, if_false] at h ⊢
      obtain ⟨h1, h2⟩ := cutB_false h
      exact ⟨by rw [h1], h2⟩
    · simp [hb] at h
/-! ### Forms -/
theorem forms_len : forms.length = 18 := rfl
theorem formOf_get {k : Nat} (h : k < 18) : forms[k]? = some (formOf k) := by
  unfold formOf
  rw [if_neg (by omega)]
  simp only [Int.toNat_natCast]
  rw [List.getElem?_eq_getElem (by rw [forms_len]; exact h)]
  rfl
theorem forms_blank : (forms.all fun f => f.w.all fun b => b != 32) = true := by decide
theorem forms_nodup : (forms.map Form.w).Nodup := by decide
theorem form_blank (k : Int) : ∀ b ∈ (formOf k).w, b ≠ 32 := by
  have h : ∀ f ∈ forms, ∀ b ∈ f.w, b ≠ 32 := by
    intro f hf b hb
    have := List.all_eq_true.1 (List.all_eq_true.1 forms_blank f hf) b hb
    simpa using this
  unfold formOf
  split
  · intro b hb; cases hb
  · cases hk : forms[k.toNat]? with
    | none => intro b hb; cases hb
    | some f => exact h f (List.mem_of_getElem? hk)
theorem form_inj {i j : Nat} (hi : i < 18) (hj : j < 18) (h : (formOf i).w = (formOf j).w) : i = j := by
  have h1 : (forms.map Form.w)[i]? = some (formOf i).w := by rw [List.getElem?_map, formOf_get hi]; rfl
  have h2 : (forms.map Form.w)[j]? = some (formOf j).w := by rw [List.getElem?_map, formOf_get hj]; rfl
  exact (List.getElem?_inj (by simpa [forms_len] using hi) forms_nodup).1 (by rw [h1, h2, h])
/-! ### What is parsed -/
theorem tryFrom_some {s : List UInt8} {x : Int × Int × List UInt8} : ∀ {n k : Nat}, tryFrom s n k = some x → ∃ j, k ≤ j ∧ j < k + n ∧ tryK s j = some x
  | 0, k, h => by cases h
  | n + 1, k, h => by
    simp only [tryFrom] at h
    cases hk : tryK s k with
    | some y =>
      rw [hk] at h
      cases h
      exact ⟨k, Nat.le_refl _, by omega, hk⟩
    | none =>
      rw [hk] at h
      obtain ⟨j, h1, h2, h3⟩ := tryFrom_some h
      exact ⟨j, by omega, by omega, h3⟩
theorem tryFrom_of {s : List UInt8} {x : Int × Int × List UInt8} {j : Nat} (hj : tryK s j = some x) : ∀ {n k : Nat}, k ≤ j → j < k + n → (∀ i, k ≤ i → i < j → tryK s i = none) → tryFrom s n k = some x
  | 0, k, h1, h2, _ => by omega
  | n + 1, k, h1, h2, h3 => by
    simp only [tryFrom]
    by_cases e : k = j
    · subst e
      rw [hj]
    · rw [h3 k (Nat.le_refl _) (by omega)]
      exact tryFrom_of hj (by omega) (by omega) fun i hi => h3 i (by omega)
theorem tryK_word {s : List UInt8} {k : Nat} {x : Int × Int × List UInt8} (h : tryK s k = some x) : (formOf k).w = (cutB s).1 := by
  unfold tryK at h
  split at h
  · rename_i e
    exact eq_of_beq e
  · cases h
theorem numB_ok {s : List UInt8} (h : 0 ≤ (numB s).1) : (cutB s).1 = itoa (numB s).1 ∧ (numB s).2 = (cutB s).2 := by
  unfold numB at h ⊢
  split
  · rename_i n hn
    rw [hn] at h
    simp only at h
    by_cases e : (itoa n == (cutB s).1) = true
    · rw [if_pos e] at h ⊢
      exact ⟨(eq_of_beq e).symm, rfl⟩
    · rw [if_neg e] at h
      simp at h
  · rename_i hn
    exfalso
    split at h
    · rename_i n hn2
      exact hn n hn2
    · simp at h
theorem numB_more {s : List UInt8} (h : (numB s).2.2 = true) : (cutB s).1 = itoa (numB s).1 ∧ (numB s).2 = (cutB s).2 := by
  unfold numB at h ⊢
  split
  · rename_i n hn
    rw [hn] at h
    simp only at h
    by_cases e : (itoa n == (cutB s).1) = true
    · rw [if_pos e]
      exact ⟨(eq_of_beq e).symm, rfl⟩
    · rw [if_neg e] at h
      cases h
  · rename_i hn
    exfalso
    split at h
    · rename_i n hn2
      exact hn n hn2
    · cases h
theorem cutIf_true {s : List UInt8} (h : (cutIf s).2 = true) : s = [105, 102, 32] ++ (cutIf s).1 := by
  unfold cutIf at h ⊢
  by_cases e : [105, 102, 32].isPrefixOf s = true
  · rw [if_pos e]
    obtain ⟨r, rfl⟩ := List.isPrefixOf_iff_prefix.1 e
    simp
  · rw [if_neg e] at h
    cases h
theorem parse_print {s : List UInt8} {k n : Int} {t : List UInt8} (h : parseC s = some (k, n, t)) : rightB k n t = true ∧ printB k n t = s ∧ (∃ j : Nat, k = j ∧ 1 ≤ j ∧ j < 18) := by
  unfold parseC at h
  obtain ⟨j, h1, h2, h3⟩ := tryFrom_some h
  have hw := tryK_word h3
  unfold tryK at h3
  rw [if_pos (by rw [hw]; exact beq_self_eq_true _)] at h3
  split at h3
  · rename_i hc
    simp only [Option.some.injEq, Prod.mk.injEq] at h3
    obtain ⟨rfl, hn, ht⟩ := h3
    simp only [Bool.and_eq_true] at hc
    obtain ⟨hok, hr⟩ := hc
    rw [hn, ht] at hr
    refine ⟨hr, ?_, j, rfl, h1, by omega⟩
    unfold printB
    simp only
    rw [hw]
    unfold behB at hok hn ht
    cases hm : (cutB s).2.2
    · obtain ⟨c1, c2⟩ := cutB_false hm
      rw [hm] at hok hn ht
      simp only [Bool.not_false, Bool.true_or, if_true, Bool.and_eq_true, Bool.not_eq_true', Bool.true_and] at hok hn ht
      obtain ⟨hfn, hfs⟩ := hok
      simp only [hfn, hfs, Bool.false_and, Bool.false_eq_true, if_false]
      exact c1
    · have c1 := cutB_true hm
      rw [hm] at hok hn ht
      simp only [Bool.not_true, Bool.false_or] at hok hn ht
      cases hfn : (formOf j).n
      · cases hfs : (formOf j).s
        · simp [hfn, hfs] at hok
        · simp only [hfn, hfs, Bool.not_false, Bool.not_true, Bool.and_false, Bool.false_eq_true, if_false, if_true] at hok hn ht
          simp only [Bool.false_and, Bool.false_eq_true, if_false, Bool.not_false, Bool.and_self, if_true, Bool.true_and]
          rw [← ht]
          exact c1.symm
      · simp only [hfn, Bool.not_true, Bool.false_and, Bool.false_eq_true, if_false, Bool.true_eq_false] at hok hn ht
        simp only [Bool.true_and, Bool.not_true, Bool.and_false, Bool.false_eq_true, if_false, if_true]
        cases hmore : (numB (cutB s).2.1).2.2
        · simp only [hmore, if_true, decide_eq_true_eq] at hok hn ht
          obtain ⟨d1, d2⟩ := numB_ok hok
          rw [d2] at hmore
          obtain ⟨e1, e2⟩ := cutB_false hmore
          subst ht
          simp only [BEq.rfl, Bool.not_true, Bool.false_eq_true, if_false]
          rw [← hn, ← d1, e1]
          exact c1.symm
        · simp only [hmore, Bool.true_eq_false, if_false, Bool.and_eq_true] at hok hn ht
          obtain ⟨⟨o1, o2⟩, o3⟩ := hok
          obtain ⟨d1, d2⟩ := numB_more hmore
          have e1 := cutB_true (s := (cutB s).2.1) (by rw [← d2]; exact hmore)
          have e2 := cutIf_true o1
          rw [ht] at o3 e2
          rw [if_pos (by simpa using o3), ← hn, ← d1]
          rw [d2] at e2
          rw [List.append_assoc, List.cons_append]
          have e3 : (cutB (cutB s).2.1).1 ++ ([32, 105, 102, 32] ++ t) = (cutB s).2.1 := by
            have : [32, 105, 102, 32] ++ t = 32 :: ([105, 102, 32] ++ t) := rfl
            rw [this, ← e2]
            exact e1.symm
          rw [e3]
          exact c1.symm
  · cases h3
end Go.Av.Fn
/- A command that is printed is parsed as it was: plain laws. No condition. -/
namespace Go.Av.Fn
set_option linter.unusedSimpArgs false
set_option linter.unusedVariables false
open Go.Lib
theorem itoa_blank {n : Int} (h : 0 ≤ n) : ∀ b ∈ itoa n, b ≠ 32 := by
  rw [itoa_pos h]
  intro b hb e
  subst e
  have := decDigits_dig _ _ hb
  revert this
  decide
theorem numB_itoa {n : Int} (h0 : 0 ≤ n) (h1 : n < 9223372036854775808) : numB (itoa n) = (n, [], false) := by
  unfold numB
  rw [cutB_none (itoa_blank h0)]
  simp only [parse_itoa h0 h1, BEq.rfl, if_true]
theorem numB_itoa_more {n : Int} (h0 : 0 ≤ n) (h1 : n < 9223372036854775808) (r : List UInt8) : numB (itoa n ++ 32 :: r) = (n, r, true) := by
  unfold numB
  rw [cutB_app r (itoa_blank h0)]
  simp only [parse_itoa h0 h1, BEq.rfl, if_true]
theorem cutIf_app (t : List UInt8) : cutIf ([105, 102, 32] ++ t) = (t, true) := by
  unfold cutIf
  rw [if_pos (List.isPrefixOf_iff_prefix.2 ⟨t, rfl⟩)]
  rfl
theorem right_form {k n : Int} {t : List UInt8} (h : rightB k n t = true) : formOf k ≠ noForm ∧ ((formOf k).n = false → n = 0) ∧ ((formOf k).s = false → t = []) ∧ 0 ≤ n ∧ n ≤ 4294967296 := by
  have hl := right_len h
  unfold rightB at h
  split at h
  · cases h
  · rename_i hc
    simp only [Bool.or_eq_true, Bool.and_eq_true, decide_eq_true_eq, Bool.not_eq_true', bne_iff_ne, not_or, not_and, Bool.not_eq_false, beq_eq_false_iff_ne] at hc
    obtain ⟨⟨⟨⟨c1, c2⟩, c3⟩, c4⟩, c5⟩ := hc
    refine ⟨c1, fun hn => ?_, fun hs => ?_, hl.2.1, hl.2.2⟩
    · have := c2 hn
      simpa using this
    · have := c3 hs
      simpa using this
theorem form_range {k : Int} (h : formOf k ≠ noForm) : ∃ j : Nat, k = j ∧ 1 ≤ j ∧ j < 18 := by
  unfold formOf at h
  split at h
  · exact absurd rfl h
  · rename_i hk
    cases hg : forms[k.toNat]? with
    | none => rw [hg] at h; exact absurd rfl h
    | some f =>
      have hlt := (List.getElem?_eq_some_iff.1 hg).1
      rw [forms_len] at hlt
      refine ⟨k.toNat, by omega, ?_, hlt⟩
      by_cases e : k.toNat = 0
      · rw [hg] at h
        rw [e] at hg
        cases hg
        exact absurd rfl h
      · omega
theorem print_parse {k n : Int} {t : List UInt8} (h : rightB k n t = true) : parseC (printB k n t) = some (k, n, t) := by
  obtain ⟨hf, hn, hs, h0, h1⟩ := right_form h
  obtain ⟨j, rfl, hj1, hj2⟩ := form_range hf
  have hb := form_blank (j : Int)
  have key : (cutB (printB j n t)).1 = (formOf j).w ∧ behB (formOf j) (cutB (printB j n t)).2.1 (!(cutB (printB j n t)).2.2) = (n, t, true) := by
    cases hfn : (formOf j).n
    · have hn0 := hn hfn
      subst hn0
      cases hfs : (formOf j).s
      · have ht := hs hfs
        subst ht
        have : printB j 0 [] = (formOf j).w := by simp [printB, hfn, hfs]
        rw [this, cutB_none hb]
        exact ⟨rfl, by simp [behB, hfn, hfs]⟩
      · have : printB j 0 t = (formOf j).w ++ 32 :: t := by simp [printB, hfn, hfs]
        rw [this, cutB_app t hb]
        exact ⟨rfl, by simp [behB, hfn, hfs]⟩
    · by_cases ht : t = []
      · subst ht
        have : printB j n [] = (formOf j).w ++ 32 :: itoa n := by simp [printB, hfn]
        rw [this, cutB_app _ hb]
        refine ⟨rfl, ?_⟩
        unfold behB
        rw [numB_itoa h0 (by omega)]
        simp [hfn, h0]
      · have hfs : (formOf j).s = true := by
          cases hfs : (formOf j).s
          · exact absurd (hs hfs) ht
          · rfl
        have : printB j n t = (formOf j).w ++ 32 :: (itoa n ++ 32 :: ([105, 102, 32] ++ t)) := by simp [printB, hfn, ht]
        rw [this, cutB_app _ hb]
        refine ⟨rfl, ?_⟩
        unfold behB
        rw [numB_itoa_more h0 (by omega)]
        simp only [hfn, Bool.not_true, Bool.false_and, Bool.or_self, Bool.false_eq_true, if_false, Bool.true_eq_false]
        rw [cutIf_app]
        simp [hfs, ht]
  unfold parseC
  refine tryFrom_of (j := j) ?_ hj1 (by omega) fun i hi1 hi2 => ?_
  · unfold tryK
    rw [if_pos (by rw [key.1]; exact beq_self_eq_true _), key.2]
    simp [h]
  · unfold tryK
    rw [if_neg]
    intro e
    have := eq_of_beq e
    rw [key.1] at this
    have := form_inj (by omega) hj2 this
    omega
end Go.Av.Fn
/- Numbers as bytes: shifts, folds and unfolds as the program computes them; the number that bytes begin with. No condition. -/
namespace Go.Av
open Go.Lib
set_option linter.unusedSimpArgs false
set_option linter.unusedVariables false
section
variable {P : Program} {T : TypeId} {xo yo : Operand} {k yk : IntKind} {a b : Int}
end
section
variable {P : Program} {Γ : Glob} {Kp : V → Store → Prop} {l : List Item} {K : St → Prop} {t : List V} {m m' : Store} {d : Option Tmp} {s : List (Tmp × Option (Tmp × Bool) × AOp)}
end
def I64 (n : Int) : Prop := -9223372036854775808 ≤ n ∧ n < 9223372036854775808
end Go.Av
/- Numbers and texts put behind bytes, as the program does. No condition. -/
namespace Go.Av.Fn
set_option linter.unusedSimpArgs false
set_option linter.unusedVariables false
set_option maxRecDepth 10000
open Go.Proofs Go.Lib
end Go.Av.Fn
/- The number that bytes begin with: plain laws. No condition. -/
namespace Go.Av
open Go.Lib
set_option linter.unusedSimpArgs false
set_option linter.unusedVariables false
def numGo : Nat → Nat → List UInt8 → Int × Nat × Int
  | _, _, [] => (0, 0, 3)
  | i, f, c :: s => if i = 9 ∧ c.toNat ≠ 1 then (0, 0, 4)
    else if 128 ≤ c.toNat then numGo (i + 1) (f + c.toNat % 128 * 2 ^ (7 * i)) s
    else if c.toNat = 0 ∧ 0 < i then (0, 0, 4)
    else (unzigzag (f + c.toNat % 128 * 2 ^ (7 * i)), i + 1, 0)
def numL (s : List UInt8) : Int × Nat × Int := numGo 0 0 s
end Go.Av
/- Numbers read, as the program does. No condition. -/
namespace Go.Av.Fn
set_option linter.unusedSimpArgs false
set_option linter.unusedVariables false
set_option maxRecDepth 10000
open Go.Proofs Go.Lib
end Go.Av.Fn
/- Readers: what they tell, as the program does. Condition: strings.Clone (LibOk). -/
namespace Go.Av.Fn
set_option linter.unusedSimpArgs false
set_option linter.unusedVariables false
set_option maxRecDepth 10000
open Go.Proofs
section
variable {Γ : Glob} {m : Store} {rb a : Nat} {s : List UInt8} {e : Int}
/-! ### Texts put -/
end
end Go.Av.Fn
/- The program tells the document's examples. No condition. -/
namespace Go.Av.Fn
set_option linter.unusedSimpArgs false
set_option linter.unusedVariables false
set_option maxRecDepth 10000
open Go.Proofs
def skipF : Nat → List UInt8 → Nat → Nat → Nat × Nat
  | 0, _, a, l => (a, l)
  | n + 1, r, a, l =>
    if [10].isPrefixOf r = true then skipF n (r.drop 1) (a + 1) (l + 1)
    else if ([32].isPrefixOf r || [9].isPrefixOf r) = true then skipF n (r.drop 1) (a + 1) l
    else if [47, 47].isPrefixOf r = true then skipF n (r.drop (r.takeWhile notNl).length) (a + (r.takeWhile notNl).length) l
    else (a, l)
theorem skipF_eq : ∀ (n : Nat) (r : List UInt8) (a l : Nat), r.length < n → skipF n r a l = skipL r a l
  | 0, r, a, l, h => absurd h (by omega)
  | n + 1, r, a, l, h => by
    rw [skipL.eq_1]
    simp only [skipF]
    by_cases h1 : [10].isPrefixOf r = true
    · rw [if_pos h1, dif_pos h1]
      have := pre_len h1
      exact skipF_eq n _ _ _ (by simp at this ⊢; omega)
    · rw [if_neg h1, dif_neg h1]
      by_cases h2 : ([32].isPrefixOf r || [9].isPrefixOf r) = true
      · rw [if_pos h2, dif_pos h2]
        have : 1 ≤ r.length := by
          rw [Bool.or_eq_true] at h2
          rcases h2 with h2 | h2
          · simpa using pre_len h2
          · simpa using pre_len h2
        exact skipF_eq n _ _ _ (by simp; omega)
      · rw [if_neg h2, dif_neg h2]
        by_cases h3 : [47, 47].isPrefixOf r = true
        · rw [if_pos h3, dif_pos h3]
          have h4 := slash_run h3
          have h5 := pre_len h3
          exact skipF_eq n _ _ _ (by simp at h5 ⊢; omega)
        · rw [if_neg h3, dif_neg h3]
def scanF : Nat → List UInt8 → Nat × Nat → List Tk → Except (Nat × Int) (List Tk)
  | 0, _, _, _ => .ok []
  | n + 1, r, x, acc => match tokL r with
    | .error e => if r.isEmpty then .ok (acc ++ [⟨0, [], 0, x.2, x.1⟩]) else .error (x.1, e)
    | .ok (t, k) => scanF n ((r.drop k).drop ((skipF (r.length + 1) (r.drop k) (x.1 + k) x.2).1 - (x.1 + k))) (skipF (r.length + 1) (r.drop k) (x.1 + k) x.2) (acc ++ [{ t with l := x.2, a := x.1 }])
theorem scanF_eq : ∀ (n : Nat) (r : List UInt8) (x : Nat × Nat) (acc : List Tk), r.length < n → scanF n r x acc = scanN r x acc
  | 0, r, x, acc, h => absurd h (by omega)
  | n + 1, r, x, acc, h => by
    simp only [scanF, scanN]
    cases ht : tokL r with
    | error e =>
      simp only
      cases r with
      | nil => rfl
      | cons c r => rfl
    | ok y =>
      obtain ⟨t, k⟩ := y
      have hk := tokL_len ht
      simp only
      have e1 : skipF (r.length + 1) (r.drop k) (x.1 + k) x.2 = skipL (r.drop k) (x.1 + k) x.2 := skipF_eq _ _ _ _ (by simp; omega)
      rw [e1, scanL_eq]
      exact scanF_eq n _ _ _ (by simp; omega)
theorem scanR_eq {s : List UInt8} {y : Except (Nat × Int) (List Tk)} (h : (s.length ≤ 4096 ∧ scanF (s.length + 1) (s.drop (skipF (s.length + 1) s 0 1).1) (skipF (s.length + 1) s 0 1) [] = y)) : scanR s = y := by
  unfold scanR
  rw [if_neg (by omega), scanL_eq, ← skipF_eq (s.length + 1) s 0 1 (by omega), Nat.sub_zero, ← scanF_eq (s.length + 1) _ _ _ (by simp; omega)]
  exact h.2
end Go.Av.Fn
/- A command's text read, reckoned. No condition. -/
namespace Go.Av.Fn
set_option linter.unusedSimpArgs false
set_option linter.unusedVariables false
set_option maxRecDepth 100000
open Go.Proofs
def decF : Nat → Nat → List UInt8
  | 0, _ => []
  | k + 1, u => if u < 10 then [UInt8.ofNat (48 + u)] else decF k (u / 10) ++ [UInt8.ofNat (48 + u % 10)]
theorem decF_eq : ∀ (k u : Nat), u < k → decF k u = Lib.decDigits u
  | 0, u, h => absurd h (by omega)
  | k + 1, u, h => by
    rw [Lib.decDigits, decF]
    by_cases h1 : u < 10
    · rw [if_pos h1, dif_pos h1]
    · rw [if_neg h1, dif_neg h1, decF_eq k (u / 10) (by omega)]
def itoaF (n : Int) : List UInt8 := if n < 0 then 45 :: decF (n.natAbs + 1) n.natAbs else decF (n.toNat + 1) n.toNat
theorem itoaF_eq (n : Int) : itoaF n = Lib.itoa n := by
  unfold itoaF Lib.itoa
  rw [decF_eq _ _ (by omega), decF_eq _ _ (by omega)]
def scanRF (s : List UInt8) : Except (Nat × Int) (List Tk) := if s.length > 4096 then .error (0, 5) else scanF (s.length + 1) (s.drop (skipF (s.length + 1) s 0 1).1) (skipF (s.length + 1) s 0 1) []
theorem scanRF_eq (s : List UInt8) : scanR s = scanRF s := by
  unfold scanRF
  by_cases h : s.length > 4096
  · rw [if_pos h]
    unfold scanR
    rw [if_pos h]
  · rw [if_neg h]
    exact scanR_eq ⟨by omega, rfl⟩
def readF (s : List UInt8) : Option Ex × Int × Int := match scanRF s with
  | .error (a, e) => (none, a, e)
  | .ok l => readT l
theorem readF_eq (s : List UInt8) : readS s = readF s := by
  unfold readS readF
  rw [scanRF_eq]
  all_goals (cases scanRF s <;> rfl)
def exprF (s : List UInt8) : Option Ex × Int × Int :=
  if (readF s).2.2 = 0 then (match (readF s).1 with
    | some e => if depthE e > 24 then (none, 0, 7) else (some e, 0, 0)
    | none => (none, 0, 0))
  else (none, (readF s).2.1, (readF s).2.2)
def writtenF (s : List UInt8) : Bool := (exprF s).2.2 == 0 && decide (s.length ≤ 255)
theorem writtenF_eq : writtenB = writtenF := by
  funext s
  unfold writtenB writtenF exprS exprF
  rw [readF_eq]
  all_goals rfl
def numF (s : List UInt8) : Int × List UInt8 × Bool := match Lib.parseIntB 64 (cutB s).1 with
  | .ok n => if (itoaF n == (cutB s).1) = true then (n, (cutB s).2.1, (cutB s).2.2) else (-1, [], false)
  | _ => (-1, [], false)
theorem numF_eq : numB = numF := by
  funext s
  unfold numB numF
  cases h : Lib.parseIntB 64 (cutB s).1 with
  | ok n => simp only [itoaF_eq]
  | _ => rfl
def rightG (wr : List UInt8 → Bool) (k n : Int) (s : List UInt8) : Bool :=
  if (decide (formOf k = noForm) || (!(formOf k).n && n != 0) || (!(formOf k).s && !(s == [])) || decide (n < (formOf k).least) || decide (n > 4294967296)) = true then false
  else if (!(formOf k).s || ((formOf k).n && s == [])) = true then true
  else wr s
def behG (num : List UInt8 → Int × List UInt8 × Bool) (f : Form) (rest : List UInt8) (no : Bool) : Int × List UInt8 × Bool :=
  if (no || (!f.n && !f.s)) = true then (0, [], no && !f.n && !f.s)
  else if f.n = false then (0, rest, true)
  else if (num rest).2.2 = false then ((num rest).1, [], decide ((num rest).1 ≥ 0))
  else ((num rest).1, (cutIf (num rest).2.1).1, (cutIf (num rest).2.1).2 && f.s && !((cutIf (num rest).2.1).1 == []))
def tryG (num : List UInt8 → Int × List UInt8 × Bool) (wr : List UInt8 → Bool) (s : List UInt8) (k : Nat) : Option (Int × Int × List UInt8) :=
  if ((formOf k).w == (cutB s).1) = true then
    (if ((behG num (formOf k) (cutB s).2.1 (!(cutB s).2.2)).2.2 && rightG wr k (behG num (formOf k) (cutB s).2.1 (!(cutB s).2.2)).1 (behG num (formOf k) (cutB s).2.1 (!(cutB s).2.2)).2.1) = true
      then some (k, (behG num (formOf k) (cutB s).2.1 (!(cutB s).2.2)).1, (behG num (formOf k) (cutB s).2.1 (!(cutB s).2.2)).2.1) else none)
  else none
def tryFromG (num : List UInt8 → Int × List UInt8 × Bool) (wr : List UInt8 → Bool) (s : List UInt8) : Nat → Nat → Option (Int × Int × List UInt8)
  | 0, _ => none
  | n + 1, k => match tryG num wr s k with
    | some x => some x
    | none => tryFromG num wr s n (k + 1)
theorem tryFrom_G (s : List UInt8) : ∀ n k, tryFrom s n k = tryFromG numB writtenB s n k
  | 0, _ => rfl
  | n + 1, k => by
    have h : tryK s k = tryG numB writtenB s k := rfl
    rw [tryFrom, tryFromG, h]
    cases tryG numB writtenB s k with
    | some x => rfl
    | none => exact tryFrom_G s n (k + 1)
theorem parse_eq {s : List UInt8} {r : Option (Int × Int × List UInt8)} (h : tryFromG numF writtenF s 17 1 = r) : parseC s = r := by
  rw [parseC, tryFrom_G, numF_eq, writtenF_eq]
  exact h
theorem right_eq {k n : Int} {s : List UInt8} {b : Bool} (h : rightG writtenF k n s = b) : rightB k n s = b := by
  rw [← h, ← writtenF_eq]
  rfl
theorem ex1 : parseC [98, 97, 99, 107, 45, 115, 116, 101, 112] = some (5, 0, []) := parse_eq (by kernel_rfl)
theorem ex2 : parseC [98, 114, 101, 97, 107, 32, 49, 50, 32, 105, 102, 32, 97, 32, 62, 32, 49] = some (10, 12, [97, 32, 62, 32, 49]) := parse_eq (by kernel_rfl)
theorem ex3 : parseC [103, 111, 116, 111, 32, 48] = some (9, 0, []) := parse_eq (by kernel_rfl)
theorem ex4 : parseC [103, 111, 116, 111, 32, 48, 49] = none := parse_eq (by kernel_rfl)
theorem ex5 : parseC [103, 111, 116, 111] = none := parse_eq (by kernel_rfl)
theorem ex6 : parseC [115, 116, 101, 112, 32, 49] = none := parse_eq (by kernel_rfl)
theorem ex7 : parseC [98, 114, 101, 97, 107, 32, 49, 32, 105, 102] = none := parse_eq (by kernel_rfl)
theorem ex8 : parseC [112, 114, 105, 110, 116, 32, 49, 32, 43] = none := parse_eq (by kernel_rfl)
theorem ex9 : rightB 10 12 [97, 32, 62, 32, 49] = true := right_eq (by kernel_rfl)
theorem ex10 : printB 10 12 [97, 32, 62, 32, 49] = [98, 114, 101, 97, 107, 32, 49, 50, 32, 105, 102, 32, 97, 32, 62, 32, 49] := by
  unfold printB
  rw [← itoaF_eq]
  kernel_rfl
end Go.Av.Fn
/- The document's examples of chapter 17: the program tells them. Conditions: the library's functions, and what some variables hold. -/
namespace Go.Av.Fn
set_option linter.unusedSimpArgs false
set_option linter.unusedVariables false
set_option maxRecDepth 10000
open Go.Proofs
theorem cmd_eq (xo yo : Operand) (k n k' n' : Int) (s s' : List UInt8) : binV Tryz.prog .eql 24 .other xo yo (.agg [it k, it n, bs s]) (.agg [it k', it n', bs s']) = some (.val (.bool (decide (k = k' ∧ n = n' ∧ s = s')))) := by
  have h := (struct_eq (P := Tryz.prog) (T := 24) (xo := xo) (yo := yo) (cs := [it k, it n, bs s]) (cs' := [it k', it n', bs s'])
    (xs := [.int .i64 k, .int .i64 n, .string ⟨s.toArray⟩]) (ys := [.int .i64 k', .int .i64 n', .string ⟨s'.toArray⟩])
    (r := (k == k' && (n == n' && ((ByteArray.mk s.toArray).toList == (ByteArray.mk s'.toArray).toList && true))))
    (by kernel_rfl) (by kernel_rfl) (by kernel_rfl) rfl rfl (by kernel_rfl)).1
  have e : (k == k' && (n == n' && ((ByteArray.mk s.toArray).toList == (ByteArray.mk s'.toArray).toList && true))) = decide (k = k' ∧ n = n' ∧ s = s') := by
    rw [ba_toList, ba_toList, Bool.eq_iff_iff]
    simp
  rw [e] at h
  exact h
theorem fmtNum_of {Γ : Glob} {rest : List UInt8} {i : Nat} (h : Lib.parseIntB 64 (cutB rest).1 = .ok (i : Int)) (hi : i < 100) : FmtNum Γ rest := by
  intro n hn
  rw [h] at hn
  cases hn
  exact fmt_small i hi
section
variable {Γ : Glob} {m : Store}
theorem is17_ok (E : Env2 Γ) (s : List UInt8) (hs : s.length ≤ 281474976710656) (hf : (cutB s).2.2 = true → FmtNum Γ (cutB s).2.1) {k n e : Int} {t : List UInt8} (h : parseV s = .tup [cmdV k n t, it e]) :
    ACalls Tryz.prog Γ 61 [bs s, cmdV k n t, it e] m fun o m' => o = .ret (.val (.bool true)) ∧ m' = m := by
  refine ACalls.less (A := fun o m' => o = .ret (.val (.bool true)) ∧ SubS m m') ?_ fun o m' h => ⟨m, h.2, h.1, rfl⟩
  refine acalls_of_awp mixed F61_ok (by rintro v m b x _ ⟨⟨⟩, _⟩) ?_
  simp only [F61, cmdV, start, List.cons_append, List.nil_append, List.length_cons, List.length_nil, List.replicate, Nat.reduceSub, Nat.reduceAdd]
  simp only [ssS, bin_or, bin_and, Nat.reduceAdd, Nat.reduceLeDiff, reduceIte, eq_self, Nat.reduceEqDiff]
  refine allocS_of fun b4 hb4 => ?_
  simp only [ssS, bin_or, bin_and, Nat.reduceAdd, Nat.reduceLeDiff, reduceIte, eq_self, Nat.reduceEqDiff]
  refine callS_pure (parse_ok E s hs hf) ?_
  simp only [h, cmdV, ssS, bin_or, bin_and, Nat.reduceAdd, Nat.reduceLeDiff, reduceIte, eq_self, Nat.reduceEqDiff]
  refine allocS_of fun b7 hb7 => ?_
  have h47 : b4 ≠ b7 := ne_of_some (Store.set_same _ _ _) hb7
  simp only [Store.set_same, Store.set_set, Store.set_ne _ _ h47, cmd_eq, and_self, decide_true, show (e == e) = true from beq_self_eq_true e, ssS, bin_or, bin_and, Nat.reduceAdd, Nat.reduceLeDiff, reduceIte, eq_self, Nat.reduceEqDiff]
  refine bodyA_ret resV_one ⟨rfl, ?_⟩
  exact ((SubS.refl m).out hb4 _).out (by rw [Store.set_ne _ _ h47.symm] at hb7; exact hb7) _
theorem pv_some {s : List UInt8} {k n : Int} {t : List UInt8} (h : parseC s = some (k, n, t)) : parseV s = .tup [cmdV k n t, it 0] := by
  unfold parseV
  rw [h]
theorem pv_none {s : List UInt8} (h : parseC s = none) : parseV s = .tup [cmdV 0 0 [], it 6] := by
  unfold parseV
  rw [h]
theorem lives17_ok (E : Env2 Γ) : ACalls Tryz.prog Γ 17 [] m fun o m' => o = .ret (.val (.bool true)) ∧ m' = m := by
  refine acalls_of_awp mixed F17_ok (by rintro v m b x _ ⟨⟨⟩, _⟩) ?_
  simp only [F17, start, List.cons_append, List.nil_append, List.length_cons, List.length_nil, List.replicate, Nat.reduceSub, Nat.reduceAdd]
  simp only [ssS, bin_or, bin_and, Nat.reduceAdd, Nat.reduceLeDiff, reduceIte, eq_self, Nat.reduceEqDiff]
  refine callS_pure (print_ok E.env 10 12 [97, 32, 62, 32, 49] (fun _ _ => fmt_small 12 (by decide))) ?_
  rw [ex9, ex10]
  simp only [if_true, ssS, bin_or, bin_and, Nat.reduceAdd, Nat.reduceLeDiff, reduceIte, eq_self, Nat.reduceEqDiff]
  refine callS_pure (is17_ok E [98, 97, 99, 107, 45, 115, 116, 101, 112] (by decide) (fun h => absurd h (by decide)) (pv_some ex1)) ?_
  simp only [ssS, bin_or, bin_and, Nat.reduceAdd, Nat.reduceLeDiff, reduceIte, eq_self, Nat.reduceEqDiff]
  refine callS_pure (is17_ok E [98, 114, 101, 97, 107, 32, 49, 50, 32, 105, 102, 32, 97, 32, 62, 32, 49] (by decide) (fun h => fmtNum_of (i := 12) (by kernel_rfl) (by decide)) (pv_some ex2)) ?_
  simp only [ssS, bin_or, bin_and, Nat.reduceAdd, Nat.reduceLeDiff, reduceIte, eq_self, Nat.reduceEqDiff]
  refine callS_pure (is17_ok E [103, 111, 116, 111, 32, 48] (by decide) (fun h => fmtNum_of (i := 0) (by kernel_rfl) (by decide)) (pv_some ex3)) ?_
  simp only [ssS, bin_or, bin_and, Nat.reduceAdd, Nat.reduceLeDiff, reduceIte, eq_self, Nat.reduceEqDiff]
  refine callS_pure (is17_ok E [103, 111, 116, 111, 32, 48, 49] (by decide) (fun h => fmtNum_of (i := 1) (by kernel_rfl) (by decide)) (pv_none ex4)) ?_
  simp only [ssS, bin_or, bin_and, Nat.reduceAdd, Nat.reduceLeDiff, reduceIte, eq_self, Nat.reduceEqDiff]
  refine callS_pure (is17_ok E [103, 111, 116, 111] (by decide) (fun h => absurd h (by decide)) (pv_none ex5)) ?_
  simp only [ssS, bin_or, bin_and, Nat.reduceAdd, Nat.reduceLeDiff, reduceIte, eq_self, Nat.reduceEqDiff]
  refine callS_pure (is17_ok E [115, 116, 101, 112, 32, 49] (by decide) (fun h => fmtNum_of (i := 1) (by kernel_rfl) (by decide)) (pv_none ex6)) ?_
  simp only [ssS, bin_or, bin_and, Nat.reduceAdd, Nat.reduceLeDiff, reduceIte, eq_self, Nat.reduceEqDiff]
  refine callS_pure (is17_ok E [98, 114, 101, 97, 107, 32, 49, 32, 105, 102] (by decide) (fun h => fmtNum_of (i := 1) (by kernel_rfl) (by decide)) (pv_none ex7)) ?_
  simp only [ssS, bin_or, bin_and, Nat.reduceAdd, Nat.reduceLeDiff, reduceIte, eq_self, Nat.reduceEqDiff]
  refine callS_pure (is17_ok E [112, 114, 105, 110, 116, 32, 49, 32, 43] (by decide) (fun h => fmtNum_of (i := 1) (by kernel_rfl) (by decide)) (pv_none ex8)) ?_
  simp only [show (([98, 114, 101, 97, 107, 32, 49, 50, 32, 105, 102, 32, 97, 32, 62, 32, 49] : List UInt8) == [98, 114, 101, 97, 107, 32, 49, 50, 32, 105, 102, 32, 97, 32, 62, 32, 49]) = true from by decide, show ((0 : Int) == 0) = true from rfl, ssS, bin_or, bin_and, Nat.reduceAdd, Nat.reduceLeDiff, reduceIte, eq_self, Nat.reduceEqDiff]
  exact bodyA_ret resV_one ⟨rfl, rfl⟩
end
end Go.Av.Fn
/- Commands put, and got. Conditions as ahead. -/
namespace Go.Av.Fn
set_option linter.unusedSimpArgs false
set_option linter.unusedVariables false
set_option maxRecDepth 10000
open Go.Proofs
section
variable {Γ : Glob} {m : Store} {rb a : Nat} {s : List UInt8} {e : Int}
end
end Go.Av.Fn
/- Commands put are got as they were: plain laws. No condition. -/
namespace Go.Av.Fn
set_option linter.unusedSimpArgs false
set_option linter.unusedVariables false
open Go.Lib
end Go.Av.Fn
