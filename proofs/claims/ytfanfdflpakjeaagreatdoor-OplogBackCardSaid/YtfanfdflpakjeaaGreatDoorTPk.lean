/- Whether a command is right: the program's. Conditions: the library's functions (LibOk, ParseOk), and what three variables hold. -/
import Derived.KernelRfl
import Derived.Lib.AppendIntMem
import Derived.Lib.ItoaLen
import Derived.Lib.ParseIntBCases
import Derived.Lib.UnsafeStr
import Derived.Shelf.LaysC
import Derived.Shelf.LaysM
import Derived.Shelf.RegionOpenPlain
import Derived.Shelf.Small.Strs
import Derived.Shelf.Strconv.Clone
import Derived.Shelf.Strconv.Itoa3
import Derived.Shelf.Strconv.ParseIntPublic10
import Derived.Shelf.Strings.Builder1
import Derived.Shelf.Strings.Search1
import Derived.Shelf.Strings.Search2
import Derived.Test.YtfanfdflpakjeaaGreatDoorProg
import Derived.WalkKit
import Derived.Test.YtfanfdflpakjeaaGreatDoorTFh
open Array renaming getElem?_modify → zfM
open Bool renaming not_true → ze6, not_false → ze4, or_eq_true → zfC, false_eq_true → ze3, and_eq_true → ze2, true_and → zfG
open Int renaming reduceBEq → zeX, reduceBNe → zeY
open List renaming length_cons → ze1, length_nil → zfb, mem_cons_self → ze9, mem_cons_of_mem → zfa, length_map → zfk, mem_of_getElem? → zfy, length_append → zfc, suffix_cons → zfg, suffix_rfl → zfv, getElem?_map → zfz, map → zfx, range → zfd, getElem?_eq_getElem → ze8, take_add_one → zfh
open Nat renaming reduceAdd → zeV, reduceSub → ze0, reduceLeDiff → zeT, reduceEqDiff → zeU, reduceLT → zeZ, le_refl → zfj
namespace Go.Av
theorem fillV_4 {cells : List V} {off : Nat} {a b c d : V} {r : List (Nat × Nat × V)} : zbQ cells ((off, 4, .agg [a, b, c, d]) :: r) = if off + 4 ≤ cells.length then zbQ (tset (tset (tset (tset cells off a) (off + 1) b) (off + 2) c) (off + 3) d) r else none := by
 simp only [zbQ, V.cells, ze1, zfb, zeV, true_and, List.zipIdx_cons, List.zipIdx_nil, List.foldl_cons, List.foldl_nil, Nat.add_zero, tset_eq, Nat.zero_add]
end Go.Av
namespace Go.Av.Fn
set_option linter.unusedSimpArgs false
set_option linter.unusedVariables false
set_option maxRecDepth 100000
open Go.Proofs
def tabOf : List (Nat × AFn) := [(56, F56)]
def noG : Glob := fun _ => none
theorem tabOf_ok : TabOk Tryz.prog noG tabOf := .cons ⟨_, F56_ok⟩ (by kernel_rfl) .nil
section
variable {Γ : Glob} {m : Store}
theorem of_ok (k : Int) : zae Tryz.prog Γ 56 [it k] m fun o m' => o = .ret (formV (zaV k)) ∧ m' = m := by
 by_cases hk : 0 ≤ k ∧ k < 18
 ·obtain ⟨h0, h18⟩ := hk
  have hi : k = 0 ∨ k = 1 ∨ k = 2 ∨ k = 3 ∨ k = 4 ∨ k = 5 ∨ k = 6 ∨ k = 7 ∨ k = 8 ∨ k = 9 ∨ k = 10 ∨ k = 11 ∨ k = 12 ∨ k = 13 ∨ k = 14 ∨ k = 15 ∨ k = 16 ∨ k = 17 := by omega
  have hc : CallOk Tryz.prog Γ (callI Tryz.prog noG (fun _ _ _ => none) (look tabOf) 2000 40) := callI_ok mixed (fun _ _ h => by cases h) tabOf_ok 2000 40
  rcases hi with rfl | rfl | rfl | rfl | rfl | rfl | rfl | rfl | rfl | rfl | rfl | rfl | rfl | rfl | rfl | rfl | rfl | rfl
  all_goals exact acalls_plain hc (by kernel_rfl) (.cons (.val _) .nil) rfl
 ·have hf : zaV k = za2 := by
   unfold zaV
   by_cases h : k < 0
   ·rw [if_pos h]
   ·rw [if_neg h, List.getElem?_eq_none (by show 18 ≤ k.toNat; omega)]
    rfl
  rw [hf]
  refine zae.less (A := fun o m' => o = .ret (formV za2) ∧ SubS m m') ?_ fun o m' h => ⟨m, h.2, h.1, rfl⟩
  refine zad mixed F56_ok (by rintro v m b x _ ⟨⟨⟩, _⟩) ?_
  simp only [F56, ss0, ze0, zeV]
  simp only [ssS, zeV, zeT, reduceIte, zeU]
  refine zao fun b2 hb2 => ?_
  simp only [fillV_4, ssS, zeV, zeT, reduceIte, zeU]
  refine zao fun b3 hb3 => ?_
  have h23 : b2 ≠ b3 := zal (Store.set_same _ _ _) hb3
  have fin : ∀ (t : List V) (x y z : Blk), tget t 2 = .ptr b2 0 → z = .var 100 [bs [], it 0, .val (.bool false), .val (.bool false)] → bodyA [ARes.cell 2 (some 4)] (fun o m' => o = Out.ret (formV za2) ∧ SubS m m') .ret ⟨t, ((m.set b2 x).set b3 y).set b2 z⟩ := by
   rintro t x y z ht rfl
   refine zah ((zdl ht (Store.set_same _ _ _)).trans rfl) ⟨rfl, ?_⟩
   exact ((((SubS.refl m).out hb2 _).out (by rw [Store.set_ne _ _ h23.symm] at hb3; exact hb3) _).out hb2 _)
  cases hn : decide (k < 0)
  ·have hg : decide (k ≥ 18) = true := by
    have := of_decide_eq_false hn
    exact decide_eq_true (by omega)
   simp only [Store.set_same, Store.set_set, hn, hg, Store.set_ne _ _ h23, ssS, zeV, zeT, reduceIte, zeU]
   exact fin _ _ _ _ rfl rfl
  ·simp only [Store.set_same, Store.set_set, hn, Store.set_ne _ _ h23, ssS, zeV, zeT, reduceIte, zeU]
   exact fin _ _ _ _ rfl rfl
theorem zaS {k n : Int} {s : List UInt8} {t : List V} {S : Store} (b : Bool) (h : zaT k n s = b) (h2 : tget t 2 = .val (.bool b)) (hs : SubS m S) : bodyA [ARes.tmp 2] (fun o m' => o = Out.ret (.val (.bool (zaT k n s))) ∧ SubS m m') .ret ⟨t, S⟩ :=
 zah zac ⟨by rw [h, h2], hs⟩
theorem right_ok (E : Env Γ) (k n : Int) (s : List UInt8) : zae Tryz.prog Γ 58 [cmdV k n s] m fun o m' => o = .ret (.val (.bool (zaT k n s))) ∧ m' = m := by
 refine zae.less (A := fun o m' => o = .ret (.val (.bool (zaT k n s))) ∧ SubS m m') ?_ fun o m' h => ⟨m, h.2, h.1, rfl⟩
 refine zad mixed F58_ok (by rintro v m b x _ ⟨⟨⟩, _⟩) ?_
 simp only [F58, cmdV, ss0, ze0, zeV]
 simp only [ssS, zeV, zeT, reduceIte, zeU]
 refine zao fun b1 hb1 => ?_
 simp only [Store.set_same, ssS, zeV, zeT, reduceIte, zeU]
 refine zai (of_ok k) ?_
 obtain ⟨w, le, fn, fs, hf⟩ : ∃ w le fn fs, zaV k = ⟨w, le, fn, fs⟩ := ⟨_, _, _, _, rfl⟩
 simp only [hf, formV, ssS, zeV, zeT, reduceIte, zeU]
 refine zao fun b3 hb3 => ?_
 have h13 : b1 ≠ b3 := zal (Store.set_same _ _ _) hb3
 have hS : ∀ x y, SubS m ((m.set b1 x).set b3 y) := fun x y => ((SubS.refl m).out hb1 _).out (by rw [Store.set_ne _ _ h13.symm] at hb3; exact hb3) _
 have hfe : ∀ xo yo, binV Tryz.prog .eql 100 .other xo yo (.agg [bs w, it le, .val (.bool fn), .val (.bool fs)]) (.agg [.val (.string (ByteArray.mk #[])), .val (.int .i64 0), .val (.bool false), .val (.bool false)]) = some (.val (.bool (decide (Form.mk w le fn fs = za2)))) := fun xo yo => form_eq xo yo ⟨w, le, fn, fs⟩
 simp only [Store.set_same, Store.set_set, Store.set_ne _ _ h13, hfe, ssS, zeV, zeT, reduceIte, zeU]
 have hF : (decide (Form.mk w le fn fs = za2) || (!fn && n != 0) || (!fs && !(s == [])) || decide (n < le) || decide (n > 4294967296)) = true → zaT k n s = false := by
  intro h
  unfold zaT
  rw [hf, if_pos h]
 have hT : (decide (Form.mk w le fn fs = za2) || (!fn && n != 0) || (!fs && !(s == [])) || decide (n < le) || decide (n > 4294967296)) = false → (!fs || (fn && s == [])) = true → zaT k n s = true := by
  intro h h2
  unfold zaT
  rw [hf, if_neg (by rw [h]; decide), if_pos h2]
 have hW : (decide (Form.mk w le fn fs = za2) || (!fn && n != 0) || (!fs && !(s == [])) || decide (n < le) || decide (n > 4294967296)) = false → (!fs || (fn && s == [])) = false → zaT k n s = zbD s := by
  intro h h2
  unfold zaT
  rw [hf, if_neg (by rw [h]; decide), if_neg (by rw [h2]; decide)]
 clear hf hfe
 generalize decide (Form.mk w le fn fs = za2) = hz at hF hT hW ⊢
 generalize h1 : (n != 0) = a1 at hF hT hW ⊢
 generalize h2 : (s == ([] : List UInt8)) = a2 at hF hT hW ⊢
 generalize h3 : decide (n < le) = a3 at hF hT hW ⊢
 generalize h4 : decide (n > 4294967296) = a4 at hF hT hW ⊢
 cases hz
 case true =>
  simp only [h1, h2, h3, h4, Store.set_same, Store.set_ne _ _ h13, ze6, ze4, ssS, zeV, zeT, reduceIte, zeU]
  exact zaS false (hF rfl) rfl (hS _ _)
 case false =>
  cases fn
  case true =>
   cases fs
   case true =>
    cases a3
    case true =>
     simp only [h1, h2, h3, h4, Store.set_same, Store.set_ne _ _ h13, ze6, ze4, ssS, zeV, zeT, reduceIte, zeU]
     exact zaS false (hF rfl) rfl (hS _ _)
    case false =>
     cases a4
     case true =>
      simp only [h1, h2, h3, h4, Store.set_same, Store.set_ne _ _ h13, ze6, ze4, ssS, zeV, zeT, reduceIte, zeU]
      exact zaS false (hF rfl) rfl (hS _ _)
     case false =>
      cases a2
      case true =>
       simp only [h1, h2, h3, h4, Store.set_same, Store.set_ne _ _ h13, ze6, ze4, ssS, zeV, zeT, reduceIte, zeU]
       exact zaS true (hT rfl rfl) rfl (hS _ _)
      case false =>
       simp only [h1, h2, h3, h4, Store.set_same, Store.set_ne _ _ h13, ze6, ze4, ssS, zeV, zeT, reduceIte, zeU]
       refine zai (written_ok E s) ?_
       simp only [ssS, zeV, zeT, reduceIte, zeU]
       exact zaS (zbD s) (hW rfl rfl) rfl (hS _ _)
   case false =>
    cases a2
    case true =>
     cases a3
     case true =>
      simp only [h1, h2, h3, h4, Store.set_same, Store.set_ne _ _ h13, ze6, ze4, ssS, zeV, zeT, reduceIte, zeU]
      exact zaS false (hF rfl) rfl (hS _ _)
     case false =>
      cases a4
      case true =>
       simp only [h1, h2, h3, h4, Store.set_same, Store.set_ne _ _ h13, ze6, ze4, ssS, zeV, zeT, reduceIte, zeU]
       exact zaS false (hF rfl) rfl (hS _ _)
      case false =>
       simp only [h1, h2, h3, h4, Store.set_same, Store.set_ne _ _ h13, ze6, ze4, ssS, zeV, zeT, reduceIte, zeU]
       exact zaS true (hT rfl rfl) rfl (hS _ _)
    case false =>
     simp only [h1, h2, h3, h4, Store.set_same, Store.set_ne _ _ h13, ze6, ze4, ssS, zeV, zeT, reduceIte, zeU]
     exact zaS false (hF rfl) rfl (hS _ _)
  case false =>
   cases a1
   case true =>
    simp only [h1, h2, h3, h4, Store.set_same, Store.set_ne _ _ h13, ze6, ze4, ssS, zeV, zeT, reduceIte, zeU]
    exact zaS false (hF rfl) rfl (hS _ _)
   case false =>
    cases fs
    case true =>
     cases a3
     case true =>
      simp only [h1, h2, h3, h4, Store.set_same, Store.set_ne _ _ h13, ze6, ze4, ssS, zeV, zeT, reduceIte, zeU]
      exact zaS false (hF rfl) rfl (hS _ _)
     case false =>
      cases a4
      case true =>
       simp only [h1, h2, h3, h4, Store.set_same, Store.set_ne _ _ h13, ze6, ze4, ssS, zeV, zeT, reduceIte, zeU]
       exact zaS false (hF rfl) rfl (hS _ _)
      case false =>
       simp only [h1, h2, h3, h4, Store.set_same, Store.set_ne _ _ h13, ze6, ze4, ssS, zeV, zeT, reduceIte, zeU]
       refine zai (written_ok E s) ?_
       simp only [ssS, zeV, zeT, reduceIte, zeU]
       exact zaS (zbD s) (hW rfl rfl) rfl (hS _ _)
    case false =>
     cases a2
     case true =>
      cases a3
      case true =>
       simp only [h1, h2, h3, h4, Store.set_same, Store.set_ne _ _ h13, ze6, ze4, ssS, zeV, zeT, reduceIte, zeU]
       exact zaS false (hF rfl) rfl (hS _ _)
      case false =>
       cases a4
       case true =>
        simp only [h1, h2, h3, h4, Store.set_same, Store.set_ne _ _ h13, ze6, ze4, ssS, zeV, zeT, reduceIte, zeU]
        exact zaS false (hF rfl) rfl (hS _ _)
       case false =>
        simp only [h1, h2, h3, h4, Store.set_same, Store.set_ne _ _ h13, ze6, ze4, ssS, zeV, zeT, reduceIte, zeU]
        exact zaS true (hT rfl rfl) rfl (hS _ _)
     case false =>
      simp only [h1, h2, h3, h4, Store.set_same, Store.set_ne _ _ h13, ze6, ze4, ssS, zeV, zeT, reduceIte, zeU]
      exact zaS false (hF rfl) rfl (hS _ _)
theorem cCheck_ok (E : Env Γ) (k n : Int) (s : List UInt8) : zae Tryz.prog Γ 20 [cmdV k n s] m fun o m' => o = .ret (it (if zaT k n s then 0 else 2)) ∧ m' = m := by
 refine zae.less (A := fun o m' => o = .ret (it (if zaT k n s then 0 else 2)) ∧ SubS m m') ?_ fun o m' h => ⟨m, h.2, h.1, rfl⟩
 refine zad mixed F20_ok (by rintro v m b x _ ⟨⟨⟩, _⟩) ?_
 simp only [F20, cmdV, ss0, ze0, zeV]
 simp only [ssS, zeV, zeT, reduceIte, zeU]
 refine zao fun b1 hb1 => ?_
 simp only [Store.set_same, ssS, zeV, zeT, reduceIte, zeU]
 refine zai (right_ok E k n s) ?_
 cases zaT k n s
 ·simp only [ze4, ssS, zeV, zeT, reduceIte, zeU]
  exact zah zac ⟨rfl, (SubS.refl m).out hb1 _⟩
 ·simp only [ze6, ssS, zeV, zeT, reduceIte, zeU]
  exact zah zac ⟨rfl, (SubS.refl m).out hb1 _⟩
end
end Go.Av.Fn
/-
 DERIVED: THE SHELF's CONTRACTS AT THIS DUMP, IN PLAIN WORDS (tools/lay-plain.mjs out of 'TryzShelf.lean', which tools/lay-shelf.mjs wrote): THE SAME DECLARATIONS UNDER THE SAME NAMES: 'import', 'namespace', 'open', 'def', 'theorem' AND NOTHING ELSE: no command of the shelf's: FOR A HAND-IN. Each laying: the table of numbers ('.._ren') and one theorem, a field a fact of the dump's own or the kernel's comparison; each contract: ONE APPLICATION.
-/
namespace Go.Proofs
open Go.Shelf
def Tryz.lays169_ren : Go.Shelf.Ren := ⟨fun | 169 => 241 | n => n, fun | 70 => 326 | 9 => 9 | 0 => 0 | 72 => 328 | 37 => 40 | 127 => 201 | 3 => 3 | 5 => 5 | n => n, fun | n => n⟩
theorem Tryz.lays169 : Go.Proofs.Lays.n169 Tryz.prog Tryz.lays169_ren := {
 mixed := by kernel_rfl
 f169 := Tryz.func241.trans (congrArg some (by kernel_rfl))
 t0 := Tryz.underlying0
 a0 := Tryz.isAgg0
 z0 := Tryz.sizeOf0
 v0 := Tryz.zeroValue0
 t3 := Tryz.underlying3
 a3 := Tryz.isAgg3
 z3 := Tryz.sizeOf3
 v3 := Tryz.zeroValue3
 t9 := Tryz.underlying9
 a9 := Tryz.isAgg9
 z9 := Tryz.sizeOf9
 v9 := Tryz.zeroValue9
 t37 := Tryz.underlying40
 a37 := Tryz.isAgg40
 z37 := Tryz.sizeOf40
 v37 := Tryz.zeroValue40
 t70 := Tryz.underlying326
 a70 := Tryz.isAgg326
 z70 := Tryz.sizeOf326
 v70 := Tryz.zeroValue326
 t72 := Tryz.underlying328
 a72 := Tryz.isAgg328
 z72 := Tryz.sizeOf328
 v72 := Tryz.zeroValue328
 t127 := Tryz.underlying201
 a127 := Tryz.isAgg201
 z127 := Tryz.sizeOf201
 v127 := Tryz.zeroValue201 }
theorem Tryz.Builder_Extra_169 : Builder.Extra Tryz.prog Tryz.lays169_ren := {
 sizeBuilder := by kernel_rfl
 liesBuilder := by kernel_rfl
 t5 := Tryz.underlying5
 a5 := Tryz.isAgg5
 z5 := Tryz.sizeOf5
 v5 := Tryz.zeroValue5
 infoByte := by kernel_rfl
 cellsByte := by kernel_rfl
 sizeByte := by kernel_rfl
 neB5 := by decide }
def Tryz.lays137_ren : Go.Shelf.Ren := ⟨fun | 137 => 242 | 217 => 137 | 266 => 162 | n => n, fun | 9 => 9 | 5 => 5 | 3 => 3 | n => n, fun | n => n⟩
theorem Tryz.lays137 : Go.Proofs.Lays.n137 Tryz.prog Tryz.lays137_ren := {
 mixed := by kernel_rfl
 f137 := Tryz.func242.trans (congrArg some (by kernel_rfl))
 f217 := Tryz.func137.trans (congrArg some (by kernel_rfl))
 f266 := Tryz.func162.trans (congrArg some (by kernel_rfl))
 t3 := Tryz.underlying3
 a3 := Tryz.isAgg3
 z3 := Tryz.sizeOf3
 v3 := Tryz.zeroValue3
 t5 := Tryz.underlying5
 a5 := Tryz.isAgg5
 z5 := Tryz.sizeOf5
 v5 := Tryz.zeroValue5
 t9 := Tryz.underlying9
 a9 := Tryz.isAgg9
 z9 := Tryz.sizeOf9
 v9 := Tryz.zeroValue9 }
open Go.RowKit in
theorem Tryz.strings_IndexByte (s : ByteArray) (c : Int) (w : World) :
  Calls Tryz.prog 242 #[.string s, .int .u8 c] w fun e w' => e = .returned (.int .i64 (Lib.indexByte s.data.toList c.toNat.toUInt8)) ∧ w' = w := Any.strings_IndexByte Tryz.lays137 s c w
def Tryz.laysM316_ren : Go.Shelf.Ren := ⟨fun | 316 => 131 | n => n, fun | 9 => 9 | 3 => 3 | 4 => 4 | 37 => 40 | 0 => 0 | 127 => 201 | 5 => 5 | n => n, fun | n => n⟩
theorem Tryz.laysM316 : Go.Proofs.LaysM.n316 Tryz.prog Tryz.laysM316_ren := {
 mixed := by kernel_rfl
 f316 := Tryz.func131.trans (congrArg some (by kernel_rfl))
 t0 := Tryz.underlying0
 a0 := Tryz.isAgg0
 z0 := Tryz.sizeOf0
 v0 := Tryz.zeroValue0
 t3 := Tryz.underlying3
 a3 := Tryz.isAgg3
 z3 := Tryz.sizeOf3
 v3 := Tryz.zeroValue3
 t4 := Tryz.underlying4
 a4 := Tryz.isAgg4
 z4 := Tryz.sizeOf4
 v4 := Tryz.zeroValue4
 t9 := Tryz.underlying9
 a9 := Tryz.isAgg9
 z9 := Tryz.sizeOf9
 v9 := Tryz.zeroValue9
 t37 := Tryz.underlying40
 a37 := Tryz.isAgg40
 z37 := Tryz.sizeOf40
 v37 := Tryz.zeroValue40
 t127 := Tryz.underlying201
 a127 := Tryz.isAgg201
 z127 := Tryz.sizeOf201
 v127 := Tryz.zeroValue201
 t5 := Tryz.underlying5
 a5 := Tryz.isAgg5
 z5 := Tryz.sizeOf5
 v5 := Tryz.zeroValue5
 i0 := by kernel_rfl
 i3 := by kernel_rfl
 i4 := by kernel_rfl
 i5 := by kernel_rfl
 i9 := by kernel_rfl
 i37 := by kernel_rfl
 i127 := by kernel_rfl }
open Go.RowKit in
theorem Tryz.stringslite_Clone (s : ByteArray) (w : World) (hlim : s.size ≤ 281474976710656) :
  Calls Tryz.prog 131 #[.string s] w fun e w' => e = .returned (.string s) ∧ Below w.heap.size w w' := Any.stringslite_Clone Tryz.laysM316 s w hlim
def Tryz.laysC174_ren : Go.Shelf.Ren := ⟨fun | 174 => 125 | 247 => 141 | 245 => 142 | 287 => 164 | 279 => 165 | 280 => 166 | 281 => 167 | 282 => 168 | 321 => 193 | 322 => 194 | 316 => 131 | 171 => 62 | 205 => 195 | 243 => 104 | 246 => 129 | 283 => 148 | 284 => 149 | 285 => 150 | 286 => 151 | 129 => 177 | 317 => 176 | 318 => 178 | 319 => 179 | 320 => 180 | 337 => 204 | 338 => 205 | n => n, fun | 9 => 9 | 3 => 3 | 2 => 2 | 75 => 163 | 85 => 164 | 4 => 4 | 167 => 207 | 5 => 5 | 53 => 154 | 175 => 208 | 46 => 156 | 168 => 210 | 37 => 40 | 0 => 0 | 210 => 241 | 21 => 21 | 127 => 201 | 145 => 284 | 143 => 282 | 171 => 190 | 173 => 192 | 212 => 227 | 51 => 204 | 20 => 20 | 213 => 228 | 232 => 304 | 233 => 305 | 80 => 260 | n => n, fun | 15 => 4 | 16 => 5 | 17 => 1 | 18 => 7 | 19 => 8 | n => n⟩
theorem Tryz.laysC174 : Go.Proofs.LaysC.n174 Tryz.prog Tryz.laysC174_ren := {
 mixed := by kernel_rfl
 f129 := Tryz.func177.trans (congrArg some (by kernel_rfl))
 f171 := Tryz.func62.trans (congrArg some (by kernel_rfl))
 f174 := Tryz.func125.trans (congrArg some (by kernel_rfl))
 f205 := Tryz.func195.trans (congrArg some (by kernel_rfl))
 f243 := Tryz.func104.trans (congrArg some (by kernel_rfl))
 f245 := Tryz.func142.trans (congrArg some (by kernel_rfl))
 f246 := Tryz.func129.trans (congrArg some (by kernel_rfl))
 f247 := Tryz.func141.trans (congrArg some (by kernel_rfl))
 f279 := Tryz.func165.trans (congrArg some (by kernel_rfl))
 f280 := Tryz.func166.trans (congrArg some (by kernel_rfl))
 f281 := Tryz.func167.trans (congrArg some (by kernel_rfl))
 f282 := Tryz.func168.trans (congrArg some (by kernel_rfl))
 f283 := Tryz.func148.trans (congrArg some (by kernel_rfl))
 f284 := Tryz.func149.trans (congrArg some (by kernel_rfl))
 f285 := Tryz.func150.trans (congrArg some (by kernel_rfl))
 f286 := Tryz.func151.trans (congrArg some (by kernel_rfl))
 f287 := Tryz.func164.trans (congrArg some (by kernel_rfl))
 f316 := Tryz.func131.trans (congrArg some (by kernel_rfl))
 f317 := Tryz.func176.trans (congrArg some (by kernel_rfl))
 f318 := Tryz.func178.trans (congrArg some (by kernel_rfl))
 f319 := Tryz.func179.trans (congrArg some (by kernel_rfl))
 f320 := Tryz.func180.trans (congrArg some (by kernel_rfl))
 f321 := Tryz.func193.trans (congrArg some (by kernel_rfl))
 f322 := Tryz.func194.trans (congrArg some (by kernel_rfl))
 f337 := Tryz.func204.trans (congrArg some (by kernel_rfl))
 f338 := Tryz.func205.trans (congrArg some (by kernel_rfl))
 t0 := Tryz.underlying0
 a0 := Tryz.isAgg0
 z0 := Tryz.sizeOf0
 v0 := Tryz.zeroValue0
 t2 := Tryz.underlying2
 a2 := Tryz.isAgg2
 z2 := Tryz.sizeOf2
 v2 := Tryz.zeroValue2
 t3 := Tryz.underlying3
 a3 := Tryz.isAgg3
 z3 := Tryz.sizeOf3
 v3 := Tryz.zeroValue3
 t4 := Tryz.underlying4
 a4 := Tryz.isAgg4
 z4 := Tryz.sizeOf4
 v4 := Tryz.zeroValue4
 t5 := Tryz.underlying5
 a5 := Tryz.isAgg5
 z5 := Tryz.sizeOf5
 v5 := Tryz.zeroValue5
 t9 := Tryz.underlying9
 a9 := Tryz.isAgg9
 z9 := Tryz.sizeOf9
 v9 := Tryz.zeroValue9
 t20 := Tryz.underlying20
 a20 := Tryz.isAgg20
 z20 := Tryz.sizeOf20
 v20 := Tryz.zeroValue20
 t21 := Tryz.underlying21
 a21 := Tryz.isAgg21
 z21 := Tryz.sizeOf21
 v21 := Tryz.zeroValue21
 t37 := Tryz.underlying40
 a37 := Tryz.isAgg40
 z37 := Tryz.sizeOf40
 v37 := Tryz.zeroValue40
 t46 := Tryz.underlying156
 a46 := Tryz.isAgg156
 z46 := Tryz.sizeOf156
 v46 := Tryz.zeroValue156
 t51 := Tryz.underlying204
 a51 := Tryz.isAgg204
 z51 := Tryz.sizeOf204
 v51 := Tryz.zeroValue204
 t53 := Tryz.underlying154
 a53 := Tryz.isAgg154
 z53 := Tryz.sizeOf154
 v53 := Tryz.zeroValue154
 t75 := Tryz.underlying163
 a75 := Tryz.isAgg163
 z75 := Tryz.sizeOf163
 v75 := Tryz.zeroValue163
 t85 := Tryz.underlying164
 a85 := Tryz.isAgg164
 z85 := Tryz.sizeOf164
 v85 := Tryz.zeroValue164
 t127 := Tryz.underlying201
 a127 := Tryz.isAgg201
 z127 := Tryz.sizeOf201
 v127 := Tryz.zeroValue201
 t143 := Tryz.underlying282
 a143 := Tryz.isAgg282
 z143 := Tryz.sizeOf282
 v143 := Tryz.zeroValue282
 t145 := Tryz.underlying284
 a145 := Tryz.isAgg284
 z145 := Tryz.sizeOf284
 v145 := Tryz.zeroValue284
 t167 := Tryz.underlying207
 a167 := Tryz.isAgg207
 z167 := Tryz.sizeOf207
 v167 := Tryz.zeroValue207
 t168 := Tryz.underlying210
 a168 := Tryz.isAgg210
 z168 := Tryz.sizeOf210
 v168 := Tryz.zeroValue210
 t171 := Tryz.underlying190
 a171 := Tryz.isAgg190
 z171 := Tryz.sizeOf190
 v171 := Tryz.zeroValue190
 t173 := Tryz.underlying192
 a173 := Tryz.isAgg192
 z173 := Tryz.sizeOf192
 v173 := Tryz.zeroValue192
 t175 := Tryz.underlying208
 a175 := Tryz.isAgg208
 z175 := Tryz.sizeOf208
 v175 := Tryz.zeroValue208
 t210 := Tryz.underlying241
 a210 := Tryz.isAgg241
 z210 := Tryz.sizeOf241
 v210 := Tryz.zeroValue241
 t212 := Tryz.underlying227
 a212 := Tryz.isAgg227
 z212 := Tryz.sizeOf227
 v212 := Tryz.zeroValue227
 t213 := Tryz.underlying228
 a213 := Tryz.isAgg228
 z213 := Tryz.sizeOf228
 t232 := Tryz.underlying304
 a232 := Tryz.isAgg304
 z232 := Tryz.sizeOf304
 v232 := Tryz.zeroValue304
 t233 := Tryz.underlying305
 a233 := Tryz.isAgg305
 z233 := Tryz.sizeOf305
 v233 := Tryz.zeroValue305
 g15 := by kernel_rfl
 g16 := by kernel_rfl
 g17 := by kernel_rfl
 g18 := by kernel_rfl
 g19 := by kernel_rfl
 t80 := Tryz.underlying260
 a80 := Tryz.isAgg260
 z80 := Tryz.sizeOf260
 v80 := Tryz.zeroValue260
 i0 := by kernel_rfl
 i2 := by kernel_rfl
 i3 := by kernel_rfl
 i4 := by kernel_rfl
 i5 := by kernel_rfl
 i9 := by kernel_rfl
 i20 := by kernel_rfl
 i21 := by kernel_rfl
 i37 := by kernel_rfl
 i46 := by kernel_rfl
 i51 := by kernel_rfl
 i53 := by kernel_rfl
 i75 := by kernel_rfl
 i80 := by kernel_rfl
 i85 := by kernel_rfl
 i127 := by kernel_rfl
 i143 := by kernel_rfl
 i145 := by kernel_rfl
 i167 := by kernel_rfl
 i168 := by kernel_rfl
 i171 := by kernel_rfl
 i173 := by kernel_rfl
 i175 := by kernel_rfl
 i210 := by kernel_rfl
 i212 := by kernel_rfl
 i232 := by kernel_rfl
 i233 := by kernel_rfl
 m15 := by kernel_rfl
 m16 := by kernel_rfl
 m17 := by kernel_rfl
 m18 := by kernel_rfl
 m19 := by kernel_rfl
 c0 := by kernel_rfl
 c2 := by kernel_rfl
 c3 := by kernel_rfl
 c4 := by kernel_rfl
 c5 := by kernel_rfl
 c9 := by kernel_rfl
 c20 := by kernel_rfl
 c21 := by kernel_rfl
 c37 := by kernel_rfl
 c46 := by kernel_rfl
 c51 := by kernel_rfl
 c53 := by kernel_rfl
 c75 := by kernel_rfl
 c80 := by kernel_rfl
 c85 := by kernel_rfl
 c127 := by kernel_rfl
 c143 := by kernel_rfl
 c145 := by kernel_rfl
 c167 := by kernel_rfl
 c168 := by kernel_rfl
 c171 := by kernel_rfl
 c173 := by kernel_rfl
 c175 := by kernel_rfl
 c210 := by kernel_rfl
 c212 := by kernel_rfl
 c213 := by kernel_rfl
 c232 := by kernel_rfl
 c233 := by kernel_rfl }
open Go.RowKit in
theorem Tryz.strconv_ParseInt_10_at64_ok (s : ByteArray) (hmax : s.size ≤ 9223372036854775806) (v : Int) (h : Lib.parseIntB 64 s.data.toList = .ok v) (w : World) :
  Calls Tryz.prog 125 #[.string s, .int .i64 10, .int .i64 64] w fun e w' => e = .returned (.tuple #[.int .i64 v, .nilIface]) ∧ (w' = w ∨ ∃ t, w' = Lib.bytesWorld w 5 t) := Any.strconv_ParseInt_10_at64_ok Tryz.laysC174 s hmax v h w
open Go.RowKit in
theorem Tryz.strconv_ParseInt_10_at64_range (s : ByteArray) (hlim : s.size ≤ 281474976710656) (h : Lib.parseIntB 64 s.data.toList = .range) (ev : Value) (w : World) (hv : w.cell? ⟨5, 0, none⟩ = some ev) (hev : ev = .nilIface ∨ ∃ te pe, ev = .iface te pe) :
  Calls Tryz.prog 125 #[.string s, .int .i64 10, .int .i64 64] w fun e w' => ∃ N, e = .returned (.tuple #[.int .i64 (Lib.intSat 64 s.data.toList), .iface 210 (.pointer (some ⟨N, 0, none⟩))]) ∧ w.heap.size ≤ N ∧ w'.heap[N]? = some (.cells #[.string ⟨#[80, 97, 114, 115, 101, 73, 110, 116]⟩, .string s, ev] 241 (0, 0)) ∧ Below w.heap.size w w' := Any.strconv_ParseInt_10_at64_range Tryz.laysC174 s hlim h ev w hv hev
def Tryz.lays240_ren : Go.Shelf.Ren := ⟨fun | 240 => 251 | 276 => 261 | n => n, fun | 0 => 0 | 4 => 4 | 9 => 9 | 20 => 20 | 37 => 40 | 70 => 326 | 72 => 328 | 164 => 248 | n => n, fun n => n⟩
theorem Tryz.lays240 : Go.Proofs.Lays.n240 Tryz.prog Tryz.lays240_ren := {
 mixed := by kernel_rfl
 f240 := Tryz.func251.trans (congrArg some (by kernel_rfl))
 f276 := Tryz.func261.trans (congrArg some (by kernel_rfl))
 t0 := Tryz.underlying0
 a0 := Tryz.isAgg0
 z0 := Tryz.sizeOf0
 v0 := Tryz.zeroValue0
 t4 := Tryz.underlying4
 a4 := Tryz.isAgg4
 z4 := Tryz.sizeOf4
 v4 := Tryz.zeroValue4
 t9 := Tryz.underlying9
 a9 := Tryz.isAgg9
 z9 := Tryz.sizeOf9
 v9 := Tryz.zeroValue9
 t20 := Tryz.underlying20
 a20 := Tryz.isAgg20
 z20 := Tryz.sizeOf20
 v20 := Tryz.zeroValue20
 t70 := Tryz.underlying326
 a70 := Tryz.isAgg326
 z70 := Tryz.sizeOf326
 v70 := Tryz.zeroValue326
 t72 := Tryz.underlying328
 a72 := Tryz.isAgg328
 z72 := Tryz.sizeOf328
 v72 := Tryz.zeroValue328
 t164 := Tryz.underlying248
 a164 := Tryz.isAgg248
 z164 := Tryz.sizeOf248
 v164 := Tryz.zeroValue248
}
theorem Tryz.Builder_X72_240 : Builder.X72 Tryz.prog Tryz.lays240_ren := {
 sizeBuilder := by kernel_rfl
 liesBuilder := by kernel_rfl
}
end Go.Proofs
/- The library's functions, told over abstract values. No condition. -/
namespace Go.Proofs
open Go.Shelf Go.RowKit
variable {P : Program} {ρ : Ren}
theorem liesAt_off {e : TypeId} (hc : P.cellsOf e = 1) (count off n : Nat) (hn : off + n ≤ count) : liesAt P P.depth e count off e n = true := by
 have hd : P.depth = (2 * (P.types.size + Made.depth) + 1) + 1 := rfl
 rw [hd]
 simp only [liesAt, zfC]
 left
 rw [hd]
 simp [rowAt, hc, hn, sameLayout, Nat.mod_one]
theorem unsafeString_at (w : World) (pt it ty e : TypeId) (hp : P.underlying pt = some (.pointer e)) (hc : P.cellsOf e = 1) (a : Addr) (cells : Nat) (hsh : w.shape? a.block = some (e, cells)) (l : List UInt8) (h0 : l ≠ []) (hn : a.off + l.length ≤ cells) (h63 : l.length ≤ 9223372036854775807)
  (hcell : ∀ j x, l[j]? = some x → w.cell? (a.add j) = some (.int .u8 x.toNat)) :
  (Builtin.unsafeString_ #[pt, it] ty #[.pointer (some a), .int .i64 l.length]).run P w = .ok (.string ⟨l.toArray⟩) (w.freeze a l.length) := by
 have hl : l.length ≠ 0 := by simpa using h0
 have hlb := Lib.run_loadBytes (P := P) w l a .empty hcell
 have hlies := liesAt_off (P := P) hc (cells / P.cellsOf e) a.off l.length (by rw [hc]; simpa using hn)
 have h63' : ¬ (9223372036854775807 : Int) < (l.length : Int) := by omega
 have hdef : Builtin.unsafeString_ #[pt, it] ty #[.pointer (some a), .int .i64 l.length] =
   (do
    let n ← asInt (.int .i64 l.length)
    if n < 0 then runtimePanic (.error "unsafe.String: len out of range")
    if n > IntKind.i64.max then unsupported (.unsafePointer "String: a length above the largest int")
    if n = 0 then pure (.string .empty)
    else if ← variablesAt a (← elemOf pt) n.toNat then do
     let s ← loadBytes a .empty n.toNat
     freeze a n.toNat
     pure (.string s)
    else unsupported (.unsafePointer "String: not so many bytes at ptr")) := rfl
 rw [hdef]
 have hmax : IntKind.i64.max = 9223372036854775807 := rfl
 have hneg : ¬ (l.length : Int) < 0 := by omega
 simp [asInt, asIntOf, hmax, h63', hneg, hl, variablesAt, hsh, elemOf, run_underlying hp, hlies, hlb]
set_option maxHeartbeats 1000000 in
set_option maxRecDepth 100000 in
theorem builderString_at (L : Lays.n169 P ρ) (X : Builder.Extra P ρ) (b : Nat) (p : Value) (a : Addr) (cap n : Nat) (l : List UInt8) (w : World) (hbk : w.heap[b]? = some (.cells #[p, .slice (some a) l.length cap] (ρ.t 72) (0, 0))) (h0 : l ≠ []) (hcap : l.length ≤ cap) (h63 : l.length ≤ 9223372036854775807)
  (hsh : w.shape? a.block = some (ρ.t 5, n)) (hn : a.off + l.length ≤ n) (hcell : ∀ j x, l[j]? = some x → w.cell? (a.add j) = some (.int .u8 x.toNat)) :
  Calls P (ρ.f 169) #[.pointer (some ⟨b, 0, none⟩)] w fun e w' => e = .returned (.string ⟨l.toArray⟩) ∧ w' = w.drew.freeze a l.length := by
 have hl0 : l.length ≠ 0 := by simpa using h0
 have c1 : w.drew.cell? ⟨b, 1, none⟩ = some (.slice (some a) l.length cap) := by
  have : w.drew.heap[b]? = some (.cells #[p, .slice (some a) l.length cap] (ρ.t 72) (0, 0)) := hbk
  rw [Lib.cell_of_heap this]; rfl
 have hSD : (Builtin.unsafeSliceData_ #[(ρ.t 37)] (ρ.t 127) #[.slice (some a) l.length cap]).run P w.drew = .ok (.pointer (some a)) w.drew :=
  Lib.run_unsafeSliceData_row _ _ _ _ _ _ (by omega)
 have hUS : (Builtin.unsafeString_ #[(ρ.t 127), (ρ.t 3)] (ρ.t 9) #[.pointer (some a), .int .i64 l.length]).run P w.drew = .ok (.string ⟨l.toArray⟩) (w.drew.freeze a l.length) :=
  unsafeString_at w.drew (ρ.t 127) (ρ.t 3) (ρ.t 9) (ρ.t 5) L.t127 X.cellsByte a n hsh l h0 hn h63 hcell
 have mixed := L.mixed
 have t72 := L.t72; have a72 := L.a72; have z72 := L.z72; have v72 := L.v72; have u72 := run_underlying L.t72
 have t70 := L.t70; have a70 := L.a70; have z70 := L.z70; have v70 := L.v70; have u70 := run_underlying L.t70
 have t37 := L.t37; have a37 := L.a37; have z37 := L.z37; have v37 := L.v37; have u37 := run_underlying L.t37
 have t127 := L.t127; have a127 := L.a127; have z127 := L.z127; have v127 := L.v127; have u127 := run_underlying L.t127
 have t3 := L.t3; have a3 := L.a3; have z3 := L.z3; have v3 := L.v3; have u3 := run_underlying L.t3
 have t9 := L.t9; have a9 := L.a9; have z9 := L.z9; have v9 := L.v9; have u9 := run_underlying L.t9
 have t5 := X.t5; have a5 := X.a5; have z5 := X.z5; have v5 := X.v5; have u5 := run_underlying X.t5
 go_enter L.f169, Body.n169_ntmps ρ
 go_wp2
 go_region_o
 all_goals (go_wp2; go_ret; exact ⟨rfl, rfl⟩)
end Go.Proofs
/- The library's functions hold what is asked of them. No condition but the variable that ParseInt looks at. -/
namespace Go.Av
open Go.RowKit
section
variable {P : Program} {Γ : Glob} {B0 : Nat} {G : Gh} {m : Store} {w : World}
theorem zbd {a : Addr} {n b : Nat} (h : b ≠ a.block) : (w.freeze a n).heap[b]? = w.heap[b]? := by
 unfold World.freeze
 split
 ·rfl
 ·simp only [zfM]
  rw [if_neg (fun e => h e.symm)]
theorem cell_freeze {a c : Addr} {n : Nat} : (w.freeze a n).cell? c = w.cell? c := by
 by_cases h : c.block = a.block
 ·unfold World.freeze
  split
  ·rfl
  ·simp only [World.cell?, zfM, h, if_true]
   cases hb : w.heap[a.block]? with
   | none => rfl
   | some o => cases o <;> rfl
 ·exact World.cell?_of_block (zbd h)
theorem zeC {a : Addr} {n : Nat} : (w.freeze a n).heap.size = w.heap.size := by
 unfold World.freeze
 split
 ·rfl
 ·simp
theorem Rep.freeze (h : Rep Γ B0 G m w) {t : Nat} {T : TypeId} {k : Nat} (ht : m t = some (.tip T k)) {a : Addr} {E C n : Nat} (hH : G.H t k = some (a.block, E, C)) : Rep Γ B0 G (fun c => if c = t then none else m c) (w.freeze a n) := by
 obtain ⟨_, B, E', C', q1, q2, q3, q4, ⟨cs0, fz0, q5⟩, _⟩ := h.tip t T k ht
 rw [hH] at q1
 simp only [Option.some.injEq, Prod.mk.injEq] at q1
 obtain ⟨rfl, rfl, rfl⟩ := q1
 have sub : ∀ b x, (if b = t then none else m b) = some x → b ≠ t ∧ m b = some x := by
  intro b x hb
  by_cases e : b = t
  ·simp [e] at hb
  ·exact ⟨e, by simpa [e] using hb⟩
 exact {
  K := fun b o u hu => by rw [cell_freeze]; exact h.K b o u hu
  base := by rw [zeC]; exact h.base
  hist := fun t' v x hx => by rw [zeC]; exact ⟨(h.hist t' v x hx).1, fun T' v' hv => (h.hist t' v x hx).2 T' v' (sub _ _ hv).2⟩
  var := fun b T' cs hb => by
   obtain ⟨h1, ⟨us, h2, h3⟩, h4⟩ := h.var b T' cs (sub _ _ hb).2
   have hne : b ≠ a.block := by rintro rfl; exact q4 _ _ (sub _ _ hb).2
   exact ⟨h1, ⟨us, by rw [zbd hne]; exact h2, h3⟩, h4⟩
  tip := fun t' T' v ht' => by
   rw [zeC]
   obtain ⟨hne, ht''⟩ := sub _ _ ht'
   obtain ⟨p1, B', E', C', p2, p3, p4, p5, ⟨y1, y2, y3⟩, p6⟩ := h.tip t' T' v ht''
   have hB : B' ≠ a.block := by
    rintro rfl
    exact h.apart t' T' v t T k a.block E' C' E C ht'' ht hne p2 hH
   refine ⟨p1, B', E', C', p2, p3, p4, fun T2 cs hc => p5 T2 cs (sub _ _ hc).2, ⟨y1, y2, by rw [zbd hB]; exact y3⟩, fun o h1 h2 => ?_⟩
   obtain ⟨f1, f2, f3⟩ := p6 o h1 h2
   exact ⟨by rw [cell_freeze]; exact f1, by rw [World.frozen?_of_block (w := w) (zbd hB)]; exact f2, f3⟩
  own := fun t' v B E C k => by rw [zeC]; exact ⟨(h.own t' v B E C k).1, (h.own t' v B E C k).2.1, fun T cs hc => (h.own t' v B E C k).2.2 T cs (sub _ _ hc).2⟩
  apart := fun t1 T1 v1 t2 T2 v2 B E C E' C' k1 k2 => h.apart t1 T1 v1 t2 T2 v2 B E C E' C' (sub _ _ k1).2 (sub _ _ k2).2
  glob := h.glob
  gsz := fun g cs hg h20 => by
   obtain ⟨a1, us', T', fz, b', c'⟩ := h.gsz g cs hg h20
   exact ⟨a1, us', T', fz, by rw [zbd (by omega)]; exact b', c'⟩
  loop := fun b r f t' ps x y D hb => by
   obtain ⟨h1, us, h2, h3⟩ := h.loop b r f t' ps x y D (sub _ _ hb).2
   have hne : b ≠ a.block := by rintro rfl; rw [q5.1] at h2; cases h2
   exact ⟨h1, us, by rw [zbd hne]; exact h2, h3⟩
  defer := fun b hb => by
   obtain ⟨h1, h2⟩ := h.defer b (sub _ _ hb).2
   have hne : b ≠ a.block := by rintro rfl; rw [q5.1] at h2; cases h2
   exact ⟨h1, by rw [zbd hne]; exact h2⟩ }
theorem by8s_inv : ∀ {l : List UInt8} {us : List Value}, RelL G (l.map by8) us → us = l.map fun b => Value.int .u8 b.toNat
 | [], us, h => h.nil_inv
 | b :: l, us, h => by
  obtain ⟨y, ys, rfl, r1, r2⟩ := h.cons_inv
  cases r1
  rw [by8s_inv r2]
  rfl
end
end Go.Av
namespace Go.Av.Fn
set_option linter.unusedSimpArgs false
set_option linter.unusedVariables false
set_option maxRecDepth 10000
open Go.Proofs Go.RowKit
theorem idxB_eq (s : List UInt8) (c : UInt8) : Lib.indexByte s c = idxB s c := by
 unfold idxB
 induction s with
 | nil => rfl
 | cons b s ih =>
  rw [List.findIdx?_cons, Lib.indexByte]
  by_cases h : (b == c) = true
  ·simp [h]
  ·simp only [h, ze3, if_false]
   rw [ih]
   cases List.findIdx? (· == c) s with
   | none => rfl
   | some i =>
    simp only [Option.map_some]
    have : ¬ ((i : Int) == -1) = true := by
     intro k
     have := eq_of_beq k
     omega
    rw [if_neg this]
    rfl
theorem parse_ge : ∀ (l : List UInt8) (acc u : Nat), Lib.parseUintM (2 ^ 64 - 1) acc l = .ok u → acc ≤ u
 | [], acc, u, h => by
  simp only [Lib.parseUintM, Lib.NumEnd.ok.injEq] at h
  omega
 | c :: r, acc, u, h => by
  simp only [Lib.parseUintM] at h
  split at h
  ·split at h
   ·cases h
   ·split at h
    ·cases h
    ·have := parse_ge r _ u h
     omega
  ·cases h
theorem parse_no : ∀ (l : List UInt8) (acc : Nat), (∀ c ∈ l, dig c = true) → (∃ u, Lib.parseUintM (2 ^ 64 - 1) acc l = .ok u) ∨ Lib.parseUintM (2 ^ 64 - 1) acc l = .range
 | [], acc, _ => .inl ⟨acc, rfl⟩
 | c :: r, acc, hd => by
  have hc := hd c (ze9 ..)
  simp only [dig, ze2, decide_eq_true_eq] at hc
  have hc' : 48 ≤ c.toNat ∧ c.toNat ≤ 57 := hc
  simp only [Lib.parseUintM, if_pos hc']
  split
  ·exact .inr rfl
  ·split
   ·exact .inr rfl
   ·exact parse_no r _ (fun c hc => hd c (zfa _ hc))
theorem parse_num : ∀ (l : List UInt8) (acc : Nat), (∀ c ∈ l, dig c = true) → acc < 9223372036854775808 →
  (∃ u, Lib.parseUintM (2 ^ 64 - 1) acc l = .ok u ∧ numL acc l = if u < 9223372036854775808 then some u else none) ∨ (Lib.parseUintM (2 ^ 64 - 1) acc l = .range ∧ numL acc l = none)
 | [], acc, _, ha => .inl ⟨acc, rfl, by simp only [numL]; rw [if_pos ha]⟩
 | c :: r, acc, hd, ha => by
  have hc := hd c (ze9 ..)
  simp only [dig, ze2, decide_eq_true_eq] at hc
  have hc' : 48 ≤ c.toNat ∧ c.toNat ≤ 57 := hc
  simp only [Lib.parseUintM, numL, if_pos hc']
  have key : (acc > (9223372036854775807 - (c.toNat - 48)) / 10) ↔ 9223372036854775807 < 10 * acc + (c.toNat - 48) := by omega
  have e10 : acc * 10 + (c.toNat - 48) = 10 * acc + (c.toNat - 48) := by omega
  rw [e10]
  by_cases h1 : 1844674407370955162 ≤ acc
  ·rw [if_pos h1, if_pos (key.2 (by omega))]
   exact .inr ⟨rfl, rfl⟩
  ·rw [if_neg h1]
   by_cases h2 : 2 ^ 64 - 1 < 10 * acc + (c.toNat - 48)
   ·rw [if_pos h2, if_pos (key.2 (by omega))]
    exact .inr ⟨rfl, rfl⟩
   ·rw [if_neg h2]
    by_cases h3 : 9223372036854775807 < 10 * acc + (c.toNat - 48)
    ·rw [if_pos (key.2 h3)]
     rcases parse_no r (10 * acc + (c.toNat - 48)) (fun c hc => hd c (zfa _ hc)) with ⟨u, hp⟩ | hp
     ·have := parse_ge r _ u hp
      exact .inl ⟨u, hp, by rw [if_neg (by omega)]⟩
     ·exact .inr ⟨hp, rfl⟩
    ·rw [if_neg (fun k => h3 (key.1 k))]
     exact parse_num r _ (fun c hc => hd c (zfa _ hc)) (by omega)
theorem parseB {s : List UInt8} (hne : s ≠ []) (hd : ∀ c ∈ s, dig c = true) : match numL 0 s with
  | some n => Lib.parseIntB 64 s = .ok (n : Int)
  | none => Lib.parseIntB 64 s = .range := by
 obtain ⟨c, r, rfl⟩ : ∃ c r, s = c :: r := by
  cases s with
  | nil => exact absurd rfl hne
  | cons c r => exact ⟨c, r, rfl⟩
 have hc := hd c (ze9 ..)
 simp only [dig, ze2, decide_eq_true_eq] at hc
 have h1 : ¬ (c.toNat = 43 ∨ c.toNat = 45) := by omega
 have h2 : ¬ c.toNat = 45 := by omega
 have hU : Lib.parseUintB 64 (c :: r) = Lib.parseUintM (2 ^ 64 - 1) 0 (c :: r) := by
  unfold Lib.parseUintB
  rw [if_neg (List.cons_ne_nil c r)]
 have hok : ∀ u, Lib.parseUintM (2 ^ 64 - 1) 0 (c :: r) = .ok u → Lib.parseIntB 64 (c :: r) = if 9223372036854775808 ≤ u then .range else .ok (u : Int) := by
  intro u hu
  unfold Lib.parseIntB
  simp only
  rw [if_neg h1, hU, hu]
  simp [h2]
 have hra : Lib.parseUintM (2 ^ 64 - 1) 0 (c :: r) = .range → Lib.parseIntB 64 (c :: r) = .range := by
  intro hu
  unfold Lib.parseIntB
  simp only
  rw [if_neg h1, hU, hu]
 rcases parse_num (c :: r) 0 hd (by omega) with ⟨u, e1, e2⟩ | ⟨e1, e2⟩
 ·rw [e2]
  by_cases hu : u < 9223372036854775808
  ·rw [if_pos hu]
   simp only
   rw [hok u e1, if_neg (by omega)]
  ·rw [if_neg hu]
   simp only
   rw [hok u e1, if_pos (by omega)]
 ·rw [e2]
  exact hra e1
theorem clone41 {Γ : Glob} (m : Store) (s : List UInt8) (hs : s.length ≤ 281474976710656) : zae Tryz.prog Γ 131 [bs s] m fun o m' => o = .ret (bs s) ∧ m' = m :=
 zae.of_vals (xs := [.string ⟨s.toArray⟩]) (u := .string ⟨s.toArray⟩) (by kernel_rfl) rfl (fun w => Tryz.stringslite_Clone ⟨s.toArray⟩ w (by simpa [ByteArray.size] using hs))
theorem index38 {Γ : Glob} (m : Store) (s : List UInt8) (c : UInt8) : zae Tryz.prog Γ 242 [bs s, by8 c] m fun o m' => o = .ret (it (idxB s c)) ∧ m' = m :=
 zae.of_vals (xs := [.string ⟨s.toArray⟩, .int .u8 c.toNat]) (u := .int .i64 (idxB s c)) (by kernel_rfl) rfl (fun w => (Tryz.strings_IndexByte ⟨s.toArray⟩ c.toNat w).mono (by
  rintro e w' ⟨rfl, rfl⟩
  refine ⟨?_, Below.refl _ _⟩
  have e1 : (c.toNat : Int).toNat.toUInt8 = c := by simp
  rw [e1, ← idxB_eq]))
theorem parse28 {Γ : Glob} {T : TypeId} {v : V} (hΓ : Γ 5 = some [.ifc T v]) : ParseOk Γ := by
 intro m s hne hs hd
 have hp := parseB hne hd
 refine ⟨by kernel_rfl, fun G B0 mF w cargs hD hR hL => ?_⟩
 obtain ⟨c1, r1, rfl, h1, hL⟩ := hL.cons_inv
 obtain ⟨c2, r2, rfl, h2, hL⟩ := hL.cons_inv
 obtain ⟨c3, r3, rfl, h3, hL⟩ := hL.cons_inv
 obtain rfl := hL.nil_inv
 cases h1
 cases h2
 cases h3
 have hsz : (⟨s.toArray⟩ : ByteArray).data.toList = s := by simp
 have hsz2 : (⟨s.toArray⟩ : ByteArray).size = s.length := by simp [ByteArray.size]
 cases hn : numL 0 s with
 | some n =>
  rw [hn] at hp
  refine (Tryz.strconv_ParseInt_10_at64_ok ⟨s.toArray⟩ (by omega) n (by rw [hsz]; exact hp) w).mono ?_
  rintro e w' ⟨rfl, hw⟩
  have hB : Below w.heap.size w w' := by
   rcases hw with rfl | ⟨t, rfl⟩
   ·exact Below.refl _ _
   ·exact Lib.bytesWorld_below w 5 t
  exact ⟨G, m, .ret (.tup [it n, .val .nilIface]), Gh.le.refl G, hD, hR.below hB, hB.mono hR.base, .ret (.tup (.cons (.val rfl) (.cons (.val rfl) .nil))), rfl, rfl⟩
 | none =>
  rw [hn] at hp
  obtain ⟨us, g1, g2⟩ := hR.glob 5 _ hΓ
  obtain ⟨u, ys, rfl, g3, g4⟩ := g1.cons_inv
  obtain rfl := g4.nil_inv
  have hcell := hR.K 5 0 u (g2.2 0 u rfl)
  cases g3 with
  | ifc g3 =>
   refine (Tryz.strconv_ParseInt_10_at64_range ⟨s.toArray⟩ (by omega) (by rw [hsz]; exact hp) _ w hcell (.inr ⟨_, _, rfl⟩)).mono ?_
   rintro e w' ⟨N, rfl, _, _, hB⟩
   exact ⟨G, m, .ret (.tup [it (Lib.intSat 64 (ByteArray.mk s.toArray).data.toList), .ifc 210 (.ptr N 0)]), Gh.le.refl G, hD, hR.below hB, hB.mono hR.base, .ret (.tup (.cons (.val rfl) (.cons (.ifc (.ptr _ _)) .nil))), ⟨_, _, _, rfl⟩, rfl⟩
theorem copy48 {Γ : Glob} (m : Store) (b : Nat) (p u : V) (h : m b = some (.var 328 [p, u])) (hp : markOk b p) : zae Tryz.prog Γ 251 [.ptr b 0] m fun o m' => o = .ret (.tup []) ∧ m' = m.set b (.var 328 [.ptr b 0, u]) := by
 refine ⟨by kernel_rfl, fun G B0 mF w cargs hD hR hL => ?_⟩
 obtain ⟨c1, r1, rfl, h1, hL⟩ := hL.cons_inv
 obtain rfl := hL.nil_inv
 cases h1
 have hb := zbN (f := mF) h
 obtain ⟨hB0, ⟨us, hw, hu⟩, hK⟩ := hR.var b 328 _ hb
 obtain ⟨x, us1, rfl, r1, hu⟩ := hu.cons_inv
 obtain ⟨y, us2, rfl, r2, hu⟩ := hu.cons_inv
 obtain rfl := hu.nil_inv
 rcases hp with rfl | rfl
 ·cases r1
  refine (Any.Builder_copyCheck_fresh Tryz.lays240 Tryz.Builder_X72_240 b w (by simp [World.cell?, hw]) (by simp [World.shape?, hw]; rfl) (by simp [World.frozen?, hw])).mono ?_
  rintro e w' ⟨rfl, rfl⟩
  have hst := hR.store hb (o := 0) (RelV.ptr (G := G) b 0)
  rw [← or_set] at hst
  exact ⟨G, _, .ret (.tup []), Gh.le.refl G, hD.set _ (hD.of_some h), hst, (Below.refl B0 w).setCell (p := ⟨b, 0, none⟩) hB0 _, .ret (.tup .nil), rfl, rfl⟩
 ·cases r1
  refine (Any.Builder_copyCheck_used Tryz.lays240 Tryz.Builder_X72_240 b w (by simp [World.cell?, hw])).mono ?_
  rintro e w' ⟨rfl, rfl⟩
  exact ⟨G, m, .ret (.tup []), Gh.le.refl G, hD, hR, Below.refl _ _, .ret (.tup .nil), rfl, (Store.set_eq m h).symm⟩
theorem string37 {Γ : Glob} (m : Store) (b : Nat) (p u : V) (l : List UInt8) (h : m b = some (.var 328 [p, u])) (hl : l.length ≤ 4096) (hu : (l = [] ∧ u = .sl [] [] .full) ∨ (l ≠ [] ∧ ∃ t k, m t = some (.tip 5 k) ∧ u = .sl (l.map by8) [] (.tip t k))) :
  zae Tryz.prog Γ 241 [.ptr b 0] m fun o m' => o = .ret (bs l) ∧ ∀ c x, m c = some x → (∀ l2 k, u ≠ .sl l2 [] (.tip c k)) → m' c = some x := by
 refine ⟨by kernel_rfl, fun G B0 mF w cargs hD hR hL => ?_⟩
 obtain ⟨c1, r1, rfl, h1, hL⟩ := hL.cons_inv
 obtain rfl := hL.nil_inv
 cases h1
 have hb := zbN (f := mF) h
 obtain ⟨hB0, ⟨us, hw, hus⟩, hK⟩ := hR.var b 328 _ hb
 obtain ⟨x, us1, rfl, r1, hus⟩ := hus.cons_inv
 obtain ⟨y, us2, rfl, r2, hus⟩ := hus.cons_inv
 obtain rfl := hus.nil_inv
 rcases hu with ⟨rfl, rfl⟩ | ⟨hne, t, k, ht, rfl⟩
 ·have hy : y = .slice none 0 0 := by
   cases r2 with
   | nil _ => rfl
   | sl q1 q2 q3 q4 q5 q6 => exact absurd rfl q6.2
  subst hy
  refine (Any.Builder_String_nil Tryz.lays169 Tryz.Builder_Extra_169 w.heap.size b x w hw).mono ?_
  rintro e w' ⟨rfl, hB⟩
  exact ⟨G, m, .ret (bs []), Gh.le.refl G, hD, hR.below hB, hB.mono hR.base, .ret (.val rfl), rfl, fun c x hc _ => hc⟩
 ·have hy : ∃ (a : Addr) (cap : Nat), y = .slice (some a) l.length cap ∧ l.length ≤ cap ∧ G.has a (l.map fun b => Value.int .u8 b.toNat) ∧ G.H t k = some (a.block, a.off + l.length, a.off + cap) := by
   obtain ⟨c, r, rfl⟩ : ∃ c r, l = c :: r := by
    cases l with
    | nil => exact absurd rfl hne
    | cons c r => exact ⟨c, r, rfl⟩
   cases r2 with
   | @sl _ _ _ us a cap sz q1 q2 q3 q4 q5 q6 =>
    have hsz : sz = 1 := (q1 (by8 c) (by simp)).symm
    subst hsz
    have hfl : flat ((c :: r).map by8 ++ []) = (c :: r).map by8 := by
     have : ∀ l : List UInt8, flat (l.map by8) = l.map by8 := by
      intro l
      induction l with
      | nil => rfl
      | cons b l ih => rw [List.map_cons, zaK, ih]; rfl
     rw [List.append_nil, this]
    rw [hfl] at q2
    have hus := by8s_inv q2
    subst hus
    have q6' : G.H t k = some (a.block, a.off + ((c :: r).map by8).length * 1, a.off + cap * 1) := q6
    rw [zfk, Nat.mul_one, Nat.mul_one] at q6'
    exact ⟨a, cap, by rw [zfk], by simpa using q4, q3, q6'⟩
  obtain ⟨a, cap, rfl, hcap, hhas, hH⟩ := hy
  have htm := zbN (f := mF) ht
  obtain ⟨_, B, E, C, p1, p2, p3, p4, ⟨cs, fz, p5⟩, p6⟩ := hR.tip t 5 k htm
  rw [hH] at p1
  simp only [Option.some.injEq, Prod.mk.injEq] at p1
  obtain ⟨rfl, rfl, rfl⟩ := p1
  have hcell : ∀ j x, l[j]? = some x → w.cell? (a.add j) = some (.int .u8 x.toNat) := by
   intro j x hx
   have hk := hhas.2 j (.int .u8 x.toNat) (by simp [hx])
   have := hR.K _ _ _ hk
   rw [add_plain hhas.1]
   exact this
  have hsz : a.off + l.length ≤ cs.size := by
   have hl0 : 0 < l.length := by cases l with | nil => exact absurd rfl hne | cons _ _ => simp
   have := hcell (l.length - 1) l[l.length - 1] (by simp [hl0])
   rw [add_plain hhas.1] at this
   simp only [World.cell?, p5] at this
   have h2 := (Array.getElem?_eq_some_iff.1 this).1
   omega
  refine (builderString_at Tryz.lays169 Tryz.Builder_Extra_169 b x a cap cs.size l w hw hne hcap (by omega) (by simp [World.shape?, p5]; rfl) hsz hcell).mono ?_
  rintro e w' ⟨rfl, rfl⟩
  have hfz := hR.drew.freeze htm (a := a) (n := l.length) hH
  have hor : (fun c => if c = t then none else (m.or mF) c) = Store.or (fun c => if c = t then none else m c) mF := by
   funext c
   by_cases e : c = t
   ·subst e
    have := hD.of_some ht
    simp [Store.or, this]
   ·simp [Store.or, e]
  rw [hor] at hfz
  refine ⟨G, _, .ret (bs l), Gh.le.refl G, fun c => ?_, hfz, Lib.below_freeze (Below.drew (Below.refl B0 w)) p2 _, .ret (.val rfl), rfl, fun c x hc hk => ?_⟩
  ·rcases hD c with h | h
   ·left
    by_cases e : c = t
    ·simp [e]
    ·simp [e, h]
   ·exact .inr h
  ·have : c ≠ t := by rintro rfl; exact hk _ _ rfl
   simp [this, hc]
theorem libOk {Γ : Glob} : LibOk Γ where
 clone := clone41
 copyCheck := copy48
 string := string37
 indexByte := fun m s c _ => index38 m s c
end Go.Av.Fn
/- Numerals read, written small ones; texts cut at a blank. Condition: what two variables hold. -/
namespace Go.Av.Fn
set_option linter.unusedSimpArgs false
set_option linter.unusedVariables false
set_option maxRecDepth 10000
open Go.Proofs Go.RowKit
def powV : List V := Lib.pow10Tab.map fun z => .val (.int .u64 z)
/-! ### Cut at a blank -/
section
variable {Γ : Glob} {m : Store}
theorem c1 : ((1 : Nat) : Int) = 1 := rfl
theorem c3 : ((3 : Nat) : Int) = 3 := rfl
end
end Go.Av.Fn
/- A command's text read, and written: what the program tells. Conditions: the library's functions; numbers are written (FmtAt) where they are. -/
namespace Go.Av.Fn
set_option linter.unusedSimpArgs false
set_option linter.unusedVariables false
set_option maxRecDepth 10000
open Go.Proofs
structure Env2 (Γ : Glob) : Prop where
 env : Env Γ
 range : ∃ T v, Γ 5 = some [.ifc T v]
 syn : ∃ T v, Γ 4 = some [.ifc T v]
section
variable {Γ : Glob} {m : Store}
end
end Go.Av.Fn
/- A command's text read: all of it. Conditions as ahead. -/
namespace Go.Av
end Go.Av
namespace Go.Av.Fn
set_option linter.unusedSimpArgs false
set_option linter.unusedVariables false
set_option maxRecDepth 10000
open Go.Proofs
section
variable {Γ : Glob} {m : Store}
end
end Go.Av.Fn
/- A command's text written; the document's examples. Conditions as ahead. -/
namespace Go.Av.Fn
set_option linter.unusedSimpArgs false
set_option linter.unusedVariables false
set_option maxRecDepth 100000
open Go.Proofs
theorem right_len {k n : Int} {s : List UInt8} (h : zaT k n s = true) : s.length ≤ 255 ∧ 0 ≤ n ∧ n ≤ 4294967296 := by
 unfold zaT at h
 split at h
 ·cases h
 ·rename_i h1
  simp only [zfC, not_or, ze2, Bool.not_eq_true', decide_eq_true_eq] at h1
  obtain ⟨⟨⟨⟨h1, h2⟩, h3⟩, h4⟩, h5⟩ := h1
  have hl : 0 ≤ (zaV k).least := by
   have hall : ∀ f ∈ forms, 0 ≤ f.least := by decide
   unfold zaV
   split
   ·decide
   ·cases hg : forms[k.toNat]? with
    | none => decide
    | some f => exact hall f (zfy hg)
  refine ⟨?_, by omega, by omega⟩
  split at h
  ·rename_i h6
   simp only [zfC, ze2, Bool.not_eq_true'] at h6
   rcases h6 with h6 | ⟨_, h6⟩
   ·have : s = [] := by
     cases hs : (s == []) with
     | true => exact eq_of_beq hs
     | false => exact absurd ⟨h6, hs⟩ h3
    subst this
    simp
   ·rw [eq_of_beq h6]
    simp
  ·unfold zbD at h
   simp only [ze2, decide_eq_true_eq] at h
   exact h.2
section
variable {Γ : Glob} {m : Store}
end
end Go.Av.Fn
/- The program tells the document's examples. No condition. -/
namespace Go.Av.Fn
set_option linter.unusedSimpArgs false
set_option linter.unusedVariables false
set_option maxRecDepth 10000
open Go.Proofs
end Go.Av.Fn
/- A command's text read, reckoned. No condition. -/
namespace Go.Av.Fn
set_option linter.unusedSimpArgs false
set_option linter.unusedVariables false
set_option maxRecDepth 100000
open Go.Proofs
section
variable {Γ : Glob} {m : Store}
end
def getC (s : List UInt8) (a : Nat) (e : Int) : (Int × Int × List UInt8) × Nat × Int :=
 let k := rInt s a e
 let n := rInt s k.2.1 k.2.2
 let t := zeG s n.2.1 n.2.2 255
 (if t.2.2 ≠ 0 then (0, 0, []) else (k.1, n.1, t.1), t.2.1, t.2.2)
def cmdT (c : Int × Int × List UInt8) : V := cmdV c.1 c.2.1 c.2.2
def putC (k n : Int) (s : List UInt8) : List UInt8 := Lib.uvarint (Lib.zigzag k) ++ Lib.uvarint (Lib.zigzag n) ++ (Lib.uvarint (Lib.zigzag s.length) ++ s)
section
variable {Γ : Glob} {m : Store} {rb a : Nat} {s : List UInt8} {e : Int}
theorem get_ok (L : LibOk Γ) (hr : m rb = some (rdB s a e)) (ha : a ≤ s.length) (hs : s.length ≤ 281474976710656) :
  zae Tryz.prog Γ 23 [.ptr rb 0] m fun o m' => o = .ret (cmdT (getC s a e).1) ∧ m' = m.set rb (rdB s (getC s a e).2.1 (getC s a e).2.2) := by
 refine zae.less (A := fun o m' => o = .ret (cmdT (getC s a e).1) ∧ SubS (m.set rb (rdB s (getC s a e).2.1 (getC s a e).2.2)) m') ?_ fun o m' h => ⟨_, h.2, h.1, rfl⟩
 refine zad mixed F23_ok (by rintro v m b x _ ⟨⟨⟩, _⟩) ?_
 unfold getC
 obtain ⟨k, a1, e1, h1⟩ : ∃ k a1 e1, rInt s a e = (k, a1, e1) := ⟨_, _, _, rfl⟩
 have l1 := zcm (e := e) ha
 rw [h1] at l1
 obtain ⟨n, a2, e2, h2⟩ : ∃ n a2 e2, rInt s a1 e1 = (n, a2, e2) := ⟨_, _, _, rfl⟩
 have l2 := zcm (e := e1) l1
 rw [h2] at l2
 obtain ⟨t, a3, e3, h3⟩ : ∃ t a3 e3, zeG s a2 e2 255 = (t, a3, e3) := ⟨_, _, _, rfl⟩
 simp only at l1 l2
 simp only [h1, h2, h3]
 simp only [F23, ss0, ze0, zeV]
 simp only [ssS, zeV, zeT, reduceIte, zeU]
 refine zao fun b2 hb2 => ?_
 have hn2 := zal hr hb2
 simp only [ssS, zeV, zeT, reduceIte, zeU]
 refine zaH (wInt_ok (a := a) (e := e) (s := s) (by rw [Store.set_ne _ _ hn2]; exact hr) ha (by omega)) ?_
 simp only [h1, ssS, zeV, zeT, reduceIte, zeU]
 refine zao fun b3 hb3 => ?_
 have hn3 : rb ≠ b3 := zal (Store.set_same _ _ _) hb3
 have h23 : b2 ≠ b3 := zal (by rw [Store.set_ne _ _ hn2.symm, Store.set_same]) hb3
 simp only [Store.set_same, Store.set_set, ssS, zeV, zeT, reduceIte, zeU]
 refine zaH (wInt_ok (a := a1) (e := e1) (s := s) (by rw [Store.set_ne _ _ hn3, Store.set_same]) l1 (by omega)) ?_
 simp only [h2, Store.set_same, Store.set_set, Store.set_ne _ _ hn3.symm, ssS, zeV, zeT, reduceIte, zeU]
 refine zaH (wText_ok L 255 (a := a2) (e := e2) (s := s) (by rw [Store.set_ne _ _ hn3, Store.set_same]) l2 hs) ?_
 simp only [h3, Store.set_same, Store.set_set, Store.set_ne _ _ hn3.symm, ssS, zeV, zeT, reduceIte, zeU]
 refine zai (wErr_ok (a := a3) (e := e3) (s := s) (by rw [Store.set_ne _ _ hn3, Store.set_same])) ?_
 have hfin : ∀ (M : Store), M rb = some (rdB s a3 e3) → (∀ c x, m c = some x → c ≠ rb → c ≠ b2 → c ≠ b3 → M c = some x) → ∀ x, SubS (m.set rb (rdB s a3 e3)) (M.set b2 x) := by
  intro M hM hs2 x c y hc
  by_cases h1 : c = rb
  ·subst h1
   rw [Store.set_same] at hc
   cases hc
   rw [Store.set_ne _ _ hn2]
   exact hM
  ·rw [Store.set_ne _ _ h1] at hc
   have h2 : c ≠ b2 := zal hc hb2
   rw [Store.set_ne _ _ h2]
   refine hs2 c y hc h1 h2 ?_
   rintro rfl
   rw [Store.set_ne _ _ hn3.symm, Store.set_ne _ _ h23.symm, hc] at hb3
   cases hb3
 cases he : (e3 != 0)
 ·have h0 : e3 = 0 := by simpa using he
  subst h0
  simp only [show ((0 : Int) != 0) = false from rfl, Store.set_same, Store.set_set, Store.set_ne _ _ hn3.symm, Store.set_ne _ _ h23, Store.set_ne _ _ hn2.symm, ssS, zeV, zeT, reduceIte, zeU]
  refine zah ((zdl (b := b2) rfl (Store.set_same _ _ _)).trans rfl) ⟨?_, hfin _ ?_ ?_ _⟩
  ·simp only [ne_eq, not_true_eq_false, if_false, cmdT, cmdV]
   rfl
  ·first
    | exact Store.set_same _ _ _
    | (rw [Store.set_ne _ _ hn3, Store.set_same])
  ·intro c x hc k1 k2 k3
   simp only [Store.set_ne _ _ k1, Store.set_ne _ _ k2, Store.set_ne _ _ k3]
   exact hc
 ·have h0 : e3 ≠ 0 := by simpa using he
  simp only [he, Store.set_same, Store.set_set, Store.set_ne _ _ hn3.symm, Store.set_ne _ _ h23, Store.set_ne _ _ hn2.symm, ssS, zeV, zeT, reduceIte, zeU]
  refine zah ((zdl (b := b2) rfl (Store.set_same _ _ _)).trans rfl) ⟨?_, hfin _ ?_ ?_ _⟩
  ·simp only [ne_eq, h0, not_false_eq_true, if_true, cmdT, cmdV]
   rfl
  ·first
    | exact Store.set_same _ _ _
    | (rw [Store.set_ne _ _ hn3, Store.set_same])
  ·intro c x hc k1 k2 k3
   simp only [Store.set_ne _ _ k1, Store.set_ne _ _ k2, Store.set_ne _ _ k3]
   exact hc
theorem put_ok {m' : Store} {v : V} {l t : List UInt8} {k n : Int} (h : BufI 5 1 m m' v (l.map by8)) (hk : Av.I64 k) (hn : Av.I64 n) (hl : l.length + t.length + 100 ≤ 140737488355328) (hl2 : l.length + 100 < 1099511627776) :
  zae Tryz.prog Γ 25 [v, cmdV k n t] m' fun o m2 => ∃ v2, o = .ret v2 ∧ Buf 5 1 m m2 v2 ((l ++ putC k n t).map by8) := by
 refine zae.less (A := fun o m2 => ∃ v2 M, o = .ret v2 ∧ SubS M m2 ∧ Buf 5 1 m M v2 ((l ++ putC k n t).map by8)) ?_ fun o m' ⟨v2, M, h1, h2, h3⟩ => ⟨M, h2, v2, h1, h3⟩
 refine zad mixed F25_ok (by rintro v m b x _ ⟨_, _, ⟨⟩, _⟩) ?_
 simp only [F25, cmdV, ss0, ze0, zeV]
 simp only [ssS, zeV, zeT, reduceIte, zeU]
 refine zao fun b3 hb3 => ?_
 have hm3 : m b3 = none := by
  cases hc : m b3 with
  | none => rfl
  | some x => rw [h.sub _ _ hc] at hb3; cases hb3
 have z1 := Lib.uvarint_length64 (Av.zigzag_u64 hk)
 have z2 := Lib.uvarint_length64 (Av.zigzag_u64 hn)
 simp only [Store.set_same, ssS, zeV, zeT, reduceIte, zeU]
 refine zbG (zea (h.add (x := .var 24 [it k, it n, bs t]) hb3) hk (by omega)) ?_ (by rintro v m' ⟨_, ⟨⟩, _⟩)
 rintro v2 m2 ⟨_, ⟨⟩, hB⟩
 have hb2 := hB.sub b3 _ (Store.set_same _ _ _)
 simp only [zc8, zc9, zdP, hb2, ssS, zeV, zeT, reduceIte, zeU]
 refine zbG (zea (.inl hB) hn (by simp; omega)) ?_ (by rintro v m' ⟨_, ⟨⟩, _⟩)
 rintro v3 m3 ⟨_, ⟨⟩, hB3⟩
 have hb3' := hB3.sub b3 _ (Store.set_same _ _ _)
 simp only [zc8, zc9, zdP, hb3', ssS, zeV, zeT, reduceIte, zeU]
 refine zbG (putText_ok hB3 (by simp; omega) (by simp; omega)) ?_ (by rintro v m' ⟨_, ⟨⟩, _⟩)
 rintro v4 m4 ⟨_, ⟨⟩, hB4⟩
 simp only [ssS, zeV, zeT, reduceIte, zeU]
 obtain ⟨q1, M, q2, q3, q4⟩ := hB4.del hm3
 refine zah zac ⟨v4, M, rfl, ?_, ?_⟩
 ·intro c x hc
  have hne : c ≠ b3 := by rintro rfl; rw [q3] at hc; cases hc
  have := congrArg (fun f : Store => f c) (q4 (.var 24 []))
  simp only [Store.set_ne _ _ hne] at this
  rw [this]
  exact hc
 ·simp only [putC, List.append_assoc] at q2 ⊢
  exact q2
end
end Go.Av.Fn
/- Commands put are got as they were: plain laws. No condition. -/
namespace Go.Av.Fn
set_option linter.unusedSimpArgs false
set_option linter.unusedVariables false
open Go.Lib
theorem drop_mid {α : Type} (a b : List α) : (a ++ b).drop a.length = b := by simp
theorem rInt_put {n : Int} (h : Av.I64 n) (a r : List UInt8) : rInt (a ++ (uvarint (zigzag n) ++ r)) a.length 0 = (n, a.length + (uvarint (zigzag n)).length, 0) := by
 unfold rInt
 rw [drop_mid, Av.numL_put h r]
 simp
theorem countL_put {n : Nat} (h : Av.I64 n) (r : List UInt8) (most : Int) (hm : 0 ≤ most) : zbr (uvarint (zigzag n) ++ r) most = if (n : Int) > most then (0, 0, 5) else ((n : Int), (uvarint (zigzag n)).length, 0) := by
 unfold zbr
 rw [Av.numL_put h r]
 simp only [ne_eq, not_true_eq_false, if_false]
 rw [if_neg (by omega), Int.max_eq_right hm]
theorem textL_put {s : List UInt8} (hs : s.length < 9223372036854775808) (r : List UInt8) (most : Nat) :
  textL (uvarint (zigzag s.length) ++ (s ++ r)) most = if s.length > most then ([], 0, 5) else (s, (uvarint (zigzag s.length)).length + s.length, 0) := by
 have hi : Av.I64 (s.length : Int) := by unfold Av.I64; omega
 unfold textL
 rw [countL_put hi _ _ (by omega)]
 by_cases h : s.length > most
 ·have h' : (s.length : Int) > (most : Int) := by omega
  rw [if_pos h', if_pos h]
  simp
 ·have h' : ¬ (s.length : Int) > (most : Int) := by omega
  rw [if_neg h', if_neg h]
  simp only [ne_eq, not_true_eq_false, if_false]
  have hc : ¬ (s.length : Int) > ((uvarint (zigzag s.length) ++ (s ++ r)).length : Int) - ((uvarint (zigzag s.length)).length : Int) := by
   simp only [zfc]
   omega
  rw [if_neg hc]
  simp
theorem rText_put {s : List UInt8} (hs : s.length < 9223372036854775808) (a r : List UInt8) (most : Nat) :
  zeG (a ++ (uvarint (zigzag s.length) ++ (s ++ r))) a.length 0 most = if s.length > most then ([], a.length, 5) else (s, a.length + ((uvarint (zigzag s.length)).length + s.length), 0) := by
 unfold zeG
 rw [drop_mid, textL_put hs]
 by_cases h : s.length > most
 ·simp [h]
 ·simp [h]
theorem ite255 {α : Type} {n : Nat} (h : n ≤ 255) (x y : α) : (if n > 255 then x else y) = y := if_neg (by omega)
theorem getC_put {k n : Int} {s : List UInt8} (hk : Av.I64 k) (hn : Av.I64 n) (hs : s.length ≤ 255) (a r : List UInt8) : getC (a ++ (putC k n s ++ r)) a.length 0 = ((k, n, s), a.length + (putC k n s).length, 0) := by
 unfold getC putC
 have e1 : a ++ (uvarint (zigzag k) ++ uvarint (zigzag n) ++ (uvarint (zigzag s.length) ++ s) ++ r) = a ++ (uvarint (zigzag k) ++ (uvarint (zigzag n) ++ (uvarint (zigzag s.length) ++ (s ++ r)))) := by simp
 rw [e1, rInt_put hk]
 have e2 : a ++ (uvarint (zigzag k) ++ (uvarint (zigzag n) ++ (uvarint (zigzag s.length) ++ (s ++ r)))) = (a ++ uvarint (zigzag k)) ++ (uvarint (zigzag n) ++ (uvarint (zigzag s.length) ++ (s ++ r))) := by simp
 have l2 : a.length + (uvarint (zigzag k)).length = (a ++ uvarint (zigzag k)).length := by simp
 simp only
 rw [e2, l2, rInt_put hn]
 have e3 : (a ++ uvarint (zigzag k)) ++ (uvarint (zigzag n) ++ (uvarint (zigzag s.length) ++ (s ++ r))) = (a ++ uvarint (zigzag k) ++ uvarint (zigzag n)) ++ (uvarint (zigzag s.length) ++ (s ++ r)) := by simp
 have l3 : (a ++ uvarint (zigzag k)).length + (uvarint (zigzag n)).length = (a ++ uvarint (zigzag k) ++ uvarint (zigzag n)).length := by simp [Nat.add_assoc]
 simp only
 rw [e3, l3]
 have := rText_put (s := s) (by omega) (a ++ uvarint (zigzag k) ++ uvarint (zigzag n)) r 255
 rw [show ((255 : Nat) : Int) = 255 from rfl] at this
 rw [this, ite255 hs]
 simp
 omega
end Go.Av.Fn
/- Commands that are put are got as they were: the statement's function. Conditions as ahead. -/
namespace Go.Av.Fn
set_option linter.unusedSimpArgs false
set_option linter.unusedVariables false
set_option maxRecDepth 10000
open Go.Proofs
theorem zaU {k : Nat} {s : List UInt8} {a : Nat} {e : Int} : nbB k (rdB s a e) := by
 unfold rdB
 simp only [nbS]
theorem nb_cmdT {k : Nat} (c : Int × Int × List UInt8) : nb k (cmdT c) := by
 unfold cmdT cmdV
 simp only [nbS]
theorem nb_cmdV {k : Nat} (a b : Int) (c : List UInt8) : nb k (cmdV a b c) := by
 unfold cmdV
 simp only [nbS]
theorem nbs_cmd1 (a b : Int) (c : List UInt8) : nbs 0 [cmdV a b c] := by
 simp only [zc1, nb_cmdV, nbs_nil, and_self]
theorem putC_len {k n : Int} {t : List UInt8} (hk : Av.I64 k) (hn : Av.I64 n) (ht : t.length < 9223372036854775808) : (putC k n t).length ≤ t.length + 30 := by
 have z1 := Lib.uvarint_length64 (Av.zigzag_u64 hk)
 have z2 := Lib.uvarint_length64 (Av.zigzag_u64 hn)
 have z3 := Lib.uvarint_length64 (Av.zigzag_u64 (n := (t.length : Int)) (by unfold Av.I64; omega))
 simp only [putC, zfc]
 omega
end Go.Av.Fn
/- What a rule leaves is an end of what it read; the document's reader of tokens, in plain terms. No condition. -/
namespace Go.Av.Fn
set_option linter.unusedSimpArgs false
set_option linter.unusedVariables false
def zck : PR → List Tk
 | .ok _ l => l
 | .st l => l
def badP : PR → Bool
 | .ok _ _ => false
 | .st _ => true
def Sfx (l : List Tk) (r : Option PR) : Prop := ∀ p, r = some p → zck p <:+ l
theorem Sfx.mono {l l' : List Tk} {r : Option PR} (h : Sfx l r) (hl : l <:+ l') : Sfx l' r := fun p hp => (h p hp).trans hl
theorem zcJ {l l' : List Tk} {r : Option PR} {k : Ex → List Tk → Option PR} (h : Sfx l r) (hl : l <:+ l') (hk : ∀ e l1, l1 <:+ l → Sfx l' (k e l1)) : Sfx l' (bind1 r k) := by
 intro p hp
 rcases zbB hp with ⟨e, l1, h1, h2⟩ | ⟨l1, h1, rfl⟩
 ·exact hk e l1 (h _ h1) p h2
 ·exact (h _ h1).trans hl
theorem sfx_bindL {l l' : List Tk} {r : Option PR} {k : List Ex → List Tk → Option PR} (h : Sfx l r) (hl : l <:+ l') (hk : ∀ e l1, l1 <:+ l → Sfx l' (k e l1)) : Sfx l' (bindL r k) := by
 intro p hp
 rcases zcj hp with ⟨e, l1, h1, h2⟩ | ⟨l1, h1, rfl⟩
 ·exact hk e l1 (h _ h1) p h2
 ·exact (h _ h1).trans hl
theorem zdk {l l' : List Tk} {es : List Ex} (h : l <:+ l') : Sfx l' (some (.ok es l)) := by
 intro p hp
 cases hp
 exact h
theorem sfx_st {l l' : List Tk} (h : l <:+ l') : Sfx l' (some (.st l)) := by
 intro p hp
 cases hp
 exact h
theorem sfx_must {s : List UInt8} {l l' : List Tk} {k : List Tk → Option PR} (hl : l <:+ l') (hk : ∀ l1, l1 <:+ l → Sfx l' (k l1)) : Sfx l' (zbp s l k) := by
 unfold zbp
 cases l with
 | nil => intro p hp; cases hp
 | cons t r =>
  simp only
  split
  ·exact hk r (zfg t r)
  ·exact sfx_st hl
theorem sfx_name {l l' : List Tk} {k : List UInt8 → List Tk → Option PR} (hl : l <:+ l') (hk : ∀ s l1, l1 <:+ l → Sfx l' (k s l1)) : Sfx l' (nameK l k) := by
 unfold nameK
 cases l with
 | nil => intro p hp; cases hp
 | cons t r =>
  simp only
  split
  ·exact hk t.s r (zfg t r)
  ·exact sfx_st hl
theorem run_sfx : ∀ (n : Nat) (r : Rule) (l : List Tk), Sfx l (run n r l)
 | 0, r, l => by intro p hp; cases hp
 | n + 1, r, [] => by intro p hp; cases hp
 | n + 1, r, t :: l => by
  have ih := run_sfx n
  have hc : l <:+ t :: l := zfg t l
  have hrow : ∀ l', Sfx l' (rowR (run n) l') := fun l' => zcJ (ih (.ex 0) l') zfv fun e l1 h1 => (ih (.ro [e]) l1).mono h1
  have hunt : ∀ s l', Sfx l' (untilR (run n) s l') := by
   intro s l'
   unfold untilR
   cases l' with
   | nil => intro p hp; cases hp
   | cons t' r' =>
    simp only
    split
    ·exact zdk (zfg t' r')
    ·exact sfx_bindL (hrow _) zfv fun es l1 h1 => sfx_must h1 fun l2 h2 => zdk (h2.trans h1)
  show Sfx (t :: l) (step (run n) t l r)
  cases r with
  | ex line =>
   simp only [step]
   split
   ·exact ih _ _
   ·exact zcJ (ih _ _) zfv fun e l1 h1 => (ih _ _).mono h1
  | lp line e =>
   simp only [step]
   split
   ·exact zcJ (ih _ _) hc fun e2 l2 h2 => (ih _ _).mono (h2.trans hc)
   ·exact zdk zfv
  | un =>
   simp only [step]
   split
   ·exact zcJ (ih _ _) hc fun e l1 h1 => zdk (h1.trans hc)
   ·exact zcJ (ih _ _) zfv fun e l1 h1 => (ih _ _).mono h1
  | po e =>
   simp only [step]
   split
   ·exact zcJ (ih _ _) hc fun e2 l2 h2 => sfx_must (h2.trans hc) fun l3 h3 => (ih _ _).mono (h3.trans (h2.trans hc))
   ·split
    ·exact sfx_name hc fun s l2 h2 => (ih _ _).mono (h2.trans hc)
    ·exact zdk zfv
  | ro out =>
   simp only [step]
   split
   ·exact zcJ (ih _ _) hc fun e l1 h1 => (ih _ _).mono (h1.trans hc)
   ·exact zdk zfv
  | si =>
   simp only [step, singleR]
   split
   ·exact zdk hc
   ·split
    ·exact zdk hc
    ·split
     ·unfold callR
      cases l with
      | nil => intro p hp; cases hp
      | cons t2 l2 =>
       have hc2 : l2 <:+ t :: t2 :: l2 := (zfg t2 l2).trans hc
       simp only
       split
       ·exact sfx_bindL (hunt _ _) hc2 fun es l3 h3 => zdk (h3.trans hc2)
       ·exact zdk hc
     ·split
      ·exact zdk hc
      ·split
       ·exact zdk hc
       ·split
        ·exact sfx_name hc fun s l2 h2 => sfx_must (h2.trans hc) fun l3 h3 => sfx_bindL (hunt _ _) (h3.trans (h2.trans hc)) fun es l4 h4 => zdk (h4.trans (h3.trans (h2.trans hc)))
        ·split
         ·exact sfx_bindL (hrow _) hc fun es l2 h2 => sfx_must (h2.trans hc) fun l3 h3 => zdk (h3.trans (h2.trans hc))
         ·split
          ·exact zcJ (ih _ _) hc fun e l2 h2 => sfx_must (h2.trans hc) fun l3 h3 => zdk (h3.trans (h2.trans hc))
          ·exact sfx_st zfv
/-! ### The document's reader -/
def rdR (L : List Tk) (a : Nat) (bad : Bool) : Blk := .var 199 [.sl (L.map tkV) [] .no, it a, .val (.bool bad)]
def rdS (L l : List Tk) (bad : Bool) : Blk := rdR L (L.length - l.length) bad
theorem sfx_drop {L l : List Tk} (h : l <:+ L) : L.drop (L.length - l.length) = l := by
 obtain ⟨p, rfl⟩ := h
 simp
theorem sfx_next {L l : List Tk} {t : Tk} (h : t :: l <:+ L) : L.length - (t :: l).length + 1 = L.length - l.length := by
 have := h.length_le
 simp only [ze1] at this ⊢
 omega
theorem zdO {k : Nat} (t : Tk) : nb k (tkV t) := by
 unfold tkV
 simp only [nbS]
theorem zak {k : Nat} {L : List Tk} {a : Nat} {b : Bool} : nbB k (rdR L a b) := by
 unfold rdR
 simp only [nbB_var, zc1, nb_sl, nbs_nil, nbT_no, nb_val, and_true]
 exact nbs_map (fun t => zdO t) L
mutual
theorem nb_exV {k : Nat} : ∀ e : Ex, nb k (exV e)
 | .mk a s n kids l => by
  simp only [exV, nb_agg, zc1, nb_val, nb_bs, nb_sl, nbs_nil, nbT_no, and_true, true_and]
  exact zdN kids
theorem zdN {k : Nat} : ∀ l : List Ex, nbs k (exVs l)
 | [] => by rw [exVs]; exact .nil
 | e :: r => by
  rw [exVs, zc1]
  exact ⟨nb_exV e, zdN r⟩
end
theorem idx_tkR {L l : List Tk} {t : Tk} (h : t :: l <:+ L) : idxLV 5 (.sl (L.map tkV) [] .no) (it (L.length - (t :: l).length : Nat)) = some (.elt [it t.k, bs t.s, it t.n, it t.l, it t.a]) := by
 have hd := sfx_drop h
 have hg : L[L.length - (t :: l).length]? = some t := by
  have := congrArg (fun x : List Tk => x[0]?) hd
  simpa using this
 exact zbP (e := tkV t) (by rw [zfz, hg]; rfl) rfl
end Go.Av.Fn
/- The small steps of the document's reader: what they do. No condition. -/
namespace Go.Av
theorem acalls_lk {P : Program} {Γ : Glob} {f : FuncId} {args : List V} {m : Store} {rb : Nat} {X : Blk} {v : V} (hr : m rb = some X) (h : zae P Γ f args m fun o m' => ∃ v' Y, o = .ret v' ∧ m' = m.set rb Y ∧ (v' = v ∧ Y = X)) : zae P Γ f args m fun o m' => o = .ret v ∧ m' = m := by
  refine h.mono ?_
  rintro o m' ⟨v', Y, rfl, rfl, rfl, rfl⟩
  exact ⟨rfl, Store.set_eq m hr⟩
end Go.Av
namespace Go.Av.Fn
set_option linter.unusedSimpArgs false
set_option linter.unusedVariables false
set_option maxRecDepth 10000
open Go.Proofs
theorem idx_tkR' {L l : List Tk} {t : Tk} (h : t :: l <:+ L) : idxLV 5 (.sl (L.map tkV) [] .no) (it (L.length - (l.length + 1) : Nat)) = some (.elt [it t.k, bs t.s, it t.n, it t.l, it t.a]) := idx_tkR h
theorem zd8 {L l : List Tk} {t : Tk} (h : t :: l <:+ L) : L.length - (l.length + 1) + 1 = L.length - l.length := sfx_next h
section
variable {Γ : Glob} {m : Store} {rb : Nat} {L l : List Tk} {t : Tk} {s : List UInt8} {b : Bool}
theorem zds (hs : t :: l <:+ L) (hr : m rb = some (rdS L (t :: l) b)) : zae Tryz.prog Γ 154 [.ptr rb 0] m fun o m' => o = .ret (tkV t) ∧ m' = m := by
  refine acalls_lk hr (zc7 mixed F154_ok F154_h zaB hr zak (by first | exact LR.nil | simp only [nbS]) ?_)
  simp only [F154, ss0, ze0, zeV]
  simp only [rdS, rdR, idx_tkR' hs, ssH, zeV, zeT, reduceIte, zeU, zeZ, zeX, zeY]
  exact zaf (v := tkV t) rfl ⟨zdO t, _, rfl, zak (L := L), rfl, rfl⟩
theorem kIs_ok (hs : t :: l <:+ L) (hr : m rb = some (rdS L (t :: l) b)) : zae Tryz.prog Γ 226 [.ptr rb 0, bs s] m fun o m' => o = .ret (.val (.bool (!b && isS s t))) ∧ m' = m := by
  refine acalls_lk hr (zc7 mixed F226_ok F226_h zaB hr zak (by first | exact LR.nil | simp only [nbS]) ?_)
  simp only [F226, ss0, ze0, zeV]
  simp only [ssH, zeV, zeT, reduceIte, zeU, zeZ, zeX, zeY]
  refine zau (b := 0) rfl rfl (fun m b' h => zds hs h) zak (by first | exact LR.nil | simp only [nbS]) (zdO t) ?_
  simp only [tkV, rdS, rdR, ssH, zeV, zeT, reduceIte, zeU, zeZ, zeX, zeY]
  cases b
  · cases h4 : (t.k == 4)
    · cases h5 : (t.k == 5)
      · simp only [h4, h5, ssH, zeV, zeT, reduceIte, zeU, zeZ, zeX, zeY]
        exact zaf zac ⟨(by simp only [zaa, zab, nbS]), _, rfl, zak (L := L), by simp [tget, isS, h4, h5], rfl⟩
      · simp only [h4, h5, ssH, zeV, zeT, reduceIte, zeU, zeZ, zeX, zeY]
        exact zaf zac ⟨(by simp only [zaa, zab, nbS]), _, rfl, zak (L := L), by simp [tget, isS, h4, h5], rfl⟩
    · simp only [h4, ssH, zeV, zeT, reduceIte, zeU, zeZ, zeX, zeY]
      exact zaf zac ⟨(by simp only [zaa, zab, nbS]), _, rfl, zak (L := L), by simp [tget, isS, h4], rfl⟩
  · simp only [ssH, zeV, zeT, reduceIte, zeU, zeZ, zeX, zeY]
    exact zaf zac ⟨(by simp only [zaa, zab, nbS]), _, rfl, zak (L := L), by simp [tget], rfl⟩
theorem zaY (hs : t :: l <:+ L) (hr : m rb = some (rdS L (t :: l) b)) (h : (!b && isS s t) = false) : zae Tryz.prog Γ 209 [.ptr rb 0, bs s] m fun o m' => o = .ret (.val (.bool false)) ∧ m' = m := by
  refine acalls_lk hr (zc7 mixed F209_ok F209_h zaB hr zak (by first | exact LR.nil | simp only [nbS]) ?_)
  simp only [F209, ss0, ze0, zeV]
  simp only [ssH, zeV, zeT, reduceIte, zeU, zeZ, zeX, zeY]
  refine zau (b := 0) (az := [bs s]) (v := .val (.bool false)) rfl rfl (fun m b' hh => by have := kIs_ok (Γ := Γ) (s := s) hs hh; rw [h] at this; exact this) zak (by first | exact LR.nil | simp only [nbS]) (by first | exact LR.nil | simp only [nbS]) ?_
  simp only [ssH, zeV, zeT, reduceIte, zeU, zeZ, zeX, zeY]
  exact zaf zac ⟨(by simp only [zaa, zab, nbS]), _, rfl, zak (L := L), rfl, rfl⟩
theorem zbx (hL : L.length < 4611686018427387904) (hs : t :: l <:+ L) (hr : m rb = some (rdS L (t :: l) false)) (h : isS s t = true) : zae Tryz.prog Γ 209 [.ptr rb 0, bs s] m fun o m' => o = .ret (.val (.bool true)) ∧ m' = m.set rb (rdS L l false) := by
  refine zdB (zc7 mixed F209_ok F209_h zaB hr zak (by first | exact LR.nil | simp only [nbS]) ?_)
  simp only [F209, ss0, ze0, zeV]
  simp only [ssH, zeV, zeT, reduceIte, zeU, zeZ, zeX, zeY]
  refine zau (b := 0) (az := [bs s]) (v := .val (.bool true)) rfl rfl (fun m b' hh => by have := kIs_ok (Γ := Γ) (s := s) hs hh; rw [h] at this; exact this) zak (by first | exact LR.nil | simp only [nbS]) (by first | exact LR.nil | simp only [nbS]) ?_
  simp only [rdS, rdR, zaq (show L.length - (l.length + 1) < 4611686018427387904 by omega), zd8 hs, ssH, zeV, zeT, reduceIte, zeU, zeZ, zeX, zeY]
  exact zaf zac ⟨(by simp only [zaa, zab, nbS]), _, rfl, zak (L := L), rfl, rfl⟩
theorem zc3 (hs : t :: l <:+ L) (hr : m rb = some (rdS L (t :: l) b)) (h : (!b && isS s t) = false) : zae Tryz.prog Γ 211 [.ptr rb 0, bs s] m fun o m' => o = .ret (.tup []) ∧ m' = m.set rb (rdS L (t :: l) true) := by
  refine zdB (zc7 mixed F211_ok F211_h zaB hr zak (by first | exact LR.nil | simp only [nbS]) ?_)
  simp only [F211, ss0, ze0, zeV]
  simp only [ssH, zeV, zeT, reduceIte, zeU, zeZ, zeX, zeY]
  refine zau (b := 0) (az := [bs s]) (v := .val (.bool false)) rfl rfl (fun m b' hh => zaY hs hh h) zak (by first | exact LR.nil | simp only [nbS]) (by first | exact LR.nil | simp only [nbS]) ?_
  simp only [rdS, rdR, ssH, zeV, zeT, reduceIte, zeU, zeZ, zeX, zeY]
  exact bodyH_normal rfl ⟨(by first | exact LR.nil | simp only [nbS]), _, rfl, zak (L := L), rfl, rfl⟩
theorem kMust_yes (hL : L.length < 4611686018427387904) (hs : t :: l <:+ L) (hr : m rb = some (rdS L (t :: l) false)) (h : isS s t = true) : zae Tryz.prog Γ 211 [.ptr rb 0, bs s] m fun o m' => o = .ret (.tup []) ∧ m' = m.set rb (rdS L l false) := by
  refine zdB (zc7 mixed F211_ok F211_h zaB hr zak (by first | exact LR.nil | simp only [nbS]) ?_)
  simp only [F211, ss0, ze0, zeV]
  simp only [ssH, zeV, zeT, reduceIte, zeU, zeZ, zeX, zeY]
  refine zas (b := 0) (az := [bs s]) (v := .val (.bool true)) rfl rfl (fun m b' hh => zbx hL hs hh h) zak zak (by first | exact LR.nil | simp only [nbS]) (by first | exact LR.nil | simp only [nbS]) ?_
  simp only [ssH, zeV, zeT, reduceIte, zeU, zeZ, zeX, zeY]
  exact bodyH_normal rfl ⟨(by first | exact LR.nil | simp only [nbS]), _, rfl, zak (L := L), rfl, rfl⟩
theorem kName_yes (hL : L.length < 4611686018427387904) (hs : t :: l <:+ L) (hr : m rb = some (rdS L (t :: l) false)) (h : t.k = 1) : zae Tryz.prog Γ 212 [.ptr rb 0] m fun o m' => o = .ret (bs t.s) ∧ m' = m.set rb (rdS L l false) := by
  refine zdB (zc7 mixed F212_ok F212_h zaB hr zak (by first | exact LR.nil | simp only [nbS]) ?_)
  simp only [F212, ss0, ze0, zeV]
  simp only [ssH, zeV, zeT, reduceIte, zeU, zeZ, zeX, zeY]
  refine zau (b := 0) rfl rfl (fun m b' hh => zds hs hh) zak (by first | exact LR.nil | simp only [nbS]) (zdO t) ?_
  simp only [tkV, rdS, rdR, h, zaq (show L.length - (l.length + 1) < 4611686018427387904 by omega), zd8 hs, ssH, zeV, zeT, reduceIte, zeU, zeZ, zeX, zeY]
  exact zaf zac ⟨(by simp only [zaa, zab, nbS]), _, rfl, zak (L := L), rfl, rfl⟩
theorem kName_no (hs : t :: l <:+ L) (hr : m rb = some (rdS L (t :: l) b)) (h : b = true ∨ t.k ≠ 1) : zae Tryz.prog Γ 212 [.ptr rb 0] m fun o m' => o = .ret (bs []) ∧ m' = m.set rb (rdS L (t :: l) true) := by
  refine zdB (zc7 mixed F212_ok F212_h zaB hr zak (by first | exact LR.nil | simp only [nbS]) ?_)
  simp only [F212, ss0, ze0, zeV]
  simp only [ssH, zeV, zeT, reduceIte, zeU, zeZ, zeX, zeY]
  refine zau (b := 0) rfl rfl (fun m b' hh => zds hs hh) zak (by first | exact LR.nil | simp only [nbS]) (zdO t) ?_
  cases b
  · have hk : (t.k != 1) = true := by rcases h with h | h; · cases h
                                      · simpa using h
    simp only [tkV, rdS, rdR, hk, ssH, zeV, zeT, reduceIte, zeU, zeZ, zeX, zeY]
    exact zaf zac ⟨(by simp only [zaa, zab, nbS]), _, rfl, zak (L := L), rfl, rfl⟩
  · simp only [tkV, rdS, rdR, ssH, zeV, zeT, reduceIte, zeU, zeZ, zeX, zeY]
    exact zaf zac ⟨(by simp only [zaa, zab, nbS]), _, rfl, zak (L := L), rfl, rfl⟩
end
end Go.Av.Fn
/- Functions of a cell whose answer is told without its slices' ends. No condition. -/
namespace Go.Av
set_option linter.unusedSimpArgs false
set_option linter.unusedVariables false
mutual
theorem VR.wk {R : Ren} : ∀ {v v' : V}, VR R v v' → VR R (weak v) (weak v')
 | _, _, .val v => .val v
 | _, _, .ptr o r => .ptr o r
 | _, _, .elt r => .elt r
 | _, _, .sl a b c => by
  simp only [Av.weak]
  exact .sl (LR.wk a) (LR.wk b) trivial
 | _, _, .fn h a b => .fn h a b
 | _, _, .ifc r => .ifc r
 | _, _, .agg r => by
  simp only [Av.weak]
  exact .agg (LR.wk r)
 | _, _, .tup r => by
  simp only [Av.weak]
  exact .tup (LR.wk r)
 | _, _, .arr o l c r => .arr o l c r
 | _, _, .res v z n r => .res v z n r
theorem LR.wk {R : Ren} : ∀ {v v' : List V}, LR R v v' → LR R (zaL v) (zaL v')
 | _, _, .nil => .nil
 | _, _, .cons a b => .cons (VR.wk a) (LR.wk b)
end
section
variable {P : Program} {Γ : Glob} {H : Nat → List (Nat × List Nat) × List Nat} {f : FuncId} {F : AFn} {gs : List Nat} {m : Store}
theorem acalls_cw (hm : P.follows .mixedOrders = true) (hF : zam P H f = some F) (hok : F.body.okH gs = true) (hG : GOk Γ gs) {rb o : Nat} {az : List V} {X : Blk} (hb : m rb = some X) (hX : nbB 0 X) (ha : nbs 0 az) {Q : V → Blk → Prop}
  (h : hawp P Γ (fun _ _ => False) 1 F.body (bodyH F.res fun v h' => nb 0 (weak v) ∧ ∃ Y, lk h' 0 = some Y ∧ nbB 0 Y ∧ Q (weak v) Y) ⟨start F.ntmps (.ptr 0 o :: az), [some X]⟩) :
  zae P Γ f (.ptr rb o :: az) m fun o m' => ∃ v Y, o = .ret v ∧ m' = m.set rb Y ∧ Q v Y := by
 have h1 := zeS (P := P) (Γ := Γ) (R0 := fun a c => a = 0 ∧ c = rb) (N := 1) (m := one rb X) hm hF hok hG (args0 := .ptr 0 o :: az) (args := .ptr rb o :: az) (.cons (.ptr o ⟨rfl, rfl⟩) (ha.up _)) (hh_one hX) (fun _ _ q => by omega) (Q := fun o h' => match o with | .ret v => nb 0 (weak v) ∧ ∃ Y, lk h' 0 = some Y ∧ nbB 0 Y ∧ Q (weak v) Y | .pan _ => False) h
 have h2 := h1.frame (one_disj rb X (m := m))
 rw [one_del hb] at h2
 refine zae.weak (R := fun o m' => ∃ v Y, o = .ret v ∧ m' = m.set rb Y ∧ Q (weak v) Y) (zae.less h2 ?_) ?_ ?_
 ·rintro o m'' ⟨m', rfl, d, S, o0, h', s1, s2, s3, s4⟩
  cases o0 with
  | pan v => exact s4.elim
  | ret v =>
   cases o with
   | pan v' => exact s3.elim
   | ret v' =>
    obtain ⟨q1, Y, q2, q3, q4⟩ := s4
    obtain ⟨Y', g1, g2⟩ := s2.blk _ _ _ (s1 _ _ ⟨rfl, rfl⟩) q2
    obtain rfl := nbB_eq q3 g2
    have e3 : weak v' = weak v := nb_eq q1 (VR.wk s3)
    refine ⟨m.set rb Y', ?_, v', Y', rfl, rfl, by rw [e3]; exact q4⟩
    intro b x hx
    by_cases e : b = rb
    ·subst e
     rw [Store.set_same] at hx
     cases hx
     simp only [Store.or, g1]
    ·rw [Store.set_ne _ _ e] at hx
     rcases d b with q | q
     ·simp only [Store.or, q, del, if_neg e]; exact hx
     ·simp only [del, if_neg e] at q
      rw [q] at hx
      cases hx
 ·rintro v m' ⟨v', Y, e, e2, q⟩
  cases e
  exact ⟨_, Y, rfl, e2, q⟩
 ·rintro v m' ⟨v', Y, e, _⟩
  cases e
end
end Go.Av
/- The document's table of signs. No condition. -/
namespace Go.Av.Fn
set_option linter.unusedSimpArgs false
set_option linter.unusedVariables false
set_option maxRecDepth 10000
open Go.Proofs
def tabK : List (List (List UInt8)) := [[[124, 124]], [[38, 38]], [[61, 61], [33, 61]], [[60], [60, 61], [62], [62, 61]], [[43], [45]], [[42], [47], [37]]]
def rowV (r : List (List UInt8)) : V := .sl (r.map bs) [] .full
def tabV : V := .sl (tabK.map rowV) [] .full
theorem tab_level {i k : Nat} {r : List (List UInt8)} {x : List UInt8} (hr : tabK[i]? = some r) (hx : r[k]? = some x) : level x = i := by
 have hi : i < 6 := (List.getElem?_eq_some_iff.1 hr).1
 have : i = 0 ∨ i = 1 ∨ i = 2 ∨ i = 3 ∨ i = 4 ∨ i = 5 := by omega
 have hm := zfy hx
 rcases this with rfl | rfl | rfl | rfl | rfl | rfl <;> cases hr <;> simp only [List.mem_cons, List.not_mem_nil, or_false] at hm
 ·subst hm; rfl
 ·subst hm; rfl
 ·rcases hm with rfl | rfl <;> rfl
 ·rcases hm with rfl | rfl | rfl | rfl <;> rfl
 ·rcases hm with rfl | rfl <;> rfl
 ·rcases hm with rfl | rfl | rfl <;> rfl
theorem tab_none {s : List UInt8} (h : ∀ r ∈ tabK, s ∉ r) : level s = -1 := by
 simp only [tabK, List.mem_cons, List.not_mem_nil, or_false, forall_eq_or_imp, forall_eq, not_or] at h
 obtain ⟨h0, h1, ⟨h2, h3⟩, ⟨h4, h5, h6, h7⟩, ⟨h8, h9⟩, h10, h11, h12⟩ := h
 simp [level, h0, h1, h2, h3, h4, h5, h6, h7, h8, h9, h10, h11, h12]
theorem nb_tab {k : Nat} : nb k tabV := by
 unfold tabV tabK
 simp only [zfx, rowV, nbS]
theorem row_len : ∀ i : Nat, i < 6 → ∃ r, tabK[i]? = some r ∧ r.length ≤ 4 := by
 intro i hi
 have : i = 0 ∨ i = 1 ∨ i = 2 ∨ i = 3 ∨ i = 4 ∨ i = 5 := by omega
 rcases this with rfl | rfl | rfl | rfl | rfl | rfl <;> exact ⟨_, rfl, by decide⟩
theorem idx_tab {i : Nat} {r : List (List UInt8)} (h : tabK[i]? = some r) : idxLV 1 (.sl (tabK.map rowV) [] .full) (it i) = some (.elt [rowV r]) := zbP (e := rowV r) (by rw [zfz, h]; rfl) rfl
theorem idx_row {r : List (List UInt8)} {k : Nat} {x : List UInt8} (h : r[k]? = some x) : idxLV 1 (.sl (r.map bs) [] .full) (it k) = some (.elt [bs x]) := zbP (e := bs x) (by rw [zfz, h]; rfl) rfl
theorem kLine_ok {Γ : Glob} {m : Store} {s : List UInt8} : zae Tryz.prog Γ 183 [bs s] m fun o m' => o = .ret (it (level s)) ∧ m' = m := by
 refine zaO (zaP mixed F183_ok F183_h zaB (by first | exact LR.nil | simp only [nbS]) ?_)
 simp only [F183, ss0, ze0, zeV]
 have e7 : ∀ {t : List V} {m : Store}, zan Tryz.prog (ev Γ t) m (.lits 1 [V.val (Value.string (ByteArray.mk #[]))] 1 [(0, .const (.string (ByteArray.mk #[124, 124])))]) = some (rowV [[124, 124]]) := fun {t m} => rfl
 have e8 : ∀ {t : List V} {m : Store}, zan Tryz.prog (ev Γ t) m (.lits 1 [V.val (Value.string (ByteArray.mk #[]))] 1 [(0, .const (.string (ByteArray.mk #[38, 38])))]) = some (rowV [[38, 38]]) := fun {t m} => rfl
 have e9 : ∀ {t : List V} {m : Store}, zan Tryz.prog (ev Γ t) m (.lits 1 [V.val (Value.string (ByteArray.mk #[]))] 2 [(0, .const (.string (ByteArray.mk #[61, 61]))), (1, .const (.string (ByteArray.mk #[33, 61])))]) = some (rowV [[61, 61], [33, 61]]) := fun {t m} => rfl
 have e10 : ∀ {t : List V} {m : Store}, zan Tryz.prog (ev Γ t) m (.lits 1 [V.val (Value.string (ByteArray.mk #[]))] 4 [(0, .const (.string (ByteArray.mk #[60]))), (1, .const (.string (ByteArray.mk #[60, 61]))), (2, .const (.string (ByteArray.mk #[62]))), (3, .const (.string (ByteArray.mk #[62, 61])))]) = some (rowV [[60], [60, 61], [62], [62, 61]]) := fun {t m} => rfl
 have e11 : ∀ {t : List V} {m : Store}, zan Tryz.prog (ev Γ t) m (.lits 1 [V.val (Value.string (ByteArray.mk #[]))] 2 [(0, .const (.string (ByteArray.mk #[43]))), (1, .const (.string (ByteArray.mk #[45])))]) = some (rowV [[43], [45]]) := fun {t m} => rfl
 have e12 : ∀ {t : List V} {m : Store}, zan Tryz.prog (ev Γ t) m (.lits 1 [V.val (Value.string (ByteArray.mk #[]))] 3 [(0, .const (.string (ByteArray.mk #[42]))), (1, .const (.string (ByteArray.mk #[47]))), (2, .const (.string (ByteArray.mk #[37])))]) = some (rowV [[42], [47], [37]]) := fun {t m} => rfl
 have e13 : ∀ {t : List V} {m : Store}, tget t 6 = rowV [[124, 124]] → tget t 7 = rowV [[38, 38]] → tget t 8 = rowV [[61, 61], [33, 61]] → tget t 9 = rowV [[60], [60, 61], [62], [62, 61]] → tget t 10 = rowV [[43], [45]] → tget t 11 = rowV [[42], [47], [37]] → zan Tryz.prog (ev Γ t) m (.lits 1 [V.sl [] [] Tok.full] 6 [(0, .tmp 6), (1, .tmp 7), (2, .tmp 8), (3, .tmp 9), (4, .tmp 10), (5, .tmp 11)]) = some tabV := by
  intro t m h6 h7 h8 h9 h10 h11
  show (zc2 1 [V.sl [] [] Tok.full, V.sl [] [] Tok.full, V.sl [] [] Tok.full, V.sl [] [] Tok.full, V.sl [] [] Tok.full, V.sl [] [] Tok.full] [(0, ev Γ t (.tmp 6)), (1, ev Γ t (.tmp 7)), (2, ev Γ t (.tmp 8)), (3, ev Γ t (.tmp 9)), (4, ev Γ t (.tmp 10)), (5, ev Γ t (.tmp 11))]).map (fun es => V.sl es [] .full) = _
  simp only [zdU]
  rw [h6, h7, h8, h9, h10, h11]
  rfl
 simp only [e7, e8, e9, e10, e11, e12, ssH, zeV, zeT, reduceIte, zeU, zeZ, zeX, zeY]
 rw [e13 rfl rfl rfl rfl rfl rfl]
 simp only [ssH, zeV, zeT, reduceIte, zeU, zeZ, zeX, zeY]
 clear e7 e8 e9 e10 e11 e12 e13
 refine zdv [0, 3, 4] 38 (fun n vs h => ∃ i : Nat, vs = [bs s, tabV, it i] ∧ i + n = 7 ∧ i ≤ 6 ∧ ∀ r ∈ tabK.take i, s ∉ r) 7 (by decide) (by decide) (zfd 0) (zaC rfl (zfj _) (by decide) (by simp) (by simp only [zfx, zaa, zab, nb_tab, nbS]) (fun a ha => by omega) ⟨0, rfl, rfl, by omega, by simp⟩) ?_
 rintro n t h J hJ hl ⟨i, hv, hn, hi, hs⟩
 simp only [zfx, List.cons.injEq, and_true] at hv
 obtain ⟨h0, h3, h4⟩ := hv
 have hlen : tabK.length = 6 := rfl
 rw [t_eq hl]
 simp only [zat, upTo, h0, h3, h4, ssH, zeV, zeT, reduceIte, zeU, zeZ, zeX, zeY]
 simp only [tabV, zfk, hlen, ssH, zeV, zeT, reduceIte, zeU, zeZ, zeX, zeY]
 by_cases h6 : i < 6
 ·obtain ⟨r, hr, hr4⟩ := row_len i h6
  rw [show decide ((i : Int) < ((6 : Nat) : Int)) = true by simp; omega]
  simp only [ssH, zeV, zeT, reduceIte, zeU, zeZ, zeX, zeY]
  refine zdv [0, 3, 4, 5] 38 (fun n vs h => ∃ k : Nat, vs = [bs s, tabV, it i, it k] ∧ k + n = 5 ∧ k ≤ r.length ∧ s ∉ r.take k) 5 (by decide) (by decide) (zfd 0) (zaC rfl (zfj _) (by decide) (by simp) (by show nbs 0 [bs s, tabV, it i, it 0]; simp only [nb_tab, nbS]) (fun a ha => by omega) ⟨0, rfl, rfl, by omega, by simp⟩) ?_
  rintro n2 t2 h2 J2 hJ2 hl2 ⟨k, hv, hn2, hk, hs2⟩
  simp only [zfx, List.cons.injEq, and_true] at hv
  obtain ⟨h0, h3, h4, h5⟩ := hv
  rw [t_eq hl2]
  simp only [zat, upTo, h0, h3, h4, h5, tabV, idx_tab hr, rowV, zfk, ssH, zeV, zeT, reduceIte, zeU, zeZ, zeX, zeY]
  by_cases hkr : k < r.length
  ·have hx : r[k]? = some r[k] := ze8 hkr
   generalize r[k] = x at hx
   rw [show decide ((k : Int) < (r.length : Int)) = true by simp; omega]
   simp only [idx_tab hr, rowV, idx_row hx, ssH, zeV, zeT, reduceIte, zeU, zeZ, zeX, zeY]
   cases he : (x == s)
   ·simp only [zaq (show k < 4611686018427387904 by omega), ssH, zeV, zeT, reduceIte, zeU, zeZ, zeX, zeY]
    refine ⟨_, hJ2 (n2 - 1) (zfd 0) _ (by omega) (zaC rfl (zfj _) (by decide) (by simp) (by show nbs 0 [bs s, tabV, it i, it (k + 1 : Nat)]; simp only [nb_tab, nbS]) (fun a ha => by omega) ⟨k + 1, rfl, by omega, by omega, ?_⟩)⟩
    rw [zfh, hx]
    intro hm
    rcases List.mem_append.1 hm with hm | hm
    ·exact hs2 hm
    ·simp only [Option.toList, List.mem_singleton] at hm
     subst hm
     simp at he
   ·simp only [ssH, zeV, zeT, reduceIte, zeU, zeZ, zeX, zeY]
    have e : x = s := by simpa using he
    exact zaf zac ⟨(by simp only [zaa, zab, nbS]), by rw [← e, tab_level hr hx]; rfl⟩
  ·rw [show decide ((k : Int) < (r.length : Int)) = false by simp; omega]
   simp only [zaq (show i < 4611686018427387904 by omega), ssH, zeV, zeT, reduceIte, zeU, zeZ, zeX, zeY]
   refine ⟨_, hJ (n - 1) (zfd 0) _ (by omega) (zaC rfl (zfj _) (by decide) (by simp) (by show nbs 0 [bs s, tabV, it (i + 1 : Nat)]; simp only [nb_tab, nbS]) (fun a ha => by omega) ⟨i + 1, rfl, by omega, by omega, ?_⟩)⟩
   rw [zfh, hr]
   intro q hq
   rcases List.mem_append.1 hq with hq | hq
   ·exact hs q hq
   ·simp only [Option.toList, List.mem_singleton] at hq
    have : k = r.length := by omega
    subst this
    rw [hq]
    simpa using hs2
 ·rw [show decide ((i : Int) < ((6 : Nat) : Int)) = false by simp; omega]
  simp only [ssH, zeV, zeT, reduceIte, zeU, zeZ, zeX, zeY]
  have : i = 6 := by omega
  subst this
  exact zaf zac ⟨(by simp only [zaa, zab, nbS]), by rw [tab_none hs]; rfl⟩
end Go.Av.Fn
/- The document's rule for what stands between signs. No condition. -/
namespace Go.Av.Fn
set_option linter.unusedSimpArgs false
set_option linter.unusedVariables false
set_option maxRecDepth 10000
open Go.Proofs
def WX : Ex → List V → Prop
 | .mk k s nn kids ln, cs => ∃ vs tok, cs = [it k, bs s, it nn, .sl vs [] tok, it ln] ∧ zaL vs = exVs kids ∧ nbs 0 vs ∧ nbT 0 tok
theorem wx_exV : ∀ g : Ex, WX g (exV g).cells
 | .mk k s nn kids ln => ⟨exVs kids, .no, rfl, zaI kids, zdN kids, by rw [nbT_no]; trivial⟩
theorem wx_weak {g : Ex} {cs : List V} (h : WX g cs) : weak (.agg cs) = exV g := by
 obtain ⟨k, s, nn, kids, ln⟩ := g
 obtain ⟨vs, tok, rfl, hv, _, _⟩ := h
 simp only [weak, zaL, exV, hv, bs]
theorem wx_nb {g : Ex} {cs : List V} (h : WX g cs) : nbs 0 cs := by
 obtain ⟨k, s, nn, kids, ln⟩ := g
 obtain ⟨vs, tok, rfl, hv, h1, h2⟩ := h
 simp only [nbS]
 exact ⟨h1, h2⟩
theorem nbs_wx {k : Nat} {g : Ex} {cs : List V} (h : WX g cs) : nbs k cs := nbs_weaken (wx_nb h)
def zX : List V := [.val (.int .i64 0), .val (.string ⟨#[]⟩), .val (.int .i64 0), .sl [] [] .full, .val (.int .i64 0)]
theorem nb_zX {k : Nat} : nbs k zX := by
 unfold zX
 simp only [nbS]
theorem nbB3 {k : Nat} {A B C : Blk} {r : Hl} (hA : nbB k A) (hB : nbB k B) (hC : nbB k C) : ∀ a < 3, ∀ x, lk (some A :: some B :: some C :: r) a = some x → nbB k x := by
 intro a ha x hx
 have : a = 0 ∨ a = 1 ∨ a = 2 := by omega
 rcases this with rfl | rfl | rfl <;> cases hx <;> assumption
theorem nbB_wx {k : Nat} {T : TypeId} {g : Ex} {cs : List V} (h : WX g cs) : nbB k (.var T cs) := by
 rw [nbB_var]
 exact nbs_wx h
theorem nbB_zX {k : Nat} {T : TypeId} : nbB k (.var T zX) := by
 rw [nbB_var]
 exact nb_zX
def KQ (L : List Tk) (p : PR) (v : V) (Y : Blk) : Prop := ∃ g : Ex, v = exV g ∧ Y = rdS L (zck p) (badP p) ∧ ∀ e l, p = .ok [e] l → g = e
theorem kq_nb {L : List Tk} {p : PR} : ∀ v Y, KQ L p v Y → nb 0 v ∧ nbB 0 Y := by
 rintro v Y ⟨g, rfl, rfl, _⟩
 exact ⟨nb_exV g, zak⟩
def KEx (Γ : Glob) (L : List Tk) (n : Nat) : Prop := ∀ (line : Nat) (l : List Tk) (p : PR) (m : Store) (rb : Nat), line ≤ 6 → l <:+ L → Sgl p → m rb = some (rdS L l false) → run n (.ex line) l = some p →
 zae Tryz.prog Γ 153 [.ptr rb 0, it line] m fun o m' => ∃ v Y, o = .ret v ∧ m' = m.set rb Y ∧ KQ L p v Y
def KUn (Γ : Glob) (L : List Tk) (n : Nat) : Prop := ∀ (l : List Tk) (p : PR) (m : Store) (rb : Nat), l <:+ L → Sgl p → m rb = some (rdS L l false) → run n .un l = some p →
 zae Tryz.prog Γ 182 [.ptr rb 0] m fun o m' => ∃ v Y, o = .ret v ∧ m' = m.set rb Y ∧ KQ L p v Y
def KSi (Γ : Glob) (L : List Tk) (n : Nat) : Prop := ∀ (l : List Tk) (p : PR) (m : Store) (rb : Nat), l <:+ L → Sgl p → m rb = some (rdS L l false) → run n .si l = some p →
 zae Tryz.prog Γ 210 [.ptr rb 0] m fun o m' => ∃ v Y, o = .ret v ∧ m' = m.set rb Y ∧ KQ L p v Y
theorem zcB {r : Option PR} {k : Ex → List Tk → Option PR} {p : PR} (h : bind1 r k = some p) : ∃ p1, r = some p1 ∧ Sgl p1 ∧ ∀ g, (∀ e l, p1 = .ok [e] l → g = e) → (badP p1 = true ∧ p = .st (zck p1) ∨ badP p1 = false ∧ k g (zck p1) = some p) := by
 rcases zbB h with ⟨e1, l1, k1, k2⟩ | ⟨l1, k1, rfl⟩
 ·exact ⟨_, k1, ⟨e1, rfl⟩, fun g hq => .inr ⟨rfl, by rw [hq _ _ rfl]; exact k2⟩⟩
 ·exact ⟨_, k1, trivial, fun g hq => .inl ⟨rfl, rfl⟩⟩
theorem kfin {L : List Tk} {p : PR} {g : Ex} {t : List V} {h : Hl} {cs : List V} {i : Nat} (hw : WX g cs) (ht : resV [.cell i (some 5)] ⟨t, lk h⟩ = some (.agg cs)) (h0 : lk h 0 = some (rdS L (zck p) (badP p))) (hq : ∀ e l, p = .ok [e] l → g = e) :
  bodyH [ARes.cell i (some 5)] (fun v h' => nb 0 (weak v) ∧ ∃ Y, lk h' 0 = some Y ∧ nbB 0 Y ∧ KQ L p (weak v) Y) .ret ⟨t, h⟩ := by
 have e := wx_weak hw
 exact zaf ht ⟨by rw [e]; exact nb_exV g, _, h0, zak, g, e, rfl, hq⟩
theorem kExpr_ok {Γ : Glob} {L : List Tk} {n : Nat} (hL : L.length < 4611686018427387904) (h : ∀ k < n, KEx Γ L k ∧ KUn Γ L k) : KEx Γ L n := by
 intro line l p m rb hl hs hp1 hr hp
 obtain ⟨j, t, l', rfl, rfl, hg⟩ := zbh hp
 clear hp
 simp only [step] at hg
 refine acalls_cw mixed F153_ok F153_h zaB hr zak (by first | exact LR.nil | simp only [nbS]) ?_
 simp only [F153, ss0, ze0, zeV]
 simp only [ssH, zeV, zeT, reduceIte, zeU, zeZ, zeX, zeY]
 by_cases h6 : line = 6
 ·subst h6
  rw [if_pos rfl] at hg
  rw [show (((6 : Nat) : Int) == 6) = true from rfl]
  simp only [ssH, zeV, zeT, reduceIte, zeU, zeZ, zeX, zeY]
  refine zaM (b := 0) (az := []) rfl rfl (fun m b' hh => (h j (by omega)).2 _ p m b' hs hp1 hh hg) zak (by first | exact LR.nil | simp only [nbS]) kq_nb ?_
  rintro v Y ⟨⟨k, s, nn, kids, ln⟩, rfl, rfl, hq⟩
  simp only [exV, ssH, zeV, zeT, reduceIte, zeU, zeZ, zeX, zeY]
  exact kfin (wx_exV (.mk k s nn kids ln)) rfl rfl hq
 ·rw [if_neg h6] at hg
  rw [show ((line : Int) == 6) = false by simp; omega]
  simp only [zaq (show line < 4611686018427387904 by omega), ssH, zeV, zeT, reduceIte, zeU, zeZ, zeX, zeY]
  obtain ⟨p1, k1, hs1, hf⟩ := zcB hg
  refine zaM (b := 0) (az := [it (line + 1 : Nat)]) rfl rfl (fun m b' hh => (h j (by omega)).1 (line + 1) _ p1 m b' (by omega) hs hs1 hh k1) zak (by first | exact LR.nil | simp only [nbS]) kq_nb ?_
  rintro v Y ⟨⟨k, s, nn, kids, ln⟩, rfl, rfl, hq⟩
  have hf := hf _ hq
  have hsx : zck p1 <:+ L := (run_sfx j _ _ _ k1).trans hs
  simp only [exV, ssH, zeV, zeT, reduceIte, zeU, zeZ, zeX, zeY]
  refine zdv [0, 1, 4, 5] 55 (fun n vs h => ∃ g l1 b cs, vs = [.ptr 0 0, it line, .ptr 1 0, .ptr 2 0] ∧ h = [some (rdS L l1 b), some (.var 170 zX), some (.var 170 cs)] ∧ WX g cs ∧ l1 <:+ L ∧ n ≤ j ∧ (b = true ∧ p = .st l1 ∨ b = false ∧ run n (.lp line g) l1 = some p)) j (by decide) (by decide) (zfd 3) (zaC rfl (by decide) (by decide) (by simp) (by show nbs 3 [.ptr 0 0, it line, .ptr 1 0, .ptr 2 0]; simp only [nbS]; decide) (nbB3 zak nbB_zX (nbB_wx (wx_exV (.mk k s nn kids ln)))) ⟨.mk k s nn kids ln, zck p1, badP p1, _, rfl, rfl, wx_exV _, hsx, zfj _, hf⟩) ?_
  ·rintro n tt hh J hJ hl2 ⟨⟨k, s, nn, kids, ln⟩, l1, b, cs, hv, rfl, hw, hsx, hn, hc⟩
   have hwk := hw
   obtain ⟨vs, tok, rfl, hw1, hw2, hw3⟩ := hw
   simp only [zfx, List.cons.injEq, and_true] at hv
   obtain ⟨h0, h1, h4, h5⟩ := hv
   rw [t_eq hl2]
   simp only [zat, upTo, h0, h1, h4, h5, rdS, rdR, ssH, zeV, zeT, reduceIte, zeU, zeZ, zeX, zeY]
   rcases hc with ⟨rfl, rfl⟩ | ⟨rfl, hc⟩
   ·simp only [zX, ssH, zeV, zeT, reduceIte, zeU, zeZ, zeX, zeY]
    exact kfin hwk rfl rfl (by rintro e l ⟨⟩)
   ·obtain ⟨i, tk, l2, rfl, rfl, hg2⟩ := zbh hc
    clear hc
    simp only [step] at hg2
    simp only [ssH, zeV, zeT, reduceIte, zeU, zeZ, zeX, zeY]
    refine zau (b := 0) (az := []) rfl rfl (fun m b' hh => zds hsx hh) zak (by first | exact LR.nil | simp only [nbS]) (zdO tk) ?_
    simp only [tkV, ssH, zeV, zeT, reduceIte, zeU, zeZ, zeX, zeY]
    cases hk : (tk.k == 4)
    ·simp only [hk, Bool.false_and, ze3, if_false, Option.some.injEq] at hg2
     subst hg2
     simp only [zX, ssH, zeV, zeT, reduceIte, zeU, zeZ, zeX, zeY]
     exact kfin hwk rfl rfl (by rintro e l ⟨⟩; rfl)
    ·simp only [ssH, zeV, zeT, reduceIte, zeU, zeZ, zeX, zeY]
     refine zau (b := 0) (az := []) rfl rfl (fun m b' hh => zds hsx hh) zak (by first | exact LR.nil | simp only [nbS]) (zdO tk) ?_
     simp only [tkV, ssH, zeV, zeT, reduceIte, zeU, zeZ, zeX, zeY]
     refine zar (v := it (level tk.s)) (by exact fun m => kLine_ok) (by first | exact LR.nil | simp only [nbS]) (by first | exact LR.nil | simp only [nbS]) ?_
     simp only [ssH, zeV, zeT, reduceIte, zeU, zeZ, zeX, zeY]
     cases hlv : (level tk.s == (line : Int))
     ·simp only [hk, hlv, Bool.and_false, ze3, if_false, Option.some.injEq] at hg2
      subst hg2
      simp only [zX, ssH, zeV, zeT, reduceIte, zeU, zeZ, zeX, zeY]
      exact kfin hwk rfl rfl (by rintro e l ⟨⟩; rfl)
     ·simp only [hk, hlv, Bool.and_self, if_true] at hg2
      simp only [ssH, zeV, zeT, reduceIte, zeU, zeZ, zeX, zeY]
      refine zau (b := 0) (az := []) rfl rfl (fun m b' hh => zds hsx hh) zak (by first | exact LR.nil | simp only [nbS]) (zdO tk) ?_
      simp only [tkV, zaq (show L.length - (l2.length + 1) < 4611686018427387904 by omega), zaq (show line < 4611686018427387904 by omega), zd8 hsx, ssH, zeV, zeT, reduceIte, zeU, zeZ, zeX, zeY]
      obtain ⟨p2, k2, hs2, hf2⟩ := zcB hg2
      have hsx2 : l2 <:+ L := (zfg tk l2).trans hsx
      have hsx3 : zck p2 <:+ L := (run_sfx i _ _ _ k2).trans hsx2
      refine zaM (b := 0) (az := [it (line + 1 : Nat)]) rfl rfl (fun m b' hh => (h i (by omega)).1 (line + 1) l2 p2 m b' (by omega) hsx2 hs2 hh k2) (zak (L := L)) (by first | exact LR.nil | simp only [nbS]) kq_nb ?_
      rintro v Y ⟨e2, rfl, rfl, hq2⟩
      have hf2 := hf2 _ hq2
      simp only [lit52_eq, lits5_two (v := .agg [it k, bs s, it nn, .sl vs [] tok, it ln]) (u := exV e2) rfl (zbA e2), zX, ssH, zeV, zeT, reduceIte, zeU, zeZ, zeX, zeY]
      refine ⟨_, hJ i (zfd 3) _ (by omega) (zaC rfl (by decide) (by decide) (by simp) (by show nbs 3 [.ptr 0 0, it line, .ptr 1 0, .ptr 2 0]; simp only [nbS]; decide) (nbB3 zak nbB_zX (nbB_wx (g := .mk 7 tk.s 0 [.mk k s nn kids ln, e2] ln) ?_)) ⟨.mk 7 tk.s 0 [.mk k s nn kids ln, e2] ln, zck p2, badP p2, _, rfl, rfl, ?_, hsx3, by omega, hf2⟩)⟩
      all_goals
       refine ⟨[.agg [it k, bs s, it nn, .sl vs [] tok, it ln], exV e2], .full, rfl, ?_, ?_, by rw [nbT_full]; trivial⟩
       ·simp only [zaL, weak, exVs, exV, hw1, zcV, bs]
       ·simp only [nbS]
        exact ⟨⟨hw2, hw3⟩, nb_exV e2⟩
def Ne (r : Option PR) : Prop := ∀ l1, r = some (.st l1) → l1 ≠ []
theorem zdM {r : Option PR} {k : Ex → List Tk → Option PR} (h : Ne r) (hk : ∀ e l1, Ne (k e l1)) : Ne (bind1 r k) := by
 intro l hp
 rcases zbB hp with ⟨e, l1, h1, h2⟩ | ⟨l1, h1, h2⟩
 ·exact hk e l1 _ h2
 ·cases h2
  exact h _ h1
theorem ne_bindL {r : Option PR} {k : List Ex → List Tk → Option PR} (h : Ne r) (hk : ∀ e l1, Ne (k e l1)) : Ne (bindL r k) := by
 intro l hp
 rcases zcj hp with ⟨e, l1, h1, h2⟩ | ⟨l1, h1, h2⟩
 ·exact hk e l1 _ h2
 ·cases h2
  exact h _ h1
theorem ne_ok {es : List Ex} {l : List Tk} : Ne (some (.ok es l)) := fun _ h => by cases h
theorem ne_must {s : List UInt8} {l : List Tk} {k : List Tk → Option PR} (hk : ∀ l1, Ne (k l1)) : Ne (zbp s l k) := by
 unfold zbp
 cases l with
 | nil => intro p hp; cases hp
 | cons t r =>
  simp only
  split
  ·exact hk r
  ·rintro l1 ⟨⟩ ⟨⟩
theorem ne_name {l : List Tk} {k : List UInt8 → List Tk → Option PR} (hk : ∀ s l1, Ne (k s l1)) : Ne (nameK l k) := by
 unfold nameK
 cases l with
 | nil => intro p hp; cases hp
 | cons t r =>
  simp only
  split
  ·exact hk _ r
  ·rintro l1 ⟨⟩ ⟨⟩
theorem run_ne : ∀ (n : Nat) (r : Rule) (l : List Tk), Ne (run n r l)
 | 0, r, l => by intro p hp; cases hp
 | n + 1, r, [] => by intro p hp; cases hp
 | n + 1, r, t :: l => by
  have ih := run_ne n
  have hrow : ∀ l', Ne (rowR (run n) l') := fun l' => zdM (ih (.ex 0) l') fun e l1 => ih (.ro [e]) l1
  have hunt : ∀ s l', Ne (untilR (run n) s l') := by
   intro s l'
   unfold untilR
   cases l' with
   | nil => intro p hp; cases hp
   | cons t' r' =>
    simp only
    split
    ·exact ne_ok
    ·exact ne_bindL (hrow _) fun es l1 => ne_must fun l2 => ne_ok
  show Ne (step (run n) t l r)
  cases r with
  | ex line =>
   simp only [step]
   split
   ·exact ih _ _
   ·exact zdM (ih _ _) fun e l1 => ih _ _
  | lp line e =>
   simp only [step]
   split
   ·exact zdM (ih _ _) fun e2 l2 => ih _ _
   ·exact ne_ok
  | un =>
   simp only [step]
   split
   ·exact zdM (ih _ _) fun e l1 => ne_ok
   ·exact zdM (ih _ _) fun e l1 => ih _ _
  | po e =>
   simp only [step]
   split
   ·exact zdM (ih _ _) fun e2 l2 => ne_must fun l3 => ih _ _
   ·split
    ·exact ne_name fun s l2 => ih _ _
    ·exact ne_ok
  | ro out =>
   simp only [step]
   split
   ·exact zdM (ih _ _) fun e l1 => ih _ _
   ·exact ne_ok
  | si =>
   simp only [step, singleR]
   split
   ·exact ne_ok
   ·split
    ·exact ne_ok
    ·split
     ·unfold callR
      cases l with
      | nil => intro p hp; cases hp
      | cons t2 l2 =>
       simp only
       split
       ·exact ne_bindL (hunt _ _) fun es l3 => ne_ok
       ·exact ne_ok
     ·split
      ·exact ne_ok
      ·split
       ·exact ne_ok
       ·split
        ·exact ne_name fun s l2 => ne_must fun l3 => ne_bindL (hunt _ _) fun es l4 => ne_ok
        ·split
         ·exact ne_bindL (hrow _) fun es l2 => ne_must fun l3 => ne_ok
         ·split
          ·exact zdM (ih _ _) fun e l2 => ne_must fun l3 => ne_ok
          ·rintro l1 ⟨⟩ ⟨⟩
/-! ### Rows -/
def KL (L : List Tk) (p : PR) (v : V) (Y : Blk) : Prop := ∃ gs : List Ex, v = .sl (exVs gs) [] .no ∧ Y = rdS L (zck p) (badP p) ∧ ∀ es l, p = .ok es l → gs = es
theorem kl_nb {L : List Tk} {p : PR} : ∀ v Y, KL L p v Y → nb 0 v ∧ nbB 0 Y := by
 rintro v Y ⟨g, rfl, rfl, _⟩
 refine ⟨?_, zak⟩
 simp only [nbS]
 exact zdN g
def Bf (out : List Ex) (tok : Tok) (r : Hl) : Prop := tok = .full ∧ out = [] ∧ r = [] ∨ ∃ k, tok = .tip 1 k ∧ out ≠ [] ∧ r = [some (.tip 170 k)]
theorem bf_blk {X : Blk} {out : List Ex} {tok : Tok} {r : Hl} (h : Bf out tok r) (hX : ∀ k, nbB k X) : ∀ a < 1 + r.length, ∀ x, lk (some X :: r) a = some x → nbB (1 + r.length) x := by
 intro a ha x hx
 rcases h with ⟨rfl, rfl, rfl⟩ | ⟨k, rfl, _, rfl⟩
 ·have : a = 0 := by simp at ha; omega
  subst this
  cases hx
  exact hX _
 ·have : a = 0 ∨ a = 1 := by simp at ha; omega
  rcases this with rfl | rfl
  ·cases hx
   exact hX _
  ·cases hx
   simp only [nbS]
theorem bf_app {P : Program} {Γ : Glob} {Kp : V → Hl → Prop} {s : List (Tmp × Option (Tmp × Bool) × AOp)} {l : List Item} {K : HS → Prop} {t : List V} {d : Option Tmp} {X : Blk} {out : List Ex} {tok : Tok} {r : Hl} {e : Ex} (h : Bf out tok r) (hb : out.length ≤ 1099511627776)
  (hr : ∀ k, hth P Γ Kp s l K (hput t [some X, some (.tip 170 k)] d (some (.sl (exVs (out ++ [e])) [] (.tip 1 k))))) : happS P Γ Kp 170 64 5 (.sl (exVs out) [] tok) (.sl [exV e] [] .full) d s l K t (some X :: r) := by
 have he : zev 5 [exV e] = true := by
  obtain ⟨k, s, n, kids, ln⟩ := e
  rfl
 rw [exVs_append] at hr
 rcases h with ⟨rfl, rfl, rfl⟩ | ⟨k, rfl, h0, rfl⟩
 ·exact happ_full (ys := [exV e]) rfl (by simp) (by simp) rfl he (by simp [exVs]) (hr 0)
 ·have hne : exVs out ≠ [] := by
   cases out with
   | nil => exact absurd rfl h0
   | cons x y => simp [exVs]
  exact happ_tip (j := 1) (k := k) (x := .sl [exV e] [] .full) (ys := [exV e]) rfl (by simp) hne rfl (szOk_ex out) he (by rw [zdx]; simp; omega) (hr (k + 1))
theorem lfin {L : List Tk} {p : PR} {gs : List Ex} {tok : Tok} {t : List V} {h : Hl} {i : Nat} (ht : tget t i = .sl (exVs gs) [] tok) (h0 : lk h 0 = some (rdS L (zck p) (badP p))) (hq : ∀ es l, p = .ok es l → gs = es) :
  bodyH [ARes.tmp i] (fun v h' => nb 0 (weak v) ∧ ∃ Y, lk h' 0 = some Y ∧ nbB 0 Y ∧ KL L p (weak v) Y) .ret ⟨t, h⟩ := by
 have e : weak (.sl (exVs gs) [] tok) = .sl (exVs gs) [] .no := by simp only [weak, zaL, zaI]
 refine zaf zac ⟨?_, _, h0, zak, gs, ?_, rfl, hq⟩
 ·rw [ht, e]
  simp only [nbS]
  exact zdN gs
 ·rw [ht, e]
def listR (f : Rule → List Tk → Option PR) (s : List UInt8) (one : Bool) (t : Tk) (l : List Tk) : Option PR := if (!one && isS s t) = true then some (.ok [] l) else bindL (rowR f (t :: l)) fun es l2 => zbp s l2 fun l3 => some (.ok es l3)
section
variable {Γ : Glob} {m : Store} {rb n : Nat} {L l : List Tk} {t : Tk} {s : List UInt8} {one : Bool} {p : PR}
theorem kList_ok (hL : L.length < 4611686018427387904) (hn0 : n ≤ 1099511627776) (h : ∀ k ≤ n, KEx Γ L k) (hs : t :: l <:+ L) (hr : m rb = some (rdS L (t :: l) false)) (hp : listR (run n) s one t l = some p) :
  zae Tryz.prog Γ 227 [.ptr rb 0, bs s, .val (.bool one)] m fun o m' => ∃ v Y, o = .ret v ∧ m' = m.set rb Y ∧ KL L p v Y := by
 refine acalls_cw mixed F227_ok F227_h zaB hr zak (by first | exact LR.nil | simp only [nbS]) ?_
 simp only [F227, ss0, ze0, zeV]
 simp only [ssH, zeV, zeT, reduceIte, zeU, zeZ, zeX, zeY]
 by_cases hc : (!one && isS s t) = true
 ·obtain ⟨rfl, hi⟩ : one = false ∧ isS s t = true := by simpa using hc
  have : p = .ok [] l := by simpa [listR, hi] using hp.symm
  subst this
  simp only [ssH, zeV, zeT, reduceIte, zeU, zeZ, zeX, zeY]
  refine zas (b := 0) (az := [bs s]) (v := .val (.bool true)) rfl rfl (fun m b' hh => zbx hL hs hh hi) zak zak (by first | exact LR.nil | simp only [nbS]) (by first | exact LR.nil | simp only [nbS]) ?_
  simp only [ssH, zeV, zeT, reduceIte, zeU, zeZ, zeX, zeY]
  exact lfin (gs := []) (tok := .full) rfl rfl (by rintro es l ⟨⟩; rfl)
 ·have hloop : bindL (rowR (run n) (t :: l)) (fun es l2 => zbp s l2 fun l3 => some (.ok es l3)) = some p := by
   simpa [listR, hc] using hp
  obtain ⟨q, hq, hq2⟩ : ∃ q, rowR (run n) (t :: l) = some q ∧ (∀ out l1, q = .ok out l1 → zbp s l1 (fun l3 => some (.ok out l3)) = some p) ∧ (∀ l1, q = .st l1 → p = .st l1) := by
   rcases zcj hloop with ⟨es, l1, h1, h2⟩ | ⟨l1, h1, h2⟩
   ·exact ⟨_, h1, (fun out l1 e => by cases e; exact h2), (fun l1 e => by cases e)⟩
   ·exact ⟨_, h1, (fun out l1 e => by cases e), (fun l1 e => by cases e; exact h2)⟩
  cases one
  case' false =>
   have hi : isS s t = false := by simpa using hc
   simp only [ssH, zeV, zeT, reduceIte, zeU, zeZ, zeX, zeY]
   refine zau (b := 0) (az := [bs s]) (v := .val (.bool false)) rfl rfl (fun m b' hh => zaY hs hh (by rw [hi]; rfl)) zak (by first | exact LR.nil | simp only [nbS]) (by first | exact LR.nil | simp only [nbS]) ?_
  all_goals
   simp only [ssH, zeV, zeT, reduceIte, zeU, zeZ, zeX, zeY]
   refine zdv [0, 1, 7] 32 (fun j vs h => ∃ out l1 tok r, vs = [.ptr 0 0, bs s, .sl (exVs out) [] tok] ∧ h = some (rdS L l1 false) :: r ∧ Bf out tok r ∧ l1 <:+ L ∧ out.length + j ≤ n ∧ bind1 (run j (.ex 0) l1) (fun e l2 => run j (.ro (out ++ [e])) l2) = some q) n (by decide) (by decide) (zfd 1) (zaC rfl (by decide) (by decide) (by simp) (by show nbs 1 [.ptr 0 0, bs s, .sl [] [] .full]; simp only [nbS]; decide) (bf_blk (.inl ⟨rfl, rfl, rfl⟩) fun k => zak) ⟨[], t :: l, .full, [], rfl, rfl, .inl ⟨rfl, rfl, rfl⟩, hs, by simp, hq⟩) ?_
   rintro j tt hh J hJ hl2 ⟨out, l1, tok, r, hv, rfl, hb, hsx, hn, hg⟩
   simp only [zfx, List.cons.injEq, and_true] at hv
   obtain ⟨h0, h1, h7⟩ := hv
   rw [t_eq hl2]
   simp only [zat, upTo, h0, h1, h7, rdS, rdR, ssH, zeV, zeT, reduceIte, zeU, zeZ, zeX, zeY]
   obtain ⟨p1, k1, hs1, hf⟩ := zcB hg
   have hsx1 : zck p1 <:+ L := (run_sfx j _ _ _ k1).trans hsx
   refine zaM (b := 0) (az := [it ((0 : Nat) : Int)]) rfl rfl (fun m b' hh => h j (by omega) 0 l1 p1 m b' (by omega) hsx hs1 hh k1) (zak (L := L)) (by first | exact LR.nil | simp only [nbS]) kq_nb ?_
   rintro v Y ⟨e, rfl, rfl, hq1⟩
   have hf := hf _ hq1
   simp only [lit5_eq, zcM (zbA e), ssH, zeV, zeT, reduceIte, zeU, zeZ, zeX, zeY]
   refine bf_app hb (by omega) fun k => ?_
   simp only [ssH, zeV, zeT, reduceIte, zeU, zeZ, zeX, zeY]
   rcases hf with ⟨hbad, hqq⟩ | ⟨hgood, hqq⟩
   ·obtain ⟨t2, l2, rfl⟩ : ∃ t2 l2, p1 = .st (t2 :: l2) := by
     cases p1 with
     | ok es l => cases hbad
     | st l =>
      cases l with
      | nil => exact absurd rfl (run_ne _ _ _ _ k1)
      | cons t2 l2 => exact ⟨t2, l2, rfl⟩
    have hpp := hq2.2 _ hqq
    simp only [zck, badP] at hsx1 hpp ⊢
    subst hpp
    refine zau (b := 0) (az := [bs [44]]) (v := .val (.bool false)) rfl rfl (fun m b' hh => zaY hsx1 hh rfl) zak (by first | exact LR.nil | simp only [nbS]) (by first | exact LR.nil | simp only [nbS]) ?_
    simp only [ssH, zeV, zeT, reduceIte, zeU, zeZ, zeX, zeY]
    refine zas (b := 0) (az := [bs s]) (v := .tup []) rfl rfl (fun m b' hh => zc3 hsx1 hh rfl) zak zak (by first | exact LR.nil | simp only [nbS]) (by first | exact LR.nil | simp only [nbS]) ?_
    simp only [ssH, zeV, zeT, reduceIte, zeU, zeZ, zeX, zeY]
    exact lfin (gs := out ++ [e]) (tok := .tip 1 k) rfl rfl (by rintro es l ⟨⟩)
   ·obtain ⟨i, t2, l2, rfl, hl3, hg2⟩ := zbh hqq
    simp only [step] at hg2
    rw [hl3] at hsx1 ⊢
    rw [hgood]
    cases hcm : isS [44] t2
    ·simp only [hcm, ze3, if_false, Option.some.injEq] at hg2
     have hpp := hq2.1 _ _ hg2.symm
     refine zau (b := 0) (az := [bs [44]]) (v := .val (.bool false)) rfl rfl (fun m b' hh => zaY hsx1 hh (by rw [hcm]; rfl)) zak (by first | exact LR.nil | simp only [nbS]) (by first | exact LR.nil | simp only [nbS]) ?_
     simp only [ssH, zeV, zeT, reduceIte, zeU, zeZ, zeX, zeY]
     simp only [zbp] at hpp
     cases hmm : isS s t2
     ·simp only [hmm, ze3, if_false, Option.some.injEq] at hpp
      subst hpp
      refine zas (b := 0) (az := [bs s]) (v := .tup []) rfl rfl (fun m b' hh => zc3 hsx1 hh (by rw [hmm]; rfl)) zak zak (by first | exact LR.nil | simp only [nbS]) (by first | exact LR.nil | simp only [nbS]) ?_
      simp only [ssH, zeV, zeT, reduceIte, zeU, zeZ, zeX, zeY]
      exact lfin (gs := out ++ [e]) (tok := .tip 1 k) rfl rfl (by rintro es l ⟨⟩)
     ·simp only [hmm, if_true, Option.some.injEq] at hpp
      subst hpp
      refine zas (b := 0) (az := [bs s]) (v := .tup []) rfl rfl (fun m b' hh => kMust_yes hL hsx1 hh hmm) zak zak (by first | exact LR.nil | simp only [nbS]) (by first | exact LR.nil | simp only [nbS]) ?_
      simp only [ssH, zeV, zeT, reduceIte, zeU, zeZ, zeX, zeY]
      exact lfin (gs := out ++ [e]) (tok := .tip 1 k) rfl rfl (by rintro es l ⟨⟩; rfl)
    ·simp only [hcm, if_true] at hg2
     refine zas (b := 0) (az := [bs [44]]) (v := .val (.bool true)) rfl rfl (fun m b' hh => zbx hL hsx1 hh hcm) zak zak (by first | exact LR.nil | simp only [nbS]) (by first | exact LR.nil | simp only [nbS]) ?_
     simp only [ssH, zeV, zeT, reduceIte, zeU, zeZ, zeX, zeY]
     have hB : Bf (out ++ [e]) (.tip 1 k) [some (.tip 170 k)] := .inr ⟨k, rfl, by simp, rfl⟩
     refine ⟨_, hJ i (zfd 2) _ (by omega) (zaC rfl (by decide) (by decide) (by simp) ?_ (bf_blk hB fun k => zak) ⟨out ++ [e], l2, _, _, rfl, rfl, hB, (zfg t2 l2).trans hsx1, by simp only [zfc, ze1, zfb]; omega, hg2⟩)⟩
     show nbs 2 [.ptr 0 0, bs s, .sl (exVs (out ++ [e])) [] (.tip 1 k)]
     simp only [nbS]
     exact ⟨by decide, zdN _, by decide⟩
end
def sg : Nat → List UInt8
 | 0 => [45]
 | _ => [33]
def sgV : V := .sl [bs [45], bs [33]] [] .full
theorem idx_sg {i : Nat} (h : i < 2) : idxLV 1 (.sl [bs [45], bs [33]] [] .full) (it i) = some (.elt [bs (sg i)]) := by
 have : i = 0 ∨ i = 1 := by omega
 rcases this with rfl | rfl
 ·exact zbP (e := bs [45]) rfl rfl
 ·exact zbP (e := bs [33]) rfl rfl
theorem nbB2 {k : Nat} {A B : Blk} {r : Hl} (hA : nbB k A) (hB : nbB k B) : ∀ a < 2, ∀ x, lk (some A :: some B :: r) a = some x → nbB k x := by
 intro a ha x hx
 have : a = 0 ∨ a = 1 := by omega
 rcases this with rfl | rfl <;> cases hx <;> assumption
theorem st_cons {n : Nat} {r : Rule} {l : List Tk} {p1 : PR} (k1 : run n r l = some p1) (hbad : badP p1 = true) : ∃ t2 l2, p1 = .st (t2 :: l2) := by
 cases p1 with
 | ok es l => cases hbad
 | st l =>
  cases l with
  | nil => exact absurd rfl (run_ne _ _ _ _ k1)
  | cons t2 l2 => exact ⟨t2, l2, rfl⟩
theorem kUnary_ok {Γ : Glob} {L : List Tk} {n : Nat} (hL : L.length < 4611686018427387904) (h : ∀ k < n, KEx Γ L k ∧ KUn Γ L k ∧ KSi Γ L k) : KUn Γ L n := by
 intro l p m rb hs hp1 hr hp
 obtain ⟨j, t, l', rfl, rfl, hg⟩ := zbh hp
 clear hp
 simp only [step] at hg
 refine acalls_cw mixed F182_ok F182_h zaB hr zak (by first | exact LR.nil | simp only [nbS]) ?_
 simp only [F182, ss0, ze0, zeV]
 have e10 : ∀ {t : List V} {m : Store}, zan Tryz.prog (ev Γ t) m (.lits 1 [V.val (Value.string (ByteArray.mk #[]))] 2 [(0, .const (.string (ByteArray.mk #[45]))), (1, .const (.string (ByteArray.mk #[33])))]) = some sgV := fun {t m} => rfl
 simp only [ssH, zeV, zeT, reduceIte, zeU, zeZ, zeX, zeY]
 refine zau (b := 0) (az := []) rfl rfl (fun m b' hh => zds hs hh) zak (by first | exact LR.nil | simp only [nbS]) (zdO t) ?_
 simp only [tkV, e10, ssH, zeV, zeT, reduceIte, zeU, zeZ, zeX, zeY]
 simp only [sgV, ze1, zfb, ssH, zeV, zeT, reduceIte, zeU, zeZ, zeX, zeY]
 refine zdv [0, 2, 3, 10, 11, 12] 57 (fun n vs h => ∃ i : Nat, vs = [.ptr 0 0, .ptr 1 0, it t.l, sgV, it (2 : Nat), it i] ∧ h = [some (rdS L (t :: l') false), some (.var 170 zX)] ∧ i + n = 3 ∧ i ≤ 2 ∧ ∀ a < i, isS (sg a) t = false) 3 (by decide) (by decide) (zfd 2) (zaC rfl (by decide) (by decide) (by simp) (by show nbs 2 [.ptr 0 0, .ptr 1 0, it t.l, sgV, it (2 : Nat), it (0 : Nat)]; simp only [sgV, nbS]; decide) (nbB2 zak nbB_zX) ⟨0, rfl, rfl, rfl, by decide, fun a ha => by omega⟩) ?_
 rintro n tt hh J hJ hl2 ⟨i, hv, rfl, hn, hi, hno⟩
 simp only [zfx, List.cons.injEq, and_true] at hv
 obtain ⟨h0, h2, h3, h10, h11, h12⟩ := hv
 rw [t_eq hl2]
 simp only [zat, upTo, h0, h2, h3, h10, h11, h12, rdS, rdR, ssH, zeV, zeT, reduceIte, zeU, zeZ, zeX, zeY]
 by_cases h6 : i < 2
 ·rw [show decide ((i : Int) < ((2 : Nat) : Int)) = true by simp; omega]
  simp only [sgV, idx_sg h6, ssH, zeV, zeT, reduceIte, zeU, zeZ, zeX, zeY]
  cases hi2 : isS (sg i) t
  ·refine zau (b := 0) (az := [bs (sg i)]) (v := .val (.bool false)) rfl rfl (fun m b' hh => zaY hs hh (by rw [hi2]; rfl)) zak (by first | exact LR.nil | simp only [nbS]) (by first | exact LR.nil | simp only [nbS]) ?_
   simp only [zaq (show i < 4611686018427387904 by omega), ssH, zeV, zeT, reduceIte, zeU, zeZ, zeX, zeY]
   refine ⟨_, hJ (n - 1) (zfd 2) _ (by omega) (zaC rfl (by decide) (by decide) (by simp) (by show nbs 2 [.ptr 0 0, .ptr 1 0, it t.l, sgV, it (2 : Nat), it (i + 1 : Nat)]; simp only [sgV, nbS]; decide) (nbB2 zak nbB_zX) ⟨i + 1, rfl, rfl, by omega, by omega, ?_⟩)⟩
   intro a ha
   by_cases e : a = i
   ·rw [e]; exact hi2
   ·exact hno a (by omega)
  ·have hg2 : bind1 (run j .un l') (fun e l1 => some (.ok [.mk 6 t.s 0 [e] t.l] l1)) = some p := by
    rw [if_pos] at hg
    ·exact hg
    ·have : i = 0 ∨ i = 1 := by omega
     rcases this with rfl | rfl <;> simp only [sg] at hi2 <;> rw [hi2] <;> simp
   have hts : t.s = sg i := by
    simp only [isS, ze2, beq_iff_eq] at hi2
    exact hi2.2
   obtain ⟨p1, k1, hs1, hf⟩ := zcB hg2
   have hs' : l' <:+ L := (zfg t l').trans hs
   refine zas (b := 0) (az := [bs (sg i)]) (v := .val (.bool true)) rfl rfl (fun m b' hh => zbx hL hs hh hi2) zak zak (by first | exact LR.nil | simp only [nbS]) (by first | exact LR.nil | simp only [nbS]) ?_
   simp only [ssH, zeV, zeT, reduceIte, zeU, zeZ, zeX, zeY]
   refine zaM (b := 0) (az := []) rfl rfl (fun m b' hh => (h j (by omega)).2.1 l' p1 m b' hs' hs1 hh k1) zak (by first | exact LR.nil | simp only [nbS]) kq_nb ?_
   rintro v Y ⟨e, rfl, rfl, hq1⟩
   have hf := hf _ hq1
   simp only [lit5_eq, zcM (zbA e), zX, ssH, zeV, zeT, reduceIte, zeU, zeZ, zeX, zeY]
   have hw : WX (.mk 6 (sg i) 0 [e] t.l) [it 6, bs (sg i), it 0, .sl [exV e] [] .full, it t.l] := ⟨[exV e], .full, rfl, by simp only [zaL, zcV, exVs], by simp only [nbS]; exact nb_exV e, by rw [nbT_full]; trivial⟩
   rcases hf with ⟨hb, rfl⟩ | ⟨hb, hpp⟩
   ·exact kfin hw rfl (by rw [hb]; rfl) (by rintro e l ⟨⟩)
   ·simp only [Option.some.injEq] at hpp
    subst hpp
    exact kfin hw rfl (by rw [hb]; rfl) (by rintro e l ⟨⟩; rw [hts])
 ·rw [show decide ((i : Int) < ((2 : Nat) : Int)) = false by simp; omega]
  have : i = 2 := by omega
  subst this
  have ha : isS [45] t = false := hno 0 (by decide)
  have hb : isS [33] t = false := hno 1 (by decide)
  simp only [ha, hb, Bool.or_self, ze3, if_false] at hg
  obtain ⟨p1, k1, hs1, hf⟩ := zcB hg
  have hsx1 : zck p1 <:+ L := (run_sfx j _ _ _ k1).trans hs
  simp only [ssH, zeV, zeT, reduceIte, zeU, zeZ, zeX, zeY]
  refine zaM (b := 0) (az := []) rfl rfl (fun m b' hh => (h j (by omega)).2.2 _ p1 m b' hs hs1 hh k1) zak (by first | exact LR.nil | simp only [nbS]) kq_nb ?_
  rintro v Y ⟨⟨k, s, nn, kids, ln⟩, rfl, rfl, hq1⟩
  have hf := hf _ hq1
  simp only [exV, ssH, zeV, zeT, reduceIte, zeU, zeZ, zeX, zeY]
  refine zdv [0, 2, 6] 57 (fun n vs h => ∃ g l1 b cs, vs = [.ptr 0 0, .ptr 1 0, .ptr 2 0] ∧ h = [some (rdS L l1 b), some (.var 170 zX), some (.var 170 cs)] ∧ WX g cs ∧ l1 <:+ L ∧ n ≤ j ∧ (b = true ∧ p = .st l1 ∨ b = false ∧ run n (.po g) l1 = some p)) j (by decide) (by decide) (zfd 3) (zaC rfl (by decide) (by decide) (by simp) (by show nbs 3 [.ptr 0 0, .ptr 1 0, .ptr 2 0]; simp only [nbS]; decide) (nbB3 zak nbB_zX (nbB_wx (wx_exV (.mk k s nn kids ln)))) ⟨.mk k s nn kids ln, zck p1, badP p1, _, rfl, rfl, wx_exV _, hsx1, zfj _, hf⟩) ?_
  clear hf hq1 k1 hs1 hsx1 hJ hg
  rintro n tt hh J hJ hl2 ⟨⟨k, s, nn, kids, ln⟩, l1, b, cs, hv, rfl, hw, hsx, hn, hc⟩
  have hwk := hw
  obtain ⟨vs, tok, rfl, hw1, hw2, hw3⟩ := hw
  simp only [zfx, List.cons.injEq, and_true] at hv
  obtain ⟨h0, h2, h6⟩ := hv
  rw [t_eq hl2]
  simp only [zat, upTo, h0, h2, h6, rdS, rdR, ssH, zeV, zeT, reduceIte, zeU, zeZ, zeX, zeY]
  rcases hc with ⟨rfl, rfl⟩ | ⟨rfl, hc⟩
  ·simp only [zX, ssH, zeV, zeT, reduceIte, zeU, zeZ, zeX, zeY]
   exact kfin hwk rfl rfl (by rintro e l ⟨⟩)
  ·obtain ⟨i, tk, l2, rfl, rfl, hg⟩ := zbh hc
   clear hc
   simp only [step] at hg
   have hsx2 : l2 <:+ L := (zfg tk l2).trans hsx
   have hnx : ∀ (K : Int) (S : List UInt8) (KE : List Ex) (KS : List V) (l3 : List Tk) (b : Bool) (tt' : List V), tt'.length = 57 → tget tt' 0 = .ptr 0 0 → tget tt' 2 = .ptr 1 0 → tget tt' 6 = .ptr 2 0 → zaL KS = exVs KE → nbs 0 KS → l3 <:+ L → (b = true ∧ p = .st l3 ∨ b = false ∧ run i (.po (.mk K S 0 KE ln)) l3 = some p) →
     ∃ names, J names ⟨tt', [some (rdS L l3 b), some (.var 170 zX), some (.var 170 [it K, bs S, it 0, .sl KS [] .full, it ln])]⟩ := by
    intro K S KE KS l3 b tt' q0 q1 q2 q3 q4 q5 q6 q7
    have hw : WX (.mk K S 0 KE ln) [it K, bs S, it 0, .sl KS [] .full, it ln] := ⟨KS, .full, rfl, q4, q5, by rw [nbT_full]; trivial⟩
    refine ⟨_, hJ i (zfd 3) _ (by omega) (zaC q0 (by decide) (by decide) (by simp) ?_ (nbB3 zak nbB_zX (nbB_wx hw)) ⟨.mk K S 0 KE ln, l3, b, _, ?_, rfl, hw, q6, by omega, q7⟩)⟩
    ·simp only [zfx, q1, q2, q3, nbS]
     decide
    ·simp only [zfx, q1, q2, q3]
   simp only [ssH, zeV, zeT, reduceIte, zeU, zeZ, zeX, zeY]
   cases hi1 : isS [91] tk
   ·refine zau (b := 0) (az := [bs [91]]) (v := .val (.bool false)) rfl rfl (fun m b' hh => zaY hsx hh (by rw [hi1]; rfl)) zak (by first | exact LR.nil | simp only [nbS]) (by first | exact LR.nil | simp only [nbS]) ?_
    simp only [ssH, zeV, zeT, reduceIte, zeU, zeZ, zeX, zeY]
    cases hi2 : isS [46] tk
    ·refine zau (b := 0) (az := [bs [46]]) (v := .val (.bool false)) rfl rfl (fun m b' hh => zaY hsx hh (by rw [hi2]; rfl)) zak (by first | exact LR.nil | simp only [nbS]) (by first | exact LR.nil | simp only [nbS]) ?_
     simp only [hi1, hi2, ze3, if_false, Option.some.injEq] at hg
     subst hg
     simp only [zX, ssH, zeV, zeT, reduceIte, zeU, zeZ, zeX, zeY]
     exact kfin hwk rfl rfl (by rintro e l ⟨⟩; rfl)
    ·refine zas (b := 0) (az := [bs [46]]) (v := .val (.bool true)) rfl rfl (fun m b' hh => zbx hL hsx hh hi2) zak zak (by first | exact LR.nil | simp only [nbS]) (by first | exact LR.nil | simp only [nbS]) ?_
     simp only [hi1, hi2, ze3, if_false, if_true] at hg
     simp only [lit5_eq, zcM (v := .agg [it k, bs s, it nn, .sl vs [] tok, it ln]) rfl, ssH, zeV, zeT, reduceIte, zeU, zeZ, zeX, zeY]
     cases l2 with
     | nil => cases hg
     | cons t3 l3 =>
      have hsx3 : l3 <:+ L := (zfg t3 l3).trans hsx2
      simp only [nameK] at hg
      by_cases hk : t3.k = 1
      ·rw [if_pos hk] at hg
       refine zas (b := 0) (az := []) (v := bs t3.s) rfl rfl (fun m b' hh => kName_yes hL hsx2 hh hk) zak zak (by first | exact LR.nil | simp only [nbS]) (by first | exact LR.nil | simp only [nbS]) ?_
       simp only [ssH, zeV, zeT, reduceIte, zeU, zeZ, zeX, zeY]
       exact hnx 9 t3.s [.mk k s nn kids ln] [.agg [it k, bs s, it nn, .sl vs [] tok, it ln]] l3 false _ rfl rfl rfl rfl (by simp only [zaL, weak, exVs, exV, hw1, bs]) (by simp only [nbS]; exact ⟨hw2, hw3⟩) hsx3 (.inr ⟨rfl, hg⟩)
      ·rw [if_neg hk] at hg
       simp only [Option.some.injEq] at hg
       refine zas (b := 0) (az := []) (v := bs []) rfl rfl (fun m b' hh => kName_no hsx2 hh (.inr hk)) zak zak (by first | exact LR.nil | simp only [nbS]) (by first | exact LR.nil | simp only [nbS]) ?_
       simp only [ssH, zeV, zeT, reduceIte, zeU, zeZ, zeX, zeY]
       exact hnx 9 [] [.mk k s nn kids ln] [.agg [it k, bs s, it nn, .sl vs [] tok, it ln]] (t3 :: l3) true _ rfl rfl rfl rfl (by simp only [zaL, weak, exVs, exV, hw1, bs]) (by simp only [nbS]; exact ⟨hw2, hw3⟩) hsx2 (.inl ⟨rfl, hg.symm⟩)
   ·refine zas (b := 0) (az := [bs [91]]) (v := .val (.bool true)) rfl rfl (fun m b' hh => zbx hL hsx hh hi1) zak zak (by first | exact LR.nil | simp only [nbS]) (by first | exact LR.nil | simp only [nbS]) ?_
    simp only [hi1, if_true] at hg
    simp only [ssH, zeV, zeT, reduceIte, zeU, zeZ, zeX, zeY]
    obtain ⟨p2, k2, hs2, hf2⟩ := zcB hg
    have hsx3 : zck p2 <:+ L := (run_sfx i _ _ _ k2).trans hsx2
    refine zaM (b := 0) (az := [it ((0 : Nat) : Int)]) rfl rfl (fun m b' hh => (h i (by omega)).1 0 l2 p2 m b' (by omega) hsx2 hs2 hh k2) zak (by first | exact LR.nil | simp only [nbS]) kq_nb ?_
    rintro v Y ⟨e2, rfl, rfl, hq2⟩
    have hf2 := hf2 _ hq2
    simp only [lit52_eq, lits5_two (v := .agg [it k, bs s, it nn, .sl vs [] tok, it ln]) (u := exV e2) rfl (zbA e2), ssH, zeV, zeT, reduceIte, zeU, zeZ, zeX, zeY]
    have hv1 : zaL [.agg [it k, bs s, it nn, .sl vs [] tok, it ln], exV e2] = exVs [.mk k s nn kids ln, e2] := by simp only [zaL, weak, exVs, exV, hw1, zcV, bs]
    have hv2 : nbs 0 [.agg [it k, bs s, it nn, .sl vs [] tok, it ln], exV e2] := by
     simp only [nbS]
     exact ⟨⟨hw2, hw3⟩, nb_exV e2⟩
    rcases hf2 with ⟨hbad, hqq⟩ | ⟨hgood, hqq⟩
    ·obtain ⟨t2, l3, rfl⟩ := st_cons k2 hbad
     simp only [zck, badP] at hsx3 hqq ⊢
     refine zas (b := 0) (az := [bs [93]]) (v := .tup []) rfl rfl (fun m b' hh => zc3 hsx3 hh rfl) zak zak (by first | exact LR.nil | simp only [nbS]) (by first | exact LR.nil | simp only [nbS]) ?_
     simp only [ssH, zeV, zeT, reduceIte, zeU, zeZ, zeX, zeY]
     exact hnx 8 [] [.mk k s nn kids ln, e2] _ (t2 :: l3) true _ rfl rfl rfl rfl hv1 hv2 hsx3 (.inl ⟨rfl, hqq⟩)
    ·rw [hgood]
     generalize zck p2 = l3 at hqq hsx3
     cases l3 with
     | nil => cases hqq
     | cons t3 l3 =>
      have hsx4 : l3 <:+ L := (zfg t3 l3).trans hsx3
      simp only [zbp] at hqq
      cases hmm : isS [93] t3
      ·simp only [hmm, ze3, if_false, Option.some.injEq] at hqq
       refine zas (b := 0) (az := [bs [93]]) (v := .tup []) rfl rfl (fun m b' hh => zc3 hsx3 hh (by rw [hmm]; rfl)) zak zak (by first | exact LR.nil | simp only [nbS]) (by first | exact LR.nil | simp only [nbS]) ?_
       simp only [ssH, zeV, zeT, reduceIte, zeU, zeZ, zeX, zeY]
       exact hnx 8 [] [.mk k s nn kids ln, e2] _ (t3 :: l3) true _ rfl rfl rfl rfl hv1 hv2 hsx3 (.inl ⟨rfl, hqq.symm⟩)
      ·simp only [hmm, if_true] at hqq
       refine zas (b := 0) (az := [bs [93]]) (v := .tup []) rfl rfl (fun m b' hh => kMust_yes hL hsx3 hh hmm) zak zak (by first | exact LR.nil | simp only [nbS]) (by first | exact LR.nil | simp only [nbS]) ?_
       simp only [ssH, zeV, zeT, reduceIte, zeU, zeZ, zeX, zeY]
       exact hnx 8 [] [.mk k s nn kids ln, e2] _ l3 false _ rfl rfl rfl rfl hv1 hv2 hsx4 (.inr ⟨rfl, hqq⟩)
theorem isS_k {t : Tk} (h4 : t.k ≠ 4) (h5 : t.k ≠ 5) (s : List UInt8) : isS s t = false := by
 simp [isS, h4, h5]
section
variable {Γ : Glob} {m : Store} {rb n : Nat} {L l : List Tk} {t : Tk} {s : List UInt8} {one : Bool} {p : PR}
theorem kList_bad (hs : t :: l <:+ L) (hr : m rb = some (rdS L (t :: l) true)) :
  zae Tryz.prog Γ 227 [.ptr rb 0, bs s, .val (.bool one)] m fun o m' => ∃ v Y, o = .ret v ∧ m' = m.set rb Y ∧ KL L (.st (t :: l)) v Y := by
 refine acalls_cw mixed F227_ok F227_h zaB hr zak (by first | exact LR.nil | simp only [nbS]) ?_
 simp only [F227, ss0, ze0, zeV]
 simp only [ssH, zeV, zeT, reduceIte, zeU, zeZ, zeX, zeY]
 cases one
 case' false =>
  simp only [ssH, zeV, zeT, reduceIte, zeU, zeZ, zeX, zeY]
  refine zau (b := 0) (az := [bs s]) (v := .val (.bool false)) rfl rfl (fun m b' hh => zaY hs hh rfl) zak (by first | exact LR.nil | simp only [nbS]) (by first | exact LR.nil | simp only [nbS]) ?_
 all_goals
  simp only [ssH, zeV, zeT, reduceIte, zeU, zeZ, zeX, zeY]
  refine zdv [0, 1, 7] 32 (fun j vs h => vs = [.ptr 0 0, bs s, .sl [] [] .full] ∧ h = [some (rdS L (t :: l) true)]) 0 (by decide) (by decide) (zfd 1) (zaC rfl (by decide) (by decide) (by simp) (by show nbs 1 [.ptr 0 0, bs s, .sl [] [] .full]; simp only [nbS]; decide) (bf_blk (.inl ⟨rfl, rfl, rfl⟩) fun k => zak) ⟨rfl, rfl⟩) ?_
  rintro j tt hh J hJ hl2 ⟨hv, rfl⟩
  simp only [zfx, List.cons.injEq, and_true] at hv
  obtain ⟨h0, h1, h7⟩ := hv
  rw [t_eq hl2]
  simp only [zat, upTo, h0, h1, h7, rdS, rdR, ssH, zeV, zeT, reduceIte, zeU, zeZ, zeX, zeY]
  refine zas (b := 0) (az := [bs s]) (v := .tup []) rfl rfl (fun m b' hh => zc3 hs hh rfl) zak zak (by first | exact LR.nil | simp only [nbS]) (by first | exact LR.nil | simp only [nbS]) ?_
  simp only [ssH, zeV, zeT, reduceIte, zeU, zeZ, zeX, zeY]
  exact lfin (gs := []) (tok := .full) rfl rfl (by rintro es l ⟨⟩)
end
theorem bindL_next {r : Option PR} {k : List Ex → List Tk → Option PR} {p : PR} (h : bindL r k = some p) : ∃ q, r = some q ∧ ∀ g, (∀ es l, q = .ok es l → g = es) → (badP q = true ∧ p = .st (zck q) ∨ badP q = false ∧ k g (zck q) = some p) := by
 rcases zcj h with ⟨es, l1, k1, k2⟩ | ⟨l1, k1, rfl⟩
 ·exact ⟨_, k1, fun g hq => .inr ⟨rfl, by rw [hq _ _ rfl]; exact k2⟩⟩
 ·exact ⟨_, k1, fun g hq => .inl ⟨rfl, rfl⟩⟩
theorem list_until {f : Rule → List Tk → Option PR} {s : List UInt8} {t : Tk} {l : List Tk} : listR f s false t l = untilR f s (t :: l) := by
 simp only [listR, untilR, ze4, zfG]
theorem list_row {f : Rule → List Tk → Option PR} {s : List UInt8} {t : Tk} {l : List Tk} : listR f s true t l = bindL (rowR f (t :: l)) fun es l2 => zbp s l2 fun l3 => some (.ok es l3) := by
 simp only [listR, ze6, Bool.false_and, ze3, if_false]
theorem row_nil {n : Nat} : rowR (run n) [] = none := by
 cases n <;> rfl
theorem row_next {f : Rule → List Tk → Option PR} {s : List UInt8} {l : List Tk} {k : List Ex → List Tk → Option PR} {p : PR} (h : (bindL (rowR f l) fun es l2 => zbp s l2 fun l3 => k es l3) = some p) : ∃ q, (bindL (rowR f l) fun es l2 => zbp s l2 fun l3 => some (.ok es l3)) = some q ∧ ∀ g, (∀ es l, q = .ok es l → g = es) → (badP q = true ∧ p = .st (zck q) ∨ badP q = false ∧ k g (zck q) = some p) := by
 rcases zcj h with ⟨es, l1, k1, k2⟩ | ⟨l1, k1, rfl⟩
 ·rw [k1]
  cases l1 with
  | nil => cases k2
  | cons t2 l2 =>
   simp only [zbp, bindL] at k2 ⊢
   split at k2
   ·rename_i hm
    rw [if_pos hm]
    exact ⟨_, rfl, fun g hq => .inr ⟨rfl, by rw [hq _ _ rfl]; exact k2⟩⟩
   ·rename_i hm
    rw [if_neg hm]
    cases k2
    exact ⟨_, rfl, fun g hq => .inl ⟨rfl, rfl⟩⟩
 ·rw [k1]
  exact ⟨_, rfl, fun g hq => .inl ⟨rfl, rfl⟩⟩
theorem kSingle_ok {Γ : Glob} {L : List Tk} {n : Nat} (hL : L.length < 4611686018427387904) (hn0 : n ≤ 1099511627776) (h : ∀ k < n, KEx Γ L k) : KSi Γ L n := by
 intro l p m rb hs hp1 hr hp
 obtain ⟨j, t, l', rfl, rfl, hg⟩ := zbh hp
 clear hp
 simp only [step, singleR] at hg
 have hs' : l' <:+ L := (zfg t l').trans hs
 have hw : ∀ (K : Int) (S : List UInt8) (N : Int) (KE : List Ex) (tok : Tok), nbT 0 tok → WX (.mk K S N KE t.l) [it K, bs S, it N, .sl (exVs KE) [] tok, it t.l] := fun K S N KE tok ht => ⟨exVs KE, tok, rfl, zaI KE, zdN KE, ht⟩
 have hf : nbT 0 .full := by rw [nbT_full]; trivial
 have hz : nbT 0 .no := by rw [nbT_no]; trivial
 refine acalls_cw mixed F210_ok F210_h zaB hr zak (by first | exact LR.nil | simp only [nbS]) ?_
 simp only [F210, ss0, ze0, zeV]
 simp only [ssH, zeV, zeT, reduceIte, zeU, zeZ, zeX, zeY]
 refine zau (b := 0) (az := []) rfl rfl (fun m b' hh => zds hs hh) zak (by first | exact LR.nil | simp only [nbS]) (zdO t) ?_
 simp only [tkV, rdS, rdR, ssH, zeV, zeT, reduceIte, zeU, zeZ, zeX, zeY]
 by_cases h2 : t.k = 2
 ·rw [if_pos h2] at hg
  simp only [Option.some.injEq] at hg
  subst hg
  simp only [h2, zaq (show L.length - (l'.length + 1) < 4611686018427387904 by omega), zd8 hs, ssH, zeV, zeT, reduceIte, zeU, zeZ, zeX, zeY]
  exact kfin (hw 1 [] t.n [] .full hf) rfl rfl (by rintro e l ⟨⟩; rfl)
 rw [if_neg h2] at hg
 have b2 : (t.k == 2) = false := by simpa using h2
 simp only [b2, ssH, zeV, zeT, reduceIte, zeU, zeZ, zeX, zeY]
 by_cases h3 : t.k = 3
 ·rw [if_pos h3] at hg
  simp only [Option.some.injEq] at hg
  subst hg
  simp only [h3, zaq (show L.length - (l'.length + 1) < 4611686018427387904 by omega), zd8 hs, ssH, zeV, zeT, reduceIte, zeU, zeZ, zeX, zeY]
  exact kfin (hw 3 t.s 0 [] .full hf) rfl rfl (by rintro e l ⟨⟩; rfl)
 rw [if_neg h3] at hg
 have b3 : (t.k == 3) = false := by simpa using h3
 simp only [b3, ssH, zeV, zeT, reduceIte, zeU, zeZ, zeX, zeY]
 by_cases h1 : t.k = 1
 ·rw [if_pos h1] at hg
  have hi : ∀ x, isS x t = false := isS_k (by omega) (by omega)
  refine zau (b := 0) (az := [bs [116, 114, 117, 101]]) (v := .val (.bool false)) rfl rfl (fun m b' hh => zaY hs hh (by rw [hi]; rfl)) (zak (L := L)) (by first | exact LR.nil | simp only [nbS]) (by first | exact LR.nil | simp only [nbS]) ?_
  simp only [ssH, zeV, zeT, reduceIte, zeU, zeZ, zeX, zeY]
  refine zau (b := 0) (az := [bs [102, 97, 108, 115, 101]]) (v := .val (.bool false)) rfl rfl (fun m b' hh => zaY hs hh (by rw [hi]; rfl)) (zak (L := L)) (by first | exact LR.nil | simp only [nbS]) (by first | exact LR.nil | simp only [nbS]) ?_
  simp only [ssH, zeV, zeT, reduceIte, zeU, zeZ, zeX, zeY]
  refine zau (b := 0) (az := [bs [110, 101, 119]]) (v := .val (.bool false)) rfl rfl (fun m b' hh => zaY hs hh (by rw [hi]; rfl)) (zak (L := L)) (by first | exact LR.nil | simp only [nbS]) (by first | exact LR.nil | simp only [nbS]) ?_
  simp only [ssH, zeV, zeT, reduceIte, zeU, zeZ, zeX, zeY]
  refine zau (b := 0) (az := [bs [91]]) (v := .val (.bool false)) rfl rfl (fun m b' hh => zaY hs hh (by rw [hi]; rfl)) (zak (L := L)) (by first | exact LR.nil | simp only [nbS]) (by first | exact LR.nil | simp only [nbS]) ?_
  simp only [ssH, zeV, zeT, reduceIte, zeU, zeZ, zeX, zeY]
  refine zau (b := 0) (az := [bs [40]]) (v := .val (.bool false)) rfl rfl (fun m b' hh => zaY hs hh (by rw [hi]; rfl)) (zak (L := L)) (by first | exact LR.nil | simp only [nbS]) (by first | exact LR.nil | simp only [nbS]) ?_
  simp only [ssH, zeV, zeT, reduceIte, zeU, zeZ, zeX, zeY]
  simp only [h1, zaq (show L.length - (l'.length + 1) < 4611686018427387904 by omega), zd8 hs, ssH, zeV, zeT, reduceIte, zeU, zeZ, zeX, zeY]
  cases l' with
  | nil => cases hg
  | cons t2 l2 =>
   simp only [callR] at hg
   have hs2 : l2 <:+ L := (zfg t2 l2).trans hs'
   cases hp2 : isS [40] t2
   ·simp only [hp2, ze3, if_false, Option.some.injEq] at hg
    subst hg
    refine zau (b := 0) (az := [bs [40]]) (v := .val (.bool false)) rfl rfl (fun m b' hh => zaY hs' hh (by rw [hp2]; rfl)) (zak (L := L)) (by first | exact LR.nil | simp only [nbS]) (by first | exact LR.nil | simp only [nbS]) ?_
    simp only [ssH, zeV, zeT, reduceIte, zeU, zeZ, zeX, zeY]
    exact kfin (hw 4 t.s 0 [] .full hf) rfl rfl (by rintro e l ⟨⟩; rfl)
   ·simp only [hp2, if_true] at hg
    refine zas (b := 0) (az := [bs [40]]) (v := .val (.bool true)) rfl rfl (fun m b' hh => zbx hL hs' hh hp2) (zak (L := L)) zak (by first | exact LR.nil | simp only [nbS]) (by first | exact LR.nil | simp only [nbS]) ?_
    simp only [ssH, zeV, zeT, reduceIte, zeU, zeZ, zeX, zeY]
    cases l2 with
    | nil => cases hg
    | cons t3 l3 =>
     obtain ⟨q, hq, hq2⟩ := bindL_next hg
     refine zaM (b := 0) (az := [bs [41], .val (.bool false)]) rfl rfl (fun m b' hh => kList_ok (n := j) (t := t3) (l := l3) (s := [41]) (one := false) (p := q) hL (by omega) (fun k hk => h k (by omega)) hs2 hh (by rw [list_until]; exact hq)) (zak (L := L)) (by first | exact LR.nil | simp only [nbS]) kl_nb ?_
     rintro v Y ⟨es, rfl, rfl, hq3⟩
     have hq2 := hq2 _ hq3
     simp only [ssH, zeV, zeT, reduceIte, zeU, zeZ, zeX, zeY]
     rcases hq2 with ⟨hb, rfl⟩ | ⟨hb, hpp⟩
     ·exact kfin (hw 5 t.s 0 es .no hz) rfl (by rw [hb]; rfl) (by rintro e l ⟨⟩)
     ·simp only [Option.some.injEq] at hpp
      subst hpp
      exact kfin (hw 5 t.s 0 es .no hz) rfl (by rw [hb]; rfl) (by rintro e l ⟨⟩; rfl)
 rw [if_neg h1] at hg
 have b1 : (t.k == 1) = false := by simpa using h1
 by_cases h_true : isS [116, 114, 117, 101] t = true
 ·rw [if_pos h_true] at hg
  simp only [Option.some.injEq] at hg
  subst hg
  refine zas (b := 0) (az := [bs [116, 114, 117, 101]]) (v := .val (.bool true)) rfl rfl (fun m b' hh => zbx hL hs hh h_true) (zak (L := L)) zak (by first | exact LR.nil | simp only [nbS]) (by first | exact LR.nil | simp only [nbS]) ?_
  simp only [ssH, zeV, zeT, reduceIte, zeU, zeZ, zeX, zeY]
  exact kfin (hw 2 [] 1 [] .full hf) rfl rfl (by rintro e l ⟨⟩; rfl)
 rw [if_neg h_true] at hg
 refine zau (b := 0) (az := [bs [116, 114, 117, 101]]) (v := .val (.bool false)) rfl rfl (fun m b' hh => zaY hs hh (by rw [Bool.eq_false_iff.2 h_true]; rfl)) (zak (L := L)) (by first | exact LR.nil | simp only [nbS]) (by first | exact LR.nil | simp only [nbS]) ?_
 simp only [ssH, zeV, zeT, reduceIte, zeU, zeZ, zeX, zeY]
 by_cases h_false : isS [102, 97, 108, 115, 101] t = true
 ·rw [if_pos h_false] at hg
  simp only [Option.some.injEq] at hg
  subst hg
  refine zas (b := 0) (az := [bs [102, 97, 108, 115, 101]]) (v := .val (.bool true)) rfl rfl (fun m b' hh => zbx hL hs hh h_false) (zak (L := L)) zak (by first | exact LR.nil | simp only [nbS]) (by first | exact LR.nil | simp only [nbS]) ?_
  simp only [ssH, zeV, zeT, reduceIte, zeU, zeZ, zeX, zeY]
  exact kfin (hw 2 [] 0 [] .full hf) rfl rfl (by rintro e l ⟨⟩; rfl)
 rw [if_neg h_false] at hg
 refine zau (b := 0) (az := [bs [102, 97, 108, 115, 101]]) (v := .val (.bool false)) rfl rfl (fun m b' hh => zaY hs hh (by rw [Bool.eq_false_iff.2 h_false]; rfl)) (zak (L := L)) (by first | exact LR.nil | simp only [nbS]) (by first | exact LR.nil | simp only [nbS]) ?_
 simp only [ssH, zeV, zeT, reduceIte, zeU, zeZ, zeX, zeY]
 by_cases h_new : isS [110, 101, 119] t = true
 ·rw [if_pos h_new] at hg
  refine zas (b := 0) (az := [bs [110, 101, 119]]) (v := .val (.bool true)) rfl rfl (fun m b' hh => zbx hL hs hh h_new) (zak (L := L)) zak (by first | exact LR.nil | simp only [nbS]) (by first | exact LR.nil | simp only [nbS]) ?_
  simp only [ssH, zeV, zeT, reduceIte, zeU, zeZ, zeX, zeY]
  cases l' with
  | nil => cases hg
  | cons t2 l2 =>
   have hs2 : l2 <:+ L := (zfg t2 l2).trans hs'
   simp only [nameK] at hg
   by_cases hk : t2.k = 1
   ·rw [if_pos hk] at hg
    refine zas (b := 0) (az := []) (v := bs t2.s) rfl rfl (fun m b' hh => kName_yes hL hs' hh hk) (zak (L := L)) zak (by first | exact LR.nil | simp only [nbS]) (by first | exact LR.nil | simp only [nbS]) ?_
    simp only [ssH, zeV, zeT, reduceIte, zeU, zeZ, zeX, zeY]
    cases l2 with
    | nil => cases hg
    | cons t3 l3 =>
     have hs3 : l3 <:+ L := (zfg t3 l3).trans hs2
     simp only [zbp] at hg
     cases hm : isS [40] t3
     ·simp only [hm, ze3, if_false, Option.some.injEq] at hg
      subst hg
      refine zas (b := 0) (az := [bs [40]]) (v := .tup []) rfl rfl (fun m b' hh => zc3 hs2 hh (by rw [hm]; rfl)) (zak (L := L)) zak (by first | exact LR.nil | simp only [nbS]) (by first | exact LR.nil | simp only [nbS]) ?_
      simp only [ssH, zeV, zeT, reduceIte, zeU, zeZ, zeX, zeY]
      refine zaM (b := 0) (az := [bs [41], .val (.bool false)]) rfl rfl (fun m b' hh => kList_bad (s := [41]) (one := false) hs2 hh) (zak (L := L)) (by first | exact LR.nil | simp only [nbS]) kl_nb ?_
      rintro v Y ⟨es, rfl, rfl, hq3⟩
      simp only [ssH, zeV, zeT, reduceIte, zeU, zeZ, zeX, zeY]
      exact kfin (hw 11 t2.s 0 es .no hz) rfl rfl (by rintro e l ⟨⟩)
     ·simp only [hm, if_true] at hg
      refine zas (b := 0) (az := [bs [40]]) (v := .tup []) rfl rfl (fun m b' hh => kMust_yes hL hs2 hh hm) (zak (L := L)) zak (by first | exact LR.nil | simp only [nbS]) (by first | exact LR.nil | simp only [nbS]) ?_
      simp only [ssH, zeV, zeT, reduceIte, zeU, zeZ, zeX, zeY]
      cases l3 with
      | nil => cases hg
      | cons t4 l4 =>
       obtain ⟨q, hq, hq2⟩ := bindL_next hg
       refine zaM (b := 0) (az := [bs [41], .val (.bool false)]) rfl rfl (fun m b' hh => kList_ok (n := j) (t := t4) (l := l4) (s := [41]) (one := false) (p := q) hL (by omega) (fun k hk => h k (by omega)) hs3 hh (by rw [list_until]; exact hq)) (zak (L := L)) (by first | exact LR.nil | simp only [nbS]) kl_nb ?_
       rintro v Y ⟨es, rfl, rfl, hq3⟩
       have hq2 := hq2 _ hq3
       simp only [ssH, zeV, zeT, reduceIte, zeU, zeZ, zeX, zeY]
       rcases hq2 with ⟨hb, rfl⟩ | ⟨hb, hpp⟩
       ·exact kfin (hw 11 t2.s 0 es .no hz) rfl (by rw [hb]; rfl) (by rintro e l ⟨⟩)
       ·simp only [Option.some.injEq] at hpp
        subst hpp
        exact kfin (hw 11 t2.s 0 es .no hz) rfl (by rw [hb]; rfl) (by rintro e l ⟨⟩; rfl)
   ·rw [if_neg hk] at hg
    simp only [Option.some.injEq] at hg
    subst hg
    refine zas (b := 0) (az := []) (v := bs []) rfl rfl (fun m b' hh => kName_no hs' hh (.inr hk)) (zak (L := L)) zak (by first | exact LR.nil | simp only [nbS]) (by first | exact LR.nil | simp only [nbS]) ?_
    simp only [ssH, zeV, zeT, reduceIte, zeU, zeZ, zeX, zeY]
    refine zas (b := 0) (az := [bs [40]]) (v := .tup []) rfl rfl (fun m b' hh => zc3 hs' hh rfl) (zak (L := L)) zak (by first | exact LR.nil | simp only [nbS]) (by first | exact LR.nil | simp only [nbS]) ?_
    simp only [ssH, zeV, zeT, reduceIte, zeU, zeZ, zeX, zeY]
    refine zaM (b := 0) (az := [bs [41], .val (.bool false)]) rfl rfl (fun m b' hh => kList_bad (s := [41]) (one := false) hs' hh) (zak (L := L)) (by first | exact LR.nil | simp only [nbS]) kl_nb ?_
    rintro v Y ⟨es, rfl, rfl, hq3⟩
    simp only [ssH, zeV, zeT, reduceIte, zeU, zeZ, zeX, zeY]
    exact kfin (hw 11 [] 0 es .no hz) rfl rfl (by rintro e l ⟨⟩)
 rw [if_neg h_new] at hg
 refine zau (b := 0) (az := [bs [110, 101, 119]]) (v := .val (.bool false)) rfl rfl (fun m b' hh => zaY hs hh (by rw [Bool.eq_false_iff.2 h_new]; rfl)) (zak (L := L)) (by first | exact LR.nil | simp only [nbS]) (by first | exact LR.nil | simp only [nbS]) ?_
 simp only [ssH, zeV, zeT, reduceIte, zeU, zeZ, zeX, zeY]
 by_cases h_br : isS [91] t = true
 ·rw [if_pos h_br] at hg
  refine zas (b := 0) (az := [bs [91]]) (v := .val (.bool true)) rfl rfl (fun m b' hh => zbx hL hs hh h_br) (zak (L := L)) zak (by first | exact LR.nil | simp only [nbS]) (by first | exact LR.nil | simp only [nbS]) ?_
  simp only [ssH, zeV, zeT, reduceIte, zeU, zeZ, zeX, zeY]
  cases l' with
  | nil => exact absurd hg (by rw [row_nil]; simp [bindL])
  | cons t2 l2 =>
   obtain ⟨q, hq, hq2⟩ := row_next hg
   refine zaM (b := 0) (az := [bs [93], .val (.bool true)]) rfl rfl (fun m b' hh => kList_ok (n := j) (t := t2) (l := l2) (s := [93]) (one := true) (p := q) hL (by omega) (fun k hk => h k (by omega)) hs' hh (by rw [list_row]; exact hq)) (zak (L := L)) (by first | exact LR.nil | simp only [nbS]) kl_nb ?_
   rintro v Y ⟨es, rfl, rfl, hq3⟩
   have hq2 := hq2 _ hq3
   simp only [ssH, zeV, zeT, reduceIte, zeU, zeZ, zeX, zeY]
   rcases hq2 with ⟨hb, rfl⟩ | ⟨hb, hpp⟩
   ·exact kfin (hw 10 [] 0 es .no hz) rfl (by rw [hb]; rfl) (by rintro e l ⟨⟩)
   ·simp only [Option.some.injEq] at hpp
    subst hpp
    exact kfin (hw 10 [] 0 es .no hz) rfl (by rw [hb]; rfl) (by rintro e l ⟨⟩; rfl)
 rw [if_neg h_br] at hg
 refine zau (b := 0) (az := [bs [91]]) (v := .val (.bool false)) rfl rfl (fun m b' hh => zaY hs hh (by rw [Bool.eq_false_iff.2 h_br]; rfl)) (zak (L := L)) (by first | exact LR.nil | simp only [nbS]) (by first | exact LR.nil | simp only [nbS]) ?_
 simp only [ssH, zeV, zeT, reduceIte, zeU, zeZ, zeX, zeY]
 by_cases h_pa : isS [40] t = true
 ·rw [if_pos h_pa] at hg
  refine zas (b := 0) (az := [bs [40]]) (v := .val (.bool true)) rfl rfl (fun m b' hh => zbx hL hs hh h_pa) (zak (L := L)) zak (by first | exact LR.nil | simp only [nbS]) (by first | exact LR.nil | simp only [nbS]) ?_
  simp only [ssH, zeV, zeT, reduceIte, zeU, zeZ, zeX, zeY]
  obtain ⟨p1, k1, hs1, hf1⟩ := zcB hg
  have hsx : zck p1 <:+ L := (run_sfx j _ _ _ k1).trans hs'
  refine zaM (b := 0) (az := [it ((0 : Nat) : Int)]) rfl rfl (fun m b' hh => h j (by omega) 0 l' p1 m b' (by omega) hs' hs1 hh k1) (zak (L := L)) (by first | exact LR.nil | simp only [nbS]) kq_nb ?_
  rintro v Y ⟨⟨K, S, N, KE, ln⟩, rfl, rfl, hq1⟩
  have hf1 := hf1 _ hq1
  have hwx := wx_exV (.mk K S N KE ln)
  simp only [exV, ssH, zeV, zeT, reduceIte, zeU, zeZ, zeX, zeY]
  rcases hf1 with ⟨hbad, rfl⟩ | ⟨hgood, hpp⟩
  ·obtain ⟨t2, l2, rfl⟩ := st_cons k1 hbad
   simp only [zck, badP] at hsx ⊢
   refine zas (b := 0) (az := [bs [41]]) (v := .tup []) rfl rfl (fun m b' hh => zc3 hsx hh rfl) (zak (L := L)) zak (by first | exact LR.nil | simp only [nbS]) (by first | exact LR.nil | simp only [nbS]) ?_
   simp only [ssH, zeV, zeT, reduceIte, zeU, zeZ, zeX, zeY]
   exact kfin hwx rfl rfl (by rintro e l ⟨⟩)
  ·rw [hgood]
   generalize zck p1 = l2 at hpp hsx
   cases l2 with
   | nil => cases hpp
   | cons t2 l2 =>
    simp only [zbp] at hpp
    cases hm : isS [41] t2
    ·simp only [hm, ze3, if_false, Option.some.injEq] at hpp
     subst hpp
     refine zas (b := 0) (az := [bs [41]]) (v := .tup []) rfl rfl (fun m b' hh => zc3 hsx hh (by rw [hm]; rfl)) (zak (L := L)) zak (by first | exact LR.nil | simp only [nbS]) (by first | exact LR.nil | simp only [nbS]) ?_
     simp only [ssH, zeV, zeT, reduceIte, zeU, zeZ, zeX, zeY]
     exact kfin hwx rfl rfl (by rintro e l ⟨⟩)
    ·simp only [hm, if_true, Option.some.injEq] at hpp
     subst hpp
     refine zas (b := 0) (az := [bs [41]]) (v := .tup []) rfl rfl (fun m b' hh => kMust_yes hL hsx hh hm) (zak (L := L)) zak (by first | exact LR.nil | simp only [nbS]) (by first | exact LR.nil | simp only [nbS]) ?_
     simp only [ssH, zeV, zeT, reduceIte, zeU, zeZ, zeX, zeY]
     exact kfin hwx rfl rfl (by rintro e l ⟨⟩; rfl)
 rw [if_neg h_pa] at hg
 refine zau (b := 0) (az := [bs [40]]) (v := .val (.bool false)) rfl rfl (fun m b' hh => zaY hs hh (by rw [Bool.eq_false_iff.2 h_pa]; rfl)) (zak (L := L)) (by first | exact LR.nil | simp only [nbS]) (by first | exact LR.nil | simp only [nbS]) ?_
 simp only [ssH, zeV, zeT, reduceIte, zeU, zeZ, zeX, zeY]
 simp only [Option.some.injEq] at hg
 subst hg
 simp only [b1, ssH, zeV, zeT, reduceIte, zeU, zeZ, zeX, zeY]
 exact kfin (hw 0 [] 0 [] .full hf) rfl rfl (by rintro e l ⟨⟩)
end Go.Av.Fn
/- The document's rules all; how deep an expression is. No condition. -/
namespace Go.Av
section
variable {P : Program} {Γ : Glob} {Kp : V → Hl → Prop} {t : List V} {h : Hl}
theorem heval_mm {mx : Bool} {xs : List Operand} {m : Store} : zan P (ev Γ t) m (.mm mx xs) = mmV mx (xs.map (ev Γ t)) := rfl
end
end Go.Av
namespace Go.Av.Fn
set_option linter.unusedSimpArgs false
set_option linter.unusedVariables false
set_option maxRecDepth 10000
open Go.Proofs
theorem rules_ok {Γ : Glob} {L : List Tk} (hL : L.length < 4611686018427387904) : ∀ n, n ≤ 1099511627776 → KEx Γ L n ∧ KUn Γ L n ∧ KSi Γ L n := by
 intro n
 induction n using Nat.strongRecOn with
 | _ n ih =>
  intro hn
  have h : ∀ k < n, KEx Γ L k ∧ KUn Γ L k ∧ KSi Γ L k := fun k hk => ih k hk (by omega)
  exact ⟨kExpr_ok hL fun k hk => ⟨(h k hk).1, (h k hk).2.1⟩, kUnary_ok hL h, kSingle_ok hL hn fun k hk => (h k hk).1⟩
theorem kDepth_ok {Γ : Glob} : ∀ (N : Nat) (e : Ex) (m : Store), za8 e ≤ N → N ≤ 1099511627776 → zae Tryz.prog Γ 155 [exV e] m fun o m' => o = .ret (it (zci e)) ∧ m' = m
 | 0, e, m, h, _ => by
  obtain ⟨k, s, n, kids, l⟩ := e
  simp only [za8] at h
  omega
 | N + 1, e, m, h, hN => by
  have hex := nb_exV (k := 0) e
  obtain ⟨k, s, n, kids, l⟩ := e
  simp only [za8] at h
  have hle := length_sizes kids
  refine zaO (zaP mixed F155_ok F155_h zaB (by rw [zc1]; exact ⟨hex, by rw [nbs_nil]; trivial⟩) ?_)
  simp only [F155, exV, ss0, ze0, zeV]
  simp only [ssH, zeV, zeT, reduceIte, zeU, zeZ, zeX, zeY]
  have hB : nbB 1 (.var 170 [it k, bs s, it n, .sl (exVs kids) [] .no, it l]) := by
   simp only [nbS]
   exact zdN kids
  have hB1 : ∀ a < 1, ∀ x, lk [some (.var 170 [it k, bs s, it n, .sl (exVs kids) [] .no, it l])] a = some x → nbB 1 x := by
   intro a ha x hx
   have : a = 0 := by omega
   subst this
   cases hx
   exact hB
  refine zdv [1, 3, 4] 22 (fun j vs h => ∃ i : Nat, vs = [.ptr 0 0, it (depths (kids.take i)), it i] ∧ h = [some (.var 170 [it k, bs s, it n, .sl (exVs kids) [] .no, it l])] ∧ i + j = kids.length) kids.length (by decide) (by decide) (zfd 1) (zaC rfl (by decide) (by decide) (by simp) (by show nbs 1 [.ptr 0 0, it (0 : Nat), it (0 : Nat)]; simp only [nbS]; decide) hB1 ⟨0, rfl, rfl, by omega⟩) ?_
  rintro j tt hh J hJ hl2 ⟨i, hv, rfl, hij⟩
  simp only [zfx, List.cons.injEq, and_true] at hv
  obtain ⟨h1, h3, h4⟩ := hv
  rw [t_eq hl2]
  simp only [zat, upTo, h1, h3, h4, ssH, zeV, zeT, reduceIte, zeU, zeZ, zeX, zeY]
  by_cases hlt : i < kids.length
  ·have hget : kids[i]? = some kids[i] := ze8 hlt
   generalize kids[i] = ei at hget
   have hsz : za8 ei ≤ N := by
    have := size_mem (zfy hget)
    omega
   have hei := nb_exV (k := 0) ei
   obtain ⟨k2, s2, n2, kids2, l2⟩ := ei
   rw [zdx, show decide ((i : Int) < (kids.length : Int)) = true by simp; omega]
   simp only [idx_ex rfl hget, ssH, zeV, zeT, reduceIte, zeU, zeZ, zeX, zeY]
   refine zar (v := it (zci (.mk k2 s2 n2 kids2 l2))) (by exact fun m => kDepth_ok N (.mk k2 s2 n2 kids2 l2) m hsz (by omega)) (by show nbs 0 [exV (.mk k2 s2 n2 kids2 l2)]; rw [zc1]; exact ⟨hei, by rw [nbs_nil]; trivial⟩) (by first | exact LR.nil | simp only [nbS]) ?_
   simp only [heval_mm, q_mm, mm_max, zaq (show i < 4611686018427387904 by omega), ssH, zeV, zeT, reduceIte, zeU, zeZ, zeX, zeY]
   refine ⟨_, hJ (j - 1) (zfd 1) _ (by omega) (zaC rfl (by decide) (by decide) (by simp) (by simp only [zfx, zaa, zab, nbS]; decide) hB1 ⟨i + 1, ?_, rfl, by omega⟩)⟩
   simp only [zfx, zaa, zab, List.cons.injEq, and_true, true_and]
   show it _ = it _
   congr 2
   rw [zfh, hget, zeK]
   simp only [Option.toList, depths]
   omega
  ·have hge : i = kids.length := by omega
   have hd := zdV kids
   rw [zdx, show decide ((i : Int) < (kids.length : Int)) = false by simp; omega]
   have hw : IntKind.i64.wrap ((depths (kids.take i) : Int) + 1) = ((zci (.mk k s n kids l) : Nat) : Int) := by
    rw [hge, List.take_length, wrap_i64 (by omega) (by omega)]
    simp only [zci]
    omega
   simp only [hw, ssH, zeV, zeT, reduceIte, zeU, zeZ, zeX, zeY]
   exact zaf zac ⟨(by simp only [zaa, zab, nbS]), rfl⟩
theorem kScan_ok {Γ : Glob} {m : Store} (s : List UInt8) : zae Tryz.prog Γ 152 [bs s] m fun o m' => o = .ret (scanV (zd0 s)) ∧ m' = m := by
 refine zae.weak (refScan_ok s) ?_ ?_
 ·rintro v m' ⟨h, rfl⟩
  refine ⟨?_, rfl⟩
  unfold ScanOut at h
  split at h
  ·rename_i l hl
   obtain ⟨tok, h⟩ := h
   cases h
   rw [hl]
   simp only [scanV, weak, zaL, weaks_map weak_tk]
  ·rename_i a e hl
   cases h
   rw [hl]
   simp only [scanV, weak, zaL]
 ·rintro v m' ⟨h, _⟩
  exfalso
  unfold ScanOut at h
  split at h
  ·obtain ⟨_, h⟩ := h
   cases h
  ·cases h
end Go.Av.Fn
/- A text's expression by the document. No condition. -/
namespace Go.Av
section
variable {P : Program} {Γ : Glob} {H : Nat → List (Nat × List Nat) × List Nat} {f : FuncId} {F : AFn} {gs : List Nat} {m : Store}
theorem acalls_pw (hm : P.follows .mixedOrders = true) (hF : zam P H f = some F) (hok : F.body.okH gs = true) (hG : GOk Γ gs) {args : List V} (ha : nbs 0 args) {Qv : V → Prop}
  (h : hawp P Γ (fun _ _ => False) 0 F.body (bodyH F.res fun v _ => nb 0 (weak v) ∧ Qv (weak v)) ⟨start F.ntmps args, []⟩) : zae P Γ f args m fun o m' => (∃ v, o = .ret v ∧ Qv v) ∧ m' = m := by
 have h1 := zeS (P := P) (Γ := Γ) (R0 := fun _ _ => False) (N := 0) (m := fun _ => none) hm hF hok hG (ha.up _) (hh_nil _ (fun _ _ q => q) _) (fun _ _ q => q.elim) (Q := fun o h => match o with | .ret v => nb 0 (weak v) ∧ Qv (weak v) | .pan _ => False) h
 have hD : Disj (fun _ => none) m := fun b => .inl rfl
 have e : Store.or (fun _ => none) m = m := by funext b; rfl
 have h2 := h1.frame hD
 rw [e] at h2
 refine zae.weak (R := fun o m' => (∃ v, o = .ret v ∧ Qv (weak v)) ∧ m' = m) (zae.less h2 ?_) ?_ ?_
 ·rintro o m'' ⟨m', rfl, d, S, o0, h', s1, s2, s3, s4⟩
  refine ⟨m, ?_, ?_, rfl⟩
  ·intro b x hb
   rcases d b with q | q
   ·simp only [Store.or, q]; exact hb
   ·rw [q] at hb; cases hb
  ·cases o0 with
   | ret v =>
    cases o with
    | ret v' =>
     have e3 : weak v' = weak v := nb_eq s4.1 (VR.wk s3)
     exact ⟨v', rfl, by rw [e3]; exact s4.2⟩
    | pan v' => exact s3.elim
   | pan v => exact s4.elim
 ·rintro v m' ⟨⟨v', e9, q⟩, h9⟩
  cases e9
  exact ⟨⟨_, rfl, q⟩, h9⟩
 ·rintro v m' ⟨⟨v', e9, q⟩, _⟩
  cases e9
end
end Go.Av
namespace Go.Av.Fn
set_option linter.unusedSimpArgs false
set_option linter.unusedVariables false
set_option maxRecDepth 10000
open Go.Proofs
theorem nb_scanV {k : Nat} (r : Except (Nat × Int) (List Tk)) : nb k (scanV r) := by
 cases r with
 | ok l =>
  simp only [scanV, nbS]
  exact nbs_map (fun t => zdO t) l
 | error x =>
  obtain ⟨a, e⟩ := x
  simp only [scanV, nbS]
theorem triV_none {a e : Int} : weak (.tup [.agg zX, it a, it e]) = triV (none, a, e) := by
 simp only [weak, zaL, triV, exO, exV, exVs, zX, bs]
theorem nb_triV {k : Nat} (r : Option Ex × Int × Int) : nb k (triV r) := by
 obtain ⟨x, a, e⟩ := r
 cases x with
 | none =>
  simp only [triV, exO, nbS]
  exact nb_exV _
 | some g =>
  simp only [triV, exO, nbS]
  exact nb_exV _
theorem rd0 (L : List Tk) : Blk.var 199 [.sl (L.map tkV) [] .no, it 0, .val (.bool false)] = rdS L L false := by
 simp [rdS, rdR]
theorem efin {s : List UInt8} {t : List V} {h : Hl} {v : V} {rs : List ARes} (hv : resV rs ⟨t, lk h⟩ = some v) (e : weak v = triV (zcw s)) : bodyH rs (fun v _ => nb 0 (weak v) ∧ weak v = triV (zcw s)) .ret ⟨t, h⟩ :=
 zaf hv ⟨by rw [e]; exact nb_triV _, e⟩
theorem rExpr_ok {Γ : Glob} {m : Store} (s : List UInt8) : zae Tryz.prog Γ 130 [bs s] m fun o m' => o = .ret (triV (zcw s)) ∧ m' = m := by
 refine zaO (acalls_pw mixed F130_ok F130_h zaB (by first | exact LR.nil | simp only [nbS]) ?_)
 simp only [F130, ss0, ze0, zeV]
 simp only [ssH, zeV, zeT, reduceIte, zeU, zeZ, zeX, zeY]
 refine zar (v := scanV (zd0 s)) (by exact fun m => kScan_ok s) (by first | exact LR.nil | simp only [nbS]) (nb_scanV _) ?_
 cases hsc : zd0 s with
 | error x =>
  obtain ⟨a, e⟩ := x
  have hne := scanR_ne hsc
  have hE : zcw s = (none, (a : Int), e) := by
   simp [zcw, zcK, hsc, hne]
  have hb : (e != 0) = true := by simpa using hne
  simp only [scanV, ssH, zeV, zeT, reduceIte, zeU, zeZ, zeX, zeY]
  simp only [hb, ssH, zeV, zeT, reduceIte, zeU, zeZ, zeX, zeY]
  refine efin (v := .tup [.agg zX, it a, it e]) rfl (by rw [hE]; exact triV_none)
 | ok L =>
  simp only [scanV, ssH, zeV, zeT, reduceIte, zeU, zeZ, zeX, zeY]
  rw [rd0]
  obtain ⟨p, hp, hsg, hfit⟩ := run_expr (scanR_good hsc)
  have hlen := scanR_len hsc
  refine zaM (b := 1) (az := [it ((0 : Nat) : Int)]) rfl rfl (fun m b' hh => (rules_ok (Γ := Γ) (L := L) (by omega) (10 * L.length + 9) (by omega)).1 0 L p m b' (by omega) zfv hsg hh hp) zak (by first | exact LR.nil | simp only [nbS]) kq_nb ?_
  rintro v Y ⟨⟨k, s', nn, kids, ln⟩, rfl, rfl, hq⟩
  have hsx : zck p <:+ L := run_sfx _ _ _ _ hp
  cases p with
  | st l1 =>
   obtain ⟨tk, l2, rfl⟩ := hfit.1.ne
   simp only [zck, badP] at hsx ⊢
   have hE : zcw s = (none, tk.a, 6) := by
    simp [zcw, zcK, hsc, readT, hp]
   simp only [exV, rdS, rdR, ssH, zeV, zeT, reduceIte, zeU, zeZ, zeX, zeY]
   refine zau (b := 1) (az := []) rfl rfl (fun m b' hh => zds hsx hh) (zak (L := L)) (by first | exact LR.nil | simp only [nbS]) (zdO tk) ?_
   simp only [tkV, ssH, zeV, zeT, reduceIte, zeU, zeZ, zeX, zeY]
   refine efin (v := .tup [.agg zX, it tk.a, it 6]) rfl (by rw [hE]; exact triV_none)
  | ok es l1 =>
   obtain ⟨tk, l2, rfl⟩ := hfit.1.ne
   obtain ⟨e, rfl⟩ := hsg
   have he : Ex.mk k s' nn kids ln = e := hq _ _ rfl
   subst he
   simp only [zck, badP] at hsx ⊢
   simp only [exV, rdS, rdR, ssH, zeV, zeT, reduceIte, zeU, zeZ, zeX, zeY]
   refine zau (b := 1) (az := []) rfl rfl (fun m b' hh => zds hsx hh) (zak (L := L)) (by first | exact LR.nil | simp only [nbS]) (zdO tk) ?_
   simp only [tkV, ssH, zeV, zeT, reduceIte, zeU, zeZ, zeX, zeY]
   by_cases hk : tk.k = 0
   ·have hR : zcK s = (some (.mk k s' nn kids ln), 0, 0) := by
     simp [zcK, hsc, readT, hp, hk]
    have hsz := readS_size hR
    simp only [hk, ssH, zeV, zeT, reduceIte, zeU, zeZ, zeX, zeY]
    refine zar (v := it (zci (.mk k s' nn kids ln))) (by exact fun m => kDepth_ok 4097 (.mk k s' nn kids ln) m hsz (by omega)) (by show nbs 0 [exV (.mk k s' nn kids ln)]; rw [zc1]; exact ⟨nb_exV _, by rw [nbs_nil]; trivial⟩) (by first | exact LR.nil | simp only [nbS]) ?_
    simp only [ssH, zeV, zeT, reduceIte, zeU, zeZ, zeX, zeY]
    by_cases hd : zci (.mk k s' nn kids ln) > 24
    ·have hE : zcw s = (none, 0, 7) := by
      simp [zcw, hR, hd]
     rw [show decide ((24 : Int) < (zci (.mk k s' nn kids ln) : Int)) = true by simp; omega]
     simp only [ssH, zeV, zeT, reduceIte, zeU, zeZ, zeX, zeY]
     refine efin (v := .tup [.agg zX, it 0, it 7]) rfl (by rw [hE]; exact triV_none)
    ·have hE : zcw s = (some (.mk k s' nn kids ln), 0, 0) := by
      simp [zcw, hR, hd]
     rw [show decide ((24 : Int) < (zci (.mk k s' nn kids ln) : Int)) = false by simp; omega]
     simp only [ssH, zeV, zeT, reduceIte, zeU, zeZ, zeX, zeY]
     refine efin (v := .tup [exV (.mk k s' nn kids ln), it 0, it 0]) rfl (by rw [hE]; simp only [weak, zaL, triV, exO, zcV])
   ·have hE : zcw s = (none, tk.a, 6) := by
     simp [zcw, zcK, hsc, readT, hp, hk]
    have hb : (tk.k != 0) = true := by simpa using hk
    simp only [hb, ssH, zeV, zeT, reduceIte, zeU, zeZ, zeX, zeY]
    refine zau (b := 1) (az := []) rfl rfl (fun m b' hh => zds hsx hh) (zak (L := L)) (by first | exact LR.nil | simp only [nbS]) (zdO tk) ?_
    simp only [tkV, ssH, zeV, zeT, reduceIte, zeU, zeZ, zeX, zeY]
    refine efin (v := .tup [.agg zX, it tk.a, it 6]) rfl (by rw [hE]; exact triV_none)
end Go.Av.Fn
/- Commands printed are parsed as they were; what is parsed is printed as it stood: plain laws. No condition. -/
namespace Go.Av.Fn
set_option linter.unusedSimpArgs false
set_option linter.unusedVariables false
open Go.Lib
/-! ### Cuts -/
/-! ### Forms -/
theorem forms_len : forms.length = 18 := rfl
/-! ### What is parsed -/
theorem right_form {k n : Int} {t : List UInt8} (h : zaT k n t = true) : zaV k ≠ za2 ∧ ((zaV k).n = false → n = 0) ∧ ((zaV k).s = false → t = []) ∧ 0 ≤ n ∧ n ≤ 4294967296 := by
 have hl := right_len h
 unfold zaT at h
 split at h
 ·cases h
 ·rename_i hc
  simp only [zfC, ze2, decide_eq_true_eq, Bool.not_eq_true', bne_iff_ne, not_or, not_and, Bool.not_eq_false, beq_eq_false_iff_ne] at hc
  obtain ⟨⟨⟨⟨c1, c2⟩, c3⟩, c4⟩, c5⟩ := hc
  refine ⟨c1, fun hn => ?_, fun hs => ?_, hl.2.1, hl.2.2⟩
  ·have := c2 hn
   simpa using this
  ·have := c3 hs
   simpa using this
theorem form_range {k : Int} (h : zaV k ≠ za2) : ∃ j : Nat, k = j ∧ 1 ≤ j ∧ j < 18 := by
 unfold zaV at h
 split at h
 ·exact absurd rfl h
 ·rename_i hk
  cases hg : forms[k.toNat]? with
  | none => rw [hg] at h; exact absurd rfl h
  | some f =>
   have hlt := (List.getElem?_eq_some_iff.1 hg).1
   rw [forms_len] at hlt
   refine ⟨k.toNat, by omega, ?_, hlt⟩
   by_cases e : k.toNat = 0
   ·rw [hg] at h
    rw [e] at hg
    cases hg
    exact absurd rfl h
   ·omega
end Go.Av.Fn
/- A command that is printed is parsed as it was; what is parsed is printed as it stood: the statement's function, walked. Conditions as ahead; numbers are written. -/
namespace Go.Av.Fn
set_option linter.unusedSimpArgs false
set_option linter.unusedVariables false
set_option maxRecDepth 10000
open Go.Proofs
theorem fin6 {t : List V} {h : Hl} {i : Nat} (ht : tget t i = .val (.bool true)) : bodyH [ARes.tmp i] (fun v _ => nb 0 v ∧ v = .val (.bool true)) .ret ⟨t, h⟩ :=
 zaf zac ⟨by rw [show (⟨t, lk h⟩ : St).t = t from rfl, ht]; exact .val _, ht⟩
theorem cmd_neq (xo yo : Operand) (k n k' n' : Int) (s s' : List UInt8) : binV Tryz.prog .neq 24 .other xo yo (.agg [it k, it n, bs s]) (.agg [it k', it n', bs s']) = some (.val (.bool (!decide (k = k' ∧ n = n' ∧ s = s')))) := by
 have h := (struct_eq (P := Tryz.prog) (T := 24) (xo := xo) (yo := yo) (cs := [it k, it n, bs s]) (cs' := [it k', it n', bs s'])
  (xs := [.int .i64 k, .int .i64 n, .string ⟨s.toArray⟩]) (ys := [.int .i64 k', .int .i64 n', .string ⟨s'.toArray⟩])
  (r := (k == k' && (n == n' && ((ByteArray.mk s.toArray).toList == (ByteArray.mk s'.toArray).toList && true))))
  (by kernel_rfl) (by kernel_rfl) (by kernel_rfl) rfl rfl (by kernel_rfl)).2
 have e : (k == k' && (n == n' && ((ByteArray.mk s.toArray).toList == (ByteArray.mk s'.toArray).toList && true))) = decide (k = k' ∧ n = n' ∧ s = s') := by
  rw [zb3, zb3, Bool.eq_iff_iff]
  simp
 rw [e] at h
 exact h
theorem nbs_c1 (a b : Int) (c : List UInt8) : nbs 0 [.agg [it a, it b, bs c]] := nbs_cmd1 a b c
def fitsB (k n : Int) (s : List UInt8) : Bool := decide (zaV k ≠ za2) && ((zaV k).n || n == 0) && ((zaV k).s || s == [])
theorem bs_eq0 {P : Program} {T : TypeId} {xo yo : Operand} {s : List UInt8} : binV P .eql T .other xo yo (bs s) (.val (.string (ByteArray.mk #[]))) = some (.val (.bool (s == []))) := zeR (x := s) (y := [])
theorem bs_ne0 {P : Program} {T : TypeId} {xo yo : Operand} {s : List UInt8} : binV P .neq T .other xo yo (bs s) (.val (.string (ByteArray.mk #[]))) = some (.val (.bool (!(s == [])))) := zeQ (x := s) (y := [])
theorem nbs_cmdV (k n : Int) (s : List UInt8) : nbs 0 [cmdV k n s] := by
 simp only [nb_cmdV, nbS]
section
variable {Γ : Glob} {m : Store}
theorem kWritten_ok (s : List UInt8) : zae Tryz.prog Γ 106 [bs s] m fun o m' => o = .ret (.val (.bool (zbD s))) ∧ m' = m := by
 refine zaO (zaP mixed F106_ok F106_h zaB (by first | exact LR.nil | simp only [nbS]) ?_)
 simp only [F106, ss0, ze0, zeV]
 simp only [ssH, zeV, zeT, reduceIte, zeU, zeZ, zeX, zeY]
 refine zar (by exact fun m => rExpr_ok s) (by first | exact LR.nil | simp only [nbS]) (nb_triV _) ?_
 obtain ⟨k, s', nn, kids, ln, he⟩ : ∃ k s' nn kids ln, exO (zcw s).1 = exV (.mk k s' nn kids ln) := by
  cases (zcw s).1 with
  | none => exact ⟨0, [], 0, [], 0, rfl⟩
  | some e =>
   obtain ⟨k, s', nn, kids, ln⟩ := e
   exact ⟨k, s', nn, kids, ln, rfl⟩
 simp only [triV, he, exV, ssH, zeV, zeT, reduceIte, zeU, zeZ, zeX, zeY]
 cases h0 : ((zcw s).2.2 == 0)
 ·simp only [ssH, zeV, zeT, reduceIte, zeU, zeZ, zeX, zeY]
  exact zaf zac ⟨(by simp only [zaa, zab, nbS]), by simp [tget, zbD, h0]; try omega⟩
 ·simp only [ssH, zeV, zeT, reduceIte, zeU, zeZ, zeX, zeY]
  exact zaf zac ⟨(by simp only [zaa, zab, nbS]), by simp [tget, zbD, h0]; try omega⟩
theorem kFits_ok (k n : Int) (s : List UInt8) : zae Tryz.prog Γ 105 [cmdV k n s] m fun o m' => o = .ret (.val (.bool (fitsB k n s))) ∧ m' = m := by
 refine zaO (zaP mixed F105_ok F105_h zaB (nbs_cmdV _ _ _) ?_)
 simp only [F105, cmdV, ss0, ze0, zeV]
 simp only [ssH, zeV, zeT, reduceIte, zeU, zeZ, zeX, zeY]
 by_cases hk : 1 ≤ k ∧ k ≤ 17
 ·have : k = 1 ∨ k = 2 ∨ k = 3 ∨ k = 4 ∨ k = 5 ∨ k = 6 ∨ k = 7 ∨ k = 8 ∨ k = 9 ∨ k = 10 ∨ k = 11 ∨ k = 12 ∨ k = 13 ∨ k = 14 ∨ k = 15 ∨ k = 16 ∨ k = 17 := by omega
  rcases this with rfl | rfl | rfl | rfl | rfl | rfl | rfl | rfl | rfl | rfl | rfl | rfl | rfl | rfl | rfl | rfl | rfl
  all_goals
   simp only [ge_iff_le, gt_iff_lt, Int.reduceLE, Int.reduceLT, decide_true, decide_false, bs_eq0, ssH, zeV, zeT, reduceIte, zeU, zeZ, zeX, zeY]
   first
    | exact zaf zac ⟨(by simp only [zaa, zab, nbS]), by simp [tget, fitsB, zaV, forms, za2]⟩
    | (cases hn : (n == 0) <;> simp only [bs_eq0, ssH, zeV, zeT, reduceIte, zeU, zeZ, zeX, zeY] <;> exact zaf zac ⟨(by simp only [zaa, zab, nbS]), by simp [tget, fitsB, zaV, forms, za2, hn]⟩)
 ·have hno : zaV k = za2 := by
   by_cases e : zaV k = za2
   ·exact e
   ·obtain ⟨j, rfl, h1, h2⟩ := form_range e
    omega
  have hq : ∀ c : Int, 1 ≤ c → c ≤ 17 → (k == c) = false := by
   intro c h1 h2
   have : k ≠ c := by omega
   simpa using this
  rcases (show k < 1 ∨ 17 < k by omega) with h | h
  ·simp only [ge_iff_le, gt_iff_lt, show decide (1 ≤ k) = false by simp; omega, show decide (12 ≤ k) = false by simp; omega, hq 15 (by decide) (by decide), hq 16 (by decide) (by decide), hq 9 (by decide) (by decide), hq 11 (by decide) (by decide), hq 17 (by decide) (by decide), hq 10 (by decide) (by decide), ssH, zeV, zeT, reduceIte, zeU, zeZ, zeX, zeY]
   exact zaf zac ⟨(by simp only [zaa, zab, nbS]), by simp [tget, fitsB, hno]⟩
  ·simp only [ge_iff_le, gt_iff_lt, show decide (1 ≤ k) = true by simp; omega, show decide (12 ≤ k) = true by simp; omega, show decide (k ≤ 8) = false by simp; omega, show decide (k ≤ 14) = false by simp; omega, hq 15 (by decide) (by decide), hq 16 (by decide) (by decide), hq 9 (by decide) (by decide), hq 11 (by decide) (by decide), hq 17 (by decide) (by decide), hq 10 (by decide) (by decide), ssH, zeV, zeT, reduceIte, zeU, zeZ, zeX, zeY]
   exact zaf zac ⟨(by simp only [zaa, zab, nbS]), by simp [tget, fitsB, hno]⟩
end
end Go.Av.Fn
/- A number's digits by the document. No condition. -/
namespace Go.Av.Fn
set_option linter.unusedSimpArgs false
set_option linter.unusedVariables false
set_option maxRecDepth 10000
open Go.Proofs Go.Lib
end Go.Av.Fn
/- Whether a command is right by the document. No condition. -/
namespace Go.Av.Fn
set_option linter.unusedSimpArgs false
set_option linter.unusedVariables false
set_option maxRecDepth 10000
open Go.Proofs Go.Lib
theorem fits_right {k n : Int} {s : List UInt8} (h : zaT k n s = true) : fitsB k n s = true := by
  obtain ⟨h1, h2, h3, _, _⟩ := right_form h
  unfold fitsB
  cases a : (zaV k).n <;> cases b : (zaV k).s <;> simp [h1] <;> first | exact ⟨h2 a, h3 b⟩ | exact h2 a | exact h3 b | skip
theorem fits_range {k n : Int} {s : List UInt8} (h : fitsB k n s = true) : k = 1 ∨ k = 2 ∨ k = 3 ∨ k = 4 ∨ k = 5 ∨ k = 6 ∨ k = 7 ∨ k = 8 ∨ k = 9 ∨ k = 10 ∨ k = 11 ∨ k = 12 ∨ k = 13 ∨ k = 14 ∨ k = 15 ∨ k = 16 ∨ k = 17 := by
  unfold fitsB at h
  simp only [ze2, decide_eq_true_eq] at h
  obtain ⟨j, rfl, h1, h2⟩ := form_range h.1.1
  omega
section
variable {Γ : Glob} {m : Store}
theorem rfin {b : Bool} {k n : Int} {s : List UInt8} {t : List V} {h : Hl} (ht : tget t 2 = .val (.bool b)) (e : zaT k n s = b) : bodyH [ARes.tmp 2] (fun v _ => nb 0 v ∧ v = .val (.bool (zaT k n s))) .ret ⟨t, h⟩ :=
  zaf zac ⟨by rw [show (⟨t, lk h⟩ : St).t = t from rfl, ht]; exact .val _, by rw [show (⟨t, lk h⟩ : St).t = t from rfl, ht, e]⟩
theorem kRight_ok (k n : Int) (s : List UInt8) : zae Tryz.prog Γ 63 [cmdV k n s] m fun o m' => o = .ret (.val (.bool (zaT k n s))) ∧ m' = m := by
  refine zaO (zaP mixed F63_ok F63_h zaB (nbs_cmdV _ _ _) ?_)
  simp only [F63, cmdV, ss0, ze0, zeV]
  simp only [ssH, zeV, zeT, reduceIte, zeU, zeZ, zeX, zeY]
  refine zar (v := .val (.bool (fitsB k n s))) (by exact fun m => kFits_ok k n s) (nbs_c1 _ _ _) (by first | exact LR.nil | simp only [nbS]) ?_
  cases hf : fitsB k n s
  · simp only [ssH, zeV, zeT, reduceIte, zeU, zeZ, zeX, zeY]
    refine rfin rfl ?_
    cases hr : zaT k n s
    · rfl
    · rw [fits_right hr] at hf
      cases hf
  · by_cases hn : 0 ≤ n ∧ n ≤ 4294967296
    · obtain ⟨hn1, hn2⟩ := hn
      simp only [gt_iff_lt, show decide (n < 0) = false by simp; omega, show decide (4294967296 < n) = false by simp; omega, ssH, zeV, zeT, reduceIte, zeU, zeZ, zeX, zeY]
      rcases fits_range hf with rfl | rfl | rfl | rfl | rfl | rfl | rfl | rfl | rfl | rfl | rfl | rfl | rfl | rfl | rfl | rfl | rfl
      all_goals simp only [fitsB, zaV, forms, za2] at hf
      all_goals simp at hf
      all_goals simp only [ge_iff_le, gt_iff_lt, bs_eq0, ssH, zeV, zeT, reduceIte, zeU, zeZ, zeX, zeY]
      all_goals first
        | (have hh : n = 0 ∧ s = [] := hf
           obtain ⟨rfl, rfl⟩ := hh
           exact rfin rfl (by simp [zaT, zaV, forms, za2]))
        | (have hv : zaT 9 n s = true := by (simp [zaT, zaV, forms, za2, hf]; omega)
           exact rfin rfl hv)
        | (subst hf
           refine zar (v := .val (.bool (zbD s))) (by exact fun m => kWritten_ok s) (by first | exact LR.nil | simp only [nbS]) (by first | exact LR.nil | simp only [nbS]) ?_
           simp only [ssH, zeV, zeT, reduceIte, zeU, zeZ, zeX, zeY]
           exact rfin rfl (by simp [zaT, zaV, forms, za2]))
        | (subst hf
           by_cases h1 : 1 ≤ n
           · exact rfin (b := true) (by simp [tget, h1]) (by simp [zaT, zaV, forms, za2]; omega)
           · exact rfin (b := false) (by simp [tget, h1]) (by simp [zaT, zaV, forms, za2]; omega))
        | skip
      by_cases h1 : 1 ≤ n
      · rw [show decide (1 ≤ n) = true by simp [h1]]
        simp only [bs_eq0, ssH, zeV, zeT, reduceIte, zeU, zeZ, zeX, zeY]
        cases hs : (s == [])
        · simp only [ssH, zeV, zeT, reduceIte, zeU, zeZ, zeX, zeY]
          refine zar (v := .val (.bool (zbD s))) (by exact fun m => kWritten_ok s) (by first | exact LR.nil | simp only [nbS]) (by first | exact LR.nil | simp only [nbS]) ?_
          simp only [ssH, zeV, zeT, reduceIte, zeU, zeZ, zeX, zeY]
          exact rfin rfl (by simp only [zaT, zaV, forms, za2]; simp [hs]; omega)
        · simp only [ssH, zeV, zeT, reduceIte, zeU, zeZ, zeX, zeY]
          exact rfin rfl (by simp only [zaT, zaV, forms, za2]; simp [hs]; omega)
      · rw [show decide (1 ≤ n) = false by simp [h1]]
        simp only [ssH, zeV, zeT, reduceIte, zeU, zeZ, zeX, zeY]
        exact rfin rfl (by simp only [zaT, zaV, forms, za2]; simp; omega)
    · have hr : zaT k n s = false := by
        cases hr : zaT k n s
        · rfl
        · obtain ⟨_, _, _, h1, h2⟩ := right_form hr
          exact absurd ⟨h1, h2⟩ hn
      by_cases h0 : n < 0
      · simp only [gt_iff_lt, show decide (n < 0) = true by simp [h0], ssH, zeV, zeT, reduceIte, zeU, zeZ, zeX, zeY]
        exact rfin rfl hr
      · simp only [gt_iff_lt, show decide (n < 0) = false by simp; omega, show decide (4294967296 < n) = true by simp; omega, ssH, zeV, zeT, reduceIte, zeU, zeZ, zeX, zeY]
        exact rfin rfl hr
end
section
variable {Γ : Glob} {m : Store}
end
end Go.Av.Fn
/- Any command is right or not, and has the text that the document says: the statement's function, walked. Conditions az ahead; numbers are written. -/
namespace Go.Av.Fn
set_option linter.unusedSimpArgs false
set_option linter.unusedVariables false
set_option maxRecDepth 10000
open Go.Proofs
end Go.Av.Fn
/- An entry's parts: clients, names. Conditions: az ahead. -/
namespace Go.Av.Fn
set_option linter.unusedSimpArgs false
set_option linter.unusedVariables false
set_option maxRecDepth 10000
open Go.Proofs
def zb7 (n : Int) : Bool := decide (1 ≤ n) && decide (n ≤ 2147483647)
section
variable {Γ : Glob} {m : Store}
theorem client_ok (n : Int) : zae Tryz.prog Γ 118 [it n] m fun o m' => o = .ret (.val (.bool (zb7 n))) ∧ m' = m := by
 refine zaO (zaP mixed F118_ok F118_h zaB (by first | exact LR.nil | simp only [nbS]) ?_)
 simp only [F118, ss0, ze0, zeV]
 simp only [ge_iff_le, ssH, zeV, zeT, reduceIte, zeU, zeZ, zeX, zeY]
 cases h : decide (1 ≤ n)
 ·simp only [h, ssH, zeV, zeT, reduceIte, zeU, zeZ, zeX, zeY]
  exact zaf zac ⟨(by simp only [zaa, zab, nbS]), by simp only [zb7, h]; rfl⟩
 ·simp only [h, ssH, zeV, zeT, reduceIte, zeU, zeZ, zeX, zeY]
  exact zaf zac ⟨(by simp only [zaa, zab, nbS]), by simp only [zb7, h]; rfl⟩
def nameB (s : List UInt8) : Bool := !(s == []) && decide (s.length ≤ 20) && !(dig (s.headD 0)) && !(zaN.contains s) && decide ((s.takeWhile fun b => let8 b || dig b).length = s.length)
theorem lname1_ok (b : UInt8) : zae Tryz.prog Γ 186 [by8 b] m fun o m' => o = .ret (.val (.bool (let8 b || dig b))) ∧ m' = m := by
 refine zaO (zaP mixed F186_ok F186_h zaB (by first | exact LR.nil | simp only [nbS]) ?_)
 simp only [F186, ss0, ze0, zeV]
 simp only [ssH, zeV, zeT, reduceIte, zeU, zeZ, zeX, zeY]
 refine zar (by exact fun m => letter_ok b) (by first | exact LR.nil | simp only [nbS]) (by first | exact LR.nil | simp only [nbS]) ?_
 cases h : let8 b
 ·simp only [ssH, zeV, zeT, reduceIte, zeU, zeZ, zeX, zeY]
  refine zar (by exact fun m => digit_ok b) (by first | exact LR.nil | simp only [nbS]) (by first | exact LR.nil | simp only [nbS]) ?_
  simp only [ssH, zeV, zeT, reduceIte, zeU, zeZ, zeX, zeY]
  exact zaf zac ⟨(by simp only [zaa, zab, nbS]), by simp [tget]⟩
 ·simp only [ssH, zeV, zeT, reduceIte, zeU, zeZ, zeX, zeY]
  exact zaf zac ⟨(by simp only [zaa, zab, nbS]), by simp [tget]⟩
theorem lname_ok (hw : Γ 3 = some (zaN.map bs)) (s : List UInt8) : zae Tryz.prog Γ 156 [bs s] m fun o m' => o = .ret (.val (.bool (nameB s))) ∧ m' = m := by
 refine zaO (zaP mixed F156_ok F156_h zaB (by first | exact LR.nil | simp only [nbS]) ?_)
 simp only [F156, ss0, ze0, zeV]
 simp only [bs_ne0, ssH, zeV, zeT, reduceIte, zeU, zeZ, zeX, zeY]
 cases s with
 | nil =>
  have h0 : (([] : List UInt8) == []) = true := rfl
  have hn : nameB [] = false := rfl
  simp only [h0, ze6, hn, ssH, zeV, zeT, reduceIte, zeU, zeZ, zeX, zeY]
  exact zaf zac ⟨(by simp only [zaa, zab, nbS]), rfl⟩
 | cons b r =>
  have h0 : ((b :: r) == []) = false := rfl
  have hx : idxStrV (bs (b :: r)) (.val (.int .i64 0)) = some (by8 b) := zby (i := 0) rfl
  by_cases hl : (b :: r).length ≤ 20
  ·have hd : decide (((r.length + 1 : Nat) : Int) ≤ 20) = true := by
    simp only [ze1] at hl
    simp
    omega
   have hl2 : decide ((b :: r).length ≤ 20) = true := by simpa using hl
   simp only [h0, ze4, hd, hx, ssH, zeV, zeT, reduceIte, zeU, zeZ, zeX, zeY]
   refine zar (by exact fun m => digit_ok b) (by first | exact LR.nil | simp only [nbS]) (by first | exact LR.nil | simp only [nbS]) ?_
   cases h1 : dig b
   ·simp only [ssH, zeV, zeT, reduceIte, zeU, zeZ, zeX, zeY]
    refine zar (by exact fun m => Word_ok hw (b :: r)) (by first | exact LR.nil | simp only [nbS]) (by first | exact LR.nil | simp only [nbS]) ?_
    cases h2 : zaN.contains (b :: r)
    ·simp only [ssH, zeV, zeT, reduceIte, zeU, zeZ, zeX, zeY]
     refine zar (by exact fun m => row_ok (b :: r) (by omega) (p := fun b => let8 b || dig b) (fun b => lname1_ok b)) (by first | exact LR.nil | simp only [nbS]) (by first | exact LR.nil | simp only [nbS]) ?_
     simp only [ssH, zeV, zeT, reduceIte, zeU, zeZ, zeX, zeY]
     refine zaf zac ⟨(by simp only [zaa, zab, nbS]), ?_⟩
     have e : (((((b :: r).takeWhile fun b => let8 b || dig b).length : Nat) : Int) == ((r.length + 1 : Nat) : Int)) = nameB (b :: r) := by
      simp only [nameB, h0, hl2, List.headD_cons, h1, h2, ze4, zfG]
      rw [Bool.eq_iff_iff, beq_iff_eq, decide_eq_true_eq, ze1]
      omega
     exact congrArg (fun b => V.val (.bool b)) e
    ·simp only [ssH, zeV, zeT, reduceIte, zeU, zeZ, zeX, zeY]
     exact zaf zac ⟨(by simp only [zaa, zab, nbS]), by simp only [zaa, zab, nameB, h0, hl2, List.headD_cons, h1, h2]; rfl⟩
   ·simp only [ssH, zeV, zeT, reduceIte, zeU, zeZ, zeX, zeY]
    exact zaf zac ⟨(by simp only [zaa, zab, nbS]), by simp only [zaa, zab, nameB, h0, hl2, List.headD_cons, h1]; rfl⟩
  ·have hd : decide (((r.length + 1 : Nat) : Int) ≤ 20) = false := by
    simp only [ze1] at hl
    simp
    omega
   have hl2 : decide ((b :: r).length ≤ 20) = false := by simpa using hl
   simp only [h0, ze4, hd, ssH, zeV, zeT, reduceIte, zeU, zeZ, zeX, zeY]
   exact zaf zac ⟨(by simp only [zaa, zab, nbS]), by simp only [zaa, zab, nameB, h0, hl2]; rfl⟩
end
section
variable {Γ : Glob} {m : Store}
theorem lTextName_ok (hw : Γ 3 = some (zaN.map bs)) (s : List UInt8) : zae Tryz.prog Γ 133 [.agg [it 1, bs s, it 0, it 0, it 0]] m fun o m' => o = .ret (.tup [bs (if nameB s = true then s else []), it (if nameB s = true then 0 else 2)]) ∧ m' = m := by
 refine zaO (zaP mixed F133_ok F133_h zaB (by first | exact LR.nil | simp only [nbS]) ?_)
 simp only [F133, ss0, ze0, zeV]
 simp only [ssH, zeV, zeT, reduceIte, zeU, zeZ, zeX, zeY]
 refine zar (by exact fun m => lname_ok hw s) (by first | exact LR.nil | simp only [nbS]) (by first | exact LR.nil | simp only [nbS]) ?_
 cases h : nameB s
 ·simp only [ze3, if_false, ssH, zeV, zeT, reduceIte, zeU, zeZ, zeX, zeY]
  exact zaf resV_two ⟨(by simp only [zaa, zab, nbS]), rfl⟩
 ·simp only [if_true, ssH, zeV, zeT, reduceIte, zeU, zeZ, zeX, zeY]
  exact zaf resV_two ⟨(by simp only [zaa, zab, nbS]), rfl⟩
theorem oName_ok (hw : Γ 3 = some (zaN.map bs)) (s : List UInt8) : zae Tryz.prog Γ 119 [bs s] m fun o m' => o = .ret (.val (.bool (nameB s))) ∧ m' = m := by
 refine zaO (zaP mixed F119_ok F119_h zaB (by first | exact LR.nil | simp only [nbS]) ?_)
 simp only [F119, ss0, ze0, zeV]
 simp only [ssH, zeV, zeT, reduceIte, zeU, zeZ, zeX, zeY]
 refine zar (by exact fun m => lTextName_ok hw s) (by first | exact LR.nil | simp only [nbS]) (by first | exact LR.nil | simp only [nbS]) ?_
 cases h : nameB s
 ·simp only [ze3, if_false, ssH, zeV, zeT, reduceIte, zeU, zeZ, zeX, zeY]
  exact zaf zac ⟨(by simp only [zaa, zab, nbS]), rfl⟩
 ·simp only [if_true, ssH, zeV, zeT, reduceIte, zeU, zeZ, zeX, zeY]
  exact zaf zac ⟨(by simp only [zaa, zab, nbS]), rfl⟩
end
theorem zdW (xo yo : Operand) (k n : Int) (s : List UInt8) : binV Tryz.prog .neq 24 .other xo yo (.agg [it k, it n, bs s]) (.agg [.val (.int .i64 0), .val (.int .i64 0), .val (.string (ByteArray.mk #[]))]) = some (.val (.bool (!decide (k = 0 ∧ n = 0 ∧ s = [])))) := cmd_neq xo yo k n 0 0 s []
structure Ent where
 c : Int
 q : Int
 k : Int
 n : Int
 s : List UInt8
 ck : Int
 cn : Int
 cs : List UInt8
 deriving DecidableEq
def entV (e : Ent) : V := .agg [it e.c, it e.q, it e.k, it e.n, bs e.s, it e.ck, it e.cn, bs e.cs]
def noCmd (e : Ent) : Bool := decide (e.ck = 0 ∧ e.cn = 0 ∧ e.cs = [])
def entB (e : Ent) : Bool := zb7 e.c && zb7 e.q &&
 (if e.k = 1 then nameB e.s && (e.n == 0 || e.n == 1) && noCmd e
 else if e.k = 4 then e.s == [] && zb7 e.n && noCmd e
 else if e.k = 2 ∨ e.k = 3 ∨ e.k = 5 ∨ e.k = 6 then e.s == [] && e.n == 0 && noCmd e
 else if e.k = 7 then e.s == [] && e.n == 0 && zaT e.ck e.cn e.cs
 else false)
section
variable {Γ : Glob} {m : Store}
set_option maxHeartbeats 3200000 in
theorem oCheckE_ok (E : Env Γ) (e : Ent) : zae Tryz.prog Γ 84 [entV e] m fun o m' => o = .ret (it (if entB e = true then 0 else 2)) ∧ m' = m := by
 obtain ⟨c, q, k, n, s, ck, cn, cs⟩ := e
 refine zaO (zaP mixed F84_ok F84_h zaB (by simp only [entV, nbS]) ?_)
 simp only [F84, entV, ss0, ze0, zeV]
 simp only [ssH, zeV, zeT, reduceIte, zeU, zeZ, zeX, zeY]
 refine zar (by exact fun m => client_ok c) (by first | exact LR.nil | simp only [nbS]) (by first | exact LR.nil | simp only [nbS]) ?_
 have hk : k = 1 ∨ k = 4 ∨ k = 2 ∨ k = 3 ∨ k = 5 ∨ k = 6 ∨ k = 7 ∨ (k ≠ 1 ∧ k ≠ 4 ∧ k ≠ 2 ∧ k ≠ 3 ∧ k ≠ 5 ∧ k ≠ 6 ∧ k ≠ 7) := by omega
 cases h1 : zb7 c
 ·simp only [ssH, zeV, zeT, reduceIte, zeU, zeZ, zeX, zeY]
  rcases hk with rfl | rfl | rfl | rfl | rfl | rfl | rfl | ⟨n1, n4, n2, n3, n5, n6, n7⟩
  case inr.inr.inr.inr.inr.inr.inr =>
   simp only [show (k == 1) = false by simpa using n1, show (k == 4) = false by simpa using n4, show (k == 2) = false by simpa using n2, show (k == 3) = false by simpa using n3, show (k == 5) = false by simpa using n5, show (k == 6) = false by simpa using n6, show (k == 7) = false by simpa using n7, ssH, zeV, zeT, reduceIte, zeU, zeZ, zeX, zeY]
   exact zaf zac ⟨(by simp only [zaa, zab, nbS]), by simp [tget, entB, h1]⟩
  all_goals
   simp only [ssH, zeV, zeT, reduceIte, zeU, zeZ, zeX, zeY]
   exact zaf zac ⟨(by simp only [zaa, zab, nbS]), by simp [tget, entB, h1]⟩
 ·simp only [ssH, zeV, zeT, reduceIte, zeU, zeZ, zeX, zeY]
  refine zar (by exact fun m => client_ok q) (by first | exact LR.nil | simp only [nbS]) (by first | exact LR.nil | simp only [nbS]) ?_
  simp only [ssH, zeV, zeT, reduceIte, zeU, zeZ, zeX, zeY]
  cases h2 : zb7 q
  ·rcases hk with rfl | rfl | rfl | rfl | rfl | rfl | rfl | ⟨n1, n4, n2, n3, n5, n6, n7⟩
   case inr.inr.inr.inr.inr.inr.inr =>
    simp only [show (k == 1) = false by simpa using n1, show (k == 4) = false by simpa using n4, show (k == 2) = false by simpa using n2, show (k == 3) = false by simpa using n3, show (k == 5) = false by simpa using n5, show (k == 6) = false by simpa using n6, show (k == 7) = false by simpa using n7, ssH, zeV, zeT, reduceIte, zeU, zeZ, zeX, zeY]
    exact zaf zac ⟨(by simp only [zaa, zab, nbS]), by simp [tget, entB, h2]⟩
   all_goals
    simp only [ssH, zeV, zeT, reduceIte, zeU, zeZ, zeX, zeY]
    exact zaf zac ⟨(by simp only [zaa, zab, nbS]), by simp [tget, entB, h2]⟩
  ·rcases hk with rfl | rfl | rfl | rfl | rfl | rfl | rfl | ⟨n1, n4, n2, n3, n5, n6, n7⟩
   case inr.inr.inr.inr.inr.inr.inr =>
    simp only [show (k == 1) = false by simpa using n1, show (k == 4) = false by simpa using n4, show (k == 2) = false by simpa using n2, show (k == 3) = false by simpa using n3, show (k == 5) = false by simpa using n5, show (k == 6) = false by simpa using n6, show (k == 7) = false by simpa using n7, ssH, zeV, zeT, reduceIte, zeU, zeZ, zeX, zeY]
    exact zaf zac ⟨(by simp only [zaa, zab, nbS]), by simp [tget, entB, n1, n2, n3, n4, n5, n6, n7]⟩
   case inr.inr.inr.inr.inr.inr.inl =>
    cases h3 : (s == []) <;> cases h4 : (n == 0) <;> simp only [bs_ne0, bne, h3, h4, ze6, ze4, ssH, zeV, zeT, reduceIte, zeU, zeZ, zeX, zeY]
    case true.true =>
     refine zar (by exact fun m => cCheck_ok E ck cn cs) (nbs_c1 _ _ _) (by first | exact LR.nil | simp only [nbS]) ?_
     simp only [ssH, zeV, zeT, reduceIte, zeU, zeZ, zeX, zeY]
     refine zaf zac ⟨(by simp only [zaa, zab, nbS]), ?_⟩
     simp only [zaa, zab, entB, h1, h2, h3, h4]
     cases zaT ck cn cs <;> rfl
    all_goals exact zaf zac ⟨(by simp only [zaa, zab, nbS]), by simp only [zaa, zab, entB, h1, h2, h3, h4]; rfl⟩
   case inl =>
    simp only [ssH, zeV, zeT, reduceIte, zeU, zeZ, zeX, zeY]
    refine zar (by exact fun m => oName_ok E.words s) (by first | exact LR.nil | simp only [nbS]) (by first | exact LR.nil | simp only [nbS]) ?_
    cases h3 : nameB s <;> cases h4 : (n == 0) <;> cases h6 : (n == 1) <;> cases h5 : decide (ck = 0 ∧ cn = 0 ∧ cs = []) <;> simp only [h4, h6, zdW, h5, ze6, ze4, ssH, zeV, zeT, reduceIte, zeU, zeZ, zeX, zeY] <;> exact zaf zac ⟨(by simp only [zaa, zab, nbS]), by simp only [zaa, zab, entB, noCmd, h1, h2, h3, h4, h5, h6]; rfl⟩
   case inr.inl =>
    cases h3 : (s == [])
    ·simp only [bs_eq0, h3, ssH, zeV, zeT, reduceIte, zeU, zeZ, zeX, zeY]
     exact zaf zac ⟨(by simp only [zaa, zab, nbS]), by simp only [zaa, zab, entB, h1, h2, h3]; rfl⟩
    ·simp only [bs_eq0, h3, ssH, zeV, zeT, reduceIte, zeU, zeZ, zeX, zeY]
     refine zar (by exact fun m => client_ok n) (by first | exact LR.nil | simp only [nbS]) (by first | exact LR.nil | simp only [nbS]) ?_
     cases h4 : zb7 n <;> cases h5 : decide (ck = 0 ∧ cn = 0 ∧ cs = []) <;> simp only [zdW, h5, ze6, ze4, ssH, zeV, zeT, reduceIte, zeU, zeZ, zeX, zeY] <;> exact zaf zac ⟨(by simp only [zaa, zab, nbS]), by simp only [zaa, zab, entB, noCmd, h1, h2, h3, h4, h5]; rfl⟩
   all_goals
    cases h3 : (s == []) <;> cases h4 : (n == 0) <;> cases h5 : decide (ck = 0 ∧ cn = 0 ∧ cs = []) <;> simp only [bs_eq0, h3, h4, zdW, h5, ze6, ze4, ssH, zeV, zeT, reduceIte, zeU, zeZ, zeX, zeY] <;> exact zaf zac ⟨(by simp only [zaa, zab, nbS]), by simp only [zaa, zab, entB, noCmd, h1, h2, h3, h4, h5]; rfl⟩
end
structure Lg where
 b : Int
 c : List UInt8
 l : List Ent
def zbH (nn : Bool) (l : List Ent) : V := .sl (l.map entV) [] (if nn then .non else .full)
def lgV (nn : Bool) (x : Lg) : V := .agg [it x.b, bs x.c, zbH nn x.l]
def lgB (x : Lg) : Bool := decide (0 ≤ x.b) && decide (x.b ≤ 2147483647) && decide (x.c.length ≤ 65536) && ((x.c == []) == (x.b == 0)) && decide (x.l.length ≤ 64) && decide ((x.l.length : Int) ≤ 2147483647 - x.b) && x.l.all entB
theorem zdp {k : Nat} (e : Ent) : nb k (entV e) := by simp only [entV, nbS]
theorem zbi {k : Nat} (nn : Bool) (l : List Ent) : nb k (zbH nn l) := by
 cases nn <;> simp only [zbH, ze3, if_false, if_true, nbS] <;> exact nbs_map zdp l
theorem nb_lgV {k : Nat} (nn : Bool) (x : Lg) : nb k (lgV nn x) := by
 have := zbi (k := k) nn x.l
 simp only [lgV, this, nbS]
theorem idx_ent {l : List Ent} {more : List V} {tok : Tok} {i : Nat} {e : Ent} (h : l[i]? = some e) : idxLV 8 (.sl (l.map entV) more tok) (it i) = some (.elt [it e.c, it e.q, it e.k, it e.n, bs e.s, it e.ck, it e.cn, bs e.cs]) := zbP (e := entV e) (by rw [zfz, h]; rfl) rfl
section
variable {Γ : Glob} {m : Store}
theorem pIndexF_ok {g : FuncId} {p : Ent → Bool} (hp : ∀ e m, zae Tryz.prog Γ g ([] ++ [entV e] ++ []) m fun o m' => o = .ret (.val (.bool (p e))) ∧ m' = m) (nn : Bool) (l : List Ent) (hl : l.length < 4611686018427387904) :
  zae Tryz.prog Γ 117 [zbH nn l, .fn (.func g) [] []] m fun o m' => (∃ v, o = .ret v ∧ ∃ i : Int, v = it i ∧ decide (0 ≤ i) = l.any p) ∧ m' = m := by
 have hnb := zbi (k := 0) nn l
 refine zaP mixed F117_ok F117_h zaB (by simp only [hnb, nbS]) ?_
 simp only [F117, ss0, ze0, zeV]
 simp only [zbH, zfk, ssH, zeV, zeT, reduceIte, zeU, zeZ, zeX, zeY]
 refine zdv [0, 1, 7, 8] 19 (fun n vs h => ∃ i : Nat, vs = [zbH nn l, .fn (.func g) [] [], it l.length, it i] ∧ i + n = l.length + 1 ∧ i ≤ l.length ∧ (l.take i).any p = false) (l.length + 1) (by decide) (by decide) (zfd 0) (zaC rfl (zfj _) (by decide) (by simp) (by show nbs 0 [zbH nn l, .fn (.func g) [] [], it l.length, it 0]; simp only [hnb, nbS]) (fun a ha => by omega) ⟨0, rfl, by omega, by omega, by simp⟩) ?_
 rintro n t h J hJ hlt ⟨i, hv, hn, hi, hpre⟩
 simp only [zfx, List.cons.injEq, and_true] at hv
 obtain ⟨h0, h1, h7, h8⟩ := hv
 rw [t_eq hlt]
 simp only [zat, upTo, h0, h1, h7, h8, zbH, ssH, zeV, zeT, reduceIte, zeU, zeZ, zeX, zeY]
 by_cases hil : i < l.length
 ·rw [show decide ((i : Int) < (l.length : Int)) = true by simp; omega]
  have hx : l[i]? = some l[i] := ze8 hil
  generalize l[i] = e at hx
  simp only [idx_ent hx, ssH, zeV, zeT, reduceIte, zeU, zeZ, zeX, zeY]
  refine zar (by exact fun m => hp e m) (by have := zdp (k := 0) e; simp only [entV] at this; simp only [this, nbS]) (by first | exact LR.nil | simp only [nbS]) ?_
  have hany : (l.take (i + 1)).any p = p e := by
   rw [zfh, hx, List.any_append, hpre]
   simp
  cases he : p e
  ·simp only [zaq (show i < 4611686018427387904 by omega), ssH, zeV, zeT, reduceIte, zeU, zeZ, zeX, zeY]
   refine ⟨_, hJ (n - 1) (zfd 0) _ (by omega) (zaC rfl (zfj _) (by decide) (by simp) (by show nbs 0 [zbH nn l, .fn (.func g) [] [], it l.length, it (i + 1 : Nat)]; simp only [hnb, nbS]) (fun a ha => by omega) ⟨i + 1, rfl, by omega, by omega, by rw [hany, he]⟩)⟩
  ·simp only [ssH, zeV, zeT, reduceIte, zeU, zeZ, zeX, zeY]
   refine zaf zac ⟨(by simp only [zaa, zab, nbS]), i, rfl, ?_⟩
   rw [decide_eq_true (by omega)]
   symm
   rw [List.any_eq_true]
   exact ⟨e, zfy hx, he⟩
 ·rw [show decide ((i : Int) < (l.length : Int)) = false by simp; omega]
  simp only [ssH, zeV, zeT, reduceIte, zeU, zeZ, zeX, zeY]
  refine zaf zac ⟨(by simp only [zaa, zab, nbS]), -1, rfl, ?_⟩
  rw [show l.take i = l from List.take_of_length_le (by omega)] at hpre
  rw [hpre]
  rfl
theorem pContains_ok {g : FuncId} {p : Ent → Bool} (hp : ∀ e m, zae Tryz.prog Γ g ([] ++ [entV e] ++ []) m fun o m' => o = .ret (.val (.bool (p e))) ∧ m' = m) (nn : Bool) (l : List Ent) (hl : l.length < 4611686018427387904) :
  zae Tryz.prog Γ 82 [zbH nn l, .fn (.func g) [] []] m fun o m' => o = .ret (.val (.bool (l.any p))) ∧ m' = m := by
 have hnb := zbi (k := 0) nn l
 refine zaO (zaP mixed F82_ok F82_h zaB (by simp only [hnb, nbS]) ?_)
 simp only [F82, ss0, ze0, zeV]
 simp only [ssH, zeV, zeT, reduceIte, zeU, zeZ, zeX, zeY]
 refine hcall_some (by exact fun m => pIndexF_ok hp nn l hl) (by simp only [hnb, nbS]) (by rintro v ⟨i, rfl, _⟩; exact .val _) ?_
 rintro v ⟨i, rfl, hi⟩
 simp only [ge_iff_le, ssH, zeV, zeT, reduceIte, zeU, zeZ, zeX, zeY]
 exact zaf zac ⟨(by simp only [zaa, zab, nbS]), by rw [← hi]; rfl⟩
theorem pCheck1_ok (E : Env Γ) (e : Ent) : zae Tryz.prog Γ 83 [entV e] m fun o m' => o = .ret (.val (.bool (!entB e))) ∧ m' = m := by
 have hnb := zdp (k := 0) e
 refine zaO (zaP mixed F83_ok F83_h zaB (by simp only [hnb, nbS]) ?_)
 simp only [F83, ss0, ze0, zeV]
 simp only [entV, ssH, zeV, zeT, reduceIte, zeU, zeZ, zeX, zeY]
 refine zar (by exact fun m => oCheckE_ok E e) (by simp only [entV] at hnb; simp only [hnb, nbS]) (by first | exact LR.nil | simp only [nbS]) ?_
 cases h : entB e
 ·simp only [ze3, if_false, ssH, zeV, zeT, reduceIte, zeU, zeZ, zeX, zeY]
  exact zaf zac ⟨(by simp only [zaa, zab, nbS]), rfl⟩
 ·simp only [if_true, ssH, zeV, zeT, reduceIte, zeU, zeZ, zeX, zeY]
  exact zaf zac ⟨(by simp only [zaa, zab, nbS]), rfl⟩
end
section
variable {Γ : Glob} {m : Store}
theorem neq_bool (xo yo : Operand) (a b : Bool) : binV Tryz.prog .neq 4 .other xo yo (.val (.bool a)) (.val (.bool b)) = some (.val (.bool (a != b))) := by cases a <;> cases b <;> kernel_rfl
theorem pCheck_ok (E : Env Γ) (nn : Bool) (x : Lg) : zae Tryz.prog Γ 36 [lgV nn x] m fun o m' => o = .ret (it (if lgB x = true then 0 else 4)) ∧ m' = m := by
 obtain ⟨b, c, l⟩ := x
 have hnb := nb_lgV (k := 0) nn ⟨b, c, l⟩
 have hnl := zbi (k := 0) nn l
 have hno : lgB ⟨b, c, l⟩ ≠ true → it 4 = it (if lgB ⟨b, c, l⟩ = true then 0 else 4) := fun h => by rw [if_neg h]
 refine zaO (zaP mixed F36_ok F36_h zaB (by simp only [hnb, nbS]) ?_)
 simp only [F36, lgV, ss0, ze0, zeV]
 simp only [zbH, zfk, gt_iff_lt, bs_eq0, ssH, zeV, zeT, reduceIte, zeU, zeZ, zeX, zeY]
 by_cases h1 : b < 0
 ·simp only [decide_eq_true h1, ssH, zeV, zeT, reduceIte, zeU, zeZ, zeX, zeY]
  exact zaf zac ⟨(by simp only [zaa, zab, nbS]), hno fun h => by simp only [lgB, ze2, decide_eq_true_eq] at h; omega⟩
 simp only [decide_eq_false h1, ssH, zeV, zeT, reduceIte, zeU, zeZ, zeX, zeY]
 by_cases h2 : 2147483647 < b
 ·simp only [decide_eq_true h2, ssH, zeV, zeT, reduceIte, zeU, zeZ, zeX, zeY]
  exact zaf zac ⟨(by simp only [zaa, zab, nbS]), hno fun h => by simp only [lgB, ze2, decide_eq_true_eq] at h; omega⟩
 simp only [decide_eq_false h2, ssH, zeV, zeT, reduceIte, zeU, zeZ, zeX, zeY]
 by_cases h3 : (65536 : Int) < (c.length : Int)
 ·simp only [decide_eq_true h3, ssH, zeV, zeT, reduceIte, zeU, zeZ, zeX, zeY]
  exact zaf zac ⟨(by simp only [zaa, zab, nbS]), hno fun h => by simp only [lgB, ze2, decide_eq_true_eq] at h; omega⟩
 simp only [decide_eq_false h3, neq_bool, ssH, zeV, zeT, reduceIte, zeU, zeZ, zeX, zeY]
 cases h4 : ((c == []) != (b == 0))
 case true =>
  simp only [ssH, zeV, zeT, reduceIte, zeU, zeZ, zeX, zeY]
  refine zaf zac ⟨(by simp only [zaa, zab, nbS]), hno fun h => ?_⟩
  simp only [lgB, ze2, beq_iff_eq] at h
  rw [h.1.1.1.2] at h4
  simp at h4
 simp only [ssH, zeV, zeT, reduceIte, zeU, zeZ, zeX, zeY]
 by_cases h5 : (64 : Int) < (l.length : Int)
 ·simp only [decide_eq_true h5, ssH, zeV, zeT, reduceIte, zeU, zeZ, zeX, zeY]
  exact zaf zac ⟨(by simp only [zaa, zab, nbS]), hno fun h => by simp only [lgB, ze2, decide_eq_true_eq] at h; omega⟩
 have hw : IntKind.i64.wrap (2147483647 - b) = 2147483647 - b := wrap_i64 (by omega) (by omega)
 simp only [decide_eq_false h5, hw, ssH, zeV, zeT, reduceIte, zeU, zeZ, zeX, zeY]
 by_cases h6 : 2147483647 - b < (l.length : Int)
 ·simp only [decide_eq_true h6, ssH, zeV, zeT, reduceIte, zeU, zeZ, zeX, zeY]
  exact zaf zac ⟨(by simp only [zaa, zab, nbS]), hno fun h => by simp only [lgB, ze2, decide_eq_true_eq] at h; omega⟩
 simp only [decide_eq_false h6, ssH, zeV, zeT, reduceIte, zeU, zeZ, zeX, zeY]
 refine zar (by exact fun m => pContains_ok (p := fun e => !entB e) (fun e m => pCheck1_ok E e) nn l (by omega)) (by simp only [zbH] at hnl; simp only [hnl, nbS]) (by first | exact LR.nil | simp only [nbS]) ?_
 have hb : lgB ⟨b, c, l⟩ = l.all entB := by
  have h4' : ((c == []) == (b == 0)) = true := by
   revert h4
   cases (c == []) <;> cases (b == 0) <;> simp
  simp only [lgB, h4', decide_eq_true (show (0 : Int) ≤ b by omega), decide_eq_true (show b ≤ 2147483647 by omega), decide_eq_true (show c.length ≤ 65536 by omega), decide_eq_true (show l.length ≤ 64 by omega), decide_eq_true (show (l.length : Int) ≤ 2147483647 - b by omega), zfG]
 have ha : l.any (fun e => !entB e) = !l.all entB := by
  rw [List.all_eq_not_any_not]; simp
 cases h7 : l.any fun e => !entB e
 ·simp only [ssH, zeV, zeT, reduceIte, zeU, zeZ, zeX, zeY]
  have hy : lgB ⟨b, c, l⟩ = true := by rw [hb]; rw [h7] at ha; simpa using ha.symm
  have h0 : it 0 = it (if lgB ⟨b, c, l⟩ = true then 0 else 4) := by rw [if_pos hy]
  exact zaf zac ⟨(by simp only [zaa, zab, nbS]), h0⟩
 ·simp only [ssH, zeV, zeT, reduceIte, zeU, zeZ, zeX, zeY]
  refine zaf zac ⟨(by simp only [zaa, zab, nbS]), hno ?_⟩
  rw [hb]
  rw [h7] at ha
  simpa using ha.symm
end
end Go.Av.Fn
/- Functions that are handed a closure that holds variables' pointers. No condition. -/
namespace Go.Av
set_option linter.unusedSimpArgs false
set_option linter.unusedVariables false
def tokN : List V → Tok → Tok
 | [], .full => .full
 | [], t => if zdL t then .no else .non
 | _ :: _, _ => .non
mutual
def wN : V → V
 | .agg cs => .agg (wNs cs)
 | .tup cs => .tup (wNs cs)
 | .sl es more t => .sl (wNs es) (wNs more) (tokN es t)
 | v => v
def wNs : List V → List V
 | [] => []
 | v :: l => wN v :: wNs l
end
theorem wNs_append : ∀ (a b : List V), wNs (a ++ b) = wNs a ++ wNs b
 | [], b => rfl
 | v :: l, b => by rw [List.cons_append, wNs, wNs_append l b]; rfl
theorem zd4 : ∀ l : List V, (wNs l).length = l.length
 | [] => rfl
 | v :: l => by rw [wNs, ze1, zd4 l]; rfl
theorem wNs_map {α : Type} {f : α → V} (h : ∀ x, wN (f x) = f x) : ∀ l : List α, wNs (l.map f) = l.map f
 | [] => rfl
 | x :: l => by rw [List.map_cons, wNs, h, wNs_map h l]
theorem wN_cells (v : V) : (wN v).cells = wNs v.cells := by
 cases v <;> rfl
theorem flat_wNs : ∀ l : List V, flat (wNs l) = wNs (flat l)
 | [] => rfl
 | v :: l => by rw [wNs, zaK, zaK, wNs_append, wN_cells, flat_wNs l]
theorem wNs_mem : ∀ {l : List V} {e : V}, e ∈ wNs l → ∃ x ∈ l, e = wN x
 | v :: l, e, h => by
  rw [wNs] at h
  rcases List.mem_cons.1 h with rfl | h
  ·exact ⟨v, ze9 .., rfl⟩
  ·obtain ⟨x, hx, rfl⟩ := wNs_mem h
   exact ⟨x, zfa _ hx, rfl⟩
theorem tokN_ok {G : Gh} {es : List V} {t : Tok} {a : Addr} {cap s : Nat} (h : G.tokOk t a es.length cap s) : G.tokOk (tokN es t) a es.length cap s := by
 cases es with
 | cons x l => trivial
 | nil =>
  cases t with
  | full => exact absurd rfl h.2
  | _ => simp only [tokN]; split <;> trivial
theorem tokN_nil {t : Tok} (h : zdL t = true) : zdL (tokN [] t) = true := by
 cases t <;> first | rfl | cases h | (simp only [tokN, h, if_true]; rfl)
mutual
theorem RelV.wN {G : Gh} : ∀ {v : V} {u : Value}, RelV G v u → RelV G (wN v) u
 | _, _, .val h => .val h
 | _, _, .ptr b o => .ptr b o
 | _, _, .elt h k => .elt h k
 | _, _, .nil h => by
  simp only [Av.wN, wNs]
  exact .nil (tokN_nil h)
 | _, _, .arr a b c d => .arr a b c d
 | _, _, .res a b c => .res a b c
 | _, _, .sl (es := es) (more := more) a b c d e f => by
  simp only [Av.wN]
  have hb := RelL.wN b
  rw [← flat_wNs, wNs_append] at hb
  have h8 := tokN_ok f
  rw [← zd4 es] at h8 ⊢
  refine .sl (fun x hx => ?_) hb c (by rw [zd4, zd4]; exact d) e h8
  rw [← wNs_append] at hx
  obtain ⟨y, hy, rfl⟩ := wNs_mem hx
  rw [wN_cells, zd4]
  exact a y hy
 | _, _, .fn h k => .fn h k
 | _, _, .ifc h => .ifc h
 | _, _, .agg h => by
  simp only [Av.wN]
  exact .agg (RelL.wN h)
 | _, _, .tup h => by
  simp only [Av.wN]
  exact .tup (RelL.wN h)
theorem RelL.wN {G : Gh} : ∀ {v : List V} {u : List Value}, RelL G v u → RelL G (wNs v) u
 | _, _, .nil => .nil
 | _, _, .cons a b => .cons (RelV.wN a) (RelL.wN b)
end
theorem tokN_vr {R : Ren} {es es' : List V} {k k' : Tok} (a : LR R es es') (c : TokR R k k') : TokR R (tokN es k) (tokN es' k') := by
 cases a with
 | cons _ _ => trivial
 | nil =>
  have hn := nilTok_vr c
  cases k <;> cases k' <;> first | exact c.elim | trivial | (simp only [tokN, hn]; split <;> trivial)
mutual
theorem VR.wN {R : Ren} : ∀ {v v' : V}, VR R v v' → VR R (wN v) (wN v')
 | _, _, .val v => .val v
 | _, _, .ptr o r => .ptr o r
 | _, _, .elt r => .elt r
 | _, _, .sl a b c => by
  simp only [Av.wN]
  exact .sl (LR.wN a) (LR.wN b) (tokN_vr a c)
 | _, _, .fn h a b => .fn h a b
 | _, _, .ifc r => .ifc r
 | _, _, .agg r => by
  simp only [Av.wN]
  exact .agg (LR.wN r)
 | _, _, .tup r => by
  simp only [Av.wN]
  exact .tup (LR.wN r)
 | _, _, .arr o l c r => .arr o l c r
 | _, _, .res v z n r => .res v z n r
theorem LR.wN {R : Ren} : ∀ {v v' : List V}, LR R v v' → LR R (wNs v) (wNs v')
 | _, _, .nil => .nil
 | _, _, .cons a b => .cons (VR.wN a) (LR.wN b)
end
theorem zae.wnd {P : Program} {Γ : Glob} {f : FuncId} {args : List V} {m : Store} {R R' : Out → Store → Prop} (h : zae P Γ f args m R) (hr : ∀ v m', R (.ret v) m' → R' (.ret (Av.wN v)) m') (hp : ∀ v m', R (.pan v) m' → R' (.pan v) m') : zae P Γ f args m R' := by
 refine ⟨h.1, fun G B0 mF w cargs hD hR hL => (h.2 G B0 mF w cargs hD hR hL).mono ?_⟩
 rintro e w' ⟨G', m', o, a, b, c, d, r, s⟩
 cases o with
 | ret v =>
  cases r with
  | ret r => exact ⟨G', m', .ret (Av.wN v), a, b, c, d, .ret r.wN, hr _ _ s⟩
 | pan v => exact ⟨G', m', .pan v, a, b, c, d, r, hp _ _ s⟩
section
variable {P : Program} {Γ : Glob} {H : Nat → List (Nat × List Nat) × List Nat} {f : FuncId} {F : AFn} {gs : List Nat}
def hdrop (h : Hl) : List Nat → Hl
 | [] => h
 | b :: bs => hdrop (hset h b none) bs
section
variable {Γ : Glob} {Kp : V → Hl → Prop} {l : List Item} {K : HS → Prop} {t : List V} {h : Hl} {d : Option Tmp} {s : List (Tmp × Option (Tmp × Bool) × AOp)} {g : FuncId} {first args caps : List V}
end
end
end Go.Av
/- Entries copied; what is done with a right log. Conditions: az ahead. -/
namespace Go.Av.Fn
set_option linter.unusedSimpArgs false
set_option linter.unusedVariables false
set_option maxRecDepth 10000
open Go.Proofs
theorem wN_entV (e : Ent) : wN (entV e) = entV e := by simp only [entV, wN, wNs]; rfl
theorem wNs_ents (l : List Ent) : wNs (l.map entV) = l.map entV := wNs_map wN_entV l
theorem wN_some {l : List Ent} {t : Tok} (h : l ≠ [] ∨ zdL t = false) : wN (.sl (l.map entV) [] t) = zbH true l := by
 simp only [wN, wNs_ents, zbH, if_true]
 cases l with
 | nil =>
  have ht : zdL t = false := by simpa using h
  have e2 : tokN [] t = .non := by
   cases t with
   | no => cases ht
   | full => cases ht
   | zero b => cases b <;> first | rfl | cases ht
   | _ => rfl
  simp only [List.map_nil, wNs, e2]
 | cons e l => rfl
theorem szOk_ents (l : List Ent) : szOk 8 (l.map entV) = true := by
 simp only [szOk, List.all_map, List.all_eq_true]
 intro x _
 rfl
section
variable {Γ : Glob} {m : Store}
end
def logB (nn : Bool) (x : Lg) : Blk := .var 56 [it x.b, bs x.c, zbH nn x.l]
theorem nb_logB (nn : Bool) (x : Lg) : nbB 0 (logB nn x) := by
 have := zbi (k := 0) nn x.l
 simp only [logB, this, nbS]
theorem oneV_ents {nn : Bool} {l : List Ent} : oneV (zbH nn l) = true := (rfl)
section
variable {Γ : Glob} {m : Store}
end
theorem nameB_eq (b : UInt8) (r : List UInt8) : nameB (b :: r) = (decide ((b :: r).length ≤ 20) && let8 b && !(zaN.contains (b :: r)) && r.all fun x => let8 x || dig x) := by
 have hall : ∀ l : List UInt8, decide ((l.takeWhile fun x => let8 x || dig x).length = l.length) = l.all fun x => let8 x || dig x := by
  intro l
  induction l with
  | nil => rfl
  | cons x l ih =>
   rw [List.takeWhile_cons, List.all_cons]
   cases hx : (let8 x || dig x)
   ·simp
   ·simp only [if_true, ze1, zfG, Nat.add_right_cancel_iff]
    exact ih
 have hd : let8 b = true → dig b = false := by
  intro h
  cases hd : dig b
  ·rfl
  ·simp only [let8, dig, zfC, ze2, decide_eq_true_eq, beq_iff_eq] at h hd
   omega
 simp only [nameB, hall, List.all_cons, List.headD_cons, show ((b :: r) == []) = false from rfl, ze4, zfG]
 cases h1 : let8 b
 ·cases dig b <;> cases zaN.contains (b :: r) <;> simp
 ·rw [hd h1]
  cases zaN.contains (b :: r) <;> simp
section
variable {Γ : Glob} {m : Store}
theorem rClient_ok (n : Int) : zae Tryz.prog Γ 120 [it n] m fun o m' => o = .ret (.val (.bool (zb7 n))) ∧ m' = m := by
 refine zaO (zaP mixed F120_ok F120_h zaB (by first | exact LR.nil | simp only [nbS]) ?_)
 simp only [F120, ss0, ze0, zeV]
 simp only [ge_iff_le, ssH, zeV, zeT, reduceIte, zeU, zeZ, zeX, zeY]
 cases h : decide (1 ≤ n)
 ·simp only [h, ssH, zeV, zeT, reduceIte, zeU, zeZ, zeX, zeY]
  exact zaf zac ⟨(by simp only [zaa, zab, nbS]), by simp only [zb7, h]; rfl⟩
 ·simp only [h, ssH, zeV, zeT, reduceIte, zeU, zeZ, zeX, zeY]
  exact zaf zac ⟨(by simp only [zaa, zab, nbS]), by simp only [zb7, h]; rfl⟩
theorem rName3_ok (s : List UInt8) : zae Tryz.prog Γ 121 [bs s] m fun o m' => o = .ret (.val (.bool (nameB s))) ∧ m' = m := by
 refine zaO (zaP mixed F121_ok F121_h zaB (by first | exact LR.nil | simp only [nbS]) ?_)
 simp only [F121, ss0, ze0, zeV]
 simp only [zcr, gt_iff_lt, ssH, zeV, zeT, reduceIte, zeU, zeZ, zeX, zeY]
 cases s with
 | nil =>
  simp only [show decide ((([] : List UInt8).length : Int) < 1) = true from rfl, zfb, show decide (((0 : Nat) : Int) < 1) = true from rfl, ssH, zeV, zeT, reduceIte, zeU, zeZ, zeX, zeY]
  exact zaf zac ⟨(by simp only [zaa, zab, nbS]), rfl⟩
 | cons b r =>
  rw [nameB_eq]
  have hx : idxStrV (bs (b :: r)) (.val (.int .i64 0)) = some (by8 b) := zby (i := 0) rfl
  have hd1 : decide ((((b :: r).length : Nat) : Int) < 1) = false := by simp only [ze1]; exact decide_eq_false (by omega)
  have hd1' : decide (((r.length + 1 : Nat) : Int) < 1) = false := decide_eq_false (by omega)
  by_cases hl : (b :: r).length ≤ 20
  ·have hd2 : decide ((20 : Int) < ((r.length + 1 : Nat) : Int)) = false := by simp only [ze1] at hl; exact decide_eq_false (by omega)
   have hl2 : decide ((b :: r).length ≤ 20) = true := decide_eq_true hl
   rw [hl2, zfG]
   simp only [hd1, hd1', hd2, hx, ssH, zeV, zeT, reduceIte, zeU, zeZ, zeX, zeY]
   refine zar (by exact fun m => zdJ b) (by first | exact LR.nil | simp only [nbS]) (by first | exact LR.nil | simp only [nbS]) ?_
   cases h1 : let8 b
   ·simp only [ze4, ssH, zeV, zeT, reduceIte, zeU, zeZ, zeX, zeY]
    exact zaf zac ⟨(by simp only [zaa, zab, nbS]), rfl⟩
   ·simp only [ze6, ssH, zeV, zeT, reduceIte, zeU, zeZ, zeX, zeY]
    refine zar (by exact fun m => refWord_ok (b :: r)) (by first | exact LR.nil | simp only [nbS]) (by first | exact LR.nil | simp only [nbS]) ?_
    cases h2 : zaN.contains (b :: r)
    case true =>
     simp only [ssH, zeV, zeT, reduceIte, zeU, zeZ, zeX, zeY]
     exact zaf zac ⟨(by simp only [zaa, zab, nbS]), rfl⟩
    simp only [ze4, zfG, ssH, zeV, zeT, reduceIte, zeU, zeZ, zeX, zeY]
    refine zdv [0, 3] 40 (fun n vs h => ∃ i : Nat, vs = [bs (b :: r), it (i + 1 : Nat)] ∧ i + n = r.length + 1 ∧ i ≤ r.length ∧ (r.take i).all (fun x => let8 x || dig x) = true) (r.length + 1) (by decide) (by decide) (zfd 0) (zaC rfl (zfj _) (by decide) (by simp) (by show nbs 0 [bs (b :: r), it 1]; simp only [nbS]) (fun a ha => by omega) ⟨0, rfl, by omega, by omega, by simp⟩) ?_
    rintro n t h J hJ hlt ⟨i, hv, hn, hi, hpre⟩
    simp only [zfx, List.cons.injEq, and_true] at hv
    obtain ⟨g0, g3⟩ := hv
    rw [t_eq hlt]
    simp only [zat, upTo, g0, g3, zcr, ssH, zeV, zeT, reduceIte, zeU, zeZ, zeX, zeY]
    by_cases hil : i < r.length
    ·have hx2 : (b :: r)[i + 1]? = some r[i] := by simp [ze8 hil]
     have hx3 : r[i]? = some r[i] := ze8 hil
     generalize r[i] = c at hx2 hx3
     have hany : (r.take (i + 1)).all (fun x => let8 x || dig x) = (let8 c || dig c) := by
      rw [zfh, hx3, List.all_append, hpre]
      simp
     have hfin : (let8 c || dig c) = false → r.all (fun x => let8 x || dig x) = false := by
      intro hc
      rw [List.all_eq_false]
      exact ⟨c, zfy hx3, by simpa using hc⟩
     simp only [show decide (((i + 1 : Nat) : Int) < ((r.length + 1 : Nat) : Int)) = true from decide_eq_true (by omega), zby hx2, ssH, zeV, zeT, reduceIte, zeU, zeZ, zeX, zeY]
     refine zar (by exact fun m => zdJ c) (by first | exact LR.nil | simp only [nbS]) (by first | exact LR.nil | simp only [nbS]) ?_
     cases h3 : let8 c
     ·simp only [ze4, zby hx2, ssH, zeV, zeT, reduceIte, zeU, zeZ, zeX, zeY]
      refine zar (by exact fun m => zeF c) (by first | exact LR.nil | simp only [nbS]) (by first | exact LR.nil | simp only [nbS]) ?_
      cases h4 : dig c
      ·simp only [ze4, ssH, zeV, zeT, reduceIte, zeU, zeZ, zeX, zeY]
       exact zaf zac ⟨(by simp only [zaa, zab, nbS]), by rw [hfin (by rw [h3, h4]; rfl)]; rfl⟩
      ·simp only [ze6, zaq (show i + 1 < 4611686018427387904 by simp only [ze1] at hl; omega), ssH, zeV, zeT, reduceIte, zeU, zeZ, zeX, zeY]
       refine ⟨_, hJ (n - 1) (zfd 0) _ (by omega) (zaC rfl (zfj _) (by decide) (by simp) (by show nbs 0 [bs (b :: r), it (i + 1 + 1 : Nat)]; simp only [nbS]) (fun a ha => by omega) ⟨i + 1, rfl, by omega, by omega, by rw [hany, h3, h4]; rfl⟩)⟩
     ·simp only [ze6, zaq (show i + 1 < 4611686018427387904 by simp only [ze1] at hl; omega), ssH, zeV, zeT, reduceIte, zeU, zeZ, zeX, zeY]
      refine ⟨_, hJ (n - 1) (zfd 0) _ (by omega) (zaC rfl (zfj _) (by decide) (by simp) (by show nbs 0 [bs (b :: r), it (i + 1 + 1 : Nat)]; simp only [nbS]) (fun a ha => by omega) ⟨i + 1, rfl, by omega, by omega, by rw [hany, h3]; rfl⟩)⟩
    ·simp only [show decide (((i + 1 : Nat) : Int) < ((r.length + 1 : Nat) : Int)) = false from decide_eq_false (by omega), ssH, zeV, zeT, reduceIte, zeU, zeZ, zeX, zeY]
     rw [List.take_of_length_le (by omega)] at hpre
     exact zaf zac ⟨(by simp only [zaa, zab, nbS]), by rw [hpre]; rfl⟩
  ·have hd2 : decide ((20 : Int) < ((r.length + 1 : Nat) : Int)) = true := by simp only [ze1] at hl; exact decide_eq_true (by omega)
   have hl2 : decide ((b :: r).length ≤ 20) = false := decide_eq_false hl
   rw [hl2]
   simp only [hd1, hd1', hd2, Bool.false_and, ssH, zeV, zeT, reduceIte, zeU, zeZ, zeX, zeY]
   exact zaf zac ⟨(by simp only [zaa, zab, nbS]), rfl⟩
end
def lg0 : Lg := ⟨0, [], []⟩
section
variable {Γ : Glob} {m : Store}
end
theorem nbB_one {k : Nat} {A : Blk} {r : Hl} (hA : nbB k A) : ∀ a < 1, ∀ x, lk (some A :: r) a = some x → nbB k x := by
 intro a ha x hx
 have : a = 0 := by omega
 subst this
 cases hx
 exact hA
theorem nbs_cm (a b : Int) (c : List UInt8) : nbs 0 [.agg [it a, it b, bs c]] := by simp only [nbS]
section
variable {Γ : Glob} {m : Store}
set_option maxHeartbeats 6400000 in
theorem rRight19_ok (e : Ent) : zae Tryz.prog Γ 87 [entV e] m fun o m' => o = .ret (.val (.bool (entB e))) ∧ m' = m := by
 obtain ⟨c, q, k, n, s, ck, cn, cs⟩ := e
 refine zaO (zaP mixed F87_ok F87_h zaB (by simp only [entV, nbS]) ?_)
 simp only [F87, entV, ss0, ze0, zeV]
 simp only [zaE, ssH, zeV, zeT, reduceIte, zeU, zeZ, zeX, zeY]
 refine zar (by exact fun m => rClient_ok c) (by first | exact LR.nil | simp only [nbS]) (by first | exact LR.nil | simp only [nbS]) ?_
 have hk : k = 1 ∨ k = 4 ∨ k = 2 ∨ k = 3 ∨ k = 5 ∨ k = 6 ∨ k = 7 ∨ (k ≠ 1 ∧ k ≠ 4 ∧ k ≠ 2 ∧ k ≠ 3 ∧ k ≠ 5 ∧ k ≠ 6 ∧ k ≠ 7) := by omega
 cases h1 : zb7 c
 ·simp only [ze4, ssH, zeV, zeT, reduceIte, zeU, zeZ, zeX, zeY]
  exact zaf zac ⟨(by simp only [zaa, zab, nbS]), by simp [tget, entB, h1]⟩
 simp only [ze6, ssH, zeV, zeT, reduceIte, zeU, zeZ, zeX, zeY]
 refine zar (by exact fun m => rClient_ok q) (by first | exact LR.nil | simp only [nbS]) (by first | exact LR.nil | simp only [nbS]) ?_
 cases h2 : zb7 q
 ·simp only [ze4, ssH, zeV, zeT, reduceIte, zeU, zeZ, zeX, zeY]
  exact zaf zac ⟨(by simp only [zaa, zab, nbS]), by simp [tget, entB, h2]⟩
 simp only [ze6, ssH, zeV, zeT, reduceIte, zeU, zeZ, zeX, zeY]
 rcases hk with rfl | rfl | rfl | rfl | rfl | rfl | rfl | ⟨n1, n4, n2, n3, n5, n6, n7⟩
 case inr.inr.inr.inr.inr.inr.inr =>
  have b7 : (k != 7) = true := by simpa using n7
  have b1 : (k != 1) = true := by simpa using n1
  cases h5 : decide (ck = 0 ∧ cn = 0 ∧ cs = []) <;> cases h3 : (s == []) <;> simp only [b7, b1, zdW, h5, bs_ne0, h3, ze6, ze4, ssH, zeV, zeT, reduceIte, zeU, zeZ, zeX, zeY]
  case true.true =>
   simp only [show (k == 1) = false by simpa using n1, show (k == 4) = false by simpa using n4, show (k == 2) = false by simpa using n2, show (k == 3) = false by simpa using n3, show (k == 5) = false by simpa using n5, show (k == 6) = false by simpa using n6, show (k == 7) = false by simpa using n7, ssH, zeV, zeT, reduceIte, zeU, zeZ, zeX, zeY]
   exact zaf zac ⟨(by simp only [zaa, zab, nbS]), by simp [tget, entB, n1, n2, n3, n4, n5, n6, n7]⟩
  all_goals exact zaf zac ⟨(by simp only [zaa, zab, nbS]), by simp [tget, entB, n1, n2, n3, n4, n5, n6, n7]⟩
 case inr.inr.inr.inr.inr.inr.inl =>
  cases h3 : (s == []) <;> cases h4 : (n == 0) <;> simp only [bs_ne0, h3, h4, ze6, ze4, ssH, zeV, zeT, reduceIte, zeU, zeZ, zeX, zeY]
  case true.true =>
   refine zar (by exact fun m => kRight_ok ck cn cs) (nbs_cm _ _ _) (by first | exact LR.nil | simp only [nbS]) ?_
   simp only [ssH, zeV, zeT, reduceIte, zeU, zeZ, zeX, zeY]
   exact zaf zac ⟨(by simp only [zaa, zab, nbS]), by simp only [zaa, zab, entB, h1, h2, h3, h4]; rfl⟩
  all_goals exact zaf zac ⟨(by simp only [zaa, zab, nbS]), by simp only [zaa, zab, entB, h1, h2, h3, h4]; rfl⟩
 case inl =>
  cases h5 : decide (ck = 0 ∧ cn = 0 ∧ cs = [])
  ·simp only [zdW, h5, ze4, ssH, zeV, zeT, reduceIte, zeU, zeZ, zeX, zeY]
   exact zaf zac ⟨(by simp only [zaa, zab, nbS]), by simp only [zaa, zab, entB, noCmd, h1, h2, h5, Bool.and_false]; rfl⟩
  ·simp only [zdW, h5, ze6, ssH, zeV, zeT, reduceIte, zeU, zeZ, zeX, zeY]
   refine zar (by exact fun m => rName3_ok s) (by first | exact LR.nil | simp only [nbS]) (by first | exact LR.nil | simp only [nbS]) ?_
   cases h3 : nameB s <;> cases h4 : (n == 0) <;> cases h6 : (n == 1) <;> simp only [h4, h6, ssH, zeV, zeT, reduceIte, zeU, zeZ, zeX, zeY] <;> exact zaf zac ⟨(by simp only [zaa, zab, nbS]), by simp only [zaa, zab, entB, noCmd, h1, h2, h3, h4, h5, h6]; rfl⟩
 case inr.inl =>
  cases h5 : decide (ck = 0 ∧ cn = 0 ∧ cs = []) <;> cases h3 : (s == []) <;> simp only [zdW, h5, bs_ne0, h3, ze6, ze4, ssH, zeV, zeT, reduceIte, zeU, zeZ, zeX, zeY]
  case true.true =>
   refine zar (by exact fun m => rClient_ok n) (by first | exact LR.nil | simp only [nbS]) (by first | exact LR.nil | simp only [nbS]) ?_
   simp only [ssH, zeV, zeT, reduceIte, zeU, zeZ, zeX, zeY]
   exact zaf zac ⟨(by simp only [zaa, zab, nbS]), by simp only [zaa, zab, entB, noCmd, h1, h2, h3, h5]; cases zb7 n <;> rfl⟩
  all_goals exact zaf zac ⟨(by simp only [zaa, zab, nbS]), by simp only [zaa, zab, entB, noCmd, h1, h2, h3, h5, Bool.and_false]; rfl⟩
 all_goals
  cases h5 : decide (ck = 0 ∧ cn = 0 ∧ cs = []) <;> cases h3 : (s == []) <;> cases h4 : (n == 0) <;> simp only [zdW, h4, h5, bs_ne0, h3, ze6, ze4, ssH, zeV, zeT, reduceIte, zeU, zeZ, zeX, zeY] <;> exact zaf zac ⟨(by simp only [zaa, zab, nbS]), by simp only [zaa, zab, entB, noCmd, h1, h2, h3, h4, h5, Bool.and_false]; rfl⟩
theorem rRight20_ok (nn : Bool) (x : Lg) : zae Tryz.prog Γ 53 [lgV nn x] m fun o m' => o = .ret (.val (.bool (lgB x))) ∧ m' = m := by
 obtain ⟨b, c, l⟩ := x
 have hnb := nb_lgV (k := 0) nn ⟨b, c, l⟩
 have hnl := zbi (k := 0) nn l
 have hlb := nb_logB nn ⟨b, c, l⟩
 have hno : lgB ⟨b, c, l⟩ ≠ true → V.val (.bool false) = .val (.bool (lgB ⟨b, c, l⟩)) := fun h => by rw [Bool.eq_false_iff.2 h]
 refine zaO (zaP mixed F53_ok F53_h zaB (by simp only [hnb, nbS]) ?_)
 simp only [F53, lgV, ss0, ze0, zeV]
 simp only [zbH, zfk, gt_iff_lt, bs_eq0, zaE, ssH, zeV, zeT, reduceIte, zeU, zeZ, zeX, zeY]
 by_cases h1 : b < 0
 ·simp only [decide_eq_true h1, ssH, zeV, zeT, reduceIte, zeU, zeZ, zeX, zeY]
  exact zaf zac ⟨(by simp only [zaa, zab, nbS]), hno fun h => by simp only [lgB, ze2, decide_eq_true_eq] at h; omega⟩
 simp only [decide_eq_false h1, ssH, zeV, zeT, reduceIte, zeU, zeZ, zeX, zeY]
 by_cases h2 : 2147483647 < b
 ·simp only [decide_eq_true h2, ssH, zeV, zeT, reduceIte, zeU, zeZ, zeX, zeY]
  exact zaf zac ⟨(by simp only [zaa, zab, nbS]), hno fun h => by simp only [lgB, ze2, decide_eq_true_eq] at h; omega⟩
 simp only [decide_eq_false h2, ssH, zeV, zeT, reduceIte, zeU, zeZ, zeX, zeY]
 by_cases h3 : (65536 : Int) < (c.length : Int)
 ·simp only [decide_eq_true h3, ssH, zeV, zeT, reduceIte, zeU, zeZ, zeX, zeY]
  exact zaf zac ⟨(by simp only [zaa, zab, nbS]), hno fun h => by simp only [lgB, ze2, decide_eq_true_eq] at h; omega⟩
 simp only [decide_eq_false h3, neq_bool, bs_eq0, ssH, zeV, zeT, reduceIte, zeU, zeZ, zeX, zeY]
 cases h4 : ((c == []) != (b == 0))
 case true =>
  simp only [ssH, zeV, zeT, reduceIte, zeU, zeZ, zeX, zeY]
  refine zaf zac ⟨(by simp only [zaa, zab, nbS]), hno fun h => ?_⟩
  simp only [lgB, ze2, beq_iff_eq] at h
  rw [h.1.1.1.2] at h4
  simp at h4
 simp only [zfk, gt_iff_lt, ssH, zeV, zeT, reduceIte, zeU, zeZ, zeX, zeY]
 by_cases h5 : (64 : Int) < (l.length : Int)
 ·simp only [decide_eq_true h5, ssH, zeV, zeT, reduceIte, zeU, zeZ, zeX, zeY]
  exact zaf zac ⟨(by simp only [zaa, zab, nbS]), hno fun h => by simp only [lgB, ze2, decide_eq_true_eq] at h; omega⟩
 have hw : IntKind.i64.wrap (2147483647 - b) = 2147483647 - b := wrap_i64 (by omega) (by omega)
 simp only [decide_eq_false h5, zfk, gt_iff_lt, hw, ssH, zeV, zeT, reduceIte, zeU, zeZ, zeX, zeY]
 by_cases h6 : 2147483647 - b < (l.length : Int)
 ·simp only [decide_eq_true h6, ssH, zeV, zeT, reduceIte, zeU, zeZ, zeX, zeY]
  exact zaf zac ⟨(by simp only [zaa, zab, nbS]), hno fun h => by simp only [lgB, ze2, decide_eq_true_eq] at h; omega⟩
 simp only [decide_eq_false h6, ssH, zeV, zeT, reduceIte, zeU, zeZ, zeX, zeY]
 have hb : lgB ⟨b, c, l⟩ = l.all entB := by
  have h4' : ((c == []) == (b == 0)) = true := by
   revert h4
   cases (c == []) <;> cases (b == 0) <;> simp
  simp only [lgB, h4', decide_eq_true (show (0 : Int) ≤ b by omega), decide_eq_true (show b ≤ 2147483647 by omega), decide_eq_true (show c.length ≤ 65536 by omega), decide_eq_true (show l.length ≤ 64 by omega), decide_eq_true (show (l.length : Int) ≤ 2147483647 - b by omega), zfG]
 rw [hb]
 refine zdv [1, 3] 56 (fun n vs h => ∃ i : Nat, vs = [.ptr 0 0, it i] ∧ h = [some (logB nn ⟨b, c, l⟩)] ∧ i + n = l.length + 1 ∧ i ≤ l.length ∧ (l.take i).all entB = true) (l.length + 1) (by decide) (by decide) (zfd 1) (zaC rfl (Nat.zero_le _) (by decide) (by simp) (by show nbs 1 [.ptr 0 0, it 0]; simp only [nbS]; decide) (nbB_one (by have := zbi (k := 1) nn l; simp only [zbH, nbS] at this; simp only [this, nbS])) ⟨0, rfl, rfl, by omega, by omega, by simp⟩) ?_
 rintro n t h J hJ hlt ⟨i, hv, rfl, hn, hi, hpre⟩
 simp only [zfx, List.cons.injEq, and_true] at hv
 obtain ⟨g1, g3⟩ := hv
 rw [t_eq hlt]
 simp only [zat, upTo, g1, g3, logB, zbH, zfk, ssH, zeV, zeT, reduceIte, zeU, zeZ, zeX, zeY]
 by_cases hil : i < l.length
 ·rw [show decide ((i : Int) < (l.length : Int)) = true by simp; omega]
  have hx : l[i]? = some l[i] := ze8 hil
  generalize l[i] = e at hx
  have hne := zdp (k := 0) e
  have hall : (l.take (i + 1)).all entB = entB e := by
   rw [zfh, hx, List.all_append, hpre]
   simp
  simp only [idx_ent hx, ssH, zeV, zeT, reduceIte, zeU, zeZ, zeX, zeY]
  refine zar (by exact fun m => rRight19_ok e) (by simp only [entV] at hne; simp only [hne, nbS]) (by first | exact LR.nil | simp only [nbS]) ?_
  cases he : entB e
  ·simp only [ze4, ssH, zeV, zeT, reduceIte, zeU, zeZ, zeX, zeY]
   refine zaf zac ⟨(by simp only [zaa, zab, nbS]), ?_⟩
   have : l.all entB = false := by
    rw [List.all_eq_false]
    exact ⟨e, zfy hx, by rw [he]; decide⟩
   rw [this]
   rfl
  ·simp only [ze6, zaq (show i < 4611686018427387904 by omega), ssH, zeV, zeT, reduceIte, zeU, zeZ, zeX, zeY]
   refine ⟨_, hJ (n - 1) (zfd 1) _ (by omega) (zaC rfl (Nat.zero_le _) (by decide) (by simp) (by show nbs 1 [.ptr 0 0, it (i + 1 : Nat)]; simp only [nbS]; decide) (nbB_one (by have := zbi (k := 1) nn l; simp only [zbH, nbS] at this; simp only [this, nbS])) ⟨i + 1, rfl, rfl, by omega, by omega, by rw [hall, he]⟩)⟩
 ·rw [show decide ((i : Int) < (l.length : Int)) = false by simp; omega]
  simp only [ssH, zeV, zeT, reduceIte, zeU, zeZ, zeX, zeY]
  rw [List.take_of_length_le (by omega)] at hpre
  rw [hpre]
  exact zaf zac ⟨(by simp only [zaa, zab, nbS]), rfl⟩
end
end Go.Av.Fn
