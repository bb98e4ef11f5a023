/- The functions that may be gone through over blocks in turn. No condition. -/
import Derived.KernelRfl
import Derived.LaidEql
import Derived.Lib.AppendIntMem
import Derived.Lib.UnsafeStr
import Derived.Lib.VarintBits
import Derived.Lib.VarintDec
import Derived.Lib.Zigzag
import Derived.RowKitTokens
import Derived.Shelf.LaysC
import Derived.Shelf.LaysM
import Derived.Shelf.RegionOpenPlain
import Derived.Shelf.Small.Strs
import Derived.Shelf.Strconv.Clone
import Derived.Shelf.Strconv.Itoa3
import Derived.Shelf.Strconv.ParseIntPublic10
import Derived.Shelf.Strings.Builder1
import Derived.Shelf.Strings.Search1
import Derived.Shelf.Strings.Search2
import Derived.Stop.Asserts
import Derived.Test.YtfanfdflpakjeaaGreatDoorProg
import Derived.WalkKit
import Derived.Test.YtfanfdflpakjeaaGreatDoorTAvX
open Array renaming getElem?_modify → zeM
open Bool renaming eq_iff_iff → zeB, or_eq_true → zeA, and_eq_true → zd6, false_eq_true → zd5, not_true → zd9, not_false → zd8
open List renaming take_add_one → zeh, getElem?_eq_getElem → zd7, mem_singleton → zeG, takeWhile_cons_of_pos → zeo, length_cons → zd4, getElem?_eq_none → zeD, map_append → zeK, drop_eq_getElem_cons → zem, length_map → zed, drop_length → zeE, isPrefixOf → zeO, drop_drop → zex, takeWhile_sublist → zei, length_drop → zeF, getD_eq_getElem?_getD → zeb, mem_cons_self → zee, mem_cons_of_mem → zeg
open Nat renaming reduceSub → zd3, reduceAdd → zdY, reduceLeDiff → zdW, reduceEqDiff → zdX, zero_le → zeQ
open Option renaming toList_some → zeN
namespace Go.Av.Fn
set_option maxRecDepth 100000
theorem F31_h : F31.body.okH [] = true := by kernel_rfl
theorem F39_h : F39.body.okH [] = true := by kernel_rfl
theorem F43_h : F43.body.okH [] = true := by kernel_rfl
theorem F47_h : F47.body.okH [] = true := by kernel_rfl
theorem F63_h : F63.body.okH [] = true := by kernel_rfl
theorem F79_h : F79.body.okH [] = true := by kernel_rfl
theorem F83_h : F83.body.okH [] = true := by kernel_rfl
theorem F87_h : F87.body.okH [] = true := by kernel_rfl
theorem F119_h : F119.body.okH [] = true := by kernel_rfl
theorem F133_h : F133.body.okH [] = true := by kernel_rfl
theorem F156_h : F156.body.okH [] = true := by kernel_rfl
theorem F182_h : F182.body.okH [] = true := by kernel_rfl
theorem F186_h : F186.body.okH [] = true := by kernel_rfl
theorem F210_h : F210.body.okH [] = true := by kernel_rfl
theorem F36_h : F36.body.okH [] = true := by kernel_rfl
theorem F40_h : F40.body.okH [] = true := by kernel_rfl
theorem F44_h : F44.body.okH [] = true := by kernel_rfl
theorem F48_h : F48.body.okH [] = true := by kernel_rfl
theorem F76_h : F76.body.okH [] = true := by kernel_rfl
theorem F80_h : F80.body.okH [] = true := by kernel_rfl
theorem F84_h : F84.body.okH [] = true := by kernel_rfl
theorem F88_h : F88.body.okH [] = true := by kernel_rfl
theorem F120_h : F120.body.okH [] = true := by kernel_rfl
theorem F153_h : F153.body.okH [] = true := by kernel_rfl
theorem F183_h : F183.body.okH [] = true := by kernel_rfl
theorem F211_h : F211.body.okH [] = true := by kernel_rfl
theorem F41_h : F41.body.okH [] = true := by kernel_rfl
theorem F45_h : F45.body.okH [] = true := by kernel_rfl
theorem F53_h : F53.body.okH [] = true := by kernel_rfl
theorem F81_h : F81.body.okH [] = true := by kernel_rfl
theorem F85_h : F85.body.okH [] = true := by kernel_rfl
theorem F89_h : F89.body.okH [] = true := by kernel_rfl
theorem F105_h : F105.body.okH [] = true := by kernel_rfl
theorem F117_h : F117.body.okH [] = true := by kernel_rfl
theorem F121_h : F121.body.okH [] = true := by kernel_rfl
theorem F130_h : F130.body.okH [] = true := by kernel_rfl
theorem F154_h : F154.body.okH [] = true := by kernel_rfl
theorem F212_h : F212.body.okH [] = true := by kernel_rfl
theorem F226_h : F226.body.okH [] = true := by kernel_rfl
theorem F10_h : F10.body.okH [] = true := by kernel_rfl
theorem F42_h : F42.body.okH [] = true := by kernel_rfl
theorem F46_h : F46.body.okH [] = true := by kernel_rfl
theorem F82_h : F82.body.okH [] = true := by kernel_rfl
theorem F86_h : F86.body.okH [] = true := by kernel_rfl
theorem F106_h : F106.body.okH [] = true := by kernel_rfl
theorem F118_h : F118.body.okH [] = true := by kernel_rfl
theorem F155_h : F155.body.okH [] = true := by kernel_rfl
theorem F209_h : F209.body.okH [] = true := by kernel_rfl
theorem F227_h : F227.body.okH [] = true := by kernel_rfl
end Go.Av.Fn
/- Numbers as bytes: shifts, folds and unfolds as the program computes them; the number that bytes begin with. No condition. -/
namespace Go.Av
open Go.Lib
set_option linter.unusedSimpArgs false
set_option linter.unusedVariables false
section
variable {P : Program} {T : TypeId} {xo yo : Operand} {k yk : IntKind} {a b : Int}
end
section
variable {P : Program} {Γ : Glob} {Kp : V → Store → Prop} {l : List Item} {K : St → Prop} {t : List V} {m m' : Store} {d : Option Tmp} {s : List (Tmp × Option (Tmp × Bool) × AOp)}
end
def I64 (n : Int) : Prop := -9223372036854775808 ≤ n ∧ n < 9223372036854775808
end Go.Av
/- Numbers and texts put behind bytes, as the program does. No condition. -/
namespace Go.Av.Fn
set_option linter.unusedSimpArgs false
set_option linter.unusedVariables false
set_option maxRecDepth 10000
open Go.Proofs Go.Lib
end Go.Av.Fn
/- The number that bytes begin with: plain laws. No condition. -/
namespace Go.Av
open Go.Lib
set_option linter.unusedSimpArgs false
set_option linter.unusedVariables false
def numGo : Nat → Nat → List UInt8 → Int × Nat × Int
 | _, _, [] => (0, 0, 3)
 | i, f, c :: s => if i = 9 ∧ c.toNat ≠ 1 then (0, 0, 4)
  else if 128 ≤ c.toNat then numGo (i + 1) (f + c.toNat % 128 * 2 ^ (7 * i)) s
  else if c.toNat = 0 ∧ 0 < i then (0, 0, 4)
  else (unzigzag (f + c.toNat % 128 * 2 ^ (7 * i)), i + 1, 0)
def numL (s : List UInt8) : Int × Nat × Int := numGo 0 0 s
end Go.Av
/- Numbers read, as the program does. No condition. -/
namespace Go.Av.Fn
set_option linter.unusedSimpArgs false
set_option linter.unusedVariables false
set_option maxRecDepth 10000
open Go.Proofs Go.Lib
end Go.Av.Fn
/- The small functions of the layer lex and of its reference: what they answer. No condition. -/
namespace Go.Av.Fn
set_option linter.unusedSimpArgs false
set_option linter.unusedVariables false
open Go.Proofs
def dig (b : UInt8) : Bool := decide (48 ≤ b.toNat) && decide (b.toNat ≤ 57)
def let8 (b : UInt8) : Bool := (decide (97 ≤ b.toNat) && decide (b.toNat ≤ 122)) || (decide (65 ≤ b.toNat) && decide (b.toNat ≤ 90)) || b.toNat == 95
def zbi (b : UInt8) : Bool := let8 b || dig b
theorem or32_nat : ∀ n : Nat, n < 256 → ((decide (IntKind.u8.wrap ((BitVec.ofInt IntKind.u8.bits (n : Int) ||| BitVec.ofInt IntKind.u8.bits 32).toNat : Int) ≥ 97) && decide (IntKind.u8.wrap ((BitVec.ofInt IntKind.u8.bits (n : Int) ||| BitVec.ofInt IntKind.u8.bits 32).toNat : Int) ≤ 122)) || (n : Int) == 95)
  = ((decide (97 ≤ n) && decide (n ≤ 122)) || (decide (65 ≤ n) && decide (n ≤ 90)) || n == 95) := by decide +kernel
section
variable {Γ : Glob} {m : Store}
theorem digit_ok (b : UInt8) : zae Tryz.prog Γ 184 [by8 b] m fun o m' => o = .ret (.val (.bool (dig b))) ∧ m' = m := by
 refine zaf mixed F184_ok (by rintro v m b x _ ⟨⟨⟩, _⟩) ?_
 simp only [F184, ss0, zd3, zdY]
 simp only [ssS, zdY, zdW, reduceIte, zdX]
 refine zaS (fun h => ?_) (fun h => ?_) <;> simp only [h, ssS, zdY, zdW, reduceIte, zdX]
 all_goals refine zaq zad ⟨?_, rfl⟩
 all_goals simp only [zaa, zab, dig]
 ·have h : 48 ≤ b.toNat := by have := of_decide_eq_true h; omega
  have e : decide ((b.toNat : Int) ≤ 57) = decide (b.toNat ≤ 57) := by rw [decide_eq_decide]; omega
  rw [e]
  simp [h]
 ·have h : ¬ 48 ≤ b.toNat := by have := of_decide_eq_false h; omega
  simp [h]
theorem zdI (b : UInt8) : zae Tryz.prog Γ 136 [by8 b] m fun o m' => o = .ret (.val (.bool (dig b))) ∧ m' = m := by
 refine zaf mixed F136_ok (by rintro v m b x _ ⟨⟨⟩, _⟩) ?_
 simp only [F136, ss0, zd3, zdY]
 simp only [ssS, zdY, zdW, reduceIte, zdX]
 refine zaS (fun h => ?_) (fun h => ?_) <;> simp only [h, ssS, zdY, zdW, reduceIte, zdX]
 all_goals refine zaq zad ⟨?_, rfl⟩
 all_goals simp only [zaa, zab, dig]
 ·have h : 48 ≤ b.toNat := by have := of_decide_eq_true h; omega
  have e : decide ((b.toNat : Int) ≤ 57) = decide (b.toNat ≤ 57) := by rw [decide_eq_decide]; omega
  rw [e]
  simp [h]
 ·have h : ¬ 48 ≤ b.toNat := by have := of_decide_eq_false h; omega
  simp [h]
theorem letter_ok (b : UInt8) : zae Tryz.prog Γ 187 [by8 b] m fun o m' => o = .ret (.val (.bool (let8 b))) ∧ m' = m := by
 refine zaf mixed F187_ok (by rintro v m b x _ ⟨⟨⟩, _⟩) ?_
 have key : let8 b = _ := (or32_nat b.toNat (by have := b.toNat_lt; omega)).symm
 simp only [F187, ss0, zd3, zdY]
 simp only [ssS, zdY, zdW, reduceIte, zdX]
 refine zaS (fun h => ?_) (fun h => ?_) <;> simp only [h, ssS, zdY, zdW, reduceIte, zdX]
 ·refine zaS (fun h2 => ?_) (fun h2 => ?_) <;> simp only [h2, ssS, zdY, zdW, reduceIte, zdX]
  all_goals refine zaq zad ⟨?_, rfl⟩
  all_goals simp only [zaa, zab]
  all_goals rw [key, h, h2]
  all_goals rfl
 ·refine zaq zad ⟨?_, rfl⟩
  simp only [zaa, zab]
  rw [key, h]
  rfl
theorem zdd (b : UInt8) : zae Tryz.prog Γ 134 [by8 b] m fun o m' => o = .ret (.val (.bool (let8 b))) ∧ m' = m := by
 refine zaf mixed F134_ok (by rintro v m b x _ ⟨⟨⟩, _⟩) ?_
 simp only [F134, ss0, zd3, zdY]
 simp only [ssS, zdY, zdW, reduceIte, zdX]
 repeat' (refine zaS (fun h => ?_) (fun h => ?_) <;> simp only [h, ssS, zdY, zdW, reduceIte, zdX])
 all_goals refine zaq zad ⟨?_, rfl⟩
 all_goals simp only [zaa, zab, let8]
 all_goals congr 3
 all_goals rw [zeB]
 all_goals simp only [zeA, zd6, decide_eq_true_eq, decide_eq_false_iff_not, beq_iff_eq, true_iff] at *
 all_goals omega
theorem notNl_ok (b : UInt8) : zae Tryz.prog Γ 231 [by8 b] m fun o m' => o = .ret (.val (.bool (b.toNat != 10))) ∧ m' = m := by
 refine zaf mixed F231_ok (by rintro v m b x _ ⟨⟨⟩, _⟩) ?_
 simp only [F231, ss0, zd3, zdY]
 simp only [ssS, zdY, zdW, reduceIte, zdX]
 refine zaq zad ⟨?_, rfl⟩
 simp only [zaa, zab]
 congr 3
 rw [zeB]
 simp
 omega
theorem alnum_ok (b : UInt8) : zae Tryz.prog Γ 232 [by8 b] m fun o m' => o = .ret (.val (.bool (zbi b))) ∧ m' = m := by
 refine zaf mixed F232_ok (by rintro v m b x _ ⟨⟨⟩, _⟩) ?_
 simp only [F232, ss0, zd3, zdY]
 simp only [ssS, zdY, zdW, reduceIte, zdX]
 refine zaj (letter_ok b) ?_
 simp only [ssS, zdY, zdW, reduceIte, zdX]
 refine zaS (fun h => ?_) (fun h => ?_) <;> simp only [h, ssS, zdY, zdW, reduceIte, zdX]
 ·refine zaq zad ⟨?_, rfl⟩
  simp only [zaa, zab, zbi, h, Bool.true_or]
 ·refine zaj (digit_ok b) ?_
  simp only [ssS, zdY, zdW, reduceIte, zdX]
  refine zaq zad ⟨?_, rfl⟩
  simp only [zaa, zab, zbi, h, Bool.false_or]
end
def zaP : List (List UInt8) := [[102, 110], [114, 101, 99, 111, 114, 100], [108, 101, 116], [105, 102], [101, 108, 115, 101], [119, 104, 105, 108, 101], [114, 101, 116, 117, 114, 110], [110, 101, 119], [116, 114, 117, 101], [102, 97, 108, 115, 101]]
def zaI : List (List UInt8) := [[61, 61], [33, 61], [60, 61], [62, 61], [38, 38], [124, 124], [40], [41], [123], [125], [91], [93], [44], [58], [59], [46], [61], [60], [62], [43], [45], [42], [47], [37], [33]]
theorem hasPrefix_ok {Γ : Glob} {m : Store} (s p : List UInt8) : zae Tryz.prog Γ 143 [bs s, bs p] m fun o m' => o = .ret (.val (.bool (p.isPrefixOf s))) ∧ m' = m := by
 refine zaf mixed F143_ok (by rintro v m b x _ ⟨⟨⟩, _⟩) ?_
 simp only [F143, ss0, zd3, zdY]
 simp only [ssS, zdY, zdW, reduceIte, zdX]
 refine zaS (fun h => ?_) (fun h => ?_) <;> simp only [h, ssS, zdY, zdW, reduceIte, zdX]
 ·have hl : p.length ≤ s.length := by have := of_decide_eq_true h; omega
  simp only [slice_upto hl, ssS, zdY, zdW, reduceIte, zdX]
  refine zaq zad ⟨?_, rfl⟩
  simp only [zaa, zab]
  congr 3
  rw [zeB]
  simp only [beq_iff_eq, List.isPrefixOf_iff_prefix]
  rw [List.prefix_iff_eq_take, eq_comm]
 ·refine zaq zad ⟨?_, rfl⟩
  simp only [zaa, zab]
  have hl : ¬ p.length ≤ s.length := by have := of_decide_eq_false h; omega
  congr 3
  rw [zeB]
  simp only [List.isPrefixOf_iff_prefix]
  constructor
  ·intro h; cases h
  ·intro h; exact absurd h.length_le hl
theorem zbF {Γ : Glob} {m : Store} (s p : List UInt8) : zae Tryz.prog Γ 188 [bs s, bs p] m fun o m' => o = .ret (.val (.bool (p.isPrefixOf s))) ∧ m' = m := by
 refine zaf mixed F188_ok (by rintro v m b x _ ⟨⟨⟩, _⟩) ?_
 simp only [F188, ss0, zd3, zdY]
 simp only [ssS, zdY, zdW, reduceIte, zdX]
 refine zaj (hasPrefix_ok s p) ?_
 simp only [ssS, zdY, zdW, reduceIte, zdX]
 refine zaq zad ⟨?_, rfl⟩
 simp only [zaa, zab]
theorem in_ok {Γ : Glob} (l : List (List UInt8)) (s : List UInt8) (more : List V) (tok : Tok) (m : Store) (hl : l.length < 2 ^ 62) : zae Tryz.prog Γ 160 [.sl (l.map bs) more tok, bs s] m fun o m' => o = .ret (.val (.bool (l.contains s))) ∧ m' = m := by
 refine zaf mixed F160_ok (by rintro v m b x _ ⟨⟨⟩, _⟩) ?_
 simp only [F160, ss0, zd3, zdY]
 simp only [ssS, zdY, zdW, reduceIte, zdX]
 refine zbr (fun n st => ∃ i : Nat, n = l.length - i ∧ i ≤ l.length ∧ (∀ x ∈ l.take i, x ≠ s) ∧ st.m = m ∧ st.t.length = 18 ∧ tget st.t 0 = .sl (l.map bs) more tok ∧ tget st.t 1 = bs s ∧ tget st.t 5 = it i) l.length ⟨0, rfl, zeQ _, by simp, rfl, rfl, rfl, rfl, rfl⟩ ?_
 rintro n ⟨t, m1⟩ ⟨i, hn, hi, hpre, hm, hlen, h0, h1, h5⟩
 simp only at hm h0 h1 h5 hlen
 subst hm
 rw [t_eq hlen]
 simp only [zat, zaC, zdY, h0, h1, h5]
 simp only [ssS, zdY, zdW, reduceIte, zdX]
 refine zak (fun h => ?_) (fun h => ?_)
 ·have hlt : i < l.length := by simpa using h
  have hx : idxLV 1 (.sl (l.map bs) more tok) (it i) = some (.elt [bs l[i]]) := zbX (e := bs l[i]) (by simp [hlt]) rfl
  have hw : IntKind.i64.wrap ((i : Int) + 1) = ((i + 1 : Nat) : Int) := by
   rw [wrap_i64 (by omega) (by omega)]
   rfl
  simp only [hx, ssS, zdY, zdW, reduceIte, zdX]
  refine zak (fun h => ?_) (fun h => ?_)
  ·simp only [ssS, zdY, zdW, reduceIte, zdX]
   have : l[i] = s := by simpa using h
   refine zaq zad ⟨?_, rfl⟩
   simp only [zaa, zab]
   rw [List.contains_iff_mem.2 (by rw [← this]; exact List.getElem_mem _)]
  ·simp only [hw, ssS, zdY, zdW, reduceIte, zdX]
   refine ⟨l.length - (i + 1), by omega, i + 1, rfl, hlt, ?_, rfl⟩
   intro x hx
   rw [zeh] at hx
   rcases List.mem_append.1 hx with hx | hx
   ·exact hpre x hx
   ·simp only [zd7 hlt, zeN, zeG] at hx
    subst hx
    simpa using h
 ·have hge : i = l.length := by
   have : ¬ i < l.length := by simpa using h
   omega
  simp only [ssS, zdY, zdW, reduceIte, zdX]
  refine zaq zad ⟨?_, rfl⟩
  simp only [zaa, zab]
  rw [hge, List.take_length] at hpre
  have : l.contains s = false := by
   simp only [List.contains_eq_mem, decide_eq_false_iff_not]
   exact fun hm => hpre s hm rfl
  rw [this]
theorem Word_ok {Γ : Glob} {m : Store} (hΓ : Γ 3 = some (zaP.map bs)) (s : List UInt8) : zae Tryz.prog Γ 158 [bs s] m fun o m' => o = .ret (.val (.bool (zaP.contains s))) ∧ m' = m := by
 refine zaf mixed F158_ok (by rintro v m b x _ ⟨⟨⟩, _⟩) ?_
 simp only [F158, ss0, zd3, zdY]
 simp only [ssS, zdY, zdW, reduceIte, zdX]
 have hlen10 : zaP.length = 10 := rfl
 refine zbr (fun n st => ∃ i : Nat, n = 10 - i ∧ i ≤ 10 ∧ (∀ x ∈ zaP.take i, x ≠ s) ∧ st.m = m ∧ st.t.length = 13 ∧ tget st.t 0 = bs s ∧ tget st.t 4 = it i) 10 ⟨0, rfl, zeQ _, by simp, rfl, rfl, rfl, rfl⟩ ?_
 rintro n ⟨t, m1⟩ ⟨i, hn, hi, hpre, hm, hlen, h0, h4⟩
 simp only at hm h0 h4 hlen
 subst hm
 rw [t_eq hlen]
 simp only [zat, zaC, zdY, h0, h4]
 simp only [ssS, zdY, zdW, reduceIte, zdX]
 refine zak (fun h => ?_) (fun h => ?_)
 ·have hlt : i < 10 := by have := of_decide_eq_true h; omega
  have hlt' : i < zaP.length := hlt
  have hx : loadV m1 none (.elt ((zaP.map bs).drop (i * 1))) = some (bs (zaP[i]'hlt')) := by
   rw [loadV_drop]
   simp [hlt']
  simp only [ev_global hΓ, idxA_elt hlt, hx, zas (show i < 4611686018427387904 by omega), ssS, zdY, zdW, reduceIte, zdX]
  refine zak (fun h => ?_) (fun h => ?_)
  ·simp only [ssS, zdY, zdW, reduceIte, zdX]
   have : zaP[i]'hlt' = s := by simpa using h
   refine zaq zad ⟨?_, rfl⟩
   simp only [zaa, zab]
   rw [List.contains_iff_mem.2 (by rw [← this]; exact List.getElem_mem _)]
  ·simp only [zas (show i < 4611686018427387904 by omega), ssS, zdY, zdW, reduceIte, zdX]
   refine ⟨10 - (i + 1), by omega, i + 1, rfl, hlt, ?_, rfl⟩
   intro x hx
   rw [zeh] at hx
   rcases List.mem_append.1 hx with hx | hx
   ·exact hpre x hx
   ·simp only [zd7 hlt', zeN, zeG] at hx
    subst hx
    simpa using h
 ·have hge : i = 10 := by have := of_decide_eq_false h; omega
  simp only [ssS, zdY, zdW, reduceIte, zdX]
  refine zaq zad ⟨?_, rfl⟩
  simp only [zaa, zab]
  rw [hge, show 10 = zaP.length from rfl, List.take_length] at hpre
  have : zaP.contains s = false := by
   simp only [List.contains_eq_mem, decide_eq_false_iff_not]
   exact fun hm => hpre s hm rfl
  rw [this]
def signOf (s : List UInt8) : List UInt8 := (zaI.find? fun p => p.isPrefixOf s).getD []
theorem sign_ok {Γ : Glob} {m : Store} (hΓ : Γ 2 = some (zaI.map bs)) (s : List UInt8) : zae Tryz.prog Γ 157 [bs s] m fun o m' => o = .ret (bs (signOf s)) ∧ m' = m := by
 refine zaf mixed F157_ok (by rintro v m b x _ ⟨⟨⟩, _⟩) ?_
 simp only [F157, ss0, zd3, zdY]
 simp only [ssS, zdY, zdW, reduceIte, zdX]
 have hlen25 : zaI.length = 25 := rfl
 refine zbr (fun n st => ∃ i : Nat, n = 25 - i ∧ i ≤ 25 ∧ (∀ x ∈ zaI.take i, x.isPrefixOf s = false) ∧ st.m = m ∧ st.t.length = 16 ∧ tget st.t 0 = bs s ∧ tget st.t 4 = it i) 25 ⟨0, rfl, zeQ _, by simp, rfl, rfl, rfl, rfl⟩ ?_
 rintro n ⟨t, m1⟩ ⟨i, hn, hi, hpre, hm, hlen, h0, h4⟩
 simp only at hm h0 h4 hlen
 subst hm
 rw [t_eq hlen]
 simp only [zat, zaC, zdY, h0, h4]
 simp only [ssS, zdY, zdW, reduceIte, zdX]
 refine zak (fun h => ?_) (fun h => ?_)
 ·have hlt : i < 25 := by have := of_decide_eq_true h; omega
  have hlt' : i < zaI.length := hlt
  have hx : loadV m1 none (.elt ((zaI.map bs).drop (i * 1))) = some (bs (zaI[i]'hlt')) := by
   rw [loadV_drop]
   simp [hlt']
  simp only [ev_global hΓ, idxA_elt hlt, hx, ssS, zdY, zdW, reduceIte, zdX]
  refine zaj (zbF _ _) ?_
  simp only [ssS, zdY, zdW, reduceIte, zdX]
  refine zak (fun h => ?_) (fun h => ?_)
  ·simp only [ev_global hΓ, idxA_elt hlt, hx, ssS, zdY, zdW, reduceIte, zdX]
   refine zaq zad ⟨?_, rfl⟩
   simp only [zaa, zab]
   unfold signOf
   have : zaI.find? (fun p => p.isPrefixOf s) = some (zaI[i]'hlt') := by
    rw [List.find?_eq_some_iff_getElem]
    refine ⟨h, i, hlt', rfl, fun j hj => ?_⟩
    have := hpre (zaI[j]'(by omega)) (List.mem_take_iff_getElem.2 ⟨j, by omega, rfl⟩)
    simp [this]
   rw [this]
   rfl
  ·simp only [zas (show i < 4611686018427387904 by omega), ssS, zdY, zdW, reduceIte, zdX]
   refine ⟨25 - (i + 1), by omega, i + 1, rfl, hlt, ?_, rfl⟩
   intro x hx
   rw [zeh] at hx
   rcases List.mem_append.1 hx with hx | hx
   ·exact hpre x hx
   ·simp only [zd7 hlt', zeN, zeG] at hx
    subst hx
    exact h
 ·have hge : i = 25 := by have := of_decide_eq_false h; omega
  simp only [ssS, zdY, zdW, reduceIte, zdX]
  refine zaq zad ⟨?_, rfl⟩
  simp only [zaa, zab]
  rw [hge, show 25 = zaI.length from rfl, List.take_length] at hpre
  unfold signOf
  have : zaI.find? (fun p => p.isPrefixOf s) = none := by
   rw [List.find?_eq_none]
   intro x hx
   simp [hpre x hx]
  rw [this]
  rfl
end Go.Av.Fn
/- Rows of the reference, runs of bytes: what the functions answer. No condition. -/
namespace Go.Av.Fn
set_option linter.unusedSimpArgs false
set_option linter.unusedVariables false
set_option maxRecDepth 10000
open Go.Proofs
theorem Words_ok {Γ : Glob} {m : Store} : zae Tryz.prog Γ 161 [] m fun o m' => o = .ret (.sl (zaP.map bs) [] .full) ∧ m' = m := by
 refine zaf mixed F161_ok (by rintro v m b x _ ⟨⟨⟩, _⟩) ?_
 simp only [F161, ss0, zd3, zdY]
 simp only [ssS, zdY, zdW, reduceIte, zdX]
 generalize he : zan _ _ _ _ = r
 have hr : r = some (V.sl (zaP.map bs) [] .full) := by
  rw [← he]
  kernel_rfl
 rw [hr]
 simp only [ssS, zdY, zdW, reduceIte, zdX]
 exact zaq zad ⟨rfl, rfl⟩
theorem Signs_ok {Γ : Glob} {m : Store} : zae Tryz.prog Γ 208 [] m fun o m' => o = .ret (.sl (zaI.map bs) [] .full) ∧ m' = m := by
 refine zaf mixed F208_ok (by rintro v m b x _ ⟨⟨⟩, _⟩) ?_
 simp only [F208, ss0, zd3, zdY]
 simp only [ssS, zdY, zdW, reduceIte, zdX]
 generalize he : zan _ _ _ _ = r
 have hr : r = some (V.sl (zaI.map bs) [] .full) := by
  rw [← he]
  kernel_rfl
 rw [hr]
 simp only [ssS, zdY, zdW, reduceIte, zdX]
 exact zaq zad ⟨rfl, rfl⟩
theorem refWord_ok {Γ : Glob} {m : Store} (s : List UInt8) : zae Tryz.prog Γ 135 [bs s] m fun o m' => o = .ret (.val (.bool (zaP.contains s))) ∧ m' = m := by
 refine zaf mixed F135_ok (by rintro v m b x _ ⟨⟨⟩, _⟩) ?_
 simp only [F135, ss0, zd3, zdY]
 simp only [ssS, zdY, zdW, reduceIte, zdX]
 refine zaj Words_ok ?_
 simp only [ssS, zdY, zdW, reduceIte, zdX]
 refine zaj (in_ok zaP s [] .full _ (by decide)) ?_
 simp only [ssS, zdY, zdW, reduceIte, zdX]
 exact zaq zad ⟨rfl, rfl⟩
theorem zaZ {p : UInt8 → Bool} : ∀ {s : List UInt8} {i : Nat}, (∀ x ∈ s.take i, p x = true) → i ≤ s.length → (∀ b, s[i]? = some b → p b = false) → (s.takeWhile p).length = i
 | [], i, _, h, _ => by simp at h; simp [h]
 | a :: s, 0, _, _, h => by
  have := h a rfl
  simp [List.takeWhile, this]
 | a :: s, i + 1, h1, h2, h3 => by
  have ha : p a = true := h1 a (by simp)
  rw [zeo ha, zd4, zaZ (i := i) (fun x hx => h1 x (by simp [hx])) (by simpa using h2) (fun b hb => h3 b (by simpa using hb))]
theorem row_ok {Γ : Glob} {m : Store} {g : FuncId} {caps : List V} {p : UInt8 → Bool} (s : List UInt8) (hs : s.length < 4611686018427387904) (hp : ∀ b, zae Tryz.prog Γ g ([] ++ [by8 b] ++ caps) m fun o m' => o = .ret (.val (.bool (p b))) ∧ m' = m) :
  zae Tryz.prog Γ 185 [bs s, .fn (.func g) [] caps] m fun o m' => o = .ret (it (s.takeWhile p).length) ∧ m' = m := by
 refine zaf mixed F185_ok (by rintro v m b x _ ⟨⟨⟩, _⟩) ?_
 simp only [F185, ss0, zd3, zdY]
 simp only [ssS, zdY, zdW, reduceIte, zdX]
 refine zbr (fun n st => ∃ i : Nat, n = s.length - i ∧ i ≤ s.length ∧ (∀ x ∈ s.take i, p x = true) ∧ st.m = m ∧ st.t.length = 20 ∧ tget st.t 0 = bs s ∧ tget st.t 1 = .fn (.func g) [] caps ∧ tget st.t 5 = it i) s.length ⟨0, rfl, zeQ _, by simp, rfl, rfl, rfl, rfl, rfl⟩ ?_
 rintro n ⟨t, m1⟩ ⟨i, hn, hi, hpre, hm, hlen, h0, h1, h5⟩
 simp only at hm h0 h1 h5 hlen
 subst hm
 rw [t_eq hlen]
 simp only [zat, zaC, zdY, h0, h1, h5]
 simp only [ssS, zdY, zdW, reduceIte, zdX]
 refine zaS (fun h => ?_) (fun h => ?_)
 ·have hlt : i < s.length := by have := of_decide_eq_true h; omega
  have hx : s[i]? = some s[i] := by simp [hlt]
  simp only [h, zbE hx, ssS, zdY, zdW, reduceIte, zdX]
  refine zaj (hp _) ?_
  simp only [ssS, zdY, zdW, reduceIte, zdX]
  refine zak (fun h2 => ?_) (fun h2 => ?_)
  ·simp only [zas (show i < 4611686018427387904 by omega), ssS, zdY, zdW, reduceIte, zdX]
   refine ⟨s.length - (i + 1), by omega, i + 1, rfl, hlt, ?_, rfl⟩
   intro x hx
   rw [zeh] at hx
   rcases List.mem_append.1 hx with hx | hx
   ·exact hpre x hx
   ·simp only [zd7 hlt, zeN, zeG] at hx
    subst hx
    exact h2
  ·simp only [ssS, zdY, zdW, reduceIte, zdX]
   refine zaq zad ⟨?_, rfl⟩
   simp only [zaa, zab]
   rw [zaZ hpre hi (fun b hb => by rw [hx] at hb; cases hb; exact h2)]
 ·have hge : ¬ i < s.length := by have := of_decide_eq_false h; omega
  simp only [h, ssS, zdY, zdW, reduceIte, zdX]
  refine zaq zad ⟨?_, rfl⟩
  simp only [zaa, zab]
  rw [zaZ hpre hi (fun b hb => by rw [zeD (by omega)] at hb; cases hb)]
def markOk (b : Nat) (p : V) : Prop := p = .val (.pointer none) ∨ p = .ptr b 0
def idxB (s : List UInt8) (c : UInt8) : Int := match s.findIdx? (· == c) with
 | some i => i
 | none => -1
structure LibOk (Γ : Glob) : Prop where
 clone : ∀ (m : Store) (s : List UInt8), s.length ≤ 281474976710656 → zae Tryz.prog Γ 131 [bs s] m fun o m' => o = .ret (bs s) ∧ m' = m
 copyCheck : ∀ (m : Store) (b : Nat) (p u : V), m b = some (.var 328 [p, u]) → markOk b p → zae Tryz.prog Γ 251 [.ptr b 0] m fun o m' => o = .ret (.tup []) ∧ m' = m.set b (.var 328 [.ptr b 0, u])
 string : ∀ (m : Store) (b : Nat) (p u : V) (l : List UInt8), m b = some (.var 328 [p, u]) → l.length ≤ 4096 → ((l = [] ∧ u = .sl [] [] .full) ∨ (l ≠ [] ∧ ∃ t k, m t = some (.tip 5 k) ∧ u = .sl (l.map by8) [] (.tip t k))) →
  zae Tryz.prog Γ 241 [.ptr b 0] m fun o m' => o = .ret (bs l) ∧ ∀ c x, m c = some x → (∀ l2 k, u ≠ .sl l2 [] (.tip c k)) → m' c = some x
 indexByte : ∀ (m : Store) (s : List UInt8) (c : UInt8), s.length ≤ 4096 → zae Tryz.prog Γ 242 [bs s, by8 c] m fun o m' => o = .ret (it (idxB s c)) ∧ m' = m
section
variable {Γ : Glob} {m : Store} (L : LibOk Γ)
include L
theorem clone_ok (s : List UInt8) (hs : s.length ≤ 281474976710656) : zae Tryz.prog Γ 110 [bs s] m fun o m' => o = .ret (bs s) ∧ m' = m := by
 refine zaf mixed F110_ok (by rintro v m b x _ ⟨⟨⟩, _⟩) ?_
 simp only [F110, ss0, zd3, zdY]
 simp only [ssS, zdY, zdW, reduceIte, zdX]
 refine zaj (L.clone _ s hs) ?_
 simp only [ssS, zdY, zdW, reduceIte, zdX]
 exact zaq zad ⟨rfl, rfl⟩
def wordTok (s : List UInt8) : List V := [it (if zaP.contains s then 5 else 1), bs s, it 0, it 0, it 0]
def zbU (s : List UInt8) (e : Int) : Int := if zaP.contains s then e else if s.length > 20 then 5 else e
theorem word_ok (hΓ : Γ 3 = some (zaP.map bs)) {xb : Nat} {T : TypeId} {a0 a1 a2 : V} {e : Int} (s : List UInt8) (hs : s.length ≤ 281474976710656) (hx : m xb = some (.var T [a0, a1, a2, it e])) :
  zae Tryz.prog Γ 233 [.ptr xb 0, bs s] m fun o m' => o = .ret (.agg (wordTok s)) ∧ m' = m.set xb (.var T [a0, a1, a2, it (zbU s e)]) := by
 refine zaf mixed F233_ok (by rintro v m b x _ ⟨⟨⟩, _⟩) ?_
 simp only [F233, ss0, zd3, zdY]
 simp only [ssS, zdY, zdW, reduceIte, zdX]
 refine zar fun b hb => ?_
 have hne : xb ≠ b := by
  rintro rfl
  rw [hx] at hb
  cases hb
 have hn : ∀ m' x, (Store.set m' b x) xb = m' xb := fun m' x => Store.set_ne m' x hne
 have hn2 : ∀ m' x, (Store.set m' xb x) b = m' b := fun m' x => Store.set_ne m' x hne.symm
 simp only [ssS, zdY, zdW, reduceIte, zdX]
 refine zaj (Word_ok hΓ s) ?_
 simp only [ssS, zdY, zdW, reduceIte, zdX]
 refine zak (fun h => ?_) (fun h => ?_)
 ·simp only [Store.set_same, ssS, zdY, zdW, reduceIte, zdX]
  refine zaR (v := .agg (wordTok s)) (m' := m.set xb (.var T [a0, a1, a2, it (zbU s e)])) ?_ ?_ ⟨rfl, rfl⟩
  ·rw [resV_cell (b := b) rfl (Store.set_same _ _ _)]
   unfold wordTok
   rw [h]
   rfl
  ·refine drop_set (b := b) (by rw [hn2, hb]) (fun c hc => ?_)
   have : zbU s e = e := by simp only [zbU, h, if_true]
   rw [this, Store.set_eq m hx]
   simp [Store.set, hc]
 ·simp only [ssS, zdY, zdW, reduceIte, zdX]
  refine zak (fun h2 => ?_) (fun h2 => ?_)
  ·have hl : s.length > 20 := by have := of_decide_eq_true h2; omega
   simp only [hn, hx, ssS, zdY, zdW, reduceIte, zdX]
   refine zaj (clone_ok L s hs) ?_
   simp only [Store.set_same, hn2, ssS, zdY, zdW, reduceIte, zdX]
   refine zaR (v := .agg (wordTok s)) (m' := m.set xb (.var T [a0, a1, a2, it (zbU s e)])) ?_ ?_ ⟨rfl, rfl⟩
   ·rw [resV_cell (b := b) rfl (Store.set_same _ _ _)]
    unfold wordTok
    rw [h]
    rfl
   ·refine drop_set (b := b) (by rw [hn2, hb]) (fun c hc => ?_)
    have : zbU s e = 5 := by simp only [zbU, h, hl, if_true]; rfl
    rw [this]
    simp [Store.set, hc]
  ·have hl : ¬ s.length > 20 := by have := of_decide_eq_false h2; omega
   simp only [ssS, zdY, zdW, reduceIte, zdX]
   refine zaj (clone_ok L s hs) ?_
   simp only [Store.set_same, ssS, zdY, zdW, reduceIte, zdX]
   refine zaR (v := .agg (wordTok s)) (m' := m.set xb (.var T [a0, a1, a2, it (zbU s e)])) ?_ ?_ ⟨rfl, rfl⟩
   ·rw [resV_cell (b := b) rfl (Store.set_same _ _ _)]
    unfold wordTok
    rw [h]
    rfl
   ·refine drop_set (b := b) (by rw [hn2, hb]) (fun c hc => ?_)
    have : zbU s e = e := by simp only [zbU, h, hl, if_false]; rfl
    rw [this, Store.set_eq m hx]
    simp [Store.set, hc]
end
section
variable {Γ : Glob} {m : Store} {rb a : Nat} {s : List UInt8} {e : Int}
/-! ### Texts put -/
end
theorem bldLen_ok {Γ : Glob} {m : Store} {b : Nat} {T : TypeId} {p : V} {es more : List V} {tok : Tok} (h : m b = some (.var T [p, .sl es more tok])) : zae Tryz.prog Γ 243 [.ptr b 0] m fun o m' => o = .ret (it es.length) ∧ m' = m := by
 refine zaf mixed F243_ok (by rintro v m b x _ ⟨⟨⟩, _⟩) ?_
 simp only [F243, ss0, zd3, zdY]
 simp only [h, ssS, zdY, zdW, reduceIte, zdX]
 exact zaq zad ⟨rfl, rfl⟩
theorem bldWrite_ok {Γ : Glob} (L : LibOk Γ) {m : Store} {b : Nat} {p u : V} {l : List UInt8} (c : UInt8) (h : m b = some (.var 328 [p, u])) (hp : markOk b p) (hl : l.length ≤ 4096)
  (hu : (l = [] ∧ u = .sl [] [] .full) ∨ (l ≠ [] ∧ ∃ t k, m t = some (.tip 5 k) ∧ u = .sl (l.map by8) [] (.tip t k))) :
  zae Tryz.prog Γ 244 [.ptr b 0, by8 c] m fun o m' => o = .ret (.val .nilIface) ∧ ∃ t k, t ≠ b ∧ (m t = none ∨ ∃ k0, m t = some (.tip 5 k0) ∧ ∃ l0, u = .sl l0 [] (.tip t k0)) ∧ m' = (m.set t (.tip 5 k)).set b (.var 328 [.ptr b 0, .sl ((l ++ [c]).map by8) [] (.tip t k)]) := by
 refine zaf mixed F244_ok (by rintro v m b x _ ⟨⟨⟩, _⟩) ?_
 simp only [F244, ss0, zd3, zdY]
 simp only [ssS, zdY, zdW, reduceIte, zdX]
 refine zaX (L.copyCheck m b p u h hp) ?_
 simp only [Store.set_same, eval_lit1, litV1_val, ssS, zdY, zdW, reduceIte, zdX]
 have hel : elemsOk 1 [by8 c] := by
  intro y hy
  rw [zeG] at hy
  subst hy
  exact ⟨rfl, by intro z hz; simp [V.cells] at hz; subst hz; rfl⟩
 have hst : ∀ {t : Nat} {A B C : Blk}, t ≠ b → ((m.set b A).set t C).set b B = (m.set t C).set b B := by
  intro t A B C ht
  funext c
  simp only [Store.set]
  by_cases e : c = b
  ·simp [e]
  ·simp [e]
 rcases hu with ⟨rfl, rfl⟩ | ⟨hne, t, k, ht, rfl⟩
 ·refine appS_full (by simp) rfl hel (by simp) fun t ht => ?_
  have htb : t ≠ b := by
   rintro rfl
   rw [Store.set_same] at ht
   cases ht
  have hmt : m t = none := by rwa [Store.set_ne _ _ htb] at ht
  have hbt : ∀ m' x, (Store.set m' t x) b = m' b := fun m' x => Store.set_ne m' x htb.symm
  simp only [hbt, Store.set_same, ssS, zdY, zdW, reduceIte, zdX]
  refine zaq zad ⟨rfl, t, 0, htb, .inl hmt, ?_⟩
  rw [hst htb]
  rfl
 ·have htb : t ≠ b := by
   rintro rfl
   rw [h] at ht
   cases ht
  have hbt : ∀ m' x, (Store.set m' t x) b = m' b := fun m' x => Store.set_ne m' x htb.symm
  refine appS_tip (by simp) (by simpa using hne) (by rw [Store.set_ne _ _ htb, ht]) (szOk_by8 l) hel (by simp; omega) ?_
  simp only [hbt, Store.set_same, ssS, zdY, zdW, reduceIte, zdX]
  refine zaq zad ⟨rfl, t, k + 1, htb, .inr ⟨k, ht, _, rfl⟩, ?_⟩
  rw [hst htb, zeK]
  rfl
def qL : List UInt8 → List UInt8 → Nat → Except Int (List UInt8 × Nat)
 | [], _, _ => .error 6
 | c :: r, acc, k =>
  if c.toNat = 34 then .ok (acc, k)
  else if c.toNat < 32 ∨ c.toNat > 126 then .error 6
  else if c.toNat = 92 then match r with
   | [] => .error 6
   | d :: r' => if d.toNat ≠ 92 ∧ d.toNat ≠ 34 ∧ d.toNat ≠ 110 then .error 6 else if acc.length = 255 then .error 5 else qL r' (acc ++ [if d.toNat = 110 then 10 else d]) (k + 2)
  else if acc.length = 255 then .error 5 else qL r (acc ++ [c]) (k + 1)
def qRes (a : Nat) : Except Int (List UInt8 × Nat) → V
 | .ok (l, k) => .tup [bs l, it ((a + k + 2 : Nat) : Int), it 0]
 | .error e => .tup [bs [], it 0, it e]
theorem refQuoted_ok {Γ : Glob} {m : Store} (s : List UInt8) (a : Nat) (ha : a < s.length) (hs : s.length < 4611686018427387904) :
  zae Tryz.prog Γ 207 [bs s, it a] m fun o m' => o = .ret (qRes a (qL (s.drop (a + 1)) [] 0)) ∧ m' = m := by
 refine zaf mixed F207_ok (by rintro v m b x _ ⟨⟨⟩, _⟩) ?_
 simp only [F207, ss0, zd3, zdY]
 simp only [zas (show a < 4611686018427387904 by omega), ssS, zdY, zdW, reduceIte, zdX]
 generalize hres : qL (s.drop (a + 1)) [] 0 = res
 refine zbr (fun n st => ∃ (k : Nat) (acc : List UInt8) (v : V), n = s.length - (a + 1 + k) ∧ a + 1 + k ≤ s.length ∧ acc.length ≤ 255 ∧ qL (s.drop (a + 1 + k)) acc k = res ∧ Buf 5 1 m st.m v (acc.map by8) ∧ st.t.length = 80 ∧ tget st.t 0 = bs s ∧ tget st.t 7 = v ∧ tget st.t 8 = .val (.bool false) ∧ tget st.t 9 = it ((a + 1 + k : Nat) : Int))
  (s.length - (a + 1)) ⟨0, [], _, rfl, by omega, by simp, hres, Buf.start, rfl, rfl, rfl, rfl, rfl⟩ ?_
 rintro n ⟨t, m1⟩ ⟨k, acc, v, hn, hk, hacc, hq, hbuf, hlen, h0, h7, h8, h9⟩
 simp only at hbuf h0 h7 h8 h9 hlen
 rw [t_eq hlen]
 simp only [zat, zaC, zdY, h0, h7, h8, h9]
 simp only [ssS, zdY, zdW, reduceIte, zdX]
 have fin : ∀ {t : List V} {r : Except Int (List UInt8 × Nat)}, res = r → resV [.tmp 4, .tmp 5, .tmp 6] ⟨t, m1⟩ = some (qRes a r) → bodyA [.tmp 4, .tmp 5, .tmp 6] (fun o m' => o = Out.ret (qRes a res) ∧ m' = m) .ret ⟨t, m1⟩ := by
  intro t r h1 h2
  exact zaR h2 hbuf.sub ⟨by rw [h1], rfl⟩
 refine zak (fun h => ?_) (fun h => ?_)
 ·have hlt : a + 1 + k < s.length := by have := of_decide_eq_true h; omega
  have hx : s[a + 1 + k]? = some s[a + 1 + k] := by simp [hlt]
  have hdrop : s.drop (a + 1 + k) = s[a + 1 + k] :: s.drop (a + 1 + k + 1) := zem hlt
  generalize s[a + 1 + k] = c at hx hdrop
  rw [hdrop, qL.eq_def] at hq
  simp only at hq
  simp only [zbE hx, ssS, zdY, zdW, reduceIte, zdX]
  refine condS_mid (M := fun st => ∃ (k' : Nat) (c' : UInt8), st.m = m1 ∧ k ≤ k' ∧ a + 1 + k' < s.length ∧ res = (if acc.length = 255 then .error 5 else qL (s.drop (a + 1 + (k' + 1))) (acc ++ [c']) (k' + 1)) ∧ st.t.length = 80 ∧ tget st.t 0 = bs s ∧ tget st.t 7 = v ∧ tget st.t 8 = .val (.bool false) ∧ tget st.t 9 = it ((a + 1 + k' : Nat) : Int) ∧ tget st.t 10 = by8 c') ?_ ?_
  ·-- what is read is appended
   rintro ⟨t, m2⟩ ⟨k', c', hm2, hkk, hlt', hres', hlen, h0, h7, h8, h9, h10⟩
   simp only at hm2 hlen h0 h7 h8 h9 h10
   subst hm2
   rw [t_eq hlen]
   simp only [zat, zaC, zdY, h0, h7, h8, h9, h10]
   simp only [eval_lit1, litV1_val, ssS, zdY, zdW, reduceIte, zdX]
   refine appS_buf hbuf rfl (by intro c hc; simp [V.cells] at hc; subst hc; rfl) (by simp; omega) fun m3 v3 hb3 => ?_
   obtain ⟨tok3, rfl⟩ := hb3.val
   have hcast : (List.map by8 acc ++ [by8 c']) = List.map by8 (acc ++ [c']) := by simp
   rw [hcast] at hb3 ⊢
   simp only [zas (show a + 1 + k' < 4611686018427387904 by omega), zed, ssS, zdY, zdW, reduceIte, zdX]
   refine zak (fun h => ?_) (fun h => ?_)
   ·have h255 : acc.length = 255 := by have := of_decide_eq_true h; simp at this; omega
    simp only [ssS, zdY, zdW, reduceIte, zdX]
    refine zaR (v := qRes a (.error 5)) ?_ hb3.sub ⟨?_, rfl⟩
    ·rw [zby]
     rfl
    ·rw [hres', if_pos h255]
   ·have h255 : ¬ acc.length = 255 := by have := of_decide_eq_false h; simp at this; omega
    rw [if_neg h255] at hres'
    simp only [zas (show a + 1 + k' < 4611686018427387904 by omega), ssS, zdY, zdW, reduceIte, zdX]
    refine ⟨s.length - (a + 1 + (k' + 1)), by omega, k' + 1, acc ++ [c'], _, rfl, by omega, by simp; omega, hres'.symm, hb3, rfl, ?_⟩
    exact ⟨by rw [h], rfl⟩
  ·obtain ⟨tok, rfl⟩ := hbuf.val
   have six : ∀ {t : List V}, res = .error 6 → tget t 4 = bs [] → tget t 5 = it 0 → tget t 6 = it 6 → bodyA [.tmp 4, .tmp 5, .tmp 6] (fun o m' => o = Out.ret (qRes a res) ∧ m' = m) .ret ⟨t, m1⟩ := by
    intro t h1 h4 h5 h6
    refine fin h1 ?_
    rw [zby, h4, h5, h6]
    rfl
   refine zak (fun h1 => ?_) (fun h1 => ?_)
   ·have e1 : c.toNat = 34 := by have := eq_of_beq h1; omega
    rw [if_pos e1] at hq
    simp only [eval_b2s, b2s_bs, zas (show a + 1 + k < 4611686018427387904 by omega), ssS, zdY, zdW, reduceIte, zdX]
    refine fin hq.symm ?_
    rw [zby]
    simp only [zaa, zab, qRes]
    rw [show a + 1 + k + 1 = a + k + 2 by omega]
   ·have e1 : ¬ c.toNat = 34 := by
     intro e
     rw [e] at h1
     cases h1
    rw [if_neg e1] at hq
    simp only [ssS, zdY, zdW, reduceIte, zdX]
    refine zaS (fun h2 => ?_) (fun h2 => ?_)
    ·have e2 : c.toNat < 32 := by have := of_decide_eq_true h2; omega
     rw [if_pos (.inl e2)] at hq
     simp only [h2, ssS, zdY, zdW, reduceIte, zdX]
     exact six hq.symm rfl rfl rfl
    ·have e2 : ¬ c.toNat < 32 := by have := of_decide_eq_false h2; omega
     simp only [h2, ssS, zdY, zdW, reduceIte, zdX]
     refine zak (fun h3 => ?_) (fun h3 => ?_)
     ·have e3 : c.toNat > 126 := by have := of_decide_eq_true h3; omega
      rw [if_pos (.inr e3)] at hq
      simp only [ssS, zdY, zdW, reduceIte, zdX]
      exact six hq.symm rfl rfl rfl
     ·have e3 : ¬ c.toNat > 126 := by have := of_decide_eq_false h3; omega
      rw [if_neg (by omega)] at hq
      simp only [ssS, zdY, zdW, reduceIte, zdX]
      refine zak (fun h4 => ?_) (fun h4 => ?_)
      ·have e4 : c.toNat = 92 := by have := eq_of_beq h4; omega
       rw [if_pos e4] at hq
       simp only [zas (show a + 1 + k < 4611686018427387904 by omega), ssS, zdY, zdW, reduceIte, zdX]
       refine zaS (fun h5 => ?_) (fun h5 => ?_)
       ·have e5 : a + 1 + k + 1 = s.length := by have := eq_of_beq h5; omega
        rw [e5, zeE] at hq
        simp only [h5, ssS, zdY, zdW, reduceIte, zdX]
        exact six hq.symm rfl rfl rfl
       ·have e5 : a + 1 + k + 1 < s.length := by
         have : ¬ a + 1 + k + 1 = s.length := by
          intro e
          rw [e] at h5
          simp at h5
         omega
        have hx2 : s[a + 1 + k + 1]? = some s[a + 1 + k + 1] := by simp [e5]
        have hdrop2 : s.drop (a + 1 + k + 1) = s[a + 1 + k + 1] :: s.drop (a + 1 + k + 1 + 1) := zem e5
        generalize s[a + 1 + k + 1] = d at hx2 hdrop2
        rw [hdrop2] at hq
        simp only at hq
        have good : (d.toNat = 92 ∨ d.toNat = 34 ∨ d.toNat = 110) → res = (if acc.length = 255 then .error 5 else qL (s.drop (a + 1 + (k + 1 + 1))) (acc ++ [if d.toNat = 110 then 10 else d]) (k + 1 + 1)) := by
         intro hd
         rw [if_neg (by omega)] at hq
         exact hq.symm
        have ne : ∀ {k : Nat}, ¬ d.toNat = k → ((d.toNat : Int) != (k : Int)) = true := by
         intro k hk
         simp only [bne_iff_ne, ne_eq]
         omega
        have nq : ∀ {k : Nat}, ¬ d.toNat = k → ((d.toNat : Int) == (k : Int)) = false := by
         intro k hk
         simp only [beq_eq_false_iff_ne, ne_eq]
         omega
        by_cases d1 : d.toNat = 92
        ·have f1 : ((d.toNat : Int) != 92) = false := by rw [d1]; rfl
         have f2 : ((d.toNat : Int) == 110) = false := nq (k := 110) (by omega)
         have hg := good (.inl d1)
         rw [if_neg (show ¬ d.toNat = 110 by omega)] at hg
         simp only [h5, zbE hx2, f1, f2, ssS, zdY, zdW, reduceIte, zdX]
         exact ⟨k + 1, d, by omega, e5, hg, rfl, rfl⟩
        ·have f1 : ((d.toNat : Int) != 92) = true := ne (k := 92) d1
         by_cases d2 : d.toNat = 34
         ·have f2 : ((d.toNat : Int) != 34) = false := by rw [d2]; rfl
          have f3 : ((d.toNat : Int) == 110) = false := nq (k := 110) (by omega)
          have hg := good (.inr (.inl d2))
          rw [if_neg (show ¬ d.toNat = 110 by omega)] at hg
          simp only [h5, zbE hx2, f1, f2, f3, ssS, zdY, zdW, reduceIte, zdX]
          exact ⟨k + 1, d, by omega, e5, hg, rfl, rfl⟩
         ·have f2 : ((d.toNat : Int) != 34) = true := ne (k := 34) d2
          by_cases d3 : d.toNat = 110
          ·have f3 : ((d.toNat : Int) != 110) = false := by rw [d3]; rfl
           have f4 : ((d.toNat : Int) == 110) = true := by rw [d3]; rfl
           have hg := good (.inr (.inr d3))
           rw [if_pos d3] at hg
           simp only [h5, zbE hx2, f1, f2, f3, f4, ssS, zdY, zdW, reduceIte, zdX]
           exact ⟨k + 1, 10, by omega, e5, hg, rfl, rfl⟩
          ·have f3 : ((d.toNat : Int) != 110) = true := ne (k := 110) d3
           rw [if_pos ⟨d1, d2, d3⟩] at hq
           simp only [h5, zbE hx2, f1, f2, f3, ssS, zdY, zdW, reduceIte, zdX]
           exact six hq.symm rfl rfl rfl
      ·have e4 : ¬ c.toNat = 92 := by
        intro e
        rw [e] at h4
        cases h4
       rw [if_neg e4] at hq
       simp only [ssS, zdY, zdW, reduceIte, zdX]
       exact ⟨k, c, Nat.le_refl k, hlt, hq.symm, rfl, rfl⟩
 ·have hge : a + 1 + k = s.length := by have := of_decide_eq_false h; omega
  simp only [ssS, zdY, zdW, reduceIte, zdX]
  refine fin (r := .error 6) ?_ ?_
  ·rw [← hq, hge, zeE, qL]
  ·rw [zby]
   rfl
theorem idxB3 (d : UInt8) : idxB [92, 34, 110] d = if d.toNat = 92 then 0 else if d.toNat = 34 then 1 else if d.toNat = 110 then 2 else -1 := by
 have key : ∀ c : UInt8, (c == d) = decide (d.toNat = c.toNat) := by
  intro c
  rw [zeB]
  simp only [beq_iff_eq, decide_eq_true_eq]
  constructor
  ·rintro rfl; rfl
  ·intro h; exact UInt8.toNat_inj.1 h.symm
 unfold idxB
 simp only [List.findIdx?_cons, key, List.findIdx?_nil]
 by_cases d1 : d.toNat = 92
 ·simp [d1]
 ·by_cases d2 : d.toNat = 34
  ·simp [d2]
  ·by_cases d3 : d.toNat = 110
   ·simp [d3]
   ·simp [d1, d2, d3]
def Bld (m m' : Store) (b : Nat) (l : List UInt8) : Prop := ∃ p u, m' b = some (.var 328 [p, u]) ∧ markOk b p ∧ (∀ c x, m c = some x → m' c = some x) ∧
 ((l = [] ∧ u = .sl [] [] .full) ∨ (l ≠ [] ∧ ∃ t k, m' t = some (.tip 5 k) ∧ m t = none ∧ u = .sl (l.map by8) [] (.tip t k)))
def quotOut (T : TypeId) (a0 a1 a2 : V) (e0 : Int) (xb : Nat) (m : Store) (r : Except Int (List UInt8 × Nat)) (o : Out) (m' : Store) : Prop := match r with
 | .ok (l, k) => o = .ret (.tup [bs l, it ((k + 2 : Nat) : Int)]) ∧ m' = m
 | .error e => o = .ret (.tup [bs [], it 0]) ∧ m' = m.set xb (.var T [a0, a1, a2, it e])
theorem quoted_ok {Γ : Glob} (L : LibOk Γ) {m : Store} {xb : Nat} {T : TypeId} {a0 a1 a2 : V} {e : Int} (s : List UInt8) (hs : s.length ≤ 4096) (hx : m xb = some (.var T [a0, a1, a2, it e])) :
  zae Tryz.prog Γ 234 [.ptr xb 0, bs s] m fun o m' => quotOut T a0 a1 a2 e xb m (qL s [] 0) o m' := by
 refine zaf mixed F234_ok (by
  rintro v m b x _ h
  exfalso
  unfold quotOut at h
  split at h
  ·cases h.1
  ·cases h.1) ?_
 simp only [F234, ss0, zd3, zdY]
 simp only [ssS, zdY, zdW, reduceIte, zdX]
 refine zar fun b hb => ?_
 simp only [ssS, zdY, zdW, reduceIte, zdX]
 generalize hres : qL s [] 0 = res
 have hxb : xb ≠ b := by
  rintro rfl
  rw [hx] at hb
  cases hb
 have fail : ∀ {t : List V} {m1 : Store} {l : List UInt8} {er : Int}, Bld m m1 b l → res = .error er → resV [.tmp 4, .tmp 5] ⟨t, m1.set xb (.var T [a0, a1, a2, it er])⟩ = some (.tup [bs [], it 0]) →
   bodyA [.tmp 4, .tmp 5] (fun o m' => quotOut T a0 a1 a2 e xb m res o m') .ret ⟨t, m1.set xb (.var T [a0, a1, a2, it er])⟩ := by
  rintro t m1 l er ⟨p, u, h1, h2, h3, h4⟩ hr hv
  refine zaR (m' := m.set xb (.var T [a0, a1, a2, it er])) hv (fun c x hc => ?_) ?_
  ·by_cases e : c = xb
   ·subst e
    rw [Store.set_same] at hc ⊢
    exact hc
   ·rw [Store.set_ne _ _ e] at hc ⊢
    exact h3 c x hc
  ·rw [hr]
   exact ⟨rfl, rfl⟩
 have good : ∀ {t : List V} {m1 : Store} {l : List UInt8} {k : Nat}, (∀ c x, m c = some x → m1 c = some x) → res = .ok (l, k) → resV [.tmp 4, .tmp 5] ⟨t, m1⟩ = some (.tup [bs l, it ((k + 2 : Nat) : Int)]) →
   bodyA [.tmp 4, .tmp 5] (fun o m' => quotOut T a0 a1 a2 e xb m res o m') .ret ⟨t, m1⟩ := by
  intro t m1 l k h3 hr hv
  refine zaR (m' := m) hv h3 ?_
  rw [hr]
  exact ⟨rfl, rfl⟩
 refine zbe (zbR (zbN (n := fun st => ∃ l, Bld m st.m b l ∧ res = .error 6 ∧ st.t.length = 59 ∧ tget st.t 0 = .ptr xb 0) ?_ (fun _ _ h => h))) ?_
 ·rintro ⟨t, m1⟩ ⟨l, hB, hr, hlen, h0⟩
  simp only at hB hlen h0
  have hx1 : m1 xb = some (.var T [a0, a1, a2, it e]) := by
   obtain ⟨_, _, _, _, h3, _⟩ := hB
   exact h3 _ _ hx
  rw [t_eq hlen]
  simp only [zat, zaC, zdY, h0]
  simp only [hx1, ssS, zdY, zdW, reduceIte, zdX]
  exact fail hB hr rfl
 ·refine zbr (fun n st => ∃ (k : Nat) (acc : List UInt8), n = s.length - k ∧ k ≤ s.length ∧ acc.length ≤ 255 ∧ qL (s.drop k) acc k = res ∧ Bld m st.m b acc ∧ st.t.length = 59 ∧ tget st.t 0 = .ptr xb 0 ∧ tget st.t 1 = bs s ∧ tget st.t 6 = .ptr b 0 ∧ tget st.t 7 = it k) s.length
   ⟨0, [], rfl, by omega, by simp, hres, ⟨.val (.pointer none), .sl [] [] .full, Store.set_same _ _ _, .inl rfl, sub_set hb (fun _ _ h => h), .inl ⟨rfl, rfl⟩⟩, rfl, rfl, rfl, rfl, rfl⟩ ?_
  rintro n ⟨t, m1⟩ ⟨k, acc, hn, hk, hacc, hq, hB, hlen, h0, h1, h6, h7⟩
  simp only at hB h0 h1 h6 h7 hlen
  rw [t_eq hlen]
  simp only [zat, zaC, zdY, h0, h1, h6, h7]
  simp only [ssS, zdY, zdW, reduceIte, zdX]
  refine zak (fun h => ?_) (fun h => ?_)
  ·have hlt : k < s.length := by have := of_decide_eq_true h; omega
   have hx2 : s[k]? = some s[k] := by simp [hlt]
   have hdrop : s.drop k = s[k] :: s.drop (k + 1) := zem hlt
   generalize s[k] = c at hx2 hdrop
   rw [hdrop, qL.eq_def] at hq
   simp only at hq
   simp only [zbE hx2, ssS, zdY, zdW, reduceIte, zdX]
   obtain ⟨p, u, hb1, hb2, hb3, hb4⟩ := id hB
   have hu : ∃ tok, u = .sl (acc.map by8) [] tok := by
    rcases hb4 with ⟨rfl, h⟩ | ⟨_, t, k, _, _, h⟩
    ·exact ⟨_, h⟩
    ·exact ⟨_, h⟩
   refine zak (fun h1 => ?_) (fun h1 => ?_)
   ·have e1 : c.toNat = 34 := by have := eq_of_beq h1; omega
    rw [if_pos e1] at hq
    have hw : IntKind.i64.wrap ((k : Int) + 2) = ((k + 2 : Nat) : Int) := by
     rw [wrap_i64 (by omega) (by omega)]
     rfl
    simp only [ssS, zdY, zdW, reduceIte, zdX]
    refine zcv (L.string m1 b p u acc hb1 (by omega) (hb4.imp_right fun ⟨h, t, k, x, _, y⟩ => ⟨h, t, k, x, y⟩)) ?_ (by rintro v m' ⟨⟨⟩, _⟩)
    rintro v m' ⟨hv, hkeep⟩
    cases hv
    simp only [hw, ssS, zdY, zdW, reduceIte, zdX]
    refine good (fun c x hc => hkeep c x (hb3 c x hc) ?_) hq.symm rfl
    rintro l2 k2 hu2
    rcases hb4 with ⟨_, h⟩ | ⟨_, t2, k3, _, h2, h3⟩
    ·rw [h] at hu2; cases hu2
    ·rw [h3] at hu2
     simp only [V.sl.injEq, Tok.tip.injEq] at hu2
     rw [← hu2.2.2.1, h2] at hc
     cases hc
   ·have e1 : ¬ c.toNat = 34 := by
     intro e
     rw [e] at h1
     cases h1
    rw [if_neg e1] at hq
    simp only [ssS, zdY, zdW, reduceIte, zdX]
    refine zaS (fun h2 => ?_) (fun h2 => ?_)
    ·have e2 : c.toNat < 32 := by have := of_decide_eq_true h2; omega
     rw [if_pos (.inl e2)] at hq
     simp only [h2, ssS, zdY, zdW, reduceIte, zdX]
     exact ⟨acc, hB, hq.symm⟩
    ·have e2 : ¬ c.toNat < 32 := by have := of_decide_eq_false h2; omega
     simp only [h2, ssS, zdY, zdW, reduceIte, zdX]
     refine zak (fun h3 => ?_) (fun h3 => ?_)
     ·have e3 : c.toNat > 126 := by have := of_decide_eq_true h3; omega
      rw [if_pos (.inr e3)] at hq
      simp only [ssS, zdY, zdW, reduceIte, zdX]
      exact ⟨acc, hB, hq.symm⟩
     ·have e3 : ¬ c.toNat > 126 := by have := of_decide_eq_false h3; omega
      rw [if_neg (by omega)] at hq
      simp only [ssS, zdY, zdW, reduceIte, zdX]
      refine condS_then (M := fun st => ∃ (k' : Nat) (c' : UInt8), st.m = m1 ∧ k ≤ k' ∧ k' < s.length ∧ res = (if acc.length = 255 then .error 5 else qL (s.drop (k' + 1)) (acc ++ [c']) (k' + 1)) ∧ st.t.length = 59 ∧ tget st.t 0 = .ptr xb 0 ∧ tget st.t 1 = bs s ∧ tget st.t 6 = .ptr b 0 ∧ tget st.t 7 = it k' ∧ tget st.t 8 = by8 c') ?_ ?_
      ·rintro ⟨t, m2⟩ ⟨k', c', hm2, hkk, hlt', hres', hlen, h0, h1, h6, h7, h8⟩
       simp only at hm2 hlen h0 h1 h6 h7 h8
       subst hm2
       rw [t_eq hlen]
       simp only [zat, zaC, zdY, h0, h1, h6, h7, h8]
       simp only [ssS, zdY, zdW, reduceIte, zdX]
       have hu' := hu
       obtain ⟨tok, rfl⟩ := hu'
       refine zaj (bldLen_ok hb1) ?_
       simp only [zed, ssS, zdY, zdW, reduceIte, zdX]
       refine zak (fun h => ?_) (fun h => ?_)
       ·have h255 : acc.length = 255 := by have := eq_of_beq h; omega
        have hx1 := hb3 _ _ hx
        simp only [hx1, ssS, zdY, zdW, reduceIte, zdX]
        exact fail (l := acc) hB (by rw [hres', if_pos h255]) rfl
       ·have h255 : ¬ acc.length = 255 := by
         intro e
         rw [e] at h
         cases h
        rw [if_neg h255] at hres'
        simp only [ssS, zdY, zdW, reduceIte, zdX]
        refine zcv (bldWrite_ok L c' hb1 hb2 (by omega) (hb4.imp_right fun ⟨h, t, k, x, _, y⟩ => ⟨h, t, k, x, y⟩)) ?_ (by rintro v m' ⟨⟨⟩, _⟩)
        rintro v m' ⟨hv, t, j, htb, hmt, rfl⟩
        cases hv
        have hmt0 : m t = none := by
         rcases hmt with h | ⟨k0, h, l0, hl0⟩
         ·cases hm : m t with
          | none => rfl
          | some x => rw [hb3 _ _ hm] at h; cases h
         ·rcases hb4 with ⟨_, h2⟩ | ⟨_, t2, k2, q1, q2, q3⟩
          ·rw [h2] at hl0; cases hl0
          ·rw [q3] at hl0
           simp only [V.sl.injEq, Tok.tip.injEq] at hl0
           rw [← hl0.2.2.1]
           exact q2
        simp only [zas (show k' < 4611686018427387904 by omega), ssS, zdY, zdW, reduceIte, zdX]
        refine ⟨s.length - (k' + 1), by omega, k' + 1, acc ++ [c'], rfl, by omega, by simp; omega, hres'.symm, ⟨.ptr b 0, _, Store.set_same _ _ _, .inr rfl, ?_, .inr ⟨by simp, t, j, ?_, hmt0, rfl⟩⟩, rfl⟩
        ·intro c x hc
         have n1 : c ≠ b := by rintro rfl; rw [hb] at hc; cases hc
         have n2 : c ≠ t := by rintro rfl; rw [hmt0] at hc; cases hc
         rw [Store.set_ne _ _ n1, Store.set_ne _ _ n2]
         exact hb3 c x hc
        ·rw [Store.set_ne _ _ htb, Store.set_same]
      ·refine zak (fun h4 => ?_) (fun h4 => ?_)
       ·have e4 : c.toNat = 92 := by have := eq_of_beq h4; omega
        rw [if_pos e4] at hq
        simp only [zas (show k < 4611686018427387904 by omega), ssS, zdY, zdW, reduceIte, zdX]
        refine zaS (fun h5 => ?_) (fun h5 => ?_)
        ·have e5 : k + 1 = s.length := by have := eq_of_beq h5; omega
         rw [e5, zeE] at hq
         simp only [h5, ssS, zdY, zdW, reduceIte, zdX]
         exact ⟨acc, hB, hq.symm⟩
        ·have e5 : k + 1 < s.length := by
          have : ¬ k + 1 = s.length := by
           intro e
           rw [e] at h5
           simp at h5
          omega
         have hx3 : s[k + 1]? = some s[k + 1] := by simp [e5]
         have hdrop2 : s.drop (k + 1) = s[k + 1] :: s.drop (k + 1 + 1) := zem e5
         generalize s[k + 1] = d at hx3 hdrop2
         rw [hdrop2] at hq
         simp only at hq
         simp only [h5, zbE hx3, ssS, zdY, zdW, reduceIte, zdX]
         refine zaj (L.indexByte m1 [92, 34, 110] d (by decide)) ?_
         have good2 : (d.toNat = 92 ∨ d.toNat = 34 ∨ d.toNat = 110) → res = (if acc.length = 255 then .error 5 else qL (s.drop (k + 1 + 1)) (acc ++ [if d.toNat = 110 then 10 else d]) (k + 1 + 1)) := by
          intro hd
          rw [if_neg (by omega)] at hq
          exact hq.symm
         have nq : ∀ {k : Nat}, ¬ d.toNat = k → ((d.toNat : Int) == (k : Int)) = false := by
          intro k hk
          simp only [beq_eq_false_iff_ne, ne_eq]
          omega
         have hi := idxB3 d
         by_cases d1 : d.toNat = 92
         ·rw [if_pos d1] at hi
          have f2 : ((d.toNat : Int) == 110) = false := nq (k := 110) (by omega)
          have hg := good2 (.inl d1)
          rw [if_neg (show ¬ d.toNat = 110 by omega)] at hg
          have f1 : decide (idxB [92, 34, 110] d < 0) = false := by rw [hi]; rfl
          simp only [f1, zbE hx3, f2, ssS, zdY, zdW, reduceIte, zdX]
          exact ⟨k + 1, d, by omega, e5, hg, rfl, rfl⟩
         ·rw [if_neg d1] at hi
          by_cases d2 : d.toNat = 34
          ·rw [if_pos d2] at hi
           have f2 : ((d.toNat : Int) == 110) = false := nq (k := 110) (by omega)
           have hg := good2 (.inr (.inl d2))
           rw [if_neg (show ¬ d.toNat = 110 by omega)] at hg
           have f1 : decide (idxB [92, 34, 110] d < 0) = false := by rw [hi]; rfl
           simp only [f1, zbE hx3, f2, ssS, zdY, zdW, reduceIte, zdX]
           exact ⟨k + 1, d, by omega, e5, hg, rfl, rfl⟩
          ·rw [if_neg d2] at hi
           by_cases d3 : d.toNat = 110
           ·rw [if_pos d3] at hi
            have f4 : ((d.toNat : Int) == 110) = true := by rw [d3]; rfl
            have hg := good2 (.inr (.inr d3))
            rw [if_pos d3] at hg
            have f1 : decide (idxB [92, 34, 110] d < 0) = false := by rw [hi]; rfl
            simp only [f1, zbE hx3, f4, ssS, zdY, zdW, reduceIte, zdX]
            exact ⟨k + 1, 10, by omega, e5, hg, rfl, rfl⟩
           ·rw [if_neg d3] at hi
            rw [if_pos ⟨d1, d2, d3⟩] at hq
            have f1 : decide (idxB [92, 34, 110] d < 0) = true := by rw [hi]; rfl
            simp only [f1, ssS, zdY, zdW, reduceIte, zdX]
            exact ⟨acc, hB, hq.symm⟩
       ·have e4 : ¬ c.toNat = 92 := by
         intro e
         rw [e] at h4
         cases h4
        rw [if_neg e4] at hq
        simp only [ssS, zdY, zdW, reduceIte, zdX]
        exact ⟨k, c, Nat.le_refl k, hlt, hq.symm, rfl, rfl⟩
  ·have hge : k = s.length := by have := of_decide_eq_false h; omega
   simp only [ssS, zdY, zdW, reduceIte, zdX]
   exact ⟨acc, hB, by rw [← hq, hge, zeE, qL]⟩
def zdy (b : UInt8) : Bool := b.toNat != 10
theorem zcH {p r : List UInt8} (h : p.isPrefixOf r = true) : p.length ≤ r.length := (List.isPrefixOf_iff_prefix.1 h).length_le
theorem slash_run {r : List UInt8} (h : [47, 47].isPrefixOf r = true) : 0 < (r.takeWhile zdy).length := by
 cases r with
 | nil => cases h
 | cons b r =>
  simp only [zeO, zd6, beq_iff_eq] at h
  obtain ⟨rfl, _⟩ := h
  rw [zeo (by decide)]
  simp
def zbt (r : List UInt8) (a l : Nat) : Nat × Nat :=
 if h : [10].isPrefixOf r = true then zbt (r.drop 1) (a + 1) (l + 1)
 else if h2 : ([32].isPrefixOf r || [9].isPrefixOf r) = true then zbt (r.drop 1) (a + 1) l
 else if h3 : [47, 47].isPrefixOf r = true then zbt (r.drop (r.takeWhile zdy).length) (a + (r.takeWhile zdy).length) l
 else (a, l)
termination_by r.length
decreasing_by
 ·have := zcH h
  simp at this ⊢
  omega
 ·have : 1 ≤ r.length := by
   rw [zeA] at h2
   rcases h2 with h2 | h2
   ·simpa using zcH h2
   ·simpa using zcH h2
  simp
  omega
 ·have h4 := slash_run h3
  have h5 := zcH h3
  simp at h5 ⊢
  omega
theorem skip_ok {Γ : Glob} {m : Store} {xb : Nat} {T : TypeId} {e : Int} (s : List UInt8) (a0 l0 : Nat) (ha : a0 ≤ s.length) (hl : l0 + s.length < 4611686018427387904) (hx : m xb = some (.var T [bs s, it a0, it l0, it e])) :
  zae Tryz.prog Γ 217 [.ptr xb 0] m fun o m' => o = .ret (.tup []) ∧ m' = m.set xb (.var T [bs s, it (zbt (s.drop a0) a0 l0).1, it (zbt (s.drop a0) a0 l0).2, it e]) := by
 refine zaf mixed F217_ok (by rintro v m b x _ ⟨⟨⟩, _⟩) ?_
 simp only [F217, ss0, zd3, zdY]
 simp only [ssS, zdY, zdW, reduceIte, zdX]
 refine zbr (fun n st => ∃ a l : Nat, n = s.length - a ∧ a ≤ s.length ∧ l + (s.length - a) < 4611686018427387904 ∧ zbt (s.drop a) a l = zbt (s.drop a0) a0 l0 ∧ st.m = m.set xb (.var T [bs s, it a, it l, it e]) ∧ st.t.length = 55 ∧ tget st.t 0 = .ptr xb 0)
  (s.length - a0) ⟨a0, l0, rfl, ha, by omega, rfl, (Store.set_eq m hx).symm, rfl, rfl⟩ ?_
 rintro n ⟨t, m1⟩ ⟨a, l, hn, hal, hll, hres, hm, hlen, h0⟩
 simp only at hm h0 hlen
 subst hm
 rw [t_eq hlen]
 simp only [zat, zaC, zdY, h0]
 have hsl : zbp (bs s) (some (some (a : Int))) (some none) = some (bs (s.drop a)) := slice_from hal
 simp only [Store.set_same, hsl, ssS, zdY, zdW, reduceIte, zdX]
 refine zaj (zbF _ _) ?_
 simp only [ssS, zdY, zdW, reduceIte, zdX]
 refine zak (fun h => ?_) (fun h => ?_)
 ·have hlt : a < s.length := by have := zcH h; simp at this; omega
  simp only [Store.set_same, Store.set_set, zas (show l < 4611686018427387904 by omega), zas (show a < 4611686018427387904 by omega), ssS, zdY, zdW, reduceIte, zdX]
  refine ⟨s.length - (a + 1), by omega, a + 1, l + 1, rfl, hlt, by omega, ?_, rfl⟩
  rw [← hres, zbt.eq_1 (s.drop a), dif_pos h, zex]
 ·simp only [ssS, zdY, zdW, reduceIte, zdX]
  refine zaj (zbF _ _) ?_
  simp only [ssS, zdY, zdW, reduceIte, zdX]
  have blank : ∀ k, ([32].isPrefixOf (s.drop a) || [9].isPrefixOf (s.drop a)) = true → k = zbt (s.drop (a + 1)) (a + 1) l → k = zbt (s.drop a0) a0 l0 := by
   intro k h2 hk
   rw [← hres, zbt.eq_1 (s.drop a), dif_neg (by rw [h]; simp), dif_pos h2, zex, hk]
  refine zaS (fun h2 => ?_) (fun h2 => ?_)
  ·have hlt : a < s.length := by have := zcH h2; simp at this; omega
   simp only [h2, Store.set_same, Store.set_set, zas (show a < 4611686018427387904 by omega), ssS, zdY, zdW, reduceIte, zdX]
   refine ⟨s.length - (a + 1), by omega, a + 1, l, rfl, hlt, by omega, blank _ (by rw [h2]; rfl) rfl, rfl⟩
  ·simp only [h2, ssS, zdY, zdW, reduceIte, zdX]
   refine zaj (zbF _ _) ?_
   simp only [ssS, zdY, zdW, reduceIte, zdX]
   refine zak (fun h3 => ?_) (fun h3 => ?_)
   ·have hlt : a < s.length := by have := zcH h3; simp at this; omega
    simp only [Store.set_same, Store.set_set, zas (show a < 4611686018427387904 by omega), ssS, zdY, zdW, reduceIte, zdX]
    refine ⟨s.length - (a + 1), by omega, a + 1, l, rfl, hlt, by omega, blank _ (by rw [h3]; simp) rfl, rfl⟩
   ·simp only [ssS, zdY, zdW, reduceIte, zdX]
    refine zaj (zbF _ _) ?_
    simp only [ssS, zdY, zdW, reduceIte, zdX]
    have hno : ¬ ([32].isPrefixOf (s.drop a) || [9].isPrefixOf (s.drop a)) = true := by rw [h2, h3]; simp
    have hno1 : ¬ [10].isPrefixOf (s.drop a) = true := by rw [h]; simp
    refine zak (fun h4 => ?_) (fun h4 => ?_)
    ·simp only [Store.set_same, ssS, zdY, zdW, reduceIte, zdX]
     refine zaj (row_ok (p := zdy) (s.drop a) (by simp; omega) (fun b => notNl_ok b)) ?_
     have hr0 := slash_run h4
     have hr1 : ((s.drop a).takeWhile zdy).length ≤ s.length - a := by
      have := (zei zdy (l := s.drop a)).length_le
      simpa using this
     have hw : IntKind.i64.wrap ((a : Int) + (((s.drop a).takeWhile zdy).length : Int)) = ((a + ((s.drop a).takeWhile zdy).length : Nat) : Int) := by
      rw [wrap_i64 (by omega) (by omega)]
      rfl
     simp only [Store.set_same, Store.set_set, hw, ssS, zdY, zdW, reduceIte, zdX]
     refine ⟨s.length - (a + ((s.drop a).takeWhile zdy).length), by omega, a + ((s.drop a).takeWhile zdy).length, l, rfl, by omega, by omega, ?_, rfl⟩
     rw [← hres, zbt.eq_1 (s.drop a), dif_neg hno1, dif_neg hno, dif_pos h4, zex]
    ·simp only [ssS, zdY, zdW, reduceIte, zdX]
     refine zaq (v := .tup []) rfl ⟨rfl, ?_⟩
     have hno4 : ¬ [47, 47].isPrefixOf (s.drop a) = true := by rw [h4]; simp
     rw [← hres, zbt.eq_1 (s.drop a), dif_neg hno1, dif_neg hno, dif_neg hno4]
def numL : Nat → List UInt8 → Option Nat
 | n, [] => some n
 | n, b :: r => if n > (9223372036854775807 - (b.toNat - 48)) / 10 then none else numL (10 * n + (b.toNat - 48)) r
def numV (s : List UInt8) : Int := match numL 0 s with
 | some n => n
 | none => -1
theorem conv_u8 {n : Int} : convV Tryz.prog 5 3 (.val (.int .u8 n)) = some (.val (.int .i64 (IntKind.i64.wrap n))) := by kernel_rfl
theorem number_ok {Γ : Glob} {m : Store} (s : List UInt8) (hs : s.length < 4611686018427387904) (hd : ∀ b ∈ s, dig b = true) : zae Tryz.prog Γ 206 [bs s] m fun o m' => o = .ret (it (numV s)) ∧ m' = m := by
 refine zaf mixed F206_ok (by rintro v m b x _ ⟨⟨⟩, _⟩) ?_
 simp only [F206, ss0, zd3, zdY]
 simp only [ssS, zdY, zdW, reduceIte, zdX]
 refine zbr (fun n st => ∃ i k : Nat, n = s.length - i ∧ i ≤ s.length ∧ k ≤ 9223372036854775807 ∧ numL k (s.drop i) = numL 0 s ∧ st.m = m ∧ st.t.length = 27 ∧ tget st.t 0 = bs s ∧ tget st.t 3 = it k ∧ tget st.t 4 = it i) s.length ⟨0, 0, rfl, zeQ _, by omega, rfl, rfl, rfl, rfl, rfl, rfl⟩ ?_
 rintro n ⟨t, m1⟩ ⟨i, k, hn, hi, hk, hres, hm, hlen, h0, h3, h4⟩
 simp only at hm h0 h3 h4 hlen
 subst hm
 rw [t_eq hlen]
 simp only [zat, zaC, zdY, h0, h3, h4]
 simp only [ssS, zdY, zdW, reduceIte, zdX]
 refine zak (fun h => ?_) (fun h => ?_)
 ·have hlt : i < s.length := by have := of_decide_eq_true h; omega
  have hx : s[i]? = some s[i] := by simp [hlt]
  have hb := hd s[i] (List.getElem_mem _)
  simp only [dig, zd6, decide_eq_true_eq] at hb
  generalize hbe : s[i] = b at hx hb
  have hw : IntKind.u8.wrap ((b.toNat : Int) - 48) = ((b.toNat - 48 : Nat) : Int) := by
   unfold IntKind.wrap
   simp only [IntKind.bits, IntKind.signed, Bool.false_and, zd5, if_false]
   omega
  have hw2 : IntKind.i64.wrap ((b.toNat - 48 : Nat) : Int) = ((b.toNat - 48 : Nat) : Int) := wrap_i64 (by omega) (by omega)
  have hw3 : IntKind.i64.wrap (9223372036854775807 - ((b.toNat - 48 : Nat) : Int)) = ((9223372036854775807 - (b.toNat - 48) : Nat) : Int) := by
   rw [wrap_i64 (by omega) (by omega)]
   omega
  have hq : Int.tdiv ((9223372036854775807 - (b.toNat - 48) : Nat) : Int) 10 = (((9223372036854775807 - (b.toNat - 48)) / 10 : Nat) : Int) := by
   rw [Int.tdiv_eq_ediv_of_nonneg (by omega)]
   omega
  have hw4 : IntKind.i64.wrap (((9223372036854775807 - (b.toNat - 48)) / 10 : Nat) : Int) = (((9223372036854775807 - (b.toNat - 48)) / 10 : Nat) : Int) := wrap_i64 (by omega) (by omega)
  have hdrop : s.drop i = b :: s.drop (i + 1) := by rw [← hbe]; exact zem hlt
  simp only [zbE hx, hw, eval_conv, conv_u8, hw2, hw3, bin_quo (show (10 : Int) ≠ 0 by decide), hq, hw4, ssS, zdY, zdW, reduceIte, zdX]
  refine zak (fun h2 => ?_) (fun h2 => ?_)
  ·have hg : k > (9223372036854775807 - (b.toNat - 48)) / 10 := by have := of_decide_eq_true h2; omega
   simp only [ssS, zdY, zdW, reduceIte, zdX]
   refine zaq zad ⟨?_, rfl⟩
   simp only [zaa, zab]
   have : numV s = -1 := by
    unfold numV
    rw [← hres, hdrop, numL, if_pos hg]
   rw [this]
  ·have hg : ¬ k > (9223372036854775807 - (b.toNat - 48)) / 10 := by have := of_decide_eq_false h2; omega
   have hw5 : IntKind.i64.wrap (10 * (k : Int)) = ((10 * k : Nat) : Int) := by rw [wrap_i64 (by omega) (by omega)]; rfl
   have hw6 : IntKind.i64.wrap (((10 * k : Nat) : Int) + ((b.toNat - 48 : Nat) : Int)) = ((10 * k + (b.toNat - 48) : Nat) : Int) := by rw [wrap_i64 (by omega) (by omega)]; rfl
   simp only [hw5, hw6, zas (show i < 4611686018427387904 by omega), ssS, zdY, zdW, reduceIte, zdX]
   refine ⟨s.length - (i + 1), by omega, i + 1, 10 * k + (b.toNat - 48), rfl, hlt, by omega, ?_, rfl, rfl⟩
   rw [← hres, hdrop, numL, if_neg hg]
 ·have hge : i = s.length := by have := of_decide_eq_false h; omega
  simp only [ssS, zdY, zdW, reduceIte, zdX]
  refine zaq zad ⟨?_, rfl⟩
  simp only [zaa, zab]
  have : numV s = k := by
   unfold numV
   rw [← hres, hge, zeE, numL]
  rw [this]
end Go.Av.Fn
/- The reference's tokens. No condition. -/
namespace Go.Av.Fn
set_option linter.unusedSimpArgs false
set_option linter.unusedVariables false
set_option maxRecDepth 10000
open Go.Proofs
theorem qL_err {r acc : List UInt8} {k : Nat} {e : Int} (h : qL r acc k = .error e) : e ≠ 0 := by
 fun_induction qL r acc k <;> simp_all <;> (subst h; decide)
def tokL (r : List UInt8) : Except Int (Tk × Nat) := match r with
 | [] => .error 6
 | c :: _ =>
  if let8 c then
   if zaP.contains (r.takeWhile zbi) then .ok (⟨5, r.takeWhile zbi, 0, 0, 0⟩, (r.takeWhile zbi).length)
   else if (r.takeWhile zbi).length > 20 then .error 5 else .ok (⟨1, r.takeWhile zbi, 0, 0, 0⟩, (r.takeWhile zbi).length)
  else if dig c then match numL 0 (r.takeWhile dig) with
   | none => .error 5
   | some n => .ok (⟨2, [], n, 0, 0⟩, (r.takeWhile dig).length)
  else if c.toNat = 34 then match qL (r.drop 1) [] 0 with
   | .error e => .error e
   | .ok (l, k) => .ok (⟨3, l, 0, 0, 0⟩, k + 2)
  else match zaI.find? fun p => p.isPrefixOf r with
   | some p => .ok (⟨4, p, 0, 0, 0⟩, p.length)
   | none => .error 6
def tokOut (a : Nat) (r : Except Int (Tk × Nat)) (o : Out) : Prop := match r with
 | .ok (t, n) => o = .ret (.tup [tkV t, it ((a + n : Nat) : Int), it 0])
 | .error e => e ≠ 0 ∧ ∃ (t : Tk) (w : V), o = .ret (.tup [tkV t, w, it e])
theorem resV_tok {x y z : Nat} {b o : Nat} {T : TypeId} {sz : Option Nat} {cs : List V} {u : V} {t : List V} {m : Store} (h1 : tget t x = .ptr b o) (h2 : m b = some (.var T cs)) (h3 : zbz cs o sz = some u) :
  resV [.cell x sz, .tmp y, .tmp z] ⟨t, m⟩ = some (.tup [u, tget t y, tget t z]) := by
 simp only [resV, zb5, zcc, za8, h1, h2, h3, Option.map_some]
theorem tw_all {p : UInt8 → Bool} : ∀ (r : List UInt8), ∀ x ∈ r.takeWhile p, p x = true
 | [], x, hx => by cases hx
 | b :: r, x, hx => by
  cases hb : p b with
  | true =>
   rw [zeo hb] at hx
   rcases List.mem_cons.1 hx with rfl | hx
   ·exact hb
   ·exact tw_all r x hx
  | false =>
   rw [List.takeWhile_cons_of_neg (by simp [hb])] at hx
   cases hx
theorem takeWhile_take {p : UInt8 → Bool} (r : List UInt8) : r.take (r.takeWhile p).length = r.takeWhile p := by
 induction r with
 | nil => rfl
 | cons b r ih =>
  cases hb : p b with
  | true => rw [zeo hb, zd4, List.take_succ_cons, ih]
  | false => rw [List.takeWhile_cons_of_neg (by simp [hb])]; rfl
theorem refToken_ok {Γ : Glob} {m : Store} (s : List UInt8) (a : Nat) (ha : a < s.length) (hs : s.length < 2305843009213693952) :
  zae Tryz.prog Γ 181 [bs s, it a] m fun o m' => tokOut a (tokL (s.drop a)) o ∧ m' = m := by
 refine zaf mixed F181_ok (by
  rintro v m b x _ ⟨h, _⟩
  exfalso
  unfold tokOut at h
  split at h
  ·cases h
  ·obtain ⟨_, _, _, h⟩ := h
   cases h) ?_
 have hx : s[a]? = some s[a] := by simp [ha]
 have hdrop : s.drop a = s[a] :: s.drop (a + 1) := zem ha
 generalize s[a] = c at hx hdrop
 simp only [F181, ss0, zd3, zdY]
 simp only [ssS, zdY, zdW, reduceIte, zdX]
 refine zar fun b hb => ?_
 simp only [zbE hx, ssS, zdY, zdW, reduceIte, zdX]
 refine zaj (zdd c) ?_
 simp only [ssS, zdY, zdW, reduceIte, zdX]
 have fin : ∀ {t : List V} {m2 : Store} {u : V} {T : TypeId} {cs : List V}, tget t 4 = .ptr b 0 → m2 b = some (.var T cs) → zbz cs 0 (some 5) = some u → (∀ c, c ≠ b → m2 c = m c) → tokOut a (tokL (s.drop a)) (.ret (.tup [u, tget t 5, tget t 6])) →
   bodyA [.cell 4 (some 5), .tmp 5, .tmp 6] (fun o m' => tokOut a (tokL (s.drop a)) o ∧ m' = m) .ret ⟨t, m2⟩ := by
  intro t m2 u T cs h1 h2 h3 h4 h5
  exact zaR (resV_tok h1 h2 h3) (drop_set hb h4) ⟨h5, rfl⟩
 refine zak (fun hc => ?_) (fun hc => ?_)
 ·-- a name or a word
  have hspec : tokL (s.drop a) = if zaP.contains ((s.drop a).takeWhile zbi) then .ok (⟨5, (s.drop a).takeWhile zbi, 0, 0, 0⟩, ((s.drop a).takeWhile zbi).length)
    else if ((s.drop a).takeWhile zbi).length > 20 then .error 5 else .ok (⟨1, (s.drop a).takeWhile zbi, 0, 0, 0⟩, ((s.drop a).takeWhile zbi).length) := by
   rw [hdrop]
   simp only [tokL, hc, if_true]
  simp only [ssS, zdY, zdW, reduceIte, zdX]
  have hL : ((s.drop a).takeWhile zbi).length ≤ s.length - a := by
   have := (zei zbi (l := s.drop a)).length_le
   simpa using this
  have hcut : zbp (bs s) (some (some (a : Int))) (some (some ((a + ((s.drop a).takeWhile zbi).length : Nat) : Int))) = some (bs ((s.drop a).takeWhile zbi)) := by
   rw [slice_bs (by omega) (by omega), List.drop_take, Nat.add_sub_cancel_left, takeWhile_take]
  generalize hW : (s.drop a).takeWhile zbi = W at hspec hL hcut
  refine zbe (zbR (zbN (n := fun st => st.m = m.set b (.var 179 [it 0, bs [], it 0, it 0, it 0]) ∧ st.t.length = 144 ∧ tget st.t 0 = bs s ∧ tget st.t 1 = it a ∧ tget st.t 4 = .ptr b 0 ∧ tget st.t 8 = it ((a + W.length : Nat) : Int)) ?_ (fun _ _ h => h))) ?_
  ·rintro ⟨t, m1⟩ ⟨hm, hlen, h0, h1, h4, h8⟩
   simp only at hm h0 h1 h4 h8 hlen
   subst hm
   rw [t_eq hlen]
   simp only [zat, zaC, zdY, h0, h1, h4, h8]
   simp only [hcut, ssS, zdY, zdW, reduceIte, zdX]
   refine zaj (refWord_ok W) ?_
   simp only [ssS, zdY, zdW, reduceIte, zdX]
   refine zak (fun hw => ?_) (fun hw => ?_)
   ·simp only [Store.set_same, ssS, zdY, zdW, reduceIte, zdX]
    refine fin rfl (Store.set_same _ _ _) rfl (fun c hc => by simp [Store.set, hc]) ?_
    rw [hspec, if_pos hw]
    rfl
   ·simp only [ssS, zdY, zdW, reduceIte, zdX]
    refine zak (fun h20 => ?_) (fun h20 => ?_)
    ·have h20 : W.length > 20 := by have := of_decide_eq_true h20; omega
     simp only [Store.set_same, ssS, zdY, zdW, reduceIte, zdX]
     refine fin rfl (Store.set_same _ _ _) rfl (fun c hc => by simp [Store.set, hc]) ?_
     rw [hspec, if_neg (by rw [hw]; simp), if_pos h20]
     exact ⟨by decide, ⟨0, [], 0, 0, 0⟩, _, rfl⟩
    ·have h20 : ¬ W.length > 20 := by have := of_decide_eq_false h20; omega
     simp only [Store.set_same, ssS, zdY, zdW, reduceIte, zdX]
     refine fin rfl (Store.set_same _ _ _) rfl (fun c hc => by simp [Store.set, hc]) ?_
     rw [hspec, if_neg (by rw [hw]; simp), if_neg h20]
     rfl
  refine zbr (fun n st => ∃ j : Nat, n = s.length - (a + j) ∧ a + j ≤ s.length ∧ (∀ x ∈ (s.drop a).take j, zbi x = true) ∧ st.m = m.set b (.var 179 [it 0, bs [], it 0, it 0, it 0]) ∧ st.t.length = 144 ∧ tget st.t 0 = bs s ∧ tget st.t 1 = it a ∧ tget st.t 4 = .ptr b 0 ∧ tget st.t 8 = it ((a + j : Nat) : Int)) (s.length - a)
   ⟨0, rfl, by omega, by simp, rfl, rfl, rfl, rfl, rfl, rfl⟩ ?_
  rintro n ⟨t, m1⟩ ⟨j, hn, hj, hpre, hm, hlen, h0, h1, h4, h8⟩
  simp only at hm h0 h1 h4 h8 hlen
  subst hm
  rw [t_eq hlen]
  simp only [zat, zaC, zdY, h0, h1, h4, h8]
  simp only [ssS, zdY, zdW, reduceIte, zdX]
  refine zaS (fun h => ?_) (fun h => ?_)
  ·have hlt : a + j < s.length := by have := of_decide_eq_true h; omega
   have hx : s[a + j]? = some s[a + j] := by simp [hlt]
   have hr : (s.drop a)[j]? = some s[a + j] := by rw [List.getElem?_drop, hx]
   generalize s[a + j] = d at hx hr
   have stop : zbi d = false → W.length = j := fun hd => by
    rw [← hW]
    exact zaZ hpre (by simp; omega) (fun b hb => by rw [hr] at hb; cases hb; exact hd)
   have more : zbi d = true → ∀ x ∈ (s.drop a).take (j + 1), zbi x = true := by
    intro hd x hx
    rw [zeh, hr] at hx
    rcases List.mem_append.1 hx with hx | hx
    ·exact hpre x hx
    ·simp at hx
     subst hx
     exact hd
   simp only [h, zbE hx, ssS, zdY, zdW, reduceIte, zdX]
   refine zaj (zdd d) ?_
   simp only [ssS, zdY, zdW, reduceIte, zdX]
   refine zaS (fun hd => ?_) (fun hd => ?_)
   ·simp only [hd, zas (show a + j < 4611686018427387904 by omega), ssS, zdY, zdW, reduceIte, zdX]
    refine ⟨s.length - (a + (j + 1)), by omega, j + 1, rfl, hlt, more (by simp [zbi, hd]), rfl⟩
   ·simp only [hd, zbE hx, ssS, zdY, zdW, reduceIte, zdX]
    refine zaj (zdI d) ?_
    simp only [ssS, zdY, zdW, reduceIte, zdX]
    refine zak (fun hd2 => ?_) (fun hd2 => ?_)
    ·simp only [zas (show a + j < 4611686018427387904 by omega), ssS, zdY, zdW, reduceIte, zdX]
     refine ⟨s.length - (a + (j + 1)), by omega, j + 1, rfl, hlt, more (by simp [zbi, hd2]), rfl⟩
    ·simp only [ssS, zdY, zdW, reduceIte, zdX]
     rw [stop (by simp [zbi, hd, hd2])]
  ·have hge : a + j = s.length := by have := of_decide_eq_false h; omega
   have stop : W.length = j := by
    rw [← hW]
    exact zaZ hpre (by simp; omega) (fun b hb => by rw [zeD (by simp; omega)] at hb; cases hb)
   simp only [h, ssS, zdY, zdW, reduceIte, zdX]
   rw [stop]
 ·simp only [ssS, zdY, zdW, reduceIte, zdX]
  refine zaj (zdI c) ?_
  simp only [ssS, zdY, zdW, reduceIte, zdX]
  refine zak (fun hc2 => ?_) (fun hc2 => ?_)
  ·-- a number
   have hspec : tokL (s.drop a) = match numL 0 ((s.drop a).takeWhile dig) with
     | none => .error 5
     | some n => .ok (⟨2, [], n, 0, 0⟩, ((s.drop a).takeWhile dig).length) := by
    rw [hdrop]
    simp only [tokL, hc, hc2, if_true, zd5, if_false]
   simp only [ssS, zdY, zdW, reduceIte, zdX]
   have hL : ((s.drop a).takeWhile dig).length ≤ s.length - a := by
    have := (zei dig (l := s.drop a)).length_le
    simpa using this
   have hcut : zbp (bs s) (some (some (a : Int))) (some (some ((a + ((s.drop a).takeWhile dig).length : Nat) : Int))) = some (bs ((s.drop a).takeWhile dig)) := by
    rw [slice_bs (by omega) (by omega), List.drop_take, Nat.add_sub_cancel_left, takeWhile_take]
   have hall : ∀ x ∈ (s.drop a).takeWhile dig, dig x = true := tw_all _
   generalize hW : (s.drop a).takeWhile dig = W at hspec hL hcut hall
   refine zbe (zbR (zbN (n := fun st => st.m = m.set b (.var 179 [it 0, bs [], it 0, it 0, it 0]) ∧ st.t.length = 144 ∧ tget st.t 0 = bs s ∧ tget st.t 1 = it a ∧ tget st.t 4 = .ptr b 0 ∧ tget st.t 8 = it ((a + W.length : Nat) : Int)) ?_ (fun _ _ h => h))) ?_
   ·rintro ⟨t, m1⟩ ⟨hm, hlen, h0, h1, h4, h8⟩
    simp only at hm h0 h1 h4 h8 hlen
    subst hm
    rw [t_eq hlen]
    simp only [zat, zaC, zdY, h0, h1, h4, h8]
    simp only [hcut, ssS, zdY, zdW, reduceIte, zdX]
    refine zaj (number_ok W (by omega) hall) ?_
    simp only [ssS, zdY, zdW, reduceIte, zdX]
    cases hnum : numL 0 W with
    | none =>
     have hv : decide (numV W < 0) = true := by simp [numV, hnum]
     simp only [hv, Store.set_same, ssS, zdY, zdW, reduceIte, zdX]
     refine fin rfl (Store.set_same _ _ _) rfl (fun c hc => by simp [Store.set, hc]) ?_
     rw [hspec, hnum]
     exact ⟨by decide, ⟨0, [], 0, 0, 0⟩, _, rfl⟩
    | some k =>
     have hv : decide (numV W < 0) = false := by simp [numV, hnum]
     have hv2 : numV W = k := by simp [numV, hnum]
     have hv3 : decide ((k : Int) < 0) = false := by simp
     simp only [hv3, hv2, Store.set_same, ssS, zdY, zdW, reduceIte, zdX]
     refine fin rfl (Store.set_same _ _ _) rfl (fun c hc => by simp [Store.set, hc]) ?_
     rw [hspec, hnum]
     rfl
   refine zbr (fun n st => ∃ j : Nat, n = s.length - (a + j) ∧ a + j ≤ s.length ∧ (∀ x ∈ (s.drop a).take j, dig x = true) ∧ st.m = m.set b (.var 179 [it 0, bs [], it 0, it 0, it 0]) ∧ st.t.length = 144 ∧ tget st.t 0 = bs s ∧ tget st.t 1 = it a ∧ tget st.t 4 = .ptr b 0 ∧ tget st.t 8 = it ((a + j : Nat) : Int)) (s.length - a)
    ⟨0, rfl, by omega, by simp, rfl, rfl, rfl, rfl, rfl, rfl⟩ ?_
   rintro n ⟨t, m1⟩ ⟨j, hn, hj, hpre, hm, hlen, h0, h1, h4, h8⟩
   simp only at hm h0 h1 h4 h8 hlen
   subst hm
   rw [t_eq hlen]
   simp only [zat, zaC, zdY, h0, h1, h4, h8]
   simp only [ssS, zdY, zdW, reduceIte, zdX]
   refine zaS (fun h => ?_) (fun h => ?_)
   ·have hlt : a + j < s.length := by have := of_decide_eq_true h; omega
    have hx : s[a + j]? = some s[a + j] := by simp [hlt]
    have hr : (s.drop a)[j]? = some s[a + j] := by rw [List.getElem?_drop, hx]
    generalize s[a + j] = d at hx hr
    have stop : dig d = false → W.length = j := fun hd => by
     rw [← hW]
     exact zaZ hpre (by simp; omega) (fun b hb => by rw [hr] at hb; cases hb; exact hd)
    have more : dig d = true → ∀ x ∈ (s.drop a).take (j + 1), dig x = true := by
     intro hd x hx
     rw [zeh, hr] at hx
     rcases List.mem_append.1 hx with hx | hx
     ·exact hpre x hx
     ·simp at hx
      subst hx
      exact hd
    simp only [h, zbE hx, ssS, zdY, zdW, reduceIte, zdX]
    refine zaj (zdI d) ?_
    simp only [ssS, zdY, zdW, reduceIte, zdX]
    refine zak (fun hd2 => ?_) (fun hd2 => ?_)
    ·simp only [zas (show a + j < 4611686018427387904 by omega), ssS, zdY, zdW, reduceIte, zdX]
     refine ⟨s.length - (a + (j + 1)), by omega, j + 1, rfl, hlt, more hd2, rfl⟩
    ·simp only [ssS, zdY, zdW, reduceIte, zdX]
     rw [stop hd2]
   ·have hge : a + j = s.length := by have := of_decide_eq_false h; omega
    have stop : W.length = j := by
     rw [← hW]
     exact zaZ hpre (by simp; omega) (fun b hb => by rw [zeD (by simp; omega)] at hb; cases hb)
    simp only [h, ssS, zdY, zdW, reduceIte, zdX]
    rw [stop]
  ·simp only [ssS, zdY, zdW, reduceIte, zdX]
   refine zak (fun hc3 => ?_) (fun hc3 => ?_)
   ·have e3 : c.toNat = 34 := by have := eq_of_beq hc3; omega
    have hspec : tokL (s.drop a) = match qL (s.drop (a + 1)) [] 0 with
      | .error e => .error e
      | .ok (l, k) => .ok (⟨3, l, 0, 0, 0⟩, k + 2) := by
     rw [hdrop]
     simp only [tokL, hc, hc2, e3, if_true, zd5, if_false, List.drop_succ_cons, List.drop_zero]
    simp only [ssS, zdY, zdW, reduceIte, zdX]
    refine zaj (refQuoted_ok s a ha (by omega)) ?_
    cases hq : qL (s.drop (a + 1)) [] 0 with
    | error e =>
     simp only [qRes, Store.set_same, ssS, zdY, zdW, reduceIte, zdX]
     refine fin rfl (Store.set_same _ _ _) rfl (fun c hc => by simp [Store.set, hc]) ?_
     rw [hspec, hq]
     exact ⟨qL_err hq, ⟨3, [], 0, 0, 0⟩, _, rfl⟩
    | ok x =>
     obtain ⟨l, k⟩ := x
     simp only [qRes, Store.set_same, ssS, zdY, zdW, reduceIte, zdX]
     refine fin rfl (Store.set_same _ _ _) rfl (fun c hc => by simp [Store.set, hc]) ?_
     rw [hspec, hq]
     rfl
   ·have e3 : ¬ c.toNat = 34 := by
     intro e
     rw [e] at hc3
     cases hc3
    have hspec : tokL (s.drop a) = match zaI.find? fun p => p.isPrefixOf (s.drop a) with
      | some p => .ok (⟨4, p, 0, 0, 0⟩, p.length)
      | none => .error 6 := by
     rw [hdrop]
     simp only [tokL, hc, hc2, e3, zd5, if_false]
    simp only [ssS, zdY, zdW, reduceIte, zdX]
    refine zaj Signs_ok ?_
    simp only [ssS, zdY, zdW, reduceIte, zdX]
    have hlen25 : zaI.length = 25 := rfl
    refine zbr (fun n st => ∃ i : Nat, n = 25 - i ∧ i ≤ 25 ∧ (∀ x ∈ zaI.take i, x.isPrefixOf (s.drop a) = false) ∧ st.m = m.set b (.var 179 [it 0, bs [], it 0, it 0, it 0]) ∧ st.t.length = 144 ∧ tget st.t 0 = bs s ∧ tget st.t 1 = it a ∧ tget st.t 4 = .ptr b 0 ∧ tget st.t 14 = .sl (zaI.map bs) [] .full ∧ tget st.t 15 = it i) 25
     ⟨0, rfl, zeQ _, by simp, rfl, rfl, rfl, rfl, rfl, rfl, rfl⟩ ?_
    rintro n ⟨t, m1⟩ ⟨i, hn, hi, hpre, hm, hlen, h0, h1, h4, h14, h15⟩
    simp only at hm h0 h1 h4 h14 h15 hlen
    subst hm
    rw [t_eq hlen]
    simp only [zat, zaC, zdY, h0, h1, h4, h14, h15]
    simp only [zed, hlen25, ssS, zdY, zdW, reduceIte, zdX]
    refine zak (fun h => ?_) (fun h => ?_)
    ·have hlt : i < 25 := by have := of_decide_eq_true h; omega
     have hlt' : i < zaI.length := hlt
     have hx : idxLV 1 (.sl (zaI.map bs) [] .full) (it i) = some (.elt [bs zaI[i]]) := zbX (e := bs zaI[i]) (by simp [hlt']) rfl
     have hpl : zaI[i].length ≤ 2 := by
      have : ∀ p ∈ zaI, p.length ≤ 2 := by decide
      exact this _ (List.getElem_mem _)
     have hnext : ∀ {q : List UInt8}, q = zaI[i] → q.isPrefixOf (s.drop a) = false → ∀ x ∈ zaI.take (i + 1), x.isPrefixOf (s.drop a) = false := by
      rintro q rfl hq x hx
      rw [zeh] at hx
      rcases List.mem_append.1 hx with hx | hx
      ·exact hpre x hx
      ·simp only [zd7 hlt', zeN, zeG] at hx
       subst hx
       exact hq
     have hfind : ∀ {q : List UInt8}, q = zaI[i] → q.isPrefixOf (s.drop a) = true → zaI.find? (fun p => p.isPrefixOf (s.drop a)) = some q := by
      rintro q rfl hq
      rw [List.find?_eq_some_iff_getElem]
      refine ⟨hq, i, hlt', rfl, fun j hj => ?_⟩
      have := hpre (zaI[j]'(by omega)) (List.mem_take_iff_getElem.2 ⟨j, by omega, rfl⟩)
      simp [this]
     generalize hp : zaI[i] = p at hx hpl
     have hw : IntKind.i64.wrap ((a : Int) + (p.length : Int)) = ((a + p.length : Nat) : Int) := by
      rw [wrap_i64 (by omega) (by omega)]
      rfl
     simp only [hx, hw, ssS, zdY, zdW, reduceIte, zdX]
     refine zaS (fun h2 => ?_) (fun h2 => ?_)
     ·have hle : a + p.length ≤ s.length := by have := of_decide_eq_true h2; omega
      have hcut : zbp (bs s) (some (some (a : Int))) (some (some ((a + p.length : Nat) : Int))) = some (bs ((s.drop a).take p.length)) := by
       rw [slice_bs (by omega) hle, List.drop_take, Nat.add_sub_cancel_left]
      have hiff : ((s.drop a).take p.length == p) = p.isPrefixOf (s.drop a) := by
       rw [zeB]
       simp only [beq_iff_eq, List.isPrefixOf_iff_prefix]
       rw [List.prefix_iff_eq_take, eq_comm]
      simp only [h2, hx, hw, hcut, ssS, zdY, zdW, reduceIte, zdX]
      refine zak (fun h3 => ?_) (fun h3 => ?_)
      ·rw [hiff] at h3
       simp only [hx, hw, Store.set_same, ssS, zdY, zdW, reduceIte, zdX]
       refine fin rfl (Store.set_same _ _ _) rfl (fun c hc => by simp [Store.set, hc]) ?_
       rw [hspec, hfind hp.symm h3]
       rfl
      ·rw [hiff] at h3
       simp only [zas (show i < 4611686018427387904 by omega), ssS, zdY, zdW, reduceIte, zdX]
       exact ⟨25 - (i + 1), by omega, i + 1, rfl, hlt, hnext hp.symm h3, rfl⟩
     ·have hle : ¬ a + p.length ≤ s.length := by have := of_decide_eq_false h2; omega
      simp only [h2, zas (show i < 4611686018427387904 by omega), ssS, zdY, zdW, reduceIte, zdX]
      refine ⟨25 - (i + 1), by omega, i + 1, rfl, hlt, hnext hp.symm ?_, rfl⟩
      cases hq : p.isPrefixOf (s.drop a) with
      | false => rfl
      | true =>
       have := (List.isPrefixOf_iff_prefix.1 hq).length_le
       simp at this
       omega
    ·have hge : i = 25 := by have := of_decide_eq_false h; omega
     simp only [Store.set_same, ssS, zdY, zdW, reduceIte, zdX]
     refine fin rfl (Store.set_same _ _ _) rfl (fun c hc => by simp [Store.set, hc]) ?_
     have hnone : zaI.find? (fun p => p.isPrefixOf (s.drop a)) = none := by
      rw [hge, show 25 = zaI.length from rfl, List.take_length] at hpre
      rw [List.find?_eq_none]
      intro x hx
      simp [hpre x hx]
     rw [hspec, hnone]
     exact ⟨by decide, ⟨0, [], 0, 0, 0⟩, _, rfl⟩
end Go.Av.Fn
/- A text's tokens, in plain terms. No condition. -/
namespace Go.Av.Fn
set_option linter.unusedSimpArgs false
set_option linter.unusedVariables false
theorem qL_len {r acc : List UInt8} {k : Nat} {l : List UInt8} {k' : Nat} (h : qL r acc k = .ok (l, k')) : k ≤ k' ∧ k' < k + r.length := by
 fun_induction qL r acc k <;> simp_all <;> omega
theorem tokL_len {r : List UInt8} {t : Tk} {n : Nat} (h : tokL r = .ok (t, n)) : 0 < n ∧ n ≤ r.length := by
 unfold tokL at h
 split at h
 ·cases h
 ·rename_i c r'
  split at h
  ·rename_i hc
   have h1 : 0 < ((c :: r').takeWhile zbi).length := by
    rw [zeo (by simp [zbi, hc])]
    simp
   have h2 := (zei zbi (l := c :: r')).length_le
   split at h
   ·simp only [Except.ok.injEq, Prod.mk.injEq] at h
    omega
   ·split at h
    ·cases h
    ·simp only [Except.ok.injEq, Prod.mk.injEq] at h
     omega
  ·split at h
   ·rename_i hc
    have h1 : 0 < ((c :: r').takeWhile dig).length := by
     rw [zeo hc]
     simp
    have h2 := (zei dig (l := c :: r')).length_le
    split at h
    ·cases h
    ·simp only [Except.ok.injEq, Prod.mk.injEq] at h
     omega
   ·split at h
    ·split at h
     ·cases h
     ·rename_i l k hq
      have := qL_len hq
      simp only [Except.ok.injEq, Prod.mk.injEq] at h
      simp at this ⊢
      omega
    ·split at h
     ·rename_i p hp
      simp only [Except.ok.injEq, Prod.mk.injEq] at h
      have h1 := List.mem_of_find?_eq_some hp
      have h2 := List.find?_some hp
      have h3 : ∀ p ∈ zaI, 0 < p.length := by decide
      have h4 := h3 p h1
      have h5 := zcH h2
      omega
     ·cases h
def zc9 (r : List UInt8) (a l : Nat) (acc : List Tk) : Except (Nat × Int) (List Tk) :=
 let x := zbt r a l
 let r' := r.drop (x.1 - a)
 match h : tokL r' with
 | .error e => if r' = [] then .ok (acc ++ [⟨0, [], 0, x.2, x.1⟩]) else .error (x.1, e)
 | .ok (t, n) => zc9 (r'.drop n) (x.1 + n) x.2 (acc ++ [{ t with l := x.2, a := x.1 }])
termination_by r.length
decreasing_by
 have h1 := tokL_len h
 have h2 : r'.length ≤ r.length := by
  show (r.drop _).length ≤ r.length
  rw [zeF]
  omega
 have h3 : r'.length = (r.drop ((zbt r a l).1 - a)).length := rfl
 rw [zeF]
 omega
end Go.Av.Fn
/- The program's tokens. No condition. -/
namespace Go.Av.Fn
set_option linter.unusedSimpArgs false
set_option linter.unusedVariables false
set_option maxRecDepth 10000
open Go.Proofs
def ParseOk (Γ : Glob) : Prop := ∀ (m : Store) (s : List UInt8), s ≠ [] → s.length ≤ 4096 → (∀ c ∈ s, dig c = true) →
 zae Tryz.prog Γ 125 [bs s, it 10, it 64] m fun o m' => (match numL 0 s with
  | some n => o = .ret (.tup [it n, .val .nilIface])
  | none => ∃ (v : Int) (T : TypeId) (u : V), o = .ret (.tup [it v, .ifc T u])) ∧ m' = m
def tokP (T : TypeId) (a0 a1 a2 : V) (xb : Nat) (m : Store) (r : Except Int (Tk × Nat)) (o : Out) (m' : Store) : Prop := match r with
 | .ok (t, n) => o = .ret (.tup [tkV t, it n]) ∧ m' = m
 | .error er => (∃ (t : Tk) (n : Int), o = .ret (.tup [tkV t, it n])) ∧ er ≠ 0 ∧ m' = m.set xb (.var T [a0, a1, a2, it er])
theorem neq_ifc {xo yo : Operand} {T : TypeId} {u : V} : binV Tryz.prog .neq 163 .iface xo yo (.ifc T u) (.val .nilIface) = some (.val (.bool true)) := rfl
theorem neq_nil : binV Tryz.prog .neq 163 .iface (.tmp 39) (.const .nilIface) (.val .nilIface) (.val .nilIface) = some (.val (.bool false)) := by kernel_rfl
theorem resV_tk2 {x y : Nat} {b o : Nat} {T : TypeId} {sz : Option Nat} {cs : List V} {u : V} {t : List V} {m : Store} (h1 : tget t x = .ptr b o) (h2 : m b = some (.var T cs)) (h3 : zbz cs o sz = some u) :
  resV [.cell x sz, .tmp y] ⟨t, m⟩ = some (.tup [u, tget t y]) := by
 simp only [resV, zb5, zcc, za8, h1, h2, h3, Option.map_some]
theorem token_ok {Γ : Glob} (L : LibOk Γ) (L2 : ParseOk Γ) (h0 : Γ 3 = some (zaP.map bs)) (h1 : Γ 2 = some (zaI.map bs)) {m : Store} {xb : Nat} {T : TypeId} {a0 a1 a2 : V} (s : List UInt8) (hs : s.length ≤ 4096) (hne : s ≠ []) (hx : m xb = some (.var T [a0, a1, a2, it 0])) :
  zae Tryz.prog Γ 218 [.ptr xb 0, bs s] m fun o m' => tokP T a0 a1 a2 xb m (tokL s) o m' := by
 refine zaf mixed F218_ok (by
  rintro v m b x _ h
  exfalso
  unfold tokP at h
  split at h
  ·cases h.1
  ·obtain ⟨⟨_, _, h⟩, _⟩ := h
   cases h) ?_
 obtain ⟨c, r, hsc⟩ : ∃ c r, s = c :: r := by
  cases s with
  | nil => exact absurd rfl hne
  | cons c r => exact ⟨c, r, rfl⟩
 have hc0 : idxStrV (bs s) (.val (.int .i64 0)) = some (.val (.int .u8 c.toNat)) := zbE (i := 0) (by rw [hsc]; rfl)
 simp only [F218, ss0, zd3, zdY]
 simp only [ssS, zdY, zdW, reduceIte, zdX]
 refine zar fun b hb => ?_
 have hxb : xb ≠ b := by
  rintro rfl
  rw [hx] at hb
  cases hb
 have hn : ∀ m' x, (Store.set m' b x) xb = m' xb := fun m' x => Store.set_ne m' x hxb
 have hn2 : ∀ m' x, (Store.set m' xb x) b = m' b := fun m' x => Store.set_ne m' x hxb.symm
 simp only [hc0, ssS, zdY, zdW, reduceIte, zdX]
 refine zaj (letter_ok c) ?_
 simp only [ssS, zdY, zdW, reduceIte, zdX]
 have good : ∀ {t : List V} {m2 : Store} {k : Tk} {n : Nat}, tget t 4 = .ptr b 0 → m2 b = some (.var 179 [it k.k, bs k.s, it k.n, it k.l, it k.a]) → tget t 5 = it n → (∀ c, c ≠ b → m2 c = m c) → tokL s = .ok (k, n) →
   bodyA [.cell 4 (some 5), .tmp 5] (fun o m' => tokP T a0 a1 a2 xb m (tokL s) o m') .ret ⟨t, m2⟩ := by
  intro t m2 k n h1 h2 h3 h4 h5
  refine zaR (resV_tk2 h1 h2 (u := tkV k) rfl) (drop_set hb h4) ?_
  rw [h5, h3]
  exact ⟨rfl, rfl⟩
 have fail : ∀ {t : List V} {m2 : Store} {k : Tk} {n : Int} {er : Int}, tget t 4 = .ptr b 0 → m2 b = some (.var 179 [it k.k, bs k.s, it k.n, it k.l, it k.a]) → tget t 5 = it n → (∀ c, c ≠ b → m2 c = (m.set xb (.var T [a0, a1, a2, it er])) c) → er ≠ 0 → tokL s = .error er →
   bodyA [.cell 4 (some 5), .tmp 5] (fun o m' => tokP T a0 a1 a2 xb m (tokL s) o m') .ret ⟨t, m2⟩ := by
  intro t m2 k n er h1 h2 h3 h4 he h5
  refine zaR (m' := m.set xb (.var T [a0, a1, a2, it er])) (resV_tk2 h1 h2 (u := tkV k) rfl) (drop_set (by rw [hn2, hb]) h4) ?_
  rw [h5, h3]
  exact ⟨⟨_, _, rfl⟩, he, rfl⟩
 refine zak (fun hc => ?_) (fun hc => ?_)
 ·-- a name or a word
  have hspec : tokL s = if zaP.contains (s.takeWhile zbi) then .ok (⟨5, s.takeWhile zbi, 0, 0, 0⟩, (s.takeWhile zbi).length)
    else if (s.takeWhile zbi).length > 20 then .error 5 else .ok (⟨1, s.takeWhile zbi, 0, 0, 0⟩, (s.takeWhile zbi).length) := by
   rw [hsc]
   simp only [tokL, hc, if_true]
  have hcut : zbp (bs s) (some none) (some (some ((s.takeWhile zbi).length : Int))) = some (bs (s.takeWhile zbi)) := by
   rw [slice_upto (zei zbi).length_le, takeWhile_take]
  have hL := (zei zbi (l := s)).length_le
  simp only [ssS, zdY, zdW, reduceIte, zdX]
  refine zaj (row_ok (p := zbi) s (by omega) (fun b => alnum_ok b)) ?_
  generalize s.takeWhile zbi = W at hspec hcut hL
  simp only [hcut, ssS, zdY, zdW, reduceIte, zdX]
  refine zaX (word_ok L h0 W (by omega) (by rw [hn, hx])) ?_
  simp only [hn2, Store.set_same, wordTok, ssS, zdY, zdW, reduceIte, zdX]
  by_cases hw : zaP.contains W = true
  ·rw [if_pos hw] at hspec
   refine good (k := ⟨5, W, 0, 0, 0⟩) rfl ?_ rfl ?_ hspec
   ·rw [Store.set_same, if_pos hw]
   ·intro c hc
    have : zbU W 0 = 0 := by simp only [zbU, hw, if_true]
    rw [this]
    rw [Store.set_ne _ _ hc]
    by_cases e : c = xb
    ·subst e; rw [Store.set_same, hx]
    ·rw [Store.set_ne _ _ e, Store.set_ne _ _ hc]
  ·rw [if_neg hw] at hspec
   by_cases h20 : W.length > 20
   ·rw [if_pos h20] at hspec
    refine fail (k := ⟨1, W, 0, 0, 0⟩) rfl ?_ rfl ?_ (by decide) hspec
    ·rw [Store.set_same, if_neg hw]
    ·intro c hc
     have : zbU W 0 = 5 := by simp only [zbU, hw, h20, if_true]; rfl
     rw [this]
     rw [Store.set_ne _ _ hc]
     by_cases e : c = xb
     ·subst e; rw [Store.set_same, Store.set_same]
     ·rw [Store.set_ne _ _ e, Store.set_ne _ _ hc, Store.set_ne _ _ e]
   ·rw [if_neg h20] at hspec
    refine good (k := ⟨1, W, 0, 0, 0⟩) rfl ?_ rfl ?_ hspec
    ·rw [Store.set_same, if_neg hw]
    ·intro c hc
     have : zbU W 0 = 0 := by simp only [zbU, hw, h20, if_false]; rfl
     rw [this]
     rw [Store.set_ne _ _ hc]
     by_cases e : c = xb
     ·subst e; rw [Store.set_same, hx]
     ·rw [Store.set_ne _ _ e, Store.set_ne _ _ hc]
 ·simp only [ssS, zdY, zdW, reduceIte, zdX]
  refine zaj (digit_ok c) ?_
  simp only [ssS, zdY, zdW, reduceIte, zdX]
  refine zak (fun hc2 => ?_) (fun hc2 => ?_)
  ·-- a number
   have hspec : tokL s = match numL 0 (s.takeWhile dig) with
     | none => .error 5
     | some n => .ok (⟨2, [], n, 0, 0⟩, (s.takeWhile dig).length) := by
    rw [hsc]
    simp only [tokL, hc, hc2, if_true, zd5, if_false]
    all_goals rfl
   have hcut : zbp (bs s) (some none) (some (some ((s.takeWhile dig).length : Int))) = some (bs (s.takeWhile dig)) := by
    rw [slice_upto (zei dig).length_le, takeWhile_take]
   have hL := (zei dig (l := s)).length_le
   have hall : ∀ x ∈ s.takeWhile dig, dig x = true := tw_all _
   have hWne : s.takeWhile dig ≠ [] := by
    rw [hsc, zeo hc2]
    simp
   simp only [ssS, zdY, zdW, reduceIte, zdX]
   refine zaj (row_ok (p := dig) s (by omega) (fun b => digit_ok b)) ?_
   generalize s.takeWhile dig = W at hspec hcut hL hall hWne
   simp only [hcut, ssS, zdY, zdW, reduceIte, zdX]
   refine zcv (L2 _ W hWne (by omega) hall) ?_ (by
    rintro v m' ⟨h, _⟩
    exfalso
    split at h
    ·cases h
    ·obtain ⟨_, _, _, h⟩ := h
     cases h)
   rintro v m' ⟨hv, rfl⟩
   cases hnum : numL 0 W with
   | none =>
    rw [hnum] at hv hspec
    simp only at hv hspec
    obtain ⟨v, T', u, hv⟩ := hv
    cases hv
    simp only [neq_ifc, hn, hx, hn2, Store.set_same, ssS, zdY, zdW, reduceIte, zdX]
    refine fail (k := ⟨2, [], v, 0, 0⟩) rfl (Store.set_same _ _ _) rfl (fun c hc => ?_) (by decide) hspec
    rw [Store.set_ne _ _ hc]
    by_cases e : c = xb
    ·subst e; rw [Store.set_same, Store.set_same]
    ·rw [Store.set_ne _ _ e, Store.set_ne _ _ hc, Store.set_ne _ _ e]
   | some k =>
    rw [hnum] at hv hspec
    simp only at hv hspec
    cases hv
    simp only [neq_nil, hn, hx, hn2, Store.set_same, ssS, zdY, zdW, reduceIte, zdX]
    refine good (k := ⟨2, [], k, 0, 0⟩) rfl (Store.set_same _ _ _) rfl (fun c hc => ?_) hspec
    rw [Store.set_ne _ _ hc, Store.set_ne _ _ hc]
  ·simp only [ssS, zdY, zdW, reduceIte, zdX]
   refine zak (fun hc3 => ?_) (fun hc3 => ?_)
   ·have e3 : c.toNat = 34 := by have := eq_of_beq hc3; omega
    have hspec : tokL s = match qL (s.drop 1) [] 0 with
      | .error e => .error e
      | .ok (l, k) => .ok (⟨3, l, 0, 0, 0⟩, k + 2) := by
     rw [hsc]
     simp only [tokL, hc, hc2, e3, if_true, zd5, if_false, List.drop_succ_cons, List.drop_zero]
     all_goals rfl
    have hcut : zbp (bs s) (some (some 1)) (some none) = some (bs (s.drop 1)) := slice_from (a := 1) (by rw [hsc]; simp)
    simp only [hcut, ssS, zdY, zdW, reduceIte, zdX]
    refine zcv (quoted_ok L (s.drop 1) (by simp; omega) (by rw [hn, hx])) ?_ (by
     rintro v m' h
     exfalso
     unfold quotOut at h
     split at h
     ·cases h.1
     ·cases h.1)
    rintro v m' hv
    cases hq : qL (s.drop 1) [] 0 with
    | error e =>
     rw [hq] at hv hspec
     simp only at hspec
     obtain ⟨hv, rfl⟩ := hv
     cases hv
     simp only [hn, hn2, Store.set_same, ssS, zdY, zdW, reduceIte, zdX]
     refine fail (k := ⟨3, [], 0, 0, 0⟩) rfl (Store.set_same _ _ _) rfl (fun c hc => ?_) (qL_err hq) hspec
     rw [Store.set_ne _ _ hc]
     by_cases e : c = xb
     ·subst e; rw [Store.set_same, Store.set_same]
     ·rw [Store.set_ne _ _ e, Store.set_ne _ _ hc, Store.set_ne _ _ e]
    | ok x =>
     obtain ⟨l, k⟩ := x
     rw [hq] at hv hspec
     simp only at hspec
     obtain ⟨hv, rfl⟩ := hv
     cases hv
     simp only [hn, hn2, Store.set_same, ssS, zdY, zdW, reduceIte, zdX]
     refine good (k := ⟨3, l, 0, 0, 0⟩) rfl (Store.set_same _ _ _) rfl (fun c hc => ?_) hspec
     rw [Store.set_ne _ _ hc, Store.set_ne _ _ hc]
   ·have e3 : ¬ c.toNat = 34 := by
     intro e
     rw [e] at hc3
     cases hc3
    have hspec : tokL s = match zaI.find? fun p => p.isPrefixOf s with
      | some p => .ok (⟨4, p, 0, 0, 0⟩, p.length)
      | none => .error 6 := by
     rw [hsc]
     simp only [tokL, hc, hc2, e3, zd5, if_false]
     all_goals rfl
    simp only [ssS, zdY, zdW, reduceIte, zdX]
    refine zaj (sign_ok h1 s) ?_
    have hsg : signOf s = (zaI.find? fun p => p.isPrefixOf s).getD [] := rfl
    cases hf : zaI.find? (fun p => p.isPrefixOf s) with
    | none =>
     rw [hf] at hspec hsg
     simp only [Option.getD_none] at hsg
     rw [hsg]
     have hnn : (([] : List UInt8) == []) = true := rfl
     simp only at hspec
     simp only [hnn, hn, hx, hn2, Store.set_same, ssS, zdY, zdW, reduceIte, zdX]
     refine fail (k := ⟨4, [], 0, 0, 0⟩) rfl (Store.set_same _ _ _) rfl (fun c hc => ?_) (by decide) hspec
     rw [Store.set_ne _ _ hc]
     by_cases e : c = xb
     ·subst e; rw [Store.set_same, Store.set_same]
     ·rw [Store.set_ne _ _ e, Store.set_ne _ _ hc, Store.set_ne _ _ e]
    | some p =>
     rw [hf] at hspec hsg
     simp only [Option.getD_some] at hsg
     have hpne : p ≠ [] := by
      have : ∀ q ∈ zaI, q ≠ [] := by decide
      exact this p (List.mem_of_find?_eq_some hf)
     rw [hsg]
     have hnn : (p == []) = false := by
      cases p with
      | nil => exact absurd rfl hpne
      | cons _ _ => rfl
     simp only at hspec
     simp only [hnn, hn, hx, hn2, Store.set_same, ssS, zdY, zdW, reduceIte, zdX]
     refine good (k := ⟨4, p, 0, 0, 0⟩) rfl (Store.set_same _ _ _) rfl (fun c hc => ?_) hspec
     rw [Store.set_ne _ _ hc, Store.set_ne _ _ hc]
end Go.Av.Fn
/- A text's tokens do not change by going behind a blank. No condition. -/
namespace Go.Av.Fn
set_option linter.unusedSimpArgs false
set_option linter.unusedVariables false
theorem skipL_ge {r : List UInt8} {a l : Nat} : a ≤ (zbt r a l).1 := by
 fun_induction zbt r a l <;> omega
def scanN (r : List UInt8) (x : Nat × Nat) (acc : List Tk) : Except (Nat × Int) (List Tk) := match tokL r with
 | .error e => if r = [] then .ok (acc ++ [⟨0, [], 0, x.2, x.1⟩]) else .error (x.1, e)
 | .ok (t, n) => zc9 (r.drop n) (x.1 + n) x.2 (acc ++ [{ t with l := x.2, a := x.1 }])
theorem scanL_eq (r : List UInt8) (a l : Nat) (acc : List Tk) : zc9 r a l acc = scanN (r.drop ((zbt r a l).1 - a)) (zbt r a l) acc := by
 rw [zc9]
 unfold scanN
 split
 ·rename_i e h
  simp only [h]
 ·rename_i t n h
  simp only [h]
theorem scanL_step {r : List UInt8} {a l k l2 : Nat} {acc : List Tk} (h : zbt r a l = zbt (r.drop k) (a + k) l2) : zc9 r a l acc = zc9 (r.drop k) (a + k) l2 acc := by
 rw [scanL_eq, scanL_eq (r.drop k), ← h, zex]
 have := skipL_ge (r := r.drop k) (a := a + k) (l := l2)
 rw [← h] at this
 rw [show k + ((zbt r a l).1 - (a + k)) = (zbt r a l).1 - a by omega]
end Go.Av.Fn
/- The program's row of tokens, handed to whoever ranges over it. No condition. -/
namespace Go.Av.Fn
set_option linter.unusedSimpArgs false
set_option linter.unusedVariables false
set_option maxRecDepth 10000
open Go.Proofs
theorem ayields_sub {P : Program} {Γ : Glob} {l : Nat} {args : List V} {mC S : Store} {R : Out → Store → Prop} (h : zbs P Γ l args mC R) (hs : ∀ b x, mC b = some x → S b = some x) :
  zbs P Γ l args S fun o S' => ∃ m', R o m' ∧ (∀ b x, m' b = some x → S' b = some x) ∧ (∀ b x, S b = some x → mC b = none → S' b = some x ∧ m' b = none) := by
 obtain ⟨F, hF⟩ : ∃ F : Store, (fun b => match mC b with | some _ => none | none => S b) = F := ⟨_, rfl⟩
 have e1 : mC.or F = S := by
  funext b
  rw [← hF]
  simp only [Store.or]
  cases hb : mC b with
  | some x => exact (hs b x hb).symm
  | none => rfl
 have e2 : Disj mC F := by
  intro b
  rw [← hF]
  cases hb : mC b with
  | some x => exact .inr (by simp only [hb])
  | none => exact .inl rfl
 have := h.frame e2
 rw [e1] at this
 refine this.mono ?_
 rintro o m'' ⟨m', rfl, hD, hR⟩
 refine ⟨m', hR, fun b x hb => zbK hb, fun b x hb hn => ?_⟩
 have hFb : F b = some x := by rw [← hF]; simp only [hn]; exact hb
 have hm : m' b = none := by
  rcases hD b with k | k
  ·exact k
  ·rw [hFb] at k; cases k
 exact ⟨by simp only [Store.or, hm, hFb], hm⟩
theorem skipL_le {r : List UInt8} {a l : Nat} : (zbt r a l).1 ≤ a + r.length ∧ (zbt r a l).2 + a ≤ l + (zbt r a l).1 := by
 fun_induction zbt r a l with
 | case1 r a l h ih =>
  have := zcH h
  simp at this ih ⊢
  omega
 | case2 r a l h h2 ih =>
  have : 1 ≤ r.length := by
   rw [zeA] at h2
   rcases h2 with h2 | h2
   ·simpa using zcH h2
   ·simpa using zcH h2
  simp at ih ⊢
  omega
 | case3 r a l h h2 h3 ih =>
  have := (zei zdy (l := r)).length_le
  simp at ih ⊢
  omega
 | case4 r a l h h2 h3 => omega
theorem tokens_ok {Γ : Glob} {m : Store} {xb : Nat} : zae Tryz.prog Γ 196 [.ptr xb 0] m fun o m' => ∃ pb, m pb = none ∧ o = .ret (.fn (.func 216) [] [.ptr pb 0]) ∧ m' = m.set pb (.var 243 [.ptr xb 0]) := by
 refine zaf mixed F196_ok (by rintro v m b x _ ⟨_, _, ⟨⟩, _⟩) ?_
 simp only [F196, ss0, zd3, zdY]
 simp only [ssS, zdY, zdW, reduceIte, zdX]
 refine zar fun b hb => ?_
 simp only [ssS, zdY, zdW, reduceIte, zdX]
 exact zaq zad ⟨b, hb, rfl, rfl⟩
def resOut (acc : List Tk) (a : Nat) (e : Int) : Except (Nat × Int) (List Tk) → Prop
 | .ok l => acc = l ∧ e = 0
 | .error (a', e') => a' = a ∧ e' = e ∧ e ≠ 0
def rowOut (J : List Tk → Store → Prop) (xb pb : Nat) (s : List UInt8) (o : Out) (m' : Store) : Prop :=
 o = .ret (.tup []) ∧ ∃ (acc : List Tk) (mC : Store) (a l : Nat) (e : Int), J acc mC ∧ mC xb = none ∧ mC pb = none ∧ m' = (mC.set pb (.var 243 [.ptr xb 0])).set xb (.var 245 [bs s, it a, it l, it e]) ∧
  resOut acc a e (zc9 s 0 1 [])
theorem tokens1_ok {Γ : Glob} (L : LibOk Γ) (L2 : ParseOk Γ) (h0 : Γ 3 = some (zaP.map bs)) (h1 : Γ 2 = some (zaI.map bs)) {y : Nat} {J : List Tk → Store → Prop} {xb pb : Nat} (hxp : xb ≠ pb) (s : List UInt8) (hs : s.length ≤ 4096)
  (hy : ∀ acc t mC, acc.length ≤ 4096 → J acc mC → zbs Tryz.prog Γ y [tkV t] mC fun o m' => o = .ret (.val (.bool true)) ∧ J (acc ++ [t]) m') {mC : Store} (hJ : J [] mC) (hx : mC xb = none) (hp : mC pb = none) :
  zae Tryz.prog Γ 216 [.fn (.yield y) [] [], .ptr pb 0] ((mC.set pb (.var 243 [.ptr xb 0])).set xb (.var 245 [bs s, it 0, it 1, it 0])) fun o m' => rowOut J xb pb s o m' := by
 refine zaf mixed F216_ok (by
  rintro v m b x _ ⟨h, _⟩
  cases h) ?_
 simp only [F216, ss0, zd3, zdY]
 simp only [ssS, zdY, zdW, reduceIte, zdX]
 generalize hres : zc9 s 0 1 [] = res
 -- the ends
 have fin : ∀ {t : List V} {S mC : Store} {acc : List Tk} {a l : Nat} {e : Int}, J acc mC → mC xb = none → mC pb = none → (∀ b x, mC b = some x → S b = some x) → S xb = some (.var 245 [bs s, it a, it l, it e]) → S pb = some (.var 243 [.ptr xb 0]) →
   resOut acc a e res → bodyA [] (fun o m' => rowOut J xb pb s o m') .ret ⟨t, S⟩ := by
  intro t S mC acc a l e k1 k2 k3 k4 k5 k6 k7
  refine zaR (v := .tup []) (m' := (mC.set pb (.var 243 [.ptr xb 0])).set xb (.var 245 [bs s, it a, it l, it e])) rfl (fun c x hc => ?_) ⟨rfl, acc, mC, a, l, e, k1, k2, k3, rfl, by rw [hres]; exact k7⟩
  by_cases e1 : c = xb
  ·subst e1; rw [Store.set_same] at hc; rw [k5]; exact hc
  ·rw [Store.set_ne _ _ e1] at hc
   by_cases e2 : c = pb
   ·subst e2; rw [Store.set_same] at hc; rw [k6]; exact hc
   ·rw [Store.set_ne _ _ e2] at hc; exact k4 c x hc
 refine zbr (fun n st => ∃ (a l : Nat) (acc : List Tk) (mC : Store), n = s.length - a ∧ a ≤ s.length ∧ l ≤ a + 1 ∧ acc.length ≤ a ∧ zc9 (s.drop a) a l acc = res ∧ J acc mC ∧ mC xb = none ∧ mC pb = none ∧ (∀ b x, mC b = some x → st.m b = some x) ∧ st.m xb = some (.var 245 [bs s, it a, it l, it 0]) ∧ st.m pb = some (.var 243 [.ptr xb 0]) ∧ st.t.length = 71 ∧ tget st.t 0 = .fn (.yield y) [] [] ∧ tget st.t 1 = .ptr pb 0)
  s.length ⟨0, 1, [], mC, rfl, by omega, by omega, by simp, hres, hJ, hx, hp, ?_, Store.set_same _ _ _, ?_, rfl, rfl, rfl⟩ ?_
 ·intro b x hb
  have n1 : b ≠ xb := by rintro rfl; rw [hx] at hb; cases hb
  have n2 : b ≠ pb := by rintro rfl; rw [hp] at hb; cases hb
  show ((mC.set pb (.var 243 [.ptr xb 0])).set xb (.var 245 [bs s, it 0, it 1, it 0])) b = some x
  rw [Store.set_ne _ _ n1, Store.set_ne _ _ n2]
  exact hb
 ·show ((mC.set pb (.var 243 [.ptr xb 0])).set xb (.var 245 [bs s, it 0, it 1, it 0])) pb = _
  rw [Store.set_ne _ _ (fun e => hxp e.symm), Store.set_same]
 clear hJ hx hp mC
 rintro n ⟨t, S⟩ ⟨a, l, acc, mC, hn, ha, hl, hacc, hres2, hJ, hx, hp, hsub, hX, hP, hlen, ht0, ht1⟩
 simp only at hsub hX hP hlen ht0 ht1
 rw [t_eq hlen]
 simp only [zat, zaC, zdY, ht0, ht1]
 simp only [hP, ssS, zdY, zdW, reduceIte, zdX]
 refine zaX (skip_ok s a l ha (by omega) hX) ?_
 obtain ⟨q1, q2⟩ := skipL_le (r := s.drop a) (a := a) (l := l)
 have q3 := skipL_ge (r := s.drop a) (a := a) (l := l)
 rw [zeF] at q1
 have hN : scanN (s.drop (zbt (s.drop a) a l).1) (zbt (s.drop a) a l) acc = res := by
  rw [← hres2, scanL_eq, zex]
  congr 2
  omega
 generalize hsk : zbt (s.drop a) a l = sk at q1 q2 q3 hN
 obtain ⟨a1, l1⟩ := sk
 simp only at q1 q2 q3 hN
 obtain ⟨S1, hS1⟩ : ∃ S1, S.set xb (.var 245 [bs s, it a1, it l1, it 0]) = S1 := ⟨_, rfl⟩
 have hX1 : S1 xb = some (.var 245 [bs s, it a1, it l1, it 0]) := by rw [← hS1]; exact Store.set_same _ _ _
 have hP1 : S1 pb = some (.var 243 [.ptr xb 0]) := by rw [← hS1, Store.set_ne _ _ (fun e => hxp e.symm)]; exact hP
 have hsub1 : ∀ b x, mC b = some x → S1 b = some x := by
  intro b x hb
  rw [← hS1, Store.set_ne _ _ (by rintro rfl; rw [hx] at hb; cases hb)]
  exact hsub b x hb
 rw [hS1]
 simp only [hX1, hP1, zdO, ssS, zdY, zdW, reduceIte, zdX]
 refine zak (fun h => ?_) (fun h => ?_)
 ·-- the end
  have he : a1 = s.length := by have := eq_of_beq h; omega
  simp only [hX1, hP1, ssS, zdY, zdW, reduceIte, zdX]
  refine callS_yield (ayields_sub (hy acc ⟨0, [], 0, l1, a1⟩ mC (by omega) hJ) hsub1) ?_ (by rintro v m' ⟨_, ⟨⟨⟩, _⟩, _⟩)
  rintro v S2 ⟨mC2, ⟨hv, hJ2⟩, hsub2, hkeep⟩
  cases hv
  simp only [ssS, zdY, zdW, reduceIte, zdX]
  refine fin hJ2 (hkeep _ _ hX1 hx).2 (hkeep _ _ hP1 hp).2 hsub2 (hkeep _ _ hX1 hx).1 (hkeep _ _ hP1 hp).1 ?_
  rw [← hN, he, zeE]
  exact ⟨rfl, rfl⟩
 ·have hlt : a1 < s.length := by
   have : ¬ a1 = s.length := by
    intro e
    rw [e] at h
    simp at h
   omega
  have hcut : zbp (bs s) (some (some (a1 : Int))) (some none) = some (bs (s.drop a1)) := slice_from (by omega)
  have hdne : s.drop a1 ≠ [] := by
   intro e
   have := congrArg List.length e
   simp at this
   omega
  simp only [hX1, hP1, hcut, ssS, zdY, zdW, reduceIte, zdX]
  refine zcv (token_ok L L2 h0 h1 (s.drop a1) (by simp; omega) hdne hX1) ?_ (by
   rintro v m' h
   exfalso
   unfold tokP at h
   split at h
   ·cases h.1
   ·obtain ⟨⟨_, _, h⟩, _⟩ := h
    cases h)
  intro v S2 hv
  unfold scanN at hN
  cases htok : tokL (s.drop a1) with
  | error er =>
   rw [htok] at hv hN
   simp only [if_neg hdne] at hN
   obtain ⟨⟨tk, k, hv⟩, hne0, rfl⟩ := hv
   cases hv
   obtain ⟨S2, hS2⟩ : ∃ S2, S1.set xb (.var 245 [bs s, it a1, it l1, it er]) = S2 := ⟨_, rfl⟩
   have hX2 : S2 xb = some (.var 245 [bs s, it a1, it l1, it er]) := by rw [← hS2]; exact Store.set_same _ _ _
   have hP2 : S2 pb = some (.var 243 [.ptr xb 0]) := by rw [← hS2, Store.set_ne _ _ (fun e => hxp e.symm)]; exact hP1
   have hsub2 : ∀ b x, mC b = some x → S2 b = some x := by
    intro b x hb
    rw [← hS2, Store.set_ne _ _ (by rintro rfl; rw [hx] at hb; cases hb)]
    exact hsub1 b x hb
   rw [hS2]
   simp only [tkV, ssS, zdY, zdW, reduceIte, zdX]
   refine zar fun b hb => ?_
   have n1 : xb ≠ b := by rintro rfl; rw [hX2] at hb; cases hb
   have n2 : pb ≠ b := by rintro rfl; rw [hP2] at hb; cases hb
   have hbx : ∀ m' x, (Store.set m' b x) xb = m' xb := fun m' x => Store.set_ne m' x n1
   have hbp : ∀ m' x, (Store.set m' b x) pb = m' pb := fun m' x => Store.set_ne m' x n2
   have hne1 : ((er : Int) != 0) = true := by simpa using hne0
   simp only [Store.set_same, Store.set_set, hbx, hbp, hX2, hP2, hne1, ssS, zdY, zdW, reduceIte, zdX]
   refine fin hJ hx hp (fun c x hc => ?_) (by rw [hbx]; exact hX2) (by rw [hbp]; exact hP2) (by rw [← hN]; exact ⟨rfl, rfl, hne0⟩)
   rw [Store.set_ne _ _ (by rintro rfl; rw [hsub2 _ _ hc] at hb; cases hb)]
   exact hsub2 c x hc
  | ok x =>
   obtain ⟨tk, k⟩ := x
   rw [htok] at hv hN
   simp only at hN
   obtain ⟨hv, rfl⟩ := hv
   cases hv
   simp only [tkV, ssS, zdY, zdW, reduceIte, zdX]
   refine zar fun b hb => ?_
   have n1 : xb ≠ b := by rintro rfl; rw [hX1] at hb; cases hb
   have n2 : pb ≠ b := by rintro rfl; rw [hP1] at hb; cases hb
   have hbx : ∀ m' x, (Store.set m' b x) xb = m' xb := fun m' x => Store.set_ne m' x n1
   have hbp : ∀ m' x, (Store.set m' b x) pb = m' pb := fun m' x => Store.set_ne m' x n2
   have hne1 : ((0 : Int) != 0) = false := rfl
   simp only [Store.set_same, Store.set_set, hbx, hbp, hX1, hP1, hne1, ssS, zdY, zdW, reduceIte, zdX]
   have htl := tokL_len htok
   rw [zeF] at htl
   have hsub2 : ∀ c x, mC c = some x → (S2.set b (.var 179 [it tk.k, bs tk.s, it tk.n, it l1, it a1])) c = some x := by
    intro c x hc
    rw [Store.set_ne _ _ (by rintro rfl; rw [hsub1 _ _ hc] at hb; cases hb)]
    exact hsub1 c x hc
   refine callS_yield (ayields_sub (hy acc { tk with l := l1, a := a1 } mC (by omega) hJ) hsub2) ?_ (by rintro v m' ⟨_, ⟨⟨⟩, _⟩, _⟩)
   rintro v S3 ⟨mC3, ⟨hv, hJ3⟩, hsub3, hkeep⟩
   cases hv
   obtain ⟨hX3, hx3⟩ := hkeep xb _ (by rw [hbx]; exact hX1) hx
   obtain ⟨hP3, hp3⟩ := hkeep pb _ (by rw [hbp]; exact hP1) hp
   have hw : IntKind.i64.wrap ((a1 : Int) + (k : Int)) = ((a1 + k : Nat) : Int) := by
    rw [wrap_i64 (by omega) (by omega)]
    rfl
   simp only [hX3, hP3, hw, zd9, ssS, zdY, zdW, reduceIte, zdX]
   rw [zex] at hN
   refine ⟨s.length - (a1 + k), by omega, a1 + k, l1, _, mC3, rfl, by omega, by omega, by simp; omega, hN, hJ3, hx3, hp3, fun c x hc => ?_, Store.set_same _ _ _, ?_⟩
   ·rw [Store.set_ne _ _ (by rintro rfl; rw [hx3] at hc; cases hc)]
    exact hsub3 c x hc
   ·rw [Store.set_ne _ _ (fun e => hxp e.symm)]
    exact hP3
def zdq (s : List UInt8) : Except (Nat × Int) (List Tk) := if s.length > 4096 then .error (0, 5) else zc9 s 0 1 []
def ScanOut (r : Except (Nat × Int) (List Tk)) (o : Out) : Prop := match r with
 | .ok l => ∃ tok, o = .ret (.tup [.sl (l.map tkV) [] tok, it 0, it 0])
 | .error (a, e) => o = .ret (.tup [.sl [] [] .full, it a, it e])
theorem cells_tk (t : Tk) : (tkV t).cells = [it t.k, bs t.s, it t.n, it t.l, it t.a] := rfl
def litV5 (z : List V) (v : V) : Option V := (zc2 5 [.agg z] [(0, v)]).map fun es => .sl es [] .full
theorem lit5 {P : Program} {Γ : Glob} {t : List V} {m : Store} {z : List V} {x : Nat} : zan P (ev Γ t) m (.lits 5 z 1 [(0, .tmp x)]) = litV5 z (ev Γ t (.tmp x)) := rfl
theorem litV5_agg {z : List V} {a b c d e : V} : litV5 z (.agg [a, b, c, d, e]) = some (.sl [.agg [a, b, c, d, e]] [] .full) := rfl
theorem refScan_ok {Γ : Glob} {m : Store} (s : List UInt8) : zae Tryz.prog Γ 152 [bs s] m fun o m' => ScanOut (zdq s) o ∧ m' = m := by
 refine zaf mixed F152_ok (by
  rintro v m b x _ ⟨h, _⟩
  exfalso
  unfold ScanOut at h
  split at h
  ·obtain ⟨_, h⟩ := h
   cases h
  ·cases h) ?_
 simp only [F152, ss0, zd3, zdY]
 simp only [ssS, zdY, zdW, reduceIte, zdX]
 refine zak (fun h => ?_) (fun h => ?_)
 ·have hl : s.length > 4096 := by have := of_decide_eq_true h; omega
  simp only [ssS, zdY, zdW, reduceIte, zdX]
  refine zaq zby ⟨?_, rfl⟩
  unfold zdq
  rw [if_pos hl]
  rfl
 ·have hl : ¬ s.length > 4096 := by have := of_decide_eq_false h; omega
  have hres0 : zdq s = zc9 s 0 1 [] := by unfold zdq; rw [if_neg hl]
  generalize zdq s = res at hres0
  simp only [ssS, zdY, zdW, reduceIte, zdX]
  refine zbr (fun n st => ∃ (a l : Nat) (acc : List Tk) (m0 : Store) (v : V), n = s.length - a ∧ a ≤ s.length ∧ l ≤ a + 1 ∧ acc.length ≤ a ∧ zc9 (s.drop a) a l acc = res ∧ (∀ b x, m b = some x → m0 b = some x) ∧ Buf 179 5 m0 st.m v (acc.map tkV) ∧ st.t.length = 94 ∧ tget st.t 0 = bs s ∧ tget st.t 5 = v ∧ tget st.t 6 = it l ∧ tget st.t 7 = it a)
   s.length ⟨0, 1, [], m, _, rfl, by omega, by omega, by simp, hres0.symm, fun _ _ h => h, Buf.start, rfl, rfl, rfl, rfl, rfl⟩ ?_
  rintro n ⟨t, m1⟩ ⟨a, l, acc, m0, v, hn, ha, hla, hacc, hres, hsub, hbuf, hlen, h0, h5, h6, h7⟩
  simp only at hbuf h0 h5 h6 h7 hlen
  rw [t_eq hlen]
  simp only [zat, zaC, zdY, h0, h5, h6, h7]
  simp only [ssS, zdY, zdW, reduceIte, zdX]
  refine zak (fun h => ?_) (fun h => ?_)
  ·have hlt : a < s.length := by have := of_decide_eq_true h; omega
   have hx : s[a]? = some s[a] := by simp [hlt]
   have hdrop : s.drop a = s[a] :: s.drop (a + 1) := zem hlt
   generalize s[a] = c at hx hdrop
   simp only [zbE hx, ssS, zdY, zdW, reduceIte, zdX]
   refine condS_mid (M := fun st => st.m = m1 ∧ st.t.length = 94 ∧ tget st.t 0 = bs s ∧ tget st.t 5 = v ∧ tget st.t 6 = it l ∧ tget st.t 7 = it a ∧ zbt (s.drop a) a l = (a, l)) ?_ ?_
   ·-- a token
    rintro ⟨t, m2⟩ ⟨hm2, hlen, h0, h5, h6, h7, hsk⟩
    simp only at hm2 hlen h0 h5 h6 h7
    subst hm2
    rw [t_eq hlen]
    simp only [zat, zaC, zdY, h0, h5, h6, h7]
    simp only [ssS, zdY, zdW, reduceIte, zdX]
    refine zcv (refToken_ok s a hlt (by omega)) ?_ (by
     rintro v m' ⟨h, _⟩
     exfalso
     unfold tokOut at h
     split at h
     ·cases h
     ·obtain ⟨_, _, _, h⟩ := h
      cases h)
    rintro u m' ⟨hu, rfl⟩
    have hN : scanN (s.drop a) (a, l) acc = res := by
     rw [← hres, scanL_eq, hsk, Nat.sub_self, List.drop_zero]
    unfold scanN at hN
    cases htok : tokL (s.drop a) with
    | error e =>
     rw [htok] at hu hN
     obtain ⟨he, t0, v2, hu⟩ := hu
     cases hu
     simp only at hN
     rw [if_neg (by rw [hdrop]; simp)] at hN
     simp only [ssS, zdY, zdW, reduceIte, zdX]
     refine zar fun b hb => ?_
     have hne : (e != 0) = true := by simpa using he
     simp only [cells_tk, Store.set_same, hne, ssS, zdY, zdW, reduceIte, zdX]
     refine zaR (m' := m) zby (fun c x hc => ?_) ⟨?_, rfl⟩
     ·have h1 : m' c = some x := hbuf.sub _ _ (hsub _ _ hc)
      have h2 : c ≠ b := by
       rintro rfl
       rw [hb] at h1
       cases h1
      simp [Store.set, h2, h1]
     ·rw [← hN]
      rfl
    | ok x =>
     obtain ⟨tk, n2⟩ := x
     rw [htok] at hu hN
     cases hu
     simp only at hN
     rw [zex] at hN
     simp only [ssS, zdY, zdW, reduceIte, zdX]
     refine zar fun b hb => ?_
     have hz : ((0 : Int) != 0) = false := rfl
     simp only [cells_tk, Store.set_same, Store.set_set, hz, lit5, litV5_agg, ssS, zdY, zdW, reduceIte, zdX]
     have hn2 := tokL_len htok
     rw [zeF] at hn2
     have hmb : m b = none := by
      cases hc : m b with
      | none => rfl
      | some x =>
       have := hbuf.sub _ _ (hsub _ _ hc)
       rw [hb] at this
       cases this
     refine appS_buf (hbuf.add hb) rfl (by intro c hc; simp [V.cells] at hc; rcases hc with rfl | rfl | rfl | rfl | rfl <;> rfl) (by simp; omega) fun m3 v3 hb3 => ?_
     simp only [ssS, zdY, zdW, reduceIte, zdX]
     refine ⟨s.length - (a + n2), by omega, a + n2, l, acc ++ [{ tk with l := l, a := a }], _, v3, rfl, by omega, by omega, by simp; omega, hN, ?_, by rw [zeK]; exact hb3, rfl, rfl, rfl⟩
     exact sub_set hmb hsub
   refine zak (fun h1 => ?_) (fun h1 => ?_)
   ·have e1 : c.toNat = 10 := by have := eq_of_beq h1; omega
    have ec : c = 10 := UInt8.toNat_inj.1 e1
    simp only [zas (show a < 4611686018427387904 by omega), zas (show l < 4611686018427387904 by omega), ssS, zdY, zdW, reduceIte, zdX]
    have hst := scanL_step (r := s.drop a) (a := a) (l := l) (k := 1) (l2 := l + 1) (acc := acc) (by rw [zbt.eq_1 (s.drop a), dif_pos (by rw [hdrop, ec]; rfl)])
    rw [zex] at hst
    exact ⟨s.length - (a + 1), by omega, a + 1, l + 1, acc, m0, v, rfl, hlt, by omega, by omega, by rw [← hst, hres], hsub, hbuf, rfl, rfl, rfl⟩
   ·have e1 : ¬ c.toNat = 10 := by
     intro e
     rw [e] at h1
     cases h1
    have n1 : ¬ [10].isPrefixOf (s.drop a) = true := by
     rw [hdrop]
     intro e
     simp [zeO] at e
     exact e1 (by rw [← e]; rfl)
    have blank : (c.toNat = 32 ∨ c.toNat = 9) → zc9 (s.drop (a + 1)) (a + 1) l acc = res := by
     intro hb
     have hst := scanL_step (r := s.drop a) (a := a) (l := l) (k := 1) (l2 := l) (acc := acc) (by
      rw [zbt.eq_1 (s.drop a), dif_neg n1, dif_pos (by
       rw [hdrop]
       rcases hb with hb | hb
       ·rw [show c = 32 from UInt8.toNat_inj.1 hb]; rfl
       ·rw [show c = 9 from UInt8.toNat_inj.1 hb]; rfl)])
     rw [zex] at hst
     rw [← hst, hres]
    have tok : ¬ (c.toNat = 32 ∨ c.toNat = 9) → ¬ [47, 47].isPrefixOf (s.drop a) = true → zbt (s.drop a) a l = (a, l) := by
     intro h2 h3
     rw [zbt.eq_1 (s.drop a), dif_neg n1, dif_neg, dif_neg h3]
     rw [hdrop]
     intro e
     simp [zeO] at e
     exact h2 (e.imp (fun e => by rw [← e]; rfl) (fun e => by rw [← e]; rfl))
    simp only [ssS, zdY, zdW, reduceIte, zdX]
    refine zaS (fun h2 => ?_) (fun h2 => ?_)
    ·have e2 : c.toNat = 32 := by have := eq_of_beq h2; omega
     simp only [h2, zas (show a < 4611686018427387904 by omega), ssS, zdY, zdW, reduceIte, zdX]
     exact ⟨s.length - (a + 1), by omega, a + 1, l, acc, m0, v, rfl, hlt, by omega, by omega, blank (.inl e2), hsub, hbuf, rfl, rfl, rfl⟩
    ·have e2 : ¬ c.toNat = 32 := by
      intro e
      rw [e] at h2
      cases h2
     simp only [h2, ssS, zdY, zdW, reduceIte, zdX]
     refine zak (fun h3 => ?_) (fun h3 => ?_)
     ·have e3 : c.toNat = 9 := by have := eq_of_beq h3; omega
      simp only [zas (show a < 4611686018427387904 by omega), ssS, zdY, zdW, reduceIte, zdX]
      exact ⟨s.length - (a + 1), by omega, a + 1, l, acc, m0, v, rfl, hlt, by omega, by omega, blank (.inr e3), hsub, hbuf, rfl, rfl, rfl⟩
     ·have e3 : ¬ c.toNat = 9 := by
       intro e
       rw [e] at h3
       cases h3
      simp only [ssS, zdY, zdW, reduceIte, zdX]
      refine zaS (fun h4 => ?_) (fun h4 => ?_)
      ·have e4 : c.toNat = 47 := by have := eq_of_beq h4; omega
       simp only [h4, zas (show a < 4611686018427387904 by omega), ssS, zdY, zdW, reduceIte, zdX]
       refine zaS (fun h5 => ?_) (fun h5 => ?_)
       ·have hlt2 : a + 1 < s.length := by have := of_decide_eq_true h5; omega
        have hx2 : s[a + 1]? = some s[a + 1] := by simp [hlt2]
        have hdrop2 : s.drop (a + 1) = s[a + 1] :: s.drop (a + 1 + 1) := zem hlt2
        generalize s[a + 1] = d at hx2 hdrop2
        simp only [h5, zbE hx2, zas (show a < 4611686018427387904 by omega), ssS, zdY, zdW, reduceIte, zdX]
        refine zak (fun h6 => ?_) (fun h6 => ?_)
        ·-- a remark
         have e6 : d.toNat = 47 := by have := eq_of_beq h6; omega
         have hpre2 : [47, 47].isPrefixOf (s.drop a) = true := by
          rw [hdrop, hdrop2, show c = 47 from UInt8.toNat_inj.1 e4, show d = 47 from UInt8.toNat_inj.1 e6]
          rfl
         have hno : ¬ ([32].isPrefixOf (s.drop a) || [9].isPrefixOf (s.drop a)) = true := by
          rw [hdrop, show c = 47 from UInt8.toNat_inj.1 e4]
          intro e
          simp [zeO] at e
         have hst := scanL_step (r := s.drop a) (a := a) (l := l) (k := ((s.drop a).takeWhile zdy).length) (l2 := l) (acc := acc) (by
          rw [zbt.eq_1 (s.drop a), dif_neg n1, dif_neg hno, dif_pos hpre2])
         rw [zex] at hst
         have hr0 := slash_run hpre2
         have hL : ((s.drop a).takeWhile zdy).length ≤ s.length - a := by
          have := (zei zdy (l := s.drop a)).length_le
          simpa using this
         generalize hW : ((s.drop a).takeWhile zdy).length = L at hst hr0 hL
         simp only [ssS, zdY, zdW, reduceIte, zdX]
         refine zbr (fun n st => ∃ j : Nat, n = s.length - (a + j) ∧ a + j ≤ s.length ∧ (∀ x ∈ (s.drop a).take j, zdy x = true) ∧ st.m = m1 ∧ st.t.length = 94 ∧ tget st.t 0 = bs s ∧ tget st.t 5 = v ∧ tget st.t 6 = it l ∧ tget st.t 7 = it ((a + j : Nat) : Int)) (s.length - a)
          ⟨0, rfl, by omega, by simp, rfl, rfl, rfl, rfl, rfl, rfl⟩ ?_
         rintro n2 ⟨t, m2⟩ ⟨j, hn2, hj, hpre, hm, hlen, h0, h5, h6, h7⟩
         simp only at hm h0 h5 h6 h7 hlen
         subst hm
         rw [t_eq hlen]
         simp only [zat, zaC, zdY, h0, h5, h6, h7]
         have out : L = j → ∃ n', n' < n ∧ ∃ (a' l' : Nat) (acc' : List Tk) (m0' : Store) (v' : V), n' = s.length - a' ∧ a' ≤ s.length ∧ l' ≤ a' + 1 ∧ acc'.length ≤ a' ∧ zc9 (s.drop a') a' l' acc' = res ∧ (∀ b x, m b = some x → m0' b = some x) ∧ Buf 179 5 m0' m2 v' (acc'.map tkV) ∧ v = v' ∧ it l = it l' ∧ it ((a + j : Nat) : Int) = it a' := by
          rintro rfl
          exact ⟨s.length - (a + L), by omega, a + L, l, acc, m0, v, rfl, by omega, by omega, by omega, by rw [← hst, hres], hsub, hbuf, rfl, rfl, rfl⟩
         simp only [ssS, zdY, zdW, reduceIte, zdX]
         refine zaS (fun h => ?_) (fun h => ?_)
         ·have hlt : a + j < s.length := by have := of_decide_eq_true h; omega
          have hx : s[a + j]? = some s[a + j] := by simp [hlt]
          have hr : (s.drop a)[j]? = some s[a + j] := by rw [List.getElem?_drop, hx]
          generalize s[a + j] = q at hx hr
          simp only [h, zbE hx, ssS, zdY, zdW, reduceIte, zdX]
          refine zak (fun hq => ?_) (fun hq => ?_)
          ·have hq2 : zdy q = true := by
            simp only [zdy, bne_iff_ne, ne_eq]
            intro e
            rw [e] at hq
            cases hq
           simp only [zas (show a + j < 4611686018427387904 by omega), ssS, zdY, zdW, reduceIte, zdX]
           refine ⟨s.length - (a + (j + 1)), by omega, j + 1, rfl, hlt, ?_, rfl⟩
           intro x hx
           rw [zeh, hr] at hx
           rcases List.mem_append.1 hx with hx | hx
           ·exact hpre x hx
           ·simp at hx
            subst hx
            exact hq2
          ·have hq2 : zdy q = false := by
            have : (q.toNat : Int) = 10 := by simpa using hq
            simp only [zdy, bne_eq_false_iff_eq]
            omega
           simp only [ssS, zdY, zdW, reduceIte, zdX]
           exact out (by rw [← hW]; exact zaZ hpre (by simp; omega) (fun b hb => by rw [hr] at hb; cases hb; exact hq2))
         ·have hge : a + j = s.length := by have := of_decide_eq_false h; omega
          simp only [h, ssS, zdY, zdW, reduceIte, zdX]
          exact out (by rw [← hW]; exact zaZ hpre (by simp; omega) (fun b hb => by rw [zeD (by simp; omega)] at hb; cases hb))
        ·simp only [ssS, zdY, zdW, reduceIte, zdX]
         refine tok (by omega) ?_
         rw [hdrop, hdrop2]
         intro e
         simp [zeO] at e
         rw [← e.2] at h6
         cases h6
       ·have hge : ¬ a + 1 < s.length := by have := of_decide_eq_false h5; omega
        simp only [h5, ssS, zdY, zdW, reduceIte, zdX]
        refine tok (by omega) ?_
        intro e
        have := zcH e
        simp at this
        omega
      ·simp only [h4, ssS, zdY, zdW, reduceIte, zdX]
       refine tok (by omega) ?_
       rw [hdrop]
       intro e
       simp [zeO] at e
       rw [← e.1] at h4
       cases h4
  ·have hge : a = s.length := by have := of_decide_eq_false h; omega
   have hok : res = .ok (acc ++ [⟨0, [], 0, l, s.length⟩]) := by
    have hsk : zbt [] a l = (a, l) := by
     rw [zbt.eq_1, dif_neg (by decide), dif_neg (by decide), dif_neg (by decide)]
    rw [← hres, show s.drop a = [] by rw [hge, zeE], scanL_eq, hsk, List.drop_nil]
    simp [scanN, tokL, hge]
   simp only [lit5, litV5_agg, ssS, zdY, zdW, reduceIte, zdX]
   refine appS_buf hbuf rfl (by intro c hc; simp [V.cells] at hc; rcases hc with rfl | rfl | rfl | rfl | rfl <;> rfl) (by simp; omega) fun m3 v3 hb3 => ?_
   obtain ⟨tok3, rfl⟩ := hb3.val
   simp only [ssS, zdY, zdW, reduceIte, zdX]
   refine zaR (m' := m) zby (fun c x hc => hb3.sub _ _ (hsub _ _ hc)) ⟨?_, rfl⟩
   rw [hok]
   refine ⟨tok3, ?_⟩
   rw [zeK]
   rfl
end Go.Av.Fn
/- The program's tokens of a text. No condition. -/
namespace Go.Av
section
variable {P : Program} {Γ : Glob} {Kp : V → Store → Prop}
theorem awp_range {f : Operand} {ps : List Tmp} {x y : za2} {Q : Ex → St → Prop} {t : List V} {m : Store} {g : FuncId} {first caps : List V} (hf : ev Γ t f = .fn (.func g) first caps)
  (h : ∀ H cx cy, comp P H cx = some x → comp P H cy = some y → ∀ fn l D, m l = none → zae P Γ g (first ++ [.fn (.yield l) [] []] ++ caps) (m.set l (.loop true fn t ps.toArray cx cy D)) fun o m' => (∃ v, o = .ret v) ∧ ∃ m₁, m' = m₁.set l (.loop true fn t ps.toArray cx cy D) ∧ m₁ l = none ∧ Q .normal ⟨t, m₁⟩) :
  awp P Γ Kp (.range f ps x y) Q ⟨t, m⟩ := by
 simp only [awp, hf]
 intro H cx cy h1 h2 fn l D hl
 refine (h H cx cy h1 h2 fn l D hl).mono fun o m' k => ?_
 obtain ⟨⟨v, rfl⟩, k⟩ := k
 exact k
theorem st_gen {Φ : List V → Prop} {t : List V} (h : ∀ T0, T0 = t → Φ T0) : Φ t := h t rfl
theorem tget_set_ne {t : List V} {i j : Nat} {v : V} (h : i ≠ j) : tget (t.set i v) j = tget t j := by
 rw [← za8, ← za8, zeb, zeb, List.getElem?_set, if_neg h]
theorem tget_set_same {t : List V} {i : Nat} {v : V} (h : i < t.length) : tget (t.set i v) i = v := by
 rw [← za8, zeb, List.getElem?_set]
 simp [h]
theorem Buf.del {e : TypeId} {size : Nat} {N m2 : Store} {v : V} {es : List V} {b : Nat} {x : Blk} (h : Buf e size (N.set b x) m2 v es) (hn : N b = none) :
  m2 b = some x ∧ ∃ M, Buf e size N M v es ∧ M b = none ∧ ∀ y, m2.set b y = M.set b y := by
 obtain ⟨h1, h2⟩ := h
 rcases h2 with ⟨h2, h3, rfl⟩ | ⟨h2, t, k, ht, rfl, h3⟩
 ·exact ⟨Store.set_same _ _ _, N, ⟨h1, .inl ⟨h2, h3, rfl⟩⟩, hn, fun y => Store.set_set _ _ _ _⟩
 ·have hne : t ≠ b := by rintro rfl; rw [Store.set_same] at ht; cases ht
  rw [Store.set_ne _ _ hne] at ht
  refine ⟨by rw [Store.set_ne _ _ hne.symm, Store.set_same], N.set t (.tip e k), ⟨h1, .inr ⟨h2, t, k, ht, rfl, h3⟩⟩, by rw [Store.set_ne _ _ hne.symm]; exact hn, fun y => ?_⟩
  funext c
  simp only [Store.set]
  by_cases e : c = b
  ·simp [e]
  ·simp [e]
end
end Go.Av
namespace Go.Av.Fn
set_option linter.unusedSimpArgs false
set_option linter.unusedVariables false
set_option maxRecDepth 10000
open Go.Proofs
def outSt (m : Store) (ob : Nat) (acc : List Tk) (m0 : Store) : Prop := ∃ N M v, (∀ b x, m b = some x → N b = some x) ∧ N ob = none ∧ Buf 179 5 N M v (acc.map tkV) ∧ M ob = none ∧ m0 = M.set ob (.var 194 [v])
theorem scan_ok {Γ : Glob} (L : LibOk Γ) (L2 : ParseOk Γ) (h0 : Γ 3 = some (zaP.map bs)) (h1 : Γ 2 = some (zaI.map bs)) {m : Store} (s : List UInt8) : zae Tryz.prog Γ 169 [bs s] m fun o m' => ScanOut (zdq s) o ∧ m' = m := by
 refine zaf mixed F169_ok (by
  rintro v m b x _ ⟨h, _⟩
  exfalso
  unfold ScanOut at h
  split at h
  ·obtain ⟨_, h⟩ := h
   cases h
  ·cases h) ?_
 simp only [F169, ss0, zd3, zdY]
 simp only [ssS, zdY, zdW, reduceIte, zdX]
 refine zak (fun h => ?_) (fun h => ?_)
 ·have hl : s.length > 4096 := by have := of_decide_eq_true h; omega
  simp only [ssS, zdY, zdW, reduceIte, zdX]
  refine zaq zby ⟨?_, rfl⟩
  unfold zdq
  rw [if_pos hl]
  rfl
 ·have hl : ¬ s.length > 4096 := by have := of_decide_eq_false h; omega
  have hres0 : zdq s = zc9 s 0 1 [] := by unfold zdq; rw [if_neg hl]
  rw [hres0]
  simp only [ssS, zdY, zdW, reduceIte, zdX]
  refine zar fun xb hxb => ?_
  simp only [ssS, zdY, zdW, reduceIte, zdX]
  refine zar fun ob hob => ?_
  have hxo : xb ≠ ob := by rintro rfl; rw [Store.set_same] at hob; cases hob
  have hob' : m ob = none := by rwa [Store.set_ne _ _ hxo.symm] at hob
  simp only [ssS, zdY, zdW, reduceIte, zdX]
  refine zcv tokens_ok ?_ (by rintro v m' ⟨_, _, ⟨⟩, _⟩)
  rintro v m' ⟨pb, hpb, hv, rfl⟩
  cases hv
  have hpo : pb ≠ ob := by rintro rfl; rw [Store.set_same] at hpb; cases hpb
  rw [Store.set_ne _ _ hpo] at hpb
  have hpx : pb ≠ xb := by rintro rfl; rw [Store.set_same] at hpb; cases hpb
  have hpb' : m pb = none := by rwa [Store.set_ne _ _ hpx] at hpb
  simp only [ssS, zdY, zdW, reduceIte, zdX]
  refine st_gen (Φ := fun t => awp _ _ _ _ _ ⟨t, _⟩) fun T0 hT0 => ?_
  have hlen : T0.length = 35 := by rw [hT0]; rfl
  have t5 : tget T0 5 = .ptr xb 0 := by rw [hT0]; rfl
  have t6 : tget T0 6 = .ptr ob 0 := by rw [hT0]; rfl
  have t15 : tget T0 15 = .fn (.func 216) [] [.ptr pb 0] := by rw [hT0]; rfl
  clear hT0
  refine awp_range (g := 216) (first := []) (caps := [.ptr pb 0]) (by simp only [ev_tmp]; exact t15) ?_
  intro H cx cy hcx hcy fn l D hl0
  have hlp : l ≠ pb := by rintro rfl; rw [Store.set_same] at hl0; cases hl0
  rw [Store.set_ne _ _ hlp] at hl0
  have hlo : l ≠ ob := by rintro rfl; rw [Store.set_same] at hl0; cases hl0
  rw [Store.set_ne _ _ hlo] at hl0
  have hlx : l ≠ xb := by rintro rfl; rw [Store.set_same] at hl0; cases hl0
  rw [Store.set_ne _ _ hlx] at hl0
  have hst : ((((m.set xb (.var 245 [bs s, it 0, it 1, it 0])).set ob (.var 194 [.sl [] [] .full])).set pb (.var 243 [.ptr xb 0])).set l (.loop true fn T0 [16].toArray cx cy D))
    = ((((m.set ob (.var 194 [.sl [] [] .full])).set l (.loop true fn T0 [16].toArray cx cy D)).set pb (.var 243 [.ptr xb 0])).set xb (.var 245 [bs s, it 0, it 1, it 0])) := by
   funext c
   simp only [Store.set]
   by_cases e1 : c = l
   ·subst e1; simp [hlp, hlx]
   ·by_cases e2 : c = pb
    ·subst e2; simp [e1, hpx]
    ·by_cases e3 : c = ob
     ·subst e3; simp [e1, e2, hxo.symm]
     ·simp [e1, e2, e3]
  have hy : ∀ acc t mC, acc.length ≤ 4096 → (∃ m0, m0 l = none ∧ mC = m0.set l (.loop true fn T0 [16].toArray cx cy D) ∧ outSt m ob acc m0) →
    zbs Tryz.prog Γ l [tkV t] mC fun o m' => o = .ret (.val (.bool true)) ∧ ∃ m0, m0 l = none ∧ m' = m0.set l (.loop true fn T0 [16].toArray cx cy D) ∧ outSt m ob (acc ++ [t]) m0 := by
   rintro acc tk mC hacc ⟨m0, hm0, rfl, N, M, v, k1, k2, k3, k4, rfl⟩
   refine (ayields_of_awp mixed hcx hcy rfl rfl (R := fun m1 => outSt m ob (acc ++ [tk]) m1) hm0 rfl ?_).mono ?_
   ·refine st_gen (Φ := fun t => awp _ _ _ _ _ ⟨t, _⟩) fun T1 hT1 => ?_
    have l1 : T1.length = 35 := by rw [hT1]; exact (List.length_set ..).trans hlen
    have u6 : tget T1 6 = .ptr ob 0 := by rw [hT1]; exact (tget_set_ne (by decide)).trans t6
    have u16 : tget T1 16 = tkV tk := by rw [hT1]; exact tget_set_same (by omega)
    clear hT1
    rw [t_eq l1]
    simp only [zat, zaC, zdY, u6, u16]
    simp only [ssS, zdY, zdW, reduceIte, zdX]
    refine zar fun b hb => ?_
    have hbo : b ≠ ob := by rintro rfl; rw [Store.set_same] at hb; cases hb
    have hMb : M b = none := by rwa [Store.set_ne _ _ hbo] at hb
    have hn : ∀ m' x, (Store.set m' b x) ob = m' ob := fun m' x => Store.set_ne m' x hbo.symm
    have hn2 : ∀ m' x, (Store.set m' ob x) b = m' b := fun m' x => Store.set_ne m' x hbo
    obtain ⟨tok, rfl⟩ := k3.val
    simp only [cells_tk, Store.set_same, Store.set_set, hn, hn2, lit5, litV5_agg, ssS, zdY, zdW, reduceIte, zdX]
    have hNb : N b = none := by
     cases hc : N b with
     | none => rfl
     | some x => rw [k3.sub _ _ hc] at hMb; cases hMb
    have hbuf := (k3.add (x := .var 179 [it tk.k, bs tk.s, it tk.n, it tk.l, it tk.a]) hMb).add (b := ob) (x := .var 194 [.sl (acc.map tkV) [] tok]) (by rw [hn]; exact k4)
    rw [set_comm M _ _ hbo] at hbuf
    refine appS_buf hbuf rfl (by intro c hc; simp [V.cells] at hc; rcases hc with rfl | rfl | rfl | rfl | rfl <;> rfl) (by simp; omega) fun m3 v3 hb3 => ?_
    obtain ⟨d1, M', d2, d3, d4⟩ := hb3.del (b := ob) (by rw [hn]; exact k2)
    obtain ⟨tok3, rfl⟩ := hb3.val
    simp only [d1, ssS, zdY, zdW, reduceIte, zdX]
    refine ⟨N.set b (.var 179 [it tk.k, bs tk.s, it tk.n, it tk.l, it tk.a]), M', _, fun c x hc => ?_, by rw [hn]; exact k2, by rw [zeK]; exact d2, d3, d4 _⟩
    rw [Store.set_ne _ _ (by rintro rfl; rw [k1 _ _ hc] at hNb; cases hNb)]
    exact k1 _ _ hc
   ·rintro o m' ⟨m₁, rfl, hn, rfl, hR⟩
    exact ⟨rfl, m₁, hn, rfl, hR⟩
  have key := tokens1_ok L L2 h0 h1 (y := l) (J := fun acc mC => ∃ m0, m0 l = none ∧ mC = m0.set l (.loop true fn T0 [16].toArray cx cy D) ∧ outSt m ob acc m0) (xb := xb) (pb := pb) (Ne.symm hpx) s (by omega) hy
   (mC := (m.set ob (.var 194 [.sl [] [] .full])).set l (.loop true fn T0 [16].toArray cx cy D)) ⟨m.set ob (.var 194 [.sl [] [] .full]), by rw [Store.set_ne _ _ hlo]; exact hl0, rfl, m, m, _, fun _ _ h => h, hob', Buf.start, hob', rfl⟩
   (by rw [Store.set_ne _ _ hlx.symm, Store.set_ne _ _ hxo]; exact hxb) (by rw [Store.set_ne _ _ hlp.symm, Store.set_ne _ _ hpo]; exact hpb')
  rw [← hst] at key
  refine zae.mono (R := fun o m' => rowOut _ xb pb s o m') key ?_
  rintro o m' ⟨rfl, acc, mC, a, ln, e, ⟨m0, hm0, rfl, N, M, v, k1, k2, k3, k4, rfl⟩, g1, g2, rfl, hr⟩
  refine ⟨⟨_, rfl⟩, (((M.set ob (.var 194 [v])).set pb (.var 243 [.ptr xb 0])).set xb (.var 245 [bs s, it a, it ln, it e])), ?_, ?_, ?_⟩
  ·funext c
   simp only [Store.set]
   by_cases e1 : c = l
   ·subst e1; simp [hlp, hlx]
   ·simp [e1]
  ·rw [Store.set_ne _ _ hlx, Store.set_ne _ _ hlp]; exact hm0
  ·have hxo2 : ∀ m' x, (Store.set m' xb x) ob = m' ob := fun m' x => Store.set_ne m' x hxo.symm
   have hpo2 : ∀ m' x, (Store.set m' pb x) ob = m' ob := fun m' x => Store.set_ne m' x hpo.symm
   have hsub : ∀ c x, m c = some x → (((M.set ob (.var 194 [v])).set pb (.var 243 [.ptr xb 0])).set xb (.var 245 [bs s, it a, it ln, it e])) c = some x := by
    intro c x hc
    rw [Store.set_ne _ _ (by rintro rfl; rw [hxb] at hc; cases hc), Store.set_ne _ _ (by rintro rfl; rw [hpb'] at hc; cases hc), Store.set_ne _ _ (by rintro rfl; rw [hob'] at hc; cases hc)]
    exact k3.sub _ _ (k1 _ _ hc)
   obtain ⟨tok, rfl⟩ := k3.val
   rw [t_eq hlen]
   simp only [zat, zaC, zdY, t5, t6, t15]
   cases hsc : zc9 s 0 1 [] with
   | ok lx =>
    rw [hsc] at hr
    obtain ⟨rfl, rfl⟩ := hr
    have hz : ((0 : Int) != 0) = false := rfl
    simp only [hz, Store.set_same, hxo2, hpo2, ssS, zdY, zdW, reduceIte, zdX]
    exact zaR (m' := m) zby hsub ⟨⟨tok, rfl⟩, rfl⟩
   | error p =>
    rw [hsc] at hr
    obtain ⟨a', e'⟩ := p
    obtain ⟨rfl, rfl, hne⟩ := hr
    have hz : ((e' : Int) != 0) = true := by simpa using hne
    simp only [hz, Store.set_same, hxo2, hpo2, ssS, zdY, zdW, reduceIte, zdX]
    exact zaR (m' := m) zby hsub ⟨rfl, rfl⟩
end Go.Av.Fn
/- A text's expression, and whether a command is right, in plain terms. No condition. -/
namespace Go.Av.Fn
set_option linter.unusedSimpArgs false
set_option linter.unusedVariables false
def exO : Option Ex → V
 | some e => exV e
 | none => exV (.mk 0 [] 0 [] 0)
structure Form where
 w : List UInt8
 least : Int
 n : Bool
 s : Bool
 deriving DecidableEq
def za4 : Form := ⟨[], 0, false, false⟩
def forms : List Form := [za4, ⟨[115, 116, 101, 112], 0, false, false⟩, ⟨[110, 101, 120, 116], 0, false, false⟩, ⟨[102, 105, 110, 105, 115, 104], 0, false, false⟩, ⟨[99, 111, 110, 116, 105, 110, 117, 101], 0, false, false⟩,
 ⟨[98, 97, 99, 107, 45, 115, 116, 101, 112], 0, false, false⟩, ⟨[98, 97, 99, 107, 45, 110, 101, 120, 116], 0, false, false⟩, ⟨[98, 97, 99, 107, 45, 102, 105, 110, 105, 115, 104], 0, false, false⟩, ⟨[98, 97, 99, 107, 45, 99, 111, 110, 116, 105, 110, 117, 101], 0, false, false⟩,
 ⟨[103, 111, 116, 111], 0, true, false⟩, ⟨[98, 114, 101, 97, 107], 1, true, true⟩, ⟨[119, 97, 116, 99, 104], 0, false, true⟩, ⟨[100, 101, 108, 101, 116, 101], 1, true, false⟩, ⟨[101, 110, 97, 98, 108, 101], 1, true, false⟩, ⟨[100, 105, 115, 97, 98, 108, 101], 1, true, false⟩,
 ⟨[117, 112], 0, false, false⟩, ⟨[100, 111, 119, 110], 0, false, false⟩, ⟨[112, 114, 105, 110, 116], 0, false, true⟩]
def zaV (k : Int) : Form := if k < 0 then za4 else (forms[k.toNat]?).getD za4
def formV (f : Form) : V := .agg [bs f.w, it f.least, .val (.bool f.n), .val (.bool f.s)]
def cmdV (k n : Int) (s : List UInt8) : V := .agg [it k, it n, bs s]
theorem Good.end_ : ∀ (l : List Tk) (t : Tk), t.k = 0 → Good (l ++ [t])
 | [], t, h => h
 | [a], t, h => h
 | a :: b :: l, t, h => Good.end_ (b :: l) t h
theorem scanL_good {r : List UInt8} {a l : Nat} {acc L : List Tk} (h : zc9 r a l acc = .ok L) : Good L := by
 fun_induction zc9 r a l acc with
 | case1 r a l acc x r' e h1 h2 => cases h; exact Good.end_ _ _ rfl
 | case2 r a l acc x r' e h1 h2 => cases h
 | case3 r a l acc x r' t n h1 ih => exact ih h
theorem scanR_good {s : List UInt8} {L : List Tk} (h : zdq s = .ok L) : Good L := by
 unfold zdq at h
 split at h
 ·cases h
 ·exact scanL_good h
theorem scanL_len {r : List UInt8} {a l : Nat} {acc L : List Tk} (h : zc9 r a l acc = .ok L) : L.length ≤ acc.length + r.length + 1 := by
 fun_induction zc9 r a l acc with
 | case1 r a l acc x r' e h1 h2 => cases h; simp
 | case2 r a l acc x r' e h1 h2 => cases h
 | case3 r a l acc x r' t n h1 ih =>
  have := ih h
  have h4 := tokL_len h1
  have h5 : r'.length ≤ r.length := by
   show (r.drop _).length ≤ r.length
   rw [zeF]; omega
  simp at this
  omega
theorem scanR_len {s : List UInt8} {L : List Tk} (h : zdq s = .ok L) : L.length ≤ 4097 := by
 unfold zdq at h
 split at h
 ·cases h
 ·have := scanL_len h
  simp at this
  omega
theorem run_expr {l : List Tk} (h : Good l) : ∃ p, run (10 * l.length + 9) (.ex 0) l = some p ∧ Sgl p ∧ Fit false 0 l p := by
 obtain ⟨p, h1, h2⟩ := run_fits (10 * l.length + 9) (.ex 0) l h (by simp [zc3]) (by simp [zcR])
 refine ⟨p, h1, ?_, h2⟩
 cases p with
 | ok es l1 => exact h2.2.2 rfl
 | st l1 => trivial
end Go.Av.Fn
/- errors.As at a reader that is stuck: true, and the target is that reader. Condition: what errors.errorType holds. -/
namespace Go.Av.Fn
open Go.RowKit Go.Extern.Stop Go.Stop Go.Extern Go.Proofs
set_option linter.unusedSimpArgs false
set_option linter.unusedVariables false
theorem e_valueOfP (t : Addr) (w : World) : (ReflectliteValue.unpack (.iface 218 (.pointer (some t)))).run Tryz.prog w
  = .ok (.agg #[.pointer (some ⟨9, 218, none⟩), .pointer (some ⟨w.heap.size, 0, none⟩), .int .u64 150]) (w.alloc (.cells #[.pointer (some t)] 218)) := by kernel_rfl
theorem e_typeP (a : Addr) (w : World) : (ReflectliteValue.methodAny (ReflectliteValue.valueError "reflectlite.Value.Type" 0) (fun t _ _ _ => ReflectliteType.toType t) #[.agg #[.pointer (some ⟨9, 218, none⟩), .pointer (some a), .int .u64 150]]).run Tryz.prog w
  = .ok (.iface 289 (.agg #[.pointer (some ⟨9, 218, none⟩)])) w := by kernel_rfl
theorem e_methodKind (h : Value) (w : World) : (Go.method 500 289 (.agg #[h]) "Kind").run Tryz.prog w = .ok (283, h) w := by kernel_rfl
theorem e_kindP (w : World) : ((ReflectliteType.abiMethod fun t => (fun a : Nat => Value.int IntKind.u8 (a : Int)) <$> Rtype.kind t) #[.pointer (some ⟨9, 218, none⟩)]).run Tryz.prog w = .ok (.int .u8 22) w := by kernel_rfl
theorem e_kindT (w : World) : ((ReflectliteType.abiMethod fun t => (fun a : Nat => Value.int IntKind.u8 (a : Int)) <$> Rtype.kind t) #[.pointer (some ⟨9, 215, none⟩)]).run Tryz.prog w = .ok (.int .u8 22) w := by kernel_rfl
theorem e_rlm (z : Sem Value) (f : TypeId → Addr → Nat → Nat → Sem Value) (v : Value) :
  ReflectliteValue.method z f #[v] = (do match ← ReflectliteValue.parts v with | none => z | some (t, a, fl) => f t a fl (fl % 32)) := rfl
theorem e_partsP (a : Addr) (w : World) : (ReflectliteValue.parts (.agg #[.pointer (some ⟨9, 218, none⟩), .pointer (some a), .int .u64 150])).run Tryz.prog w = .ok (some (218, a, 150)) w := by kernel_rfl
theorem e_isNilP (a p : Addr) (W : World) (ha : W.cell? a = some (.pointer (some p))) :
  (ReflectliteValue.method (ReflectliteValue.valueError "reflectlite.Value.IsNil" 0) ReflectliteValue.isNil #[.agg #[.pointer (some ⟨9, 218, none⟩), .pointer (some a), .int .u64 150]]).run Tryz.prog W = .ok (.bool false) W := by
 rw [e_rlm]
 simp only [Sem.run_bind, e_partsP, Result.andThen]
 simp [ReflectliteValue.isNil, loadVar, isAgg, underlying, Tryz.underlying218, ha, Result.andThen]
theorem e_methodElem (h : Value) (w : World) : (Go.method 500 289 (.agg #[h]) "Elem").run Tryz.prog w = .ok (298, .agg #[h]) w := by kernel_rfl
theorem e_methodImplements (h : Value) (w : World) : (Go.method 500 289 (.agg #[h]) "Implements").run Tryz.prog w = .ok (299, .agg #[h]) w := by kernel_rfl
theorem e_methodAssignableTo (h : Value) (w : World) : (Go.method 500 289 (.agg #[h]) "AssignableTo").run Tryz.prog w = .ok (296, .agg #[h]) w := by kernel_rfl
theorem e_elemP (w : World) : (ReflectliteType.method ReflectliteType.elem #[.agg #[.pointer (some ⟨9, 218, none⟩)]]).run Tryz.prog w = .ok (.iface 289 (.agg #[.pointer (some ⟨9, 215, none⟩)])) w := by kernel_rfl
theorem e_implementsT (w : World) : (ReflectliteType.relation "Implements" ReflectliteType.implements_ #[.agg #[.pointer (some ⟨9, 215, none⟩)], .iface 289 (.agg #[.pointer (some ⟨9, 163, none⟩)])]).run Tryz.prog w = .ok (.bool true) w := by kernel_rfl
theorem e_typeOfT (v : Value) (w : World) : (ReflectliteType.typeOf #[.iface 215 v]).run Tryz.prog w = .ok (.iface 289 (.agg #[.pointer (some ⟨9, 215, none⟩)])) w := by kernel_rfl
theorem e_assignableT (w : World) : (ReflectliteType.relation "AssignableTo" ReflectliteType.assignableTo #[.agg #[.pointer (some ⟨9, 215, none⟩)], .iface 289 (.agg #[.pointer (some ⟨9, 215, none⟩)])]).run Tryz.prog w = .ok (.bool true) w := by kernel_rfl
theorem e_valueOfT (e : Addr) (w : World) : (ReflectliteValue.unpack (.iface 215 (.pointer (some e)))).run Tryz.prog w
  = .ok (.agg #[.pointer (some ⟨9, 215, none⟩), .pointer (some ⟨w.heap.size, 0, none⟩), .int .u64 150]) (w.alloc (.cells #[.pointer (some e)] 215)) := by kernel_rfl
theorem e_elemOfP (w : World) : (Rtype.elem? 218).run Tryz.prog w = .ok (some 215) w := by kernel_rfl
theorem e_mkT (p : Addr) (w : World) : (ReflectliteValue.mk 215 p ReflectliteValue.flagAddr).run Tryz.prog w = .ok (.agg #[.pointer (some ⟨9, 215, none⟩), .pointer (some p), .int .u64 406]) w := by kernel_rfl
theorem e_elemVP (a p : Addr) (W : World) (ha : W.cell? a = some (.pointer (some p))) :
  (ReflectliteValue.method (ReflectliteValue.valueError "reflectlite.Value.Elem" 0) ReflectliteValue.elem #[.agg #[.pointer (some ⟨9, 218, none⟩), .pointer (some a), .int .u64 150]]).run Tryz.prog W
   = .ok (.agg #[.pointer (some ⟨9, 215, none⟩), .pointer (some p), .int .u64 406]) W := by
 rw [e_rlm]
 simp only [Sem.run_bind, e_partsP, Result.andThen]
 simp [ReflectliteValue.elem, loadVar, isAgg, underlying, Tryz.underlying218, ha, Result.andThen, e_elemOfP, e_mkT]
theorem e_rls (v x : Value) : ReflectliteValue.set #[v, x] = (do
  let (some (dst, a, fl), some (src, b, _)) := (← ReflectliteValue.parts v, ← ReflectliteValue.parts x)
   | unsupported (.noEntry "extern/(internal/reflectlite.Value).Set.zeroValue")
  if fl / ReflectliteValue.flagAddr % 2 == 0 then unsupported (.noEntry "extern/(internal/reflectlite.Value).Set.unaddressable")
  let val ← loadVar src b
  if ← Rtype.directlyAssignable dst src then storeVar dst a val
  else if ← Rtype.implements dst src then
   if (← Rtype.kind src) == 20 then
    match val with
    | .nilIface => unsupported (.noEntry "extern/reflectlite: a nil value of one interface type handed on as a value of another")
    | _ => storeVar dst a val
   else storeVar dst a (.iface src val)
  else panicString ("reflectlite.Set: value of type " ++ (← Rtype.spelt src) ++ " is not assignable to type " ++ (← Rtype.spelt dst))
  pure (.tuple #[])) := rfl
theorem e_partsTa (a : Addr) (w : World) : (ReflectliteValue.parts (.agg #[.pointer (some ⟨9, 215, none⟩), .pointer (some a), .int .u64 406])).run Tryz.prog w = .ok (some (215, a, 406)) w := by kernel_rfl
theorem e_partsT (a : Addr) (w : World) : (ReflectliteValue.parts (.agg #[.pointer (some ⟨9, 215, none⟩), .pointer (some a), .int .u64 150])).run Tryz.prog w = .ok (some (215, a, 150)) w := by kernel_rfl
theorem e_directT (w : World) : (Rtype.directlyAssignable 215 215).run Tryz.prog w = .ok true w := by kernel_rfl
theorem e_setT (ta b e : Addr) (old : Value) (W : World) (hb : W.cell? b = some (.pointer (some e))) (ht : W.cell? ta = some old) (hf : W.frozen? ta = false) :
  (ReflectliteValue.set #[.agg #[.pointer (some ⟨9, 215, none⟩), .pointer (some ta), .int .u64 406], .agg #[.pointer (some ⟨9, 215, none⟩), .pointer (some b), .int .u64 150]]).run Tryz.prog W
   = .ok (.tuple #[]) (W.setCell ta (.pointer (some e))) := by
 rw [e_rls]
 simp only [Sem.run_bind, e_partsTa, e_partsT, Result.andThen]
 simp [ReflectliteValue.flagAddr, loadVar, isAgg, underlying, Tryz.underlying215, hb, Result.andThen, e_directT, storeVar, Value.cells, storeCells, Addr.add]
 rw [run_store Tryz.prog W ta _ _ (by rfl)]
 simp [ht, hf]
def asWorld (w : World) (e t : Addr) : World := ((((w.alloc (.cells #[.pointer (some t)] 218)).alloc (.cells #[.pointer (some ⟨9, 218, none⟩), .pointer (some ⟨w.heap.size, 0, none⟩), .int .u64 150] 251)).alloc (.cells #[.pointer (some ⟨9, 218, none⟩), .pointer (some ⟨w.heap.size, 0, none⟩), .int .u64 150] 251)).alloc (.cells #[.pointer (some e)] 215)).setCell t (.pointer (some e))
set_option maxHeartbeats 8000000 in
theorem as_hit (e t : Addr) (old : Value) (w : World) (hg : w.cell? ⟨6, 0, none⟩ = some (.iface 289 (.agg #[.pointer (some ⟨9, 163, none⟩)]))) (ht0 : w.cell? t = some old) (hf0 : w.frozen? t = false) :
  Calls Tryz.prog 171 #[.iface 215 (.pointer (some e)), .iface 218 (.pointer (some t))] w fun ev w' => ev = .returned (.bool true) ∧ w' = asWorld w e t := by
 have h6 := @run_callFunc_extern Tryz.prog 197 _ (fun args => ReflectliteValue.unpack (args.getD 0 (.tuple #[]))) Tryz.func197 (by kernel_rfl) (by kernel_rfl) (by kernel_rfl) (by kernel_rfl)
 have h7 := @run_callFunc_extern Tryz.prog 198 _ (ReflectliteValue.methodAny (ReflectliteValue.valueError "reflectlite.Value.Type" 0) (fun t _ _ _ => ReflectliteType.toType t)) Tryz.func198 (by kernel_rfl) (by kernel_rfl) (by kernel_rfl) (by kernel_rfl)
 have h8 := @run_callFunc_extern Tryz.prog 199 _ (ReflectliteValue.method (ReflectliteValue.valueError "reflectlite.Value.IsNil" 0) ReflectliteValue.isNil) Tryz.func199 (by kernel_rfl) (by kernel_rfl) (by kernel_rfl) (by kernel_rfl)
 have h27 := @run_callFunc_extern Tryz.prog 283 _ (ReflectliteType.abiMethod fun t => do pure (.int .u8 (← Rtype.kind t))) Tryz.func283 (by kernel_rfl) (by kernel_rfl) (by kernel_rfl) (by kernel_rfl)
 have h37 := @run_callFunc_extern Tryz.prog 298 _ (ReflectliteType.method ReflectliteType.elem) Tryz.func298 (by kernel_rfl) (by kernel_rfl) (by kernel_rfl) (by kernel_rfl)
 have h38 := @run_callFunc_extern Tryz.prog 299 _ (ReflectliteType.relation "Implements" ReflectliteType.implements_) Tryz.func299 (by kernel_rfl) (by kernel_rfl) (by kernel_rfl) (by kernel_rfl)
 have h10 := @run_callFunc_extern Tryz.prog 219 _ ReflectliteType.typeOf Tryz.func219 (by kernel_rfl) (by kernel_rfl) (by kernel_rfl) (by kernel_rfl)
 have h35 := @run_callFunc_extern Tryz.prog 296 _ (ReflectliteType.relation "AssignableTo" ReflectliteType.assignableTo) Tryz.func296 (by kernel_rfl) (by kernel_rfl) (by kernel_rfl) (by kernel_rfl)
 have h11 := @run_callFunc_extern Tryz.prog 220 _ (ReflectliteValue.method (ReflectliteValue.valueError "reflectlite.Value.Elem" 0) ReflectliteValue.elem) Tryz.func220 (by kernel_rfl) (by kernel_rfl) (by kernel_rfl) (by kernel_rfl)
 have h12 := @run_callFunc_extern Tryz.prog 221 _ ReflectliteValue.set Tryz.func221 (by kernel_rfl) (by kernel_rfl) (by kernel_rfl) (by kernel_rfl)
 have tO := e_typeOfT
 have mA := e_methodAssignableTo
 have a25 := e_assignableT
 have v25 := e_valueOfT
 have f6 := e_valueOfP
 have f7 := e_typeP
 have mK := e_methodKind
 have mE := e_methodElem
 have mI := e_methodImplements
 have k27 := e_kindP
 have k25 := e_kindT
 have e27 := e_elemP
 have i25 := e_implementsT
 have n8 := e_isNilP ⟨w.heap.size, 0, none⟩ t ((w.alloc (.cells #[.pointer (some t)] 218)).alloc (.cells #[.pointer (some ⟨9, 218, none⟩), .pointer (some ⟨w.heap.size, 0, none⟩), .int .u64 150] 251)) (by simp)
 have hlt : 6 < w.heap.size := by
  rcases Nat.lt_or_ge 6 w.heap.size with h | h
  ·exact h
  ·simp [World.cell?, Array.getElem?_eq_none h] at hg
 have hg2 : ((w.alloc (.cells #[.pointer (some t)] 218)).alloc (.cells #[.pointer (some ⟨9, 218, none⟩), .pointer (some ⟨w.heap.size, 0, none⟩), .int .u64 150] 251)).cell? ⟨6, 0, none⟩ = some (.iface 289 (.agg #[.pointer (some ⟨9, 163, none⟩)])) := by
  rw [World.cell?_alloc_lt _ _ ⟨6, 0, none⟩ (by simp; omega), World.cell?_alloc_lt _ _ ⟨6, 0, none⟩ hlt]; exact hg
 have htl : t.block < w.heap.size := by
  rcases Nat.lt_or_ge t.block w.heap.size with h | h
  ·exact h
  ·simp [World.cell?, Array.getElem?_eq_none h] at ht0
 have el := e_elemVP ⟨w.heap.size, 0, none⟩ t (((w.alloc (.cells #[.pointer (some t)] 218)).alloc (.cells #[.pointer (some ⟨9, 218, none⟩), .pointer (some ⟨w.heap.size, 0, none⟩), .int .u64 150] 251)).alloc (.cells #[.pointer (some ⟨9, 218, none⟩), .pointer (some ⟨w.heap.size, 0, none⟩), .int .u64 150] 251)) (by rw [World.cell?_alloc_lt _ _ ⟨w.heap.size, 0, none⟩ (by simp; omega)]; simp)
 have st := e_setT t ⟨w.heap.size + 1 + 1 + 1, 0, none⟩ e old ((((w.alloc (.cells #[.pointer (some t)] 218)).alloc (.cells #[.pointer (some ⟨9, 218, none⟩), .pointer (some ⟨w.heap.size, 0, none⟩), .int .u64 150] 251)).alloc (.cells #[.pointer (some ⟨9, 218, none⟩), .pointer (some ⟨w.heap.size, 0, none⟩), .int .u64 150] 251)).alloc (.cells #[.pointer (some e)] 215))
  (by rw [World.cell?_alloc_at _ _ _ _ (by simp)]; rfl)
  (by rw [World.cell?_alloc_lt _ _ t (by simp; omega), World.cell?_alloc_lt _ _ t (by simp; omega), World.cell?_alloc_lt _ _ t (by simp; omega), World.cell?_alloc_lt _ _ t htl]; exact ht0)
  (by rw [World.frozen?_alloc_old _ _ t (by simp; omega), World.frozen?_alloc_old _ _ t (by simp; omega), World.frozen?_alloc_old _ _ t (by simp; omega), World.frozen?_alloc_old _ _ t (Nat.ne_of_lt htl)]; exact hf0)
 unfold asWorld
 go_enter Tryz.func171, Tryz.ntmps171
 go_wp2
 refine wp_loop_rounds 1 ?_
 rw [rounds_succ]
 go_wp2
 go_ret
 exact ⟨rfl, rfl⟩
end Go.Av.Fn
/- errors.As at a reader that is stuck, over abstract values. Condition: what errors.errorType holds. -/
namespace Go.Av.Fn
open Go.RowKit Go.Proofs
set_option linter.unusedSimpArgs false
set_option linter.unusedVariables false
theorem as_ok {Γ : Glob} (hΓ : Γ 6 = some [.ifc 289 (.agg [.ptr 9 163])]) {m : Store} {e eo t : Nat} {c : V} (ht : m t = some (.var 215 [c])) :
  zae Tryz.prog Γ 171 [.ifc 215 (.ptr e eo), .ifc 218 (.ptr t 0)] m fun o m' => o = .ret (.val (.bool true)) ∧ m' = m.set t (.var 215 [.ptr e eo]) := by
 refine ⟨by kernel_rfl, fun G B0 mF w cargs hD hR hL => ?_⟩
 obtain ⟨u1, us1, rfl, r1, hL⟩ := hL.cons_inv
 obtain ⟨u2, us2, rfl, r2, hL⟩ := hL.cons_inv
 obtain rfl := hL.nil_inv
 have hu1 : u1 = .iface 215 (.pointer (some ⟨e, eo, none⟩)) := by
  cases r1 with
  | ifc r1 => cases r1; rfl
 have hu2 : u2 = .iface 218 (.pointer (some ⟨t, 0, none⟩)) := by
  cases r2 with
  | ifc r2 => cases r2; rfl
 subst hu1
 subst hu2
 have hM : (m.or mF) t = some (.var 215 [c]) := zbK ht
 obtain ⟨hB, ⟨us, h2, h3⟩, h4⟩ := hR.var t _ _ hM
 obtain ⟨old, us', rfl, r3, r4⟩ := h3.cons_inv
 obtain rfl := r4.nil_inv
 obtain ⟨gs, g1, g2⟩ := hR.glob _ _ hΓ
 obtain ⟨gv, gs', rfl, g3, g4⟩ := g1.cons_inv
 have hgv : gv = .iface 289 (.agg #[.pointer (some ⟨9, 163, none⟩)]) := by
  cases g3 with
  | ifc g3 =>
   cases g3 with
   | agg g5 =>
    obtain ⟨gp, gs'', rfl, g6, g7⟩ := g5.cons_inv
    obtain rfl := g7.nil_inv
    cases g6
    rfl
 subst hgv
 have hg := hR.K _ _ _ (g2.2 0 _ rfl)
 have ht0 : w.cell? ⟨t, 0, none⟩ = some old := by simp [World.cell?, h2]
 have hf0 : w.frozen? ⟨t, 0, none⟩ = false := by simp [World.frozen?, h2]
 refine (as_hit ⟨e, eo, none⟩ ⟨t, 0, none⟩ old w hg ht0 hf0).mono ?_
 rintro ev w' ⟨rfl, rfl⟩
 refine ⟨G, m.set t (.var 215 [.ptr e eo]), .ret (.val (.bool true)), Gh.le.refl G, hD.set _ (hD.of_some ht), ?_, ?_, .ret (.val rfl), rfl, rfl⟩
 ·rw [or_set]
  exact ((((hR.alloc _).alloc _).alloc _).alloc _).store hM (o := 0) (.ptr e eo)
 ·refine Below.setCell (((((Below.refl B0 w).alloc hR.base _).alloc ?_ _).alloc ?_ _).alloc ?_ _) hB _
  all_goals (simp only [World.size_alloc]; have := hR.base; omega)
end Go.Av.Fn
/- A text read by the parser, and what it says when it can't go on. Condition: what errors.errorType holds. -/
namespace Go.Av
section
variable {P : Program} {Γ : Glob} {l : List Item} {t : List V} {m : Store} {d : Option Tmp}
theorem runP_cons {Kp : V → St → Prop} {K : St → Prop} {g : Option (Tmp × Bool)} {ao : AOp} : runP P Γ Kp (⟨d, g, ao, []⟩ :: l) K ⟨t, m⟩ = runO P Γ (fun v m' => Kp v ⟨t, m'⟩) [⟨d, g, ao, []⟩] (runP P Γ Kp l K) (some ⟨t, m⟩) := by
 apply propext
 simp only [runP, stepP, runO, runA, stepA, zaJ, List.not_mem_nil, false_implies, implies_true, true_and]
theorem runP_nil {Kp : V → St → Prop} {K : St → Prop} {st : St} : runP P Γ Kp [] K st = K st := rfl
theorem awpP_row {Kp : V → St → Prop} {Q : Ex → St → Prop} {st : St} : awpP P Γ Kp (.row l) Q st = runP P Γ Kp l (Q .normal) st := rfl
theorem awpP_seq {Kp : V → St → Prop} {Q : Ex → St → Prop} {a b : PCode} {st : St} : awpP P Γ Kp (.seq a b) Q st = awpP P Γ Kp a (thenA (awpP P Γ Kp b Q) Q) st := rfl
theorem awpP_code {Kp : V → St → Prop} {Q : Ex → St → Prop} {c : za2} {st : St} : awpP P Γ Kp (.code c) Q st = awp P Γ (fun _ _ => False) c Q st := rfl
def condP (v : V) (A B : Prop) : Prop := match v with
 | .val (.bool t) => (t = true → A) ∧ (t = false → B)
 | _ => False
theorem awpP_cond {Kp : V → St → Prop} {Q : Ex → St → Prop} {c : Operand} {a b : PCode} : awpP P Γ Kp (.cond c a b) Q ⟨t, m⟩ = condP (ev Γ t c) (awpP P Γ Kp a Q ⟨t, m⟩) (awpP P Γ Kp b Q ⟨t, m⟩) := (rfl)
theorem condP_true {A B : Prop} : condP (.val (.bool true)) A B = A := by simp [condP]
theorem condP_false {A B : Prop} : condP (.val (.bool false)) A B = B := by simp [condP]
theorem runA_O {Kp : V → Store → Prop} {K : St → Prop} {st : St} : runA P Γ Kp l K st = runO P Γ Kp l K (some st) := rfl
theorem put_none {st : St} {v : V} : st.put none v = st := rfl
theorem q_asrt {T : TypeId} {x : Operand} : za1 (.asrt T x) = true := (rfl)
theorem eval_asrt {T : TypeId} {x : Operand} : zan P (ev Γ t) m (.asrt T x) = asrtV P T (ev Γ t x) := rfl
end
end Go.Av
namespace Go.Av.Fn
set_option linter.unusedSimpArgs false
set_option linter.unusedVariables false
set_option maxRecDepth 10000
open Go.Proofs
def readT (l : List Tk) : Option Ex × Int × Int := match run (10 * l.length + 9) (.ex 0) l with
 | some (.ok [e] (t :: _)) => if t.k = 0 then (some e, 0, 0) else (none, t.a, 6)
 | some (.st (t :: _)) => (none, t.a, 6)
 | _ => (none, 0, 0)
def zcy (s : List UInt8) : Option Ex × Int × Int := match zdq s with
 | .error (a, e) => (none, a, e)
 | .ok l => readT l
def triV (r : Option Ex × Int × Int) : V := .tup [exO r.1, it r.2.1, it r.2.2]
theorem nil_is : binV Tryz.prog .eql 20 .iface (.tmp 9) (.const .nilIface) (.val .nilIface) (.val .nilIface) = some (.val (.bool true)) := by kernel_rfl
theorem asrt_st {b : Nat} : asrtV Tryz.prog 163 (.ifc 215 (.ptr b 0)) = some (.tup [.ifc 215 (.ptr b 0), .val (.bool true)]) := by kernel_rfl
section
variable {Γ : Glob} {m : Store} {xb ab eb : Nat}
theorem read1_none : zc8 Tryz.prog Γ 170 [.ptr xb 0, .ptr ab 0, .ptr eb 0] m none (fun m' => m' = m) := by
 refine adcalls_of_awp mixed R170_ok ?_
 have hs : startR R170 [.ptr xb 0, .ptr ab 0, .ptr eb 0] m none = ⟨[.ptr xb 0, .ptr ab 0, .ptr eb 0, .val .nilIface, un, un, un, un, .val .nilIface, un, un, un, un, un, un, un, un, un, un, un, un, un, un, un, un, un, un, un], m⟩ := rfl
 rw [hs]
 simp only [R170]
 simp only [nil_is, ssS, zdY, zdW, reduceIte, zdX]
 exact ⟨⟨_, rfl⟩, rfl⟩
theorem read1_some (hΓ : Γ 6 = some [.ifc 289 (.agg [.ptr 9 163])]) {b : Nat} {a : Int} {c1 : List V} {c2 c3 : V} (hb : m b = some (.var 220 [it a])) (hx : m xb = some (.var 170 c1)) (h1 : c1.length = 5) (ha : m ab = some (.var 3 [c2])) (he : m eb = some (.var 25 [c3])) (hxa : xb ≠ ab) (hxe : xb ≠ eb) (hae : ab ≠ eb) :
  zc8 Tryz.prog Γ 170 [.ptr xb 0, .ptr ab 0, .ptr eb 0] m (some (stV b)) (fun m' => m' xb = some (.var 170 zE) ∧ m' ab = some (.var 3 [it a]) ∧ m' eb = some (.var 25 [it 6]) ∧ ∀ c x, c ≠ xb → c ≠ ab → c ≠ eb → m c = some x → m' c = some x) := by
 refine adcalls_of_awp mixed R170_ok ?_
 have hs : startR R170 [.ptr xb 0, .ptr ab 0, .ptr eb 0] m (some (stV b)) = ⟨[.ptr xb 0, .ptr ab 0, .ptr eb 0, stV b, un, un, un, un, stV b, un, un, un, un, un, un, un, un, un, un, un, un, un, un, un, un, un, un, un], m⟩ := rfl
 rw [hs]
 have hst : stV b = .ifc 215 (.ptr b 0) := rfl
 have hni : binV Tryz.prog .eql 20 .iface (.tmp 9) (.const .nilIface) (stV b) (.val .nilIface) = some (.val (.bool false)) := rfl
 simp only [R170]
 simp only [hni, ssS, zdY, zdW, reduceIte, zdX]
 refine zar fun b4 hb4 => ?_
 have n4 : ∀ {c x}, m c = some x → c ≠ b4 := fun h => zam h hb4
 simp only [q_asrt, eval_asrt, asrt_st, hst, ssS, zdY, zdW, reduceIte, zdX]
 refine zaX (as_ok hΓ (c := .val (.pointer none)) (Store.set_same _ _ _)) ?_
 simp only [Store.set_set, ssS, zdY, zdW, reduceIte, zdX]
 refine zar fun b7 hb7 => ?_
 have h47 : b4 ≠ b7 := zam (Store.set_same _ _ _) hb7
 have n7 : ∀ {c x}, m c = some x → c ≠ b7 := fun {c x} h => zam (x := x) (by rw [Store.set_ne _ _ (n4 h)]; exact h) hb7
 obtain ⟨p1, p2, p3, p4, p5, rfl⟩ : ∃ p1 p2 p3 p4 p5, c1 = [p1, p2, p3, p4, p5] := by
  match c1, h1 with
  | [p1, p2, p3, p4, p5], _ => exact ⟨_, _, _, _, _, rfl⟩
 simp only [Store.set_same, Store.set_ne _ _ h47, Store.set_ne _ _ (n7 hb), Store.set_ne _ _ (n4 hb), hb, Store.set_ne _ _ (n7 hx), Store.set_ne _ _ (n4 hx), hx, ssS, zdY, zdW, reduceIte, zdX]
 simp only [Store.set_ne _ _ hxa.symm, Store.set_ne _ _ (n7 ha), Store.set_ne _ _ (n4 ha), ha, ssS, zdY, zdW, reduceIte, zdX]
 simp only [Store.set_ne _ _ hae.symm, Store.set_ne _ _ hxe.symm, Store.set_ne _ _ (n7 he), Store.set_ne _ _ (n4 he), he, ssS, zdY, zdW, reduceIte, zdX]
 refine ⟨⟨_, rfl⟩, ?_, ?_, Store.set_same _ _ _, ?_⟩
 ·show (Store.set _ _ _) _ = _
  rw [Store.set_ne _ _ hxe, Store.set_ne _ _ hxa, Store.set_same]
 ·show (Store.set _ _ _) _ = _
  rw [Store.set_ne _ _ hae, Store.set_same]
 ·intro c x h1 h2 h3 hc
  show (Store.set _ _ _) _ = _
  rw [Store.set_ne _ _ h3, Store.set_ne _ _ h2, Store.set_ne _ _ h1, Store.set_ne _ _ (n7 hc), Store.set_ne _ _ (n4 hc)]
  exact hc
end
end Go.Av.Fn
/- A text's expression: what the program's Expr tells. Conditions: the library's functions (LibOk, ParseOk), and what four variables hold. -/
namespace Go.Av
theorem zc8.mono {P : Program} {Γ : Glob} {g : FuncId} {caps : List V} {m : Store} {p : Option V} {R R' : Store → Prop} (h : zc8 P Γ g caps m p R) (hr : ∀ m', R m' → R' m') : zc8 P Γ g caps m p R' := by
 refine ⟨h.1, fun G B0 mF w ccaps u a b c d => ?_⟩
 have := h.2 G B0 mF w ccaps u a b c d
 refine this.mono ?_
 rintro e u' w' ⟨uv, G', m', h1, h2, h3, h4, h5, h6, h7⟩
 exact ⟨uv, G', m', h1, h2, h3, h4, h5, h6, hr _ h7⟩
theorem resV_cells3 {t : List V} {m : Store} {i j k a b c : Nat} {T1 T2 T3 : TypeId} {cs : List V} {u x y : V} (h1 : tget t i = .ptr a 0) (h2 : m a = some (.var T1 cs)) (h3 : zbz cs 0 (some 5) = some u) (h4 : tget t j = .ptr b 0) (h5 : m b = some (.var T2 [x])) (h6 : tget t k = .ptr c 0) (h7 : m c = some (.var T3 [y])) :
  resV [.cell i (some 5), .cell j none, .cell k none] ⟨t, m⟩ = some (.tup [u, x, y]) := by
 have e : ∀ z : V, zbz [z] 0 none = some z := fun _ => rfl
 simp only [resV, zb5, zcc, za8, h1, h2, h3, h4, h5, h6, h7, e, Option.map_some]
end Go.Av
namespace Go.Av.Fn
set_option linter.unusedSimpArgs false
set_option linter.unusedVariables false
set_option maxRecDepth 10000
open Go.Proofs
structure Env (Γ : Glob) : Prop where
 lib : LibOk Γ
 parse : ParseOk Γ
 words : Γ 3 = some (zaP.map bs)
 signs : Γ 2 = some (zaI.map bs)
 errT : Γ 6 = some [.ifc 289 (.agg [.ptr 9 163])]
theorem tokL_ne {r : List UInt8} {e : Int} (h : tokL r = .error e) : e ≠ 0 := by
 unfold tokL at h
 split at h
 ·cases h; decide
 ·split at h
  ·split at h
   ·cases h
   ·split at h
    ·cases h; decide
    ·cases h
  ·split at h
   ·split at h
    ·cases h; decide
    ·cases h
   ·split at h
    ·split at h
     ·rename_i hq
      cases h
      exact qL_err hq
     ·cases h
    ·split at h
     ·cases h
     ·cases h; decide
theorem scanL_ne {r : List UInt8} {a l : Nat} {acc : List Tk} {x : Nat × Int} (h : zc9 r a l acc = .error x) : x.2 ≠ 0 := by
 fun_induction zc9 r a l acc with
 | case1 r a l acc x r' e h1 h2 => cases h
 | case2 r a l acc x r' e h1 h2 => cases h; exact tokL_ne h1
 | case3 r a l acc x r' t n h1 ih => exact ih h
theorem scanR_ne {s : List UInt8} {a : Nat} {e : Int} (h : zdq s = .error (a, e)) : e ≠ 0 := by
 unfold zdq at h
 split at h
 ·cases h; decide
 ·exact scanL_ne h
def scanV : Except (Nat × Int) (List Tk) → V
 | .ok l => .tup [.sl (l.map tkV) [] .no, it 0, it 0]
 | .error (a, e) => .tup [.sl [] [] .no, it a, it e]
theorem weak_tk (t : Tk) : weak (tkV t) = tkV t := rfl
section
variable {Γ : Glob} {m : Store}
theorem scan_weak (E : Env Γ) (s : List UInt8) : zae Tryz.prog Γ 169 [bs s] m fun o m' => o = .ret (scanV (zdq s)) ∧ m' = m := by
 refine zae.weak (scan_ok E.lib E.parse E.words E.signs s) ?_ ?_
 ·rintro v m' ⟨h, rfl⟩
  refine ⟨?_, rfl⟩
  unfold ScanOut at h
  split at h
  ·rename_i l hl
   obtain ⟨tok, h⟩ := h
   cases h
   rw [hl]
   simp only [scanV, weak, zaM, weaks_map weak_tk]
  ·rename_i a e hl
   cases h
   rw [hl]
   simp only [scanV, weak, zaM]
 ·rintro v m' ⟨h, _⟩
  exfalso
  unfold ScanOut at h
  split at h
  ·obtain ⟨_, h⟩ := h
   cases h
  ·cases h
theorem Expr1_ok {rb n : Nat} {l : List Tk} {p : PR} (hn0 : n ≤ 1099511627776) (hr : m rb = some (rdr l)) (hs : Sgl p) (hp : run n (.ex 0) l = some p) : zae Tryz.prog Γ 145 [.ptr rb 0] m (PE m rb hdV p) := by
 refine zct (zaf mixed F145_ok zds ?_)
 simp only [F145, ss0, zd3, zdY]
 simp only [ssS, zdY, zdW, reduceIte, zdX]
 refine zar fun b hb => ?_
 have hn := zam hr hb
 have hE := (Ext.refl m rb).alloc hb (.var 170 zE)
 simp only [ssS, zdY, zdW, reduceIte, zdX]
 refine zau ((parser_ok n hn0).1 0 l p _ rb (by omega) (by rw [Store.set_ne _ _ hn]; exact hr) hs hp) (fun es l1 e => ?_) (fun l1 b2 e hb2 => ?_)
 ·subst e
  obtain ⟨e, rfl⟩ := hs
  obtain ⟨k, s, n, kids, ln⟩ := e
  simp only [hdV, exV, Store.set_ne _ _ hn.symm, Store.set_same, ssS, zdY, zdW, reduceIte, zdX]
  refine zbV (b := b) rfl (Store.set_same _ _ _) (zaK _) ?_
  exact ((hE.rd _).loc hb _).ret (by rw [Store.set_ne _ _ hn, Store.set_same])
 ·subst e
  exact zbo hE (by rw [Store.set_ne _ _ hn]; exact hr) hb2
theorem read_ok (E : Env Γ) (s : List UInt8) : zae Tryz.prog Γ 144 [bs s, .fn (.func 145) [] []] m fun o m' => o = .ret (triV (zcy s)) ∧ m' = m := by
 refine zae.weak (R := fun o m' => ∃ v, o = .ret v ∧ weak v = triV (zcy s) ∧ m' = m) (zae.less (A := fun o m' => ∃ v, o = .ret v ∧ weak v = triV (zcy s) ∧ SubS m m') ?_ (fun o m' ⟨v, h1, h2, h3⟩ => ⟨m, h3, v, h1, h2, rfl⟩)) ?_ ?_
 rotate_left
 ·rintro v m' ⟨_, ⟨⟩, h, rfl⟩
  exact ⟨by rw [h], rfl⟩
 ·rintro v m' ⟨_, ⟨⟩, _⟩
 refine acalls_of_defer mixed D144_ok (by rintro v m b x _ ⟨_, ⟨⟩, _⟩) ?_
 simp only [D144, awpD, ss0, zd3, zdY]
 simp only [ssS, zdY, zdW, reduceIte, zdX]
 refine zar fun xb hxb => ?_
 simp only [ssS, zdY, zdW, reduceIte, zdX]
 refine zar fun ab hab => ?_
 have n1 : xb ≠ ab := zam (Store.set_same _ _ _) hab
 simp only [ssS, zdY, zdW, reduceIte, zdX]
 refine zar fun eb heb => ?_
 have n2 : ab ≠ eb := zam (Store.set_same _ _ _) heb
 have n3 : xb ≠ eb := zam (x := .var 170 zE) (by rw [Store.set_ne _ _ n1, Store.set_same]) heb
 simp only [ssS, zdY, zdW, reduceIte, zdX]
 refine zaj (scan_weak E s) ?_
 -- the store
 have key : ∀ S : Store, SubS m S → S xb = some (.var 170 zE) → S ab = some (.var 3 [it 0]) → S eb = some (.var 25 [it 0]) → m xb = none ∧ m ab = none ∧ m eb = none := by
  intro S h1 h2 h3 h4
  refine ⟨hxb, ?_, ?_⟩
  ·rw [Store.set_ne _ _ n1.symm] at hab; exact hab
  ·rw [Store.set_ne _ _ n2.symm, Store.set_ne _ _ n3.symm] at heb; exact heb
 have hS0 : SubS m (((m.set xb (.var 170 zE)).set ab (.var 3 [it 0])).set eb (.var 25 [it 0])) := (((SubS.refl m).out hxb _).out (by rw [Store.set_ne _ _ n1.symm] at hab; exact hab) _).out (by rw [Store.set_ne _ _ n2.symm, Store.set_ne _ _ n3.symm] at heb; exact heb) _
 have hx0 : (((m.set xb (.var 170 zE)).set ab (.var 3 [it 0])).set eb (.var 25 [it 0])) xb = some (.var 170 zE) := by rw [Store.set_ne _ _ n3, Store.set_ne _ _ n1, Store.set_same]
 have ha0 : (((m.set xb (.var 170 zE)).set ab (.var 3 [it 0])).set eb (.var 25 [it 0])) ab = some (.var 3 [it 0]) := by rw [Store.set_ne _ _ n2, Store.set_same]
 have he0 : (((m.set xb (.var 170 zE)).set ab (.var 3 [it 0])).set eb (.var 25 [it 0])) eb = some (.var 25 [it 0]) := Store.set_same _ _ _
 generalize (((m.set xb (.var 170 zE)).set ab (.var 3 [it 0])).set eb (.var 25 [it 0])) = S at hS0 hx0 ha0 he0
 obtain ⟨mx, ma, me⟩ := key S hS0 hx0 ha0 he0
 clear key hab heb hxb
 cases hsc : zdq s with
 | error x =>
  obtain ⟨a, e⟩ := x
  have hne : ((e : Int) != 0) = true := by simpa using scanR_ne hsc
  simp only [scanV, ha0, he0, hx0, hne, Store.set_same, Store.set_set, Store.set_ne _ _ n1, Store.set_ne _ _ n2, Store.set_ne _ _ n3, Store.set_ne _ _ n1.symm, Store.set_ne _ _ n2.symm, Store.set_ne _ _ n3.symm, ssS, zdY, zdW, reduceIte, zdX]
  refine zaq (resV_cells3 (T1 := 170) (T2 := 3) (cs := zE) (u := .agg zE) (x := it a) (y := it e) (a := xb) (b := ab) (c := eb) rfl ?_ rfl rfl ?_ rfl (Store.set_same _ _ _)) ⟨_, rfl, ?_, ?_⟩
  ·show (Store.set _ _ _) _ = _
   rw [Store.set_ne _ _ n3, Store.set_ne _ _ n1, Store.set_same]
  ·show (Store.set _ _ _) _ = _
   rw [Store.set_ne _ _ n2, Store.set_same]
  ·simp only [zcy, hsc, triV, exO, exV, exVs, weak, zaM]
   rfl
  ·exact ((((hS0.out ma _).out me _).out mx _).out ma _).out me _
 | ok l =>
  have hg := scanR_good hsc
  obtain ⟨p, hp, hsg, hfit⟩ := run_expr hg
  have hl := scanR_len hsc
  have hrd : zcy s = readT l := by unfold zcy; rw [hsc]
  simp only [scanV, ha0, he0, hx0, Store.set_same, Store.set_set, Store.set_ne _ _ n1, Store.set_ne _ _ n2, Store.set_ne _ _ n3, Store.set_ne _ _ n1.symm, Store.set_ne _ _ n2.symm, Store.set_ne _ _ n3.symm, show ((0 : Int) != 0) = false from rfl, runA_O, put_none, awpP_row, awpP_seq, runP_cons, runP_nil, ssS, zdY, zdW, reduceIte, zdX]
  have e1 : S.set ab (.var 3 [V.val (Value.int IntKind.i64 0)]) = S := Store.set_eq S ha0
  have e2 : S.set eb (.var 25 [V.val (Value.int IntKind.i64 0)]) = S := Store.set_eq S he0
  rw [e1, e2]
  refine zar fun rb hrb => ?_
  have hrr : (S.set rb (rdr l)) rb = some (rdr l) := Store.set_same _ _ _
  have mr := hS0.none hrb
  have nx := zam hx0 hrb
  have na := zam ha0 hrb
  have ne := zam he0 hrb
  have hst : ∀ (S1 : Store) (t : List V) (l0 l1 : List Tk) (b : Nat), (S.set rb (rdr l0)) b = none → Good l1 → readT l = (none, atOf l1, 6) → tget t 4 = .ptr xb 0 → tget t 5 = .ptr ab 0 → tget t 6 = .ptr eb 0 →
    (∃ c1 c2 c3, S1 = (((S.set xb (.var 170 c1)).set ab (.var 3 [c2])).set eb (.var 25 [c3])).set rb (rdr l1) ∧ c1.length = 5) →
    zc8 Tryz.prog Γ 170 [.ptr xb 0, .ptr ab 0, .ptr eb 0] (S1.set b (stk l1)) (some (stV b)) (endD [ARes.cell 4 (some 5), ARes.cell 5 none, ARes.cell 6 none] (fun o m' => ∃ v, o = .ret v ∧ weak v = triV (zcy s) ∧ SubS m m') t) := by
   rintro S1 t l0 l1 b hb hg1 hrt g1 g2 g3 ⟨c1, c2, c3, rfl, hc1⟩
   have hb' : S b = none := by
    rw [Store.set_ne _ _ (fun e => zam (Store.set_same S rb (rdr l0)) hb e.symm)] at hb
    exact hb
   have bx := zam hx0 hb'
   have ba := zam ha0 hb'
   have be := zam he0 hb'
   have br : rb ≠ b := zam (Store.set_same S rb (rdr l0)) hb
   refine (read1_some E.errT (b := b) (a := atOf l1) (c1 := c1) (c2 := c2) (c3 := c3) (Store.set_same _ _ _) ?_ hc1 ?_ ?_ n1 n3 n2).mono ?_
   ·rw [Store.set_ne _ _ bx, Store.set_ne _ _ nx, Store.set_ne _ _ n3, Store.set_ne _ _ n1, Store.set_same]
   ·rw [Store.set_ne _ _ ba, Store.set_ne _ _ na, Store.set_ne _ _ n2, Store.set_same]
   ·rw [Store.set_ne _ _ be, Store.set_ne _ _ ne, Store.set_same]
   ·rintro m' ⟨q1, q2, q3, q4⟩
    refine ⟨_, resV_cells3 (a := xb) (b := ab) (c := eb) (u := .agg zE) g1 q1 rfl g2 q2 g3 q3, m', fun _ _ h => h, _, rfl, ?_, fun c x hc => ?_⟩
    ·simp only [hrd, hrt, triV, exO, exV, exVs, weak, zaM]
     rfl
    ·have k1 : c ≠ xb := fun e => zam hc mx e
     have k2 : c ≠ ab := fun e => zam hc ma e
     have k3 : c ≠ eb := fun e => zam hc me e
     have k4 : c ≠ rb := fun e => zam hc mr e
     have k5 : c ≠ b := zam (hS0 c x hc) hb'
     refine q4 c x k1 k2 k3 ?_
     rw [Store.set_ne _ _ k5, Store.set_ne _ _ k4, Store.set_ne _ _ k3, Store.set_ne _ _ k2, Store.set_ne _ _ k1]
     exact hS0 c x hc
  simp only [runP_cons, runP_nil, awpP_row, awpP_seq, ssS, zdY, zdW, reduceIte, zdX]
  refine zau (S := S.set rb (rdr l)) (Expr1_ok (by omega) hrr hsg hp) (fun es l1 e => ?_) (fun l1 b e hb => ?_)
  ·subst e
   obtain ⟨e, rfl⟩ := hsg
   have hg1 := hfit.1
   obtain ⟨tk, l2, rfl⟩ := hg1.ne
   obtain ⟨k, s', n', kids, ln⟩ := e
   simp only [hdV, exV, Store.set_set, Store.set_same, Store.set_ne _ _ nx, Store.set_ne _ _ nx.symm, hx0, rdr, idx_tk, ld5, runP_cons, runP_nil, awpP_row, awpP_seq, awpP_cond, awpP_code, ssS, zdY, zdW, reduceIte, zdX]
   have hrun : readT l = if tk.k = 0 then (some (.mk k s' n' kids ln), 0, 0) else (none, tk.a, 6) := by
    unfold readT
    rw [hp]
   cases hk : (tk.k != 0)
   ·have hk0 : tk.k = 0 := by simpa using hk
    rw [if_pos hk0] at hrun
    simp only [condP_false, leaveD, runP_cons, runP_nil, awpP_row, awpP_seq, awpP_code, Store.set_same, Store.set_set, Store.set_ne _ _ nx, Store.set_ne _ _ nx.symm, Store.set_ne _ _ na, Store.set_ne _ _ na.symm, Store.set_ne _ _ ne, Store.set_ne _ _ ne.symm, Store.set_ne _ _ n1, Store.set_ne _ _ n2, Store.set_ne _ _ n3, Store.set_ne _ _ n1.symm, Store.set_ne _ _ n2.symm, Store.set_ne _ _ n3.symm, hx0, ha0, he0, ssS, zdY, zdW, reduceIte, zdX]
    refine read1_none.mono ?_
    rintro m' rfl
    refine ⟨_, resV_cells3 (T1 := 170) (T2 := 3) (cs := [it k, bs s', it n', .sl (exVs kids) [] .no, it ln]) (u := .agg [it k, bs s', it n', .sl (exVs kids) [] .no, it ln]) (x := it 0) (y := it 0) (a := xb) (b := ab) (c := eb) rfl ?_ rfl rfl ?_ rfl (Store.set_same _ _ _), _, fun _ _ h => h, _, rfl, ?_, ?_⟩
    ·show (Store.set _ _ _) _ = _
     rw [Store.set_ne _ _ n3, Store.set_ne _ _ n1, Store.set_same]
    ·show (Store.set _ _ _) _ = _
     rw [Store.set_ne _ _ n2, Store.set_same]
    ·rw [hrd, hrun]
     simp only [triV, exO, exV, weak, zaM, zaK, bs]
    ·exact (((hS0.out mr _).out mx _).out ma _).out me _
   ·have hk0 : ¬ tk.k = 0 := by simpa using hk
    rw [if_neg hk0] at hrun
    simp only [condP_true]
    have hr2 : ((S.set rb (rdr (tk :: l2))).set xb (.var 170 [it k, bs s', it n', .sl (exVs kids) [] .no, it ln])) rb = some (rdr (tk :: l2)) := by
     rw [Store.set_ne _ _ nx.symm, Store.set_same]
    refine zau (stop_ok (val := hdV) hr2) (by rintro es l3 ⟨⟩) ?_
    rintro l3 b ⟨⟩ hb
    refine hst _ _ (tk :: l2) (tk :: l2) b ?_ hg1 hrun rfl rfl rfl ⟨[it k, bs s', it n', .sl (exVs kids) [] .no, it ln], it 0, it 0, ?_, rfl⟩
    ·rw [Store.set_ne _ _ (fun e => zam (Store.set_same _ _ _) hb e.symm)] at hb
     exact hb
    ·rw [set_comm S _ _ nx.symm, Store.set_set, Store.set_eq (S.set xb _) (show (S.set xb _) ab = some (.var 3 [it 0]) by rw [Store.set_ne _ _ n1.symm]; exact ha0), Store.set_eq (S.set xb _) (show (S.set xb _) eb = some (.var 25 [it 0]) by rw [Store.set_ne _ _ n3.symm]; exact he0)]
  ·subst e
   have hrun : readT l = (none, atOf l1, 6) := by
    obtain ⟨t, r, rfl⟩ := hfit.1.ne
    unfold readT
    rw [hp]
    rfl
   rw [Store.set_set]
   exact hst _ _ l l1 b hb hfit.1 hrun rfl rfl rfl ⟨zE, it 0, it 0, by rw [Store.set_eq S hx0, Store.set_eq S ha0, Store.set_eq S he0], rfl⟩
end
end Go.Av.Fn
/- Whether a text is an expression's, and a command right. Conditions: the library's functions (LibOk, ParseOk), and what three variables hold. -/
namespace Go.Av.Fn
set_option linter.unusedSimpArgs false
set_option linter.unusedVariables false
set_option maxRecDepth 10000
open Go.Proofs
def zcm (s : List UInt8) : Option Ex × Int × Int :=
 if (zcy s).2.2 = 0 then (match (zcy s).1 with
  | some e => if zcf e > 24 then (none, 0, 7) else (some e, 0, 0)
  | none => (none, 0, 0))
 else (none, (zcy s).2.1, (zcy s).2.2)
def zbC (s : List UInt8) : Bool := (zcm s).2.2 == 0 && decide (s.length ≤ 255)
def zaU (k n : Int) (s : List UInt8) : Bool :=
 if (decide (zaV k = za4) || (!(zaV k).n && n != 0) || (!(zaV k).s && !(s == [])) || decide (n < (zaV k).least) || decide (n > 4294967296)) = true then false
 else if (!(zaV k).s || ((zaV k).n && s == [])) = true then true
 else zbC s
theorem readS_size {s : List UInt8} {e : Ex} {x : Int × Int} (h : zcy s = (some e, x)) : zbb e ≤ 4097 := by
 unfold zcy at h
 split at h
 ·cases h
 ·rename_i l hl
  obtain ⟨p, hp, hsg, hfit⟩ := run_expr (scanR_good hl)
  have hlen := scanR_len hl
  unfold readT at h
  rw [hp] at h
  cases p with
  | ok es l1 =>
   obtain ⟨e2, rfl⟩ := hsg
   obtain ⟨tk, l2, rfl⟩ := hfit.1.ne
   have h3 := hfit.2.1
   simp only [sizes] at h3
   simp only at h
   split at h
   ·cases h; omega
   ·cases h
  | st l1 =>
   obtain ⟨tk, l2, rfl⟩ := hfit.1.ne
   cases h
theorem resV_c5tt {t : List V} {m : Store} {i j k a : Nat} {T1 : TypeId} {cs : List V} {u : V} (h1 : tget t i = .ptr a 0) (h2 : m a = some (.var T1 cs)) (h3 : zbz cs 0 (some 5) = some u) :
  resV [.cell i (some 5), .tmp j, .tmp k] ⟨t, m⟩ = some (.tup [u, tget t j, tget t k]) := by
 simp only [resV, zb5, zcc, za8, h1, h2, h3, Option.map_some]
theorem form_eq (xo yo : Operand) (x : Form) : binV Tryz.prog .eql 100 .other xo yo (.agg [bs x.w, it x.least, .val (.bool x.n), .val (.bool x.s)]) (.agg [.val (.string (ByteArray.mk #[])), .val (.int .i64 0), .val (.bool false), .val (.bool false)]) = some (.val (.bool (decide (x = za4)))) := by
 have h := (struct_eq (P := Tryz.prog) (T := 100) (xo := xo) (yo := yo) (cs := [bs x.w, it x.least, .val (.bool x.n), .val (.bool x.s)]) (cs' := [bs [], it 0, .val (.bool false), .val (.bool false)])
  (xs := [.string ⟨x.w.toArray⟩, .int .i64 x.least, .bool x.n, .bool x.s]) (ys := [.string ⟨([] : List UInt8).toArray⟩, .int .i64 0, .bool false, .bool false])
  (r := ((ByteArray.mk x.w.toArray).toList == (ByteArray.mk ([] : List UInt8).toArray).toList && (x.least == 0 && (x.n == false && (x.s == false && true)))))
  (by kernel_rfl) (by kernel_rfl) (by kernel_rfl) rfl rfl (by kernel_rfl)).1
 have e : ((ByteArray.mk x.w.toArray).toList == (ByteArray.mk ([] : List UInt8).toArray).toList && (x.least == 0 && (x.n == false && (x.s == false && true)))) = decide (x = za4) := by
  rw [zbZ, zbZ, zeB]
  obtain ⟨a, b, c, d⟩ := x
  simp [za4]
 rw [e] at h
 exact h
section
variable {Γ : Glob} {m : Store}
theorem sExpr_ok (E : Env Γ) (s : List UInt8) : zae Tryz.prog Γ 128 [bs s] m fun o m' => o = .ret (triV (zcm s)) ∧ m' = m := by
 refine zae.weak (R := fun o m' => ∃ v, o = .ret v ∧ weak v = triV (zcm s) ∧ m' = m) (zae.less (A := fun o m' => ∃ v, o = .ret v ∧ weak v = triV (zcm s) ∧ SubS m m') ?_ (fun o m' ⟨v, h1, h2, h3⟩ => ⟨m, h3, v, h1, h2, rfl⟩)) ?_ ?_
 rotate_left
 ·rintro v m' ⟨_, ⟨⟩, h, rfl⟩
  exact ⟨by rw [h], rfl⟩
 ·rintro v m' ⟨_, ⟨⟩, _⟩
 refine zaf mixed F128_ok (by rintro v m b x _ ⟨_, ⟨⟩, _⟩) ?_
 simp only [F128, ss0, zd3, zdY]
 simp only [ssS, zdY, zdW, reduceIte, zdX]
 refine zar fun b2 hb2 => ?_
 simp only [ssS, zdY, zdW, reduceIte, zdX]
 refine zaj (read_ok E s) ?_
 obtain ⟨k, s', n', kids, ln, hex, hsz, hO⟩ : ∃ k s' n' kids ln, exO (zcy s).1 = exV (.mk k s' n' kids ln) ∧ zbb (.mk k s' n' kids ln) ≤ 4097 ∧ ((zcy s).1 = some (.mk k s' n' kids ln) ∨ ((zcy s).1 = none ∧ Ex.mk k s' n' kids ln = .mk 0 [] 0 [] 0)) := by
  cases hr : (zcy s).1 with
  | none => exact ⟨0, [], 0, [], 0, rfl, by simp [zbb, sizes], .inr ⟨rfl, rfl⟩⟩
  | some e =>
   have hs := readS_size (s := s) (e := e) (x := (zcy s).2) (by rw [← hr])
   obtain ⟨k, s', n', kids, ln⟩ := e
   exact ⟨k, s', n', kids, ln, rfl, hs, .inl rfl⟩
 simp only [triV, hex, exV, ssS, zdY, zdW, reduceIte, zdX]
 refine zar fun b5 hb5 => ?_
 have h25 : b2 ≠ b5 := zam (Store.set_same _ _ _) hb5
 have hS : ∀ x y z, SubS m (((m.set b2 x).set b5 y).set b2 z) := fun x y z => (((SubS.refl m).out hb2 _).out (by rw [Store.set_ne _ _ h25.symm] at hb5; exact hb5) _).out hb2 _
 simp only [Store.set_same, Store.set_set, ssS, zdY, zdW, reduceIte, zdX]
 cases hne : ((zcy s).2.2 != 0)
 ·have h0 : (zcy s).2.2 = 0 := by simpa using hne
  simp only [Store.set_same, ssS, zdY, zdW, reduceIte, zdX]
  refine zaj (depth_ok 4097 (.mk k s' n' kids ln) _ hsz (by omega)) ?_
  simp only [ssS, zdY, zdW, reduceIte, zdX]
  refine zak (fun hc => ?_) (fun hc => ?_)
  ·have hd : zcf (.mk k s' n' kids ln) > 24 := by have := of_decide_eq_true hc; omega
   simp only [Store.set_ne _ _ h25, Store.set_same, ssS, zdY, zdW, reduceIte, zdX]
   refine zaq (resV_c5tt (T1 := 170) (a := b2) (cs := zE) (u := .agg zE) rfl (Store.set_same _ _ _) rfl) ⟨_, rfl, ?_, hS _ _ _⟩
   rcases hO with h1 | ⟨h1, h2⟩
   ·simp only [zcm, h0, if_true, h1, if_pos hd, exO, exV, exVs, weak, zaM]
    rfl
   ·rw [h2] at hd
    simp [zcf, depths] at hd
  ·have hd : ¬ zcf (.mk k s' n' kids ln) > 24 := by have := of_decide_eq_false hc; omega
   simp only [Store.set_ne _ _ h25, Store.set_same, ssS, zdY, zdW, reduceIte, zdX]
   refine zaq (resV_c5tt (T1 := 170) (a := b2) (cs := [it k, bs s', it n', .sl (exVs kids) [] .no, it ln]) (u := .agg [it k, bs s', it n', .sl (exVs kids) [] .no, it ln]) rfl (Store.set_same _ _ _) rfl) ⟨_, rfl, ?_, hS _ _ _⟩
   rcases hO with h1 | ⟨h1, h2⟩
   ·simp only [zcm, h0, if_true, h1, if_neg hd, exO, exV, exVs, weak, zaM, zaK, bs]
    rfl
   ·cases h2
    simp only [zcm, h0, if_true, h1, exO, exV, exVs, weak, zaM, bs]
    rfl
 ·have h0 : ¬ (zcy s).2.2 = 0 := by simpa using hne
  simp only [Store.set_ne _ _ h25, Store.set_same, ssS, zdY, zdW, reduceIte, zdX]
  refine zaq (resV_c5tt (T1 := 170) (a := b2) (cs := zE) (u := .agg zE) rfl (Store.set_same _ _ _) rfl) ⟨_, rfl, ?_, hS _ _ _⟩
  simp only [zcm, h0, if_false, exO, exV, exVs, weak, zaM]
  rfl
theorem written_ok (E : Env Γ) (s : List UInt8) : zae Tryz.prog Γ 103 [bs s] m fun o m' => o = .ret (.val (.bool (zbC s))) ∧ m' = m := by
 refine zae.less (A := fun o m' => o = .ret (.val (.bool (zbC s))) ∧ SubS m m') ?_ fun o m' h => ⟨m, h.2, h.1, rfl⟩
 refine zaf mixed F103_ok (by rintro v m b x _ ⟨⟨⟩, _⟩) ?_
 simp only [F103, ss0, zd3, zdY]
 simp only [ssS, zdY, zdW, reduceIte, zdX]
 refine zaj (sExpr_ok E s) ?_
 obtain ⟨k, s', n', kids, ln, hex⟩ : ∃ k s' n' kids ln, exO (zcm s).1 = exV (.mk k s' n' kids ln) := by
  cases (zcm s).1 with
  | none => exact ⟨0, [], 0, [], 0, rfl⟩
  | some e => obtain ⟨k, s', n', kids, ln⟩ := e; exact ⟨k, s', n', kids, ln, rfl⟩
 simp only [triV, hex, exV, ssS, zdY, zdW, reduceIte, zdX]
 refine zar fun b3 hb3 => ?_
 simp only [Store.set_same, Store.set_set, ssS, zdY, zdW, reduceIte, zdX]
 have hl : decide ((s.length : Int) ≤ 255) = decide (s.length ≤ 255) := by
  rw [decide_eq_decide]
  omega
 cases h0 : ((zcm s).2.2 == 0)
 ·simp only [zdO, ssS, zdY, zdW, reduceIte, zdX]
  refine zaq zad ⟨?_, (SubS.refl m).out hb3 _⟩
  simp only [zaa, zab, zbC, h0]
  rfl
 ·simp only [zdO, hl, ssS, zdY, zdW, reduceIte, zdX]
  refine zaq zad ⟨?_, (SubS.refl m).out hb3 _⟩
  simp only [zaa, zab, zbC, h0]
  rfl
end
end Go.Av.Fn
/- Whether a command is right: the program's. Conditions: the library's functions (LibOk, ParseOk), and what three variables hold. -/
namespace Go.Av
theorem fillV_4 {cells : List V} {off : Nat} {a b c d : V} {r : List (Nat × Nat × V)} : zbB cells ((off, 4, .agg [a, b, c, d]) :: r) = if off + 4 ≤ cells.length then zbB (tset (tset (tset (tset cells off a) (off + 1) b) (off + 2) c) (off + 3) d) r else none := by
 simp only [zbB, V.cells, zd4, List.length_nil, zdY, true_and, List.zipIdx_cons, List.zipIdx_nil, List.foldl_cons, List.foldl_nil, Nat.add_zero, tset_eq, Nat.zero_add]
end Go.Av
namespace Go.Av.Fn
set_option linter.unusedSimpArgs false
set_option linter.unusedVariables false
set_option maxRecDepth 100000
open Go.Proofs
def tabOf : List (Nat × AFn) := [(56, F56)]
def noG : Glob := fun _ => none
theorem tabOf_ok : TabOk Tryz.prog noG tabOf := .cons ⟨_, F56_ok⟩ (by kernel_rfl) .nil
section
variable {Γ : Glob} {m : Store}
theorem of_ok (k : Int) : zae Tryz.prog Γ 56 [it k] m fun o m' => o = .ret (formV (zaV k)) ∧ m' = m := by
 by_cases hk : 0 ≤ k ∧ k < 18
 ·obtain ⟨h0, h18⟩ := hk
  have hi : k = 0 ∨ k = 1 ∨ k = 2 ∨ k = 3 ∨ k = 4 ∨ k = 5 ∨ k = 6 ∨ k = 7 ∨ k = 8 ∨ k = 9 ∨ k = 10 ∨ k = 11 ∨ k = 12 ∨ k = 13 ∨ k = 14 ∨ k = 15 ∨ k = 16 ∨ k = 17 := by omega
  have hc : CallOk Tryz.prog Γ (callI Tryz.prog noG (fun _ _ _ => none) (look tabOf) 2000 40) := callI_ok mixed (fun _ _ h => by cases h) tabOf_ok 2000 40
  rcases hi with rfl | rfl | rfl | rfl | rfl | rfl | rfl | rfl | rfl | rfl | rfl | rfl | rfl | rfl | rfl | rfl | rfl | rfl
  all_goals exact acalls_plain hc (by kernel_rfl) (.cons (.val _) .nil) rfl
 ·have hf : zaV k = za4 := by
   unfold zaV
   by_cases h : k < 0
   ·rw [if_pos h]
   ·rw [if_neg h, zeD (by show 18 ≤ k.toNat; omega)]
    rfl
  rw [hf]
  refine zae.less (A := fun o m' => o = .ret (formV za4) ∧ SubS m m') ?_ fun o m' h => ⟨m, h.2, h.1, rfl⟩
  refine zaf mixed F56_ok (by rintro v m b x _ ⟨⟨⟩, _⟩) ?_
  simp only [F56, ss0, zd3, zdY]
  simp only [ssS, zdY, zdW, reduceIte, zdX]
  refine zar fun b2 hb2 => ?_
  simp only [fillV_4, ssS, zdY, zdW, reduceIte, zdX]
  refine zar fun b3 hb3 => ?_
  have h23 : b2 ≠ b3 := zam (Store.set_same _ _ _) hb3
  have fin : ∀ (t : List V) (x y z : Blk), tget t 2 = .ptr b2 0 → z = .var 100 [bs [], it 0, .val (.bool false), .val (.bool false)] → bodyA [ARes.cell 2 (some 4)] (fun o m' => o = Out.ret (formV za4) ∧ SubS m m') .ret ⟨t, ((m.set b2 x).set b3 y).set b2 z⟩ := by
   rintro t x y z ht rfl
   refine zaq ((resV_cell ht (Store.set_same _ _ _)).trans rfl) ⟨rfl, ?_⟩
   exact ((((SubS.refl m).out hb2 _).out (by rw [Store.set_ne _ _ h23.symm] at hb3; exact hb3) _).out hb2 _)
  cases hn : decide (k < 0)
  ·have hg : decide (k ≥ 18) = true := by
    have := of_decide_eq_false hn
    exact decide_eq_true (by omega)
   simp only [Store.set_same, Store.set_set, hn, hg, Store.set_ne _ _ h23, ssS, zdY, zdW, reduceIte, zdX]
   exact fin _ _ _ _ rfl rfl
  ·simp only [Store.set_same, Store.set_set, hn, Store.set_ne _ _ h23, ssS, zdY, zdW, reduceIte, zdX]
   exact fin _ _ _ _ rfl rfl
theorem zaT {k n : Int} {s : List UInt8} {t : List V} {S : Store} (b : Bool) (h : zaU k n s = b) (h2 : tget t 2 = .val (.bool b)) (hs : SubS m S) : bodyA [ARes.tmp 2] (fun o m' => o = Out.ret (.val (.bool (zaU k n s))) ∧ SubS m m') .ret ⟨t, S⟩ :=
 zaq zad ⟨by rw [h, h2], hs⟩
theorem right_ok (E : Env Γ) (k n : Int) (s : List UInt8) : zae Tryz.prog Γ 58 [cmdV k n s] m fun o m' => o = .ret (.val (.bool (zaU k n s))) ∧ m' = m := by
 refine zae.less (A := fun o m' => o = .ret (.val (.bool (zaU k n s))) ∧ SubS m m') ?_ fun o m' h => ⟨m, h.2, h.1, rfl⟩
 refine zaf mixed F58_ok (by rintro v m b x _ ⟨⟨⟩, _⟩) ?_
 simp only [F58, cmdV, ss0, zd3, zdY]
 simp only [ssS, zdY, zdW, reduceIte, zdX]
 refine zar fun b1 hb1 => ?_
 simp only [Store.set_same, ssS, zdY, zdW, reduceIte, zdX]
 refine zaj (of_ok k) ?_
 obtain ⟨w, le, fn, fs, hf⟩ : ∃ w le fn fs, zaV k = ⟨w, le, fn, fs⟩ := ⟨_, _, _, _, rfl⟩
 simp only [hf, formV, ssS, zdY, zdW, reduceIte, zdX]
 refine zar fun b3 hb3 => ?_
 have h13 : b1 ≠ b3 := zam (Store.set_same _ _ _) hb3
 have hS : ∀ x y, SubS m ((m.set b1 x).set b3 y) := fun x y => ((SubS.refl m).out hb1 _).out (by rw [Store.set_ne _ _ h13.symm] at hb3; exact hb3) _
 have hfe : ∀ xo yo, binV Tryz.prog .eql 100 .other xo yo (.agg [bs w, it le, .val (.bool fn), .val (.bool fs)]) (.agg [.val (.string (ByteArray.mk #[])), .val (.int .i64 0), .val (.bool false), .val (.bool false)]) = some (.val (.bool (decide (Form.mk w le fn fs = za4)))) := fun xo yo => form_eq xo yo ⟨w, le, fn, fs⟩
 simp only [Store.set_same, Store.set_set, Store.set_ne _ _ h13, hfe, ssS, zdY, zdW, reduceIte, zdX]
 have hF : (decide (Form.mk w le fn fs = za4) || (!fn && n != 0) || (!fs && !(s == [])) || decide (n < le) || decide (n > 4294967296)) = true → zaU k n s = false := by
  intro h
  unfold zaU
  rw [hf, if_pos h]
 have hT : (decide (Form.mk w le fn fs = za4) || (!fn && n != 0) || (!fs && !(s == [])) || decide (n < le) || decide (n > 4294967296)) = false → (!fs || (fn && s == [])) = true → zaU k n s = true := by
  intro h h2
  unfold zaU
  rw [hf, if_neg (by rw [h]; decide), if_pos h2]
 have hW : (decide (Form.mk w le fn fs = za4) || (!fn && n != 0) || (!fs && !(s == [])) || decide (n < le) || decide (n > 4294967296)) = false → (!fs || (fn && s == [])) = false → zaU k n s = zbC s := by
  intro h h2
  unfold zaU
  rw [hf, if_neg (by rw [h]; decide), if_neg (by rw [h2]; decide)]
 clear hf hfe
 generalize decide (Form.mk w le fn fs = za4) = hz at hF hT hW ⊢
 generalize h1 : (n != 0) = a1 at hF hT hW ⊢
 generalize h2 : (s == ([] : List UInt8)) = a2 at hF hT hW ⊢
 generalize h3 : decide (n < le) = a3 at hF hT hW ⊢
 generalize h4 : decide (n > 4294967296) = a4 at hF hT hW ⊢
 cases hz
 case true =>
  simp only [h1, h2, h3, h4, Store.set_same, Store.set_ne _ _ h13, zd9, zd8, ssS, zdY, zdW, reduceIte, zdX]
  exact zaT false (hF rfl) rfl (hS _ _)
 case false =>
  cases fn
  case true =>
   cases fs
   case true =>
    cases a3
    case true =>
     simp only [h1, h2, h3, h4, Store.set_same, Store.set_ne _ _ h13, zd9, zd8, ssS, zdY, zdW, reduceIte, zdX]
     exact zaT false (hF rfl) rfl (hS _ _)
    case false =>
     cases a4
     case true =>
      simp only [h1, h2, h3, h4, Store.set_same, Store.set_ne _ _ h13, zd9, zd8, ssS, zdY, zdW, reduceIte, zdX]
      exact zaT false (hF rfl) rfl (hS _ _)
     case false =>
      cases a2
      case true =>
       simp only [h1, h2, h3, h4, Store.set_same, Store.set_ne _ _ h13, zd9, zd8, ssS, zdY, zdW, reduceIte, zdX]
       exact zaT true (hT rfl rfl) rfl (hS _ _)
      case false =>
       simp only [h1, h2, h3, h4, Store.set_same, Store.set_ne _ _ h13, zd9, zd8, ssS, zdY, zdW, reduceIte, zdX]
       refine zaj (written_ok E s) ?_
       simp only [ssS, zdY, zdW, reduceIte, zdX]
       exact zaT (zbC s) (hW rfl rfl) rfl (hS _ _)
   case false =>
    cases a2
    case true =>
     cases a3
     case true =>
      simp only [h1, h2, h3, h4, Store.set_same, Store.set_ne _ _ h13, zd9, zd8, ssS, zdY, zdW, reduceIte, zdX]
      exact zaT false (hF rfl) rfl (hS _ _)
     case false =>
      cases a4
      case true =>
       simp only [h1, h2, h3, h4, Store.set_same, Store.set_ne _ _ h13, zd9, zd8, ssS, zdY, zdW, reduceIte, zdX]
       exact zaT false (hF rfl) rfl (hS _ _)
      case false =>
       simp only [h1, h2, h3, h4, Store.set_same, Store.set_ne _ _ h13, zd9, zd8, ssS, zdY, zdW, reduceIte, zdX]
       exact zaT true (hT rfl rfl) rfl (hS _ _)
    case false =>
     simp only [h1, h2, h3, h4, Store.set_same, Store.set_ne _ _ h13, zd9, zd8, ssS, zdY, zdW, reduceIte, zdX]
     exact zaT false (hF rfl) rfl (hS _ _)
  case false =>
   cases a1
   case true =>
    simp only [h1, h2, h3, h4, Store.set_same, Store.set_ne _ _ h13, zd9, zd8, ssS, zdY, zdW, reduceIte, zdX]
    exact zaT false (hF rfl) rfl (hS _ _)
   case false =>
    cases fs
    case true =>
     cases a3
     case true =>
      simp only [h1, h2, h3, h4, Store.set_same, Store.set_ne _ _ h13, zd9, zd8, ssS, zdY, zdW, reduceIte, zdX]
      exact zaT false (hF rfl) rfl (hS _ _)
     case false =>
      cases a4
      case true =>
       simp only [h1, h2, h3, h4, Store.set_same, Store.set_ne _ _ h13, zd9, zd8, ssS, zdY, zdW, reduceIte, zdX]
       exact zaT false (hF rfl) rfl (hS _ _)
      case false =>
       simp only [h1, h2, h3, h4, Store.set_same, Store.set_ne _ _ h13, zd9, zd8, ssS, zdY, zdW, reduceIte, zdX]
       refine zaj (written_ok E s) ?_
       simp only [ssS, zdY, zdW, reduceIte, zdX]
       exact zaT (zbC s) (hW rfl rfl) rfl (hS _ _)
    case false =>
     cases a2
     case true =>
      cases a3
      case true =>
       simp only [h1, h2, h3, h4, Store.set_same, Store.set_ne _ _ h13, zd9, zd8, ssS, zdY, zdW, reduceIte, zdX]
       exact zaT false (hF rfl) rfl (hS _ _)
      case false =>
       cases a4
       case true =>
        simp only [h1, h2, h3, h4, Store.set_same, Store.set_ne _ _ h13, zd9, zd8, ssS, zdY, zdW, reduceIte, zdX]
        exact zaT false (hF rfl) rfl (hS _ _)
       case false =>
        simp only [h1, h2, h3, h4, Store.set_same, Store.set_ne _ _ h13, zd9, zd8, ssS, zdY, zdW, reduceIte, zdX]
        exact zaT true (hT rfl rfl) rfl (hS _ _)
     case false =>
      simp only [h1, h2, h3, h4, Store.set_same, Store.set_ne _ _ h13, zd9, zd8, ssS, zdY, zdW, reduceIte, zdX]
      exact zaT false (hF rfl) rfl (hS _ _)
theorem cCheck_ok (E : Env Γ) (k n : Int) (s : List UInt8) : zae Tryz.prog Γ 20 [cmdV k n s] m fun o m' => o = .ret (it (if zaU k n s then 0 else 2)) ∧ m' = m := by
 refine zae.less (A := fun o m' => o = .ret (it (if zaU k n s then 0 else 2)) ∧ SubS m m') ?_ fun o m' h => ⟨m, h.2, h.1, rfl⟩
 refine zaf mixed F20_ok (by rintro v m b x _ ⟨⟨⟩, _⟩) ?_
 simp only [F20, cmdV, ss0, zd3, zdY]
 simp only [ssS, zdY, zdW, reduceIte, zdX]
 refine zar fun b1 hb1 => ?_
 simp only [Store.set_same, ssS, zdY, zdW, reduceIte, zdX]
 refine zaj (right_ok E k n s) ?_
 cases zaU k n s
 ·simp only [zd8, ssS, zdY, zdW, reduceIte, zdX]
  exact zaq zad ⟨rfl, (SubS.refl m).out hb1 _⟩
 ·simp only [zd9, ssS, zdY, zdW, reduceIte, zdX]
  exact zaq zad ⟨rfl, (SubS.refl m).out hb1 _⟩
end
end Go.Av.Fn
/-
 DERIVED: THE SHELF's CONTRACTS AT THIS DUMP, IN PLAIN WORDS (tools/lay-plain.mjs out of 'TryzShelf.lean', which tools/lay-shelf.mjs wrote): THE SAME DECLARATIONS UNDER THE SAME NAMES: 'import', 'namespace', 'open', 'def', 'theorem' AND NOTHING ELSE: no command of the shelf's: FOR A HAND-IN. Each laying: the table of numbers ('.._ren') and one theorem, a field a fact of the dump's own or the kernel's comparison; each contract: ONE APPLICATION.
-/
namespace Go.Proofs
open Go.Shelf
def Tryz.lays169_ren : Go.Shelf.Ren := ⟨fun | 169 => 241 | n => n, fun | 70 => 326 | 9 => 9 | 0 => 0 | 72 => 328 | 37 => 40 | 127 => 201 | 3 => 3 | 5 => 5 | n => n, fun | n => n⟩
theorem Tryz.lays169 : Go.Proofs.Lays.n169 Tryz.prog Tryz.lays169_ren := {
 mixed := by kernel_rfl
 f169 := Tryz.func241.trans (congrArg some (by kernel_rfl))
 t0 := Tryz.underlying0
 a0 := Tryz.isAgg0
 z0 := Tryz.sizeOf0
 v0 := Tryz.zeroValue0
 t3 := Tryz.underlying3
 a3 := Tryz.isAgg3
 z3 := Tryz.sizeOf3
 v3 := Tryz.zeroValue3
 t9 := Tryz.underlying9
 a9 := Tryz.isAgg9
 z9 := Tryz.sizeOf9
 v9 := Tryz.zeroValue9
 t37 := Tryz.underlying40
 a37 := Tryz.isAgg40
 z37 := Tryz.sizeOf40
 v37 := Tryz.zeroValue40
 t70 := Tryz.underlying326
 a70 := Tryz.isAgg326
 z70 := Tryz.sizeOf326
 v70 := Tryz.zeroValue326
 t72 := Tryz.underlying328
 a72 := Tryz.isAgg328
 z72 := Tryz.sizeOf328
 v72 := Tryz.zeroValue328
 t127 := Tryz.underlying201
 a127 := Tryz.isAgg201
 z127 := Tryz.sizeOf201
 v127 := Tryz.zeroValue201 }
theorem Tryz.Builder_Extra_169 : Builder.Extra Tryz.prog Tryz.lays169_ren := {
 sizeBuilder := by kernel_rfl
 liesBuilder := by kernel_rfl
 t5 := Tryz.underlying5
 a5 := Tryz.isAgg5
 z5 := Tryz.sizeOf5
 v5 := Tryz.zeroValue5
 infoByte := by kernel_rfl
 cellsByte := by kernel_rfl
 sizeByte := by kernel_rfl
 neB5 := by decide }
def Tryz.lays137_ren : Go.Shelf.Ren := ⟨fun | 137 => 242 | 217 => 137 | 266 => 162 | n => n, fun | 9 => 9 | 5 => 5 | 3 => 3 | n => n, fun | n => n⟩
theorem Tryz.lays137 : Go.Proofs.Lays.n137 Tryz.prog Tryz.lays137_ren := {
 mixed := by kernel_rfl
 f137 := Tryz.func242.trans (congrArg some (by kernel_rfl))
 f217 := Tryz.func137.trans (congrArg some (by kernel_rfl))
 f266 := Tryz.func162.trans (congrArg some (by kernel_rfl))
 t3 := Tryz.underlying3
 a3 := Tryz.isAgg3
 z3 := Tryz.sizeOf3
 v3 := Tryz.zeroValue3
 t5 := Tryz.underlying5
 a5 := Tryz.isAgg5
 z5 := Tryz.sizeOf5
 v5 := Tryz.zeroValue5
 t9 := Tryz.underlying9
 a9 := Tryz.isAgg9
 z9 := Tryz.sizeOf9
 v9 := Tryz.zeroValue9 }
open Go.RowKit in
theorem Tryz.strings_IndexByte (s : ByteArray) (c : Int) (w : World) :
  Calls Tryz.prog 242 #[.string s, .int .u8 c] w fun e w' => e = .returned (.int .i64 (Lib.indexByte s.data.toList c.toNat.toUInt8)) ∧ w' = w := Any.strings_IndexByte Tryz.lays137 s c w
def Tryz.laysM316_ren : Go.Shelf.Ren := ⟨fun | 316 => 131 | n => n, fun | 9 => 9 | 3 => 3 | 4 => 4 | 37 => 40 | 0 => 0 | 127 => 201 | 5 => 5 | n => n, fun | n => n⟩
theorem Tryz.laysM316 : Go.Proofs.LaysM.n316 Tryz.prog Tryz.laysM316_ren := {
 mixed := by kernel_rfl
 f316 := Tryz.func131.trans (congrArg some (by kernel_rfl))
 t0 := Tryz.underlying0
 a0 := Tryz.isAgg0
 z0 := Tryz.sizeOf0
 v0 := Tryz.zeroValue0
 t3 := Tryz.underlying3
 a3 := Tryz.isAgg3
 z3 := Tryz.sizeOf3
 v3 := Tryz.zeroValue3
 t4 := Tryz.underlying4
 a4 := Tryz.isAgg4
 z4 := Tryz.sizeOf4
 v4 := Tryz.zeroValue4
 t9 := Tryz.underlying9
 a9 := Tryz.isAgg9
 z9 := Tryz.sizeOf9
 v9 := Tryz.zeroValue9
 t37 := Tryz.underlying40
 a37 := Tryz.isAgg40
 z37 := Tryz.sizeOf40
 v37 := Tryz.zeroValue40
 t127 := Tryz.underlying201
 a127 := Tryz.isAgg201
 z127 := Tryz.sizeOf201
 v127 := Tryz.zeroValue201
 t5 := Tryz.underlying5
 a5 := Tryz.isAgg5
 z5 := Tryz.sizeOf5
 v5 := Tryz.zeroValue5
 i0 := by kernel_rfl
 i3 := by kernel_rfl
 i4 := by kernel_rfl
 i5 := by kernel_rfl
 i9 := by kernel_rfl
 i37 := by kernel_rfl
 i127 := by kernel_rfl }
open Go.RowKit in
theorem Tryz.stringslite_Clone (s : ByteArray) (w : World) (hlim : s.size ≤ 281474976710656) :
  Calls Tryz.prog 131 #[.string s] w fun e w' => e = .returned (.string s) ∧ Below w.heap.size w w' := Any.stringslite_Clone Tryz.laysM316 s w hlim
def Tryz.laysC174_ren : Go.Shelf.Ren := ⟨fun | 174 => 125 | 247 => 141 | 245 => 142 | 287 => 164 | 279 => 165 | 280 => 166 | 281 => 167 | 282 => 168 | 321 => 193 | 322 => 194 | 316 => 131 | 171 => 62 | 205 => 195 | 243 => 104 | 246 => 129 | 283 => 148 | 284 => 149 | 285 => 150 | 286 => 151 | 129 => 177 | 317 => 176 | 318 => 178 | 319 => 179 | 320 => 180 | 337 => 204 | 338 => 205 | n => n, fun | 9 => 9 | 3 => 3 | 2 => 2 | 75 => 163 | 85 => 164 | 4 => 4 | 167 => 207 | 5 => 5 | 53 => 154 | 175 => 208 | 46 => 156 | 168 => 210 | 37 => 40 | 0 => 0 | 210 => 241 | 21 => 21 | 127 => 201 | 145 => 284 | 143 => 282 | 171 => 190 | 173 => 192 | 212 => 227 | 51 => 204 | 20 => 20 | 213 => 228 | 232 => 304 | 233 => 305 | 80 => 260 | n => n, fun | 15 => 4 | 16 => 5 | 17 => 1 | 18 => 7 | 19 => 8 | n => n⟩
theorem Tryz.laysC174 : Go.Proofs.LaysC.n174 Tryz.prog Tryz.laysC174_ren := {
 mixed := by kernel_rfl
 f129 := Tryz.func177.trans (congrArg some (by kernel_rfl))
 f171 := Tryz.func62.trans (congrArg some (by kernel_rfl))
 f174 := Tryz.func125.trans (congrArg some (by kernel_rfl))
 f205 := Tryz.func195.trans (congrArg some (by kernel_rfl))
 f243 := Tryz.func104.trans (congrArg some (by kernel_rfl))
 f245 := Tryz.func142.trans (congrArg some (by kernel_rfl))
 f246 := Tryz.func129.trans (congrArg some (by kernel_rfl))
 f247 := Tryz.func141.trans (congrArg some (by kernel_rfl))
 f279 := Tryz.func165.trans (congrArg some (by kernel_rfl))
 f280 := Tryz.func166.trans (congrArg some (by kernel_rfl))
 f281 := Tryz.func167.trans (congrArg some (by kernel_rfl))
 f282 := Tryz.func168.trans (congrArg some (by kernel_rfl))
 f283 := Tryz.func148.trans (congrArg some (by kernel_rfl))
 f284 := Tryz.func149.trans (congrArg some (by kernel_rfl))
 f285 := Tryz.func150.trans (congrArg some (by kernel_rfl))
 f286 := Tryz.func151.trans (congrArg some (by kernel_rfl))
 f287 := Tryz.func164.trans (congrArg some (by kernel_rfl))
 f316 := Tryz.func131.trans (congrArg some (by kernel_rfl))
 f317 := Tryz.func176.trans (congrArg some (by kernel_rfl))
 f318 := Tryz.func178.trans (congrArg some (by kernel_rfl))
 f319 := Tryz.func179.trans (congrArg some (by kernel_rfl))
 f320 := Tryz.func180.trans (congrArg some (by kernel_rfl))
 f321 := Tryz.func193.trans (congrArg some (by kernel_rfl))
 f322 := Tryz.func194.trans (congrArg some (by kernel_rfl))
 f337 := Tryz.func204.trans (congrArg some (by kernel_rfl))
 f338 := Tryz.func205.trans (congrArg some (by kernel_rfl))
 t0 := Tryz.underlying0
 a0 := Tryz.isAgg0
 z0 := Tryz.sizeOf0
 v0 := Tryz.zeroValue0
 t2 := Tryz.underlying2
 a2 := Tryz.isAgg2
 z2 := Tryz.sizeOf2
 v2 := Tryz.zeroValue2
 t3 := Tryz.underlying3
 a3 := Tryz.isAgg3
 z3 := Tryz.sizeOf3
 v3 := Tryz.zeroValue3
 t4 := Tryz.underlying4
 a4 := Tryz.isAgg4
 z4 := Tryz.sizeOf4
 v4 := Tryz.zeroValue4
 t5 := Tryz.underlying5
 a5 := Tryz.isAgg5
 z5 := Tryz.sizeOf5
 v5 := Tryz.zeroValue5
 t9 := Tryz.underlying9
 a9 := Tryz.isAgg9
 z9 := Tryz.sizeOf9
 v9 := Tryz.zeroValue9
 t20 := Tryz.underlying20
 a20 := Tryz.isAgg20
 z20 := Tryz.sizeOf20
 v20 := Tryz.zeroValue20
 t21 := Tryz.underlying21
 a21 := Tryz.isAgg21
 z21 := Tryz.sizeOf21
 v21 := Tryz.zeroValue21
 t37 := Tryz.underlying40
 a37 := Tryz.isAgg40
 z37 := Tryz.sizeOf40
 v37 := Tryz.zeroValue40
 t46 := Tryz.underlying156
 a46 := Tryz.isAgg156
 z46 := Tryz.sizeOf156
 v46 := Tryz.zeroValue156
 t51 := Tryz.underlying204
 a51 := Tryz.isAgg204
 z51 := Tryz.sizeOf204
 v51 := Tryz.zeroValue204
 t53 := Tryz.underlying154
 a53 := Tryz.isAgg154
 z53 := Tryz.sizeOf154
 v53 := Tryz.zeroValue154
 t75 := Tryz.underlying163
 a75 := Tryz.isAgg163
 z75 := Tryz.sizeOf163
 v75 := Tryz.zeroValue163
 t85 := Tryz.underlying164
 a85 := Tryz.isAgg164
 z85 := Tryz.sizeOf164
 v85 := Tryz.zeroValue164
 t127 := Tryz.underlying201
 a127 := Tryz.isAgg201
 z127 := Tryz.sizeOf201
 v127 := Tryz.zeroValue201
 t143 := Tryz.underlying282
 a143 := Tryz.isAgg282
 z143 := Tryz.sizeOf282
 v143 := Tryz.zeroValue282
 t145 := Tryz.underlying284
 a145 := Tryz.isAgg284
 z145 := Tryz.sizeOf284
 v145 := Tryz.zeroValue284
 t167 := Tryz.underlying207
 a167 := Tryz.isAgg207
 z167 := Tryz.sizeOf207
 v167 := Tryz.zeroValue207
 t168 := Tryz.underlying210
 a168 := Tryz.isAgg210
 z168 := Tryz.sizeOf210
 v168 := Tryz.zeroValue210
 t171 := Tryz.underlying190
 a171 := Tryz.isAgg190
 z171 := Tryz.sizeOf190
 v171 := Tryz.zeroValue190
 t173 := Tryz.underlying192
 a173 := Tryz.isAgg192
 z173 := Tryz.sizeOf192
 v173 := Tryz.zeroValue192
 t175 := Tryz.underlying208
 a175 := Tryz.isAgg208
 z175 := Tryz.sizeOf208
 v175 := Tryz.zeroValue208
 t210 := Tryz.underlying241
 a210 := Tryz.isAgg241
 z210 := Tryz.sizeOf241
 v210 := Tryz.zeroValue241
 t212 := Tryz.underlying227
 a212 := Tryz.isAgg227
 z212 := Tryz.sizeOf227
 v212 := Tryz.zeroValue227
 t213 := Tryz.underlying228
 a213 := Tryz.isAgg228
 z213 := Tryz.sizeOf228
 t232 := Tryz.underlying304
 a232 := Tryz.isAgg304
 z232 := Tryz.sizeOf304
 v232 := Tryz.zeroValue304
 t233 := Tryz.underlying305
 a233 := Tryz.isAgg305
 z233 := Tryz.sizeOf305
 v233 := Tryz.zeroValue305
 g15 := by kernel_rfl
 g16 := by kernel_rfl
 g17 := by kernel_rfl
 g18 := by kernel_rfl
 g19 := by kernel_rfl
 t80 := Tryz.underlying260
 a80 := Tryz.isAgg260
 z80 := Tryz.sizeOf260
 v80 := Tryz.zeroValue260
 i0 := by kernel_rfl
 i2 := by kernel_rfl
 i3 := by kernel_rfl
 i4 := by kernel_rfl
 i5 := by kernel_rfl
 i9 := by kernel_rfl
 i20 := by kernel_rfl
 i21 := by kernel_rfl
 i37 := by kernel_rfl
 i46 := by kernel_rfl
 i51 := by kernel_rfl
 i53 := by kernel_rfl
 i75 := by kernel_rfl
 i80 := by kernel_rfl
 i85 := by kernel_rfl
 i127 := by kernel_rfl
 i143 := by kernel_rfl
 i145 := by kernel_rfl
 i167 := by kernel_rfl
 i168 := by kernel_rfl
 i171 := by kernel_rfl
 i173 := by kernel_rfl
 i175 := by kernel_rfl
 i210 := by kernel_rfl
 i212 := by kernel_rfl
 i232 := by kernel_rfl
 i233 := by kernel_rfl
 m15 := by kernel_rfl
 m16 := by kernel_rfl
 m17 := by kernel_rfl
 m18 := by kernel_rfl
 m19 := by kernel_rfl
 c0 := by kernel_rfl
 c2 := by kernel_rfl
 c3 := by kernel_rfl
 c4 := by kernel_rfl
 c5 := by kernel_rfl
 c9 := by kernel_rfl
 c20 := by kernel_rfl
 c21 := by kernel_rfl
 c37 := by kernel_rfl
 c46 := by kernel_rfl
 c51 := by kernel_rfl
 c53 := by kernel_rfl
 c75 := by kernel_rfl
 c80 := by kernel_rfl
 c85 := by kernel_rfl
 c127 := by kernel_rfl
 c143 := by kernel_rfl
 c145 := by kernel_rfl
 c167 := by kernel_rfl
 c168 := by kernel_rfl
 c171 := by kernel_rfl
 c173 := by kernel_rfl
 c175 := by kernel_rfl
 c210 := by kernel_rfl
 c212 := by kernel_rfl
 c213 := by kernel_rfl
 c232 := by kernel_rfl
 c233 := by kernel_rfl }
open Go.RowKit in
theorem Tryz.strconv_ParseInt_10_at64_ok (s : ByteArray) (hmax : s.size ≤ 9223372036854775806) (v : Int) (h : Lib.parseIntB 64 s.data.toList = .ok v) (w : World) :
  Calls Tryz.prog 125 #[.string s, .int .i64 10, .int .i64 64] w fun e w' => e = .returned (.tuple #[.int .i64 v, .nilIface]) ∧ (w' = w ∨ ∃ t, w' = Lib.bytesWorld w 5 t) := Any.strconv_ParseInt_10_at64_ok Tryz.laysC174 s hmax v h w
open Go.RowKit in
theorem Tryz.strconv_ParseInt_10_at64_range (s : ByteArray) (hlim : s.size ≤ 281474976710656) (h : Lib.parseIntB 64 s.data.toList = .range) (ev : Value) (w : World) (hv : w.cell? ⟨5, 0, none⟩ = some ev) (hev : ev = .nilIface ∨ ∃ te pe, ev = .iface te pe) :
  Calls Tryz.prog 125 #[.string s, .int .i64 10, .int .i64 64] w fun e w' => ∃ N, e = .returned (.tuple #[.int .i64 (Lib.intSat 64 s.data.toList), .iface 210 (.pointer (some ⟨N, 0, none⟩))]) ∧ w.heap.size ≤ N ∧ w'.heap[N]? = some (.cells #[.string ⟨#[80, 97, 114, 115, 101, 73, 110, 116]⟩, .string s, ev] 241 (0, 0)) ∧ Below w.heap.size w w' := Any.strconv_ParseInt_10_at64_range Tryz.laysC174 s hlim h ev w hv hev
def Tryz.lays240_ren : Go.Shelf.Ren := ⟨fun | 240 => 251 | 276 => 261 | n => n, fun | 0 => 0 | 4 => 4 | 9 => 9 | 20 => 20 | 37 => 40 | 70 => 326 | 72 => 328 | 164 => 248 | n => n, fun n => n⟩
theorem Tryz.lays240 : Go.Proofs.Lays.n240 Tryz.prog Tryz.lays240_ren := {
 mixed := by kernel_rfl
 f240 := Tryz.func251.trans (congrArg some (by kernel_rfl))
 f276 := Tryz.func261.trans (congrArg some (by kernel_rfl))
 t0 := Tryz.underlying0
 a0 := Tryz.isAgg0
 z0 := Tryz.sizeOf0
 v0 := Tryz.zeroValue0
 t4 := Tryz.underlying4
 a4 := Tryz.isAgg4
 z4 := Tryz.sizeOf4
 v4 := Tryz.zeroValue4
 t9 := Tryz.underlying9
 a9 := Tryz.isAgg9
 z9 := Tryz.sizeOf9
 v9 := Tryz.zeroValue9
 t20 := Tryz.underlying20
 a20 := Tryz.isAgg20
 z20 := Tryz.sizeOf20
 v20 := Tryz.zeroValue20
 t70 := Tryz.underlying326
 a70 := Tryz.isAgg326
 z70 := Tryz.sizeOf326
 v70 := Tryz.zeroValue326
 t72 := Tryz.underlying328
 a72 := Tryz.isAgg328
 z72 := Tryz.sizeOf328
 v72 := Tryz.zeroValue328
 t164 := Tryz.underlying248
 a164 := Tryz.isAgg248
 z164 := Tryz.sizeOf248
 v164 := Tryz.zeroValue248
}
theorem Tryz.Builder_X72_240 : Builder.X72 Tryz.prog Tryz.lays240_ren := {
 sizeBuilder := by kernel_rfl
 liesBuilder := by kernel_rfl
}
end Go.Proofs
/- The library's functions, told over abstract values. No condition. -/
namespace Go.Proofs
open Go.Shelf Go.RowKit
variable {P : Program} {ρ : Ren}
theorem liesAt_off {e : TypeId} (hc : P.cellsOf e = 1) (count off n : Nat) (hn : off + n ≤ count) : liesAt P P.depth e count off e n = true := by
 have hd : P.depth = (2 * (P.types.size + Made.depth) + 1) + 1 := rfl
 rw [hd]
 simp only [liesAt, zeA]
 left
 rw [hd]
 simp [rowAt, hc, hn, sameLayout, Nat.mod_one]
theorem unsafeString_at (w : World) (pt it ty e : TypeId) (hp : P.underlying pt = some (.pointer e)) (hc : P.cellsOf e = 1) (a : Addr) (cells : Nat) (hsh : w.shape? a.block = some (e, cells)) (l : List UInt8) (h0 : l ≠ []) (hn : a.off + l.length ≤ cells) (h63 : l.length ≤ 9223372036854775807)
  (hcell : ∀ j x, l[j]? = some x → w.cell? (a.add j) = some (.int .u8 x.toNat)) :
  (Builtin.unsafeString_ #[pt, it] ty #[.pointer (some a), .int .i64 l.length]).run P w = .ok (.string ⟨l.toArray⟩) (w.freeze a l.length) := by
 have hl : l.length ≠ 0 := by simpa using h0
 have hlb := Lib.run_loadBytes (P := P) w l a .empty hcell
 have hlies := liesAt_off (P := P) hc (cells / P.cellsOf e) a.off l.length (by rw [hc]; simpa using hn)
 have h63' : ¬ (9223372036854775807 : Int) < (l.length : Int) := by omega
 have hdef : Builtin.unsafeString_ #[pt, it] ty #[.pointer (some a), .int .i64 l.length] =
   (do
    let n ← asInt (.int .i64 l.length)
    if n < 0 then runtimePanic (.error "unsafe.String: len out of range")
    if n > IntKind.i64.max then unsupported (.unsafePointer "String: a length above the largest int")
    if n = 0 then pure (.string .empty)
    else if ← variablesAt a (← elemOf pt) n.toNat then do
     let s ← loadBytes a .empty n.toNat
     freeze a n.toNat
     pure (.string s)
    else unsupported (.unsafePointer "String: not so many bytes at ptr")) := rfl
 rw [hdef]
 have hmax : IntKind.i64.max = 9223372036854775807 := rfl
 have hneg : ¬ (l.length : Int) < 0 := by omega
 simp [asInt, asIntOf, hmax, h63', hneg, hl, variablesAt, hsh, elemOf, run_underlying hp, hlies, hlb]
set_option maxHeartbeats 1000000 in
set_option maxRecDepth 100000 in
theorem builderString_at (L : Lays.n169 P ρ) (X : Builder.Extra P ρ) (b : Nat) (p : Value) (a : Addr) (cap n : Nat) (l : List UInt8) (w : World) (hbk : w.heap[b]? = some (.cells #[p, .slice (some a) l.length cap] (ρ.t 72) (0, 0))) (h0 : l ≠ []) (hcap : l.length ≤ cap) (h63 : l.length ≤ 9223372036854775807)
  (hsh : w.shape? a.block = some (ρ.t 5, n)) (hn : a.off + l.length ≤ n) (hcell : ∀ j x, l[j]? = some x → w.cell? (a.add j) = some (.int .u8 x.toNat)) :
  Calls P (ρ.f 169) #[.pointer (some ⟨b, 0, none⟩)] w fun e w' => e = .returned (.string ⟨l.toArray⟩) ∧ w' = w.drew.freeze a l.length := by
 have hl0 : l.length ≠ 0 := by simpa using h0
 have c1 : w.drew.cell? ⟨b, 1, none⟩ = some (.slice (some a) l.length cap) := by
  have : w.drew.heap[b]? = some (.cells #[p, .slice (some a) l.length cap] (ρ.t 72) (0, 0)) := hbk
  rw [Lib.cell_of_heap this]; rfl
 have hSD : (Builtin.unsafeSliceData_ #[(ρ.t 37)] (ρ.t 127) #[.slice (some a) l.length cap]).run P w.drew = .ok (.pointer (some a)) w.drew :=
  Lib.run_unsafeSliceData_row _ _ _ _ _ _ (by omega)
 have hUS : (Builtin.unsafeString_ #[(ρ.t 127), (ρ.t 3)] (ρ.t 9) #[.pointer (some a), .int .i64 l.length]).run P w.drew = .ok (.string ⟨l.toArray⟩) (w.drew.freeze a l.length) :=
  unsafeString_at w.drew (ρ.t 127) (ρ.t 3) (ρ.t 9) (ρ.t 5) L.t127 X.cellsByte a n hsh l h0 hn h63 hcell
 have mixed := L.mixed
 have t72 := L.t72; have a72 := L.a72; have z72 := L.z72; have v72 := L.v72; have u72 := run_underlying L.t72
 have t70 := L.t70; have a70 := L.a70; have z70 := L.z70; have v70 := L.v70; have u70 := run_underlying L.t70
 have t37 := L.t37; have a37 := L.a37; have z37 := L.z37; have v37 := L.v37; have u37 := run_underlying L.t37
 have t127 := L.t127; have a127 := L.a127; have z127 := L.z127; have v127 := L.v127; have u127 := run_underlying L.t127
 have t3 := L.t3; have a3 := L.a3; have z3 := L.z3; have v3 := L.v3; have u3 := run_underlying L.t3
 have t9 := L.t9; have a9 := L.a9; have z9 := L.z9; have v9 := L.v9; have u9 := run_underlying L.t9
 have t5 := X.t5; have a5 := X.a5; have z5 := X.z5; have v5 := X.v5; have u5 := run_underlying X.t5
 go_enter L.f169, Body.n169_ntmps ρ
 go_wp2
 go_region_o
 all_goals (go_wp2; go_ret; exact ⟨rfl, rfl⟩)
end Go.Proofs
/- The library's functions hold what is asked of them. No condition but the variable that ParseInt looks at. -/
namespace Go.Av
open Go.RowKit
section
variable {P : Program} {Γ : Glob} {B0 : Nat} {G : Gh} {m : Store} {w : World}
theorem zbf {a : Addr} {n b : Nat} (h : b ≠ a.block) : (w.freeze a n).heap[b]? = w.heap[b]? := by
 unfold World.freeze
 split
 ·rfl
 ·simp only [zeM]
  rw [if_neg (fun e => h e.symm)]
theorem cell_freeze {a c : Addr} {n : Nat} : (w.freeze a n).cell? c = w.cell? c := by
 by_cases h : c.block = a.block
 ·unfold World.freeze
  split
  ·rfl
  ·simp only [World.cell?, zeM, h, if_true]
   cases hb : w.heap[a.block]? with
   | none => rfl
   | some o => cases o <;> rfl
 ·exact World.cell?_of_block (zbf h)
theorem zdF {a : Addr} {n : Nat} : (w.freeze a n).heap.size = w.heap.size := by
 unfold World.freeze
 split
 ·rfl
 ·simp
theorem Rep.freeze (h : Rep Γ B0 G m w) {t : Nat} {T : TypeId} {k : Nat} (ht : m t = some (.tip T k)) {a : Addr} {E C n : Nat} (hH : G.H t k = some (a.block, E, C)) : Rep Γ B0 G (fun c => if c = t then none else m c) (w.freeze a n) := by
 obtain ⟨_, B, E', C', q1, q2, q3, q4, ⟨cs0, fz0, q5⟩, _⟩ := h.tip t T k ht
 rw [hH] at q1
 simp only [Option.some.injEq, Prod.mk.injEq] at q1
 obtain ⟨rfl, rfl, rfl⟩ := q1
 have sub : ∀ b x, (if b = t then none else m b) = some x → b ≠ t ∧ m b = some x := by
  intro b x hb
  by_cases e : b = t
  ·simp [e] at hb
  ·exact ⟨e, by simpa [e] using hb⟩
 exact {
  K := fun b o u hu => by rw [cell_freeze]; exact h.K b o u hu
  base := by rw [zdF]; exact h.base
  hist := fun t' v x hx => by rw [zdF]; exact ⟨(h.hist t' v x hx).1, fun T' v' hv => (h.hist t' v x hx).2 T' v' (sub _ _ hv).2⟩
  var := fun b T' cs hb => by
   obtain ⟨h1, ⟨us, h2, h3⟩, h4⟩ := h.var b T' cs (sub _ _ hb).2
   have hne : b ≠ a.block := by rintro rfl; exact q4 _ _ (sub _ _ hb).2
   exact ⟨h1, ⟨us, by rw [zbf hne]; exact h2, h3⟩, h4⟩
  tip := fun t' T' v ht' => by
   rw [zdF]
   obtain ⟨hne, ht''⟩ := sub _ _ ht'
   obtain ⟨p1, B', E', C', p2, p3, p4, p5, ⟨y1, y2, y3⟩, p6⟩ := h.tip t' T' v ht''
   have hB : B' ≠ a.block := by
    rintro rfl
    exact h.apart t' T' v t T k a.block E' C' E C ht'' ht hne p2 hH
   refine ⟨p1, B', E', C', p2, p3, p4, fun T2 cs hc => p5 T2 cs (sub _ _ hc).2, ⟨y1, y2, by rw [zbf hB]; exact y3⟩, fun o h1 h2 => ?_⟩
   obtain ⟨f1, f2, f3⟩ := p6 o h1 h2
   exact ⟨by rw [cell_freeze]; exact f1, by rw [World.frozen?_of_block (w := w) (zbf hB)]; exact f2, f3⟩
  own := fun t' v B E C k => by rw [zdF]; exact ⟨(h.own t' v B E C k).1, (h.own t' v B E C k).2.1, fun T cs hc => (h.own t' v B E C k).2.2 T cs (sub _ _ hc).2⟩
  apart := fun t1 T1 v1 t2 T2 v2 B E C E' C' k1 k2 => h.apart t1 T1 v1 t2 T2 v2 B E C E' C' (sub _ _ k1).2 (sub _ _ k2).2
  glob := h.glob
  gsz := fun g cs hg h20 => by
   obtain ⟨a1, us', T', fz, b', c'⟩ := h.gsz g cs hg h20
   exact ⟨a1, us', T', fz, by rw [zbf (by omega)]; exact b', c'⟩
  loop := fun b r f t' ps x y D hb => by
   obtain ⟨h1, us, h2, h3⟩ := h.loop b r f t' ps x y D (sub _ _ hb).2
   have hne : b ≠ a.block := by rintro rfl; rw [q5.1] at h2; cases h2
   exact ⟨h1, us, by rw [zbf hne]; exact h2, h3⟩
  defer := fun b hb => by
   obtain ⟨h1, h2⟩ := h.defer b (sub _ _ hb).2
   have hne : b ≠ a.block := by rintro rfl; rw [q5.1] at h2; cases h2
   exact ⟨h1, by rw [zbf hne]; exact h2⟩ }
theorem by8s_inv : ∀ {l : List UInt8} {us : List Value}, RelL G (l.map by8) us → us = l.map fun b => Value.int .u8 b.toNat
 | [], us, h => h.nil_inv
 | b :: l, us, h => by
  obtain ⟨y, ys, rfl, r1, r2⟩ := h.cons_inv
  cases r1
  rw [by8s_inv r2]
  rfl
end
end Go.Av
namespace Go.Av.Fn
set_option linter.unusedSimpArgs false
set_option linter.unusedVariables false
set_option maxRecDepth 10000
open Go.Proofs Go.RowKit
theorem idxB_eq (s : List UInt8) (c : UInt8) : Lib.indexByte s c = idxB s c := by
 unfold idxB
 induction s with
 | nil => rfl
 | cons b s ih =>
  rw [List.findIdx?_cons, Lib.indexByte]
  by_cases h : (b == c) = true
  ·simp [h]
  ·simp only [h, zd5, if_false]
   rw [ih]
   cases List.findIdx? (· == c) s with
   | none => rfl
   | some i =>
    simp only [Option.map_some]
    have : ¬ ((i : Int) == -1) = true := by
     intro k
     have := eq_of_beq k
     omega
    rw [if_neg this]
    rfl
theorem parse_ge : ∀ (l : List UInt8) (acc u : Nat), Lib.parseUintM (2 ^ 64 - 1) acc l = .ok u → acc ≤ u
 | [], acc, u, h => by
  simp only [Lib.parseUintM, Lib.NumEnd.ok.injEq] at h
  omega
 | c :: r, acc, u, h => by
  simp only [Lib.parseUintM] at h
  split at h
  ·split at h
   ·cases h
   ·split at h
    ·cases h
    ·have := parse_ge r _ u h
     omega
  ·cases h
theorem parse_no : ∀ (l : List UInt8) (acc : Nat), (∀ c ∈ l, dig c = true) → (∃ u, Lib.parseUintM (2 ^ 64 - 1) acc l = .ok u) ∨ Lib.parseUintM (2 ^ 64 - 1) acc l = .range
 | [], acc, _ => .inl ⟨acc, rfl⟩
 | c :: r, acc, hd => by
  have hc := hd c (zee ..)
  simp only [dig, zd6, decide_eq_true_eq] at hc
  have hc' : 48 ≤ c.toNat ∧ c.toNat ≤ 57 := hc
  simp only [Lib.parseUintM, if_pos hc']
  split
  ·exact .inr rfl
  ·split
   ·exact .inr rfl
   ·exact parse_no r _ (fun c hc => hd c (zeg _ hc))
theorem parse_num : ∀ (l : List UInt8) (acc : Nat), (∀ c ∈ l, dig c = true) → acc < 9223372036854775808 →
  (∃ u, Lib.parseUintM (2 ^ 64 - 1) acc l = .ok u ∧ numL acc l = if u < 9223372036854775808 then some u else none) ∨ (Lib.parseUintM (2 ^ 64 - 1) acc l = .range ∧ numL acc l = none)
 | [], acc, _, ha => .inl ⟨acc, rfl, by simp only [numL]; rw [if_pos ha]⟩
 | c :: r, acc, hd, ha => by
  have hc := hd c (zee ..)
  simp only [dig, zd6, decide_eq_true_eq] at hc
  have hc' : 48 ≤ c.toNat ∧ c.toNat ≤ 57 := hc
  simp only [Lib.parseUintM, numL, if_pos hc']
  have key : (acc > (9223372036854775807 - (c.toNat - 48)) / 10) ↔ 9223372036854775807 < 10 * acc + (c.toNat - 48) := by omega
  have e10 : acc * 10 + (c.toNat - 48) = 10 * acc + (c.toNat - 48) := by omega
  rw [e10]
  by_cases h1 : 1844674407370955162 ≤ acc
  ·rw [if_pos h1, if_pos (key.2 (by omega))]
   exact .inr ⟨rfl, rfl⟩
  ·rw [if_neg h1]
   by_cases h2 : 2 ^ 64 - 1 < 10 * acc + (c.toNat - 48)
   ·rw [if_pos h2, if_pos (key.2 (by omega))]
    exact .inr ⟨rfl, rfl⟩
   ·rw [if_neg h2]
    by_cases h3 : 9223372036854775807 < 10 * acc + (c.toNat - 48)
    ·rw [if_pos (key.2 h3)]
     rcases parse_no r (10 * acc + (c.toNat - 48)) (fun c hc => hd c (zeg _ hc)) with ⟨u, hp⟩ | hp
     ·have := parse_ge r _ u hp
      exact .inl ⟨u, hp, by rw [if_neg (by omega)]⟩
     ·exact .inr ⟨hp, rfl⟩
    ·rw [if_neg (fun k => h3 (key.1 k))]
     exact parse_num r _ (fun c hc => hd c (zeg _ hc)) (by omega)
theorem parseB {s : List UInt8} (hne : s ≠ []) (hd : ∀ c ∈ s, dig c = true) : match numL 0 s with
  | some n => Lib.parseIntB 64 s = .ok (n : Int)
  | none => Lib.parseIntB 64 s = .range := by
 obtain ⟨c, r, rfl⟩ : ∃ c r, s = c :: r := by
  cases s with
  | nil => exact absurd rfl hne
  | cons c r => exact ⟨c, r, rfl⟩
 have hc := hd c (zee ..)
 simp only [dig, zd6, decide_eq_true_eq] at hc
 have h1 : ¬ (c.toNat = 43 ∨ c.toNat = 45) := by omega
 have h2 : ¬ c.toNat = 45 := by omega
 have hU : Lib.parseUintB 64 (c :: r) = Lib.parseUintM (2 ^ 64 - 1) 0 (c :: r) := by
  unfold Lib.parseUintB
  rw [if_neg (List.cons_ne_nil c r)]
 have hok : ∀ u, Lib.parseUintM (2 ^ 64 - 1) 0 (c :: r) = .ok u → Lib.parseIntB 64 (c :: r) = if 9223372036854775808 ≤ u then .range else .ok (u : Int) := by
  intro u hu
  unfold Lib.parseIntB
  simp only
  rw [if_neg h1, hU, hu]
  simp [h2]
 have hra : Lib.parseUintM (2 ^ 64 - 1) 0 (c :: r) = .range → Lib.parseIntB 64 (c :: r) = .range := by
  intro hu
  unfold Lib.parseIntB
  simp only
  rw [if_neg h1, hU, hu]
 rcases parse_num (c :: r) 0 hd (by omega) with ⟨u, e1, e2⟩ | ⟨e1, e2⟩
 ·rw [e2]
  by_cases hu : u < 9223372036854775808
  ·rw [if_pos hu]
   simp only
   rw [hok u e1, if_neg (by omega)]
  ·rw [if_neg hu]
   simp only
   rw [hok u e1, if_pos (by omega)]
 ·rw [e2]
  exact hra e1
theorem clone41 {Γ : Glob} (m : Store) (s : List UInt8) (hs : s.length ≤ 281474976710656) : zae Tryz.prog Γ 131 [bs s] m fun o m' => o = .ret (bs s) ∧ m' = m :=
 zae.of_vals (xs := [.string ⟨s.toArray⟩]) (u := .string ⟨s.toArray⟩) (by kernel_rfl) rfl (fun w => Tryz.stringslite_Clone ⟨s.toArray⟩ w (by simpa [ByteArray.size] using hs))
theorem index38 {Γ : Glob} (m : Store) (s : List UInt8) (c : UInt8) : zae Tryz.prog Γ 242 [bs s, by8 c] m fun o m' => o = .ret (it (idxB s c)) ∧ m' = m :=
 zae.of_vals (xs := [.string ⟨s.toArray⟩, .int .u8 c.toNat]) (u := .int .i64 (idxB s c)) (by kernel_rfl) rfl (fun w => (Tryz.strings_IndexByte ⟨s.toArray⟩ c.toNat w).mono (by
  rintro e w' ⟨rfl, rfl⟩
  refine ⟨?_, Below.refl _ _⟩
  have e1 : (c.toNat : Int).toNat.toUInt8 = c := by simp
  rw [e1, ← idxB_eq]))
theorem parse28 {Γ : Glob} {T : TypeId} {v : V} (hΓ : Γ 5 = some [.ifc T v]) : ParseOk Γ := by
 intro m s hne hs hd
 have hp := parseB hne hd
 refine ⟨by kernel_rfl, fun G B0 mF w cargs hD hR hL => ?_⟩
 obtain ⟨c1, r1, rfl, h1, hL⟩ := hL.cons_inv
 obtain ⟨c2, r2, rfl, h2, hL⟩ := hL.cons_inv
 obtain ⟨c3, r3, rfl, h3, hL⟩ := hL.cons_inv
 obtain rfl := hL.nil_inv
 cases h1
 cases h2
 cases h3
 have hsz : (⟨s.toArray⟩ : ByteArray).data.toList = s := by simp
 have hsz2 : (⟨s.toArray⟩ : ByteArray).size = s.length := by simp [ByteArray.size]
 cases hn : numL 0 s with
 | some n =>
  rw [hn] at hp
  refine (Tryz.strconv_ParseInt_10_at64_ok ⟨s.toArray⟩ (by omega) n (by rw [hsz]; exact hp) w).mono ?_
  rintro e w' ⟨rfl, hw⟩
  have hB : Below w.heap.size w w' := by
   rcases hw with rfl | ⟨t, rfl⟩
   ·exact Below.refl _ _
   ·exact Lib.bytesWorld_below w 5 t
  exact ⟨G, m, .ret (.tup [it n, .val .nilIface]), Gh.le.refl G, hD, hR.below hB, hB.mono hR.base, .ret (.tup (.cons (.val rfl) (.cons (.val rfl) .nil))), rfl, rfl⟩
 | none =>
  rw [hn] at hp
  obtain ⟨us, g1, g2⟩ := hR.glob 5 _ hΓ
  obtain ⟨u, ys, rfl, g3, g4⟩ := g1.cons_inv
  obtain rfl := g4.nil_inv
  have hcell := hR.K 5 0 u (g2.2 0 u rfl)
  cases g3 with
  | ifc g3 =>
   refine (Tryz.strconv_ParseInt_10_at64_range ⟨s.toArray⟩ (by omega) (by rw [hsz]; exact hp) _ w hcell (.inr ⟨_, _, rfl⟩)).mono ?_
   rintro e w' ⟨N, rfl, _, _, hB⟩
   exact ⟨G, m, .ret (.tup [it (Lib.intSat 64 (ByteArray.mk s.toArray).data.toList), .ifc 210 (.ptr N 0)]), Gh.le.refl G, hD, hR.below hB, hB.mono hR.base, .ret (.tup (.cons (.val rfl) (.cons (.ifc (.ptr _ _)) .nil))), ⟨_, _, _, rfl⟩, rfl⟩
theorem copy48 {Γ : Glob} (m : Store) (b : Nat) (p u : V) (h : m b = some (.var 328 [p, u])) (hp : markOk b p) : zae Tryz.prog Γ 251 [.ptr b 0] m fun o m' => o = .ret (.tup []) ∧ m' = m.set b (.var 328 [.ptr b 0, u]) := by
 refine ⟨by kernel_rfl, fun G B0 mF w cargs hD hR hL => ?_⟩
 obtain ⟨c1, r1, rfl, h1, hL⟩ := hL.cons_inv
 obtain rfl := hL.nil_inv
 cases h1
 have hb := zbK (f := mF) h
 obtain ⟨hB0, ⟨us, hw, hu⟩, hK⟩ := hR.var b 328 _ hb
 obtain ⟨x, us1, rfl, r1, hu⟩ := hu.cons_inv
 obtain ⟨y, us2, rfl, r2, hu⟩ := hu.cons_inv
 obtain rfl := hu.nil_inv
 rcases hp with rfl | rfl
 ·cases r1
  refine (Any.Builder_copyCheck_fresh Tryz.lays240 Tryz.Builder_X72_240 b w (by simp [World.cell?, hw]) (by simp [World.shape?, hw]; rfl) (by simp [World.frozen?, hw])).mono ?_
  rintro e w' ⟨rfl, rfl⟩
  have hst := hR.store hb (o := 0) (RelV.ptr (G := G) b 0)
  rw [← or_set] at hst
  exact ⟨G, _, .ret (.tup []), Gh.le.refl G, hD.set _ (hD.of_some h), hst, (Below.refl B0 w).setCell (p := ⟨b, 0, none⟩) hB0 _, .ret (.tup .nil), rfl, rfl⟩
 ·cases r1
  refine (Any.Builder_copyCheck_used Tryz.lays240 Tryz.Builder_X72_240 b w (by simp [World.cell?, hw])).mono ?_
  rintro e w' ⟨rfl, rfl⟩
  exact ⟨G, m, .ret (.tup []), Gh.le.refl G, hD, hR, Below.refl _ _, .ret (.tup .nil), rfl, (Store.set_eq m h).symm⟩
theorem string37 {Γ : Glob} (m : Store) (b : Nat) (p u : V) (l : List UInt8) (h : m b = some (.var 328 [p, u])) (hl : l.length ≤ 4096) (hu : (l = [] ∧ u = .sl [] [] .full) ∨ (l ≠ [] ∧ ∃ t k, m t = some (.tip 5 k) ∧ u = .sl (l.map by8) [] (.tip t k))) :
  zae Tryz.prog Γ 241 [.ptr b 0] m fun o m' => o = .ret (bs l) ∧ ∀ c x, m c = some x → (∀ l2 k, u ≠ .sl l2 [] (.tip c k)) → m' c = some x := by
 refine ⟨by kernel_rfl, fun G B0 mF w cargs hD hR hL => ?_⟩
 obtain ⟨c1, r1, rfl, h1, hL⟩ := hL.cons_inv
 obtain rfl := hL.nil_inv
 cases h1
 have hb := zbK (f := mF) h
 obtain ⟨hB0, ⟨us, hw, hus⟩, hK⟩ := hR.var b 328 _ hb
 obtain ⟨x, us1, rfl, r1, hus⟩ := hus.cons_inv
 obtain ⟨y, us2, rfl, r2, hus⟩ := hus.cons_inv
 obtain rfl := hus.nil_inv
 rcases hu with ⟨rfl, rfl⟩ | ⟨hne, t, k, ht, rfl⟩
 ·have hy : y = .slice none 0 0 := by
   cases r2 with
   | nil _ => rfl
   | sl q1 q2 q3 q4 q5 q6 => exact absurd rfl q6.2
  subst hy
  refine (Any.Builder_String_nil Tryz.lays169 Tryz.Builder_Extra_169 w.heap.size b x w hw).mono ?_
  rintro e w' ⟨rfl, hB⟩
  exact ⟨G, m, .ret (bs []), Gh.le.refl G, hD, hR.below hB, hB.mono hR.base, .ret (.val rfl), rfl, fun c x hc _ => hc⟩
 ·have hy : ∃ (a : Addr) (cap : Nat), y = .slice (some a) l.length cap ∧ l.length ≤ cap ∧ G.has a (l.map fun b => Value.int .u8 b.toNat) ∧ G.H t k = some (a.block, a.off + l.length, a.off + cap) := by
   obtain ⟨c, r, rfl⟩ : ∃ c r, l = c :: r := by
    cases l with
    | nil => exact absurd rfl hne
    | cons c r => exact ⟨c, r, rfl⟩
   cases r2 with
   | @sl _ _ _ us a cap sz q1 q2 q3 q4 q5 q6 =>
    have hsz : sz = 1 := (q1 (by8 c) (by simp)).symm
    subst hsz
    have hfl : flat ((c :: r).map by8 ++ []) = (c :: r).map by8 := by
     have : ∀ l : List UInt8, flat (l.map by8) = l.map by8 := by
      intro l
      induction l with
      | nil => rfl
      | cons b l ih => rw [List.map_cons, zaO, ih]; rfl
     rw [List.append_nil, this]
    rw [hfl] at q2
    have hus := by8s_inv q2
    subst hus
    have q6' : G.H t k = some (a.block, a.off + ((c :: r).map by8).length * 1, a.off + cap * 1) := q6
    rw [zed, Nat.mul_one, Nat.mul_one] at q6'
    exact ⟨a, cap, by rw [zed], by simpa using q4, q3, q6'⟩
  obtain ⟨a, cap, rfl, hcap, hhas, hH⟩ := hy
  have htm := zbK (f := mF) ht
  obtain ⟨_, B, E, C, p1, p2, p3, p4, ⟨cs, fz, p5⟩, p6⟩ := hR.tip t 5 k htm
  rw [hH] at p1
  simp only [Option.some.injEq, Prod.mk.injEq] at p1
  obtain ⟨rfl, rfl, rfl⟩ := p1
  have hcell : ∀ j x, l[j]? = some x → w.cell? (a.add j) = some (.int .u8 x.toNat) := by
   intro j x hx
   have hk := hhas.2 j (.int .u8 x.toNat) (by simp [hx])
   have := hR.K _ _ _ hk
   rw [add_plain hhas.1]
   exact this
  have hsz : a.off + l.length ≤ cs.size := by
   have hl0 : 0 < l.length := by cases l with | nil => exact absurd rfl hne | cons _ _ => simp
   have := hcell (l.length - 1) l[l.length - 1] (by simp [hl0])
   rw [add_plain hhas.1] at this
   simp only [World.cell?, p5] at this
   have h2 := (Array.getElem?_eq_some_iff.1 this).1
   omega
  refine (builderString_at Tryz.lays169 Tryz.Builder_Extra_169 b x a cap cs.size l w hw hne hcap (by omega) (by simp [World.shape?, p5]; rfl) hsz hcell).mono ?_
  rintro e w' ⟨rfl, rfl⟩
  have hfz := hR.drew.freeze htm (a := a) (n := l.length) hH
  have hor : (fun c => if c = t then none else (m.or mF) c) = Store.or (fun c => if c = t then none else m c) mF := by
   funext c
   by_cases e : c = t
   ·subst e
    have := hD.of_some ht
    simp [Store.or, this]
   ·simp [Store.or, e]
  rw [hor] at hfz
  refine ⟨G, _, .ret (bs l), Gh.le.refl G, fun c => ?_, hfz, Lib.below_freeze (Below.drew (Below.refl B0 w)) p2 _, .ret (.val rfl), rfl, fun c x hc hk => ?_⟩
  ·rcases hD c with h | h
   ·left
    by_cases e : c = t
    ·simp [e]
    ·simp [e, h]
   ·exact .inr h
  ·have : c ≠ t := by rintro rfl; exact hk _ _ rfl
   simp [this, hc]
theorem libOk {Γ : Glob} : LibOk Γ where
 clone := clone41
 copyCheck := copy48
 string := string37
 indexByte := fun m s c _ => index38 m s c
end Go.Av.Fn
/- Numerals read, written small ones; texts cut at a blank. Condition: what two variables hold. -/
namespace Go.Av.Fn
set_option linter.unusedSimpArgs false
set_option linter.unusedVariables false
set_option maxRecDepth 10000
open Go.Proofs Go.RowKit
def powV : List V := Lib.pow10Tab.map fun z => .val (.int .u64 z)
/-! ### Cut at a blank -/
section
variable {Γ : Glob} {m : Store}
theorem c1 : ((1 : Nat) : Int) = 1 := rfl
theorem c3 : ((3 : Nat) : Int) = 3 := rfl
end
end Go.Av.Fn
/- A command's text read, and written: what the program tells. Conditions: the library's functions; numbers are written (FmtAt) where they are. -/
namespace Go.Av.Fn
set_option linter.unusedSimpArgs false
set_option linter.unusedVariables false
set_option maxRecDepth 10000
open Go.Proofs
structure Env2 (Γ : Glob) : Prop where
 env : Env Γ
 range : ∃ T v, Γ 5 = some [.ifc T v]
 syn : ∃ T v, Γ 4 = some [.ifc T v]
section
variable {Γ : Glob} {m : Store}
end
end Go.Av.Fn
/- A command's text read: all of it. Conditions as ahead. -/
namespace Go.Av
end Go.Av
namespace Go.Av.Fn
set_option linter.unusedSimpArgs false
set_option linter.unusedVariables false
set_option maxRecDepth 10000
open Go.Proofs
section
variable {Γ : Glob} {m : Store}
end
end Go.Av.Fn
/- A command's text written; the document's examples. Conditions as ahead. -/
namespace Go.Av.Fn
set_option linter.unusedSimpArgs false
set_option linter.unusedVariables false
set_option maxRecDepth 100000
open Go.Proofs
theorem right_len {k n : Int} {s : List UInt8} (h : zaU k n s = true) : s.length ≤ 255 ∧ 0 ≤ n ∧ n ≤ 4294967296 := by
 unfold zaU at h
 split at h
 ·cases h
 ·rename_i h1
  simp only [zeA, not_or, zd6, Bool.not_eq_true', decide_eq_true_eq] at h1
  obtain ⟨⟨⟨⟨h1, h2⟩, h3⟩, h4⟩, h5⟩ := h1
  have hl : 0 ≤ (zaV k).least := by
   have hall : ∀ f ∈ forms, 0 ≤ f.least := by decide
   unfold zaV
   split
   ·decide
   ·cases hg : forms[k.toNat]? with
    | none => decide
    | some f => exact hall f (List.mem_of_getElem? hg)
  refine ⟨?_, by omega, by omega⟩
  split at h
  ·rename_i h6
   simp only [zeA, zd6, Bool.not_eq_true'] at h6
   rcases h6 with h6 | ⟨_, h6⟩
   ·have : s = [] := by
     cases hs : (s == []) with
     | true => exact eq_of_beq hs
     | false => exact absurd ⟨h6, hs⟩ h3
    subst this
    simp
   ·rw [eq_of_beq h6]
    simp
  ·unfold zbC at h
   simp only [zd6, decide_eq_true_eq] at h
   exact h.2
section
variable {Γ : Glob} {m : Store}
end
end Go.Av.Fn
/- The program tells the document's examples. No condition. -/
namespace Go.Av.Fn
set_option linter.unusedSimpArgs false
set_option linter.unusedVariables false
set_option maxRecDepth 10000
open Go.Proofs
end Go.Av.Fn
/- A command's text read, reckoned. No condition. -/
namespace Go.Av.Fn
set_option linter.unusedSimpArgs false
set_option linter.unusedVariables false
set_option maxRecDepth 100000
open Go.Proofs
section
variable {Γ : Glob} {m : Store}
end
end Go.Av.Fn
