/- The functions that may be gone through over blocks in turn. No condition. -/
import Derived.KernelRfl
import Derived.LaidEql
import Derived.Lib.AppendIntMem
import Derived.Lib.ItoaLen
import Derived.Lib.ParseIntBCases
import Derived.Lib.UnsafeStr
import Derived.Lib.VarintBits
import Derived.Lib.VarintDec
import Derived.Lib.Zigzag
import Derived.RowKitTokens
import Derived.Shelf.LaysC
import Derived.Shelf.LaysM
import Derived.Shelf.RegionOpenPlain
import Derived.Shelf.Small.Strs
import Derived.Shelf.Strconv.Clone
import Derived.Shelf.Strconv.Itoa3
import Derived.Shelf.Strconv.ParseIntPublic10
import Derived.Shelf.Strings.Builder1
import Derived.Shelf.Strings.Search1
import Derived.Shelf.Strings.Search2
import Derived.Stop.Asserts
import Derived.Test.YtfanfdflpakjeaaGreatDoorProg
import Derived.WalkKit
import Derived.Test.YtfanfdflpakjeaaGreatDoorTAvX
open Array renaming getElem?_modify → zd6
open Bool renaming and_eq_true → zdD, false_eq_true → zd0
open Int renaming fdiv_eq_ediv_of_nonneg → zd2, reduceBEq → zdy, reduceBNe → zdz
open List renaming append_nil → zdV, append_assoc → zdK, map_append → zd8, length_cons → zdF, cons_append → zdY, getElem?_eq_getElem → zdL, length_drop → zdM, mem_cons_self → zdG, mem_cons_of_mem → zdI, length_map → zdW, length_append → zdE, range → zdQ, length_nil → zdJ, length_take → zdZ
open Nat renaming reduceSub → zdB, reduceAdd → zdx, reduceLeDiff → zdv, reduceEqDiff → zdw, reduceLT → zdA, le_refl → zd1
open Option renaming bind_some → zdR
namespace Go.Av.Fn
set_option maxRecDepth 100000
theorem F51_h : F51.body.okH [] = true := by kernel_rfl
theorem F67_h : F67.body.okH [] = true := by kernel_rfl
theorem F71_h : F71.body.okH [] = true := by kernel_rfl
theorem F91_h : F91.body.okH [] = true := by kernel_rfl
theorem F95_h : F95.body.okH [] = true := by kernel_rfl
theorem F111_h : F111.body.okH [] = true := by kernel_rfl
theorem F115_h : F115.body.okH [] = true := by kernel_rfl
theorem F123_h : F123.body.okH [] = true := by kernel_rfl
theorem F12_h : F12.body.okH [] = true := by kernel_rfl
theorem F24_h : F24.body.okH [] = true := by kernel_rfl
theorem F40_h : F40.body.okH [] = true := by kernel_rfl
theorem F52_h : F52.body.okH [] = true := by kernel_rfl
theorem F92_h : F92.body.okH [] = true := by kernel_rfl
theorem F96_h : F96.body.okH [] = true := by kernel_rfl
theorem F112_h : F112.body.okH [] = true := by kernel_rfl
theorem F41_h : F41.body.okH [] = true := by kernel_rfl
theorem F49_h : F49.body.okH [] = true := by kernel_rfl
theorem F93_h : F93.body.okH [] = true := by kernel_rfl
theorem F97_h : F97.body.okH [] = true := by kernel_rfl
theorem F113_h : F113.body.okH [] = true := by kernel_rfl
theorem F26_h : F26.body.okH [] = true := by kernel_rfl
theorem F50_h : F50.body.okH [] = true := by kernel_rfl
theorem F66_h : F66.body.okH [] = true := by kernel_rfl
theorem F70_h : F70.body.okH [] = true := by kernel_rfl
theorem F94_h : F94.body.okH [] = true := by kernel_rfl
theorem F98_h : F98.body.okH [] = true := by kernel_rfl
theorem F132_h : F132.body.okH [] = true := by kernel_rfl
end Go.Av.Fn
/- Numbers as bytes: shifts, folds and unfolds as the program computes them; the number that bytes begin with. No condition. -/
namespace Go.Av
open Go.Lib
set_option linter.unusedSimpArgs false
set_option linter.unusedVariables false
section
variable {P : Program} {T : TypeId} {xo yo : Operand} {k yk : IntKind} {a b : Int}
theorem bin_shl (h : 0 ≤ b) : binV P .shl T .other xo yo (.val (.int k a)) (.val (.int yk b)) = some (.val (.int k (k.wrap (a * 2 ^ (min b.toNat k.bits))))) := by
 simp [binV, zbs, zav, raw, eqGuard, binOp, zam, Op.shift, zaX, pure, bind, Sem.bind, h, Int.not_lt.2 h]
theorem bin_shr (h : 0 ≤ b) : binV P .shr T .other xo yo (.val (.int k a)) (.val (.int yk b)) = some (.val (.int k (a.fdiv (2 ^ (min b.toNat k.bits))))) := by
 simp [binV, zbs, zav, raw, eqGuard, binOp, zam, Op.shift, zaX, pure, bind, Sem.bind, h, Int.not_lt.2 h]
theorem bin_xorb : binV P .xor T .other xo yo (.val (.int k a)) (.val (.int k b)) = some (.val (.int k (bits .xor k a b))) := by
 simp [binV, zbs, zav, raw, eqGuard, binOp, zam, Op.intBits, zaX, pure, bind, Sem.bind, bits]
theorem bin_orb : binV P .or T .other xo yo (.val (.int k a)) (.val (.int k b)) = some (.val (.int k (bits .or k a b))) := by
 simp [binV, zbs, zav, raw, eqGuard, binOp, zam, Op.intBits, zaX, pure, bind, Sem.bind, bits]
theorem bin_andb : binV P .and T .other xo yo (.val (.int k a)) (.val (.int k b)) = some (.val (.int k (bits .and k a b))) := by
 simp [binV, zbs, zav, raw, eqGuard, binOp, zam, Op.intBits, zaX, pure, bind, Sem.bind, bits]
end
section
variable {P : Program} {Γ : Glob} {Kp : V → Store → Prop} {l : List Item} {K : St → Prop} {t : List V} {m m' : Store} {d : Option Tmp} {s : List (Tmp × Option (Tmp × Bool) × AOp)}
theorem appS_bufs {e : TypeId} {bytes : Nat} {v x : V} {es ys : List V} (h : Buf e 1 m m' v es) (hx : extra m' 1 x = some ys) (hy : zdo 1 ys) (hl : (es.length + ys.length) * bytes ≤ 140737488355328)
  (hk : ∀ m2 v2, Buf e 1 m m2 v2 (es ++ ys) → zbu P Γ Kp s l K (putO t m2 d (some v2))) : appS P Γ Kp e bytes 1 v x d s l K t m' := by
 have hsz : szOk 1 (es ++ ys) = true := by
  have := h.1
  simp only [szOk, List.all_append, zdD] at this ⊢
  refine ⟨this, List.all_eq_true.2 fun y hyy => ?_⟩
  simp [(hy y hyy).1]
 obtain ⟨tok, hv⟩ := h.val
 have hb := h
 rcases h.2 with ⟨rfl, rfl, rfl⟩ | ⟨hne, b, k, hbn, rfl, rfl⟩
 ·simp only [appS, opE, hx]
  refine ⟨fun e0 => ?_, fun e0 => ⟨rfl, hy, .inl (by simpa using hl), trivial, fun b hb => ?_⟩⟩
  ·subst e0
   exact hk _ _ ⟨rfl, .inl ⟨rfl, rfl, rfl⟩⟩
  ·exact hk _ _ ⟨hsz, .inr ⟨by simpa using e0, b, 0, hb, rfl, rfl⟩⟩
 ·simp only [appS, opE, hx]
  refine ⟨fun e0 => ?_, fun e0 => ⟨h.1, hy, .inl hl, trivial, hne, Store.set_same _ _ _, ?_⟩⟩
  ·subst e0
   exact hk _ _ (by rw [zdV]; exact hb)
  ·rw [Store.set_set]
   exact hk _ _ ⟨hsz, .inr ⟨by simp [hne], b, k + 1, hbn, rfl, rfl⟩⟩
theorem elemsOk_by8 (l : List UInt8) : zdo 1 (l.map by8) := by
 intro y hy
 obtain ⟨b, _, rfl⟩ := List.mem_map.1 hy
 exact ⟨rfl, fun c hc => by simp only [V.cells, List.mem_singleton] at hc; subst hc; rfl⟩
theorem extra_bs {m : Store} (l : List UInt8) : extra m 1 (bs l) = some (l.map by8) := by
 simp [extra, bs, bytesV]
end
def I64 (n : Int) : Prop := -9223372036854775808 ≤ n ∧ n < 9223372036854775808
theorem fold_eq {n : Int} (h : I64 n) : bits .xor .u64 (IntKind.u64.wrap (IntKind.u64.wrap n * 2 ^ (min (Int.toNat 1) IntKind.u64.bits))) (IntKind.u64.wrap (n.fdiv (2 ^ (min (Int.toNat 63) IntKind.i64.bits)))) = (zigzag n : Int) := by
 obtain ⟨h1, h2⟩ := h
 have e1 : min (Int.toNat 1) IntKind.u64.bits = 1 := by decide
 have e2 : min (Int.toNat 63) IntKind.i64.bits = 63 := by decide
 rw [e1, e2, IntKind.wrap_u64, IntKind.wrap_u64, IntKind.wrap_u64]
 by_cases hn : 0 ≤ n
 ·have e3 : n.fdiv (2 ^ 63) = 0 := by
   rw [zd2 _ (by decide)]
   exact Int.ediv_eq_zero_of_lt hn (by omega)
  rw [e3]
  have e4 : n % 18446744073709551616 * 2 ^ 1 % 18446744073709551616 = ((2 * n.toNat : Nat) : Int) := by omega
  rw [e4, show (0 : Int) % 18446744073709551616 = ((0 : Nat) : Int) from rfl, bits_xor_u64_nat _ _ (by omega) (by decide), Nat.xor_zero]
  unfold zigzag
  rw [if_pos hn]
  omega
 ·have e3 : n.fdiv (2 ^ 63) = -1 := by
   rw [zd2 _ (by decide)]
   omega
  rw [e3]
  have e4 : n % 18446744073709551616 * 2 ^ 1 % 18446744073709551616 = (((2 * n + 18446744073709551616).toNat : Nat) : Int) := by omega
  have e5 : (-1 : Int) % 18446744073709551616 = ((2 ^ 64 - 1 : Nat) : Int) := by decide
  rw [e4, e5, bits_xor_u64_nat _ _ (by omega) (by decide), Nat.xor_comm, xor_ones64 _ (by omega)]
  unfold zigzag
  rw [if_neg hn]
  omega
theorem zigzag_u64 {n : Int} (h : I64 n) : zigzag n < 18446744073709551616 := zigzag_lt h.1 (by have := h.2; omega)
theorem unzigzag_i64 {u : Nat} (h : u < 18446744073709551616) : I64 (unzigzag u) := by
 unfold unzigzag I64
 split <;> omega
theorem unzigzag_zigzag (n : Int) : unzigzag (zigzag n) = n := by
 unfold unzigzag zigzag
 split <;> split <;> omega
theorem i64_notneg (x : Nat) (hx : x < 9223372036854775808) : bits .xor .i64 (x : Int) (-1) = -(x : Int) - 1 := by
 have h := i64_not x hx
 show IntKind.i64.wrap ((BitVec.ofInt 64 (x : Int) ^^^ BitVec.ofInt 64 (-1)).toNat : Int) = _
 rw [BitVec.xor_comm]
 exact h
theorem i64_xor0 (x : Nat) (hx : x < 9223372036854775808) : bits .xor .i64 (x : Int) 0 = (x : Int) := by
 show IntKind.i64.wrap ((BitVec.ofInt 64 (x : Int) ^^^ BitVec.ofInt 64 0).toNat : Int) = _
 have h1 : (BitVec.ofInt 64 (0 : Int)) = 0#64 := by decide
 have h2 : (BitVec.ofInt 64 (x : Int)).toNat = x := by
  rw [BitVec.ofInt_natCast, BitVec.toNat_ofNat]; exact Nat.mod_eq_of_lt (by omega)
 rw [h1, BitVec.xor_zero, h2, wrap_i64 (by omega) (by omega)]
theorem unfold_eq {u : Nat} (h : u < 18446744073709551616) : bits .xor .i64 (IntKind.i64.wrap ((u : Int).fdiv (2 ^ (min (Int.toNat 1) IntKind.u64.bits)))) (IntKind.i64.wrap (0 - IntKind.i64.wrap (bits .and .u64 (u : Int) 1))) = unzigzag u := by
 have e1 : min (Int.toNat 1) IntKind.u64.bits = 1 := by decide
 rw [e1, u64_and1 _ (by omega) (by omega)]
 have e3 : (u : Int).fdiv (2 ^ 1) = ((u / 2 : Nat) : Int) := by
  rw [zd2 _ (by decide)]
  omega
 rw [e3, wrap_i64 (n := ((u / 2 : Nat) : Int)) (by omega) (by omega), wrap_i64 (n := (u : Int) % 2) (by omega) (by omega), wrap_i64 (by omega) (by omega)]
 unfold unzigzag
 by_cases hu : u % 2 = 0
 ·rw [if_pos hu, show (0 : Int) - (u : Int) % 2 = 0 by omega, i64_xor0 _ (by omega)]
 ·rw [if_neg hu, show (0 : Int) - (u : Int) % 2 = -1 by omega, i64_notneg _ (by omega)]
theorem or128 (f : Nat) : bits .or .u8 (IntKind.u8.wrap (f : Int)) 128 = ((f % 128 + 128 : Nat) : Int) := by
 rw [IntKind.wrap_u8, u8_or128_any _ (by omega) (by omega)]
 omega
theorem by8_big (f : Nat) : V.val (.int .u8 ((f % 128 + 128 : Nat) : Int)) = by8 (f % 128 + 128).toUInt8 := by
 have : (f % 128 + 128).toUInt8.toNat = f % 128 + 128 := by
  show (UInt8.ofNat _).toNat = _
  rw [UInt8.toNat_ofNat']
  omega
 rw [by8, this]
theorem by8_small {f : Nat} (h : f < 128) : V.val (.int .u8 (IntKind.u8.wrap (f : Int))) = by8 f.toUInt8 := by
 have : f.toUInt8.toNat = f := by
  show (UInt8.ofNat _).toNat = _
  rw [UInt8.toNat_ofNat']
  omega
 rw [by8, this, IntKind.wrap_u8]
 congr 2
 omega
theorem shr7 (f : Nat) : (f : Int).fdiv (2 ^ (min (Int.toNat 7) IntKind.u64.bits)) = ((f / 128 : Nat) : Int) := by
 have e1 : min (Int.toNat 7) IntKind.u64.bits = 7 := by decide
 rw [e1, zd2 _ (by decide)]
 omega
end Go.Av
/- Numbers and texts put behind bytes, as the program does. No condition. -/
namespace Go.Av.Fn
set_option linter.unusedSimpArgs false
set_option linter.unusedVariables false
set_option maxRecDepth 10000
open Go.Proofs Go.Lib
theorem conv_i64_u64 {n : Int} : convV Tryz.prog 3 154 (.val (.int .i64 n)) = some (.val (.int .u64 (IntKind.u64.wrap n))) := by kernel_rfl
theorem zdp {n : Int} : convV Tryz.prog 154 5 (.val (.int .u64 n)) = some (.val (.int .u8 (IntKind.u8.wrap n))) := by kernel_rfl
theorem fold_ok {Γ : Glob} {m : Store} {n : Int} (h : I64 n) : zab Tryz.prog Γ 114 [it n] m fun o m' => o = .ret (.val (.int .u64 (zigzag n))) ∧ m' = m := by
 refine zal mixed F114_ok (by rintro v m b x _ ⟨⟨⟩, _⟩) ?_
 simp only [F114, ss0, zdB, zdx]
 simp only [zaI, conv_i64_u64, bin_shl (show (0 : Int) ≤ 1 by decide), bin_shr (show (0 : Int) ≤ 63 by decide), bin_xorb, fold_eq h, ssS, zdx, zdv, reduceIte, zdw]
 exact zak zas ⟨rfl, rfl⟩
theorem zcM {Γ : Glob} {m m' : Store} {v : V} {l : List UInt8} (h : BufI 5 1 m m' v (l.map by8)) {n : Int} (hn : I64 n) (hl : l.length < 1099511627776) :
  zab Tryz.prog Γ 69 [v, it n] m' fun o m2 => ∃ v2, o = .ret v2 ∧ Buf 5 1 m m2 v2 ((l ++ uvarint (zigzag n)).map by8) := by
 refine zal mixed F69_ok (by rintro v m b x _ ⟨_, ⟨⟩, _⟩) ?_
 simp only [F69, ss0, zdB, zdx]
 simp only [ssS, zdx, zdv, reduceIte, zdw]
 refine zaB (fold_ok hn) ?_
 simp only [ssS, zdx, zdv, reduceIte, zdw]
 have hlen10 := uvarint_length64 (zigzag_u64 hn)
 refine awp_loop (fun k st => ∃ (f : Nat) (l' : List UInt8) (v' : V), f = k ∧ f < 18446744073709551616 ∧ l' ++ uvarint f = l ++ uvarint (zigzag n) ∧ BufI 5 1 m st.m v' (l'.map by8) ∧ st.t.length = 23 ∧ tget st.t 0 = v' ∧ tget st.t 5 = .val (.int .u64 f)) (zigzag n) ⟨zigzag n, l, v, rfl, zigzag_u64 hn, rfl, h, rfl, rfl, rfl⟩ ?_
 rintro k ⟨t, m1⟩ ⟨f, l', v', hk, hf, he, hB, hlen, h0, h5⟩
 simp only at hB h0 h5 hlen
 subst hk
 have htot : l'.length + (uvarint f).length = l.length + (uvarint (zigzag n)).length := by
  have := congrArg List.length he
  simpa using this
 have hp := uvarint_pos f
 rw [t_eq hlen]
 simp only [zaY, upTo_zero, zdx, h0, h5]
 simp only [ssS, zdx, zdv, reduceIte, zdw]
 refine zbm (fun h => ?_) (fun h => ?_)
 ·have hb : 128 ≤ f := by have := of_decide_eq_true h; omega
  simp only [zaI, zdp, bin_orb, or128, by8_big, eval_lit1, litV1_val, ssS, zdx, zdv, reduceIte, zdw]
  refine appS_bufI hB rfl (by simp [V.cells, zcv]) (by simp; omega) fun m2 v2 hB2 => ?_
  simp only [bin_shr (show (0 : Int) ≤ 7 by decide), shr7, ssS, zdx, zdv, reduceIte, zdw]
  exact ⟨f / 128, by omega, f / 128, l' ++ [(f % 128 + 128).toUInt8], v2, rfl, by omega, by rw [zdK, ← he, uvarint_big hb]; rfl, by rw [zd8]; exact .inl hB2, rfl, rfl⟩
 ·have hb : f < 128 := by have := of_decide_eq_false h; omega
  simp only [zaI, zdp, by8_small hb, eval_lit1, litV1_val, ssS, zdx, zdv, reduceIte, zdw]
  refine appS_bufI hB rfl (by simp [V.cells, zcv]) (by simp; omega) fun m2 v2 hB2 => ?_
  simp only [ssS, zdx, zdv, reduceIte, zdw]
  refine zak zas ⟨v2, rfl, ?_⟩
  rw [← he, uvarint_small hb, zd8]
  exact hB2
end Go.Av.Fn
/- The number that bytes begin with: plain laws. No condition. -/
namespace Go.Av
open Go.Lib
set_option linter.unusedSimpArgs false
set_option linter.unusedVariables false
def numGo : Nat → Nat → List UInt8 → Int × Nat × Int
 | _, _, [] => (0, 0, 3)
 | i, f, c :: s => if i = 9 ∧ c.toNat ≠ 1 then (0, 0, 4)
  else if 128 ≤ c.toNat then numGo (i + 1) (f + c.toNat % 128 * 2 ^ (7 * i)) s
  else if c.toNat = 0 ∧ 0 < i then (0, 0, 4)
  else (unzigzag (f + c.toNat % 128 * 2 ^ (7 * i)), i + 1, 0)
def numL (s : List UInt8) : Int × Nat × Int := numGo 0 0 s
theorem tens {i : Nat} (h : i ≤ 9) : i = 0 ∨ i = 1 ∨ i = 2 ∨ i = 3 ∨ i = 4 ∨ i = 5 ∨ i = 6 ∨ i = 7 ∨ i = 8 ∨ i = 9 := by omega
theorem num_shl {i c : Nat} (hi : i ≤ 9) (hc : c < 256) (h9 : i = 9 → c = 1) : IntKind.u64.wrap (((c % 128 : Nat) : Int) * 2 ^ (min (Int.toNat ((7 * i : Nat) : Int)) IntKind.u64.bits)) = ((c % 128 * 2 ^ (7 * i) : Nat) : Int) := by
 rw [IntKind.wrap_u64, Int.toNat_natCast]
 have e : min (7 * i) IntKind.u64.bits = 7 * i := by
  show min (7 * i) 64 = 7 * i
  omega
 rw [e]
 rcases tens hi with rfl | rfl | rfl | rfl | rfl | rfl | rfl | rfl | rfl | rfl <;> simp only [Nat.reduceMul, Int.reducePow, Nat.reducePow] <;> omega
theorem num_or {i c f : Nat} (hi : i ≤ 9) (hc : c < 256) (h9 : i = 9 → c = 1) (hf : f < 2 ^ (7 * i)) : bits .or .u64 (f : Int) ((c % 128 * 2 ^ (7 * i) : Nat) : Int) = ((f + c % 128 * 2 ^ (7 * i) : Nat) : Int) := by
 rcases tens hi with rfl | rfl | rfl | rfl | rfl | rfl | rfl | rfl | rfl | rfl <;> simp only [Nat.reduceMul, Nat.reducePow] at hf ⊢
 ·rw [u64_orv0 _ _ (by omega) (by omega) (by omega) (by omega) (by omega)]; omega
 ·rw [u64_orv7 _ _ (by omega) (by omega) (by omega) (by omega) (by omega)]; omega
 ·rw [u64_orv14 _ _ (by omega) (by omega) (by omega) (by omega) (by omega)]; omega
 ·rw [u64_orv21 _ _ (by omega) (by omega) (by omega) (by omega) (by omega)]; omega
 ·rw [u64_orv28 _ _ (by omega) (by omega) (by omega) (by omega) (by omega)]; omega
 ·rw [u64_orv35 _ _ (by omega) (by omega) (by omega) (by omega) (by omega)]; omega
 ·rw [u64_orv42 _ _ (by omega) (by omega) (by omega) (by omega) (by omega)]; omega
 ·rw [u64_orv49 _ _ (by omega) (by omega) (by omega) (by omega) (by omega)]; omega
 ·rw [u64_orv56 _ _ (by omega) (by omega) (by omega) (by omega) (by omega)]; omega
 ·rw [u64_orv63 _ _ (by omega) (by omega) (by omega) (by omega) (by omega)]; omega
theorem num_lt {i c f : Nat} (hi : i ≤ 9) (hc : c < 256) (h9 : i = 9 → c = 1) (hf : f < 2 ^ (7 * i)) : f + c % 128 * 2 ^ (7 * i) < 18446744073709551616 ∧ (i ≤ 8 → f + c % 128 * 2 ^ (7 * i) < 2 ^ (7 * (i + 1))) := by
 rcases tens hi with rfl | rfl | rfl | rfl | rfl | rfl | rfl | rfl | rfl | rfl <;> simp only [Nat.reduceMul, Nat.reducePow, zdx] at hf ⊢ <;> omega
theorem and127 {c : Nat} (h : c < 256) : bits .and .u8 (c : Int) 127 = ((c % 128 : Nat) : Int) := by
 rw [u8_and127 _ (by omega) (by omega)]
 omega
theorem and128_all : ∀ n : Fin 256, (bits .and .u8 (n.val : Int) 128 != 0) = decide (128 ≤ n.val) := by decide +kernel
theorem and128 {c : Nat} (h : c < 256) : (bits .and .u8 (c : Int) 128 != 0) = decide (128 ≤ c) := and128_all ⟨c, h⟩
theorem numGo_le : ∀ (s : List UInt8) (i f : Nat), i ≤ 9 → (numGo i f s).2.1 ≤ i + s.length
 | [], i, f, _ => by simp [numGo]
 | c :: s, i, f, hi => by
  unfold numGo
  split
  ·simp
  ·split
   ·rename_i h1 h2
    have h9 : i ≤ 8 := by omega
    have := numGo_le s (i + 1) (f + c.toNat % 128 * 2 ^ (7 * i)) (by omega)
    simp only [zdF]
    omega
   ·split
    ·simp
    ·simp only [zdF]
     omega
theorem numL_le (s : List UInt8) : (numL s).2.1 ≤ s.length := by
 have := numGo_le s 0 0 (by omega)
 unfold numL
 omega
theorem numGo_put : ∀ (k u i f : Nat) (r : List UInt8), u < 2 ^ (64 - 7 * i) → u < 128 ^ (k + 1) → (0 < i → 0 < u) → i + k ≤ 9 → numGo i f (uvarint u ++ r) = (unzigzag (f + u * 2 ^ (7 * i)), i + (uvarint u).length, 0)
 | k, u, i, f, r, hu, hk, hp, hi => by
  have hi9 : i ≤ 9 := by omega
  have h9 : i = 9 → u < 2 := by
   rintro rfl
   simpa using hu
  by_cases hs : u < 128
  ·rw [uvarint_small hs]
   have e : u.toUInt8.toNat = u := by
    show (UInt8.ofNat _).toNat = _
    rw [UInt8.toNat_ofNat']
    omega
   simp only [zdY, List.nil_append, numGo, e, List.length_singleton]
   rw [if_neg (by intro ⟨a, b⟩; have := h9 a; have := hp (by omega); omega), if_neg (by omega), if_neg (by intro ⟨a, b⟩; have := hp b; omega), Nat.mod_eq_of_lt hs]
  ·rw [uvarint_big (by omega)]
   have e : (u % 128 + 128).toUInt8.toNat = u % 128 + 128 := by
    show (UInt8.ofNat _).toNat = _
    rw [UInt8.toNat_ofNat']
    omega
   simp only [zdY, numGo, e]
   have h8 : i ≤ 8 := by
    rcases Nat.lt_or_ge i 9 with h | h
    ·omega
    ·have := h9 (by omega); omega
   rw [if_neg (by omega), if_pos (by omega)]
   cases k with
   | zero => simp at hk; omega
   | succ k =>
    have hu' : u / 128 < 2 ^ (64 - 7 * (i + 1)) := by
     have : i = 0 ∨ i = 1 ∨ i = 2 ∨ i = 3 ∨ i = 4 ∨ i = 5 ∨ i = 6 ∨ i = 7 ∨ i = 8 := by omega
     rcases this with rfl | rfl | rfl | rfl | rfl | rfl | rfl | rfl | rfl <;> simp only [Nat.reduceMul, zdB, Nat.reducePow, zdx] at hu ⊢ <;> omega
    rw [numGo_put k (u / 128) (i + 1) _ r hu' (by rw [Nat.pow_succ] at hk; exact Nat.div_lt_of_lt_mul (by rw [Nat.mul_comm]; exact hk)) (by omega) (by omega)]
    have e3 : f + (u % 128 + 128) % 128 * 2 ^ (7 * i) + u / 128 * 2 ^ (7 * (i + 1)) = f + u * 2 ^ (7 * i) := by
     have e4 : 2 ^ (7 * (i + 1)) = 128 * 2 ^ (7 * i) := by
      rw [show 7 * (i + 1) = 7 + 7 * i by omega, Nat.pow_add]
     rw [e4]
     generalize 2 ^ (7 * i) = p
     have e5 : (u % 128 + 128) % 128 = u % 128 := by omega
     rw [e5]
     have e6 : u = 128 * (u / 128) + u % 128 := by omega
     generalize u / 128 = q at e6 ⊢
     generalize u % 128 = r' at e6 ⊢
     subst e6
     rw [Nat.add_mul, Nat.mul_comm 128 q, Nat.mul_assoc]
     omega
    rw [e3]
    simp only [zdF]
    refine Prod.ext rfl (Prod.ext ?_ rfl)
    simp only
    omega
theorem numL_put {n : Int} (h : I64 n) (r : List UInt8) : numL (uvarint (zigzag n) ++ r) = (n, (uvarint (zigzag n)).length, 0) := by
 unfold numL
 have hz := zigzag_u64 h
 rw [numGo_put 9 _ 0 0 r (by simpa using hz) (Nat.lt_of_lt_of_le hz (by decide)) (by omega) (by omega)]
 simp [unzigzag_zigzag]
theorem numGo_i64 : ∀ (s : List UInt8) (i f : Nat), i ≤ 9 → f < 2 ^ (7 * i) → I64 (numGo i f s).1
 | [], i, f, _, _ => by simp [numGo, I64]
 | c :: s, i, f, hi, hf => by
  unfold numGo
  have hc : c.toNat < 256 := c.toNat_lt
  split
  ·simp [I64]
  ·rename_i h1
   have h9 : i = 9 → c.toNat = 1 := by omega
   have hl := num_lt hi hc h9 hf
   split
   ·rename_i h2
    exact numGo_i64 s (i + 1) _ (by omega) (hl.2 (by omega))
   ·split
    ·simp [I64]
    ·exact unzigzag_i64 hl.1
theorem numL_i64 (s : List UInt8) : I64 (numL s).1 := numGo_i64 s 0 0 (by omega) (by decide)
end Go.Av
/- Numbers read, as the program does. No condition. -/
namespace Go.Av.Fn
set_option linter.unusedSimpArgs false
set_option linter.unusedVariables false
set_option maxRecDepth 10000
open Go.Proofs Go.Lib
theorem zcC {n : Int} : convV Tryz.prog 154 3 (.val (.int .u64 n)) = some (.val (.int .i64 (IntKind.i64.wrap n))) := by kernel_rfl
theorem conv_u8_u64 {n : Int} : convV Tryz.prog 5 154 (.val (.int .u8 n)) = some (.val (.int .u64 (IntKind.u64.wrap n))) := by kernel_rfl
theorem unfold_ok {Γ : Glob} {m : Store} {u : Nat} (h : u < 18446744073709551616) : zab Tryz.prog Γ 116 [.val (.int .u64 u)] m fun o m' => o = .ret (it (unzigzag u)) ∧ m' = m := by
 refine zal mixed F116_ok (by rintro v m b x _ ⟨⟨⟩, _⟩) ?_
 simp only [F116, ss0, zdB, zdx]
 simp only [zaI, zcC, bin_shr (show (0 : Int) ≤ 1 by decide), bin_andb, bin_xorb, unfold_eq h, ssT, zdx, zdv, reduceIte, zdw]
 exact zak zas ⟨rfl, rfl⟩
theorem wnumber_ok {Γ : Glob} {m : Store} (s : List UInt8) (hl : s.length < 4611686018427387904) :
  zab Tryz.prog Γ 73 [bs s] m fun o m' => o = .ret (.tup [it (numL s).1, it (numL s).2.1, it (numL s).2.2]) ∧ m' = m := by
 refine zal mixed F73_ok (by rintro v m b x _ ⟨⟨⟩, _⟩) ?_
 simp only [F73, ss0, zdB, zdx]
 simp only [ssS, zdx, zdv, reduceIte, zdw]
 refine awp_loop (fun k st => ∃ (i f : Nat), k = 10 - i ∧ i ≤ 9 ∧ f < 2 ^ (7 * i) ∧ i ≤ s.length ∧ numGo i f (s.drop i) = numL s ∧ st.m = m ∧ st.t.length = 46 ∧ tget st.t 0 = bs s ∧ tget st.t 5 = .val (.int .u64 f) ∧ tget st.t 8 = it i) 10 ⟨0, 0, rfl, by omega, by decide, Nat.zero_le _, rfl, rfl, rfl, rfl, rfl, rfl⟩ ?_
 rintro k ⟨t, m1⟩ ⟨i, f, hk, hi, hf, hil, hgo, hm, hlen, g0, g5, g8⟩
 simp only at hm g0 g5 g8 hlen
 subst hm
 rw [t_eq hlen]
 simp only [zaY, upTo_zero, zdx, g0, g5, g8]
 simp only [show decide ((i : Int) < 10) = true from decide_eq_true (by omega), ssS, zdx, zdv, reduceIte, zdw]
 refine zbm (fun h => ?_) (fun h => ?_)
 ·have he : i = s.length := by
   have : ((i : Int) == (s.length : Int)) = true := h
   have := eq_of_beq this
   omega
  simp only [ssS, zdx, zdv, reduceIte, zdw]
  refine zak zar ⟨?_, rfl⟩
  simp only [zaf, zah]
  rw [← hgo, List.drop_eq_nil_of_le (by omega)]
  rfl
 ·have hlt : i < s.length := by
   have : ((i : Int) == (s.length : Int)) = false := h
   have : (i : Int) ≠ s.length := by simpa using this
   omega
  obtain ⟨c, hcs⟩ : ∃ c, s[i] = c := ⟨_, rfl⟩
  have hx : s[i]? = some c := by rw [zdL hlt, hcs]
  have hdrop : s.drop i = c :: s.drop (i + 1) := by rw [List.drop_eq_getElem_cons hlt, hcs]
  have hc : c.toNat < 256 := c.toNat_lt
  have hw7 : IntKind.i64.wrap (7 * (i : Int)) = ((7 * i : Nat) : Int) := by
   rw [wrap_i64 (by omega) (by omega)]
   omega
  have hw127 : IntKind.u64.wrap ((c.toNat % 128 : Nat) : Int) = ((c.toNat % 128 : Nat) : Int) := by
   rw [IntKind.wrap_u64]
   omega
  simp only [idx_bs hx, ssS, zdx, zdv, reduceIte, zdw]
  by_cases h9 : i = 9
  ·have e9 : ((i : Int) == 9) = true := by simpa using congrArg (Nat.cast (R := Int)) h9
   simp only [e9, ssS, zdx, zdv, reduceIte, zdw]
   refine zbm (fun h => ?_) (fun h => ?_)
   ·have hc1 : c.toNat ≠ 1 := by
     have : ((c.toNat : Int) != 1) = true := h
     intro e
     rw [e] at this
     simp at this
    simp only [ssS, zdx, zdv, reduceIte, zdw]
    refine zak zar ⟨?_, rfl⟩
    simp only [zaf, zah]
    rw [← hgo, hdrop]
    simp only [numGo]
    rw [if_pos ⟨h9, hc1⟩]
    rfl
   have hc9 : i = 9 → c.toNat = 1 := by
    intro _
    have : ((c.toNat : Int) != 1) = false := h
    have : (c.toNat : Int) = 1 := by simpa using this
    omega
   simp only [bin_andb, and127 hc, zaI, conv_u8_u64, hw127, zds, hw7, bin_shl (show (0 : Int) ≤ ((7 * i : Nat) : Int) from Int.natCast_nonneg _), num_shl hi hc hc9, bin_orb, num_or hi hc hc9 hf, zdr, and128 hc, ssT, zdx, zdv, reduceIte, zdw]
   refine zbm (fun h => ?_) (fun h => ?_)
   ·have h128 : 128 ≤ c.toNat := of_decide_eq_true h
    simp only [zbb (show i < 4611686018427387904 by omega), ssS, zdx, zdv, reduceIte, zdw]
    refine ⟨10 - (i + 1), by omega, i + 1, f + c.toNat % 128 * 2 ^ (7 * i), rfl, by omega, (num_lt hi hc hc9 hf).2 (by omega), by omega, ?_, rfl, rfl⟩
    rw [← hgo, hdrop]
    simp only [numGo]
    rw [if_neg (by omega), if_pos h128]
   ·have h128 : ¬ 128 ≤ c.toNat := of_decide_eq_false h
    simp only [zdt, ssS, zdx, zdv, reduceIte, zdw]
    by_cases hc0 : c.toNat = 0
    ·have hb0 : ((c.toNat : Int) == 0) = true := by rw [hc0]; rfl
     simp only [hb0, ssS, zdx, zdv, reduceIte, zdw]
     refine zbm (fun h1 => ?_) (fun h1 => ?_)
     ·have hi0 : 0 < i := by have := of_decide_eq_true h1; omega
      simp only [ssS, zdx, zdv, reduceIte, zdw]
      refine zak zar ⟨?_, rfl⟩
      simp only [zaf, zah]
      rw [← hgo, hdrop]
      simp only [numGo]
      rw [if_neg (by omega), if_neg h128, if_pos ⟨hc0, hi0⟩]
      rfl
     ·have hi0 : i = 0 := by have := of_decide_eq_false h1; omega
      simp only [ssS, zdx, zdv, reduceIte, zdw]
      refine zaB (unfold_ok (num_lt hi hc hc9 hf).1) ?_
      simp only [zbb (show i < 4611686018427387904 by omega), ssS, zdx, zdv, reduceIte, zdw]
      refine zak zar ⟨?_, rfl⟩
      simp only [zaf, zah]
      rw [← hgo, hdrop]
      simp only [numGo]
      rw [if_neg (by omega), if_neg h128, if_neg (by omega)]
    ·have hb0 : ((c.toNat : Int) == 0) = false := by
      have : (c.toNat : Int) ≠ 0 := by omega
      simpa using this
     simp only [hb0, ssS, zdx, zdv, reduceIte, zdw]
     refine zaB (unfold_ok (num_lt hi hc hc9 hf).1) ?_
     simp only [zbb (show i < 4611686018427387904 by omega), ssS, zdx, zdv, reduceIte, zdw]
     refine zak zar ⟨?_, rfl⟩
     simp only [zaf, zah]
     rw [← hgo, hdrop]
     simp only [numGo]
     rw [if_neg (by omega), if_neg h128, if_neg (by omega)]
  ·have e9 : ((i : Int) == 9) = false := by
    have : (i : Int) ≠ 9 := by omega
    simpa using this
   have hc9 : i = 9 → c.toNat = 1 := fun e => absurd e h9
   simp only [e9, bin_andb, and127 hc, zaI, conv_u8_u64, hw127, zds, hw7, bin_shl (show (0 : Int) ≤ ((7 * i : Nat) : Int) from Int.natCast_nonneg _), num_shl hi hc hc9, bin_orb, num_or hi hc hc9 hf, zdr, and128 hc, ssT, zdx, zdv, reduceIte, zdw]
   refine zbm (fun h => ?_) (fun h => ?_)
   ·have h128 : 128 ≤ c.toNat := of_decide_eq_true h
    simp only [zbb (show i < 4611686018427387904 by omega), ssS, zdx, zdv, reduceIte, zdw]
    refine ⟨10 - (i + 1), by omega, i + 1, f + c.toNat % 128 * 2 ^ (7 * i), rfl, by omega, (num_lt hi hc hc9 hf).2 (by omega), by omega, ?_, rfl, rfl⟩
    rw [← hgo, hdrop]
    simp only [numGo]
    rw [if_neg (by omega), if_pos h128]
   ·have h128 : ¬ 128 ≤ c.toNat := of_decide_eq_false h
    simp only [zdt, ssS, zdx, zdv, reduceIte, zdw]
    by_cases hc0 : c.toNat = 0
    ·have hb0 : ((c.toNat : Int) == 0) = true := by rw [hc0]; rfl
     simp only [hb0, ssS, zdx, zdv, reduceIte, zdw]
     refine zbm (fun h1 => ?_) (fun h1 => ?_)
     ·have hi0 : 0 < i := by have := of_decide_eq_true h1; omega
      simp only [ssS, zdx, zdv, reduceIte, zdw]
      refine zak zar ⟨?_, rfl⟩
      simp only [zaf, zah]
      rw [← hgo, hdrop]
      simp only [numGo]
      rw [if_neg (by omega), if_neg h128, if_pos ⟨hc0, hi0⟩]
      rfl
     ·have hi0 : i = 0 := by have := of_decide_eq_false h1; omega
      simp only [ssS, zdx, zdv, reduceIte, zdw]
      refine zaB (unfold_ok (num_lt hi hc hc9 hf).1) ?_
      simp only [zbb (show i < 4611686018427387904 by omega), ssS, zdx, zdv, reduceIte, zdw]
      refine zak zar ⟨?_, rfl⟩
      simp only [zaf, zah]
      rw [← hgo, hdrop]
      simp only [numGo]
      rw [if_neg (by omega), if_neg h128, if_neg (by omega)]
    ·have hb0 : ((c.toNat : Int) == 0) = false := by
      have : (c.toNat : Int) ≠ 0 := by omega
      simpa using this
     simp only [hb0, ssS, zdx, zdv, reduceIte, zdw]
     refine zaB (unfold_ok (num_lt hi hc hc9 hf).1) ?_
     simp only [zbb (show i < 4611686018427387904 by omega), ssS, zdx, zdv, reduceIte, zdw]
     refine zak zar ⟨?_, rfl⟩
     simp only [zaf, zah]
     rw [← hgo, hdrop]
     simp only [numGo]
     rw [if_neg (by omega), if_neg h128, if_neg (by omega)]
end Go.Av.Fn
/- The small functions of the layer lex and of its reference: what they answer. No condition. -/
namespace Go.Av.Fn
set_option linter.unusedSimpArgs false
set_option linter.unusedVariables false
open Go.Proofs
def dig (b : UInt8) : Bool := decide (48 ≤ b.toNat) && decide (b.toNat ≤ 57)
def let8 (b : UInt8) : Bool := (decide (97 ≤ b.toNat) && decide (b.toNat ≤ 122)) || (decide (65 ≤ b.toNat) && decide (b.toNat ≤ 90)) || b.toNat == 95
def alnum (b : UInt8) : Bool := let8 b || dig b
section
variable {Γ : Glob} {m : Store}
end
def wordsB : List (List UInt8) := [[102, 110], [114, 101, 99, 111, 114, 100], [108, 101, 116], [105, 102], [101, 108, 115, 101], [119, 104, 105, 108, 101], [114, 101, 116, 117, 114, 110], [110, 101, 119], [116, 114, 117, 101], [102, 97, 108, 115, 101]]
def signsB : List (List UInt8) := [[61, 61], [33, 61], [60, 61], [62, 61], [38, 38], [124, 124], [40], [41], [123], [125], [91], [93], [44], [58], [59], [46], [61], [60], [62], [43], [45], [42], [47], [37], [33]]
end Go.Av.Fn
/- Rows of the reference, runs of bytes: what the functions answer. No condition. -/
namespace Go.Av.Fn
set_option linter.unusedSimpArgs false
set_option linter.unusedVariables false
set_option maxRecDepth 10000
open Go.Proofs
end Go.Av.Fn
/- The scanner's words and blanks: what the functions do. No condition. -/
namespace Go.Av.Fn
set_option linter.unusedSimpArgs false
set_option linter.unusedVariables false
set_option maxRecDepth 10000
open Go.Proofs
def markOk (b : Nat) (p : V) : Prop := p = .val (.pointer none) ∨ p = .ptr b 0
def idxB (s : List UInt8) (c : UInt8) : Int := match s.findIdx? (· == c) with
 | some i => i
 | none => -1
structure LibOk (Γ : Glob) : Prop where
 clone : ∀ (m : Store) (s : List UInt8), s.length ≤ 281474976710656 → zab Tryz.prog Γ 131 [bs s] m fun o m' => o = .ret (bs s) ∧ m' = m
 copyCheck : ∀ (m : Store) (b : Nat) (p u : V), m b = some (.var 328 [p, u]) → markOk b p → zab Tryz.prog Γ 251 [.ptr b 0] m fun o m' => o = .ret (.tup []) ∧ m' = m.set b (.var 328 [.ptr b 0, u])
 string : ∀ (m : Store) (b : Nat) (p u : V) (l : List UInt8), m b = some (.var 328 [p, u]) → l.length ≤ 4096 → ((l = [] ∧ u = .sl [] [] .full) ∨ (l ≠ [] ∧ ∃ t k, m t = some (.tip 5 k) ∧ u = .sl (l.map by8) [] (.tip t k))) →
  zab Tryz.prog Γ 241 [.ptr b 0] m fun o m' => o = .ret (bs l) ∧ ∀ c x, m c = some x → (∀ l2 k, u ≠ .sl l2 [] (.tip c k)) → m' c = some x
 indexByte : ∀ (m : Store) (s : List UInt8) (c : UInt8), s.length ≤ 4096 → zab Tryz.prog Γ 242 [bs s, by8 c] m fun o m' => o = .ret (it (idxB s c)) ∧ m' = m
section
variable {Γ : Glob} {m : Store} (L : LibOk Γ)
include L
theorem clone_ok (s : List UInt8) (hs : s.length ≤ 281474976710656) : zab Tryz.prog Γ 110 [bs s] m fun o m' => o = .ret (bs s) ∧ m' = m := by
 refine zal mixed F110_ok (by rintro v m b x _ ⟨⟨⟩, _⟩) ?_
 simp only [F110, ss0, zdB, zdx]
 simp only [ssS, zdx, zdv, reduceIte, zdw]
 refine zaB (L.clone _ s hs) ?_
 simp only [ssS, zdx, zdv, reduceIte, zdw]
 exact zak zas ⟨rfl, rfl⟩
end
def rdB (s : List UInt8) (a : Nat) (e : Int) : Blk := .var 111 [.val (.bool true), bs s, it a, it e]
theorem ptr_nn {xo yo : Operand} {b o : Nat} : binV Tryz.prog .eql 41 .pointer xo yo (.ptr b o) (.val (.pointer none)) = some (.val (.bool false)) := rfl
def rInt (s : List UInt8) (a : Nat) (e : Int) : Int × Nat × Int :=
 if e ≠ 0 then (0, a, e) else if (Av.numL (s.drop a)).2.2 ≠ 0 then (0, a, (Av.numL (s.drop a)).2.2) else ((Av.numL (s.drop a)).1, a + (Av.numL (s.drop a)).2.1, 0)
def zao (s : List UInt8) (most : Int) : Int × Nat × Int :=
 if (Av.numL s).2.2 ≠ 0 then (0, 0, (Av.numL s).2.2) else if (Av.numL s).1 < 0 then (0, 0, 4) else if (Av.numL s).1 > max 0 most then (0, 0, 5) else ((Av.numL s).1, (Av.numL s).2.1, 0)
def zaz (s : List UInt8) (a : Nat) (e : Int) (most : Int) : Int × Nat × Int :=
 if e ≠ 0 then (0, a, e) else if (zao (s.drop a) most).2.2 ≠ 0 then (0, a, (zao (s.drop a) most).2.2) else ((zao (s.drop a) most).1, a + (zao (s.drop a) most).2.1, 0)
def textL (s : List UInt8) (most : Int) : List UInt8 × Nat × Int :=
 if (zao s most).2.2 ≠ 0 then ([], 0, (zao s most).2.2) else if (zao s most).1 > (s.length : Int) - ((zao s most).2.1 : Int) then ([], 0, 3)
 else ((s.drop (zao s most).2.1).take (zao s most).1.toNat, (zao s most).2.1 + (zao s most).1.toNat, 0)
def zaG (s : List UInt8) (a : Nat) (e : Int) (most : Int) : List UInt8 × Nat × Int :=
 if e ≠ 0 then ([], a, e) else if (textL (s.drop a) most).2.2 ≠ 0 then ([], a, (textL (s.drop a) most).2.2) else ((textL (s.drop a) most).1, a + (textL (s.drop a) most).2.1, 0)
theorem zc6 (s : List UInt8) (most : Int) : (zao s most).2.1 ≤ s.length ∧ 0 ≤ (zao s most).1 ∧ (zao s most).1 ≤ 9223372036854775807 := by
 have h := Av.numL_le s
 have h2 := Av.numL_i64 s
 unfold Av.I64 at h2
 unfold zao
 split
 ·simp
 ·split
  ·simp
  ·split
   ·simp
   ·simp only
    omega
theorem textL_le (s : List UInt8) (most : Int) : (textL s most).2.1 ≤ s.length := by
 obtain ⟨h1, h2, h3⟩ := zc6 s most
 unfold textL
 split
 ·simp
 ·split
  ·simp
  ·simp only
   omega
theorem zaQ {s : List UInt8} {a : Nat} {e : Int} (h : a ≤ s.length) : (rInt s a e).2.1 ≤ s.length := by
 have h1 := Av.numL_le (s.drop a)
 rw [zdM] at h1
 unfold rInt
 split
 ·exact h
 ·split
  ·exact h
  ·simp only
   omega
theorem rCount_le {s : List UInt8} {a : Nat} {e most : Int} (h : a ≤ s.length) : (zaz s a e most).2.1 ≤ s.length := by
 have h1 := (zc6 (s.drop a) most).1
 rw [zdM] at h1
 unfold zaz
 split
 ·exact h
 ·split
  ·exact h
  ·simp only
   omega
theorem rText_le {s : List UInt8} {a : Nat} {e most : Int} (h : a ≤ s.length) : (zaG s a e most).2.1 ≤ s.length := by
 have h1 := textL_le (s.drop a) most
 rw [zdM] at h1
 unfold zaG
 split
 ·exact h
 ·split
  ·exact h
  ·simp only
   omega
section
variable {Γ : Glob} {m : Store} {rb a : Nat} {s : List UInt8} {e : Int}
theorem wErr_ok (hr : m rb = some (rdB s a e)) : zab Tryz.prog Γ 28 [.ptr rb 0] m fun o m' => o = .ret (it e) ∧ m' = m := by
 refine zal mixed F28_ok (by rintro v m b x _ ⟨⟨⟩, _⟩) ?_
 simp only [F28, ss0, zdB, zdx]
 simp only [ptr_nn, hr, rdB, Bool.not_true, ssS, zdx, zdv, reduceIte, zdw]
 exact zak zas ⟨rfl, rfl⟩
theorem wAt_ok (hr : m rb = some (rdB s a e)) : zab Tryz.prog Γ 27 [.ptr rb 0] m fun o m' => o = .ret (it a) ∧ m' = m := by
 refine zal mixed F27_ok (by rintro v m b x _ ⟨⟨⟩, _⟩) ?_
 simp only [F27, ss0, zdB, zdx]
 simp only [ptr_nn, hr, rdB, ssS, zdx, zdv, reduceIte, zdw]
 exact zak zas ⟨rfl, rfl⟩
theorem wNew_ok {l : List UInt8} {more : List V} {tok : Tok} : zab Tryz.prog Γ 22 [.sl (l.map by8) more tok] m fun o m' => ∃ rb, m rb = none ∧ o = .ret (.ptr rb 0) ∧ m' = m.set rb (rdB l 0 0) := by
 refine zal mixed F22_ok (by rintro v m b x _ ⟨_, _, ⟨⟩, _⟩) ?_
 simp only [F22, ss0, zdB, zdx]
 simp only [eval_b2s, b2s_bs, ssS, zdx, zdv, reduceIte, zdw]
 refine zdd fun rb hrb => ?_
 simp only [ssS, zdx, zdv, reduceIte, zdw]
 exact zak zas ⟨rb, hrb, rfl, rfl⟩
def pick3 {α : Type} (z : α) (a : Nat) (e : Int) (r : α × Nat × Int) : α × Nat × Int := if e ≠ 0 then (z, a, e) else if r.2.2 ≠ 0 then (z, a, r.2.2) else (r.1, a + r.2.1, 0)
theorem readI_ok (hr : m rb = some (rdB s a e)) (ha : a ≤ s.length) (hs : s.length < 4611686018427387904) {f : FuncId} {caps : List V} (r : Int × Nat × Int) (hl : r.2.1 ≤ s.length - a)
  (hf : zab Tryz.prog Γ f ([] ++ [bs (s.drop a)] ++ caps) m fun o m' => o = .ret (.tup [it r.1, it r.2.1, it r.2.2]) ∧ m' = m) :
  zab Tryz.prog Γ 72 [.ptr rb 0, .fn (.func f) [] caps] m fun o m' => o = .ret (it (pick3 0 a e r).1) ∧ m' = m.set rb (rdB s (pick3 0 a e r).2.1 (pick3 0 a e r).2.2) := by
 refine zal mixed F72_ok (by rintro v m b x _ ⟨⟨⟩, _⟩) ?_
 simp only [F72, ss0, zdB, zdx]
 simp only [ssS, zdx, zdv, reduceIte, zdw]
 refine zaB (wErr_ok hr) ?_
 unfold pick3
 cases he : (e != 0)
 ·have h0 : e = 0 := by simpa using he
  subst h0
  simp only [show ((0 : Int) != 0) = false from rfl, hr, rdB, slice_from ha, ssS, zdx, zdv, reduceIte, zdw]
  refine zaB hf ?_
  cases h1 : (r.2.2 != 0)
  ·have h2 : r.2.2 = 0 := by simpa using h1
   have hw : IntKind.i64.wrap ((a : Int) + (r.2.1 : Int)) = ((a + r.2.1 : Nat) : Int) := by
    rw [wrap_i64 (by omega) (by omega)]
    omega
   simp only [hr, rdB, h1, hw, ssS, zdx, zdv, reduceIte, zdw]
   refine zak zas ⟨?_, ?_⟩
   ·simp only [zaf, zah, h2, ne_eq, not_true_eq_false, if_false]
   ·simp only [h2, ne_eq, not_true_eq_false, if_false]
  ·have h2 : r.2.2 ≠ 0 := by simpa using h1
   simp only [hr, rdB, h1, ssS, zdx, zdv, reduceIte, zdw]
   refine zak zas ⟨?_, ?_⟩
   ·simp only [zaf, zah, h2, ne_eq, not_true_eq_false, not_false_eq_true, if_true, if_false]
   ·simp only [h2, ne_eq, not_true_eq_false, not_false_eq_true, if_true, if_false]
 ·have h0 : e ≠ 0 := by simpa using he
  simp only [he, ssS, zdx, zdv, reduceIte, zdw]
  refine zak zas ⟨?_, ?_⟩
  ·simp only [zaf, zah, h0, ne_eq, not_false_eq_true, if_true]
  ·simp only [h0, ne_eq, not_false_eq_true, if_true]
   exact (Store.set_eq m hr).symm
theorem wInt_ok (hr : m rb = some (rdB s a e)) (ha : a ≤ s.length) (hs : s.length < 4611686018427387904) : zab Tryz.prog Γ 29 [.ptr rb 0] m fun o m' => o = .ret (it (rInt s a e).1) ∧ m' = m.set rb (rdB s (rInt s a e).2.1 (rInt s a e).2.2) := by
 refine zal mixed F29_ok (by rintro v m b x _ ⟨⟨⟩, _⟩) ?_
 simp only [F29, ss0, zdB, zdx]
 simp only [ssS, zdx, zdv, reduceIte, zdw]
 have h1 := Av.numL_le (s.drop a)
 rw [zdM] at h1
 refine callS_to (readI_ok hr ha hs (Av.numL (s.drop a)) h1 (wnumber_ok _ (by simp; omega))) ?_
 simp only [ssS, zdx, zdv, reduceIte, zdw]
 exact zak zas ⟨rfl, rfl⟩
theorem wcount_ok (most : Int) (hs : s.length < 4611686018427387904) : zab Tryz.prog Γ 109 [bs s, it most] m fun o m' => o = .ret (.tup [it (zao s most).1, it (zao s most).2.1, it (zao s most).2.2]) ∧ m' = m := by
 refine zal mixed F109_ok (by rintro v m b x _ ⟨⟨⟩, _⟩) ?_
 simp only [F109, ss0, zdB, zdx]
 simp only [ssS, zdx, zdv, reduceIte, zdw]
 refine zaB (wnumber_ok _ hs) ?_
 unfold zao
 generalize Av.numL s = r
 obtain ⟨n, u, e⟩ := r
 simp only
 simp only [ssS, zdx, zdv, reduceIte, zdw]
 cases h1 : (e != 0)
 ·have h1' : e = 0 := by simpa using h1
  subst h1'
  simp only [show ((0 : Int) != 0) = false from rfl, ssS, zdx, zdv, reduceIte, zdw]
  cases h2 : decide (n < 0)
  ·have h2' : ¬ n < 0 := of_decide_eq_false h2
   simp only [h2, eval_mm, q_mm, mm_max, ssS, zdx, zdv, reduceIte, zdw]
   cases h3 : decide (n > max 0 most)
   ·have h3' : ¬ n > max 0 most := of_decide_eq_false h3
    simp only [h3, ssS, zdx, zdv, reduceIte, zdw]
    refine zak zar ⟨?_, rfl⟩
    simp only [zaf, zah, ne_eq, not_true_eq_false, if_false, if_neg h2', if_neg h3']
   ·have h3' : n > max 0 most := of_decide_eq_true h3
    simp only [h3, ssS, zdx, zdv, reduceIte, zdw]
    refine zak zar ⟨?_, rfl⟩
    simp only [zaf, zah, ne_eq, not_true_eq_false, if_false, if_neg h2', if_pos h3']
    rfl
  ·have h2' : n < 0 := of_decide_eq_true h2
   simp only [h2, ssS, zdx, zdv, reduceIte, zdw]
   refine zak zar ⟨?_, rfl⟩
   simp only [zaf, zah, ne_eq, not_true_eq_false, if_false, if_pos h2']
   rfl
 ·have h1' : e ≠ 0 := by simpa using h1
  simp only [h1, ssS, zdx, zdv, reduceIte, zdw]
  refine zak zar ⟨?_, rfl⟩
  simp only [zaf, zah, h1', ne_eq, not_false_eq_true, if_true]
  rfl
theorem wText1_ok (L : LibOk Γ) (most : Int) {b : Nat} (hb : m b = some (.var 3 [it most])) (hs : s.length ≤ 281474976710656) : zab Tryz.prog Γ 108 ([] ++ [bs s] ++ [.ptr b 0]) m fun o m' => o = .ret (.tup [bs (textL s most).1, it (textL s most).2.1, it (textL s most).2.2]) ∧ m' = m := by
 refine zal mixed F108_ok (by rintro v m b x _ ⟨⟨⟩, _⟩) ?_
 simp only [F108, ss0, zdB, zdx]
 simp only [hb, ssS, zdx, zdv, reduceIte, zdw]
 refine zaB (wcount_ok most (by omega)) ?_
 obtain ⟨q1, q2, q3⟩ := zc6 s most
 unfold textL
 generalize zao s most = r at q1 q2 q3
 obtain ⟨n, u, e⟩ := r
 simp only at q1 q2 q3
 simp only [ssS, zdx, zdv, reduceIte, zdw]
 cases h1 : (e != 0)
 ·have h1' : e = 0 := by simpa using h1
  subst h1'
  have hw : IntKind.i64.wrap ((s.length : Int) - (u : Int)) = (s.length : Int) - (u : Int) := wrap_i64 (by omega) (by omega)
  simp only [show ((0 : Int) != 0) = false from rfl, zdm, hw, ssS, zdx, zdv, reduceIte, zdw]
  cases h3 : decide (n > (s.length : Int) - (u : Int))
  ·have h3' : ¬ n > (s.length : Int) - (u : Int) := of_decide_eq_false h3
   obtain ⟨n, rfl⟩ : ∃ k : Nat, n = (k : Int) := ⟨n.toNat, by omega⟩
   have hw2 : IntKind.i64.wrap ((u : Int) + (n : Int)) = ((u + n : Nat) : Int) := by
    rw [wrap_i64 (by omega) (by omega)]
    omega
   simp only [h3, hw2, slice_bs (x := s) (a := u) (b := u + n) (by omega) (by omega), ssS, zdx, zdv, reduceIte, zdw]
   refine zaB (clone_ok L _ (by simp; omega)) ?_
   simp only [hw2, ssS, zdx, zdv, reduceIte, zdw]
   refine zak zar ⟨?_, rfl⟩
   simp only [zaf, zah, ne_eq, not_true_eq_false, if_false, if_neg h3', Int.toNat_natCast]
   rw [List.drop_take, show u + n - u = n by omega]
  ·have h3' : n > (s.length : Int) - (u : Int) := of_decide_eq_true h3
   simp only [h3, ssS, zdx, zdv, reduceIte, zdw]
   refine zak zar ⟨?_, rfl⟩
   simp only [zaf, zah, ne_eq, not_true_eq_false, if_false, if_pos h3']
   rfl
 ·have h1' : e ≠ 0 := by simpa using h1
  simp only [h1, ssS, zdx, zdv, reduceIte, zdw]
  refine zak zar ⟨?_, rfl⟩
  simp only [zaf, zah, h1', ne_eq, not_false_eq_true, if_true]
  rfl
theorem readS_ok (hr : m rb = some (rdB s a e)) (ha : a ≤ s.length) (hs : s.length < 4611686018427387904) {f : FuncId} {caps : List V} (r : List UInt8 × Nat × Int) (hl : r.2.1 ≤ s.length - a)
  (hf : zab Tryz.prog Γ f ([] ++ [bs (s.drop a)] ++ caps) m fun o m' => o = .ret (.tup [bs r.1, it r.2.1, it r.2.2]) ∧ m' = m) :
  zab Tryz.prog Γ 107 [.ptr rb 0, .fn (.func f) [] caps] m fun o m' => o = .ret (bs (pick3 [] a e r).1) ∧ m' = m.set rb (rdB s (pick3 [] a e r).2.1 (pick3 [] a e r).2.2) := by
 refine zal mixed F107_ok (by rintro v m b x _ ⟨⟨⟩, _⟩) ?_
 simp only [F107, ss0, zdB, zdx]
 simp only [ssS, zdx, zdv, reduceIte, zdw]
 refine zaB (wErr_ok hr) ?_
 unfold pick3
 cases he : (e != 0)
 ·have h0 : e = 0 := by simpa using he
  subst h0
  simp only [show ((0 : Int) != 0) = false from rfl, hr, rdB, slice_from ha, ssS, zdx, zdv, reduceIte, zdw]
  refine zaB hf ?_
  cases h1 : (r.2.2 != 0)
  ·have h2 : r.2.2 = 0 := by simpa using h1
   have hw : IntKind.i64.wrap ((a : Int) + (r.2.1 : Int)) = ((a + r.2.1 : Nat) : Int) := by
    rw [wrap_i64 (by omega) (by omega)]
    omega
   simp only [hr, rdB, h1, hw, ssS, zdx, zdv, reduceIte, zdw]
   refine zak zas ⟨?_, ?_⟩
   ·simp only [zaf, zah, h2, ne_eq, not_true_eq_false, if_false]
   ·simp only [h2, ne_eq, not_true_eq_false, if_false]
  ·have h2 : r.2.2 ≠ 0 := by simpa using h1
   simp only [hr, rdB, h1, ssS, zdx, zdv, reduceIte, zdw]
   refine zak zas ⟨?_, ?_⟩
   ·simp only [zaf, zah, h2, ne_eq, not_true_eq_false, not_false_eq_true, if_true, if_false]
   ·simp only [h2, ne_eq, not_true_eq_false, not_false_eq_true, if_true, if_false]
 ·have h0 : e ≠ 0 := by simpa using he
  simp only [he, ssS, zdx, zdv, reduceIte, zdw]
  refine zak zas ⟨?_, ?_⟩
  ·simp only [zaf, zah, h0, ne_eq, not_false_eq_true, if_true]
  ·simp only [h0, ne_eq, not_false_eq_true, if_true]
   exact (Store.set_eq m hr).symm
theorem wText_ok (L : LibOk Γ) (most : Int) (hr : m rb = some (rdB s a e)) (ha : a ≤ s.length) (hs : s.length ≤ 281474976710656) : zab Tryz.prog Γ 65 [.ptr rb 0, it most] m fun o m' => o = .ret (bs (zaG s a e most).1) ∧ m' = m.set rb (rdB s (zaG s a e most).2.1 (zaG s a e most).2.2) := by
 refine zab.less (A := fun o m' => o = .ret (bs (zaG s a e most).1) ∧ SubS (m.set rb (rdB s (zaG s a e most).2.1 (zaG s a e most).2.2)) m') ?_ fun o m' h => ⟨_, h.2, h.1, rfl⟩
 refine zal mixed F65_ok (by rintro v m b x _ ⟨⟨⟩, _⟩) ?_
 simp only [F65, ss0, zdB, zdx]
 simp only [ssS, zdx, zdv, reduceIte, zdw]
 refine zdd fun b hb => ?_
 have hn := za0 hr hb
 have h1 := textL_le (s.drop a) most
 rw [zdM] at h1
 simp only [ssS, zdx, zdv, reduceIte, zdw]
 refine callS_to (readS_ok (a := a) (e := e) (by rw [Store.set_ne _ _ hn]; exact hr) ha (by omega) (textL (s.drop a) most) h1 (wText1_ok L most (Store.set_same _ _ _) (by simp; omega))) ?_
 simp only [ssS, zdx, zdv, reduceIte, zdw]
 refine zak zas ⟨rfl, ?_⟩
 rw [set_comm m _ _ hn.symm]
 refine (SubS.refl _).out ?_ _
 rw [Store.set_ne _ _ hn.symm]
 exact hb
theorem wCount_ok (most : Int) (hr : m rb = some (rdB s a e)) (ha : a ≤ s.length) (hs : s.length ≤ 281474976710656) : zab Tryz.prog Γ 90 [.ptr rb 0, it most] m fun o m' => o = .ret (it (zaz s a e most).1) ∧ m' = m.set rb (rdB s (zaz s a e most).2.1 (zaz s a e most).2.2) := by
 refine zab.less (A := fun o m' => o = .ret (it (zaz s a e most).1) ∧ SubS (m.set rb (rdB s (zaz s a e most).2.1 (zaz s a e most).2.2)) m') ?_ fun o m' h => ⟨_, h.2, h.1, rfl⟩
 refine zal mixed F90_ok (by rintro v m b x _ ⟨⟨⟩, _⟩) ?_
 simp only [F90, ss0, zdB, zdx]
 simp only [ssS, zdx, zdv, reduceIte, zdw]
 refine zdd fun b hb => ?_
 have hn := za0 hr hb
 have h1 := (zc6 (s.drop a) most).1
 rw [zdM] at h1
 simp only [ssS, zdx, zdv, reduceIte, zdw]
 refine callS_to (readI_ok (a := a) (e := e) (f := 122) (caps := [.ptr b 0]) (by rw [Store.set_ne _ _ hn]; exact hr) ha (by omega) (zao (s.drop a) most) h1 ?_) ?_
 ·refine zal mixed F122_ok (by rintro v m b x _ ⟨⟨⟩, _⟩) ?_
  simp only [F122, ss0, zdB, zdx]
  simp only [Store.set_same, ssS, zdx, zdv, reduceIte, zdw]
  refine zaB (wcount_ok most (by simp; omega)) ?_
  simp only [ssS, zdx, zdv, reduceIte, zdw]
  exact zak zar ⟨rfl, rfl⟩
 simp only [ssS, zdx, zdv, reduceIte, zdw]
 refine zak zas ⟨rfl, ?_⟩
 rw [set_comm m _ _ hn.symm]
 refine (SubS.refl _).out ?_ _
 rw [Store.set_ne _ _ hn.symm]
 exact hb
/-! ### Texts put -/
theorem putText_ok {m' : Store} {v : V} {l t : List UInt8} (h : Buf 5 1 m m' v (l.map by8)) (hl : l.length + t.length + 10 ≤ 140737488355328) (hl2 : l.length < 1099511627776) :
  zab Tryz.prog Γ 68 [v, bs t] m' fun o m2 => ∃ v2, o = .ret v2 ∧ Buf 5 1 m m2 v2 ((l ++ Lib.uvarint (Lib.zigzag t.length) ++ t).map by8) := by
 refine zal mixed F68_ok (by rintro v m b x _ ⟨_, ⟨⟩, _⟩) ?_
 simp only [F68, ss0, zdB, zdx]
 simp only [zdm, ssS, zdx, zdv, reduceIte, zdw]
 have hI : Av.I64 (t.length : Int) := ⟨by omega, by omega⟩
 have hlen10 := Lib.uvarint_length64 (Av.zigzag_u64 hI)
 refine callS_of (zcM (.inl h) hI hl2) ?_ (by rintro v m' ⟨_, ⟨⟩, _⟩)
 rintro v2 m2 ⟨_, ⟨⟩, hB⟩
 simp only [ssS, zdx, zdv, reduceIte, zdw]
 refine appS_bufs hB (extra_bs t) (elemsOk_by8 t) (by simp; omega) fun m3 v3 hB3 => ?_
 simp only [ssS, zdx, zdv, reduceIte, zdw]
 refine zak zas ⟨v3, rfl, ?_⟩
 rw [zd8]
 exact hB3
end
end Go.Av.Fn
/- The reference's quoted texts. No condition. -/
namespace Go.Av.Fn
set_option linter.unusedSimpArgs false
set_option linter.unusedVariables false
set_option maxRecDepth 10000
open Go.Proofs
def qL : List UInt8 → List UInt8 → Nat → Except Int (List UInt8 × Nat)
 | [], _, _ => .error 6
 | c :: r, acc, k =>
  if c.toNat = 34 then .ok (acc, k)
  else if c.toNat < 32 ∨ c.toNat > 126 then .error 6
  else if c.toNat = 92 then match r with
   | [] => .error 6
   | d :: r' => if d.toNat ≠ 92 ∧ d.toNat ≠ 34 ∧ d.toNat ≠ 110 then .error 6 else if acc.length = 255 then .error 5 else qL r' (acc ++ [if d.toNat = 110 then 10 else d]) (k + 2)
  else if acc.length = 255 then .error 5 else qL r (acc ++ [c]) (k + 1)
end Go.Av.Fn
/- Going behind blanks and remarks. No condition. -/
namespace Go.Av.Fn
set_option linter.unusedSimpArgs false
set_option linter.unusedVariables false
set_option maxRecDepth 10000
open Go.Proofs
def notNl (b : UInt8) : Bool := b.toNat != 10
theorem pre_len {p r : List UInt8} (h : p.isPrefixOf r = true) : p.length ≤ r.length := (List.isPrefixOf_iff_prefix.1 h).length_le
theorem slash_run {r : List UInt8} (h : [47, 47].isPrefixOf r = true) : 0 < (r.takeWhile notNl).length := by
 cases r with
 | nil => cases h
 | cons b r =>
  simp only [List.isPrefixOf, zdD, beq_iff_eq] at h
  obtain ⟨rfl, _⟩ := h
  rw [List.takeWhile_cons_of_pos (by decide)]
  simp
def skipL (r : List UInt8) (a l : Nat) : Nat × Nat :=
 if h : [10].isPrefixOf r = true then skipL (r.drop 1) (a + 1) (l + 1)
 else if h2 : ([32].isPrefixOf r || [9].isPrefixOf r) = true then skipL (r.drop 1) (a + 1) l
 else if h3 : [47, 47].isPrefixOf r = true then skipL (r.drop (r.takeWhile notNl).length) (a + (r.takeWhile notNl).length) l
 else (a, l)
termination_by r.length
decreasing_by
 ·have := pre_len h
  simp at this ⊢
  omega
 ·have : 1 ≤ r.length := by
   rw [Bool.or_eq_true] at h2
   rcases h2 with h2 | h2
   ·simpa using pre_len h2
   ·simpa using pre_len h2
  simp
  omega
 ·have h4 := slash_run h3
  have h5 := pre_len h3
  simp at h5 ⊢
  omega
def numL : Nat → List UInt8 → Option Nat
 | n, [] => some n
 | n, b :: r => if n > (9223372036854775807 - (b.toNat - 48)) / 10 then none else numL (10 * n + (b.toNat - 48)) r
end Go.Av.Fn
/- The reference's tokens. No condition. -/
namespace Go.Av.Fn
set_option linter.unusedSimpArgs false
set_option linter.unusedVariables false
set_option maxRecDepth 10000
open Go.Proofs
def tokL (r : List UInt8) : Except Int (Tk × Nat) := match r with
 | [] => .error 6
 | c :: _ =>
  if let8 c then
   if wordsB.contains (r.takeWhile alnum) then .ok (⟨5, r.takeWhile alnum, 0, 0, 0⟩, (r.takeWhile alnum).length)
   else if (r.takeWhile alnum).length > 20 then .error 5 else .ok (⟨1, r.takeWhile alnum, 0, 0, 0⟩, (r.takeWhile alnum).length)
  else if dig c then match numL 0 (r.takeWhile dig) with
   | none => .error 5
   | some n => .ok (⟨2, [], n, 0, 0⟩, (r.takeWhile dig).length)
  else if c.toNat = 34 then match qL (r.drop 1) [] 0 with
   | .error e => .error e
   | .ok (l, k) => .ok (⟨3, l, 0, 0, 0⟩, k + 2)
  else match signsB.find? fun p => p.isPrefixOf r with
   | some p => .ok (⟨4, p, 0, 0, 0⟩, p.length)
   | none => .error 6
end Go.Av.Fn
/- A text's tokens, in plain terms. No condition. -/
namespace Go.Av.Fn
set_option linter.unusedSimpArgs false
set_option linter.unusedVariables false
theorem qL_len {r acc : List UInt8} {k : Nat} {l : List UInt8} {k' : Nat} (h : qL r acc k = .ok (l, k')) : k ≤ k' ∧ k' < k + r.length := by
 fun_induction qL r acc k <;> simp_all <;> omega
theorem tokL_len {r : List UInt8} {t : Tk} {n : Nat} (h : tokL r = .ok (t, n)) : 0 < n ∧ n ≤ r.length := by
 unfold tokL at h
 split at h
 ·cases h
 ·rename_i c r'
  split at h
  ·rename_i hc
   have h1 : 0 < ((c :: r').takeWhile alnum).length := by
    rw [List.takeWhile_cons_of_pos (by simp [alnum, hc])]
    simp
   have h2 := (List.takeWhile_sublist alnum (l := c :: r')).length_le
   split at h
   ·simp only [Except.ok.injEq, Prod.mk.injEq] at h
    omega
   ·split at h
    ·cases h
    ·simp only [Except.ok.injEq, Prod.mk.injEq] at h
     omega
  ·split at h
   ·rename_i hc
    have h1 : 0 < ((c :: r').takeWhile dig).length := by
     rw [List.takeWhile_cons_of_pos hc]
     simp
    have h2 := (List.takeWhile_sublist dig (l := c :: r')).length_le
    split at h
    ·cases h
    ·simp only [Except.ok.injEq, Prod.mk.injEq] at h
     omega
   ·split at h
    ·split at h
     ·cases h
     ·rename_i l k hq
      have := qL_len hq
      simp only [Except.ok.injEq, Prod.mk.injEq] at h
      simp at this ⊢
      omega
    ·split at h
     ·rename_i p hp
      simp only [Except.ok.injEq, Prod.mk.injEq] at h
      have h1 := List.mem_of_find?_eq_some hp
      have h2 := List.find?_some hp
      have h3 : ∀ p ∈ signsB, 0 < p.length := by decide
      have h4 := h3 p h1
      have h5 := pre_len h2
      omega
     ·cases h
def scanL (r : List UInt8) (a l : Nat) (acc : List Tk) : Except (Nat × Int) (List Tk) :=
 let x := skipL r a l
 let r' := r.drop (x.1 - a)
 match h : tokL r' with
 | .error e => if r' = [] then .ok (acc ++ [⟨0, [], 0, x.2, x.1⟩]) else .error (x.1, e)
 | .ok (t, n) => scanL (r'.drop n) (x.1 + n) x.2 (acc ++ [{ t with l := x.2, a := x.1 }])
termination_by r.length
decreasing_by
 have h1 := tokL_len h
 have h2 : r'.length ≤ r.length := by
  show (r.drop _).length ≤ r.length
  rw [zdM]
  omega
 have h3 : r'.length = (r.drop ((skipL r a l).1 - a)).length := rfl
 rw [zdM]
 omega
end Go.Av.Fn
/- The program's tokens. No condition. -/
namespace Go.Av.Fn
set_option linter.unusedSimpArgs false
set_option linter.unusedVariables false
set_option maxRecDepth 10000
open Go.Proofs
def ParseOk (Γ : Glob) : Prop := ∀ (m : Store) (s : List UInt8), s ≠ [] → s.length ≤ 4096 → (∀ c ∈ s, dig c = true) →
 zab Tryz.prog Γ 125 [bs s, it 10, it 64] m fun o m' => (match numL 0 s with
  | some n => o = .ret (.tup [it n, .val .nilIface])
  | none => ∃ (v : Int) (T : TypeId) (u : V), o = .ret (.tup [it v, .ifc T u])) ∧ m' = m
end Go.Av.Fn
/- A text's tokens do not change by going behind a blank. No condition. -/
namespace Go.Av.Fn
set_option linter.unusedSimpArgs false
set_option linter.unusedVariables false
end Go.Av.Fn
/- The program's row of tokens, handed to whoever ranges over it. No condition. -/
namespace Go.Av.Fn
set_option linter.unusedSimpArgs false
set_option linter.unusedVariables false
set_option maxRecDepth 10000
open Go.Proofs
end Go.Av.Fn
/- The reference's tokens of a text. No condition. -/
namespace Go.Av.Fn
set_option linter.unusedSimpArgs false
set_option linter.unusedVariables false
set_option maxRecDepth 10000
open Go.Proofs
def scanR (s : List UInt8) : Except (Nat × Int) (List Tk) := if s.length > 4096 then .error (0, 5) else scanL s 0 1 []
end Go.Av.Fn
/- The program's tokens of a text. No condition. -/
namespace Go.Av
section
variable {P : Program} {Γ : Glob} {Kp : V → Store → Prop}
theorem Buf.del {e : TypeId} {size : Nat} {N m2 : Store} {v : V} {es : List V} {b : Nat} {x : Blk} (h : Buf e size (N.set b x) m2 v es) (hn : N b = none) :
  m2 b = some x ∧ ∃ M, Buf e size N M v es ∧ M b = none ∧ ∀ y, m2.set b y = M.set b y := by
 obtain ⟨h1, h2⟩ := h
 rcases h2 with ⟨h2, h3, rfl⟩ | ⟨h2, t, k, ht, rfl, h3⟩
 ·exact ⟨Store.set_same _ _ _, N, ⟨h1, .inl ⟨h2, h3, rfl⟩⟩, hn, fun y => Store.set_set _ _ _ _⟩
 ·have hne : t ≠ b := by rintro rfl; rw [Store.set_same] at ht; cases ht
  rw [Store.set_ne _ _ hne] at ht
  refine ⟨by rw [Store.set_ne _ _ hne.symm, Store.set_same], N.set t (.tip e k), ⟨h1, .inr ⟨h2, t, k, ht, rfl, h3⟩⟩, by rw [Store.set_ne _ _ hne.symm]; exact hn, fun y => ?_⟩
  funext c
  simp only [Store.set]
  by_cases e : c = b
  ·simp [e]
  ·simp [e]
end
end Go.Av
namespace Go.Av.Fn
set_option linter.unusedSimpArgs false
set_option linter.unusedVariables false
set_option maxRecDepth 10000
open Go.Proofs
end Go.Av.Fn
/- A text's expression, and whether a command is right, in plain terms. No condition. -/
namespace Go.Av.Fn
set_option linter.unusedSimpArgs false
set_option linter.unusedVariables false
structure Form where
 w : List UInt8
 least : Int
 n : Bool
 s : Bool
 deriving DecidableEq
def noForm : Form := ⟨[], 0, false, false⟩
def forms : List Form := [noForm, ⟨[115, 116, 101, 112], 0, false, false⟩, ⟨[110, 101, 120, 116], 0, false, false⟩, ⟨[102, 105, 110, 105, 115, 104], 0, false, false⟩, ⟨[99, 111, 110, 116, 105, 110, 117, 101], 0, false, false⟩,
 ⟨[98, 97, 99, 107, 45, 115, 116, 101, 112], 0, false, false⟩, ⟨[98, 97, 99, 107, 45, 110, 101, 120, 116], 0, false, false⟩, ⟨[98, 97, 99, 107, 45, 102, 105, 110, 105, 115, 104], 0, false, false⟩, ⟨[98, 97, 99, 107, 45, 99, 111, 110, 116, 105, 110, 117, 101], 0, false, false⟩,
 ⟨[103, 111, 116, 111], 0, true, false⟩, ⟨[98, 114, 101, 97, 107], 1, true, true⟩, ⟨[119, 97, 116, 99, 104], 0, false, true⟩, ⟨[100, 101, 108, 101, 116, 101], 1, true, false⟩, ⟨[101, 110, 97, 98, 108, 101], 1, true, false⟩, ⟨[100, 105, 115, 97, 98, 108, 101], 1, true, false⟩,
 ⟨[117, 112], 0, false, false⟩, ⟨[100, 111, 119, 110], 0, false, false⟩, ⟨[112, 114, 105, 110, 116], 0, false, true⟩]
def formOf (k : Int) : Form := if k < 0 then noForm else (forms[k.toNat]?).getD noForm
def cmdV (k n : Int) (s : List UInt8) : V := .agg [it k, it n, bs s]
end Go.Av.Fn
/- errors.As at a reader that is stuck: true, and the target is that reader. Condition: what errors.errorType holds. -/
namespace Go.Av.Fn
open Go.RowKit Go.Extern.Stop Go.Stop Go.Extern Go.Proofs
set_option linter.unusedSimpArgs false
set_option linter.unusedVariables false
end Go.Av.Fn
/- errors.As at a reader that is stuck, over abstract values. Condition: what errors.errorType holds. -/
namespace Go.Av.Fn
open Go.RowKit Go.Proofs
set_option linter.unusedSimpArgs false
set_option linter.unusedVariables false
end Go.Av.Fn
/- A text read by the parser, and what it says when it can't go on. Condition: what errors.errorType holds. -/
namespace Go.Av
section
variable {P : Program} {Γ : Glob} {l : List Item} {t : List V} {m : Store} {d : Option Tmp}
end
end Go.Av
namespace Go.Av.Fn
set_option linter.unusedSimpArgs false
set_option linter.unusedVariables false
set_option maxRecDepth 10000
open Go.Proofs
def readT (l : List Tk) : Option Ex × Int × Int := match run (10 * l.length + 9) (.ex 0) l with
 | some (.ok [e] (t :: _)) => if t.k = 0 then (some e, 0, 0) else (none, t.a, 6)
 | some (.st (t :: _)) => (none, t.a, 6)
 | _ => (none, 0, 0)
def readS (s : List UInt8) : Option Ex × Int × Int := match scanR s with
 | .error (a, e) => (none, a, e)
 | .ok l => readT l
section
variable {Γ : Glob} {m : Store} {xb ab eb : Nat}
end
end Go.Av.Fn
/- A text's expression: what the program's Expr tells. Conditions: the library's functions (LibOk, ParseOk), and what four variables hold. -/
namespace Go.Av
theorem ADCalls.mono {P : Program} {Γ : Glob} {g : FuncId} {caps : List V} {m : Store} {p : Option V} {R R' : Store → Prop} (h : ADCalls P Γ g caps m p R) (hr : ∀ m', R m' → R' m') : ADCalls P Γ g caps m p R' := by
 refine ⟨h.1, fun G B0 mF w ccaps u a b c d => ?_⟩
 have := h.2 G B0 mF w ccaps u a b c d
 refine this.mono ?_
 rintro e u' w' ⟨uv, G', m', h1, h2, h3, h4, h5, h6, h7⟩
 exact ⟨uv, G', m', h1, h2, h3, h4, h5, h6, hr _ h7⟩
end Go.Av
namespace Go.Av.Fn
set_option linter.unusedSimpArgs false
set_option linter.unusedVariables false
set_option maxRecDepth 10000
open Go.Proofs
structure Env (Γ : Glob) : Prop where
 lib : LibOk Γ
 parse : ParseOk Γ
 words : Γ 3 = some (wordsB.map bs)
 signs : Γ 2 = some (signsB.map bs)
 errT : Γ 6 = some [.ifc 289 (.agg [.ptr 9 163])]
section
variable {Γ : Glob} {m : Store}
end
end Go.Av.Fn
/- Whether a text is an expression's, and a command right. Conditions: the library's functions (LibOk, ParseOk), and what three variables hold. -/
namespace Go.Av.Fn
set_option linter.unusedSimpArgs false
set_option linter.unusedVariables false
set_option maxRecDepth 10000
open Go.Proofs
def exprS (s : List UInt8) : Option Ex × Int × Int :=
 if (readS s).2.2 = 0 then (match (readS s).1 with
  | some e => if depthE e > 24 then (none, 0, 7) else (some e, 0, 0)
  | none => (none, 0, 0))
 else (none, (readS s).2.1, (readS s).2.2)
def writtenB (s : List UInt8) : Bool := (exprS s).2.2 == 0 && decide (s.length ≤ 255)
def rightB (k n : Int) (s : List UInt8) : Bool :=
 if (decide (formOf k = noForm) || (!(formOf k).n && n != 0) || (!(formOf k).s && !(s == [])) || decide (n < (formOf k).least) || decide (n > 4294967296)) = true then false
 else if (!(formOf k).s || ((formOf k).n && s == [])) = true then true
 else writtenB s
section
variable {Γ : Glob} {m : Store}
end
end Go.Av.Fn
/- Whether a command is right: the program's. Conditions: the library's functions (LibOk, ParseOk), and what three variables hold. -/
namespace Go.Av
end Go.Av
namespace Go.Av.Fn
set_option linter.unusedSimpArgs false
set_option linter.unusedVariables false
set_option maxRecDepth 100000
open Go.Proofs
section
variable {Γ : Glob} {m : Store}
end
end Go.Av.Fn
/-
 DERIVED: THE SHELF's CONTRACTS AT THIS DUMP, IN PLAIN WORDS (tools/lay-plain.mjs out of 'TryzShelf.lean', which tools/lay-shelf.mjs wrote): THE SAME DECLARATIONS UNDER THE SAME NAMES: 'import', 'namespace', 'open', 'def', 'theorem' AND NOTHING ELSE: no command of the shelf's: FOR A HAND-IN. Each laying: the table of numbers ('.._ren') and one theorem, a field a fact of the dump's own or the kernel's comparison; each contract: ONE APPLICATION.
-/
namespace Go.Proofs
open Go.Shelf
def Tryz.lays169_ren : Go.Shelf.Ren := ⟨fun | 169 => 241 | n => n, fun | 70 => 326 | 9 => 9 | 0 => 0 | 72 => 328 | 37 => 40 | 127 => 201 | 3 => 3 | 5 => 5 | n => n, fun | n => n⟩
theorem Tryz.lays169 : Go.Proofs.Lays.n169 Tryz.prog Tryz.lays169_ren := {
 mixed := by kernel_rfl
 f169 := Tryz.func241.trans (congrArg some (by kernel_rfl))
 t0 := Tryz.underlying0
 a0 := Tryz.isAgg0
 z0 := Tryz.sizeOf0
 v0 := Tryz.zeroValue0
 t3 := Tryz.underlying3
 a3 := Tryz.isAgg3
 z3 := Tryz.sizeOf3
 v3 := Tryz.zeroValue3
 t9 := Tryz.underlying9
 a9 := Tryz.isAgg9
 z9 := Tryz.sizeOf9
 v9 := Tryz.zeroValue9
 t37 := Tryz.underlying40
 a37 := Tryz.isAgg40
 z37 := Tryz.sizeOf40
 v37 := Tryz.zeroValue40
 t70 := Tryz.underlying326
 a70 := Tryz.isAgg326
 z70 := Tryz.sizeOf326
 v70 := Tryz.zeroValue326
 t72 := Tryz.underlying328
 a72 := Tryz.isAgg328
 z72 := Tryz.sizeOf328
 v72 := Tryz.zeroValue328
 t127 := Tryz.underlying201
 a127 := Tryz.isAgg201
 z127 := Tryz.sizeOf201
 v127 := Tryz.zeroValue201 }
theorem Tryz.Builder_Extra_169 : Builder.Extra Tryz.prog Tryz.lays169_ren := {
 sizeBuilder := by kernel_rfl
 liesBuilder := by kernel_rfl
 t5 := Tryz.underlying5
 a5 := Tryz.isAgg5
 z5 := Tryz.sizeOf5
 v5 := Tryz.zeroValue5
 infoByte := by kernel_rfl
 cellsByte := by kernel_rfl
 sizeByte := by kernel_rfl
 neB5 := by decide }
def Tryz.lays137_ren : Go.Shelf.Ren := ⟨fun | 137 => 242 | 217 => 137 | 266 => 162 | n => n, fun | 9 => 9 | 5 => 5 | 3 => 3 | n => n, fun | n => n⟩
theorem Tryz.lays137 : Go.Proofs.Lays.n137 Tryz.prog Tryz.lays137_ren := {
 mixed := by kernel_rfl
 f137 := Tryz.func242.trans (congrArg some (by kernel_rfl))
 f217 := Tryz.func137.trans (congrArg some (by kernel_rfl))
 f266 := Tryz.func162.trans (congrArg some (by kernel_rfl))
 t3 := Tryz.underlying3
 a3 := Tryz.isAgg3
 z3 := Tryz.sizeOf3
 v3 := Tryz.zeroValue3
 t5 := Tryz.underlying5
 a5 := Tryz.isAgg5
 z5 := Tryz.sizeOf5
 v5 := Tryz.zeroValue5
 t9 := Tryz.underlying9
 a9 := Tryz.isAgg9
 z9 := Tryz.sizeOf9
 v9 := Tryz.zeroValue9 }
open Go.RowKit in
theorem Tryz.strings_IndexByte (s : ByteArray) (c : Int) (w : World) :
  Calls Tryz.prog 242 #[.string s, .int .u8 c] w fun e w' => e = .returned (.int .i64 (Lib.indexByte s.data.toList c.toNat.toUInt8)) ∧ w' = w := Any.strings_IndexByte Tryz.lays137 s c w
def Tryz.laysM316_ren : Go.Shelf.Ren := ⟨fun | 316 => 131 | n => n, fun | 9 => 9 | 3 => 3 | 4 => 4 | 37 => 40 | 0 => 0 | 127 => 201 | 5 => 5 | n => n, fun | n => n⟩
theorem Tryz.laysM316 : Go.Proofs.LaysM.n316 Tryz.prog Tryz.laysM316_ren := {
 mixed := by kernel_rfl
 f316 := Tryz.func131.trans (congrArg some (by kernel_rfl))
 t0 := Tryz.underlying0
 a0 := Tryz.isAgg0
 z0 := Tryz.sizeOf0
 v0 := Tryz.zeroValue0
 t3 := Tryz.underlying3
 a3 := Tryz.isAgg3
 z3 := Tryz.sizeOf3
 v3 := Tryz.zeroValue3
 t4 := Tryz.underlying4
 a4 := Tryz.isAgg4
 z4 := Tryz.sizeOf4
 v4 := Tryz.zeroValue4
 t9 := Tryz.underlying9
 a9 := Tryz.isAgg9
 z9 := Tryz.sizeOf9
 v9 := Tryz.zeroValue9
 t37 := Tryz.underlying40
 a37 := Tryz.isAgg40
 z37 := Tryz.sizeOf40
 v37 := Tryz.zeroValue40
 t127 := Tryz.underlying201
 a127 := Tryz.isAgg201
 z127 := Tryz.sizeOf201
 v127 := Tryz.zeroValue201
 t5 := Tryz.underlying5
 a5 := Tryz.isAgg5
 z5 := Tryz.sizeOf5
 v5 := Tryz.zeroValue5
 i0 := by kernel_rfl
 i3 := by kernel_rfl
 i4 := by kernel_rfl
 i5 := by kernel_rfl
 i9 := by kernel_rfl
 i37 := by kernel_rfl
 i127 := by kernel_rfl }
open Go.RowKit in
theorem Tryz.stringslite_Clone (s : ByteArray) (w : World) (hlim : s.size ≤ 281474976710656) :
  Calls Tryz.prog 131 #[.string s] w fun e w' => e = .returned (.string s) ∧ Below w.heap.size w w' := Any.stringslite_Clone Tryz.laysM316 s w hlim
def Tryz.laysC174_ren : Go.Shelf.Ren := ⟨fun | 174 => 125 | 247 => 141 | 245 => 142 | 287 => 164 | 279 => 165 | 280 => 166 | 281 => 167 | 282 => 168 | 321 => 193 | 322 => 194 | 316 => 131 | 171 => 62 | 205 => 195 | 243 => 104 | 246 => 129 | 283 => 148 | 284 => 149 | 285 => 150 | 286 => 151 | 129 => 177 | 317 => 176 | 318 => 178 | 319 => 179 | 320 => 180 | 337 => 204 | 338 => 205 | n => n, fun | 9 => 9 | 3 => 3 | 2 => 2 | 75 => 163 | 85 => 164 | 4 => 4 | 167 => 207 | 5 => 5 | 53 => 154 | 175 => 208 | 46 => 156 | 168 => 210 | 37 => 40 | 0 => 0 | 210 => 241 | 21 => 21 | 127 => 201 | 145 => 284 | 143 => 282 | 171 => 190 | 173 => 192 | 212 => 227 | 51 => 204 | 20 => 20 | 213 => 228 | 232 => 304 | 233 => 305 | 80 => 260 | n => n, fun | 15 => 4 | 16 => 5 | 17 => 1 | 18 => 7 | 19 => 8 | n => n⟩
theorem Tryz.laysC174 : Go.Proofs.LaysC.n174 Tryz.prog Tryz.laysC174_ren := {
 mixed := by kernel_rfl
 f129 := Tryz.func177.trans (congrArg some (by kernel_rfl))
 f171 := Tryz.func62.trans (congrArg some (by kernel_rfl))
 f174 := Tryz.func125.trans (congrArg some (by kernel_rfl))
 f205 := Tryz.func195.trans (congrArg some (by kernel_rfl))
 f243 := Tryz.func104.trans (congrArg some (by kernel_rfl))
 f245 := Tryz.func142.trans (congrArg some (by kernel_rfl))
 f246 := Tryz.func129.trans (congrArg some (by kernel_rfl))
 f247 := Tryz.func141.trans (congrArg some (by kernel_rfl))
 f279 := Tryz.func165.trans (congrArg some (by kernel_rfl))
 f280 := Tryz.func166.trans (congrArg some (by kernel_rfl))
 f281 := Tryz.func167.trans (congrArg some (by kernel_rfl))
 f282 := Tryz.func168.trans (congrArg some (by kernel_rfl))
 f283 := Tryz.func148.trans (congrArg some (by kernel_rfl))
 f284 := Tryz.func149.trans (congrArg some (by kernel_rfl))
 f285 := Tryz.func150.trans (congrArg some (by kernel_rfl))
 f286 := Tryz.func151.trans (congrArg some (by kernel_rfl))
 f287 := Tryz.func164.trans (congrArg some (by kernel_rfl))
 f316 := Tryz.func131.trans (congrArg some (by kernel_rfl))
 f317 := Tryz.func176.trans (congrArg some (by kernel_rfl))
 f318 := Tryz.func178.trans (congrArg some (by kernel_rfl))
 f319 := Tryz.func179.trans (congrArg some (by kernel_rfl))
 f320 := Tryz.func180.trans (congrArg some (by kernel_rfl))
 f321 := Tryz.func193.trans (congrArg some (by kernel_rfl))
 f322 := Tryz.func194.trans (congrArg some (by kernel_rfl))
 f337 := Tryz.func204.trans (congrArg some (by kernel_rfl))
 f338 := Tryz.func205.trans (congrArg some (by kernel_rfl))
 t0 := Tryz.underlying0
 a0 := Tryz.isAgg0
 z0 := Tryz.sizeOf0
 v0 := Tryz.zeroValue0
 t2 := Tryz.underlying2
 a2 := Tryz.isAgg2
 z2 := Tryz.sizeOf2
 v2 := Tryz.zeroValue2
 t3 := Tryz.underlying3
 a3 := Tryz.isAgg3
 z3 := Tryz.sizeOf3
 v3 := Tryz.zeroValue3
 t4 := Tryz.underlying4
 a4 := Tryz.isAgg4
 z4 := Tryz.sizeOf4
 v4 := Tryz.zeroValue4
 t5 := Tryz.underlying5
 a5 := Tryz.isAgg5
 z5 := Tryz.sizeOf5
 v5 := Tryz.zeroValue5
 t9 := Tryz.underlying9
 a9 := Tryz.isAgg9
 z9 := Tryz.sizeOf9
 v9 := Tryz.zeroValue9
 t20 := Tryz.underlying20
 a20 := Tryz.isAgg20
 z20 := Tryz.sizeOf20
 v20 := Tryz.zeroValue20
 t21 := Tryz.underlying21
 a21 := Tryz.isAgg21
 z21 := Tryz.sizeOf21
 v21 := Tryz.zeroValue21
 t37 := Tryz.underlying40
 a37 := Tryz.isAgg40
 z37 := Tryz.sizeOf40
 v37 := Tryz.zeroValue40
 t46 := Tryz.underlying156
 a46 := Tryz.isAgg156
 z46 := Tryz.sizeOf156
 v46 := Tryz.zeroValue156
 t51 := Tryz.underlying204
 a51 := Tryz.isAgg204
 z51 := Tryz.sizeOf204
 v51 := Tryz.zeroValue204
 t53 := Tryz.underlying154
 a53 := Tryz.isAgg154
 z53 := Tryz.sizeOf154
 v53 := Tryz.zeroValue154
 t75 := Tryz.underlying163
 a75 := Tryz.isAgg163
 z75 := Tryz.sizeOf163
 v75 := Tryz.zeroValue163
 t85 := Tryz.underlying164
 a85 := Tryz.isAgg164
 z85 := Tryz.sizeOf164
 v85 := Tryz.zeroValue164
 t127 := Tryz.underlying201
 a127 := Tryz.isAgg201
 z127 := Tryz.sizeOf201
 v127 := Tryz.zeroValue201
 t143 := Tryz.underlying282
 a143 := Tryz.isAgg282
 z143 := Tryz.sizeOf282
 v143 := Tryz.zeroValue282
 t145 := Tryz.underlying284
 a145 := Tryz.isAgg284
 z145 := Tryz.sizeOf284
 v145 := Tryz.zeroValue284
 t167 := Tryz.underlying207
 a167 := Tryz.isAgg207
 z167 := Tryz.sizeOf207
 v167 := Tryz.zeroValue207
 t168 := Tryz.underlying210
 a168 := Tryz.isAgg210
 z168 := Tryz.sizeOf210
 v168 := Tryz.zeroValue210
 t171 := Tryz.underlying190
 a171 := Tryz.isAgg190
 z171 := Tryz.sizeOf190
 v171 := Tryz.zeroValue190
 t173 := Tryz.underlying192
 a173 := Tryz.isAgg192
 z173 := Tryz.sizeOf192
 v173 := Tryz.zeroValue192
 t175 := Tryz.underlying208
 a175 := Tryz.isAgg208
 z175 := Tryz.sizeOf208
 v175 := Tryz.zeroValue208
 t210 := Tryz.underlying241
 a210 := Tryz.isAgg241
 z210 := Tryz.sizeOf241
 v210 := Tryz.zeroValue241
 t212 := Tryz.underlying227
 a212 := Tryz.isAgg227
 z212 := Tryz.sizeOf227
 v212 := Tryz.zeroValue227
 t213 := Tryz.underlying228
 a213 := Tryz.isAgg228
 z213 := Tryz.sizeOf228
 t232 := Tryz.underlying304
 a232 := Tryz.isAgg304
 z232 := Tryz.sizeOf304
 v232 := Tryz.zeroValue304
 t233 := Tryz.underlying305
 a233 := Tryz.isAgg305
 z233 := Tryz.sizeOf305
 v233 := Tryz.zeroValue305
 g15 := by kernel_rfl
 g16 := by kernel_rfl
 g17 := by kernel_rfl
 g18 := by kernel_rfl
 g19 := by kernel_rfl
 t80 := Tryz.underlying260
 a80 := Tryz.isAgg260
 z80 := Tryz.sizeOf260
 v80 := Tryz.zeroValue260
 i0 := by kernel_rfl
 i2 := by kernel_rfl
 i3 := by kernel_rfl
 i4 := by kernel_rfl
 i5 := by kernel_rfl
 i9 := by kernel_rfl
 i20 := by kernel_rfl
 i21 := by kernel_rfl
 i37 := by kernel_rfl
 i46 := by kernel_rfl
 i51 := by kernel_rfl
 i53 := by kernel_rfl
 i75 := by kernel_rfl
 i80 := by kernel_rfl
 i85 := by kernel_rfl
 i127 := by kernel_rfl
 i143 := by kernel_rfl
 i145 := by kernel_rfl
 i167 := by kernel_rfl
 i168 := by kernel_rfl
 i171 := by kernel_rfl
 i173 := by kernel_rfl
 i175 := by kernel_rfl
 i210 := by kernel_rfl
 i212 := by kernel_rfl
 i232 := by kernel_rfl
 i233 := by kernel_rfl
 m15 := by kernel_rfl
 m16 := by kernel_rfl
 m17 := by kernel_rfl
 m18 := by kernel_rfl
 m19 := by kernel_rfl
 c0 := by kernel_rfl
 c2 := by kernel_rfl
 c3 := by kernel_rfl
 c4 := by kernel_rfl
 c5 := by kernel_rfl
 c9 := by kernel_rfl
 c20 := by kernel_rfl
 c21 := by kernel_rfl
 c37 := by kernel_rfl
 c46 := by kernel_rfl
 c51 := by kernel_rfl
 c53 := by kernel_rfl
 c75 := by kernel_rfl
 c80 := by kernel_rfl
 c85 := by kernel_rfl
 c127 := by kernel_rfl
 c143 := by kernel_rfl
 c145 := by kernel_rfl
 c167 := by kernel_rfl
 c168 := by kernel_rfl
 c171 := by kernel_rfl
 c173 := by kernel_rfl
 c175 := by kernel_rfl
 c210 := by kernel_rfl
 c212 := by kernel_rfl
 c213 := by kernel_rfl
 c232 := by kernel_rfl
 c233 := by kernel_rfl }
open Go.RowKit in
theorem Tryz.strconv_ParseInt_10_at64_ok (s : ByteArray) (hmax : s.size ≤ 9223372036854775806) (v : Int) (h : Lib.parseIntB 64 s.data.toList = .ok v) (w : World) :
  Calls Tryz.prog 125 #[.string s, .int .i64 10, .int .i64 64] w fun e w' => e = .returned (.tuple #[.int .i64 v, .nilIface]) ∧ (w' = w ∨ ∃ t, w' = Lib.bytesWorld w 5 t) := Any.strconv_ParseInt_10_at64_ok Tryz.laysC174 s hmax v h w
open Go.RowKit in
theorem Tryz.strconv_ParseInt_10_at64_range (s : ByteArray) (hlim : s.size ≤ 281474976710656) (h : Lib.parseIntB 64 s.data.toList = .range) (ev : Value) (w : World) (hv : w.cell? ⟨5, 0, none⟩ = some ev) (hev : ev = .nilIface ∨ ∃ te pe, ev = .iface te pe) :
  Calls Tryz.prog 125 #[.string s, .int .i64 10, .int .i64 64] w fun e w' => ∃ N, e = .returned (.tuple #[.int .i64 (Lib.intSat 64 s.data.toList), .iface 210 (.pointer (some ⟨N, 0, none⟩))]) ∧ w.heap.size ≤ N ∧ w'.heap[N]? = some (.cells #[.string ⟨#[80, 97, 114, 115, 101, 73, 110, 116]⟩, .string s, ev] 241 (0, 0)) ∧ Below w.heap.size w w' := Any.strconv_ParseInt_10_at64_range Tryz.laysC174 s hlim h ev w hv hev
def Tryz.lays240_ren : Go.Shelf.Ren := ⟨fun | 240 => 251 | 276 => 261 | n => n, fun | 0 => 0 | 4 => 4 | 9 => 9 | 20 => 20 | 37 => 40 | 70 => 326 | 72 => 328 | 164 => 248 | n => n, fun n => n⟩
theorem Tryz.lays240 : Go.Proofs.Lays.n240 Tryz.prog Tryz.lays240_ren := {
 mixed := by kernel_rfl
 f240 := Tryz.func251.trans (congrArg some (by kernel_rfl))
 f276 := Tryz.func261.trans (congrArg some (by kernel_rfl))
 t0 := Tryz.underlying0
 a0 := Tryz.isAgg0
 z0 := Tryz.sizeOf0
 v0 := Tryz.zeroValue0
 t4 := Tryz.underlying4
 a4 := Tryz.isAgg4
 z4 := Tryz.sizeOf4
 v4 := Tryz.zeroValue4
 t9 := Tryz.underlying9
 a9 := Tryz.isAgg9
 z9 := Tryz.sizeOf9
 v9 := Tryz.zeroValue9
 t20 := Tryz.underlying20
 a20 := Tryz.isAgg20
 z20 := Tryz.sizeOf20
 v20 := Tryz.zeroValue20
 t70 := Tryz.underlying326
 a70 := Tryz.isAgg326
 z70 := Tryz.sizeOf326
 v70 := Tryz.zeroValue326
 t72 := Tryz.underlying328
 a72 := Tryz.isAgg328
 z72 := Tryz.sizeOf328
 v72 := Tryz.zeroValue328
 t164 := Tryz.underlying248
 a164 := Tryz.isAgg248
 z164 := Tryz.sizeOf248
 v164 := Tryz.zeroValue248
}
theorem Tryz.Builder_X72_240 : Builder.X72 Tryz.prog Tryz.lays240_ren := {
 sizeBuilder := by kernel_rfl
 liesBuilder := by kernel_rfl
}
end Go.Proofs
/- The library's functions, told over abstract values. No condition. -/
namespace Go.Proofs
open Go.Shelf Go.RowKit
variable {P : Program} {ρ : Ren}
theorem liesAt_off {e : TypeId} (hc : P.cellsOf e = 1) (count off n : Nat) (hn : off + n ≤ count) : liesAt P P.depth e count off e n = true := by
 have hd : P.depth = (2 * (P.types.size + Made.depth) + 1) + 1 := rfl
 rw [hd]
 simp only [liesAt, Bool.or_eq_true]
 left
 rw [hd]
 simp [rowAt, hc, hn, sameLayout, Nat.mod_one]
theorem unsafeString_at (w : World) (pt it ty e : TypeId) (hp : P.underlying pt = some (.pointer e)) (hc : P.cellsOf e = 1) (a : Addr) (cells : Nat) (hsh : w.shape? a.block = some (e, cells)) (l : List UInt8) (h0 : l ≠ []) (hn : a.off + l.length ≤ cells) (h63 : l.length ≤ 9223372036854775807)
  (hcell : ∀ j x, l[j]? = some x → w.cell? (a.add j) = some (.int .u8 x.toNat)) :
  (Builtin.unsafeString_ #[pt, it] ty #[.pointer (some a), .int .i64 l.length]).run P w = .ok (.string ⟨l.toArray⟩) (w.freeze a l.length) := by
 have hl : l.length ≠ 0 := by simpa using h0
 have hlb := Lib.run_loadBytes (P := P) w l a .empty hcell
 have hlies := liesAt_off (P := P) hc (cells / P.cellsOf e) a.off l.length (by rw [hc]; simpa using hn)
 have h63' : ¬ (9223372036854775807 : Int) < (l.length : Int) := by omega
 have hdef : Builtin.unsafeString_ #[pt, it] ty #[.pointer (some a), .int .i64 l.length] =
   (do
    let n ← asInt (.int .i64 l.length)
    if n < 0 then runtimePanic (.error "unsafe.String: len out of range")
    if n > IntKind.i64.max then unsupported (.unsafePointer "String: a length above the largest int")
    if n = 0 then pure (.string .empty)
    else if ← variablesAt a (← elemOf pt) n.toNat then do
     let s ← loadBytes a .empty n.toNat
     freeze a n.toNat
     pure (.string s)
    else unsupported (.unsafePointer "String: not so many bytes at ptr")) := rfl
 rw [hdef]
 have hmax : IntKind.i64.max = 9223372036854775807 := rfl
 have hneg : ¬ (l.length : Int) < 0 := by omega
 simp [asInt, asIntOf, hmax, h63', hneg, hl, variablesAt, hsh, elemOf, run_underlying hp, hlies, hlb]
set_option maxHeartbeats 1000000 in
set_option maxRecDepth 100000 in
theorem builderString_at (L : Lays.n169 P ρ) (X : Builder.Extra P ρ) (b : Nat) (p : Value) (a : Addr) (cap n : Nat) (l : List UInt8) (w : World) (hbk : w.heap[b]? = some (.cells #[p, .slice (some a) l.length cap] (ρ.t 72) (0, 0))) (h0 : l ≠ []) (hcap : l.length ≤ cap) (h63 : l.length ≤ 9223372036854775807)
  (hsh : w.shape? a.block = some (ρ.t 5, n)) (hn : a.off + l.length ≤ n) (hcell : ∀ j x, l[j]? = some x → w.cell? (a.add j) = some (.int .u8 x.toNat)) :
  Calls P (ρ.f 169) #[.pointer (some ⟨b, 0, none⟩)] w fun e w' => e = .returned (.string ⟨l.toArray⟩) ∧ w' = w.drew.freeze a l.length := by
 have hl0 : l.length ≠ 0 := by simpa using h0
 have c1 : w.drew.cell? ⟨b, 1, none⟩ = some (.slice (some a) l.length cap) := by
  have : w.drew.heap[b]? = some (.cells #[p, .slice (some a) l.length cap] (ρ.t 72) (0, 0)) := hbk
  rw [Lib.cell_of_heap this]; rfl
 have hSD : (Builtin.unsafeSliceData_ #[(ρ.t 37)] (ρ.t 127) #[.slice (some a) l.length cap]).run P w.drew = .ok (.pointer (some a)) w.drew :=
  Lib.run_unsafeSliceData_row _ _ _ _ _ _ (by omega)
 have hUS : (Builtin.unsafeString_ #[(ρ.t 127), (ρ.t 3)] (ρ.t 9) #[.pointer (some a), .int .i64 l.length]).run P w.drew = .ok (.string ⟨l.toArray⟩) (w.drew.freeze a l.length) :=
  unsafeString_at w.drew (ρ.t 127) (ρ.t 3) (ρ.t 9) (ρ.t 5) L.t127 X.cellsByte a n hsh l h0 hn h63 hcell
 have mixed := L.mixed
 have t72 := L.t72; have a72 := L.a72; have z72 := L.z72; have v72 := L.v72; have u72 := run_underlying L.t72
 have t70 := L.t70; have a70 := L.a70; have z70 := L.z70; have v70 := L.v70; have u70 := run_underlying L.t70
 have t37 := L.t37; have a37 := L.a37; have z37 := L.z37; have v37 := L.v37; have u37 := run_underlying L.t37
 have t127 := L.t127; have a127 := L.a127; have z127 := L.z127; have v127 := L.v127; have u127 := run_underlying L.t127
 have t3 := L.t3; have a3 := L.a3; have z3 := L.z3; have v3 := L.v3; have u3 := run_underlying L.t3
 have t9 := L.t9; have a9 := L.a9; have z9 := L.z9; have v9 := L.v9; have u9 := run_underlying L.t9
 have t5 := X.t5; have a5 := X.a5; have z5 := X.z5; have v5 := X.v5; have u5 := run_underlying X.t5
 go_enter L.f169, Body.n169_ntmps ρ
 go_wp2
 go_region_o
 all_goals (go_wp2; go_ret; exact ⟨rfl, rfl⟩)
end Go.Proofs
/- The library's functions hold what is asked of them. No condition but the variable that ParseInt looks at. -/
namespace Go.Av
open Go.RowKit
section
variable {P : Program} {Γ : Glob} {B0 : Nat} {G : Gh} {m : Store} {w : World}
theorem zaK {a : Addr} {n b : Nat} (h : b ≠ a.block) : (w.freeze a n).heap[b]? = w.heap[b]? := by
 unfold World.freeze
 split
 ·rfl
 ·simp only [zd6]
  rw [if_neg (fun e => h e.symm)]
theorem cell_freeze {a c : Addr} {n : Nat} : (w.freeze a n).cell? c = w.cell? c := by
 by_cases h : c.block = a.block
 ·unfold World.freeze
  split
  ·rfl
  ·simp only [World.cell?, zd6, h, if_true]
   cases hb : w.heap[a.block]? with
   | none => rfl
   | some o => cases o <;> rfl
 ·exact World.cell?_of_block (zaK h)
theorem zdh {a : Addr} {n : Nat} : (w.freeze a n).heap.size = w.heap.size := by
 unfold World.freeze
 split
 ·rfl
 ·simp
theorem Rep.freeze (h : Rep Γ B0 G m w) {t : Nat} {T : TypeId} {k : Nat} (ht : m t = some (.tip T k)) {a : Addr} {E C n : Nat} (hH : G.H t k = some (a.block, E, C)) : Rep Γ B0 G (fun c => if c = t then none else m c) (w.freeze a n) := by
 obtain ⟨_, B, E', C', q1, q2, q3, q4, ⟨cs0, fz0, q5⟩, _⟩ := h.tip t T k ht
 rw [hH] at q1
 simp only [Option.some.injEq, Prod.mk.injEq] at q1
 obtain ⟨rfl, rfl, rfl⟩ := q1
 have sub : ∀ b x, (if b = t then none else m b) = some x → b ≠ t ∧ m b = some x := by
  intro b x hb
  by_cases e : b = t
  ·simp [e] at hb
  ·exact ⟨e, by simpa [e] using hb⟩
 exact {
  K := fun b o u hu => by rw [cell_freeze]; exact h.K b o u hu
  base := by rw [zdh]; exact h.base
  hist := fun t' v x hx => by rw [zdh]; exact ⟨(h.hist t' v x hx).1, fun T' v' hv => (h.hist t' v x hx).2 T' v' (sub _ _ hv).2⟩
  var := fun b T' cs hb => by
   obtain ⟨h1, ⟨us, h2, h3⟩, h4⟩ := h.var b T' cs (sub _ _ hb).2
   have hne : b ≠ a.block := by rintro rfl; exact q4 _ _ (sub _ _ hb).2
   exact ⟨h1, ⟨us, by rw [zaK hne]; exact h2, h3⟩, h4⟩
  tip := fun t' T' v ht' => by
   rw [zdh]
   obtain ⟨hne, ht''⟩ := sub _ _ ht'
   obtain ⟨p1, B', E', C', p2, p3, p4, p5, ⟨y1, y2, y3⟩, p6⟩ := h.tip t' T' v ht''
   have hB : B' ≠ a.block := by
    rintro rfl
    exact h.apart t' T' v t T k a.block E' C' E C ht'' ht hne p2 hH
   refine ⟨p1, B', E', C', p2, p3, p4, fun T2 cs hc => p5 T2 cs (sub _ _ hc).2, ⟨y1, y2, by rw [zaK hB]; exact y3⟩, fun o h1 h2 => ?_⟩
   obtain ⟨f1, f2, f3⟩ := p6 o h1 h2
   exact ⟨by rw [cell_freeze]; exact f1, by rw [World.frozen?_of_block (w := w) (zaK hB)]; exact f2, f3⟩
  own := fun t' v B E C k => by rw [zdh]; exact ⟨(h.own t' v B E C k).1, (h.own t' v B E C k).2.1, fun T cs hc => (h.own t' v B E C k).2.2 T cs (sub _ _ hc).2⟩
  apart := fun t1 T1 v1 t2 T2 v2 B E C E' C' k1 k2 => h.apart t1 T1 v1 t2 T2 v2 B E C E' C' (sub _ _ k1).2 (sub _ _ k2).2
  glob := h.glob
  gsz := fun g cs hg h20 => by
   obtain ⟨a1, us', T', fz, b', c'⟩ := h.gsz g cs hg h20
   exact ⟨a1, us', T', fz, by rw [zaK (by omega)]; exact b', c'⟩
  loop := fun b r f t' ps x y D hb => by
   obtain ⟨h1, us, h2, h3⟩ := h.loop b r f t' ps x y D (sub _ _ hb).2
   have hne : b ≠ a.block := by rintro rfl; rw [q5.1] at h2; cases h2
   exact ⟨h1, us, by rw [zaK hne]; exact h2, h3⟩
  defer := fun b hb => by
   obtain ⟨h1, h2⟩ := h.defer b (sub _ _ hb).2
   have hne : b ≠ a.block := by rintro rfl; rw [q5.1] at h2; cases h2
   exact ⟨h1, by rw [zaK hne]; exact h2⟩ }
theorem by8s_inv : ∀ {l : List UInt8} {us : List Value}, RelL G (l.map by8) us → us = l.map fun b => Value.int .u8 b.toNat
 | [], us, h => h.nil_inv
 | b :: l, us, h => by
  obtain ⟨y, ys, rfl, r1, r2⟩ := h.cons_inv
  cases r1
  rw [by8s_inv r2]
  rfl
end
end Go.Av
namespace Go.Av.Fn
set_option linter.unusedSimpArgs false
set_option linter.unusedVariables false
set_option maxRecDepth 10000
open Go.Proofs Go.RowKit
theorem idxB_eq (s : List UInt8) (c : UInt8) : Lib.indexByte s c = idxB s c := by
 unfold idxB
 induction s with
 | nil => rfl
 | cons b s ih =>
  rw [List.findIdx?_cons, Lib.indexByte]
  by_cases h : (b == c) = true
  ·simp [h]
  ·simp only [h, zd0, if_false]
   rw [ih]
   cases List.findIdx? (· == c) s with
   | none => rfl
   | some i =>
    simp only [Option.map_some]
    have : ¬ ((i : Int) == -1) = true := by
     intro k
     have := eq_of_beq k
     omega
    rw [if_neg this]
    rfl
theorem parse_ge : ∀ (l : List UInt8) (acc u : Nat), Lib.parseUintM (2 ^ 64 - 1) acc l = .ok u → acc ≤ u
 | [], acc, u, h => by
  simp only [Lib.parseUintM, Lib.NumEnd.ok.injEq] at h
  omega
 | c :: r, acc, u, h => by
  simp only [Lib.parseUintM] at h
  split at h
  ·split at h
   ·cases h
   ·split at h
    ·cases h
    ·have := parse_ge r _ u h
     omega
  ·cases h
theorem parse_no : ∀ (l : List UInt8) (acc : Nat), (∀ c ∈ l, dig c = true) → (∃ u, Lib.parseUintM (2 ^ 64 - 1) acc l = .ok u) ∨ Lib.parseUintM (2 ^ 64 - 1) acc l = .range
 | [], acc, _ => .inl ⟨acc, rfl⟩
 | c :: r, acc, hd => by
  have hc := hd c (zdG ..)
  simp only [dig, zdD, decide_eq_true_eq] at hc
  have hc' : 48 ≤ c.toNat ∧ c.toNat ≤ 57 := hc
  simp only [Lib.parseUintM, if_pos hc']
  split
  ·exact .inr rfl
  ·split
   ·exact .inr rfl
   ·exact parse_no r _ (fun c hc => hd c (zdI _ hc))
theorem parse_num : ∀ (l : List UInt8) (acc : Nat), (∀ c ∈ l, dig c = true) → acc < 9223372036854775808 →
  (∃ u, Lib.parseUintM (2 ^ 64 - 1) acc l = .ok u ∧ numL acc l = if u < 9223372036854775808 then some u else none) ∨ (Lib.parseUintM (2 ^ 64 - 1) acc l = .range ∧ numL acc l = none)
 | [], acc, _, ha => .inl ⟨acc, rfl, by simp only [numL]; rw [if_pos ha]⟩
 | c :: r, acc, hd, ha => by
  have hc := hd c (zdG ..)
  simp only [dig, zdD, decide_eq_true_eq] at hc
  have hc' : 48 ≤ c.toNat ∧ c.toNat ≤ 57 := hc
  simp only [Lib.parseUintM, numL, if_pos hc']
  have key : (acc > (9223372036854775807 - (c.toNat - 48)) / 10) ↔ 9223372036854775807 < 10 * acc + (c.toNat - 48) := by omega
  have e10 : acc * 10 + (c.toNat - 48) = 10 * acc + (c.toNat - 48) := by omega
  rw [e10]
  by_cases h1 : 1844674407370955162 ≤ acc
  ·rw [if_pos h1, if_pos (key.2 (by omega))]
   exact .inr ⟨rfl, rfl⟩
  ·rw [if_neg h1]
   by_cases h2 : 2 ^ 64 - 1 < 10 * acc + (c.toNat - 48)
   ·rw [if_pos h2, if_pos (key.2 (by omega))]
    exact .inr ⟨rfl, rfl⟩
   ·rw [if_neg h2]
    by_cases h3 : 9223372036854775807 < 10 * acc + (c.toNat - 48)
    ·rw [if_pos (key.2 h3)]
     rcases parse_no r (10 * acc + (c.toNat - 48)) (fun c hc => hd c (zdI _ hc)) with ⟨u, hp⟩ | hp
     ·have := parse_ge r _ u hp
      exact .inl ⟨u, hp, by rw [if_neg (by omega)]⟩
     ·exact .inr ⟨hp, rfl⟩
    ·rw [if_neg (fun k => h3 (key.1 k))]
     exact parse_num r _ (fun c hc => hd c (zdI _ hc)) (by omega)
theorem parseB {s : List UInt8} (hne : s ≠ []) (hd : ∀ c ∈ s, dig c = true) : match numL 0 s with
  | some n => Lib.parseIntB 64 s = .ok (n : Int)
  | none => Lib.parseIntB 64 s = .range := by
 obtain ⟨c, r, rfl⟩ : ∃ c r, s = c :: r := by
  cases s with
  | nil => exact absurd rfl hne
  | cons c r => exact ⟨c, r, rfl⟩
 have hc := hd c (zdG ..)
 simp only [dig, zdD, decide_eq_true_eq] at hc
 have h1 : ¬ (c.toNat = 43 ∨ c.toNat = 45) := by omega
 have h2 : ¬ c.toNat = 45 := by omega
 have hU : Lib.parseUintB 64 (c :: r) = Lib.parseUintM (2 ^ 64 - 1) 0 (c :: r) := by
  unfold Lib.parseUintB
  rw [if_neg (List.cons_ne_nil c r)]
 have hok : ∀ u, Lib.parseUintM (2 ^ 64 - 1) 0 (c :: r) = .ok u → Lib.parseIntB 64 (c :: r) = if 9223372036854775808 ≤ u then .range else .ok (u : Int) := by
  intro u hu
  unfold Lib.parseIntB
  simp only
  rw [if_neg h1, hU, hu]
  simp [h2]
 have hra : Lib.parseUintM (2 ^ 64 - 1) 0 (c :: r) = .range → Lib.parseIntB 64 (c :: r) = .range := by
  intro hu
  unfold Lib.parseIntB
  simp only
  rw [if_neg h1, hU, hu]
 rcases parse_num (c :: r) 0 hd (by omega) with ⟨u, e1, e2⟩ | ⟨e1, e2⟩
 ·rw [e2]
  by_cases hu : u < 9223372036854775808
  ·rw [if_pos hu]
   simp only
   rw [hok u e1, if_neg (by omega)]
  ·rw [if_neg hu]
   simp only
   rw [hok u e1, if_pos (by omega)]
 ·rw [e2]
  exact hra e1
theorem clone41 {Γ : Glob} (m : Store) (s : List UInt8) (hs : s.length ≤ 281474976710656) : zab Tryz.prog Γ 131 [bs s] m fun o m' => o = .ret (bs s) ∧ m' = m :=
 zab.of_vals (xs := [.string ⟨s.toArray⟩]) (u := .string ⟨s.toArray⟩) (by kernel_rfl) rfl (fun w => Tryz.stringslite_Clone ⟨s.toArray⟩ w (by simpa [ByteArray.size] using hs))
theorem index38 {Γ : Glob} (m : Store) (s : List UInt8) (c : UInt8) : zab Tryz.prog Γ 242 [bs s, by8 c] m fun o m' => o = .ret (it (idxB s c)) ∧ m' = m :=
 zab.of_vals (xs := [.string ⟨s.toArray⟩, .int .u8 c.toNat]) (u := .int .i64 (idxB s c)) (by kernel_rfl) rfl (fun w => (Tryz.strings_IndexByte ⟨s.toArray⟩ c.toNat w).mono (by
  rintro e w' ⟨rfl, rfl⟩
  refine ⟨?_, Below.refl _ _⟩
  have e1 : (c.toNat : Int).toNat.toUInt8 = c := by simp
  rw [e1, ← idxB_eq]))
theorem parse28 {Γ : Glob} {T : TypeId} {v : V} (hΓ : Γ 5 = some [.ifc T v]) : ParseOk Γ := by
 intro m s hne hs hd
 have hp := parseB hne hd
 refine ⟨by kernel_rfl, fun G B0 mF w cargs hD hR hL => ?_⟩
 obtain ⟨c1, r1, rfl, h1, hL⟩ := hL.cons_inv
 obtain ⟨c2, r2, rfl, h2, hL⟩ := hL.cons_inv
 obtain ⟨c3, r3, rfl, h3, hL⟩ := hL.cons_inv
 obtain rfl := hL.nil_inv
 cases h1
 cases h2
 cases h3
 have hsz : (⟨s.toArray⟩ : ByteArray).data.toList = s := by simp
 have hsz2 : (⟨s.toArray⟩ : ByteArray).size = s.length := by simp [ByteArray.size]
 cases hn : numL 0 s with
 | some n =>
  rw [hn] at hp
  refine (Tryz.strconv_ParseInt_10_at64_ok ⟨s.toArray⟩ (by omega) n (by rw [hsz]; exact hp) w).mono ?_
  rintro e w' ⟨rfl, hw⟩
  have hB : Below w.heap.size w w' := by
   rcases hw with rfl | ⟨t, rfl⟩
   ·exact Below.refl _ _
   ·exact Lib.bytesWorld_below w 5 t
  exact ⟨G, m, .ret (.tup [it n, .val .nilIface]), Gh.le.refl G, hD, hR.below hB, hB.mono hR.base, .ret (.tup (.cons (.val rfl) (.cons (.val rfl) .nil))), rfl, rfl⟩
 | none =>
  rw [hn] at hp
  obtain ⟨us, g1, g2⟩ := hR.glob 5 _ hΓ
  obtain ⟨u, ys, rfl, g3, g4⟩ := g1.cons_inv
  obtain rfl := g4.nil_inv
  have hcell := hR.K 5 0 u (g2.2 0 u rfl)
  cases g3 with
  | ifc g3 =>
   refine (Tryz.strconv_ParseInt_10_at64_range ⟨s.toArray⟩ (by omega) (by rw [hsz]; exact hp) _ w hcell (.inr ⟨_, _, rfl⟩)).mono ?_
   rintro e w' ⟨N, rfl, _, _, hB⟩
   exact ⟨G, m, .ret (.tup [it (Lib.intSat 64 (ByteArray.mk s.toArray).data.toList), .ifc 210 (.ptr N 0)]), Gh.le.refl G, hD, hR.below hB, hB.mono hR.base, .ret (.tup (.cons (.val rfl) (.cons (.ifc (.ptr _ _)) .nil))), ⟨_, _, _, rfl⟩, rfl⟩
theorem copy48 {Γ : Glob} (m : Store) (b : Nat) (p u : V) (h : m b = some (.var 328 [p, u])) (hp : markOk b p) : zab Tryz.prog Γ 251 [.ptr b 0] m fun o m' => o = .ret (.tup []) ∧ m' = m.set b (.var 328 [.ptr b 0, u]) := by
 refine ⟨by kernel_rfl, fun G B0 mF w cargs hD hR hL => ?_⟩
 obtain ⟨c1, r1, rfl, h1, hL⟩ := hL.cons_inv
 obtain rfl := hL.nil_inv
 cases h1
 have hb := zbl (f := mF) h
 obtain ⟨hB0, ⟨us, hw, hu⟩, hK⟩ := hR.var b 328 _ hb
 obtain ⟨x, us1, rfl, r1, hu⟩ := hu.cons_inv
 obtain ⟨y, us2, rfl, r2, hu⟩ := hu.cons_inv
 obtain rfl := hu.nil_inv
 rcases hp with rfl | rfl
 ·cases r1
  refine (Any.Builder_copyCheck_fresh Tryz.lays240 Tryz.Builder_X72_240 b w (by simp [World.cell?, hw]) (by simp [World.shape?, hw]; rfl) (by simp [World.frozen?, hw])).mono ?_
  rintro e w' ⟨rfl, rfl⟩
  have hst := hR.store hb (o := 0) (RelV.ptr (G := G) b 0)
  rw [← or_set] at hst
  exact ⟨G, _, .ret (.tup []), Gh.le.refl G, hD.set _ (hD.of_some h), hst, (Below.refl B0 w).setCell (p := ⟨b, 0, none⟩) hB0 _, .ret (.tup .nil), rfl, rfl⟩
 ·cases r1
  refine (Any.Builder_copyCheck_used Tryz.lays240 Tryz.Builder_X72_240 b w (by simp [World.cell?, hw])).mono ?_
  rintro e w' ⟨rfl, rfl⟩
  exact ⟨G, m, .ret (.tup []), Gh.le.refl G, hD, hR, Below.refl _ _, .ret (.tup .nil), rfl, (Store.set_eq m h).symm⟩
theorem string37 {Γ : Glob} (m : Store) (b : Nat) (p u : V) (l : List UInt8) (h : m b = some (.var 328 [p, u])) (hl : l.length ≤ 4096) (hu : (l = [] ∧ u = .sl [] [] .full) ∨ (l ≠ [] ∧ ∃ t k, m t = some (.tip 5 k) ∧ u = .sl (l.map by8) [] (.tip t k))) :
  zab Tryz.prog Γ 241 [.ptr b 0] m fun o m' => o = .ret (bs l) ∧ ∀ c x, m c = some x → (∀ l2 k, u ≠ .sl l2 [] (.tip c k)) → m' c = some x := by
 refine ⟨by kernel_rfl, fun G B0 mF w cargs hD hR hL => ?_⟩
 obtain ⟨c1, r1, rfl, h1, hL⟩ := hL.cons_inv
 obtain rfl := hL.nil_inv
 cases h1
 have hb := zbl (f := mF) h
 obtain ⟨hB0, ⟨us, hw, hus⟩, hK⟩ := hR.var b 328 _ hb
 obtain ⟨x, us1, rfl, r1, hus⟩ := hus.cons_inv
 obtain ⟨y, us2, rfl, r2, hus⟩ := hus.cons_inv
 obtain rfl := hus.nil_inv
 rcases hu with ⟨rfl, rfl⟩ | ⟨hne, t, k, ht, rfl⟩
 ·have hy : y = .slice none 0 0 := by
   cases r2 with
   | nil _ => rfl
   | sl q1 q2 q3 q4 q5 q6 => exact absurd rfl q6.2
  subst hy
  refine (Any.Builder_String_nil Tryz.lays169 Tryz.Builder_Extra_169 w.heap.size b x w hw).mono ?_
  rintro e w' ⟨rfl, hB⟩
  exact ⟨G, m, .ret (bs []), Gh.le.refl G, hD, hR.below hB, hB.mono hR.base, .ret (.val rfl), rfl, fun c x hc _ => hc⟩
 ·have hy : ∃ (a : Addr) (cap : Nat), y = .slice (some a) l.length cap ∧ l.length ≤ cap ∧ G.has a (l.map fun b => Value.int .u8 b.toNat) ∧ G.H t k = some (a.block, a.off + l.length, a.off + cap) := by
   obtain ⟨c, r, rfl⟩ : ∃ c r, l = c :: r := by
    cases l with
    | nil => exact absurd rfl hne
    | cons c r => exact ⟨c, r, rfl⟩
   cases r2 with
   | @sl _ _ _ us a cap sz q1 q2 q3 q4 q5 q6 =>
    have hsz : sz = 1 := (q1 (by8 c) (by simp)).symm
    subst hsz
    have hfl : flat ((c :: r).map by8 ++ []) = (c :: r).map by8 := by
     have : ∀ l : List UInt8, flat (l.map by8) = l.map by8 := by
      intro l
      induction l with
      | nil => rfl
      | cons b l ih => rw [List.map_cons, zaw, ih]; rfl
     rw [zdV, this]
    rw [hfl] at q2
    have hus := by8s_inv q2
    subst hus
    have q6' : G.H t k = some (a.block, a.off + ((c :: r).map by8).length * 1, a.off + cap * 1) := q6
    rw [zdW, Nat.mul_one, Nat.mul_one] at q6'
    exact ⟨a, cap, by rw [zdW], by simpa using q4, q3, q6'⟩
  obtain ⟨a, cap, rfl, hcap, hhas, hH⟩ := hy
  have htm := zbl (f := mF) ht
  obtain ⟨_, B, E, C, p1, p2, p3, p4, ⟨cs, fz, p5⟩, p6⟩ := hR.tip t 5 k htm
  rw [hH] at p1
  simp only [Option.some.injEq, Prod.mk.injEq] at p1
  obtain ⟨rfl, rfl, rfl⟩ := p1
  have hcell : ∀ j x, l[j]? = some x → w.cell? (a.add j) = some (.int .u8 x.toNat) := by
   intro j x hx
   have hk := hhas.2 j (.int .u8 x.toNat) (by simp [hx])
   have := hR.K _ _ _ hk
   rw [add_plain hhas.1]
   exact this
  have hsz : a.off + l.length ≤ cs.size := by
   have hl0 : 0 < l.length := by cases l with | nil => exact absurd rfl hne | cons _ _ => simp
   have := hcell (l.length - 1) l[l.length - 1] (by simp [hl0])
   rw [add_plain hhas.1] at this
   simp only [World.cell?, p5] at this
   have h2 := (Array.getElem?_eq_some_iff.1 this).1
   omega
  refine (builderString_at Tryz.lays169 Tryz.Builder_Extra_169 b x a cap cs.size l w hw hne hcap (by omega) (by simp [World.shape?, p5]; rfl) hsz hcell).mono ?_
  rintro e w' ⟨rfl, rfl⟩
  have hfz := hR.drew.freeze htm (a := a) (n := l.length) hH
  have hor : (fun c => if c = t then none else (m.or mF) c) = Store.or (fun c => if c = t then none else m c) mF := by
   funext c
   by_cases e : c = t
   ·subst e
    have := hD.of_some ht
    simp [Store.or, this]
   ·simp [Store.or, e]
  rw [hor] at hfz
  refine ⟨G, _, .ret (bs l), Gh.le.refl G, fun c => ?_, hfz, Lib.below_freeze (Below.drew (Below.refl B0 w)) p2 _, .ret (.val rfl), rfl, fun c x hc hk => ?_⟩
  ·rcases hD c with h | h
   ·left
    by_cases e : c = t
    ·simp [e]
    ·simp [e, h]
   ·exact .inr h
  ·have : c ≠ t := by rintro rfl; exact hk _ _ rfl
   simp [this, hc]
theorem libOk {Γ : Glob} : LibOk Γ where
 clone := clone41
 copyCheck := copy48
 string := string37
 indexByte := fun m s c _ => index38 m s c
end Go.Av.Fn
/- Numerals read, written small ones; texts cut at a blank. Condition: what two variables hold. -/
namespace Go.Av.Fn
set_option linter.unusedSimpArgs false
set_option linter.unusedVariables false
set_option maxRecDepth 10000
open Go.Proofs Go.RowKit
def powV : List V := Lib.pow10Tab.map fun z => .val (.int .u64 z)
/-! ### Cut at a blank -/
section
variable {Γ : Glob} {m : Store}
theorem c1 : ((1 : Nat) : Int) = 1 := rfl
theorem c3 : ((3 : Nat) : Int) = 3 := rfl
end
end Go.Av.Fn
/- A command's text read, and written: what the program tells. Conditions: the library's functions; numbers are written (FmtAt) where they are. -/
namespace Go.Av.Fn
set_option linter.unusedSimpArgs false
set_option linter.unusedVariables false
set_option maxRecDepth 10000
open Go.Proofs
structure Env2 (Γ : Glob) : Prop where
 env : Env Γ
 range : ∃ T v, Γ 5 = some [.ifc T v]
 syn : ∃ T v, Γ 4 = some [.ifc T v]
section
variable {Γ : Glob} {m : Store}
end
end Go.Av.Fn
/- A command's text read: all of it. Conditions as ahead. -/
namespace Go.Av
end Go.Av
namespace Go.Av.Fn
set_option linter.unusedSimpArgs false
set_option linter.unusedVariables false
set_option maxRecDepth 10000
open Go.Proofs
section
variable {Γ : Glob} {m : Store}
end
end Go.Av.Fn
/- A command's text written; the document's examples. Conditions as ahead. -/
namespace Go.Av.Fn
set_option linter.unusedSimpArgs false
set_option linter.unusedVariables false
set_option maxRecDepth 100000
open Go.Proofs
theorem bs_add {P : Program} {T : TypeId} {xo yo : Operand} {x y : List UInt8} (h : x.length + y.length ≤ 9223372036854775807) : binV P .add T .other xo yo (bs x) (bs y) = some (bs (x ++ y)) := bin_badd h
section
variable {Γ : Glob} {m : Store}
end
end Go.Av.Fn
/- The program tells the document's examples. No condition. -/
namespace Go.Av.Fn
set_option linter.unusedSimpArgs false
set_option linter.unusedVariables false
set_option maxRecDepth 10000
open Go.Proofs
end Go.Av.Fn
/- A command's text read, reckoned. No condition. -/
namespace Go.Av.Fn
set_option linter.unusedSimpArgs false
set_option linter.unusedVariables false
set_option maxRecDepth 100000
open Go.Proofs
section
variable {Γ : Glob} {m : Store}
end
def getC (s : List UInt8) (a : Nat) (e : Int) : (Int × Int × List UInt8) × Nat × Int :=
 let k := rInt s a e
 let n := rInt s k.2.1 k.2.2
 let t := zaG s n.2.1 n.2.2 255
 (if t.2.2 ≠ 0 then (0, 0, []) else (k.1, n.1, t.1), t.2.1, t.2.2)
def cmdT (c : Int × Int × List UInt8) : V := cmdV c.1 c.2.1 c.2.2
def putC (k n : Int) (s : List UInt8) : List UInt8 := Lib.uvarint (Lib.zigzag k) ++ Lib.uvarint (Lib.zigzag n) ++ (Lib.uvarint (Lib.zigzag s.length) ++ s)
section
variable {Γ : Glob} {m : Store} {rb a : Nat} {s : List UInt8} {e : Int}
theorem get_ok (L : LibOk Γ) (hr : m rb = some (rdB s a e)) (ha : a ≤ s.length) (hs : s.length ≤ 281474976710656) :
  zab Tryz.prog Γ 23 [.ptr rb 0] m fun o m' => o = .ret (cmdT (getC s a e).1) ∧ m' = m.set rb (rdB s (getC s a e).2.1 (getC s a e).2.2) := by
 refine zab.less (A := fun o m' => o = .ret (cmdT (getC s a e).1) ∧ SubS (m.set rb (rdB s (getC s a e).2.1 (getC s a e).2.2)) m') ?_ fun o m' h => ⟨_, h.2, h.1, rfl⟩
 refine zal mixed F23_ok (by rintro v m b x _ ⟨⟨⟩, _⟩) ?_
 unfold getC
 obtain ⟨k, a1, e1, h1⟩ : ∃ k a1 e1, rInt s a e = (k, a1, e1) := ⟨_, _, _, rfl⟩
 have l1 := zaQ (e := e) ha
 rw [h1] at l1
 obtain ⟨n, a2, e2, h2⟩ : ∃ n a2 e2, rInt s a1 e1 = (n, a2, e2) := ⟨_, _, _, rfl⟩
 have l2 := zaQ (e := e1) l1
 rw [h2] at l2
 obtain ⟨t, a3, e3, h3⟩ : ∃ t a3 e3, zaG s a2 e2 255 = (t, a3, e3) := ⟨_, _, _, rfl⟩
 simp only at l1 l2
 simp only [h1, h2, h3]
 simp only [F23, ss0, zdB, zdx]
 simp only [ssS, zdx, zdv, reduceIte, zdw]
 refine zdd fun b2 hb2 => ?_
 have hn2 := za0 hr hb2
 simp only [ssS, zdx, zdv, reduceIte, zdw]
 refine callS_to (wInt_ok (a := a) (e := e) (s := s) (by rw [Store.set_ne _ _ hn2]; exact hr) ha (by omega)) ?_
 simp only [h1, ssS, zdx, zdv, reduceIte, zdw]
 refine zdd fun b3 hb3 => ?_
 have hn3 : rb ≠ b3 := za0 (Store.set_same _ _ _) hb3
 have h23 : b2 ≠ b3 := za0 (by rw [Store.set_ne _ _ hn2.symm, Store.set_same]) hb3
 simp only [Store.set_same, Store.set_set, ssS, zdx, zdv, reduceIte, zdw]
 refine callS_to (wInt_ok (a := a1) (e := e1) (s := s) (by rw [Store.set_ne _ _ hn3, Store.set_same]) l1 (by omega)) ?_
 simp only [h2, Store.set_same, Store.set_set, Store.set_ne _ _ hn3.symm, ssS, zdx, zdv, reduceIte, zdw]
 refine callS_to (wText_ok L 255 (a := a2) (e := e2) (s := s) (by rw [Store.set_ne _ _ hn3, Store.set_same]) l2 hs) ?_
 simp only [h3, Store.set_same, Store.set_set, Store.set_ne _ _ hn3.symm, ssS, zdx, zdv, reduceIte, zdw]
 refine zaB (wErr_ok (a := a3) (e := e3) (s := s) (by rw [Store.set_ne _ _ hn3, Store.set_same])) ?_
 have hfin : ∀ (M : Store), M rb = some (rdB s a3 e3) → (∀ c x, m c = some x → c ≠ rb → c ≠ b2 → c ≠ b3 → M c = some x) → ∀ x, SubS (m.set rb (rdB s a3 e3)) (M.set b2 x) := by
  intro M hM hs2 x c y hc
  by_cases h1 : c = rb
  ·subst h1
   rw [Store.set_same] at hc
   cases hc
   rw [Store.set_ne _ _ hn2]
   exact hM
  ·rw [Store.set_ne _ _ h1] at hc
   have h2 : c ≠ b2 := za0 hc hb2
   rw [Store.set_ne _ _ h2]
   refine hs2 c y hc h1 h2 ?_
   rintro rfl
   rw [Store.set_ne _ _ hn3.symm, Store.set_ne _ _ h23.symm, hc] at hb3
   cases hb3
 cases he : (e3 != 0)
 ·have h0 : e3 = 0 := by simpa using he
  subst h0
  simp only [show ((0 : Int) != 0) = false from rfl, Store.set_same, Store.set_set, Store.set_ne _ _ hn3.symm, Store.set_ne _ _ h23, Store.set_ne _ _ hn2.symm, ssS, zdx, zdv, reduceIte, zdw]
  refine zak ((resV_cell (b := b2) rfl (Store.set_same _ _ _)).trans rfl) ⟨?_, hfin _ ?_ ?_ _⟩
  ·simp only [ne_eq, not_true_eq_false, if_false, cmdT, cmdV]
   rfl
  ·first
    | exact Store.set_same _ _ _
    | (rw [Store.set_ne _ _ hn3, Store.set_same])
  ·intro c x hc k1 k2 k3
   simp only [Store.set_ne _ _ k1, Store.set_ne _ _ k2, Store.set_ne _ _ k3]
   exact hc
 ·have h0 : e3 ≠ 0 := by simpa using he
  simp only [he, Store.set_same, Store.set_set, Store.set_ne _ _ hn3.symm, Store.set_ne _ _ h23, Store.set_ne _ _ hn2.symm, ssS, zdx, zdv, reduceIte, zdw]
  refine zak ((resV_cell (b := b2) rfl (Store.set_same _ _ _)).trans rfl) ⟨?_, hfin _ ?_ ?_ _⟩
  ·simp only [ne_eq, h0, not_false_eq_true, if_true, cmdT, cmdV]
   rfl
  ·first
    | exact Store.set_same _ _ _
    | (rw [Store.set_ne _ _ hn3, Store.set_same])
  ·intro c x hc k1 k2 k3
   simp only [Store.set_ne _ _ k1, Store.set_ne _ _ k2, Store.set_ne _ _ k3]
   exact hc
theorem put_ok {m' : Store} {v : V} {l t : List UInt8} {k n : Int} (h : BufI 5 1 m m' v (l.map by8)) (hk : Av.I64 k) (hn : Av.I64 n) (hl : l.length + t.length + 100 ≤ 140737488355328) (hl2 : l.length + 100 < 1099511627776) :
  zab Tryz.prog Γ 25 [v, cmdV k n t] m' fun o m2 => ∃ v2, o = .ret v2 ∧ Buf 5 1 m m2 v2 ((l ++ putC k n t).map by8) := by
 refine zab.less (A := fun o m2 => ∃ v2 M, o = .ret v2 ∧ SubS M m2 ∧ Buf 5 1 m M v2 ((l ++ putC k n t).map by8)) ?_ fun o m' ⟨v2, M, h1, h2, h3⟩ => ⟨M, h2, v2, h1, h3⟩
 refine zal mixed F25_ok (by rintro v m b x _ ⟨_, _, ⟨⟩, _⟩) ?_
 simp only [F25, cmdV, ss0, zdB, zdx]
 simp only [ssS, zdx, zdv, reduceIte, zdw]
 refine zdd fun b3 hb3 => ?_
 have hm3 : m b3 = none := by
  cases hc : m b3 with
  | none => rfl
  | some x => rw [h.sub _ _ hc] at hb3; cases hb3
 have z1 := Lib.uvarint_length64 (Av.zigzag_u64 hk)
 have z2 := Lib.uvarint_length64 (Av.zigzag_u64 hn)
 simp only [Store.set_same, ssS, zdx, zdv, reduceIte, zdw]
 refine callS_of (zcM (h.add (x := .var 24 [it k, it n, bs t]) hb3) hk (by omega)) ?_ (by rintro v m' ⟨_, ⟨⟩, _⟩)
 rintro v2 m2 ⟨_, ⟨⟩, hB⟩
 have hb2 := hB.sub b3 _ (Store.set_same _ _ _)
 simp only [zb4, zb5, zcx, hb2, ssS, zdx, zdv, reduceIte, zdw]
 refine callS_of (zcM (.inl hB) hn (by simp; omega)) ?_ (by rintro v m' ⟨_, ⟨⟩, _⟩)
 rintro v3 m3 ⟨_, ⟨⟩, hB3⟩
 have hb3' := hB3.sub b3 _ (Store.set_same _ _ _)
 simp only [zb4, zb5, zcx, hb3', ssS, zdx, zdv, reduceIte, zdw]
 refine callS_of (putText_ok hB3 (by simp; omega) (by simp; omega)) ?_ (by rintro v m' ⟨_, ⟨⟩, _⟩)
 rintro v4 m4 ⟨_, ⟨⟩, hB4⟩
 simp only [ssS, zdx, zdv, reduceIte, zdw]
 obtain ⟨q1, M, q2, q3, q4⟩ := hB4.del hm3
 refine zak zas ⟨v4, M, rfl, ?_, ?_⟩
 ·intro c x hc
  have hne : c ≠ b3 := by rintro rfl; rw [q3] at hc; cases hc
  have := congrArg (fun f : Store => f c) (q4 (.var 24 []))
  simp only [Store.set_ne _ _ hne] at this
  rw [this]
  exact hc
 ·simp only [putC, zdK] at q2 ⊢
  exact q2
end
end Go.Av.Fn
/- Commands put are got as they were: plain laws. No condition. -/
namespace Go.Av.Fn
set_option linter.unusedSimpArgs false
set_option linter.unusedVariables false
open Go.Lib
theorem drop_mid {α : Type} (a b : List α) : (a ++ b).drop a.length = b := by simp
theorem rInt_put {n : Int} (h : Av.I64 n) (a r : List UInt8) : rInt (a ++ (uvarint (zigzag n) ++ r)) a.length 0 = (n, a.length + (uvarint (zigzag n)).length, 0) := by
 unfold rInt
 rw [drop_mid, Av.numL_put h r]
 simp
theorem countL_put {n : Nat} (h : Av.I64 n) (r : List UInt8) (most : Int) (hm : 0 ≤ most) : zao (uvarint (zigzag n) ++ r) most = if (n : Int) > most then (0, 0, 5) else ((n : Int), (uvarint (zigzag n)).length, 0) := by
 unfold zao
 rw [Av.numL_put h r]
 simp only [ne_eq, not_true_eq_false, if_false]
 rw [if_neg (by omega), Int.max_eq_right hm]
theorem textL_put {s : List UInt8} (hs : s.length < 9223372036854775808) (r : List UInt8) (most : Nat) :
  textL (uvarint (zigzag s.length) ++ (s ++ r)) most = if s.length > most then ([], 0, 5) else (s, (uvarint (zigzag s.length)).length + s.length, 0) := by
 have hi : Av.I64 (s.length : Int) := by unfold Av.I64; omega
 unfold textL
 rw [countL_put hi _ _ (by omega)]
 by_cases h : s.length > most
 ·have h' : (s.length : Int) > (most : Int) := by omega
  rw [if_pos h', if_pos h]
  simp
 ·have h' : ¬ (s.length : Int) > (most : Int) := by omega
  rw [if_neg h', if_neg h]
  simp only [ne_eq, not_true_eq_false, if_false]
  have hc : ¬ (s.length : Int) > ((uvarint (zigzag s.length) ++ (s ++ r)).length : Int) - ((uvarint (zigzag s.length)).length : Int) := by
   simp only [zdE]
   omega
  rw [if_neg hc]
  simp
theorem rText_put {s : List UInt8} (hs : s.length < 9223372036854775808) (a r : List UInt8) (most : Nat) :
  zaG (a ++ (uvarint (zigzag s.length) ++ (s ++ r))) a.length 0 most = if s.length > most then ([], a.length, 5) else (s, a.length + ((uvarint (zigzag s.length)).length + s.length), 0) := by
 unfold zaG
 rw [drop_mid, textL_put hs]
 by_cases h : s.length > most
 ·simp [h]
 ·simp [h]
theorem ite255 {α : Type} {n : Nat} (h : n ≤ 255) (x y : α) : (if n > 255 then x else y) = y := if_neg (by omega)
theorem getC_put {k n : Int} {s : List UInt8} (hk : Av.I64 k) (hn : Av.I64 n) (hs : s.length ≤ 255) (a r : List UInt8) : getC (a ++ (putC k n s ++ r)) a.length 0 = ((k, n, s), a.length + (putC k n s).length, 0) := by
 unfold getC putC
 have e1 : a ++ (uvarint (zigzag k) ++ uvarint (zigzag n) ++ (uvarint (zigzag s.length) ++ s) ++ r) = a ++ (uvarint (zigzag k) ++ (uvarint (zigzag n) ++ (uvarint (zigzag s.length) ++ (s ++ r)))) := by simp
 rw [e1, rInt_put hk]
 have e2 : a ++ (uvarint (zigzag k) ++ (uvarint (zigzag n) ++ (uvarint (zigzag s.length) ++ (s ++ r)))) = (a ++ uvarint (zigzag k)) ++ (uvarint (zigzag n) ++ (uvarint (zigzag s.length) ++ (s ++ r))) := by simp
 have l2 : a.length + (uvarint (zigzag k)).length = (a ++ uvarint (zigzag k)).length := by simp
 simp only
 rw [e2, l2, rInt_put hn]
 have e3 : (a ++ uvarint (zigzag k)) ++ (uvarint (zigzag n) ++ (uvarint (zigzag s.length) ++ (s ++ r))) = (a ++ uvarint (zigzag k) ++ uvarint (zigzag n)) ++ (uvarint (zigzag s.length) ++ (s ++ r)) := by simp
 have l3 : (a ++ uvarint (zigzag k)).length + (uvarint (zigzag n)).length = (a ++ uvarint (zigzag k) ++ uvarint (zigzag n)).length := by simp [Nat.add_assoc]
 simp only
 rw [e3, l3]
 have := rText_put (s := s) (by omega) (a ++ uvarint (zigzag k) ++ uvarint (zigzag n)) r 255
 rw [show ((255 : Nat) : Int) = 255 from rfl] at this
 rw [this, ite255 hs]
 simp
 omega
end Go.Av.Fn
/- Commands that are put are got as they were: the statement's function. Conditions as ahead. -/
namespace Go.Av.Fn
set_option linter.unusedSimpArgs false
set_option linter.unusedVariables false
set_option maxRecDepth 10000
open Go.Proofs
theorem zay {k : Nat} {s : List UInt8} {a : Nat} {e : Int} : nbB k (rdB s a e) := by
 unfold rdB
 simp only [nbS]
theorem nb_cmdT {k : Nat} (c : Int × Int × List UInt8) : nb k (cmdT c) := by
 unfold cmdT cmdV
 simp only [nbS]
theorem putC_len {k n : Int} {t : List UInt8} (hk : Av.I64 k) (hn : Av.I64 n) (ht : t.length < 9223372036854775808) : (putC k n t).length ≤ t.length + 30 := by
 have z1 := Lib.uvarint_length64 (Av.zigzag_u64 hk)
 have z2 := Lib.uvarint_length64 (Av.zigzag_u64 hn)
 have z3 := Lib.uvarint_length64 (Av.zigzag_u64 (n := (t.length : Int)) (by unfold Av.I64; omega))
 simp only [putC, zdE]
 omega
end Go.Av.Fn
/- What a rule leaves is an end of what it read; the document's reader of tokens, in plain terms. No condition. -/
namespace Go.Av.Fn
set_option linter.unusedSimpArgs false
set_option linter.unusedVariables false
def restP : PR → List Tk
 | .ok _ l => l
 | .st l => l
def Sfx (l : List Tk) (r : Option PR) : Prop := ∀ p, r = some p → restP p <:+ l
theorem Sfx.mono {l l' : List Tk} {r : Option PR} (h : Sfx l r) (hl : l <:+ l') : Sfx l' r := fun p hp => (h p hp).trans hl
/-! ### The document's reader -/
end Go.Av.Fn
/- The small steps of the document's reader: what they do. No condition. -/
namespace Go.Av
theorem acalls_lk {P : Program} {Γ : Glob} {f : FuncId} {args : List V} {m : Store} {rb : Nat} {X : Blk} {v : V} (hr : m rb = some X) (h : zab P Γ f args m fun o m' => ∃ v' Y, o = .ret v' ∧ m' = m.set rb Y ∧ (v' = v ∧ Y = X)) : zab P Γ f args m fun o m' => o = .ret v ∧ m' = m := by
  refine h.mono ?_
  rintro o m' ⟨v', Y, rfl, rfl, rfl, rfl⟩
  exact ⟨rfl, Store.set_eq m hr⟩
end Go.Av
namespace Go.Av.Fn
set_option linter.unusedSimpArgs false
set_option linter.unusedVariables false
set_option maxRecDepth 10000
open Go.Proofs
section
variable {Γ : Glob} {m : Store} {rb : Nat} {L l : List Tk} {t : Tk} {s : List UInt8} {b : Bool}
end
end Go.Av.Fn
/- Functions of a cell whose answer is told without its slices' ends. No condition. -/
namespace Go.Av
set_option linter.unusedSimpArgs false
set_option linter.unusedVariables false
section
variable {P : Program} {Γ : Glob} {H : Nat → List (Nat × List Nat) × List Nat} {f : FuncId} {F : AFn} {gs : List Nat} {m : Store}
end
end Go.Av
/- The document's table of signs. No condition. -/
namespace Go.Av.Fn
set_option linter.unusedSimpArgs false
set_option linter.unusedVariables false
set_option maxRecDepth 10000
open Go.Proofs
end Go.Av.Fn
/- The document's rule for what stands between signs. No condition. -/
namespace Go.Av.Fn
set_option linter.unusedSimpArgs false
set_option linter.unusedVariables false
set_option maxRecDepth 10000
open Go.Proofs
end Go.Av.Fn
/- The document's rule for rows of expressions. No condition. -/
namespace Go.Av.Fn
set_option linter.unusedSimpArgs false
set_option linter.unusedVariables false
set_option maxRecDepth 10000
open Go.Proofs
/-! ### Rows -/
section
variable {Γ : Glob} {m : Store} {rb n : Nat} {L l : List Tk} {t : Tk} {s : List UInt8} {one : Bool} {p : PR}
end
end Go.Av.Fn
/- The document's rule for single expressions. No condition. -/
namespace Go.Av.Fn
set_option linter.unusedSimpArgs false
set_option linter.unusedVariables false
set_option maxRecDepth 10000
open Go.Proofs
section
variable {Γ : Glob} {m : Store} {rb n : Nat} {L l : List Tk} {t : Tk} {s : List UInt8} {one : Bool} {p : PR}
end
end Go.Av.Fn
/- The document's rules all; how deep an expression is. No condition. -/
namespace Go.Av
section
variable {P : Program} {Γ : Glob} {Kp : V → Hl → Prop} {t : List V} {h : Hl}
end
end Go.Av
namespace Go.Av.Fn
set_option linter.unusedSimpArgs false
set_option linter.unusedVariables false
set_option maxRecDepth 10000
open Go.Proofs
end Go.Av.Fn
/- A text's expression by the document. No condition. -/
namespace Go.Av
section
variable {P : Program} {Γ : Glob} {H : Nat → List (Nat × List Nat) × List Nat} {f : FuncId} {F : AFn} {gs : List Nat} {m : Store}
end
end Go.Av
namespace Go.Av.Fn
set_option linter.unusedSimpArgs false
set_option linter.unusedVariables false
set_option maxRecDepth 10000
open Go.Proofs
end Go.Av.Fn
/- Commands printed are parsed as they were; what is parsed is printed as it stood: plain laws. No condition. -/
namespace Go.Av.Fn
set_option linter.unusedSimpArgs false
set_option linter.unusedVariables false
open Go.Lib
/-! ### Cuts -/
/-! ### Forms -/
/-! ### What is parsed -/
end Go.Av.Fn
/- A command that is printed is parsed as it was; what is parsed is printed as it stood: the statement's function, walked. Conditions as ahead; numbers are written. -/
namespace Go.Av.Fn
set_option linter.unusedSimpArgs false
set_option linter.unusedVariables false
set_option maxRecDepth 10000
open Go.Proofs
theorem fin6 {t : List V} {h : Hl} {i : Nat} (ht : tget t i = .val (.bool true)) : bodyH [ARes.tmp i] (fun v _ => nb 0 v ∧ v = .val (.bool true)) .ret ⟨t, h⟩ :=
 zae zas ⟨by rw [show (⟨t, lk h⟩ : St).t = t from rfl, ht]; exact .val _, ht⟩
end Go.Av.Fn
/- Whether a command fits its kind, by the document. No condition. -/
namespace Go.Av.Fn
set_option linter.unusedSimpArgs false
set_option linter.unusedVariables false
set_option maxRecDepth 10000
open Go.Proofs
section
variable {Γ : Glob} {m : Store}
end
end Go.Av.Fn
/- A number's digits by the document. No condition. -/
namespace Go.Av.Fn
set_option linter.unusedSimpArgs false
set_option linter.unusedVariables false
set_option maxRecDepth 10000
open Go.Proofs Go.Lib
end Go.Av.Fn
/- Whether a command is right by the document. No condition. -/
namespace Go.Av.Fn
set_option linter.unusedSimpArgs false
set_option linter.unusedVariables false
set_option maxRecDepth 10000
open Go.Proofs Go.Lib
section
variable {Γ : Glob} {m : Store}
end
section
variable {Γ : Glob} {m : Store}
end
end Go.Av.Fn
/- Any command is right or not, and has the text that the document says: the statement's function, walked. Conditions az ahead; numbers are written. -/
namespace Go.Av.Fn
set_option linter.unusedSimpArgs false
set_option linter.unusedVariables false
set_option maxRecDepth 10000
open Go.Proofs
end Go.Av.Fn
/- An entry's parts: clients, names. Conditions: az ahead. -/
namespace Go.Av.Fn
set_option linter.unusedSimpArgs false
set_option linter.unusedVariables false
set_option maxRecDepth 10000
open Go.Proofs
def clientB (n : Int) : Bool := decide (1 ≤ n) && decide (n ≤ 2147483647)
section
variable {Γ : Glob} {m : Store}
def nameB (s : List UInt8) : Bool := !(s == []) && decide (s.length ≤ 20) && !(dig (s.headD 0)) && !(wordsB.contains s) && decide ((s.takeWhile fun b => let8 b || dig b).length = s.length)
end
section
variable {Γ : Glob} {m : Store}
end
structure Ent where
 c : Int
 q : Int
 k : Int
 n : Int
 s : List UInt8
 ck : Int
 cn : Int
 cs : List UInt8
 deriving DecidableEq
def entV (e : Ent) : V := .agg [it e.c, it e.q, it e.k, it e.n, bs e.s, it e.ck, it e.cn, bs e.cs]
def noCmd (e : Ent) : Bool := decide (e.ck = 0 ∧ e.cn = 0 ∧ e.cs = [])
def entB (e : Ent) : Bool := clientB e.c && clientB e.q &&
 (if e.k = 1 then nameB e.s && (e.n == 0 || e.n == 1) && noCmd e
 else if e.k = 4 then e.s == [] && clientB e.n && noCmd e
 else if e.k = 2 ∨ e.k = 3 ∨ e.k = 5 ∨ e.k = 6 then e.s == [] && e.n == 0 && noCmd e
 else if e.k = 7 then e.s == [] && e.n == 0 && rightB e.ck e.cn e.cs
 else false)
section
variable {Γ : Glob} {m : Store}
end
structure Lg where
 b : Int
 c : List UInt8
 l : List Ent
def zb3 (nn : Bool) (l : List Ent) : V := .sl (l.map entV) [] (if nn then .non else .full)
def lgV (nn : Bool) (x : Lg) : V := .agg [it x.b, bs x.c, zb3 nn x.l]
def lgB (x : Lg) : Bool := decide (0 ≤ x.b) && decide (x.b ≤ 2147483647) && decide (x.c.length ≤ 65536) && ((x.c == []) == (x.b == 0)) && decide (x.l.length ≤ 64) && decide ((x.l.length : Int) ≤ 2147483647 - x.b) && x.l.all entB
theorem zbW {k : Nat} (e : Ent) : nb k (entV e) := by simp only [entV, nbS]
theorem zbc {k : Nat} (nn : Bool) (l : List Ent) : nb k (zb3 nn l) := by
 cases nn <;> simp only [zb3, zd0, if_false, if_true, nbS] <;> exact nbs_map zbW l
theorem nb_lgV {k : Nat} (nn : Bool) (x : Lg) : nb k (lgV nn x) := by
 have := zbc (k := k) nn x.l
 simp only [lgV, this, nbS]
theorem idx_ent {l : List Ent} {more : List V} {tok : Tok} {i : Nat} {e : Ent} (h : l[i]? = some e) : idxLV 8 (.sl (l.map entV) more tok) (it i) = some (.elt [it e.c, it e.q, it e.k, it e.n, bs e.s, it e.ck, it e.cn, bs e.cs]) := idxLV_nat (e := entV e) (by rw [List.getElem?_map, h]; rfl) rfl
section
variable {Γ : Glob} {m : Store}
end
section
variable {Γ : Glob} {m : Store}
end
end Go.Av.Fn
/- Functions that are handed a closure that holds variables' pointers. No condition. -/
namespace Go.Av
set_option linter.unusedSimpArgs false
set_option linter.unusedVariables false
def tokN : List V → Tok → Tok
 | [], .full => .full
 | [], t => if zcw t then .no else .non
 | _ :: _, _ => .non
mutual
def wN : V → V
 | .agg cs => .agg (wNs cs)
 | .tup cs => .tup (wNs cs)
 | .sl es more t => .sl (wNs es) (wNs more) (tokN es t)
 | v => v
def wNs : List V → List V
 | [] => []
 | v :: l => wN v :: wNs l
end
theorem wNs_append : ∀ (a b : List V), wNs (a ++ b) = wNs a ++ wNs b
 | [], b => rfl
 | v :: l, b => by rw [zdY, wNs, wNs_append l b]; rfl
theorem zcI : ∀ l : List V, (wNs l).length = l.length
 | [] => rfl
 | v :: l => by rw [wNs, zdF, zcI l]; rfl
theorem wNs_map {α : Type} {f : α → V} (h : ∀ x, wN (f x) = f x) : ∀ l : List α, wNs (l.map f) = l.map f
 | [] => rfl
 | x :: l => by rw [List.map_cons, wNs, h, wNs_map h l]
theorem wN_cells (v : V) : (wN v).cells = wNs v.cells := by
 cases v <;> rfl
theorem flat_wNs : ∀ l : List V, flat (wNs l) = wNs (flat l)
 | [] => rfl
 | v :: l => by rw [wNs, zaw, zaw, wNs_append, wN_cells, flat_wNs l]
theorem wNs_mem : ∀ {l : List V} {e : V}, e ∈ wNs l → ∃ x ∈ l, e = wN x
 | v :: l, e, h => by
  rw [wNs] at h
  rcases List.mem_cons.1 h with rfl | h
  ·exact ⟨v, zdG .., rfl⟩
  ·obtain ⟨x, hx, rfl⟩ := wNs_mem h
   exact ⟨x, zdI _ hx, rfl⟩
theorem tokN_ok {G : Gh} {es : List V} {t : Tok} {a : Addr} {cap s : Nat} (h : G.tokOk t a es.length cap s) : G.tokOk (tokN es t) a es.length cap s := by
 cases es with
 | cons x l => trivial
 | nil =>
  cases t with
  | full => exact absurd rfl h.2
  | _ => simp only [tokN]; split <;> trivial
theorem tokN_nil {t : Tok} (h : zcw t = true) : zcw (tokN [] t) = true := by
 cases t <;> first | rfl | cases h | (simp only [tokN, h, if_true]; rfl)
mutual
theorem RelV.wN {G : Gh} : ∀ {v : V} {u : Value}, RelV G v u → RelV G (wN v) u
 | _, _, .val h => .val h
 | _, _, .ptr b o => .ptr b o
 | _, _, .elt h k => .elt h k
 | _, _, .nil h => by
  simp only [Av.wN, wNs]
  exact .nil (tokN_nil h)
 | _, _, .arr a b c d => .arr a b c d
 | _, _, .res a b c => .res a b c
 | _, _, .sl (es := es) (more := more) a b c d e f => by
  simp only [Av.wN]
  have hb := RelL.wN b
  rw [← flat_wNs, wNs_append] at hb
  have h8 := tokN_ok f
  rw [← zcI es] at h8 ⊢
  refine .sl (fun x hx => ?_) hb c (by rw [zcI, zcI]; exact d) e h8
  rw [← wNs_append] at hx
  obtain ⟨y, hy, rfl⟩ := wNs_mem hx
  rw [wN_cells, zcI]
  exact a y hy
 | _, _, .fn h k => .fn h k
 | _, _, .ifc h => .ifc h
 | _, _, .agg h => by
  simp only [Av.wN]
  exact .agg (RelL.wN h)
 | _, _, .tup h => by
  simp only [Av.wN]
  exact .tup (RelL.wN h)
theorem RelL.wN {G : Gh} : ∀ {v : List V} {u : List Value}, RelL G v u → RelL G (wNs v) u
 | _, _, .nil => .nil
 | _, _, .cons a b => .cons (RelV.wN a) (RelL.wN b)
end
theorem tokN_vr {R : Ren} {es es' : List V} {k k' : Tok} (a : LR R es es') (c : TokR R k k') : TokR R (tokN es k) (tokN es' k') := by
 cases a with
 | cons _ _ => trivial
 | nil =>
  have hn := nilTok_vr c
  cases k <;> cases k' <;> first | exact c.elim | trivial | (simp only [tokN, hn]; split <;> trivial)
mutual
theorem VR.wN {R : Ren} : ∀ {v v' : V}, VR R v v' → VR R (wN v) (wN v')
 | _, _, .val v => .val v
 | _, _, .ptr o r => .ptr o r
 | _, _, .elt r => .elt r
 | _, _, .sl a b c => by
  simp only [Av.wN]
  exact .sl (LR.wN a) (LR.wN b) (tokN_vr a c)
 | _, _, .fn h a b => .fn h a b
 | _, _, .ifc r => .ifc r
 | _, _, .agg r => by
  simp only [Av.wN]
  exact .agg (LR.wN r)
 | _, _, .tup r => by
  simp only [Av.wN]
  exact .tup (LR.wN r)
 | _, _, .arr o l c r => .arr o l c r
 | _, _, .res v z n r => .res v z n r
theorem LR.wN {R : Ren} : ∀ {v v' : List V}, LR R v v' → LR R (wNs v) (wNs v')
 | _, _, .nil => .nil
 | _, _, .cons a b => .cons (VR.wN a) (LR.wN b)
end
theorem zab.wnd {P : Program} {Γ : Glob} {f : FuncId} {args : List V} {m : Store} {R R' : Out → Store → Prop} (h : zab P Γ f args m R) (hr : ∀ v m', R (.ret v) m' → R' (.ret (Av.wN v)) m') (hp : ∀ v m', R (.pan v) m' → R' (.pan v) m') : zab P Γ f args m R' := by
 refine ⟨h.1, fun G B0 mF w cargs hD hR hL => (h.2 G B0 mF w cargs hD hR hL).mono ?_⟩
 rintro e w' ⟨G', m', o, a, b, c, d, r, s⟩
 cases o with
 | ret v =>
  cases r with
  | ret r => exact ⟨G', m', .ret (Av.wN v), a, b, c, d, .ret r.wN, hr _ _ s⟩
 | pan v => exact ⟨G', m', .pan v, a, b, c, d, r, hp _ _ s⟩
section
variable {P : Program} {Γ : Glob} {H : Nat → List (Nat × List Nat) × List Nat} {f : FuncId} {F : AFn} {gs : List Nat}
def hdrop (h : Hl) : List Nat → Hl
 | [] => h
 | b :: bs => hdrop (hset h b none) bs
section
variable {Γ : Glob} {Kp : V → Hl → Prop} {l : List Item} {K : HS → Prop} {t : List V} {h : Hl} {d : Option Tmp} {s : List (Tmp × Option (Tmp × Bool) × AOp)} {g : FuncId} {first args caps : List V}
end
end
end Go.Av
/- Entries copied; what is done with a right log. Conditions: az ahead. -/
namespace Go.Av.Fn
set_option linter.unusedSimpArgs false
set_option linter.unusedVariables false
set_option maxRecDepth 10000
open Go.Proofs
theorem wN_entV (e : Ent) : wN (entV e) = entV e := by simp only [entV, wN, wNs]; rfl
theorem wNs_ents (l : List Ent) : wNs (l.map entV) = l.map entV := wNs_map wN_entV l
theorem wN_some {l : List Ent} {t : Tok} (h : l ≠ [] ∨ zcw t = false) : wN (.sl (l.map entV) [] t) = zb3 true l := by
 simp only [wN, wNs_ents, zb3, if_true]
 cases l with
 | nil =>
  have ht : zcw t = false := by simpa using h
  have e2 : tokN [] t = .non := by
   cases t with
   | no => cases ht
   | full => cases ht
   | zero b => cases b <;> first | rfl | cases ht
   | _ => rfl
  simp only [List.map_nil, wNs, e2]
 | cons e l => rfl
theorem szOk_ents (l : List Ent) : szOk 8 (l.map entV) = true := by
 simp only [szOk, List.all_map, List.all_eq_true]
 intro x _
 rfl
section
variable {Γ : Glob} {m : Store}
end
def logB (nn : Bool) (x : Lg) : Blk := .var 56 [it x.b, bs x.c, zb3 nn x.l]
theorem oneV_ents {nn : Bool} {l : List Ent} : oneV (zb3 nn l) = true := (rfl)
section
variable {Γ : Glob} {m : Store}
end
section
variable {Γ : Glob} {m : Store}
end
def lg0 : Lg := ⟨0, [], []⟩
section
variable {Γ : Glob} {m : Store}
end
theorem nbB_one {k : Nat} {A : Blk} {r : Hl} (hA : nbB k A) : ∀ a < 1, ∀ x, lk (some A :: r) a = some x → nbB k x := by
 intro a ha x hx
 have : a = 0 := by omega
 subst this
 cases hx
 exact hA
section
variable {Γ : Glob} {m : Store}
end
end Go.Av.Fn
/- Entries compared; rows of them. Conditions: az ahead. -/
namespace Go.Av
set_option linter.unusedSimpArgs false
set_option linter.unusedVariables false
section
variable {P : Program}
def eqF2 (P : Program) (T0 : TypeId) (xs ys : Array Value) : List Field → Option Bool
 | [] => some true
 | f :: fs => if f.name = "_" then eqF2 P T0 xs ys fs else match zam P (part f.type xs f.offset), zam P (part f.type ys f.offset) with
  | some a, some b => match (match a, b with | .agg az', .agg bs' => if f.type = T0 then eqF P az' bs' (P.fieldsOf T0).toList else none | a, b => eqField P f.type a b), eqF2 P T0 xs ys fs with
   | some r, some q => some (r && q)
   | _, _ => none
  | _, _ => none
theorem eqF2_sound {T0 : TypeId} (ht : P.underlying T0 = some (.struct (P.fieldsOf T0))) (hp : P.stoodInHeld T0 = false) {xs ys : Array Value} {d : Nat} : ∀ {fs : List Field} {r : Bool}, eqF2 P T0 xs ys fs = some r → zam P (Op.eqFields (d + 1 + 1) xs ys fs) = some r
 | [], r, h => by
  simp only [eqF2, Option.some.injEq] at h
  subst h
  rfl
 | f :: fs, r, h => by
  simp only [eqF2] at h
  split at h
  ·rename_i hn
   simp only [Op.eqFields, hn, ne_eq, not_true_eq_false, if_false]
   exact eqF2_sound ht hp h
  ·rename_i hn
   split at h
   ·rename_i a b ha hb
    split at h
    ·rename_i q1 q2 h1 h2
     simp only [Option.some.injEq] at h
     subst h
     have key : zam P (Op.equalIn (d + 1 + 1) f.type a b) = some q1 := by
      split at h1
      ·split at h1
       ·rename_i e
        rw [e, zbR _ _ _ _ ht hp]
        exact eqF_sound h1
       ·cases h1
      ·exact eqField_sound h1
     simp only [Op.eqFields, ne_eq, hn, not_false_eq_true, if_true, zau, ha, hb, zdR, key]
     cases q1
     ·rfl
     ·simpa using eqF2_sound ht hp h2
    ·cases h
   ·cases h
theorem struct_eq2 {T T0 : TypeId} {xo yo : Operand} {cs cs' : List V} {xs ys : List Value} {r : Bool} (ht : P.underlying T = some (.struct (P.fieldsOf T))) (hp : P.stoodInHeld T = false) (hg : P.eqGuardType P.depth T = false)
  (ht0 : P.underlying T0 = some (.struct (P.fieldsOf T0))) (hp0 : P.stoodInHeld T0 = false)
  (h1 : raws cs = some xs) (h2 : raws cs' = some ys) (he : eqF2 P T0 xs.toArray ys.toArray (P.fieldsOf T).toList = some r) :
  binV P .eql T .other xo yo (.agg cs) (.agg cs') = some (.val (.bool r)) ∧ binV P .neq T .other xo yo (.agg cs) (.agg cs') = some (.val (.bool !r)) := by
 have e0 : zam P (Op.equal T (.agg xs.toArray) (.agg ys.toArray)) = some r := by
  show zam P (Op.equalIn (9997 + 1 + 1 + 1) T _ _) = some r
  rw [zbR _ _ _ _ ht hp]
  exact eqF2_sound ht0 hp0 he
 have g : ∀ op, zam P (eqGuard op T xo yo (.agg xs.toArray) (.agg ys.toArray)) = some () := by
  intro op
  unfold eqGuard
  split <;> simp only [Bool.not_true, Bool.not_false, zd0, if_false, if_true, zau, zcH, zdR, hg, zaW]
 have r1 : raw (.agg cs) = some (.agg xs.toArray) := by simp only [raw, h1, Option.map_some]
 have r2 : raw (.agg cs') = some (.agg ys.toArray) := by simp only [raw, h2, Option.map_some]
 refine ⟨?_, ?_⟩
 ·simp only [binV, zbs, zav, Bool.false_and, Bool.and_false, Bool.or_false, zd0, if_false, r1, r2, isSliceC, binOp, zau, g, zdR, e0, zaW]
  rfl
 ·simp only [binV, zbs, zav, Bool.false_and, Bool.and_false, Bool.or_false, zd0, if_false, r1, r2, isSliceC, binOp, zau, g, zdR, e0, zaW]
  rfl
end
end Go.Av
namespace Go.Av.Fn
set_option linter.unusedSimpArgs false
set_option linter.unusedVariables false
set_option maxRecDepth 10000
open Go.Proofs
theorem ent_cmp (xo yo : Operand) (a b : Ent) : binV Tryz.prog .eql 60 .other xo yo (entV a) (entV b) = some (.val (.bool (decide (a = b)))) ∧ binV Tryz.prog .neq 60 .other xo yo (entV a) (entV b) = some (.val (.bool (!decide (a = b)))) := by
 obtain ⟨c, q, k, n, s, ck, cn, cs⟩ := a
 obtain ⟨c', q', k', n', s', ck', cn', cs'⟩ := b
 have h := struct_eq2 (P := Tryz.prog) (T := 60) (T0 := 24) (xo := xo) (yo := yo) (cs := [it c, it q, it k, it n, bs s, it ck, it cn, bs cs]) (cs' := [it c', it q', it k', it n', bs s', it ck', it cn', bs cs'])
  (xs := [.int .i64 c, .int .i64 q, .int .i64 k, .int .i64 n, .string ⟨s.toArray⟩, .int .i64 ck, .int .i64 cn, .string ⟨cs.toArray⟩]) (ys := [.int .i64 c', .int .i64 q', .int .i64 k', .int .i64 n', .string ⟨s'.toArray⟩, .int .i64 ck', .int .i64 cn', .string ⟨cs'.toArray⟩])
  (r := (c == c' && (q == q' && (k == k' && (n == n' && ((ByteArray.mk s.toArray).toList == (ByteArray.mk s'.toArray).toList && ((ck == ck' && (cn == cn' && ((ByteArray.mk cs.toArray).toList == (ByteArray.mk cs'.toArray).toList && true))) && true)))))))
  (by kernel_rfl) (by kernel_rfl) (by kernel_rfl) (by kernel_rfl) (by kernel_rfl) rfl rfl (by kernel_rfl)
 have e : (c == c' && (q == q' && (k == k' && (n == n' && ((ByteArray.mk s.toArray).toList == (ByteArray.mk s'.toArray).toList && ((ck == ck' && (cn == cn' && ((ByteArray.mk cs.toArray).toList == (ByteArray.mk cs'.toArray).toList && true))) && true)))))) = decide ((⟨c, q, k, n, s, ck, cn, cs⟩ : Ent) = ⟨c', q', k', n', s', ck', cn', cs'⟩) := by
  simp only [zdc]
  rw [Bool.eq_iff_iff]
  simp [and_assoc]
 rw [e] at h
 exact h
theorem relNo {G : Gh} {es more : List V} {tok : Tok} {u : Value} (h : RelV G (.sl es more tok) u) : RelV G (.sl es more .no) u := by
 cases h with
 | nil h => exact .nil rfl
 | sl a b c d e f => exact .sl a b c d e trivial
theorem acalls_weak {P : Program} {Γ : Glob} {f : FuncId} {args args' : List V} {m : Store} {R : Out → Store → Prop} (h : ∀ G cargs, RelL G args cargs → RelL G args' cargs) (hc : zab P Γ f args' m R) : zab P Γ f args m R :=
 ⟨hc.1, fun G B0 mF w cargs hD hR hL => hc.2 G B0 mF w cargs hD hR (h G cargs hL)⟩
section
variable {Γ : Glob} {m : Store}
theorem pSameE_ok (nn : Bool) {t : Tok} (la lb : List Ent) (ht : nbT 0 t) (hl : la.length < 4611686018427387904) :
  zab Tryz.prog Γ 40 [.sl (la.map entV) [] t, zb3 nn lb] m fun o m' => o = .ret (.val (.bool (decide (la = lb)))) ∧ m' = m := by
 have hnb := zbc (k := 0) nn lb
 have hna := nbs_map (k := 0) zbW la
 refine zaN (zaO mixed F40_ok F40_h zaA (by simp only [hnb, hna, ht, nbS]) ?_)
 simp only [F40, ss0, zdB, zdx]
 simp only [zb3, zdW, ssH, zdx, zdv, reduceIte, zdw, zdA, zdy, zdz]
 by_cases h0 : la.length = lb.length
 case neg =>
  have hb : ((la.length : Int) != (lb.length : Int)) = true := by simp; omega
  simp only [hb, ssH, zdx, zdv, reduceIte, zdw, zdA, zdy, zdz]
  exact zae zas ⟨(by simp only [zaf, zah, nbS]), by rw [decide_eq_false (by rintro rfl; exact h0 rfl)]; rfl⟩
 have hb : ((la.length : Int) != (lb.length : Int)) = false := by simp; omega
 simp only [hb, ssH, zdx, zdv, reduceIte, zdw, zdA, zdy, zdz]
 refine h_loop [0, 1, 5] 26 (fun n vs h => ∃ i : Nat, vs = [.sl (la.map entV) [] t, zb3 nn lb, it i] ∧ i + n = la.length + 1 ∧ i ≤ la.length ∧ la.take i = lb.take i) (la.length + 1) (by decide) (by decide) (zdQ 0) (zaV rfl (zd1 _) (by decide) (by simp) (by show nbs 0 [.sl (la.map entV) [] t, zb3 nn lb, it 0]; simp only [hnb, hna, ht, nbS]) (fun a ha => by omega) ⟨0, rfl, by omega, by omega, by simp⟩) ?_
 rintro n t1 h J hJ hlt ⟨i, hv, hn, hi, hpre⟩
 simp only [List.map, List.cons.injEq, and_true] at hv
 obtain ⟨h0', h1, h5⟩ := hv
 rw [t_eq hlt]
 simp only [zaY, upTo, h0', h1, h5, zb3, zdW, ssH, zdx, zdv, reduceIte, zdw, zdA, zdy, zdz]
 by_cases hil : i < la.length
 ·rw [show decide ((i : Int) < (la.length : Int)) = true by simp; omega]
  have hx : la[i]? = some la[i] := zdL hil
  have hy : lb[i]? = some (lb[i]'(by omega)) := zdL (by omega)
  generalize la[i] = a at hx
  generalize (lb[i]'(by omega)) = b at hy
  have hc := (ent_cmp (.tmp 20) (.tmp 24) a b).2
  simp only [entV] at hc
  simp only [idx_ent hx, idx_ent hy, hc, ssH, zdx, zdv, reduceIte, zdw, zdA, zdy, zdz]
  by_cases he : a = b
  ·simp only [decide_eq_true he, Bool.not_true, zbb (show i < 4611686018427387904 by omega), ssH, zdx, zdv, reduceIte, zdw, zdA, zdy, zdz]
   refine ⟨_, hJ (n - 1) (zdQ 0) _ (by omega) (zaV rfl (zd1 _) (by decide) (by simp) (by show nbs 0 [.sl (la.map entV) [] t, zb3 nn lb, it (i + 1 : Nat)]; simp only [hnb, hna, ht, nbS]) (fun a ha => by omega) ⟨i + 1, rfl, by omega, by omega, by rw [List.take_add_one, List.take_add_one, hx, hy, hpre, he]⟩)⟩
  ·simp only [decide_eq_false he, Bool.not_false, ssH, zdx, zdv, reduceIte, zdw, zdA, zdy, zdz]
   refine zae zas ⟨(by simp only [zaf, zah, nbS]), ?_⟩
   rw [decide_eq_false]
   ·rfl
   ·rintro rfl
    rw [hx] at hy
    exact he (Option.some.inj hy)
 ·rw [show decide ((i : Int) < (la.length : Int)) = false by simp; omega]
  simp only [ssH, zdx, zdv, reduceIte, zdw, zdA, zdy, zdz]
  refine zae zas ⟨(by simp only [zaf, zah, nbS]), ?_⟩
  rw [List.take_of_length_le (by omega), List.take_of_length_le (by omega)] at hpre
  rw [decide_eq_true hpre]
  rfl
theorem pSameE_any (nn : Bool) {t : Tok} (la lb : List Ent) (hl : la.length < 4611686018427387904) :
  zab Tryz.prog Γ 40 [.sl (la.map entV) [] t, zb3 nn lb] m fun o m' => o = .ret (.val (.bool (decide (la = lb)))) ∧ m' = m := by
 refine acalls_weak (fun G cargs h => ?_) (pSameE_ok nn (t := .no) la lb trivial hl)
 cases h with
 | cons a b => exact .cons (relNo a) b
end
/-! ### Entries between two numbers -/
def entsN (l : List Ent) : V := zb3 (!l.isEmpty) l
theorem entsN_nil {l : List Ent} : (!l.isEmpty) = true ∨ l = [] := by cases l <;> simp
def zEnt : List V := [.val (.int .i64 0), .val (.int .i64 0), .val (.int .i64 0), .val (.int .i64 0), .val (.string (ByteArray.mk #[])), .val (.int .i64 0), .val (.int .i64 0), .val (.string (ByteArray.mk #[]))]
def litE (v : V) : Option V := (litsV 8 [.agg zEnt] [(0, v)]).map fun es => .sl es [] .full
theorem litE_eq {Γ : Glob} {t : List V} {m : Store} {x : Nat} : zac Tryz.prog (ev Γ t) m (.lits 8 [.val (.int .i64 0), .val (.int .i64 0), .val (.int .i64 0), .val (.int .i64 0), .val (.string (ByteArray.mk #[])), .val (.int .i64 0), .val (.int .i64 0), .val (.string (ByteArray.mk #[]))] 1 [(0, .tmp x)]) = litE (tget t x) := by
 rw [← ev_tmp (Γ := Γ)]
 rfl
theorem litE_ent (e : Ent) : litE (.agg [it e.c, it e.q, it e.k, it e.n, bs e.s, it e.ck, it e.cn, bs e.cs]) = some (.sl [entV e] [] .full) := rfl
section
variable {Γ : Glob} {m : Store}
end
end Go.Av.Fn
/- What is asked of logs: the program's answers, and the document's. Conditions: az ahead. -/
namespace Go.Av
end Go.Av
namespace Go.Av.Fn
set_option linter.unusedSimpArgs false
set_option linter.unusedVariables false
set_option maxRecDepth 10000
open Go.Proofs
def e0 : Ent := ⟨0, 0, 0, 0, [], 0, 0, []⟩
section
variable {Γ : Glob} {m : Store}
theorem rSame_ok (a b : Bool) (x : Lg) (hl : x.l.length ≤ 2000000) : zab Tryz.prog Γ 41 [lgV a x, lgV b x] m fun o m' => o = .ret (.val (.bool true)) ∧ m' = m := by
 have hna := nb_lgV (k := 0) a x
 have hnb := nb_lgV (k := 0) b x
 have hla := zbc (k := 0) a x.l
 have hlb := zbc (k := 0) b x.l
 refine zaN (zaO mixed F41_ok F41_h zaA (by simp only [hna, hnb, nbS]) ?_)
 simp only [F41, lgV, ss0, zdB, zdx]
 simp only [zaa, beq_self_eq_true, ssH, zdx, zdv, reduceIte, zdw, zdA, zdy, zdz]
 refine zad (v := .val (.bool true)) (by intro m; have := pSameE_any (Γ := Γ) (m := m) b (t := if a then .non else .full) x.l x.l (by omega); rw [decide_eq_true rfl] at this; exact this) (by simp only [hla, hlb, nbS]) (by first | exact LR.nil | simp only [nbS]) ?_
 simp only [ssH, zdx, zdv, reduceIte, zdw, zdA, zdy, zdz]
 exact fin6 rfl
end
end Go.Av.Fn
/- The document's examples of logs, reckoned. No condition. -/
namespace Go.Av.Fn
set_option linter.unusedSimpArgs false
set_option linter.unusedVariables false
set_option maxRecDepth 100000
open Go.Proofs
def G20 : Glob := fun _ => none
def tab20 : List (Nat × AFn) := [(30, F30), (32, F32), (34, F34), (36, F36), (38, F38), (42, F42), (44, F44), (46, F46), (74, F74), (75, F75), (76, F76), (77, F77), (78, F78), (79, F79), (82, F82), (83, F83), (85, F85), (86, F86), (88, F88), (89, F89), (117, F117), (84, F84), (118, F118), (48, F48)]
theorem tab20_ok : TabOk Tryz.prog G20 tab20 :=
 (.cons ⟨_, F30_ok⟩ (by kernel_rfl) (.cons ⟨_, F32_ok⟩ (by kernel_rfl) (.cons ⟨_, F34_ok⟩ (by kernel_rfl) (.cons ⟨_, F36_ok⟩ (by kernel_rfl) (.cons ⟨_, F38_ok⟩ (by kernel_rfl) (.cons ⟨_, F42_ok⟩ (by kernel_rfl) (.cons ⟨_, F44_ok⟩ (by kernel_rfl) (.cons ⟨_, F46_ok⟩ (by kernel_rfl) (.cons ⟨_, F74_ok⟩ (by kernel_rfl) (.cons ⟨_, F75_ok⟩ (by kernel_rfl) (.cons ⟨_, F76_ok⟩ (by kernel_rfl) (.cons ⟨_, F77_ok⟩ (by kernel_rfl) (.cons ⟨_, F78_ok⟩ (by kernel_rfl) (.cons ⟨_, F79_ok⟩ (by kernel_rfl) (.cons ⟨_, F82_ok⟩ (by kernel_rfl) (.cons ⟨_, F83_ok⟩ (by kernel_rfl) (.cons ⟨_, F85_ok⟩ (by kernel_rfl) (.cons ⟨_, F86_ok⟩ (by kernel_rfl) (.cons ⟨_, F88_ok⟩ (by kernel_rfl) (.cons ⟨_, F89_ok⟩ (by kernel_rfl) (.cons ⟨_, F117_ok⟩ (by kernel_rfl) (.cons ⟨_, F84_ok⟩ (by kernel_rfl) (.cons ⟨_, F118_ok⟩ (by kernel_rfl) (.cons ⟨_, F48_ok⟩ (by kernel_rfl) TabOk.nil))))))))))))))))))))))))
theorem lives20_ok {Γ : Glob} {m : Store} : zab Tryz.prog Γ 30 [] m fun o m' => o = .ret (.val (.bool true)) ∧ m' = m :=
 acalls_true (Γ0 := G20) (N := 1000) (n := 30) mixed (by intro g cs h; cases h) tab20_ok .nil (by kernel_rfl)
end Go.Av.Fn
/- What is above a number, and what is up to it, are together all entries: the law. Conditions: az ahead. -/
namespace Go.Av.Fn
set_option linter.unusedSimpArgs false
set_option linter.unusedVariables false
set_option maxRecDepth 10000
open Go.Proofs
theorem len_ents {nn : Bool} {l : List Ent} : lenV false (zb3 nn l) = some (it l.length) := by
 simp only [zb3, zbp, zdW]
section
variable {Γ : Glob} {m : Store}
end
section
variable {Γ : Glob} {m : Store}
end
section
variable {Γ : Glob} {m : Store}
end
def lgN (x : Lg) : V := lgV (!x.l.isEmpty) x
theorem nb_lgN {k : Nat} {x : Lg} : nb k (lgN x) := nb_lgV _ _
section
variable {Γ : Glob} {m : Store}
end
end Go.Av.Fn
/- A log appended to: the document. Conditions: az ahead. -/
namespace Go.Av
section
variable {P : Program} {Γ : Glob} {H : Nat → List (Nat × List Nat) × List Nat} {f : FuncId} {F : AFn} {gs : List Nat} {m : Store}
end
section
variable {P : Program} {Γ : Glob} {Kp : V → Hl → Prop} {N : Nat} {l : List Item} {K : HS → Prop} {t : List V} {h : Hl} {d : Option Tmp} {s : List (Tmp × Option (Tmp × Bool) × AOp)} {g : FuncId} {first args caps : List V}
end
end Go.Av
namespace Go.Av.Fn
set_option linter.unusedSimpArgs false
set_option linter.unusedVariables false
set_option maxRecDepth 10000
open Go.Proofs
section
variable {Γ : Glob} {m : Store}
end
section
variable {Γ : Glob} {m : Store}
end
end Go.Av.Fn
/- Numbers and texts az bytes, by the document. No condition. -/
namespace Go.Av.Fn
set_option linter.unusedSimpArgs false
set_option linter.unusedVariables false
set_option maxRecDepth 10000
open Go.Proofs Go.Lib
def Bg (out : List UInt8) (tok : Tok) (r : Hl) : Prop := tok = .full ∧ out = [] ∧ r = [] ∨ ∃ k, tok = .tip 0 k ∧ out ≠ [] ∧ r = [some (.tip 5 k)]
theorem bg_blk {out : List UInt8} {tok : Tok} {r : Hl} (h : Bg out tok r) : ∀ a < r.length, ∀ x, lk r a = some x → nbB r.length x := by
 intro a ha x hx
 rcases h with ⟨rfl, rfl, rfl⟩ | ⟨k, rfl, _, rfl⟩
 ·simp at ha
 ·have : a = 0 := by simp at ha; omega
  subst this
  cases hx
  simp only [nbS]
theorem bg_app {P : Program} {Γ : Glob} {Kp : V → Hl → Prop} {s : List (Tmp × Option (Tmp × Bool) × AOp)} {l : List Item} {K : HS → Prop} {t : List V} {d : Option Tmp} {out : List UInt8} {tok : Tok} {r : Hl} {b : UInt8} (h : Bg out tok r) (hb : out.length ≤ 1099511627776)
  (hr : ∀ k, hth P Γ Kp s l K (hput t [some (.tip 5 k)] d (some (.sl ((out ++ [b]).map by8) [] (.tip 0 k))))) : happS P Γ Kp 5 1 1 (.sl (out.map by8) [] tok) (.sl [by8 b] [] .full) d s l K t r := by
 rw [zd8] at hr
 rcases h with ⟨rfl, rfl, rfl⟩ | ⟨k, rfl, h0, rfl⟩
 ·exact happ_full (ys := [by8 b]) rfl (by simp) (by simp) rfl rfl (by simp) (hr 0)
 ·exact happ_tip (j := 0) (k := k) (x := .sl [by8 b] [] .full) (ys := [by8 b]) rfl (by simp) (by simpa using h0) rfl (za8 out) rfl (by simp; omega) (hr (k + 1))
section
variable {Γ : Glob} {m : Store}
theorem zFold_ok {n : Int} (h : Av.I64 n) : zab Tryz.prog Γ 115 [it n] m fun o m' => o = .ret (.val (.int .u64 (zigzag n))) ∧ m' = m := by
 obtain ⟨h1, h2⟩ := h
 refine zaN (zaO mixed F115_ok F115_h zaA (by first | exact LR.nil | simp only [nbS]) ?_)
 simp only [F115, ss0, zdB, zdx]
 simp only [ssH, zdx, zdv, reduceIte, zdw, zdA, zdy, zdz]
 by_cases hn : n < 0
 ·have w1 : IntKind.i64.wrap (n + 1) = n + 1 := wrap_i64 (by omega) (by omega)
  have w2 : IntKind.i64.wrap (0 - (n + 1)) = 0 - (n + 1) := wrap_i64 (by omega) (by omega)
  simp only [decide_eq_true hn, w1, w2, zaI, conv_i64_u64, ssH, zdx, zdv, reduceIte, zdw, zdA, zdy, zdz]
  refine zae zas ⟨(by simp only [zaf, zah, nbS]), ?_⟩
  simp only [zaf, zah]
  congr 2
  unfold zigzag
  rw [if_neg (by omega), IntKind.wrap_u64, IntKind.wrap_u64, IntKind.wrap_u64]
  omega
 ·simp only [decide_eq_false hn, zaI, conv_i64_u64, ssH, zdx, zdv, reduceIte, zdw, zdA, zdy, zdz]
  refine zae zas ⟨(by simp only [zaf, zah, nbS]), ?_⟩
  simp only [zaf, zah]
  congr 2
  unfold zigzag
  rw [if_pos (by omega), IntKind.wrap_u64, IntKind.wrap_u64]
  omega
theorem zUnfold_ok {u : Nat} (h : u < 18446744073709551616) : zab Tryz.prog Γ 132 [.val (.int .u64 u)] m fun o m' => o = .ret (it (unzigzag u)) ∧ m' = m := by
 refine zaN (zaO mixed F132_ok F132_h zaA (by first | exact LR.nil | simp only [nbS]) ?_)
 simp only [F132, ss0, zdB, zdx]
 have e1 : ((u : Int)).tmod 2 = ((u % 2 : Nat) : Int) := by rw [Int.tmod_eq_emod_of_nonneg (by omega)]; omega
 have e2 : IntKind.u64.wrap (((u : Int)).tdiv 2) = ((u / 2 : Nat) : Int) := by
  rw [IntKind.wrap_u64, Int.tdiv_eq_ediv_of_nonneg (by omega)]
  omega
 have e3 : IntKind.i64.wrap ((u / 2 : Nat) : Int) = ((u / 2 : Nat) : Int) := wrap_i64 (by omega) (by omega)
 simp only [bin_rem (show (2 : Int) ≠ 0 by decide), bin_quo (show (2 : Int) ≠ 0 by decide), e1, e2, zaI, zcC, e3, ssH, zdx, zdv, reduceIte, zdw, zdA, zdy, zdz]
 by_cases hu : u % 2 = 1
 ·have hb : (((u % 2 : Nat) : Int) == 1) = true := by rw [hu]; rfl
  have w1 : IntKind.i64.wrap (0 - ((u / 2 : Nat) : Int)) = 0 - ((u / 2 : Nat) : Int) := wrap_i64 (by omega) (by omega)
  have w2 : IntKind.i64.wrap (0 - ((u / 2 : Nat) : Int) - 1) = 0 - ((u / 2 : Nat) : Int) - 1 := wrap_i64 (by omega) (by omega)
  simp only [hb, bin_quo (show (2 : Int) ≠ 0 by decide), e2, zaI, zcC, e3, w1, w2, ssH, zdx, zdv, reduceIte, zdw, zdA, zdy, zdz]
  refine zae zas ⟨(by simp only [zaf, zah, nbS]), ?_⟩
  simp only [zaf, zah]
  congr 2
  unfold unzigzag
  split <;> omega
 ·have hb : (((u % 2 : Nat) : Int) == 1) = false := by
   have : u % 2 = 0 := by omega
   rw [this]; rfl
  simp only [hb, bin_quo (show (2 : Int) ≠ 0 by decide), e2, zaI, zcC, e3, ssH, zdx, zdv, reduceIte, zdw, zdA, zdy, zdz]
  refine zae zas ⟨(by simp only [zaf, zah, nbS]), ?_⟩
  simp only [zaf, zah]
  congr 2
  unfold unzigzag
  split <;> omega
theorem zde {n : Int} (h : Av.I64 n) : zab Tryz.prog Γ 70 [it n] m fun o m' => o = .ret (bs (uvarint (zigzag n))) ∧ m' = m := by
 refine zaN (zaO mixed F70_ok F70_h zaA (by first | exact LR.nil | simp only [nbS]) ?_)
 simp only [F70, ss0, zdB, zdx]
 simp only [ssH, zdx, zdv, reduceIte, zdw, zdA, zdy, zdz]
 refine zad (by exact fun m => zFold_ok h) (by first | exact LR.nil | simp only [nbS]) (by first | exact LR.nil | simp only [nbS]) ?_
 simp only [ssH, zdx, zdv, reduceIte, zdw, zdA, zdy, zdz]
 have hlen10 := uvarint_length64 (zigzag_u64 h)
 refine h_loop [3, 4] 24 (fun j vs hh => ∃ (f : Nat) (out : List UInt8) (tok : Tok) (r : Hl), f = j ∧ vs = [.val (.int .u64 f), .sl (out.map by8) [] tok] ∧ hh = r ∧ Bg out tok r ∧ f < 18446744073709551616 ∧ out ++ uvarint f = uvarint (zigzag n)) (zigzag n) (by decide) (by decide) (zdQ 0) (zaV rfl (zd1 _) (by decide) (by simp) (by show nbs 0 [.val (.int .u64 (zigzag n)), .sl [] [] .full]; simp only [nbS]) (fun a ha => by omega) ⟨zigzag n, [], .full, [], rfl, rfl, rfl, .inl ⟨rfl, rfl, rfl⟩, zigzag_u64 h, rfl⟩) ?_
 rintro j t hh J hJ hl ⟨f, out, tok, r, rfl, hv, rfl, hb, hf, he⟩
 simp only [List.map, List.cons.injEq, and_true] at hv
 obtain ⟨h3, h4⟩ := hv
 have htot : out.length + (uvarint f).length = (uvarint (zigzag n)).length := by
  have := congrArg List.length he
  simpa using this
 rw [t_eq hl]
 simp only [zaY, upTo, h3, h4, ge_iff_le, ssH, zdx, zdv, reduceIte, zdw, zdA, zdy, zdz]
 by_cases hk : 128 ≤ f
 ·have hd : decide ((128 : Int) ≤ (f : Int)) = true := decide_eq_true (by omega)
  have e1 : ((f : Int)).tmod 128 = ((f % 128 : Nat) : Int) := by rw [Int.tmod_eq_emod_of_nonneg (by omega)]; omega
  have e2 : IntKind.u8.wrap ((f % 128 : Nat) : Int) = ((f % 128 : Nat) : Int) := by rw [IntKind.wrap_u8]; omega
  have e3 : IntKind.u8.wrap (((f % 128 : Nat) : Int) + 128) = ((f % 128 + 128 : Nat) : Int) := by rw [IntKind.wrap_u8]; omega
  have e4 : IntKind.u64.wrap (((f : Int)).tdiv 128) = ((f / 128 : Nat) : Int) := by rw [IntKind.wrap_u64, Int.tdiv_eq_ediv_of_nonneg (by omega)]; omega
  simp only [hd, bin_rem (show (128 : Int) ≠ 0 by decide), bin_quo (show (128 : Int) ≠ 0 by decide), e1, zaI, zdp, e2, e3, by8_big, eval_lit1, by8, litV1_val, ssH, zdx, zdv, reduceIte, zdw, zdA, zdy, zdz]
  refine bg_app (b := (f % 128 + 128).toUInt8) hb (by omega) fun k => ?_
  simp only [bin_quo (show (128 : Int) ≠ 0 by decide), e4, ssH, zdx, zdv, reduceIte, zdw, zdA, zdy, zdz]
  have hB : Bg (out ++ [(f % 128 + 128).toUInt8]) (.tip 0 k) [some (.tip 5 k)] := .inr ⟨k, rfl, by simp, rfl⟩
  refine ⟨_, hJ (f / 128) (zdQ 1) _ (by omega) (zaV rfl (Nat.zero_le _) (by decide) (by simp) (by show nbs 1 [.val (.int .u64 ((f / 128 : Nat) : Int)), .sl ((out ++ [(f % 128 + 128).toUInt8]).map by8) [] (.tip 0 k)]; simp only [nbS]; decide) (bg_blk hB) ⟨f / 128, _, _, _, rfl, rfl, rfl, hB, by omega, by rw [zdK, ← he, uvarint_big hk]; rfl⟩)⟩
 ·have hd : decide ((128 : Int) ≤ (f : Int)) = false := decide_eq_false (by omega)
  simp only [hd, zaI, zdp, by8_small (show f < 128 by omega), eval_lit1, by8, litV1_val, ssH, zdx, zdv, reduceIte, zdw, zdA, zdy, zdz]
  refine bg_app (b := f.toUInt8) hb (by omega) fun k => ?_
  have hfin : (out ++ [f.toUInt8]) = uvarint (zigzag n) := by rw [← he, uvarint_small (by omega)]
  rw [hfin]
  simp only [eval_b2s, b2s_bs, ssH, zdx, zdv, reduceIte, zdw, zdA, zdy, zdz]
  exact zae zas ⟨(by simp only [zaf, zah, nbS]), rfl⟩
end
def rdV (s : List UInt8) (a : Nat) (e : Int) : V := .agg [bs s, it a, it e]
theorem za3 {k : Nat} {s : List UInt8} {a : Nat} {e : Int} : nb k (rdV s a e) := by simp only [rdV, nbS]
def behN (s : List UInt8) (a : Nat) : Nat := if (Av.numL (s.drop a)).2.2 = 0 then a + (Av.numL (s.drop a)).2.1 else 0
section
variable {Γ : Glob} {m : Store}
theorem zText_ok (s : List UInt8) (hs : s.length < 4611686018427387904) : zab Tryz.prog Γ 71 [bs s] m fun o m' => o = .ret (bs (uvarint (zigzag s.length) ++ s)) ∧ m' = m := by
 refine zaN (zaO mixed F71_ok F71_h zaA (by first | exact LR.nil | simp only [nbS]) ?_)
 simp only [F71, ss0, zdB, zdx]
 have h64 : Av.I64 (s.length : Int) := ⟨by omega, by omega⟩
 have hlen := uvarint_length64 (zigzag_u64 h64)
 simp only [ssH, zdx, zdv, reduceIte, zdw, zdA, zdy, zdz]
 refine zad (by exact fun m => zde h64) (by first | exact LR.nil | simp only [nbS]) (by first | exact LR.nil | simp only [nbS]) ?_
 simp only [bs_add (show (uvarint (zigzag (s.length : Int))).length + s.length ≤ 9223372036854775807 by omega), ssH, zdx, zdv, reduceIte, zdw, zdA, zdy, zdz]
 exact zae zas ⟨(by simp only [zaf, zah, nbS]), rfl⟩
theorem zNumber_ok (s : List UInt8) (a : Nat) (ha : a ≤ s.length) (hl : s.length < 4611686018427387904) : zab Tryz.prog Γ 111 [bs s, it a] m fun o m' => o = .ret (.tup [it (Av.numL (s.drop a)).1, it (behN s a), it (Av.numL (s.drop a)).2.2]) ∧ m' = m := by
 refine zaN (zaO mixed F111_ok F111_h zaA (by first | exact LR.nil | simp only [nbS]) ?_)
 simp only [F111, ss0, zdB, zdx]
 simp only [ssH, zdx, zdv, reduceIte, zdw, zdA, zdy, zdz]
 have bad : ∀ (e : Int), Av.numL (s.drop a) = (0, 0, e) → e ≠ 0 → (V.tup [it 0, it 0, it e]) = .tup [it (Av.numL (s.drop a)).1, it (behN s a), it (Av.numL (s.drop a)).2.2] := by
  intro e h1 h2
  unfold behN
  rw [h1]
  simp only [if_neg h2]
  rfl
 refine h_loop [0, 1, 7, 8] 53 (fun k vs h => ∃ i f : Nat, k = 10 - i ∧ vs = [bs s, it a, .val (.int .u64 f), it i] ∧ i ≤ 9 ∧ f < 2 ^ (7 * i) ∧ a + i ≤ s.length ∧ Av.numGo i f (s.drop (a + i)) = Av.numL (s.drop a)) 10 (by decide) (by decide) (zdQ 0) (zaV rfl (zd1 _) (by decide) (by simp) (by show nbs 0 [bs s, it a, .val (.int .u64 0), it 0]; simp only [nbS]) (fun a ha => by omega) ⟨0, 0, rfl, rfl, by omega, by decide, by omega, rfl⟩) ?_
 rintro k t h J hJ hlt ⟨i, f, hk, hv, hi, hf, hil, hgo⟩
 simp only [List.map, List.cons.injEq, and_true] at hv
 obtain ⟨g0, g1, g7, g8⟩ := hv
 rw [t_eq hlt]
 have hwa : IntKind.i64.wrap ((a : Int) + (i : Int)) = ((a + i : Nat) : Int) := by rw [wrap_i64 (by omega) (by omega)]; omega
 simp only [zaY, upTo, g0, g1, g7, g8, show decide ((i : Int) < 10) = true from decide_eq_true (by omega), hwa, ge_iff_le, ssH, zdx, zdv, reduceIte, zdw, zdA, zdy, zdz]
 by_cases hend : s.length ≤ a + i
 ·simp only [show decide ((s.length : Int) ≤ ((a + i : Nat) : Int)) = true from decide_eq_true (by omega), ssH, zdx, zdv, reduceIte, zdw, zdA, zdy, zdz]
  exact zae zar ⟨(by simp only [zaf, zah, nbS]), bad 3 (by rw [← hgo, List.drop_eq_nil_of_le hend]; rfl) (by decide)⟩
 have hlt2 : a + i < s.length := by omega
 obtain ⟨c, hcs⟩ : ∃ c, s[a + i] = c := ⟨_, rfl⟩
 have hx : s[a + i]? = some c := by rw [zdL hlt2, hcs]
 have hdrop : s.drop (a + i) = c :: s.drop (a + (i + 1)) := by rw [List.drop_eq_getElem_cons hlt2, hcs, Nat.add_assoc]
 have hc : c.toNat < 256 := c.toNat_lt
 have hw7 : IntKind.i64.wrap (7 * (i : Int)) = ((7 * i : Nat) : Int) := by
  rw [wrap_i64 (by omega) (by omega)]
  omega
 have hm128 : ((c.toNat : Int)).tmod 128 = ((c.toNat % 128 : Nat) : Int) := by rw [Int.tmod_eq_emod_of_nonneg (by omega)]; omega
 have hw127 : IntKind.u64.wrap ((c.toNat % 128 : Nat) : Int) = ((c.toNat % 128 : Nat) : Int) := by
  rw [IntKind.wrap_u64]
  omega
 rw [hdrop] at hgo
 simp only [Av.numGo] at hgo
 simp only [show decide ((s.length : Int) ≤ ((a + i : Nat) : Int)) = false from decide_eq_false (by omega), hwa, idx_bs hx, by8, ssH, zdx, zdv, reduceIte, zdw, zdA, zdy, zdz]
 have main : ∀ (hc9 : i = 9 → c.toNat = 1), True := fun _ => trivial
 by_cases h9 : i = 9 ∧ c.toNat ≠ 1
 ·obtain ⟨rfl, hc1⟩ := h9
  have hb : (((c.toNat : Nat) : Int) != 1) = true := by simp; omega
  rw [if_pos ⟨rfl, hc1⟩] at hgo
  simp only [show (((9 : Nat) : Int) == 9) = true from rfl, hb, ssH, zdx, zdv, reduceIte, zdw, zdA, zdy, zdz]
  exact zae zar ⟨(by simp only [zaf, zah, nbS]), bad 4 hgo.symm (by decide)⟩
 rw [if_neg h9] at hgo
 have hc9 : i = 9 → c.toNat = 1 := fun e => Classical.byContradiction fun k => h9 ⟨e, k⟩
 have hlt64 := (Av.num_lt hi hc hc9 hf).1
 have hadd : IntKind.u64.wrap ((f : Int) + ((c.toNat % 128 * 2 ^ (7 * i) : Nat) : Int)) = ((f + c.toNat % 128 * 2 ^ (7 * i) : Nat) : Int) := by rw [IntKind.wrap_u64]; omega
 have step : ∀ (T : Nat × (Operand → Operand → Nat)), True := fun _ => trivial
 have e9 : ((i : Int) == 9) = decide (i = 9) := by rw [Bool.eq_iff_iff, beq_iff_eq, decide_eq_true_eq]; omega
 have hsk : (((c.toNat : Nat) : Int) != 1) = decide (c.toNat ≠ 1) := by rw [Bool.eq_iff_iff]; simp; omega
 have go : ∀ {b : Bool}, b = decide (i = 9) → (b = true → decide (c.toNat ≠ 1) = false) := by
  rintro b rfl hb
  have := hc9 (of_decide_eq_true hb)
  simp [this]
 cases hb9 : decide (i = 9)
 case' true => have hq := go rfl hb9
 all_goals
  simp only [e9, hb9, hsk, ssH, zdx, zdv, reduceIte, zdw, zdA, zdy, zdz]
 case' true => simp only [hq, ssH, zdx, zdv, reduceIte, zdw, zdA, zdy, zdz]
 all_goals
  simp only [bin_rem (show (128 : Int) ≠ 0 by decide), hm128, zaI, conv_u8_u64, hw127, hw7, bin_shl (show (0 : Int) ≤ ((7 * i : Nat) : Int) from Int.natCast_nonneg _), Av.num_shl hi hc hc9, hadd, ssH, zdx, zdv, reduceIte, zdw, zdA, zdy, zdz]
  by_cases h128 : c.toNat < 128
  ·simp only [show decide (((c.toNat : Nat) : Int) < 128) = true from decide_eq_true (by omega), gt_iff_lt, ssH, zdx, zdv, reduceIte, zdw, zdA, zdy, zdz]
   rw [if_neg (by omega)] at hgo
   by_cases h0 : c.toNat = 0 ∧ 0 < i
   ·rw [if_pos h0] at hgo
    simp only [show (((c.toNat : Nat) : Int) == 0) = true by simp; omega, show decide ((0 : Int) < (i : Int)) = true from decide_eq_true (by omega), ssH, zdx, zdv, reduceIte, zdw, zdA, zdy, zdz]
    exact zae zar ⟨(by simp only [zaf, zah, nbS]), bad 4 hgo.symm (by decide)⟩
   ·rw [if_neg h0] at hgo
    have hw1 : IntKind.i64.wrap (((a + i : Nat) : Int) + 1) = ((a + i + 1 : Nat) : Int) := by rw [wrap_i64 (by omega) (by omega)]; omega
    have hfin : (V.tup [it (unzigzag (f + c.toNat % 128 * 2 ^ (7 * i))), it ((a + i + 1 : Nat) : Int), it 0]) = .tup [it (Av.numL (s.drop a)).1, it (behN s a), it (Av.numL (s.drop a)).2.2] := by
     unfold behN
     rw [← hgo]
     simp only [if_true]
     rw [Nat.add_assoc]
    by_cases hz : c.toNat = 0
    ·have hi0 : i = 0 := by omega
     simp only [show (((c.toNat : Nat) : Int) == 0) = true by simp; omega, show decide ((0 : Int) < (i : Int)) = false from decide_eq_false (by omega), ssH, zdx, zdv, reduceIte, zdw, zdA, zdy, zdz]
     refine zad (by exact fun m => zUnfold_ok hlt64) (by first | exact LR.nil | simp only [nbS]) (by first | exact LR.nil | simp only [nbS]) ?_
     simp only [hwa, hw1, ssH, zdx, zdv, reduceIte, zdw, zdA, zdy, zdz]
     exact zae zar ⟨(by simp only [zaf, zah, nbS]), hfin⟩
    ·simp only [show (((c.toNat : Nat) : Int) == 0) = false by simp; omega, ssH, zdx, zdv, reduceIte, zdw, zdA, zdy, zdz]
     refine zad (by exact fun m => zUnfold_ok hlt64) (by first | exact LR.nil | simp only [nbS]) (by first | exact LR.nil | simp only [nbS]) ?_
     simp only [hwa, hw1, ssH, zdx, zdv, reduceIte, zdw, zdA, zdy, zdz]
     exact zae zar ⟨(by simp only [zaf, zah, nbS]), hfin⟩
  ·rw [if_pos (by omega)] at hgo
   simp only [show decide (((c.toNat : Nat) : Int) < 128) = false from decide_eq_false (by omega), zbb (show i < 4611686018427387904 by omega), ssH, zdx, zdv, reduceIte, zdw, zdA, zdy, zdz]
   have hi8 : i ≤ 8 := by
    rcases Nat.lt_or_ge i 9 with q | q
    ·omega
    ·have := hc9 (by omega)
     omega
   refine ⟨_, hJ (10 - (i + 1)) (zdQ 0) _ (by omega) (zaV rfl (zd1 _) (by decide) (by simp) (by show nbs 0 [bs s, it a, .val (.int .u64 ((f + c.toNat % 128 * 2 ^ (7 * i) : Nat) : Int)), it (i + 1 : Nat)]; simp only [nbS]) (fun a ha => by omega) ⟨i + 1, f + c.toNat % 128 * 2 ^ (7 * i), rfl, rfl, by omega, (Av.num_lt hi hc hc9 hf).2 hi8, by omega, hgo⟩)⟩
end
section
variable {Γ : Glob} {m : Store}
theorem zWrong_ok (s : List UInt8) (a : Nat) (e e2 : Int) : zab Tryz.prog Γ 112 [rdV s a e, it e2] m fun o m' => o = .ret (rdV s a e2) ∧ m' = m := by
 refine zaN (zaO mixed F112_ok F112_h zaA (by simp only [za3, nbS]) ?_)
 simp only [F112, rdV, ss0, zdB, zdx]
 simp only [zaa, ssH, zdx, zdv, reduceIte, zdw, zdA, zdy, zdz]
 exact zae (v := rdV s a e2) rfl ⟨za3, rfl⟩
theorem zRInt_ok (s : List UInt8) (a : Nat) (e : Int) (ha : a ≤ s.length) (hl : s.length < 4611686018427387904) : zab Tryz.prog Γ 66 [rdV s a e] m fun o m' => o = .ret (.tup [rdV s (rInt s a e).2.1 (rInt s a e).2.2, it (rInt s a e).1]) ∧ m' = m := by
 refine zaN (zaO mixed F66_ok F66_h zaA (by simp only [za3, nbS]) ?_)
 simp only [F66, rdV, ss0, zdB, zdx]
 simp only [zaa, ssH, zdx, zdv, reduceIte, zdw, zdA, zdy, zdz]
 have fin : ∀ (a' : Nat) (e' n : Int), rInt s a e = (n, a', e') → nb 0 (.tup [rdV s a' e', it n]) ∧ V.tup [rdV s a' e', it n] = .tup [rdV s (rInt s a e).2.1 (rInt s a e).2.2, it (rInt s a e).1] := by
  intro a' e' n h
  rw [h]
  exact ⟨by simp only [za3, nbS], rfl⟩
 cases he : (e != 0)
 ·have h0 : e = 0 := by simpa using he
  subst h0
  simp only [show ((0 : Int) != 0) = false from rfl, ssH, zdx, zdv, reduceIte, zdw, zdA, zdy, zdz]
  refine zad (by exact fun m => zNumber_ok s a ha hl) (by first | exact LR.nil | simp only [nbS]) (by first | exact LR.nil | simp only [nbS]) ?_
  cases h1 : ((Av.numL (s.drop a)).2.2 != 0)
  ·have h2 : (Av.numL (s.drop a)).2.2 = 0 := by simpa using h1
   simp only [h1, zaa, ssH, zdx, zdv, reduceIte, zdw, zdA, zdy, zdz]
   refine zae (v := .tup [rdV s (behN s a) 0, it (Av.numL (s.drop a)).1]) rfl (fin _ _ _ ?_)
   simp only [rInt, behN, h2, ne_eq, not_true_eq_false, if_false, if_true]
  ·have h2 : (Av.numL (s.drop a)).2.2 ≠ 0 := by simpa using h1
   simp only [h1, zaa, ssH, zdx, zdv, reduceIte, zdw, zdA, zdy, zdz]
   refine zad (by exact fun m => zWrong_ok s a 0 (Av.numL (s.drop a)).2.2) (by simp only [nbS]) za3 ?_
   simp only [rdV, zaa, ssH, zdx, zdv, reduceIte, zdw, zdA, zdy, zdz]
   refine zae (v := .tup [rdV s a (Av.numL (s.drop a)).2.2, it 0]) rfl (fin _ _ _ ?_)
   simp only [rInt, h2, ne_eq, not_true_eq_false, not_false_eq_true, if_false, if_true]
 ·have h0 : e ≠ 0 := by simpa using he
  simp only [he, zaa, ssH, zdx, zdv, reduceIte, zdw, zdA, zdy, zdz]
  refine zae (v := .tup [rdV s a e, it 0]) rfl (fin _ _ _ ?_)
  simp only [rInt, h0, ne_eq, not_false_eq_true, if_true]
theorem zRCount_ok (s : List UInt8) (a : Nat) (e most : Int) (ha : a ≤ s.length) (hl : s.length < 4611686018427387904) : zab Tryz.prog Γ 113 [rdV s a e, it most] m fun o m' => o = .ret (.tup [rdV s (zaz s a e most).2.1 (zaz s a e most).2.2, it (zaz s a e most).1]) ∧ m' = m := by
 refine zaN (zaO mixed F113_ok F113_h zaA (by simp only [za3, nbS]) ?_)
 simp only [F113, rdV, ss0, zdB, zdx]
 simp only [zaa, ssH, zdx, zdv, reduceIte, zdw, zdA, zdy, zdz]
 have fin : ∀ (a' : Nat) (e' n : Int), zaz s a e most = (n, a', e') → nb 0 (.tup [rdV s a' e', it n]) ∧ V.tup [rdV s a' e', it n] = .tup [rdV s (zaz s a e most).2.1 (zaz s a e most).2.2, it (zaz s a e most).1] := by
  intro a' e' n h
  rw [h]
  exact ⟨by simp only [za3, nbS], rfl⟩
 cases he : (e != 0)
 ·have h0 : e = 0 := by simpa using he
  subst h0
  simp only [show ((0 : Int) != 0) = false from rfl, ssH, zdx, zdv, reduceIte, zdw, zdA, zdy, zdz]
  refine zad (by exact fun m => zNumber_ok s a ha hl) (by first | exact LR.nil | simp only [nbS]) (by first | exact LR.nil | simp only [nbS]) ?_
  cases h1 : ((Av.numL (s.drop a)).2.2 != 0)
  ·have h2 : (Av.numL (s.drop a)).2.2 = 0 := by simpa using h1
   simp only [h1, zaa, ssH, zdx, zdv, reduceIte, zdw, zdA, zdy, zdz]
   by_cases h3 : (Av.numL (s.drop a)).1 < 0
   ·simp only [decide_eq_true h3, zaa, ssH, zdx, zdv, reduceIte, zdw, zdA, zdy, zdz]
    refine zad (by exact fun m => zWrong_ok s a 0 4) (by simp only [nbS]) za3 ?_
    simp only [rdV, zaa, ssH, zdx, zdv, reduceIte, zdw, zdA, zdy, zdz]
    refine zae (v := .tup [rdV s a 4, it 0]) rfl (fin _ _ _ ?_)
    simp only [zaz, zao, h2, h3, ne_eq, not_true_eq_false, if_false, if_true]
    rfl
   ·simp only [decide_eq_false h3, eval_mm, q_mm, mm_max, ssH, zdx, zdv, reduceIte, zdw, zdA, zdy, zdz]
    by_cases h4 : (Av.numL (s.drop a)).1 > max 0 most
    ·simp only [decide_eq_true h4, zaa, ssH, zdx, zdv, reduceIte, zdw, zdA, zdy, zdz]
     refine zad (by exact fun m => zWrong_ok s a 0 5) (by simp only [nbS]) za3 ?_
     simp only [rdV, zaa, ssH, zdx, zdv, reduceIte, zdw, zdA, zdy, zdz]
     refine zae (v := .tup [rdV s a 5, it 0]) rfl (fin _ _ _ ?_)
     simp only [zaz, zao, h2, ne_eq, not_true_eq_false, if_false, if_neg h3, if_pos h4]
     rfl
    ·simp only [decide_eq_false h4, zaa, ssH, zdx, zdv, reduceIte, zdw, zdA, zdy, zdz]
     refine zae (v := .tup [rdV s (behN s a) 0, it (Av.numL (s.drop a)).1]) rfl (fin _ _ _ ?_)
     simp only [zaz, zao, behN, h2, ne_eq, not_true_eq_false, if_false, if_true, if_neg h3, if_neg h4]
  ·have h2 : (Av.numL (s.drop a)).2.2 ≠ 0 := by simpa using h1
   simp only [h1, zaa, ssH, zdx, zdv, reduceIte, zdw, zdA, zdy, zdz]
   refine zad (by exact fun m => zWrong_ok s a 0 (Av.numL (s.drop a)).2.2) (by simp only [nbS]) za3 ?_
   simp only [rdV, zaa, ssH, zdx, zdv, reduceIte, zdw, zdA, zdy, zdz]
   refine zae (v := .tup [rdV s a (Av.numL (s.drop a)).2.2, it 0]) rfl (fin _ _ _ ?_)
   simp only [zaz, zao, h2, ne_eq, not_true_eq_false, not_false_eq_true, if_false, if_true]
 ·have h0 : e ≠ 0 := by simpa using he
  simp only [he, zaa, ssH, zdx, zdv, reduceIte, zdw, zdA, zdy, zdz]
  refine zae (v := .tup [rdV s a e, it 0]) rfl (fin _ _ _ ?_)
  simp only [zaz, h0, ne_eq, not_false_eq_true, if_true]
theorem zRText_ok (s : List UInt8) (a : Nat) (e most : Int) (ha : a ≤ s.length) (hl : s.length < 4611686018427387904) : zab Tryz.prog Γ 67 [rdV s a e, it most] m fun o m' => o = .ret (.tup [rdV s (zaG s a e most).2.1 (zaG s a e most).2.2, bs (zaG s a e most).1]) ∧ m' = m := by
 refine zaN (zaO mixed F67_ok F67_h zaA (by simp only [za3, nbS]) ?_)
 simp only [F67, rdV, ss0, zdB, zdx]
 simp only [zaa, ssH, zdx, zdv, reduceIte, zdw, zdA, zdy, zdz]
 have fin : ∀ (a' : Nat) (e' : Int) (t : List UInt8), zaG s a e most = (t, a', e') → nb 0 (.tup [rdV s a' e', bs t]) ∧ V.tup [rdV s a' e', bs t] = .tup [rdV s (zaG s a e most).2.1 (zaG s a e most).2.2, bs (zaG s a e most).1] := by
  intro a' e' n h
  rw [h]
  exact ⟨by simp only [za3, nbS], rfl⟩
 refine zad (by exact fun m => zRCount_ok s a e most ha hl) (by simp only [nbS]) (by simp only [za3, nbS]) ?_
 have hle := rCount_le (s := s) (a := a) (e := e) (most := most) ha
 obtain ⟨c1, c2, c3⟩ := zc6 (s.drop a) most
 have hcase : zaz s a e most = (if e ≠ 0 then (0, a, e) else if (zao (s.drop a) most).2.2 ≠ 0 then (0, a, (zao (s.drop a) most).2.2) else ((zao (s.drop a) most).1, a + (zao (s.drop a) most).2.1, 0)) := rfl
 by_cases he : e = 0
 ·subst he
  by_cases h1 : (zao (s.drop a) most).2.2 = 0
  ·have hr : zaz s a 0 most = ((zao (s.drop a) most).1, a + (zao (s.drop a) most).2.1, 0) := by rw [hcase]; simp only [h1, ne_eq, not_true_eq_false, if_false]
   rw [hr] at hle ⊢
   simp only at hle
   have hw : IntKind.i64.wrap ((s.length : Int) - ((a + (zao (s.drop a) most).2.1 : Nat) : Int)) = (s.length : Int) - ((a + (zao (s.drop a) most).2.1 : Nat) : Int) := wrap_i64 (by omega) (by omega)
   simp only [rdV, zaa, show ((0 : Int) != 0) = false from rfl, zdm, hw, gt_iff_lt, ssH, zdx, zdv, reduceIte, zdw, zdA, zdy, zdz]
   by_cases h2 : (s.length : Int) - ((a + (zao (s.drop a) most).2.1 : Nat) : Int) < (zao (s.drop a) most).1
   ·simp only [decide_eq_true h2, zaa, ssH, zdx, zdv, reduceIte, zdw, zdA, zdy, zdz]
    refine zad (by exact fun m => zWrong_ok s a 0 3) (by simp only [nbS]) za3 ?_
    simp only [rdV, zaa, ssH, zdx, zdv, reduceIte, zdw, zdA, zdy, zdz]
    refine zae (v := .tup [rdV s a 3, bs []]) rfl (fin _ _ _ ?_)
    have h3 : (zao (s.drop a) most).1 > ((s.drop a).length : Int) - ((zao (s.drop a) most).2.1 : Int) := by rw [zdM]; omega
    simp only [zaG, textL, h1, h3, ne_eq, not_true_eq_false, if_false, if_true]
    rfl
   ·obtain ⟨n, hn⟩ : ∃ k : Nat, (zao (s.drop a) most).1 = (k : Int) := ⟨((zao (s.drop a) most).1).toNat, by omega⟩
    rw [zdM] at c1
    have hw2 : IntKind.i64.wrap (((a + (zao (s.drop a) most).2.1 : Nat) : Int) + (n : Int)) = ((a + (zao (s.drop a) most).2.1 + n : Nat) : Int) := by
     rw [wrap_i64 (by omega) (by omega)]
     omega
    rw [hn] at h2 ⊢
    simp only [decide_eq_false h2, hw2, slice_bs (x := s) (a := a + (zao (s.drop a) most).2.1) (b := a + (zao (s.drop a) most).2.1 + n) (by omega) (by omega), zaa, ssH, zdx, zdv, reduceIte, zdw, zdA, zdy, zdz]
    refine zae (v := .tup [rdV s (a + (zao (s.drop a) most).2.1 + n) 0, bs ((s.take (a + (zao (s.drop a) most).2.1 + n)).drop (a + (zao (s.drop a) most).2.1))]) rfl (fin _ _ _ ?_)
    have h3 : ¬ (n : Int) > ((s.drop a).length : Int) - ((zao (s.drop a) most).2.1 : Int) := by rw [zdM]; omega
    simp only [zaG, textL, h1, hn, h3, ne_eq, not_true_eq_false, if_false, Int.toNat_natCast]
    refine Prod.ext ?_ (Prod.ext ?_ rfl)
    ·simp only
     rw [List.drop_drop, List.take_drop]
    ·simp only
     omega
  ·have hr : zaz s a 0 most = (0, a, (zao (s.drop a) most).2.2) := by rw [hcase]; simp only [h1, ne_eq, not_true_eq_false, not_false_eq_true, if_false, if_true]
   rw [hr]
   have hb : ((zao (s.drop a) most).2.2 != 0) = true := by simpa using h1
   simp only [rdV, zaa, hb, ssH, zdx, zdv, reduceIte, zdw, zdA, zdy, zdz]
   refine zae (v := .tup [rdV s a (zao (s.drop a) most).2.2, bs []]) rfl (fin _ _ _ ?_)
   simp only [zaG, textL, h1, ne_eq, not_true_eq_false, not_false_eq_true, if_false, if_true]
 ·have hr : zaz s a e most = (0, a, e) := by rw [hcase]; simp only [he, ne_eq, not_false_eq_true, if_true]
  rw [hr]
  have hb : (e != 0) = true := by simpa using he
  simp only [rdV, zaa, hb, ssH, zdx, zdv, reduceIte, zdw, zdA, zdy, zdz]
  refine zae (v := .tup [rdV s a e, bs []]) rfl (fin _ _ _ ?_)
  simp only [zaG, he, ne_eq, not_false_eq_true, if_true]
theorem zGet_ok (s : List UInt8) (a : Nat) (e : Int) (ha : a ≤ s.length) (hl : s.length < 4611686018427387904) : zab Tryz.prog Γ 24 [rdV s a e] m fun o m' => o = .ret (.tup [rdV s (getC s a e).2.1 (getC s a e).2.2, cmdT (getC s a e).1]) ∧ m' = m := by
 refine zaN (zaO mixed F24_ok F24_h zaA (by simp only [za3, nbS]) ?_)
 simp only [F24, rdV, ss0, zdB, zdx]
 simp only [zaa, ssH, zdx, zdv, reduceIte, zdw, zdA, zdy, zdz]
 obtain ⟨k, a1, e1, h1⟩ : ∃ k a1 e1, rInt s a e = (k, a1, e1) := ⟨_, _, _, rfl⟩
 have l1 := zaQ (e := e) ha
 rw [h1] at l1
 obtain ⟨n, a2, e2, h2⟩ : ∃ n a2 e2, rInt s a1 e1 = (n, a2, e2) := ⟨_, _, _, rfl⟩
 have l2 := zaQ (e := e1) l1
 rw [h2] at l2
 obtain ⟨t, a3, e3, h3⟩ : ∃ t a3 e3, zaG s a2 e2 255 = (t, a3, e3) := ⟨_, _, _, rfl⟩
 have hg : getC s a e = ((if e3 ≠ 0 then (0, 0, []) else (k, n, t)), a3, e3) := by simp only [getC, h1, h2, h3]
 rw [hg]
 refine zad (by exact fun m => zRInt_ok s a e ha hl) (by simp only [nbS]) (by simp only [za3, nbS]) ?_
 simp only [h1, rdV, zaa, ssH, zdx, zdv, reduceIte, zdw, zdA, zdy, zdz]
 refine zad (by exact fun m => zRInt_ok s a1 e1 l1 hl) (by simp only [nbS]) (by simp only [za3, nbS]) ?_
 simp only [h2, rdV, zaa, ssH, zdx, zdv, reduceIte, zdw, zdA, zdy, zdz]
 refine zad (by exact fun m => zRText_ok s a2 e2 255 l2 hl) (by simp only [nbS]) (by simp only [za3, nbS]) ?_
 simp only [h3, rdV, zaa, ssH, zdx, zdv, reduceIte, zdw, zdA, zdy, zdz]
 cases he : (e3 != 0)
 ·have h0 : e3 = 0 := by simpa using he
  subst h0
  simp only [show ((0 : Int) != 0) = false from rfl, zaa, ssH, zdx, zdv, reduceIte, zdw, zdA, zdy, zdz]
  exact zae (v := .tup [rdV s a3 0, .agg [it k, it n, bs t]]) rfl ⟨by simp only [za3, nbS], rfl⟩
 ·have h0 : e3 ≠ 0 := by simpa using he
  simp only [he, zaa, ssH, zdx, zdv, reduceIte, zdw, zdA, zdy, zdz]
  refine zae (v := .tup [rdV s a3 e3, .agg [it 0, it 0, bs []]]) rfl ⟨by simp only [za3, nbS], ?_⟩
  rw [if_pos h0]
  rfl
theorem zPut_ok {k n : Int} (hk : Av.I64 k) (hn : Av.I64 n) {s : List UInt8} (hs : s.length < 4611686018427387000) : zab Tryz.prog Γ 26 [.agg [it k, it n, bs s]] m fun o m' => o = .ret (bs (putC k n s)) ∧ m' = m := by
 refine zaN (zaO mixed F26_ok F26_h zaA (by first | exact LR.nil | simp only [nbS]) ?_)
 simp only [F26, ss0, zdB, zdx]
 have h64 : Av.I64 (s.length : Int) := ⟨by omega, by omega⟩
 have l0 := uvarint_length64 (zigzag_u64 h64)
 have l1 := uvarint_length64 (zigzag_u64 hk)
 have l2 := uvarint_length64 (zigzag_u64 hn)
 simp only [zaa, ssH, zdx, zdv, reduceIte, zdw, zdA, zdy, zdz]
 refine zad (by exact fun m => zde hk) (by first | exact LR.nil | simp only [nbS]) (by first | exact LR.nil | simp only [nbS]) ?_
 simp only [ssH, zdx, zdv, reduceIte, zdw, zdA, zdy, zdz]
 refine zad (by exact fun m => zde hn) (by first | exact LR.nil | simp only [nbS]) (by first | exact LR.nil | simp only [nbS]) ?_
 simp only [bs_add (show (uvarint (zigzag k)).length + (uvarint (zigzag n)).length ≤ 9223372036854775807 by omega), ssH, zdx, zdv, reduceIte, zdw, zdA, zdy, zdz]
 refine zad (by exact fun m => zText_ok s (by omega)) (by first | exact LR.nil | simp only [nbS]) (by first | exact LR.nil | simp only [nbS]) ?_
 simp only [bs_add (show (uvarint (zigzag k) ++ uvarint (zigzag n)).length + (uvarint (zigzag s.length) ++ s).length ≤ 9223372036854775807 by simp only [zdE]; omega), ssH, zdx, zdv, reduceIte, zdw, zdA, zdy, zdz]
 exact zae zas ⟨(by simp only [zaf, zah, nbS]), rfl⟩
end
end Go.Av.Fn
/- Commands that are put are got as they were: the statement's function, walked. Conditions as ahead. -/
namespace Go.Av.Fn
set_option linter.unusedSimpArgs false
set_option linter.unusedVariables false
set_option maxRecDepth 10000
open Go.Proofs
end Go.Av.Fn
/- Any command has the bytes, and any bytes are the command, that the document says: the law. Conditions: az ahead. -/
namespace Go.Av
section
variable {P : Program} {Γ : Glob} {Kp : V → Hl → Prop} {l : List Item} {K : HS → Prop} {t : List V} {h : Hl} {d : Option Tmp} {s : List (Tmp × Option (Tmp × Bool) × AOp)} {g : FuncId} {first args caps : List V}
theorem hcall_bufg {e : TypeId} {size : Nat} {az es2 : List V} (hl : h.length < 1000000) (he : first ++ args ++ caps = az) (hne : es2 ≠ [])
  (hA : ∀ m, zab P Γ g az m fun o m2 => ∃ v2, o = .ret v2 ∧ Buf e size m m2 v2 es2) (ha : nbs 0 az) (h2 : nbs 0 es2)
  (hr : ∀ k, hth P Γ Kp s l K (hput t (h ++ [some (.tip e k)]) d (some (.sl es2 [] (.tip h.length k))))) : hcallS P Γ Kp (.fn (.func g) first caps) args d s l K t h := by
 intro R args' m' rl H
 rw [he] at rl
 obtain rfl := zcT ha rl
 refine (hA m').mono ?_
 rintro o m2 ⟨v2, rfl, hb, (⟨q, _⟩ | ⟨_, b, k, q1, rfl, rfl⟩)⟩
 ·exact absurd q hne
 ·exact ⟨R.add h.length b, .ret _, _, R.le_add _ _, H.push (x := .tip e k) (x' := .tip e k) q1 hl ⟨rfl, rfl⟩, VR.sl (k := .tip h.length k) (k' := .tip b k) (h2.up _) .nil ⟨.inr ⟨rfl, rfl⟩, rfl⟩, hr k⟩
theorem relFull {G : Gh} {es : List V} {u : Value} (h : RelV G (.sl es [] .own) u) : RelV G (.sl es [] .full) u := by
 cases h with
 | nil h => cases h
 | sl a b c d e f => exact .sl a b c d e f.1
theorem acalls_less {f : FuncId} {args args' : List V} {m : Store} {R : Out → Store → Prop} (h : ∀ G cargs, RelL G args cargs → RelL G args' cargs) (hc : zab P Γ f args' m R) : zab P Γ f args m R :=
 ⟨hc.1, fun G B0 mF w cargs hD hR hL => hc.2 G B0 mF w cargs hD hR (h G cargs hL)⟩
end
end Go.Av
namespace Go.Av.Fn
set_option linter.unusedSimpArgs false
set_option linter.unusedVariables false
set_option maxRecDepth 10000
open Go.Proofs
theorem lit_x {Γ : Glob} {t : List V} {m : Store} : zac Tryz.prog (ev Γ t) m (.lits 1 [.val (.int .u8 0)] 1 [(0, .const (.int .u8 120))]) = some (.sl [by8 120] [] .own) := rfl
theorem bs_cons_add {P : Program} {T : TypeId} {xo yo : Operand} (z : List UInt8) (h : z.length ≤ 1000000000000000000) : binV P .add T .other xo yo (.val (.string (ByteArray.mk #[120]))) (bs z) = some (bs (120 :: z)) := bs_add (x := [120]) (y := z) (by simp; omega)
theorem bs_cons_add2 {P : Program} {T : TypeId} {xo yo : Operand} (z : List UInt8) (h : z.length ≤ 1000000000000000000) : binV P .add T .other xo yo (bs [120]) (bs z) = some (bs (120 :: z)) := bs_add (x := [120]) (y := z) (by simp; omega)
theorem getC_le {s : List UInt8} {a : Nat} {e : Int} (ha : a ≤ s.length) : (getC s a e).2.1 ≤ s.length := by
 unfold getC
 exact rText_le (zaQ (zaQ ha))
theorem app_bytes {Γ : Glob} {Kp : V → Hl → Prop} {h : Hl} {t : List V} {l : List Item} {K : HS → Prop} {d : Option Tmp} {s : List (Tmp × Option (Tmp × Bool) × AOp)} (a : List UInt8) (ha : a.length ≤ 140737488351232) (hh : h.length < 1000000)
  (h0 : a = [] → hth Tryz.prog Γ Kp s l K (hput t h d (some (.sl (a.map by8) [] (.zero true)))))
  (h1 : a ≠ [] → hth Tryz.prog Γ Kp s l K (hput t (h ++ [some (.tip 5 0)]) d (some (.sl (a.map by8) [] (.tip h.length 0))))) : happS Tryz.prog Γ Kp 5 1 1 (.sl [] [] (.zero true)) (.sl (a.map by8) [] .no) d s l K t h := by
 by_cases e : a = []
 ·subst e
  exact happ_none rfl (h0 rfl)
 ·refine happ_zero (ys := a.map by8) rfl (by simpa using e) hh rfl (elemsB_by8 a) (by simp only [zdW, zdJ]; omega) ?_
  simpa using h1 e
end Go.Av.Fn
/- Functions that put behind a slice, over blocks. No condition. -/
namespace Go.Av
def BH (e : TypeId) (x0 : Option Blk) (tok : Tok) (es : List V) : Prop := (x0 = none ∧ tok = .full) ∨ ∃ k, x0 = some (.tip e k) ∧ tok = .tip 0 k ∧ es ≠ []
section
variable {P : Program} {Γ : Glob} {H : Nat → List (Nat × List Nat) × List Nat} {f : FuncId} {F : AFn} {gs : List Nat} {m m' : Store}
theorem acalls_bu (hm : P.follows .mixedOrders = true) (hF : zaj P H f = some F) (hok : F.body.okH gs = true) (hG : GOk Γ gs) {e : TypeId} {size : Nat} {es es2 az : List V} {v : V} (hB : BufI e size m m' v es) (hes : nbs 0 es) (ha : nbs 0 az) (h2 : nbs 0 es2) (hz : szOk size es2 = true) (hne : es2 ≠ [])
  (h : ∀ x0 tok, BH e x0 tok es → hawp P Γ (fun _ _ => False) 1 F.body (bodyH F.res fun v h' => ∃ j k, v = .sl es2 [] (.tip j k) ∧ lk h' j = some (.tip e k)) ⟨start F.ntmps (.sl es [] tok :: az), [x0]⟩) :
  zab P Γ f (v :: az) m' fun o m2 => ∃ v2, o = .ret v2 ∧ Buf e size m m2 v2 es2 := by
 have full : ∀ M : Store, szOk size es = true → zab P Γ f (.sl es [] .full :: az) M fun o m2 => ∃ v2, o = .ret v2 ∧ Buf e size M m2 v2 es2 := by
  intro M hs
  have h1 := acalls_h (P := P) (Γ := Γ) (R0 := fun _ _ => False) (N := 1) (m := fun _ => none) (h0 := [none]) hm hF hok hG (args0 := .sl es [] .full :: az) (args := .sl es [] .full :: az) (.cons (VR.sl (k := .full) (k' := .full) (hes.up _) .nil trivial) (ha.up _)) ⟨fun a c x r hx => r.elim, fun a b c r _ => r.elim, fun a b c x y r _ _ _ => r.elim, fun a b r => r.elim⟩ (fun _ _ q => q.elim) (Q := fun o h' => match o with | .ret v => ∃ j k, v = .sl es2 [] (.tip j k) ∧ lk h' j = some (.tip e k) | .pan _ => False) (h none .full (.inl ⟨rfl, rfl⟩))
  have hD : Disj (fun _ => none) M := fun b => .inl rfl
  have e0 : Store.or (fun _ => none) M = M := by funext b; rfl
  have h3 := h1.frame hD
  rw [e0] at h3
  refine zab.less h3 ?_
  rintro o m'' ⟨m1, rfl, d, S, o0, h', s1, s2, s3, s4⟩
  cases o0 with
  | pan v => exact s4.elim
  | ret v =>
   cases o with
   | pan v' => exact s3.elim
   | ret v' =>
    obtain ⟨j, k, rfl, hj⟩ := s4
    obtain ⟨es', mr, k', rfl, ra, rb, rc⟩ := VR.sl_inv s3
    obtain rfl := zcT h2 ra
    obtain rfl := rb.nil_inv
    cases k' with
    | tip b k' =>
     obtain ⟨r0, rfl⟩ := rc
     obtain ⟨Y', g1, g2⟩ := s2.blk _ _ _ r0 hj
     cases Y' with
     | tip e' k' =>
      obtain ⟨rfl, rfl⟩ := g2
      have hmb : M b = none := by
       rcases d b with q | q
       ·rw [g1] at q; cases q
       ·exact q
      refine ⟨M.set b (.tip e k), ?_, _, rfl, hz, .inr ⟨hne, b, k, hmb, rfl, rfl⟩⟩
      intro c x hx
      by_cases e : c = b
      ·subst e
       rw [Store.set_same] at hx
       cases hx
       simp only [Store.or, g1]
      ·rw [Store.set_ne _ _ e] at hx
       rcases d c with q | q
       ·simp only [Store.or, q]; exact hx
       ·rw [q] at hx
        cases hx
     | _ => exact g2.elim
    | _ => exact rc.elim
 rcases hB with ⟨hs, (⟨rfl, rfl, rfl⟩ | ⟨hne0, b, k, hb, rfl, rfl⟩)⟩ | ⟨hs, rfl, rfl⟩
 ·exact full _ hs
 ·have hmb : (m.set b (.tip e k)) b = some (.tip e k) := Store.set_same _ _ _
  have h1 := acalls_h (P := P) (Γ := Γ) (R0 := fun a c => a = 0 ∧ c = b) (N := 1) (m := one b (.tip e k)) hm hF hok hG (args0 := .sl es [] (.tip 0 k) :: az) (args := .sl es [] (.tip b k) :: az) (.cons (VR.sl (k := .tip 0 k) (k' := .tip b k) (hes.up _) .nil ⟨⟨rfl, rfl⟩, rfl⟩) (ha.up _)) (hh_one (X := .tip e k) ⟨rfl, rfl⟩) (fun _ _ q => by omega) (Q := fun o h' => match o with | .ret v => ∃ j k, v = .sl es2 [] (.tip j k) ∧ lk h' j = some (.tip e k) | .pan _ => False) (h _ _ (.inr ⟨k, rfl, rfl, hne0⟩))
  have h3 := h1.frame (one_disj b (.tip e k) (m := m.set b (.tip e k)))
  rw [one_del hmb] at h3
  refine zab.less h3 ?_
  rintro o m'' ⟨m1, rfl, d, S, o0, h', s1, s2, s3, s4⟩
  cases o0 with
  | pan v => exact s4.elim
  | ret v =>
   cases o with
   | pan v' => exact s3.elim
   | ret v' =>
    obtain ⟨j, k2, rfl, hj⟩ := s4
    obtain ⟨es', mr, k', rfl, ra, rb, rc⟩ := VR.sl_inv s3
    obtain rfl := zcT h2 ra
    obtain rfl := rb.nil_inv
    cases k' with
    | tip b2 k' =>
     obtain ⟨r0, rfl⟩ := rc
     obtain ⟨Y', g1, g2⟩ := s2.blk _ _ _ r0 hj
     cases Y' with
     | tip e' k' =>
      obtain ⟨rfl, rfl⟩ := g2
      have hmb2 : m b2 = none := by
       by_cases e : b2 = b
       ·rw [e]; exact hb
       ·rcases d b2 with q | q
        ·rw [g1] at q; cases q
        ·simp only [del, if_neg e, Store.set_ne _ _ e] at q
         exact q
      refine ⟨m.set b2 (.tip e k2), ?_, _, rfl, hz, .inr ⟨hne, b2, k2, hmb2, rfl, rfl⟩⟩
      intro c x hx
      by_cases e : c = b2
      ·subst e
       rw [Store.set_same] at hx
       cases hx
       simp only [Store.or, g1]
      ·rw [Store.set_ne _ _ e] at hx
       have hcb : c ≠ b := by rintro rfl; rw [hb] at hx; cases hx
       rcases d c with q | q
       ·simp only [Store.or, q, del, if_neg hcb, Store.set_ne _ _ hcb]; exact hx
       ·simp only [del, if_neg hcb, Store.set_ne _ _ hcb] at q
        rw [q] at hx
        cases hx
     | _ => exact g2.elim
    | _ => exact rc.elim
 ·exact full _ hs
end
section
variable {P : Program} {Γ : Glob} {Kp : V → Hl → Prop} {N : Nat} {l : List Item} {K : HS → Prop} {t : List V} {r : Hl} {d : Option Tmp} {s : List (Tmp × Option (Tmp × Bool) × AOp)} {g : FuncId} {first args caps : List V}
theorem hcall_bh {e : TypeId} {size : Nat} {az es es2 : List V} {x0 : Option Blk} {tok : Tok} (hl : r.length < 999999) (he : first ++ args ++ caps = .sl es [] tok :: az) (hB : BH e x0 tok es) (hz : szOk size es = true) (hne : es2 ≠ [])
  (hA : ∀ m m' v, BufI e size m m' v es → zab P Γ g (v :: az) m' fun o m2 => ∃ v2, o = .ret v2 ∧ Buf e size m m2 v2 es2) (h1 : nbs 0 es) (ha : nbs 0 az) (h2 : nbs 0 es2)
  (hr : ∀ k, hth P Γ Kp s l K (hput t (none :: (r ++ [some (.tip e k)])) d (some (.sl es2 [] (.tip (r.length + 1) k))))) : hcallS P Γ Kp (.fn (.func g) first caps) args d s l K t (x0 :: r) := by
 rcases hB with ⟨rfl, rfl⟩ | ⟨k0, rfl, rfl, hne0⟩
 ·intro R args' m' rl H
  rw [he] at rl
  obtain ⟨y, ys, rfl, r1, r2⟩ := rl.cons_inv
  obtain rfl := zcT ha r2
  have : y = .sl es [] .full := nb_eq (v := .sl es [] .full) (VR.sl (k := .full) (k' := .full) h1 .nil trivial) r1
  subst this
  refine (hA m' m' _ (.inr ⟨hz, rfl, rfl⟩)).mono ?_
  rintro o m2 ⟨v2, rfl, hb, (⟨q, _⟩ | ⟨_, b, k, q1, rfl, rfl⟩)⟩
  ·exact absurd q hne
  ·have hlen : ((none : Option Blk) :: r).length = r.length + 1 := rfl
   exact ⟨R.add (r.length + 1) b, .ret _, _, R.le_add _ _, H.push (x := .tip e k) (x' := .tip e k) q1 (by rw [hlen]; omega) ⟨rfl, rfl⟩, VR.sl (k := .tip (r.length + 1) k) (k' := .tip b k) (h2.up _) .nil ⟨.inr ⟨rfl, rfl⟩, rfl⟩, hr k⟩
 ·refine zck (j := 0) (k := k0) (e := e) (size := size) (es := es) (es2 := es2) (by simp only [zdF]; omega) he rfl hz hne0 hne (fun m m' v h => hA m m' v (.inl h)) h1 ha h2 fun k => ?_
  have := hr k
  simpa only [hset, zdY, zdF] using this
end
end Go.Av
/- Entries and logs put behind bytes, az the program does. Conditions: az ahead. -/
namespace Go.Av
section
variable {P : Program} {Γ : Glob} {t : List V} {h : Hl} {N : Nat}
theorem lk_apps {hs r : Hl} {a : Nat} : lk (hs ++ r) a = if a < hs.length then lk hs a else lk r (a - hs.length) := by
 induction hs generalizing a with
 | nil => simp
 | cons x hs ih =>
  cases a with
  | zero => simp [lk]
  | succ a =>
   simp only [zdY, lk, ih, zdF, Nat.add_lt_add_iff_right, Nat.add_sub_add_right]
theorem back_tip {S : List Nat} {c L : Nat} {J : List V → Hl → Prop} {e : TypeId} {j k : Nat} {es more : List V} (hs : Hl) (h1 : t.length = L) (hN : N ≤ c) (hcj : c ≤ j) (hc2 : c < 1000000) (hj : lk h j = some (.tip e k)) (hlen : hs.length = c) (hS : S.map (tget t) = .sl es [] (.tip j k) :: more) (hes : nbs 0 es) (hm : nbs c more)
  (hB : ∀ a < c, ∀ x, lk hs a = some x → lk h a = some x ∧ nbB c x) (hJ : J (.sl es [] (.tip c k) :: more) (hs ++ [some (.tip e k)])) : Back S (zdQ c ++ [j]) N L J ⟨t, h⟩ := by
 have g1 : ∀ a < c, (zdQ c ++ [j])[a]? = some a := by
  intro a ha
  rw [List.getElem?_append_left (by simpa using ha)]
  exact nm_range ha
 have g2 : (zdQ c ++ [j])[c]? = some j := by
  rw [List.getElem?_append_right (by simp)]
  simp
 have hm' : (NB c).le (Nm (zdQ c ++ [j])) := fun a b ⟨e, l⟩ => by subst e; exact g1 _ l
 refine ⟨h1, fun a ha => g1 a (by omega), ?_, by simp; omega, _, hs ++ [some (.tip e k)], ?_, by simp [hlen], ?_, hJ⟩
 ·rw [List.nodup_append]
  refine ⟨List.nodup_range, by simp, ?_⟩
  intro a ha b hb
  simp only [List.mem_range] at ha
  simp only [List.mem_singleton] at hb
  omega
 ·rw [hS]
  exact .cons (VR.sl (k := .tip c k) (k' := .tip j k) (hes.up _) .nil ⟨g2, rfl⟩) (LR.mono hm' hm)
 ·intro a b hab
  by_cases ha : a < c
  ·rw [g1 a ha] at hab
   cases hab
   simp only
   rw [lk_apps, if_pos (by omega)]
   cases hx : lk hs a with
   | none => trivial
   | some x =>
    obtain ⟨q1, q2⟩ := hB a ha x hx
    rw [q1]
    exact BR.mono hm' q2
  ·have hac : a = c := by
    have := (List.getElem?_eq_some_iff.1 hab).1
    simp at this
    omega
   subst hac
   rw [g2] at hab
   cases hab
   simp only
   rw [lk_apps, if_neg (by omega), hlen, Nat.sub_self, hj]
   exact ⟨rfl, rfl⟩
end
end Go.Av
namespace Go.Av.Fn
set_option linter.unusedSimpArgs false
set_option linter.unusedVariables false
set_option maxRecDepth 10000
open Go.Proofs
def uz (n : Int) : List UInt8 := Lib.uvarint (Lib.zigzag n)
def zbj : List Int → List UInt8
 | [] => []
 | n :: l => uz n ++ zbj l
theorem numsB_app (a b : List Int) : zbj (a ++ b) = zbj a ++ zbj b := by
 induction a with
 | nil => rfl
 | cons n a ih => simp only [zdY, zbj, ih, zdK]
theorem zbP {n : Int} (h : Av.I64 n) : (uz n).length ≤ 10 := Lib.uvarint_length64 (Av.zigzag_u64 h)
theorem uz_ne (n : Int) : uz n ≠ [] := by
 unfold uz
 rw [Lib.uvarint]
 split <;> simp
theorem numsB_len {l : List Int} (h : ∀ n ∈ l, Av.I64 n) : (zbj l).length ≤ 10 * l.length := by
 induction l with
 | nil => exact zd1 _
 | cons n l ih =>
  have h1 := zbP (h n (zdG ..))
  have h2 := ih fun x hx => h x (zdI _ hx)
  simp only [zbj, zdE, zdF]
  omega
theorem nbs_its {k : Nat} (l : List Int) : nbs k (l.map it) := nbs_map (fun n => by simp only [nbS]) l
theorem zbS {l : List UInt8} (h : l ≠ []) : l.map by8 ≠ [] := by simpa using h
section
variable {Γ : Glob} {m m' : Store}
theorem nums_ok {v : V} {l : List UInt8} (hB : BufI 5 1 m m' v (l.map by8)) (ns : List Int) (hn : ∀ n ∈ ns, Av.I64 n) (hne : ns ≠ []) (hl : l.length + 10 * ns.length < 1099511627776) (hc : ns.length < 1000000) :
  zab Tryz.prog Γ 123 [v, .sl (ns.map it) [] .full] m' fun o m2 => ∃ v2, o = .ret v2 ∧ Buf 5 1 m m2 v2 ((l ++ zbj ns).map by8) := by
 have hne2 : zbj ns ≠ [] := by
  cases ns with
  | nil => exact absurd rfl hne
  | cons n ns => simp only [zbj]; intro h; exact uz_ne n (List.append_eq_nil_iff.1 h).1
 refine acalls_bu mixed F123_ok F123_h zaA hB (zai _) (by simp only [nbs_its, nbS]) (zai _) (za8 _) (zbS (by simp [hne2])) fun x0 tok hx => ?_
 simp only [F123, ss0, zdB, zdx]
 simp only [ssH, zdx, zdv, reduceIte, zdw, zdA, zdy, zdz]
 refine h_loop [0, 7, 8, 9] 18 (fun n vs h => ∃ (i : Nat) (tk : Tok), vs = [.sl ((l ++ zbj (ns.take i)).map by8) [] tk, .sl (ns.map it) [] .full, it ns.length, it i] ∧ i + n = ns.length + 1 ∧ i ≤ ns.length ∧ ((i = 0 ∧ h = [x0] ∧ tk = tok) ∨ (0 < i ∧ ∃ k, h = [none, some (.tip 5 k)] ∧ tk = .tip 1 k))) (ns.length + 1) (by decide) (by decide) (zdQ 1) ?_ ?_
 ·have e0 : [0, 7, 8, 9].map (tget [.sl (l.map by8) [] tok, .sl (ns.map it) [] .full, un, un, .sl [] [] .full, un, un, .sl (ns.map it) [] .full, it (ns.map it).length, it 0, un, un, un, un, un, un, un, un]) = [.sl ((l ++ zbj (ns.take 0)).map by8) [] tok, .sl (ns.map it) [] .full, it ns.length, it ((0 : Nat) : Int)] := by
   rw [show l ++ zbj (ns.take 0) = l by simp [zbj], zdW]
   rfl
  refine zaV rfl (by decide) (by decide) (by simp) ?_ ?_ ⟨0, tok, e0, by omega, by omega, .inl ⟨rfl, rfl, rfl⟩⟩
  ·show nbs 1 [.sl (l.map by8) [] tok, .sl (ns.map it) [] .full, it (ns.map it).length, it 0]
   rcases hx with ⟨rfl, rfl⟩ | ⟨k, rfl, rfl, _⟩
   ·simp only [nbs_its, nbS]
   ·simp only [nbs_its, nbS]; decide
  ·intro a ha x hx'
   have : a = 0 := by omega
   subst this
   rcases hx with ⟨rfl, rfl⟩ | ⟨k, rfl, rfl, _⟩
   ·cases hx'
   ·cases hx'; simp only [nbS]
 rintro n t h J hJ hlt ⟨i, tk, hv, hi1, hi2, hh⟩
 simp only [List.map, List.cons.injEq, and_true] at hv
 obtain ⟨g0, g7, g8, g9⟩ := hv
 have hlen : (l ++ zbj (ns.take i)).length ≤ l.length + 10 * ns.length := by
  have := numsB_len (l := ns.take i) fun x hx => hn x (List.mem_of_mem_take hx)
  rw [zdZ] at this
  simp only [zdE]
  omega
 obtain ⟨pr, hpr⟩ : ∃ z, z = l ++ zbj (ns.take i) := ⟨_, rfl⟩
 rw [← hpr] at g0 hlen
 rw [t_eq hlt]
 simp only [zaY, upTo, g0, g7, g8, g9, zdW, ssH, zdx, zdv, reduceIte, zdw, zdA, zdy, zdz]
 by_cases hil : i < ns.length
 ·have hx2 : ns[i]? = some ns[i] := zdL hil
  have hni : Av.I64 ns[i] := hn _ (List.getElem_mem _)
  have hst : zbj (ns.take (i + 1)) = zbj (ns.take i) ++ uz ns[i] := by rw [List.take_add_one, hx2, numsB_app]; simp [zbj]
  generalize ns[i] = a at hx2 hni hst
  have hnb := nbs_its (k := 0) ns
  have hnb1 := nbs_its (k := 1) ns
  obtain ⟨nx, hnx⟩ : ∃ z, z = l ++ zbj (ns.take (i + 1)) := ⟨_, rfl⟩
  have hp : nx = pr ++ uz a := by rw [hnx, hpr, hst, zdK]
  have hcall : ∀ (mm mm' : Store) (w : V), BufI 5 1 mm mm' w (pr.map by8) → zab Tryz.prog Γ 69 [w, it a] mm' fun o m2 => ∃ v2, o = .ret v2 ∧ Buf 5 1 mm m2 v2 (nx.map by8) := by
   intro mm mm' w hw
   rw [hp]
   exact zcM (Γ := Γ) hw hni (by omega)
  have hi9 : idxLV 1 (.sl (ns.map it) [] .full) (it i) = some (.elt [it a]) := idxLV_nat (e := it a) (by rw [List.getElem?_map, hx2]; rfl) rfl
  have hne3 : nx.map by8 ≠ [] := zbS (by rw [hp]; simp [uz_ne])
  have fin : ∀ {t' : List V} {h' : Hl} (j k : Nat), t'.length = 18 → tget t' 0 = .sl (nx.map by8) [] (.tip j k) → tget t' 7 = .sl (ns.map it) [] .full → tget t' 8 = it ns.length → tget t' 9 = it (i + 1 : Nat) → lk h' j = some (.tip 5 k) → 1 ≤ j → ∃ names, J names ⟨t', h'⟩ := by
   intro t' h' j k q q0 q7 q8 q9 qj hj
   refine ⟨_, hJ (n - 1) _ _ (by omega) (back_tip (c := 1) (j := j) (k := k) (es := nx.map by8) (more := [.sl (ns.map it) [] .full, it ns.length, it (i + 1 : Nat)]) [none] q (zd1 _) hj (by decide) qj rfl (by simp only [List.map, q0, q7, q8, q9]) (zai _) (by simp only [hnb1, nbS]) ?_ ⟨i + 1, .tip 1 k, by rw [← hnx], by omega, by omega, .inr ⟨by omega, k, rfl, rfl⟩⟩)⟩
   intro a ha x hx
   have : a = 0 := by omega
   subst this
   cases hx
  simp only [show decide ((i : Int) < (ns.length : Int)) = true from decide_eq_true (by omega), hi9, ssH, zdx, zdv, reduceIte, zdw, zdA, zdy, zdz]
  rcases hh with ⟨hi0, rfl, rfl⟩ | ⟨hi0, k, rfl, rfl⟩
  ·have hB0 : BH 5 x0 tk (pr.map by8) := by rw [hpr, hi0]; simpa [zbj] using hx
   refine hcall_bh (size := 1) (az := [it a]) (by simp) rfl hB0 (za8 _) hne3 hcall (zai _) (by first | exact LR.nil | simp only [nbS]) (zai _) fun k => ?_
   simp only [zdJ, zbb (show i < 4611686018427387904 by omega), ssH, zdx, zdv, reduceIte, zdw, zdA, zdy, zdz]
   exact fin 1 k rfl rfl rfl rfl rfl rfl (by decide)
  ·refine zck (j := 1) (size := 1) (az := [it a]) (by simp) rfl rfl (za8 _) ?_ hne3 (fun mm mm' w hw => hcall mm mm' w (.inl hw)) (zai _) (by first | exact LR.nil | simp only [nbS]) (zai _) fun k => ?_
   ·refine zbS ?_
    rw [hpr]
    cases ns with
    | nil => simp at hil
    | cons n ns =>
     cases i with
     | zero => omega
     | succ i => simp [zbj, uz_ne]
   simp only [zdF, zdJ, zbb (show i < 4611686018427387904 by omega), ssH, zdx, zdv, reduceIte, zdw, zdA, zdy, zdz]
   exact fin 2 k rfl rfl rfl rfl rfl rfl (by decide)
 ·simp only [show decide ((i : Int) < (ns.length : Int)) = false from decide_eq_false (by omega), ssH, zdx, zdv, reduceIte, zdw, zdA, zdy, zdz]
  have hie : i = ns.length := by omega
  rw [hie, List.take_length] at hpr
  subst hpr
  rcases hh with ⟨hi0, rfl, rfl⟩ | ⟨hi0, k, rfl, rfl⟩
  ·have : ns = [] := List.length_eq_zero_iff.1 (by omega)
   exact absurd this hne
  ·exact zae rfl ⟨1, k, rfl, rfl⟩
def putE (e : Ent) : List UInt8 := zbj [e.c, e.q, e.k, e.n] ++ (uz e.s.length ++ e.s) ++ putC e.ck e.cn e.cs
def EntN (e : Ent) : Prop := Av.I64 e.c ∧ Av.I64 e.q ∧ Av.I64 e.k ∧ Av.I64 e.n ∧ Av.I64 e.ck ∧ Av.I64 e.cn
def litF (a b c d : V) : Option V := (litsV 1 [.val (.int .i64 0), .val (.int .i64 0), .val (.int .i64 0), .val (.int .i64 0)] [(0, a), (1, b), (2, c), (3, d)]).map fun es => .sl es [] .full
theorem litF_eq {t : List V} {a b c d : Nat} : zac Tryz.prog (ev Γ t) m (.lits 1 [.val (.int .i64 0)] 4 [(0, .tmp a), (1, .tmp b), (2, .tmp c), (3, .tmp d)]) = litF (tget t a) (tget t b) (tget t c) (tget t d) := by
 rw [← ev_tmp (Γ := Γ), ← ev_tmp (Γ := Γ), ← ev_tmp (Γ := Γ), ← ev_tmp (Γ := Γ)]
 rfl
theorem litF_it (a b c d : Int) : litF (it a) (it b) (it c) (it d) = some (.sl ([a, b, c, d].map it) [] .full) := rfl
theorem putE_len {e : Ent} (h : EntN e) (hs : e.cs.length ≤ 1099511627776) (hs2 : e.s.length ≤ 1099511627776) : (putE e).length ≤ 80 + e.s.length + e.cs.length := by
 obtain ⟨h1, h2, h3, h4, h5, h6⟩ := h
 have a := numsB_len (l := [e.c, e.q, e.k, e.n]) (by intro n hn; simp only [List.mem_cons, List.not_mem_nil, or_false] at hn; rcases hn with rfl | rfl | rfl | rfl <;> assumption)
 have b := zbP (n := (e.s.length : Int)) ⟨by omega, by omega⟩
 have c := putC_len (k := e.ck) (n := e.cn) h5 h6 (t := e.cs) (by omega)
 simp only [putE, zdE, zdF, zdJ] at a ⊢
 omega
theorem sPut_ok {v : V} {l : List UInt8} (hB : BufI 5 1 m m' v (l.map by8)) (e : Ent) (he : EntN e) (hl : l.length + e.s.length + e.cs.length + 1000 < 1099511627776) :
  zab Tryz.prog Γ 97 [v, entV e] m' fun o m2 => ∃ v2, o = .ret v2 ∧ Buf 5 1 m m2 v2 ((l ++ putE e).map by8) := by
 have hne := zbW (k := 0) e
 have hn4 : ∀ n ∈ [e.c, e.q, e.k, e.n], Av.I64 n := by
  obtain ⟨h1, h2, h3, h4, h5, h6⟩ := he
  intro n hn
  simp only [List.mem_cons, List.not_mem_nil, or_false] at hn
  rcases hn with rfl | rfl | rfl | rfl <;> assumption
 have hlen := numsB_len hn4
 simp only [zdF, zdJ] at hlen
 have hz : zbj [e.c, e.q, e.k, e.n] ≠ [] := by simp [zbj, uz_ne]
 refine acalls_bu mixed F97_ok F97_h zaA hB (zai _) (by simp only [hne, nbS]) (zai _) (za8 _) (zbS (by simp [putE, hz])) fun x0 tok hx => ?_
 simp only [F97, entV, ss0, zdB, zdx]
 simp only [litF_eq, litF_it, zaa, ssH, zdx, zdv, reduceIte, zdw, zdA, zdy, zdz]
 have hni := nbs_its (k := 0) [e.c, e.q, e.k, e.n]
 have hb2 := zbP (n := (e.s.length : Int)) ⟨by omega, by omega⟩
 refine hcall_bh (size := 1) (az := [.sl ([e.c, e.q, e.k, e.n].map it) [] .full]) (by simp) rfl hx (za8 _) (es2 := (l ++ zbj [e.c, e.q, e.k, e.n]).map by8) (zbS (by simp [hz])) (fun mm mm' w hw => nums_ok hw _ hn4 (by simp) (by simp; omega) (by simp)) (zai _) (by simp only [hni, nbS]) (zai _) fun k => ?_
 simp only [zdF, zdJ, List.map_cons, List.map_nil, ssH, zdx, zdv, reduceIte, zdw, zdA, zdy, zdz]
 refine zck (e := 5) (j := 2) (size := 1) (az := [bs e.s]) (by simp) rfl rfl (za8 _) (es2 := (l ++ zbj [e.c, e.q, e.k, e.n] ++ uz e.s.length ++ e.s).map by8) (zbS (by simp [hz])) (zbS (by simp [hz])) (fun mm mm' w hw => putText_ok hw (by simp; omega) (by simp; omega)) (zai _) (by first | exact LR.nil | simp only [nbS]) (zai _) fun k2 => ?_
 simp only [zdF, zdJ, ssH, zdx, zdv, reduceIte, zdw, zdA, zdy, zdz]
 have e2 : l ++ putE e = l ++ zbj [e.c, e.q, e.k, e.n] ++ uz e.s.length ++ e.s ++ putC e.ck e.cn e.cs := by simp only [putE, zdK]
 rw [e2]
 refine zck (e := 5) (j := 3) (size := 1) (az := [cmdV e.ck e.cn e.cs]) (by simp) rfl rfl (za8 _) (es2 := (l ++ zbj [e.c, e.q, e.k, e.n] ++ uz e.s.length ++ e.s ++ putC e.ck e.cn e.cs).map by8) (zbS (by simp [hz])) (zbS (by simp [hz])) (fun mm mm' w hw => put_ok (.inl hw) he.2.2.2.2.1 he.2.2.2.2.2 (by simp; omega) (by simp; omega)) (zai _) (by simp only [cmdV, nbS]) (zai _) fun k3 => ?_
 simp only [zdF, zdJ, ssH, zdx, zdv, reduceIte, zdw, zdA, zdy, zdz]
 exact zae rfl ⟨4, k3, rfl, rfl⟩
def zbQ : List Ent → List UInt8
 | [] => []
 | e :: l => putE e ++ zbQ l
theorem putEs_app (a b : List Ent) : zbQ (a ++ b) = zbQ a ++ zbQ b := by
 induction a with
 | nil => rfl
 | cons e a ih => simp only [zdY, zbQ, ih, zdK]
def putL (x : Lg) : List UInt8 := uz x.b ++ (uz x.c.length ++ x.c) ++ uz x.l.length ++ zbQ x.l
def EntS (e : Ent) : Prop := EntN e ∧ e.s.length ≤ 255 ∧ e.cs.length ≤ 255
def LogS (x : Lg) : Prop := Av.I64 x.b ∧ x.c.length ≤ 65536 ∧ x.l.length ≤ 64 ∧ ∀ e ∈ x.l, EntS e
def EntW (e : Ent) : Prop := EntN e ∧ e.s.length ≤ 2000000 ∧ e.cs.length ≤ 2000000
theorem putEs_lenW {l : List Ent} (h : ∀ e ∈ l, EntW e) : (zbQ l).length ≤ 4000100 * l.length := by
 induction l with
 | nil => exact zd1 _
 | cons e l ih =>
  obtain ⟨h1, h2, h3⟩ := h e (zdG ..)
  have h4 := ih fun x hx => h x (zdI _ hx)
  have h5 := putE_len h1 (by omega) (by omega)
  simp only [zbQ, zdE, zdF]
  omega
def LogW (x : Lg) : Prop := Av.I64 x.b ∧ x.c.length ≤ 2000000 ∧ x.l.length ≤ 1000 ∧ ∀ e ∈ x.l, EntW e
theorem LogS.w {x : Lg} (h : LogS x) : LogW x := ⟨h.1, by have := h.2.1; omega, by have := h.2.2.1; omega, fun e he => by have := h.2.2.2 e he; exact ⟨this.1, by have := this.2.1; omega, by have := this.2.2; omega⟩⟩
theorem putL_lenW {x : Lg} (h : LogW x) : (putL x).length ≤ 5000000000 := by
 obtain ⟨h1, h2, h3, h4⟩ := h
 have a := zbP h1
 have b := zbP (n := (x.c.length : Int)) ⟨by omega, by omega⟩
 have c := zbP (n := (x.l.length : Int)) ⟨by omega, by omega⟩
 have d := putEs_lenW h4
 simp only [putL, zdE]
 omega
theorem oPut_ok {v : V} {l : List UInt8} (hB : BufI 5 1 m m' v (l.map by8)) (nn : Bool) (x : Lg) (hx : LogW x) (hl : l.length ≤ 1000000) :
  zab Tryz.prog Γ 51 [v, lgV nn x] m' fun o m2 => ∃ v2, o = .ret v2 ∧ Buf 5 1 m m2 v2 ((l ++ putL x).map by8) := by
 have hnb := nb_lgV (k := 0) nn x
 have hnl := zbc (k := 0) nn x.l
 obtain ⟨h1, h2, h3, h4⟩ := id hx
 have hb2 := zbP h1
 have hc2 := zbP (n := (x.c.length : Int)) ⟨by omega, by omega⟩
 have hd2 := zbP (n := (x.l.length : Int)) ⟨by omega, by omega⟩
 refine acalls_bu mixed F51_ok F51_h zaA hB (zai _) (by simp only [hnb, nbS]) (zai _) (za8 _) (zbS (by simp [putL, uz_ne])) fun x0 tok hx0 => ?_
 simp only [F51, lgV, ss0, zdB, zdx]
 simp only [len_ents, zaa, ssH, zdx, zdv, reduceIte, zdw, zdA, zdy, zdz]
 refine hcall_bh (e := 5) (size := 1) (az := [it x.b]) (by simp) rfl hx0 (za8 _) (es2 := (l ++ uz x.b).map by8) (zbS (by simp [uz_ne])) (fun mm mm' w hw => zcM hw h1 (by omega)) (zai _) (by first | exact LR.nil | simp only [nbS]) (zai _) fun k => ?_
 simp only [zdF, zdJ, ssH, zdx, zdv, reduceIte, zdw, zdA, zdy, zdz]
 refine zck (e := 5) (j := 2) (size := 1) (az := [bs x.c]) (by simp) rfl rfl (za8 _) (es2 := (l ++ uz x.b ++ uz x.c.length ++ x.c).map by8) (zbS (by simp [uz_ne])) (zbS (by simp [uz_ne])) (fun mm mm' w hw => putText_ok hw (by simp; omega) (by simp; omega)) (zai _) (by first | exact LR.nil | simp only [nbS]) (zai _) fun k2 => ?_
 simp only [zdF, zdJ, ssH, zdx, zdv, reduceIte, zdw, zdA, zdy, zdz]
 refine zck (e := 5) (j := 3) (size := 1) (az := [it x.l.length]) (by simp) rfl rfl (za8 _) (es2 := (l ++ uz x.b ++ uz x.c.length ++ x.c ++ uz x.l.length).map by8) (zbS (by simp [uz_ne])) (zbS (by simp [uz_ne])) (fun mm mm' w hw => zcM (.inl hw) ⟨by omega, by omega⟩ (by simp; omega)) (zai _) (by first | exact LR.nil | simp only [nbS]) (zai _) fun k3 => ?_
 obtain ⟨pl, hpl⟩ : ∃ z, z = l ++ uz x.b ++ uz x.c.length ++ x.c ++ uz x.l.length := ⟨_, rfl⟩
 rw [← hpl]
 simp only [zdF, zdJ, len_ents, ssH, zdx, zdv, reduceIte, zdw, zdA, zdy, zdz]
 have hpe : l ++ putL x = pl ++ zbQ x.l := by rw [hpl]; simp only [putL, zdK]
 have hpn : pl ≠ [] := by rw [hpl]; simp [uz_ne]
 have hpo : pl.length ≤ 3100000 := by rw [hpl]; simp only [zdE]; omega
 rw [hpe]
 clear hpl hpe
 have hnl2 := zbc (k := 2) nn x.l
 have back : ∀ {t' : List V} {h' : Hl} (n' i' j k : Nat), t'.length = 30 → tget t' 0 = .sl ((pl ++ zbQ (x.l.take i')).map by8) [] (.tip j k) → tget t' 3 = .ptr 1 0 → tget t' 19 = zb3 nn x.l → tget t' 20 = it x.l.length → tget t' 21 = it i' → lk h' 1 = some (logB nn x) → lk h' j = some (.tip 5 k) → 2 ≤ j → i' + n' = x.l.length + 1 → i' ≤ x.l.length →
   Back [0, 3, 19, 20, 21] (zdQ 2 ++ [j]) 1 30 (fun vs h => ∃ (i k : Nat), vs = [.sl ((pl ++ zbQ (x.l.take i)).map by8) [] (.tip 2 k), .ptr 1 0, zb3 nn x.l, it x.l.length, it i] ∧ i + n' = x.l.length + 1 ∧ i ≤ x.l.length ∧ h = [none, some (logB nn x), some (.tip 5 k)]) ⟨t', h'⟩ := by
  intro t' h' n' i' j k q q0 q3 q19 q20 q21 qb qj hj hn' hi'
  refine back_tip (c := 2) (j := j) (k := k) (es := (pl ++ zbQ (x.l.take i')).map by8) (more := [.ptr 1 0, zb3 nn x.l, it x.l.length, it i']) [none, some (logB nn x)] q (by decide) hj (by decide) qj rfl (by simp only [List.map, q0, q3, q19, q20, q21]) (zai _) (by simp only [hnl2, nbS]; decide) ?_ ⟨i', k, rfl, hn', hi', rfl⟩
  intro a ha y hy
  have : a = 0 ∨ a = 1 := by omega
  rcases this with rfl | rfl
  ·cases hy
  ·cases hy
   exact ⟨qb, by simp only [logB, hnl2, nbS]⟩
 refine h_loop [0, 3, 19, 20, 21] 30 (fun n vs h => ∃ (i k : Nat), vs = [.sl ((pl ++ zbQ (x.l.take i)).map by8) [] (.tip 2 k), .ptr 1 0, zb3 nn x.l, it x.l.length, it i] ∧ i + n = x.l.length + 1 ∧ i ≤ x.l.length ∧ h = [none, some (logB nn x), some (.tip 5 k)]) (x.l.length + 1) (by decide) (by decide) (zdQ 2 ++ [4]) (back (x.l.length + 1) 0 4 k3 rfl (by simp only [List.take_zero, zbQ, zdV]; rfl) rfl rfl rfl rfl rfl rfl (by decide) (by omega) (by omega)) ?_
 rintro n t h J hJ hlt ⟨i, k, hv, hi1, hi2, rfl⟩
 simp only [List.map, List.cons.injEq, and_true] at hv
 obtain ⟨g0, g3, g19, g20, g21⟩ := hv
 have hlen : (zbQ (x.l.take i)).length ≤ 4000100 * 1000 := by
  have := putEs_lenW (l := x.l.take i) fun e he => h4 e (List.mem_of_mem_take he)
  rw [zdZ] at this
  omega
 obtain ⟨pr, hpr⟩ : ∃ z, z = pl ++ zbQ (x.l.take i) := ⟨_, rfl⟩
 have hprl : pr.length ≤ 5000000000 := by rw [hpr, zdE]; omega
 have hpr0 : pr ≠ [] := by rw [hpr]; simp [hpn]
 rw [← hpr] at g0
 rw [t_eq hlt]
 simp only [zaY, upTo, g0, g3, g19, g20, g21, logB, ssH, zdx, zdv, reduceIte, zdw, zdA, zdy, zdz]
 by_cases hil : i < x.l.length
 ·have hx2 : x.l[i]? = some x.l[i] := zdL hil
  have hei : EntW x.l[i] := h4 _ (List.getElem_mem _)
  have hst : pl ++ zbQ (x.l.take (i + 1)) = pr ++ putE x.l[i] := by
   rw [List.take_add_one, hx2, putEs_app, hpr]
   simp [zbQ]
  generalize x.l[i] = e at hx2 hei hst
  simp only [show decide ((i : Int) < (x.l.length : Int)) = true from decide_eq_true (by omega), zb3, idx_ent hx2, zaa, ssH, zdx, zdv, reduceIte, zdw, zdA, zdy, zdz]
  refine zck (e := 5) (j := 2) (size := 1) (az := [entV e]) (by simp) rfl rfl (za8 _) (es2 := (pr ++ putE e).map by8) (zbS hpr0) (zbS (by simp [hpr0])) (fun mm mm' w hw => sPut_ok (.inl hw) e hei.1 (by have := hei.2; omega)) (zai _) (by simp only [zbW, nbS]) (zai _) fun k2 => ?_
  simp only [zdF, zdJ, zbb (show i < 4611686018427387904 by omega), ssH, zdx, zdv, reduceIte, zdw, zdA, zdy, zdz]
  exact ⟨_, hJ (n - 1) _ _ (by omega) (back (n - 1) (i + 1) 4 k2 rfl (by rw [hst]; rfl) rfl rfl rfl rfl rfl rfl (by decide) (by omega) (by omega))⟩
 ·simp only [show decide ((i : Int) < (x.l.length : Int)) = false from decide_eq_false (by omega), ssH, zdx, zdv, reduceIte, zdw, zdA, zdy, zdz]
  have hie : i = x.l.length := by omega
  rw [hie, List.take_length] at hpr
  subst hpr
  exact zae rfl ⟨2, k, rfl, rfl⟩
end
end Go.Av.Fn
/- Entries and logs got, az the program does. Conditions: az ahead. -/
namespace Go.Av
section
variable {P : Program} {Γ : Glob} {H : Nat → List (Nat × List Nat) × List Nat} {f : FuncId} {F : AFn} {gs : List Nat} {m : Store}
theorem acalls_cn (hm : P.follows .mixedOrders = true) (hF : zaj P H f = some F) (hok : F.body.okH gs = true) (hG : GOk Γ gs) {rb o : Nat} {az : List V} {X : Blk} (hb : m rb = some X) (hX : nbB 0 X) (ha : nbs 0 az) {Q : V → Blk → Prop}
  (h : hawp P Γ (fun _ _ => False) 1 F.body (bodyH F.res fun v h' => nb 0 (wN v) ∧ ∃ Y, lk h' 0 = some Y ∧ nbB 0 Y ∧ Q (wN v) Y) ⟨start F.ntmps (.ptr 0 o :: az), [some X]⟩) :
  zab P Γ f (.ptr rb o :: az) m fun o m' => ∃ v Y, o = .ret v ∧ m' = m.set rb Y ∧ Q v Y := by
 have h1 := acalls_h (P := P) (Γ := Γ) (R0 := fun a c => a = 0 ∧ c = rb) (N := 1) (m := one rb X) hm hF hok hG (args0 := .ptr 0 o :: az) (args := .ptr rb o :: az) (.cons (.ptr o ⟨rfl, rfl⟩) (ha.up _)) (hh_one hX) (fun _ _ q => by omega) (Q := fun o h' => match o with | .ret v => nb 0 (wN v) ∧ ∃ Y, lk h' 0 = some Y ∧ nbB 0 Y ∧ Q (wN v) Y | .pan _ => False) h
 have h2 := h1.frame (one_disj rb X (m := m))
 rw [one_del hb] at h2
 refine zab.wnd (R := fun o m' => ∃ v Y, o = .ret v ∧ m' = m.set rb Y ∧ Q (wN v) Y) (zab.less h2 ?_) ?_ ?_
 ·rintro o m'' ⟨m', rfl, d, S, o0, h', s1, s2, s3, s4⟩
  cases o0 with
  | pan v => exact s4.elim
  | ret v =>
   cases o with
   | pan v' => exact s3.elim
   | ret v' =>
    obtain ⟨q1, Y, q2, q3, q4⟩ := s4
    obtain ⟨Y', g1, g2⟩ := s2.blk _ _ _ (s1 _ _ ⟨rfl, rfl⟩) q2
    obtain rfl := nbB_eq q3 g2
    have e3 : wN v' = wN v := nb_eq q1 (VR.wN s3)
    refine ⟨m.set rb Y', ?_, v', Y', rfl, rfl, by rw [e3]; exact q4⟩
    intro b x hx
    by_cases e : b = rb
    ·subst e
     rw [Store.set_same] at hx
     cases hx
     simp only [Store.or, g1]
    ·rw [Store.set_ne _ _ e] at hx
     rcases d b with q | q
     ·simp only [Store.or, q, del, if_neg e]; exact hx
     ·simp only [del, if_neg e] at q
      rw [q] at hx
      cases hx
 ·rintro v m' ⟨v', Y, e, e2, q⟩
  cases e
  exact ⟨_, Y, rfl, e2, q⟩
 ·rintro v m' ⟨v', Y, e, _⟩
  cases e
end
end Go.Av
namespace Go.Av.Fn
set_option linter.unusedSimpArgs false
set_option linter.unusedVariables false
set_option maxRecDepth 10000
open Go.Proofs
def getE (s : List UInt8) (a : Nat) (e : Int) : Ent × Nat × Int :=
 let c := rInt s a e
 let q := rInt s c.2.1 c.2.2
 let k := rInt s q.2.1 q.2.2
 let n := rInt s k.2.1 k.2.2
 let t := zaG s n.2.1 n.2.2 255
 let d := getC s t.2.1 t.2.2
 (if d.2.2 ≠ 0 then e0 else ⟨c.1, q.1, k.1, n.1, t.1, d.1.1, d.1.2.1, d.1.2.2⟩, d.2.1, d.2.2)
theorem getE_le {s : List UInt8} {a : Nat} {e : Int} (ha : a ≤ s.length) : (getE s a e).2.1 ≤ s.length := by
 unfold getE
 exact getC_le (rText_le (zaQ (zaQ (zaQ (zaQ ha)))))
section
variable {Γ : Glob} {m : Store} {rb a : Nat} {s : List UInt8} {e : Int}
set_option maxHeartbeats 1600000 in
theorem sGet_ok (L : LibOk Γ) (hr : m rb = some (rdB s a e)) (ha : a ≤ s.length) (hs : s.length ≤ 281474976710656) :
  zab Tryz.prog Γ 91 [.ptr rb 0] m fun o m' => o = .ret (entV (getE s a e).1) ∧ m' = m.set rb (rdB s (getE s a e).2.1 (getE s a e).2.2) := by
 unfold getE
 obtain ⟨c, a1, e1, h1⟩ : ∃ x y z, rInt s a e = (x, y, z) := ⟨_, _, _, rfl⟩
 have l1 := zaQ (e := e) ha
 rw [h1] at l1
 obtain ⟨q, a2, e2, h2⟩ : ∃ x y z, rInt s a1 e1 = (x, y, z) := ⟨_, _, _, rfl⟩
 have l2 := zaQ (e := e1) l1
 rw [h2] at l2
 obtain ⟨k, a3, e3, h3⟩ : ∃ x y z, rInt s a2 e2 = (x, y, z) := ⟨_, _, _, rfl⟩
 have l3 := zaQ (e := e2) l2
 rw [h3] at l3
 obtain ⟨n, a4, e4, h4⟩ : ∃ x y z, rInt s a3 e3 = (x, y, z) := ⟨_, _, _, rfl⟩
 have l4 := zaQ (e := e3) l3
 rw [h4] at l4
 obtain ⟨t, a5, e5, h5⟩ : ∃ x y z, zaG s a4 e4 255 = (x, y, z) := ⟨_, _, _, rfl⟩
 have l5 := rText_le (most := 255) (e := e4) l4
 rw [h5] at l5
 obtain ⟨⟨dk, dn, dt⟩, a6, e6, h6⟩ : ∃ x y z, getC s a5 e5 = (x, y, z) := ⟨_, _, _, rfl⟩
 simp only at l1 l2 l3 l4 l5
 simp only [h1, h2, h3, h4, h5, h6]
 refine zcn (acalls_c mixed F91_ok F91_h zaA hr zay (by first | exact LR.nil | simp only [nbS]) ?_)
 simp only [F91, ss0, zdB, zdx]
 simp only [ssH, zdx, zdv, reduceIte, zdw, zdA, zdy, zdz]
 refine zaq (b := 0) (X := rdB s a e) rfl rfl (fun m b' h => wInt_ok h ha (by omega)) zay zay (by first | exact LR.nil | simp only [nbS]) (by first | exact LR.nil | simp only [nbS]) ?_
 simp only [h1, ssH, zdx, zdv, reduceIte, zdw, zdA, zdy, zdz]
 refine zaq (b := 0) (X := rdB s a1 e1) rfl rfl (fun m b' h => wInt_ok h l1 (by omega)) zay zay (by first | exact LR.nil | simp only [nbS]) (by first | exact LR.nil | simp only [nbS]) ?_
 simp only [h2, ssH, zdx, zdv, reduceIte, zdw, zdA, zdy, zdz]
 refine zaq (b := 0) (X := rdB s a2 e2) rfl rfl (fun m b' h => wInt_ok h l2 (by omega)) zay zay (by first | exact LR.nil | simp only [nbS]) (by first | exact LR.nil | simp only [nbS]) ?_
 simp only [h3, ssH, zdx, zdv, reduceIte, zdw, zdA, zdy, zdz]
 refine zaq (b := 0) (X := rdB s a3 e3) rfl rfl (fun m b' h => wInt_ok h l3 (by omega)) zay zay (by first | exact LR.nil | simp only [nbS]) (by first | exact LR.nil | simp only [nbS]) ?_
 simp only [h4, ssH, zdx, zdv, reduceIte, zdw, zdA, zdy, zdz]
 refine zaq (b := 0) (az := [it 255]) (X := rdB s a4 e4) rfl rfl (fun m b' h => wText_ok L 255 h l4 hs) zay zay (by first | exact LR.nil | simp only [nbS]) (by first | exact LR.nil | simp only [nbS]) ?_
 simp only [h5, ssH, zdx, zdv, reduceIte, zdw, zdA, zdy, zdz]
 refine zaq (b := 0) (X := rdB s a5 e5) rfl rfl (fun m b' h => get_ok L h l5 hs) zay zay (by first | exact LR.nil | simp only [nbS]) (nb_cmdT _) ?_
 simp only [h6, cmdT, cmdV, zaa, ssH, zdx, zdv, reduceIte, zdw, zdA, zdy, zdz]
 refine za1 (b := 0) rfl rfl (fun m b' h => wErr_ok h) zay (by first | exact LR.nil | simp only [nbS]) (by first | exact LR.nil | simp only [nbS]) ?_
 cases he : (e6 != 0)
 ·have h0 : e6 = 0 := by simpa using he
  subst h0
  simp only [he, zaa, ssH, zdx, zdv, reduceIte, zdw, zdA, zdy, zdz]
  exact zae (v := entV ⟨c, q, k, n, t, dk, dn, dt⟩) rfl ⟨zbW _, _, rfl, zay, by simp, rfl⟩
 ·have h0 : e6 ≠ 0 := by simpa using he
  simp only [he, zaa, ssH, zdx, zdv, reduceIte, zdw, zdA, zdy, zdz]
  exact zae (v := entV e0) rfl ⟨zbW _, _, rfl, zay, by rw [if_pos h0], rfl⟩
def zdn : Nat → List UInt8 → Nat → Int → List Ent × Nat × Int
 | 0, _, a, e => ([], a, e)
 | n + 1, s, a, e => if e = 0 then ((getE s a e).1 :: (zdn n s (getE s a e).2.1 (getE s a e).2.2).1, (zdn n s (getE s a e).2.1 (getE s a e).2.2).2) else ([], a, e)
theorem getEs_bad {n : Nat} {s : List UInt8} {a : Nat} {e : Int} (h : e ≠ 0) : zdn n s a e = ([], a, e) := by
 cases n with
 | zero => rfl
 | succ n => rw [zdn, if_neg h]
def getL (s : List UInt8) (a : Nat) (e : Int) : Lg × Nat × Int :=
 let b := rInt s a e
 let c := zaG s b.2.1 b.2.2 65536
 let n := zaz s c.2.1 c.2.2 1048576
 let r := zdn n.1.toNat s n.2.1 n.2.2
 (if r.2.2 ≠ 0 then lg0 else ⟨b.1, c.1, r.1⟩, r.2.1, r.2.2)
theorem rCount_rng {s : List UInt8} {a : Nat} {e : Int} : 0 ≤ (zaz s a e 1048576).1 ∧ (zaz s a e 1048576).1 ≤ 1048576 := by
 have hc : (zao (s.drop a) 1048576).1 ≤ 1048576 := by
  unfold zao
  (repeat' split) <;> simp <;> omega
 have := (zc6 (s.drop a) 1048576).2.1
 unfold zaz
 (repeat' split) <;> simp <;> omega
def Bo (out : List Ent) (tok : Tok) (r : Hl) : Prop := tok = .full ∧ out = [] ∧ r = [] ∨ ∃ k, tok = .tip 3 k ∧ out ≠ [] ∧ r = [some (.tip 60 k)]
theorem bo_app {Kp : V → Hl → Prop} {s : List (Tmp × Option (Tmp × Bool) × AOp)} {l : List Item} {K : HS → Prop} {t : List V} {d : Option Tmp} {X0 X1 X2 : Option Blk} {out : List Ent} {tok : Tok} {r : Hl} {e : Ent} (h : Bo out tok r) (hb : out.length ≤ 1500000)
  (hr : ∀ k, hth Tryz.prog Γ Kp s l K (hput t [X0, X1, X2, some (.tip 60 k)] d (some (.sl ((out ++ [e]).map entV) [] (.tip 3 k))))) : happS Tryz.prog Γ Kp 60 80 8 (.sl (out.map entV) [] tok) (.sl [entV e] [] .full) d s l K t (X0 :: X1 :: X2 :: r) := by
 have he : elemsB 8 [entV e] = true := rfl
 rw [zd8] at hr
 rcases h with ⟨rfl, rfl, rfl⟩ | ⟨k, rfl, h0, rfl⟩
 ·exact happ_full (ys := [entV e]) rfl (by simp) (by simp) rfl he (by simp) (hr 0)
 ·exact happ_tip (j := 3) (k := k) (x := .sl [entV e] [] .full) (ys := [entV e]) rfl (by simp) (by simpa using h0) rfl (szOk_ents out) he (by simp; omega) (hr (k + 1))
theorem bo_wN {out : List Ent} {tok : Tok} {r : Hl} (h : Bo out tok r) : wN (.sl (out.map entV) [] tok) = entsN out := by
 rcases h with ⟨rfl, rfl, rfl⟩ | ⟨k, rfl, h0, rfl⟩
 ·rfl
 ·rw [wN_some (.inl h0), entsN]
  cases out with
  | nil => exact absurd rfl h0
  | cons e l => rfl
theorem bo_nb {out : List Ent} {tok : Tok} {r : Hl} (h : Bo out tok r) : nb (3 + r.length) (.sl (out.map entV) [] tok) := by
 rcases h with ⟨rfl, rfl, rfl⟩ | ⟨k, rfl, _, rfl⟩
 ·simp only [List.map_nil, nbS]
 ·have := nbs_map (k := 4) zbW out
  simp only [zdF, zdJ, this, nbS]
  decide
theorem bo_len {out : List Ent} {tok : Tok} {r : Hl} (h : Bo out tok r) : r.length ≤ 1 := by
 rcases h with ⟨rfl, rfl, rfl⟩ | ⟨k, rfl, _, rfl⟩ <;> simp
def lgZ : Blk := .var 56 [it 0, bs [], .sl [] [] .full]
def lgT (b : Int) (c : List UInt8) (out : List Ent) (tok : Tok) : Blk := .var 56 [it b, bs c, .sl (out.map entV) [] tok]
theorem bo_blk {b : Int} {c : List UInt8} {out : List Ent} {tok : Tok} {r : Hl} (h : Bo out tok r) : ∀ i < 3 + r.length, ∀ x, lk (some (rdB s a e) :: some lgZ :: some (lgT b c out tok) :: r) i = some x → nbB (3 + r.length) x := by
 intro i hi x hx
 have hv := bo_nb h
 have : i = 0 ∨ i = 1 ∨ i = 2 ∨ i = 3 := by have := bo_len h; omega
 rcases this with rfl | rfl | rfl | rfl
 ·cases hx; exact zay
 ·cases hx; simp only [lgZ, nbS]
 ·cases hx; simp only [lgT, hv, nbS]
 ·rcases h with ⟨rfl, rfl, rfl⟩ | ⟨k, rfl, _, rfl⟩
  ·cases hx
  ·cases hx; simp only [nbS]
set_option maxHeartbeats 1600000 in
theorem oGet_ok (L : LibOk Γ) (hr : m rb = some (rdB s a e)) (ha : a ≤ s.length) (hs : s.length ≤ 281474976710656) :
  zab Tryz.prog Γ 49 [.ptr rb 0] m fun o m' => o = .ret (lgN (getL s a e).1) ∧ m' = m.set rb (rdB s (getL s a e).2.1 (getL s a e).2.2) := by
 unfold getL
 obtain ⟨b, a1, e1, h1⟩ : ∃ x y z, rInt s a e = (x, y, z) := ⟨_, _, _, rfl⟩
 have l1 := zaQ (e := e) ha
 rw [h1] at l1
 obtain ⟨c, a2, e2, h2⟩ : ∃ x y z, zaG s a1 e1 65536 = (x, y, z) := ⟨_, _, _, rfl⟩
 have l2 := rText_le (most := 65536) (e := e1) l1
 rw [h2] at l2
 have hcr := rCount_rng (s := s) (a := a2) (e := e2)
 obtain ⟨n0, a3, e3, h3⟩ : ∃ x y z, zaz s a2 e2 1048576 = (x, y, z) := ⟨_, _, _, rfl⟩
 have l3 := rCount_le (most := 1048576) (e := e2) l2
 rw [h3] at l3 hcr
 simp only at l1 l2 l3 hcr
 obtain ⟨n1, rfl⟩ := Int.eq_ofNat_of_zero_le hcr.1
 simp only [h1, h2, h3, Int.toNat_natCast]
 have hn1 : n1 ≤ 1048576 := by omega
 refine zcn (acalls_cn mixed F49_ok F49_h zaA hr zay (by first | exact LR.nil | simp only [nbS]) ?_)
 simp only [F49, ss0, zdB, zdx]
 simp only [ssH, zdx, zdv, reduceIte, zdw, zdA, zdy, zdz]
 refine zaq (b := 0) (X := rdB s a e) rfl rfl (fun m b' h => wInt_ok h ha (by omega)) zay zay (by first | exact LR.nil | simp only [nbS]) (by first | exact LR.nil | simp only [nbS]) ?_
 simp only [h1, ssH, zdx, zdv, reduceIte, zdw, zdA, zdy, zdz]
 refine zaq (b := 0) (az := [it 65536]) (X := rdB s a1 e1) rfl rfl (fun m b' h => wText_ok L 65536 h l1 hs) zay zay (by first | exact LR.nil | simp only [nbS]) (by first | exact LR.nil | simp only [nbS]) ?_
 simp only [h2, zaa, ssH, zdx, zdv, reduceIte, zdw, zdA, zdy, zdz]
 refine zaq (b := 0) (az := [it 1048576]) (X := rdB s a2 e2) rfl rfl (fun m b' h => wCount_ok 1048576 h l2 hs) zay zay (by first | exact LR.nil | simp only [nbS]) (by first | exact LR.nil | simp only [nbS]) ?_
 simp only [h3, ssH, zdx, zdv, reduceIte, zdw, zdA, zdy, zdz]
 generalize hQ : zbL 0 _ = Q
 have tail : ∀ {t' : List V} {a : Nat} {e : Int} {out : List Ent} {tok : Tok} {r : Hl}, t'.length = 33 → tget t' 0 = .ptr 0 0 → tget t' 2 = .ptr 1 0 → tget t' 3 = .ptr 2 0 → Bo out tok r → zdn n1 s a3 e3 = (out, a, e) →
   Q (.exit 0) ⟨t', some (rdB s a e) :: some lgZ :: some (lgT b c out tok) :: r⟩ := by
  intro t' a e out tok r hlt q0 q2 q3 hB hg
  rw [← hQ, t_eq hlt]
  simp only [zaY, upTo, q0, q2, q3, hg, lgZ, lgT, ssH, zdx, zdv, reduceIte, zdw, zdA, zdy, zdz]
  refine za1 (b := 0) (X := rdB s a e) rfl rfl (fun m b' h => wErr_ok h) zay (by first | exact LR.nil | simp only [nbS]) (by first | exact LR.nil | simp only [nbS]) ?_
  cases he : (e != 0)
  ·have h0 : e = 0 := by simpa using he
   subst h0
   have hw : wN (.agg [it b, bs c, .sl (out.map entV) [] tok]) = lgN ⟨b, c, out⟩ := by
    have := bo_wN hB
    simp only [wN, wNs] at this ⊢
    rw [this]
    rfl
   simp only [he, zaa, ssH, zdx, zdv, reduceIte, zdw, zdA, zdy, zdz]
   exact zae (v := .agg [it b, bs c, .sl (out.map entV) [] tok]) rfl ⟨by rw [hw]; exact nb_lgN, _, rfl, zay, by rw [hw, if_neg (by simp)], rfl⟩
  ·have h0 : e ≠ 0 := by simpa using he
   simp only [he, zaa, ssH, zdx, zdv, reduceIte, zdw, zdA, zdy, zdz]
   exact zae (v := .agg [it 0, bs [], .sl [] [] .full]) rfl ⟨nb_lgN (x := lg0), _, rfl, zay, by rw [if_pos h0]; rfl, rfl⟩
 refine h_loop [0, 2, 3, 4] 33 (fun n vs h => ∃ (j a : Nat) (e : Int) (out : List Ent) (tok : Tok) (r : Hl), vs = [.ptr 0 0, .ptr 1 0, .ptr 2 0, it j] ∧ h = some (rdB s a e) :: some lgZ :: some (lgT b c out tok) :: r ∧ Bo out tok r ∧ a ≤ s.length ∧ n = j + 1 ∧ j + out.length ≤ n1 ∧ zdn n1 s a3 e3 = (out ++ (zdn j s a e).1, (zdn j s a e).2)) (n1 + 1) (by decide) (by decide) (zdQ 3) (zaV rfl (by decide) (by decide) (by simp) ?_ ?_ ⟨n1, a3, e3, [], .full, [], rfl, rfl, .inl ⟨rfl, rfl, rfl⟩, l3, rfl, by simp, rfl⟩) ?_
 ·show nbs 3 [.ptr 0 0, .ptr 1 0, .ptr 2 0, it n1]
  simp only [nbS]
  decide
 ·exact bo_blk (r := []) (.inl ⟨rfl, rfl, rfl⟩)
 rintro n t h J hJ hlt ⟨j, a, e, out, tok, r, hv, rfl, hB, hle, hn, hjo, hg⟩
 simp only [List.map, List.cons.injEq, and_true] at hv
 obtain ⟨g0, g2, g3, g4⟩ := hv
 rw [t_eq hlt]
 simp only [zaY, upTo, g0, g2, g3, g4, gt_iff_lt, ssH, zdx, zdv, reduceIte, zdw, zdA, zdy, zdz]
 by_cases hj : 0 < j
 ·simp only [show decide ((0 : Int) < (j : Int)) = true from decide_eq_true (by omega), ssH, zdx, zdv, reduceIte, zdw, zdA, zdy, zdz]
  refine za1 (b := 0) (X := rdB s a e) rfl rfl (fun m b' h => wErr_ok h) zay (by first | exact LR.nil | simp only [nbS]) (by first | exact LR.nil | simp only [nbS]) ?_
  cases he : (e == 0)
  ·have h0 : e ≠ 0 := by simpa using he
   rw [getEs_bad h0] at hg
   simp only [he, ssH, zdx, zdv, reduceIte, zdw, zdA, zdy, zdz]
   exact tail rfl rfl rfl rfl hB (by rw [hg, zdV])
  ·have h0 : e = 0 := by simpa using he
   subst h0
   obtain ⟨j, rfl⟩ : ∃ i, j = i + 1 := ⟨j - 1, by omega⟩
   have l4 := getE_le (e := 0) hle
   obtain ⟨x, a4, e4, h4⟩ : ∃ x y z, getE s a 0 = (x, y, z) := ⟨_, _, _, rfl⟩
   rw [zdn, if_pos rfl, h4] at hg
   rw [h4] at l4
   have hw : IntKind.i64.wrap (((j + 1 : Nat) : Int) - 1) = (j : Int) := by rw [wrap_i64 (by omega) (by omega)]; omega
   simp only [he, lgT, ssH, zdx, zdv, reduceIte, zdw, zdA, zdy, zdz]
   refine zaq (b := 0) (X := rdB s a 0) rfl rfl (fun m b' h => sGet_ok L h hle hs) zay zay (by first | exact LR.nil | simp only [nbS]) (zbW _) ?_
   simp only [h4, entV, litE_eq, litE_ent, ssH, zdx, zdv, reduceIte, zdw, zdA, zdy, zdz]
   refine bo_app hB (by omega) fun k => ?_
   simp only [zcD, oneV_sl, hw, ssH, zdx, zdv, reduceIte, zdw, zdA, zdy, zdz]
   have hB2 : Bo (out ++ [x]) (.tip 3 k) [some (.tip 60 k)] := .inr ⟨k, rfl, by simp, rfl⟩
   refine ⟨_, hJ (j + 1) (zdQ 4) _ (by omega) (zaV rfl (by decide) (by decide) (by simp) ?_ (bo_blk hB2 (s := s) (a := a4) (e := e4) (b := b) (c := c)) ⟨j, a4, e4, out ++ [x], .tip 3 k, _, rfl, rfl, hB2, l4, rfl, by simp; omega, by rw [hg]; simp⟩)⟩
   show nbs 4 [.ptr 0 0, .ptr 1 0, .ptr 2 0, it j]
   simp only [nbS]
   decide
 ·have hj0 : j = 0 := by omega
  subst hj0
  simp only [show decide ((0 : Int) < ((0 : Nat) : Int)) = false from rfl, ssH, zdx, zdv, reduceIte, zdw, zdA, zdy, zdz]
  rw [zdn] at hg
  exact tail rfl rfl rfl rfl hB (by rw [hg, zdV])
end
theorem gI {s p r : List UInt8} {n : Int} (hn : Av.I64 n) (h : s = p ++ (uz n ++ r)) : rInt s p.length 0 = (n, (p ++ uz n).length, 0) ∧ s = (p ++ uz n) ++ r := by
 refine ⟨?_, by rw [h, zdK]⟩
 rw [h, zdE]
 exact rInt_put hn p r
theorem gT {s p r x : List UInt8} (most : Nat) (hx : x.length ≤ most) (hm : most < 9223372036854775808) (h : s = p ++ (uz x.length ++ (x ++ r))) : zaG s p.length 0 most = (x, (p ++ uz x.length ++ x).length, 0) ∧ s = (p ++ uz x.length ++ x) ++ r := by
 refine ⟨?_, by rw [h]; simp only [zdK]⟩
 have := rText_put (s := x) (by omega) p r most
 rw [if_neg (by omega)] at this
 rw [h, show (p ++ uz x.length ++ x).length = p.length + ((uz x.length).length + x.length) by simp only [zdE]; omega]
 exact this
theorem gC {s p r x : List UInt8} {k n : Int} (hk : Av.I64 k) (hn : Av.I64 n) (hx : x.length ≤ 255) (h : s = p ++ (putC k n x ++ r)) : getC s p.length 0 = ((k, n, x), (p ++ putC k n x).length, 0) ∧ s = (p ++ putC k n x) ++ r := by
 refine ⟨?_, by rw [h, zdK]⟩
 rw [h, zdE]
 exact getC_put hk hn hx p r
theorem gE {s p r : List UInt8} {e : Ent} (he : EntS e) (h : s = p ++ (putE e ++ r)) : getE s p.length 0 = (e, (p ++ putE e).length, 0) ∧ s = (p ++ putE e) ++ r := by
 refine ⟨?_, by rw [h, zdK]⟩
 obtain ⟨⟨h1, h2, h3, h4, h5, h6⟩, hs, hc⟩ := he
 have e0 : s = p ++ (uz e.c ++ (uz e.q ++ (uz e.k ++ (uz e.n ++ (uz e.s.length ++ (e.s ++ (putC e.ck e.cn e.cs ++ r))))))) := by
  rw [h]
  simp only [putE, zbj, zdK, zdV]
 obtain ⟨a1, b1⟩ := gI h1 e0
 obtain ⟨a2, b2⟩ := gI h2 b1
 obtain ⟨a3, b3⟩ := gI h3 b2
 obtain ⟨a4, b4⟩ := gI h4 b3
 obtain ⟨a5, b5⟩ := gT 255 hs (by decide) b4
 obtain ⟨a6, b6⟩ := gC h5 h6 hc b5
 unfold getE
 simp only [a1, a2, a3, a4, show zaG s (p ++ uz e.c ++ uz e.q ++ uz e.k ++ uz e.n).length 0 255 = _ from a5, a6]
 refine Prod.ext (by simp) (Prod.ext ?_ rfl)
 simp only [putE, zbj, zdE, zdJ]
 omega
theorem lgB_iff {x : Lg} : lgB x = true ↔ 0 ≤ x.b ∧ x.b ≤ 2147483647 ∧ x.c.length ≤ 65536 ∧ (x.c = [] ↔ x.b = 0) ∧ x.l.length ≤ 64 ∧ (x.l.length : Int) ≤ 2147483647 - x.b ∧ ∀ e ∈ x.l, entB e = true := by
 simp only [lgB, zdD, decide_eq_true_eq, List.all_eq_true, beq_iff_eq, and_assoc]
 have : ((x.c == []) = (x.b == 0)) ↔ (x.c = [] ↔ x.b = 0) := by
  rw [Bool.eq_iff_iff]
  simp
 rw [this]
structure Inv (nn : Bool) (x : Lg) (L : List Ent) : Prop where
 nil : nn = true ∨ x.l = []
 right : lgB x = true
 len : x.b + x.l.length = L.length
 ent : x.l = L.drop x.b.toNat
 nums : ∀ e ∈ x.l, EntN e
theorem Inv.base {nn : Bool} {x : Lg} {L : List Ent} (h : Inv nn x L) : 0 ≤ x.b ∧ x.b ≤ L.length ∧ x.l.length ≤ 64 ∧ x.b ≤ 2147483647 := by
 have h1 := lgB_iff.1 h.right
 have h2 := h.len
 omega
theorem Inv.cut {nn : Bool} {x : Lg} {L : List Ent} (h : Inv nn x L) {n : Nat} (hn : n ≤ x.l.length) : Inv nn ⟨x.b, x.c, x.l.take n⟩ (L.take (x.b + n).toNat) := by
 have hb := h.base
 have hr := lgB_iff.1 h.right
 have hl := h.len
 refine ⟨h.nil.imp id fun q => by simp [q], lgB_iff.2 ⟨hr.1, hr.2.1, hr.2.2.1, hr.2.2.2.1, ?_, ?_, ?_⟩, ?_, ?_, ?_⟩
 ·simp only [zdZ]; omega
 ·simp only [zdZ]; omega
 ·exact fun e he => hr.2.2.2.2.2.2 e (List.mem_of_mem_take he)
 ·show x.b + ((x.l.take n).length : Int) = ((L.take (x.b + n).toNat).length : Int)
  simp only [zdZ]
  omega
 ·show x.l.take n = (L.take (x.b + n).toNat).drop x.b.toNat
  rw [h.ent, List.drop_take, show (x.b + (n : Int)).toNat - x.b.toNat = n by omega]
 ·exact fun e he => h.nums e (List.mem_of_mem_take he)
theorem Inv.comp {nn : Bool} {x : Lg} {L : List Ent} (h : Inv nn x L) {n : Nat} (hn : n ≤ x.l.length) (h0 : 0 < n) : Inv nn ⟨x.b + n, [99], x.l.drop n⟩ L := by
 have hb := h.base
 have hr := lgB_iff.1 h.right
 have hl := h.len
 refine ⟨h.nil.imp id fun q => by simp [q], lgB_iff.2 ⟨?_, ?_, ?_, ?_, ?_, ?_, ?_⟩, ?_, ?_, ?_⟩
 ·simp only; omega
 ·simp only; omega
 ·simp
 ·simp only [List.cons_ne_nil, false_iff]; omega
 ·simp; omega
 ·simp; omega
 ·exact fun e he => hr.2.2.2.2.2.2 e (List.mem_of_mem_drop he)
 ·simp; omega
 ·show x.l.drop n = L.drop (x.b + n).toNat
  rw [h.ent, List.drop_drop]
  congr 1
  omega
 ·exact fun e he => h.nums e (List.mem_of_mem_drop he)
theorem Inv.app {nn : Bool} {x : Lg} {L : List Ent} (h : Inv nn x L) {e : Ent} (he : entB e = true) (hn : EntN e) (h1 : x.l.length < 64) (h2 : x.b + x.l.length < 2147483647) : Inv true ⟨x.b, x.c, x.l ++ [e]⟩ (L ++ [e]) := by
 have hb := h.base
 have hr := lgB_iff.1 h.right
 have hl := h.len
 refine ⟨.inl rfl, lgB_iff.2 ⟨hr.1, hr.2.1, hr.2.2.1, hr.2.2.2.1, ?_, ?_, ?_⟩, ?_, ?_, ?_⟩
 ·simp; omega
 ·simp; omega
 ·intro y hy
  rcases List.mem_append.1 hy with q | q
  ·exact hr.2.2.2.2.2.2 y q
  ·rw [List.mem_singleton.1 q]; exact he
 ·simp; omega
 ·show x.l ++ [e] = (L ++ [e]).drop x.b.toNat
  rw [List.drop_append_of_le_length (by omega), ← h.ent]
 ·intro y hy
  rcases List.mem_append.1 hy with q | q
  ·exact h.nums y q
  ·rw [List.mem_singleton.1 q]; exact hn
theorem Inv.again {nn : Bool} {x : Lg} {L : List Ent} (h : Inv nn x L) : Inv (!x.l.isEmpty) x L := ⟨entsN_nil, h.right, h.len, h.ent, h.nums⟩
end Go.Av.Fn
/- A log az a list of all entries: slices that are cut and put behind. No condition. -/
namespace Go.Av
def TokC (k : Tok) : Prop := TokR (fun _ _ => False) k k
def TokA (k : Tok) : Prop := TokC k ∨ ∃ j v, k = .tip j v ∧ 1 ≤ j
def Tok1 (k : Tok) : Prop := TokC k ∨ ∃ v, k = .tip 1 v
theorem Tok1.a {k : Tok} (h : Tok1 k) : TokA k := h.imp id fun ⟨v, e⟩ => ⟨1, v, e, zd1 _⟩
section
variable {t : List V} {h : Hl}
end
end Go.Av
namespace Go.Av.Fn
set_option linter.unusedSimpArgs false
set_option linter.unusedVariables false
set_option maxRecDepth 10000
open Go.Proofs
structure Act where
 k : Int
 op : Int
 e : Ent
section
variable {Γ : Glob} {m : Store}
end
end Go.Av.Fn
