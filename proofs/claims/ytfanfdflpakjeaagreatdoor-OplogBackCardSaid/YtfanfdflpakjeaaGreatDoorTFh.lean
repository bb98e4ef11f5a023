/- The functions that may be gone through over blocks in turn. No condition. -/
import Derived.LaidEql
import Derived.Lib.VarintBits
import Derived.Lib.VarintDec
import Derived.Lib.Zigzag
import Derived.RowKitTokens
import Derived.Stop.Asserts
import Derived.Test.YtfanfdflpakjeaaGreatDoorProg
import Derived.WalkKit
import Derived.Test.YtfanfdflpakjeaaGreatDoorTAvX
open Bool renaming and_eq_true → ze2, eq_iff_iff → zfF, or_eq_true → zfC, false_eq_true → ze3
open Int renaming fdiv_eq_ediv_of_nonneg → zfH
open List renaming mem_singleton → zfw, map_append → zfA, length_cons → ze1, getElem?_eq_getElem → ze8, drop_eq_getElem_cons → zfi, take_add_one → zfh, takeWhile_cons_of_pos → zfn, getElem?_eq_none → zfL, length_drop → zfl, length_map → zfk, drop_length → zfD, isPrefixOf → zfO, drop_drop → zfu, takeWhile_sublist → zff, getD_eq_getElem?_getD → ze7
open Nat renaming reduceSub → ze0, reduceAdd → zeV, reduceLeDiff → zeT, reduceEqDiff → zeU
open Option renaming toList_some → zfN
namespace Go.Av.Fn
set_option maxRecDepth 100000
theorem F51_h : F51.body.okH [] = true := by kernel_rfl
theorem F63_h : F63.body.okH [] = true := by kernel_rfl
theorem F83_h : F83.body.okH [] = true := by kernel_rfl
theorem F87_h : F87.body.okH [] = true := by kernel_rfl
theorem F91_h : F91.body.okH [] = true := by kernel_rfl
theorem F119_h : F119.body.okH [] = true := by kernel_rfl
theorem F123_h : F123.body.okH [] = true := by kernel_rfl
theorem F133_h : F133.body.okH [] = true := by kernel_rfl
theorem F156_h : F156.body.okH [] = true := by kernel_rfl
theorem F182_h : F182.body.okH [] = true := by kernel_rfl
theorem F186_h : F186.body.okH [] = true := by kernel_rfl
theorem F210_h : F210.body.okH [] = true := by kernel_rfl
theorem F36_h : F36.body.okH [] = true := by kernel_rfl
theorem F40_h : F40.body.okH [] = true := by kernel_rfl
theorem F84_h : F84.body.okH [] = true := by kernel_rfl
theorem F120_h : F120.body.okH [] = true := by kernel_rfl
theorem F153_h : F153.body.okH [] = true := by kernel_rfl
theorem F183_h : F183.body.okH [] = true := by kernel_rfl
theorem F211_h : F211.body.okH [] = true := by kernel_rfl
theorem F13_h : F13.body.okH [] = true := by kernel_rfl
theorem F41_h : F41.body.okH [] = true := by kernel_rfl
theorem F49_h : F49.body.okH [] = true := by kernel_rfl
theorem F53_h : F53.body.okH [] = true := by kernel_rfl
theorem F97_h : F97.body.okH [] = true := by kernel_rfl
theorem F105_h : F105.body.okH [] = true := by kernel_rfl
theorem F117_h : F117.body.okH [] = true := by kernel_rfl
theorem F121_h : F121.body.okH [] = true := by kernel_rfl
theorem F130_h : F130.body.okH [] = true := by kernel_rfl
theorem F154_h : F154.body.okH [] = true := by kernel_rfl
theorem F212_h : F212.body.okH [] = true := by kernel_rfl
theorem F226_h : F226.body.okH [] = true := by kernel_rfl
theorem F82_h : F82.body.okH [] = true := by kernel_rfl
theorem F106_h : F106.body.okH [] = true := by kernel_rfl
theorem F118_h : F118.body.okH [] = true := by kernel_rfl
theorem F155_h : F155.body.okH [] = true := by kernel_rfl
theorem F209_h : F209.body.okH [] = true := by kernel_rfl
theorem F227_h : F227.body.okH [] = true := by kernel_rfl
end Go.Av.Fn
/- Numbers as bytes: shifts, folds and unfolds as the program computes them; the number that bytes begin with. No condition. -/
namespace Go.Av
open Go.Lib
set_option linter.unusedSimpArgs false
set_option linter.unusedVariables false
section
variable {P : Program} {T : TypeId} {xo yo : Operand} {k yk : IntKind} {a b : Int}
theorem bin_shl (h : 0 ≤ b) : binV P .shl T .other xo yo (.val (.int k a)) (.val (.int yk b)) = some (.val (.int k (k.wrap (a * 2 ^ (min b.toNat k.bits))))) := by
 simp [binV, zb4, zaJ, raw, eqGuard, binOp, zay, Op.shift, zbo, pure, bind, Sem.bind, h, Int.not_lt.2 h]
theorem bin_shr (h : 0 ≤ b) : binV P .shr T .other xo yo (.val (.int k a)) (.val (.int yk b)) = some (.val (.int k (a.fdiv (2 ^ (min b.toNat k.bits))))) := by
 simp [binV, zb4, zaJ, raw, eqGuard, binOp, zay, Op.shift, zbo, pure, bind, Sem.bind, h, Int.not_lt.2 h]
theorem bin_xorb : binV P .xor T .other xo yo (.val (.int k a)) (.val (.int k b)) = some (.val (.int k (bits .xor k a b))) := by
 simp [binV, zb4, zaJ, raw, eqGuard, binOp, zay, Op.intBits, zbo, pure, bind, Sem.bind, bits]
theorem bin_orb : binV P .or T .other xo yo (.val (.int k a)) (.val (.int k b)) = some (.val (.int k (bits .or k a b))) := by
 simp [binV, zb4, zaJ, raw, eqGuard, binOp, zay, Op.intBits, zbo, pure, bind, Sem.bind, bits]
theorem bin_andb : binV P .and T .other xo yo (.val (.int k a)) (.val (.int k b)) = some (.val (.int k (bits .and k a b))) := by
 simp [binV, zb4, zaJ, raw, eqGuard, binOp, zay, Op.intBits, zbo, pure, bind, Sem.bind, bits]
end
section
variable {P : Program} {Γ : Glob} {Kp : V → Store → Prop} {l : List Item} {K : St → Prop} {t : List V} {m m' : Store} {d : Option Tmp} {s : List (Tmp × Option (Tmp × Bool) × AOp)}
theorem appS_bufs {e : TypeId} {bytes : Nat} {v x : V} {es ys : List V} (h : Buf e 1 m m' v es) (hx : extra m' 1 x = some ys) (hy : zdz 1 ys) (hl : (es.length + ys.length) * bytes ≤ 140737488355328)
  (hk : ∀ m2 v2, Buf e 1 m m2 v2 (es ++ ys) → zb0 P Γ Kp s l K (putO t m2 d (some v2))) : appS P Γ Kp e bytes 1 v x d s l K t m' := by
 have hsz : szOk 1 (es ++ ys) = true := by
  have := h.1
  simp only [szOk, List.all_append, ze2] at this ⊢
  refine ⟨this, List.all_eq_true.2 fun y hyy => ?_⟩
  simp [(hy y hyy).1]
 obtain ⟨tok, hv⟩ := h.val
 have hb := h
 rcases h.2 with ⟨rfl, rfl, rfl⟩ | ⟨hne, b, k, hbn, rfl, rfl⟩
 ·simp only [appS, opE, hx]
  refine ⟨fun e0 => ?_, fun e0 => ⟨rfl, hy, .inl (by simpa using hl), trivial, fun b hb => ?_⟩⟩
  ·subst e0
   exact hk _ _ ⟨rfl, .inl ⟨rfl, rfl, rfl⟩⟩
  ·exact hk _ _ ⟨hsz, .inr ⟨by simpa using e0, b, 0, hb, rfl, rfl⟩⟩
 ·simp only [appS, opE, hx]
  refine ⟨fun e0 => ?_, fun e0 => ⟨h.1, hy, .inl hl, trivial, hne, Store.set_same _ _ _, ?_⟩⟩
  ·subst e0
   exact hk _ _ (by rw [List.append_nil]; exact hb)
  ·rw [Store.set_set]
   exact hk _ _ ⟨hsz, .inr ⟨by simp [hne], b, k + 1, hbn, rfl, rfl⟩⟩
theorem elemsOk_by8 (l : List UInt8) : zdz 1 (l.map by8) := by
 intro y hy
 obtain ⟨b, _, rfl⟩ := List.mem_map.1 hy
 exact ⟨rfl, fun c hc => by simp only [V.cells, zfw] at hc; subst hc; rfl⟩
theorem extra_bs {m : Store} (l : List UInt8) : extra m 1 (bs l) = some (l.map by8) := by
 simp [extra, bs, bytesV]
end
def I64 (n : Int) : Prop := -9223372036854775808 ≤ n ∧ n < 9223372036854775808
theorem fold_eq {n : Int} (h : I64 n) : bits .xor .u64 (IntKind.u64.wrap (IntKind.u64.wrap n * 2 ^ (min (Int.toNat 1) IntKind.u64.bits))) (IntKind.u64.wrap (n.fdiv (2 ^ (min (Int.toNat 63) IntKind.i64.bits)))) = (zigzag n : Int) := by
 obtain ⟨h1, h2⟩ := h
 have e1 : min (Int.toNat 1) IntKind.u64.bits = 1 := by decide
 have e2 : min (Int.toNat 63) IntKind.i64.bits = 63 := by decide
 rw [e1, e2, IntKind.wrap_u64, IntKind.wrap_u64, IntKind.wrap_u64]
 by_cases hn : 0 ≤ n
 ·have e3 : n.fdiv (2 ^ 63) = 0 := by
   rw [zfH _ (by decide)]
   exact Int.ediv_eq_zero_of_lt hn (by omega)
  rw [e3]
  have e4 : n % 18446744073709551616 * 2 ^ 1 % 18446744073709551616 = ((2 * n.toNat : Nat) : Int) := by omega
  rw [e4, show (0 : Int) % 18446744073709551616 = ((0 : Nat) : Int) from rfl, bits_xor_u64_nat _ _ (by omega) (by decide), Nat.xor_zero]
  unfold zigzag
  rw [if_pos hn]
  omega
 ·have e3 : n.fdiv (2 ^ 63) = -1 := by
   rw [zfH _ (by decide)]
   omega
  rw [e3]
  have e4 : n % 18446744073709551616 * 2 ^ 1 % 18446744073709551616 = (((2 * n + 18446744073709551616).toNat : Nat) : Int) := by omega
  have e5 : (-1 : Int) % 18446744073709551616 = ((2 ^ 64 - 1 : Nat) : Int) := by decide
  rw [e4, e5, bits_xor_u64_nat _ _ (by omega) (by decide), Nat.xor_comm, xor_ones64 _ (by omega)]
  unfold zigzag
  rw [if_neg hn]
  omega
theorem zigzag_u64 {n : Int} (h : I64 n) : zigzag n < 18446744073709551616 := zigzag_lt h.1 (by have := h.2; omega)
theorem unzigzag_i64 {u : Nat} (h : u < 18446744073709551616) : I64 (unzigzag u) := by
 unfold unzigzag I64
 split <;> omega
theorem unzigzag_zigzag (n : Int) : unzigzag (zigzag n) = n := by
 unfold unzigzag zigzag
 split <;> split <;> omega
theorem i64_notneg (x : Nat) (hx : x < 9223372036854775808) : bits .xor .i64 (x : Int) (-1) = -(x : Int) - 1 := by
 have h := i64_not x hx
 show IntKind.i64.wrap ((BitVec.ofInt 64 (x : Int) ^^^ BitVec.ofInt 64 (-1)).toNat : Int) = _
 rw [BitVec.xor_comm]
 exact h
theorem i64_xor0 (x : Nat) (hx : x < 9223372036854775808) : bits .xor .i64 (x : Int) 0 = (x : Int) := by
 show IntKind.i64.wrap ((BitVec.ofInt 64 (x : Int) ^^^ BitVec.ofInt 64 0).toNat : Int) = _
 have h1 : (BitVec.ofInt 64 (0 : Int)) = 0#64 := by decide
 have h2 : (BitVec.ofInt 64 (x : Int)).toNat = x := by
  rw [BitVec.ofInt_natCast, BitVec.toNat_ofNat]; exact Nat.mod_eq_of_lt (by omega)
 rw [h1, BitVec.xor_zero, h2, wrap_i64 (by omega) (by omega)]
theorem unfold_eq {u : Nat} (h : u < 18446744073709551616) : bits .xor .i64 (IntKind.i64.wrap ((u : Int).fdiv (2 ^ (min (Int.toNat 1) IntKind.u64.bits)))) (IntKind.i64.wrap (0 - IntKind.i64.wrap (bits .and .u64 (u : Int) 1))) = unzigzag u := by
 have e1 : min (Int.toNat 1) IntKind.u64.bits = 1 := by decide
 rw [e1, u64_and1 _ (by omega) (by omega)]
 have e3 : (u : Int).fdiv (2 ^ 1) = ((u / 2 : Nat) : Int) := by
  rw [zfH _ (by decide)]
  omega
 rw [e3, wrap_i64 (n := ((u / 2 : Nat) : Int)) (by omega) (by omega), wrap_i64 (n := (u : Int) % 2) (by omega) (by omega), wrap_i64 (by omega) (by omega)]
 unfold unzigzag
 by_cases hu : u % 2 = 0
 ·rw [if_pos hu, show (0 : Int) - (u : Int) % 2 = 0 by omega, i64_xor0 _ (by omega)]
 ·rw [if_neg hu, show (0 : Int) - (u : Int) % 2 = -1 by omega, i64_notneg _ (by omega)]
theorem or128 (f : Nat) : bits .or .u8 (IntKind.u8.wrap (f : Int)) 128 = ((f % 128 + 128 : Nat) : Int) := by
 rw [IntKind.wrap_u8, u8_or128_any _ (by omega) (by omega)]
 omega
theorem by8_big (f : Nat) : V.val (.int .u8 ((f % 128 + 128 : Nat) : Int)) = by8 (f % 128 + 128).toUInt8 := by
 have : (f % 128 + 128).toUInt8.toNat = f % 128 + 128 := by
  show (UInt8.ofNat _).toNat = _
  rw [UInt8.toNat_ofNat']
  omega
 rw [by8, this]
theorem by8_small {f : Nat} (h : f < 128) : V.val (.int .u8 (IntKind.u8.wrap (f : Int))) = by8 f.toUInt8 := by
 have : f.toUInt8.toNat = f := by
  show (UInt8.ofNat _).toNat = _
  rw [UInt8.toNat_ofNat']
  omega
 rw [by8, this, IntKind.wrap_u8]
 congr 2
 omega
theorem shr7 (f : Nat) : (f : Int).fdiv (2 ^ (min (Int.toNat 7) IntKind.u64.bits)) = ((f / 128 : Nat) : Int) := by
 have e1 : min (Int.toNat 7) IntKind.u64.bits = 7 := by decide
 rw [e1, zfH _ (by decide)]
 omega
end Go.Av
/- Numbers and texts put behind bytes, as the program does. No condition. -/
namespace Go.Av.Fn
set_option linter.unusedSimpArgs false
set_option linter.unusedVariables false
set_option maxRecDepth 10000
open Go.Proofs Go.Lib
theorem conv_i64_u64 {n : Int} : convV Tryz.prog 3 154 (.val (.int .i64 n)) = some (.val (.int .u64 (IntKind.u64.wrap n))) := by kernel_rfl
theorem conv_u64_u8 {n : Int} : convV Tryz.prog 154 5 (.val (.int .u64 n)) = some (.val (.int .u8 (IntKind.u8.wrap n))) := by kernel_rfl
theorem fold_ok {Γ : Glob} {m : Store} {n : Int} (h : I64 n) : zae Tryz.prog Γ 114 [it n] m fun o m' => o = .ret (.val (.int .u64 (zigzag n))) ∧ m' = m := by
 refine zad mixed F114_ok (by rintro v m b x _ ⟨⟨⟩, _⟩) ?_
 simp only [F114, ss0, ze0, zeV]
 simp only [zdy, conv_i64_u64, bin_shl (show (0 : Int) ≤ 1 by decide), bin_shr (show (0 : Int) ≤ 63 by decide), bin_xorb, fold_eq h, ssS, zeV, zeT, reduceIte, zeU]
 exact zah zac ⟨rfl, rfl⟩
theorem zea {Γ : Glob} {m m' : Store} {v : V} {l : List UInt8} (h : BufI 5 1 m m' v (l.map by8)) {n : Int} (hn : I64 n) (hl : l.length < 1099511627776) :
  zae Tryz.prog Γ 69 [v, it n] m' fun o m2 => ∃ v2, o = .ret v2 ∧ Buf 5 1 m m2 v2 ((l ++ uvarint (zigzag n)).map by8) := by
 refine zad mixed F69_ok (by rintro v m b x _ ⟨_, ⟨⟩, _⟩) ?_
 simp only [F69, ss0, ze0, zeV]
 simp only [ssS, zeV, zeT, reduceIte, zeU]
 refine zai (fold_ok hn) ?_
 simp only [ssS, zeV, zeT, reduceIte, zeU]
 have hlen10 := uvarint_length64 (zigzag_u64 hn)
 refine zbc (fun k st => ∃ (f : Nat) (l' : List UInt8) (v' : V), f = k ∧ f < 18446744073709551616 ∧ l' ++ uvarint f = l ++ uvarint (zigzag n) ∧ BufI 5 1 m st.m v' (l'.map by8) ∧ st.t.length = 23 ∧ tget st.t 0 = v' ∧ tget st.t 5 = .val (.int .u64 f)) (zigzag n) ⟨zigzag n, l, v, rfl, zigzag_u64 hn, rfl, h, rfl, rfl, rfl⟩ ?_
 rintro k ⟨t, m1⟩ ⟨f, l', v', hk, hf, he, hB, hlen, h0, h5⟩
 simp only at hB h0 h5 hlen
 subst hk
 have htot : l'.length + (uvarint f).length = l.length + (uvarint (zigzag n)).length := by
  have := congrArg List.length he
  simpa using this
 have hp := uvarint_pos f
 rw [t_eq hlen]
 simp only [zat, zaA, zeV, h0, h5]
 simp only [ssS, zeV, zeT, reduceIte, zeU]
 refine zaj (fun h => ?_) (fun h => ?_)
 ·have hb : 128 ≤ f := by have := of_decide_eq_true h; omega
  simp only [zdy, conv_u64_u8, bin_orb, or128, by8_big, eval_lit1, litV1_val, ssS, zeV, zeT, reduceIte, zeU]
  refine appS_bufI hB rfl (by simp [V.cells, zdK]) (by simp; omega) fun m2 v2 hB2 => ?_
  simp only [bin_shr (show (0 : Int) ≤ 7 by decide), shr7, ssS, zeV, zeT, reduceIte, zeU]
  exact ⟨f / 128, by omega, f / 128, l' ++ [(f % 128 + 128).toUInt8], v2, rfl, by omega, by rw [List.append_assoc, ← he, uvarint_big hb]; rfl, by rw [zfA]; exact .inl hB2, rfl, rfl⟩
 ·have hb : f < 128 := by have := of_decide_eq_false h; omega
  simp only [zdy, conv_u64_u8, by8_small hb, eval_lit1, litV1_val, ssS, zeV, zeT, reduceIte, zeU]
  refine appS_bufI hB rfl (by simp [V.cells, zdK]) (by simp; omega) fun m2 v2 hB2 => ?_
  simp only [ssS, zeV, zeT, reduceIte, zeU]
  refine zah zac ⟨v2, rfl, ?_⟩
  rw [← he, uvarint_small hb, zfA]
  exact hB2
end Go.Av.Fn
/- The number that bytes begin with: plain laws. No condition. -/
namespace Go.Av
open Go.Lib
set_option linter.unusedSimpArgs false
set_option linter.unusedVariables false
def zd3 : Nat → Nat → List UInt8 → Int × Nat × Int
 | _, _, [] => (0, 0, 3)
 | i, f, c :: s => if i = 9 ∧ c.toNat ≠ 1 then (0, 0, 4)
  else if 128 ≤ c.toNat then zd3 (i + 1) (f + c.toNat % 128 * 2 ^ (7 * i)) s
  else if c.toNat = 0 ∧ 0 < i then (0, 0, 4)
  else (unzigzag (f + c.toNat % 128 * 2 ^ (7 * i)), i + 1, 0)
def numL (s : List UInt8) : Int × Nat × Int := zd3 0 0 s
theorem tens {i : Nat} (h : i ≤ 9) : i = 0 ∨ i = 1 ∨ i = 2 ∨ i = 3 ∨ i = 4 ∨ i = 5 ∨ i = 6 ∨ i = 7 ∨ i = 8 ∨ i = 9 := by omega
theorem num_shl {i c : Nat} (hi : i ≤ 9) (hc : c < 256) (h9 : i = 9 → c = 1) : IntKind.u64.wrap (((c % 128 : Nat) : Int) * 2 ^ (min (Int.toNat ((7 * i : Nat) : Int)) IntKind.u64.bits)) = ((c % 128 * 2 ^ (7 * i) : Nat) : Int) := by
 rw [IntKind.wrap_u64, Int.toNat_natCast]
 have e : min (7 * i) IntKind.u64.bits = 7 * i := by
  show min (7 * i) 64 = 7 * i
  omega
 rw [e]
 rcases tens hi with rfl | rfl | rfl | rfl | rfl | rfl | rfl | rfl | rfl | rfl <;> simp only [Nat.reduceMul, Int.reducePow, Nat.reducePow] <;> omega
theorem num_or {i c f : Nat} (hi : i ≤ 9) (hc : c < 256) (h9 : i = 9 → c = 1) (hf : f < 2 ^ (7 * i)) : bits .or .u64 (f : Int) ((c % 128 * 2 ^ (7 * i) : Nat) : Int) = ((f + c % 128 * 2 ^ (7 * i) : Nat) : Int) := by
 rcases tens hi with rfl | rfl | rfl | rfl | rfl | rfl | rfl | rfl | rfl | rfl <;> simp only [Nat.reduceMul, Nat.reducePow] at hf ⊢
 ·rw [u64_orv0 _ _ (by omega) (by omega) (by omega) (by omega) (by omega)]; omega
 ·rw [u64_orv7 _ _ (by omega) (by omega) (by omega) (by omega) (by omega)]; omega
 ·rw [u64_orv14 _ _ (by omega) (by omega) (by omega) (by omega) (by omega)]; omega
 ·rw [u64_orv21 _ _ (by omega) (by omega) (by omega) (by omega) (by omega)]; omega
 ·rw [u64_orv28 _ _ (by omega) (by omega) (by omega) (by omega) (by omega)]; omega
 ·rw [u64_orv35 _ _ (by omega) (by omega) (by omega) (by omega) (by omega)]; omega
 ·rw [u64_orv42 _ _ (by omega) (by omega) (by omega) (by omega) (by omega)]; omega
 ·rw [u64_orv49 _ _ (by omega) (by omega) (by omega) (by omega) (by omega)]; omega
 ·rw [u64_orv56 _ _ (by omega) (by omega) (by omega) (by omega) (by omega)]; omega
 ·rw [u64_orv63 _ _ (by omega) (by omega) (by omega) (by omega) (by omega)]; omega
theorem num_lt {i c f : Nat} (hi : i ≤ 9) (hc : c < 256) (h9 : i = 9 → c = 1) (hf : f < 2 ^ (7 * i)) : f + c % 128 * 2 ^ (7 * i) < 18446744073709551616 ∧ (i ≤ 8 → f + c % 128 * 2 ^ (7 * i) < 2 ^ (7 * (i + 1))) := by
 rcases tens hi with rfl | rfl | rfl | rfl | rfl | rfl | rfl | rfl | rfl | rfl <;> simp only [Nat.reduceMul, Nat.reducePow, zeV] at hf ⊢ <;> omega
theorem and127 {c : Nat} (h : c < 256) : bits .and .u8 (c : Int) 127 = ((c % 128 : Nat) : Int) := by
 rw [u8_and127 _ (by omega) (by omega)]
 omega
theorem and128_all : ∀ n : Fin 256, (bits .and .u8 (n.val : Int) 128 != 0) = decide (128 ≤ n.val) := by decide +kernel
theorem and128 {c : Nat} (h : c < 256) : (bits .and .u8 (c : Int) 128 != 0) = decide (128 ≤ c) := and128_all ⟨c, h⟩
theorem numGo_le : ∀ (s : List UInt8) (i f : Nat), i ≤ 9 → (zd3 i f s).2.1 ≤ i + s.length
 | [], i, f, _ => by simp [zd3]
 | c :: s, i, f, hi => by
  unfold zd3
  split
  ·simp
  ·split
   ·rename_i h1 h2
    have h9 : i ≤ 8 := by omega
    have := numGo_le s (i + 1) (f + c.toNat % 128 * 2 ^ (7 * i)) (by omega)
    simp only [ze1]
    omega
   ·split
    ·simp
    ·simp only [ze1]
     omega
theorem numL_le (s : List UInt8) : (numL s).2.1 ≤ s.length := by
 have := numGo_le s 0 0 (by omega)
 unfold numL
 omega
theorem numGo_put : ∀ (k u i f : Nat) (r : List UInt8), u < 2 ^ (64 - 7 * i) → u < 128 ^ (k + 1) → (0 < i → 0 < u) → i + k ≤ 9 → zd3 i f (uvarint u ++ r) = (unzigzag (f + u * 2 ^ (7 * i)), i + (uvarint u).length, 0)
 | k, u, i, f, r, hu, hk, hp, hi => by
  have hi9 : i ≤ 9 := by omega
  have h9 : i = 9 → u < 2 := by
   rintro rfl
   simpa using hu
  by_cases hs : u < 128
  ·rw [uvarint_small hs]
   have e : u.toUInt8.toNat = u := by
    show (UInt8.ofNat _).toNat = _
    rw [UInt8.toNat_ofNat']
    omega
   simp only [List.cons_append, List.nil_append, zd3, e, List.length_singleton]
   rw [if_neg (by intro ⟨a, b⟩; have := h9 a; have := hp (by omega); omega), if_neg (by omega), if_neg (by intro ⟨a, b⟩; have := hp b; omega), Nat.mod_eq_of_lt hs]
  ·rw [uvarint_big (by omega)]
   have e : (u % 128 + 128).toUInt8.toNat = u % 128 + 128 := by
    show (UInt8.ofNat _).toNat = _
    rw [UInt8.toNat_ofNat']
    omega
   simp only [List.cons_append, zd3, e]
   have h8 : i ≤ 8 := by
    rcases Nat.lt_or_ge i 9 with h | h
    ·omega
    ·have := h9 (by omega); omega
   rw [if_neg (by omega), if_pos (by omega)]
   cases k with
   | zero => simp at hk; omega
   | succ k =>
    have hu' : u / 128 < 2 ^ (64 - 7 * (i + 1)) := by
     have : i = 0 ∨ i = 1 ∨ i = 2 ∨ i = 3 ∨ i = 4 ∨ i = 5 ∨ i = 6 ∨ i = 7 ∨ i = 8 := by omega
     rcases this with rfl | rfl | rfl | rfl | rfl | rfl | rfl | rfl | rfl <;> simp only [Nat.reduceMul, ze0, Nat.reducePow, zeV] at hu ⊢ <;> omega
    rw [numGo_put k (u / 128) (i + 1) _ r hu' (by rw [Nat.pow_succ] at hk; exact Nat.div_lt_of_lt_mul (by rw [Nat.mul_comm]; exact hk)) (by omega) (by omega)]
    have e3 : f + (u % 128 + 128) % 128 * 2 ^ (7 * i) + u / 128 * 2 ^ (7 * (i + 1)) = f + u * 2 ^ (7 * i) := by
     have e4 : 2 ^ (7 * (i + 1)) = 128 * 2 ^ (7 * i) := by
      rw [show 7 * (i + 1) = 7 + 7 * i by omega, Nat.pow_add]
     rw [e4]
     generalize 2 ^ (7 * i) = p
     have e5 : (u % 128 + 128) % 128 = u % 128 := by omega
     rw [e5]
     have e6 : u = 128 * (u / 128) + u % 128 := by omega
     generalize u / 128 = q at e6 ⊢
     generalize u % 128 = r' at e6 ⊢
     subst e6
     rw [Nat.add_mul, Nat.mul_comm 128 q, Nat.mul_assoc]
     omega
    rw [e3]
    simp only [ze1]
    refine Prod.ext rfl (Prod.ext ?_ rfl)
    simp only
    omega
theorem numL_put {n : Int} (h : I64 n) (r : List UInt8) : numL (uvarint (zigzag n) ++ r) = (n, (uvarint (zigzag n)).length, 0) := by
 unfold numL
 have hz := zigzag_u64 h
 rw [numGo_put 9 _ 0 0 r (by simpa using hz) (Nat.lt_of_lt_of_le hz (by decide)) (by omega) (by omega)]
 simp [unzigzag_zigzag]
theorem numGo_i64 : ∀ (s : List UInt8) (i f : Nat), i ≤ 9 → f < 2 ^ (7 * i) → I64 (zd3 i f s).1
 | [], i, f, _, _ => by simp [zd3, I64]
 | c :: s, i, f, hi, hf => by
  unfold zd3
  have hc : c.toNat < 256 := c.toNat_lt
  split
  ·simp [I64]
  ·rename_i h1
   have h9 : i = 9 → c.toNat = 1 := by omega
   have hl := num_lt hi hc h9 hf
   split
   ·rename_i h2
    exact numGo_i64 s (i + 1) _ (by omega) (hl.2 (by omega))
   ·split
    ·simp [I64]
    ·exact unzigzag_i64 hl.1
theorem numL_i64 (s : List UInt8) : I64 (numL s).1 := numGo_i64 s 0 0 (by omega) (by decide)
end Go.Av
/- Numbers read, as the program does. No condition. -/
namespace Go.Av.Fn
set_option linter.unusedSimpArgs false
set_option linter.unusedVariables false
set_option maxRecDepth 10000
open Go.Proofs Go.Lib
theorem conv_u64_i64 {n : Int} : convV Tryz.prog 154 3 (.val (.int .u64 n)) = some (.val (.int .i64 (IntKind.i64.wrap n))) := by kernel_rfl
theorem conv_u8_u64 {n : Int} : convV Tryz.prog 5 154 (.val (.int .u8 n)) = some (.val (.int .u64 (IntKind.u64.wrap n))) := by kernel_rfl
theorem unfold_ok {Γ : Glob} {m : Store} {u : Nat} (h : u < 18446744073709551616) : zae Tryz.prog Γ 116 [.val (.int .u64 u)] m fun o m' => o = .ret (it (unzigzag u)) ∧ m' = m := by
 refine zad mixed F116_ok (by rintro v m b x _ ⟨⟨⟩, _⟩) ?_
 simp only [F116, ss0, ze0, zeV]
 simp only [zdy, conv_u64_i64, bin_shr (show (0 : Int) ≤ 1 by decide), bin_andb, bin_xorb, unfold_eq h, ssT, zeV, zeT, reduceIte, zeU]
 exact zah zac ⟨rfl, rfl⟩
theorem wnumber_ok {Γ : Glob} {m : Store} (s : List UInt8) (hl : s.length < 4611686018427387904) :
  zae Tryz.prog Γ 73 [bs s] m fun o m' => o = .ret (.tup [it (numL s).1, it (numL s).2.1, it (numL s).2.2]) ∧ m' = m := by
 refine zad mixed F73_ok (by rintro v m b x _ ⟨⟨⟩, _⟩) ?_
 simp only [F73, ss0, ze0, zeV]
 simp only [ssS, zeV, zeT, reduceIte, zeU]
 refine zbc (fun k st => ∃ (i f : Nat), k = 10 - i ∧ i ≤ 9 ∧ f < 2 ^ (7 * i) ∧ i ≤ s.length ∧ zd3 i f (s.drop i) = numL s ∧ st.m = m ∧ st.t.length = 46 ∧ tget st.t 0 = bs s ∧ tget st.t 5 = .val (.int .u64 f) ∧ tget st.t 8 = it i) 10 ⟨0, 0, rfl, by omega, by decide, Nat.zero_le _, rfl, rfl, rfl, rfl, rfl, rfl⟩ ?_
 rintro k ⟨t, m1⟩ ⟨i, f, hk, hi, hf, hil, hgo, hm, hlen, g0, g5, g8⟩
 simp only at hm g0 g5 g8 hlen
 subst hm
 rw [t_eq hlen]
 simp only [zat, zaA, zeV, g0, g5, g8]
 simp only [show decide ((i : Int) < 10) = true from decide_eq_true (by omega), ssS, zeV, zeT, reduceIte, zeU]
 refine zaj (fun h => ?_) (fun h => ?_)
 ·have he : i = s.length := by
   have : ((i : Int) == (s.length : Int)) = true := h
   have := eq_of_beq this
   omega
  simp only [ssS, zeV, zeT, reduceIte, zeU]
  refine zah zax ⟨?_, rfl⟩
  simp only [zaa, zab]
  rw [← hgo, List.drop_eq_nil_of_le (by omega)]
  rfl
 ·have hlt : i < s.length := by
   have : ((i : Int) == (s.length : Int)) = false := h
   have : (i : Int) ≠ s.length := by simpa using this
   omega
  obtain ⟨c, hcs⟩ : ∃ c, s[i] = c := ⟨_, rfl⟩
  have hx : s[i]? = some c := by rw [ze8 hlt, hcs]
  have hdrop : s.drop i = c :: s.drop (i + 1) := by rw [zfi hlt, hcs]
  have hc : c.toNat < 256 := c.toNat_lt
  have hw7 : IntKind.i64.wrap (7 * (i : Int)) = ((7 * i : Nat) : Int) := by
   rw [wrap_i64 (by omega) (by omega)]
   omega
  have hw127 : IntKind.u64.wrap ((c.toNat % 128 : Nat) : Int) = ((c.toNat % 128 : Nat) : Int) := by
   rw [IntKind.wrap_u64]
   omega
  simp only [zby hx, ssS, zeV, zeT, reduceIte, zeU]
  by_cases h9 : i = 9
  ·have e9 : ((i : Int) == 9) = true := by simpa using congrArg (Nat.cast (R := Int)) h9
   simp only [e9, ssS, zeV, zeT, reduceIte, zeU]
   refine zaj (fun h => ?_) (fun h => ?_)
   ·have hc1 : c.toNat ≠ 1 := by
     have : ((c.toNat : Int) != 1) = true := h
     intro e
     rw [e] at this
     simp at this
    simp only [ssS, zeV, zeT, reduceIte, zeU]
    refine zah zax ⟨?_, rfl⟩
    simp only [zaa, zab]
    rw [← hgo, hdrop]
    simp only [zd3]
    rw [if_pos ⟨h9, hc1⟩]
    rfl
   have hc9 : i = 9 → c.toNat = 1 := by
    intro _
    have : ((c.toNat : Int) != 1) = false := h
    have : (c.toNat : Int) = 1 := by simpa using this
    omega
   simp only [bin_andb, and127 hc, zdy, conv_u8_u64, hw127, zeO, hw7, bin_shl (show (0 : Int) ≤ ((7 * i : Nat) : Int) from Int.natCast_nonneg _), num_shl hi hc hc9, bin_orb, num_or hi hc hc9 hf, zeN, and128 hc, ssT, zeV, zeT, reduceIte, zeU]
   refine zaj (fun h => ?_) (fun h => ?_)
   ·have h128 : 128 ≤ c.toNat := of_decide_eq_true h
    simp only [zaq (show i < 4611686018427387904 by omega), ssS, zeV, zeT, reduceIte, zeU]
    refine ⟨10 - (i + 1), by omega, i + 1, f + c.toNat % 128 * 2 ^ (7 * i), rfl, by omega, (num_lt hi hc hc9 hf).2 (by omega), by omega, ?_, rfl, rfl⟩
    rw [← hgo, hdrop]
    simp only [zd3]
    rw [if_neg (by omega), if_pos h128]
   ·have h128 : ¬ 128 ≤ c.toNat := of_decide_eq_false h
    simp only [zeP, ssS, zeV, zeT, reduceIte, zeU]
    by_cases hc0 : c.toNat = 0
    ·have hb0 : ((c.toNat : Int) == 0) = true := by rw [hc0]; rfl
     simp only [hb0, ssS, zeV, zeT, reduceIte, zeU]
     refine zaj (fun h1 => ?_) (fun h1 => ?_)
     ·have hi0 : 0 < i := by have := of_decide_eq_true h1; omega
      simp only [ssS, zeV, zeT, reduceIte, zeU]
      refine zah zax ⟨?_, rfl⟩
      simp only [zaa, zab]
      rw [← hgo, hdrop]
      simp only [zd3]
      rw [if_neg (by omega), if_neg h128, if_pos ⟨hc0, hi0⟩]
      rfl
     ·have hi0 : i = 0 := by have := of_decide_eq_false h1; omega
      simp only [ssS, zeV, zeT, reduceIte, zeU]
      refine zai (unfold_ok (num_lt hi hc hc9 hf).1) ?_
      simp only [zaq (show i < 4611686018427387904 by omega), ssS, zeV, zeT, reduceIte, zeU]
      refine zah zax ⟨?_, rfl⟩
      simp only [zaa, zab]
      rw [← hgo, hdrop]
      simp only [zd3]
      rw [if_neg (by omega), if_neg h128, if_neg (by omega)]
    ·have hb0 : ((c.toNat : Int) == 0) = false := by
      have : (c.toNat : Int) ≠ 0 := by omega
      simpa using this
     simp only [hb0, ssS, zeV, zeT, reduceIte, zeU]
     refine zai (unfold_ok (num_lt hi hc hc9 hf).1) ?_
     simp only [zaq (show i < 4611686018427387904 by omega), ssS, zeV, zeT, reduceIte, zeU]
     refine zah zax ⟨?_, rfl⟩
     simp only [zaa, zab]
     rw [← hgo, hdrop]
     simp only [zd3]
     rw [if_neg (by omega), if_neg h128, if_neg (by omega)]
  ·have e9 : ((i : Int) == 9) = false := by
    have : (i : Int) ≠ 9 := by omega
    simpa using this
   have hc9 : i = 9 → c.toNat = 1 := fun e => absurd e h9
   simp only [e9, bin_andb, and127 hc, zdy, conv_u8_u64, hw127, zeO, hw7, bin_shl (show (0 : Int) ≤ ((7 * i : Nat) : Int) from Int.natCast_nonneg _), num_shl hi hc hc9, bin_orb, num_or hi hc hc9 hf, zeN, and128 hc, ssT, zeV, zeT, reduceIte, zeU]
   refine zaj (fun h => ?_) (fun h => ?_)
   ·have h128 : 128 ≤ c.toNat := of_decide_eq_true h
    simp only [zaq (show i < 4611686018427387904 by omega), ssS, zeV, zeT, reduceIte, zeU]
    refine ⟨10 - (i + 1), by omega, i + 1, f + c.toNat % 128 * 2 ^ (7 * i), rfl, by omega, (num_lt hi hc hc9 hf).2 (by omega), by omega, ?_, rfl, rfl⟩
    rw [← hgo, hdrop]
    simp only [zd3]
    rw [if_neg (by omega), if_pos h128]
   ·have h128 : ¬ 128 ≤ c.toNat := of_decide_eq_false h
    simp only [zeP, ssS, zeV, zeT, reduceIte, zeU]
    by_cases hc0 : c.toNat = 0
    ·have hb0 : ((c.toNat : Int) == 0) = true := by rw [hc0]; rfl
     simp only [hb0, ssS, zeV, zeT, reduceIte, zeU]
     refine zaj (fun h1 => ?_) (fun h1 => ?_)
     ·have hi0 : 0 < i := by have := of_decide_eq_true h1; omega
      simp only [ssS, zeV, zeT, reduceIte, zeU]
      refine zah zax ⟨?_, rfl⟩
      simp only [zaa, zab]
      rw [← hgo, hdrop]
      simp only [zd3]
      rw [if_neg (by omega), if_neg h128, if_pos ⟨hc0, hi0⟩]
      rfl
     ·have hi0 : i = 0 := by have := of_decide_eq_false h1; omega
      simp only [ssS, zeV, zeT, reduceIte, zeU]
      refine zai (unfold_ok (num_lt hi hc hc9 hf).1) ?_
      simp only [zaq (show i < 4611686018427387904 by omega), ssS, zeV, zeT, reduceIte, zeU]
      refine zah zax ⟨?_, rfl⟩
      simp only [zaa, zab]
      rw [← hgo, hdrop]
      simp only [zd3]
      rw [if_neg (by omega), if_neg h128, if_neg (by omega)]
    ·have hb0 : ((c.toNat : Int) == 0) = false := by
      have : (c.toNat : Int) ≠ 0 := by omega
      simpa using this
     simp only [hb0, ssS, zeV, zeT, reduceIte, zeU]
     refine zai (unfold_ok (num_lt hi hc hc9 hf).1) ?_
     simp only [zaq (show i < 4611686018427387904 by omega), ssS, zeV, zeT, reduceIte, zeU]
     refine zah zax ⟨?_, rfl⟩
     simp only [zaa, zab]
     rw [← hgo, hdrop]
     simp only [zd3]
     rw [if_neg (by omega), if_neg h128, if_neg (by omega)]
end Go.Av.Fn
/- The small functions of the layer lex and of its reference: what they answer. No condition. -/
namespace Go.Av.Fn
set_option linter.unusedSimpArgs false
set_option linter.unusedVariables false
open Go.Proofs
def dig (b : UInt8) : Bool := decide (48 ≤ b.toNat) && decide (b.toNat ≤ 57)
def let8 (b : UInt8) : Bool := (decide (97 ≤ b.toNat) && decide (b.toNat ≤ 122)) || (decide (65 ≤ b.toNat) && decide (b.toNat ≤ 90)) || b.toNat == 95
def zbg (b : UInt8) : Bool := let8 b || dig b
theorem or32_nat : ∀ n : Nat, n < 256 → ((decide (IntKind.u8.wrap ((BitVec.ofInt IntKind.u8.bits (n : Int) ||| BitVec.ofInt IntKind.u8.bits 32).toNat : Int) ≥ 97) && decide (IntKind.u8.wrap ((BitVec.ofInt IntKind.u8.bits (n : Int) ||| BitVec.ofInt IntKind.u8.bits 32).toNat : Int) ≤ 122)) || (n : Int) == 95)
  = ((decide (97 ≤ n) && decide (n ≤ 122)) || (decide (65 ≤ n) && decide (n ≤ 90)) || n == 95) := by decide +kernel
section
variable {Γ : Glob} {m : Store}
theorem digit_ok (b : UInt8) : zae Tryz.prog Γ 184 [by8 b] m fun o m' => o = .ret (.val (.bool (dig b))) ∧ m' = m := by
 refine zad mixed F184_ok (by rintro v m b x _ ⟨⟨⟩, _⟩) ?_
 simp only [F184, ss0, ze0, zeV]
 simp only [ssS, zeV, zeT, reduceIte, zeU]
 refine zaR (fun h => ?_) (fun h => ?_) <;> simp only [h, ssS, zeV, zeT, reduceIte, zeU]
 all_goals refine zah zac ⟨?_, rfl⟩
 all_goals simp only [zaa, zab, dig]
 ·have h : 48 ≤ b.toNat := by have := of_decide_eq_true h; omega
  have e : decide ((b.toNat : Int) ≤ 57) = decide (b.toNat ≤ 57) := by rw [decide_eq_decide]; omega
  rw [e]
  simp [h]
 ·have h : ¬ 48 ≤ b.toNat := by have := of_decide_eq_false h; omega
  simp [h]
theorem zeF (b : UInt8) : zae Tryz.prog Γ 136 [by8 b] m fun o m' => o = .ret (.val (.bool (dig b))) ∧ m' = m := by
 refine zad mixed F136_ok (by rintro v m b x _ ⟨⟨⟩, _⟩) ?_
 simp only [F136, ss0, ze0, zeV]
 simp only [ssS, zeV, zeT, reduceIte, zeU]
 refine zaR (fun h => ?_) (fun h => ?_) <;> simp only [h, ssS, zeV, zeT, reduceIte, zeU]
 all_goals refine zah zac ⟨?_, rfl⟩
 all_goals simp only [zaa, zab, dig]
 ·have h : 48 ≤ b.toNat := by have := of_decide_eq_true h; omega
  have e : decide ((b.toNat : Int) ≤ 57) = decide (b.toNat ≤ 57) := by rw [decide_eq_decide]; omega
  rw [e]
  simp [h]
 ·have h : ¬ 48 ≤ b.toNat := by have := of_decide_eq_false h; omega
  simp [h]
theorem letter_ok (b : UInt8) : zae Tryz.prog Γ 187 [by8 b] m fun o m' => o = .ret (.val (.bool (let8 b))) ∧ m' = m := by
 refine zad mixed F187_ok (by rintro v m b x _ ⟨⟨⟩, _⟩) ?_
 have key : let8 b = _ := (or32_nat b.toNat (by have := b.toNat_lt; omega)).symm
 simp only [F187, ss0, ze0, zeV]
 simp only [ssS, zeV, zeT, reduceIte, zeU]
 refine zaR (fun h => ?_) (fun h => ?_) <;> simp only [h, ssS, zeV, zeT, reduceIte, zeU]
 ·refine zaR (fun h2 => ?_) (fun h2 => ?_) <;> simp only [h2, ssS, zeV, zeT, reduceIte, zeU]
  all_goals refine zah zac ⟨?_, rfl⟩
  all_goals simp only [zaa, zab]
  all_goals rw [key, h, h2]
  all_goals rfl
 ·refine zah zac ⟨?_, rfl⟩
  simp only [zaa, zab]
  rw [key, h]
  rfl
theorem zdJ (b : UInt8) : zae Tryz.prog Γ 134 [by8 b] m fun o m' => o = .ret (.val (.bool (let8 b))) ∧ m' = m := by
 refine zad mixed F134_ok (by rintro v m b x _ ⟨⟨⟩, _⟩) ?_
 simp only [F134, ss0, ze0, zeV]
 simp only [ssS, zeV, zeT, reduceIte, zeU]
 repeat' (refine zaR (fun h => ?_) (fun h => ?_) <;> simp only [h, ssS, zeV, zeT, reduceIte, zeU])
 all_goals refine zah zac ⟨?_, rfl⟩
 all_goals simp only [zaa, zab, let8]
 all_goals congr 3
 all_goals rw [zfF]
 all_goals simp only [zfC, ze2, decide_eq_true_eq, decide_eq_false_iff_not, beq_iff_eq, true_iff] at *
 all_goals omega
theorem notNl_ok (b : UInt8) : zae Tryz.prog Γ 231 [by8 b] m fun o m' => o = .ret (.val (.bool (b.toNat != 10))) ∧ m' = m := by
 refine zad mixed F231_ok (by rintro v m b x _ ⟨⟨⟩, _⟩) ?_
 simp only [F231, ss0, ze0, zeV]
 simp only [ssS, zeV, zeT, reduceIte, zeU]
 refine zah zac ⟨?_, rfl⟩
 simp only [zaa, zab]
 congr 3
 rw [zfF]
 simp
 omega
theorem alnum_ok (b : UInt8) : zae Tryz.prog Γ 232 [by8 b] m fun o m' => o = .ret (.val (.bool (zbg b))) ∧ m' = m := by
 refine zad mixed F232_ok (by rintro v m b x _ ⟨⟨⟩, _⟩) ?_
 simp only [F232, ss0, ze0, zeV]
 simp only [ssS, zeV, zeT, reduceIte, zeU]
 refine zai (letter_ok b) ?_
 simp only [ssS, zeV, zeT, reduceIte, zeU]
 refine zaR (fun h => ?_) (fun h => ?_) <;> simp only [h, ssS, zeV, zeT, reduceIte, zeU]
 ·refine zah zac ⟨?_, rfl⟩
  simp only [zaa, zab, zbg, h, Bool.true_or]
 ·refine zai (digit_ok b) ?_
  simp only [ssS, zeV, zeT, reduceIte, zeU]
  refine zah zac ⟨?_, rfl⟩
  simp only [zaa, zab, zbg, h, Bool.false_or]
end
def zaN : List (List UInt8) := [[102, 110], [114, 101, 99, 111, 114, 100], [108, 101, 116], [105, 102], [101, 108, 115, 101], [119, 104, 105, 108, 101], [114, 101, 116, 117, 114, 110], [110, 101, 119], [116, 114, 117, 101], [102, 97, 108, 115, 101]]
def zaF : List (List UInt8) := [[61, 61], [33, 61], [60, 61], [62, 61], [38, 38], [124, 124], [40], [41], [123], [125], [91], [93], [44], [58], [59], [46], [61], [60], [62], [43], [45], [42], [47], [37], [33]]
theorem hasPrefix_ok {Γ : Glob} {m : Store} (s p : List UInt8) : zae Tryz.prog Γ 143 [bs s, bs p] m fun o m' => o = .ret (.val (.bool (p.isPrefixOf s))) ∧ m' = m := by
 refine zad mixed F143_ok (by rintro v m b x _ ⟨⟨⟩, _⟩) ?_
 simp only [F143, ss0, ze0, zeV]
 simp only [ssS, zeV, zeT, reduceIte, zeU]
 refine zaR (fun h => ?_) (fun h => ?_) <;> simp only [h, ssS, zeV, zeT, reduceIte, zeU]
 ·have hl : p.length ≤ s.length := by have := of_decide_eq_true h; omega
  simp only [slice_upto hl, ssS, zeV, zeT, reduceIte, zeU]
  refine zah zac ⟨?_, rfl⟩
  simp only [zaa, zab]
  congr 3
  rw [zfF]
  simp only [beq_iff_eq, List.isPrefixOf_iff_prefix]
  rw [List.prefix_iff_eq_take, eq_comm]
 ·refine zah zac ⟨?_, rfl⟩
  simp only [zaa, zab]
  have hl : ¬ p.length ≤ s.length := by have := of_decide_eq_false h; omega
  congr 3
  rw [zfF]
  simp only [List.isPrefixOf_iff_prefix]
  constructor
  ·intro h; cases h
  ·intro h; exact absurd h.length_le hl
theorem zbI {Γ : Glob} {m : Store} (s p : List UInt8) : zae Tryz.prog Γ 188 [bs s, bs p] m fun o m' => o = .ret (.val (.bool (p.isPrefixOf s))) ∧ m' = m := by
 refine zad mixed F188_ok (by rintro v m b x _ ⟨⟨⟩, _⟩) ?_
 simp only [F188, ss0, ze0, zeV]
 simp only [ssS, zeV, zeT, reduceIte, zeU]
 refine zai (hasPrefix_ok s p) ?_
 simp only [ssS, zeV, zeT, reduceIte, zeU]
 refine zah zac ⟨?_, rfl⟩
 simp only [zaa, zab]
theorem in_ok {Γ : Glob} (l : List (List UInt8)) (s : List UInt8) (more : List V) (tok : Tok) (m : Store) (hl : l.length < 2 ^ 62) : zae Tryz.prog Γ 160 [.sl (l.map bs) more tok, bs s] m fun o m' => o = .ret (.val (.bool (l.contains s))) ∧ m' = m := by
 refine zad mixed F160_ok (by rintro v m b x _ ⟨⟨⟩, _⟩) ?_
 simp only [F160, ss0, ze0, zeV]
 simp only [ssS, zeV, zeT, reduceIte, zeU]
 refine zbc (fun n st => ∃ i : Nat, n = l.length - i ∧ i ≤ l.length ∧ (∀ x ∈ l.take i, x ≠ s) ∧ st.m = m ∧ st.t.length = 18 ∧ tget st.t 0 = .sl (l.map bs) more tok ∧ tget st.t 1 = bs s ∧ tget st.t 5 = it i) l.length ⟨0, rfl, Nat.zero_le _, by simp, rfl, rfl, rfl, rfl, rfl⟩ ?_
 rintro n ⟨t, m1⟩ ⟨i, hn, hi, hpre, hm, hlen, h0, h1, h5⟩
 simp only at hm h0 h1 h5 hlen
 subst hm
 rw [t_eq hlen]
 simp only [zat, zaA, zeV, h0, h1, h5]
 simp only [ssS, zeV, zeT, reduceIte, zeU]
 refine zaj (fun h => ?_) (fun h => ?_)
 ·have hlt : i < l.length := by simpa using h
  have hx : idxLV 1 (.sl (l.map bs) more tok) (it i) = some (.elt [bs l[i]]) := zbP (e := bs l[i]) (by simp [hlt]) rfl
  have hw : IntKind.i64.wrap ((i : Int) + 1) = ((i + 1 : Nat) : Int) := by
   rw [wrap_i64 (by omega) (by omega)]
   rfl
  simp only [hx, ssS, zeV, zeT, reduceIte, zeU]
  refine zaj (fun h => ?_) (fun h => ?_)
  ·simp only [ssS, zeV, zeT, reduceIte, zeU]
   have : l[i] = s := by simpa using h
   refine zah zac ⟨?_, rfl⟩
   simp only [zaa, zab]
   rw [List.contains_iff_mem.2 (by rw [← this]; exact List.getElem_mem _)]
  ·simp only [hw, ssS, zeV, zeT, reduceIte, zeU]
   refine ⟨l.length - (i + 1), by omega, i + 1, rfl, hlt, ?_, rfl⟩
   intro x hx
   rw [zfh] at hx
   rcases List.mem_append.1 hx with hx | hx
   ·exact hpre x hx
   ·simp only [ze8 hlt, zfN, zfw] at hx
    subst hx
    simpa using h
 ·have hge : i = l.length := by
   have : ¬ i < l.length := by simpa using h
   omega
  simp only [ssS, zeV, zeT, reduceIte, zeU]
  refine zah zac ⟨?_, rfl⟩
  simp only [zaa, zab]
  rw [hge, List.take_length] at hpre
  have : l.contains s = false := by
   simp only [List.contains_eq_mem, decide_eq_false_iff_not]
   exact fun hm => hpre s hm rfl
  rw [this]
theorem Word_ok {Γ : Glob} {m : Store} (hΓ : Γ 3 = some (zaN.map bs)) (s : List UInt8) : zae Tryz.prog Γ 158 [bs s] m fun o m' => o = .ret (.val (.bool (zaN.contains s))) ∧ m' = m := by
 refine zad mixed F158_ok (by rintro v m b x _ ⟨⟨⟩, _⟩) ?_
 simp only [F158, ss0, ze0, zeV]
 simp only [ssS, zeV, zeT, reduceIte, zeU]
 have hlen10 : zaN.length = 10 := rfl
 refine zbc (fun n st => ∃ i : Nat, n = 10 - i ∧ i ≤ 10 ∧ (∀ x ∈ zaN.take i, x ≠ s) ∧ st.m = m ∧ st.t.length = 13 ∧ tget st.t 0 = bs s ∧ tget st.t 4 = it i) 10 ⟨0, rfl, Nat.zero_le _, by simp, rfl, rfl, rfl, rfl⟩ ?_
 rintro n ⟨t, m1⟩ ⟨i, hn, hi, hpre, hm, hlen, h0, h4⟩
 simp only at hm h0 h4 hlen
 subst hm
 rw [t_eq hlen]
 simp only [zat, zaA, zeV, h0, h4]
 simp only [ssS, zeV, zeT, reduceIte, zeU]
 refine zaj (fun h => ?_) (fun h => ?_)
 ·have hlt : i < 10 := by have := of_decide_eq_true h; omega
  have hlt' : i < zaN.length := hlt
  have hx : loadV m1 none (.elt ((zaN.map bs).drop (i * 1))) = some (bs (zaN[i]'hlt')) := by
   rw [loadV_drop]
   simp [hlt']
  simp only [ev_global hΓ, idxA_elt hlt, hx, zaq (show i < 4611686018427387904 by omega), ssS, zeV, zeT, reduceIte, zeU]
  refine zaj (fun h => ?_) (fun h => ?_)
  ·simp only [ssS, zeV, zeT, reduceIte, zeU]
   have : zaN[i]'hlt' = s := by simpa using h
   refine zah zac ⟨?_, rfl⟩
   simp only [zaa, zab]
   rw [List.contains_iff_mem.2 (by rw [← this]; exact List.getElem_mem _)]
  ·simp only [zaq (show i < 4611686018427387904 by omega), ssS, zeV, zeT, reduceIte, zeU]
   refine ⟨10 - (i + 1), by omega, i + 1, rfl, hlt, ?_, rfl⟩
   intro x hx
   rw [zfh] at hx
   rcases List.mem_append.1 hx with hx | hx
   ·exact hpre x hx
   ·simp only [ze8 hlt', zfN, zfw] at hx
    subst hx
    simpa using h
 ·have hge : i = 10 := by have := of_decide_eq_false h; omega
  simp only [ssS, zeV, zeT, reduceIte, zeU]
  refine zah zac ⟨?_, rfl⟩
  simp only [zaa, zab]
  rw [hge, show 10 = zaN.length from rfl, List.take_length] at hpre
  have : zaN.contains s = false := by
   simp only [List.contains_eq_mem, decide_eq_false_iff_not]
   exact fun hm => hpre s hm rfl
  rw [this]
def signOf (s : List UInt8) : List UInt8 := (zaF.find? fun p => p.isPrefixOf s).getD []
theorem sign_ok {Γ : Glob} {m : Store} (hΓ : Γ 2 = some (zaF.map bs)) (s : List UInt8) : zae Tryz.prog Γ 157 [bs s] m fun o m' => o = .ret (bs (signOf s)) ∧ m' = m := by
 refine zad mixed F157_ok (by rintro v m b x _ ⟨⟨⟩, _⟩) ?_
 simp only [F157, ss0, ze0, zeV]
 simp only [ssS, zeV, zeT, reduceIte, zeU]
 have hlen25 : zaF.length = 25 := rfl
 refine zbc (fun n st => ∃ i : Nat, n = 25 - i ∧ i ≤ 25 ∧ (∀ x ∈ zaF.take i, x.isPrefixOf s = false) ∧ st.m = m ∧ st.t.length = 16 ∧ tget st.t 0 = bs s ∧ tget st.t 4 = it i) 25 ⟨0, rfl, Nat.zero_le _, by simp, rfl, rfl, rfl, rfl⟩ ?_
 rintro n ⟨t, m1⟩ ⟨i, hn, hi, hpre, hm, hlen, h0, h4⟩
 simp only at hm h0 h4 hlen
 subst hm
 rw [t_eq hlen]
 simp only [zat, zaA, zeV, h0, h4]
 simp only [ssS, zeV, zeT, reduceIte, zeU]
 refine zaj (fun h => ?_) (fun h => ?_)
 ·have hlt : i < 25 := by have := of_decide_eq_true h; omega
  have hlt' : i < zaF.length := hlt
  have hx : loadV m1 none (.elt ((zaF.map bs).drop (i * 1))) = some (bs (zaF[i]'hlt')) := by
   rw [loadV_drop]
   simp [hlt']
  simp only [ev_global hΓ, idxA_elt hlt, hx, ssS, zeV, zeT, reduceIte, zeU]
  refine zai (zbI _ _) ?_
  simp only [ssS, zeV, zeT, reduceIte, zeU]
  refine zaj (fun h => ?_) (fun h => ?_)
  ·simp only [ev_global hΓ, idxA_elt hlt, hx, ssS, zeV, zeT, reduceIte, zeU]
   refine zah zac ⟨?_, rfl⟩
   simp only [zaa, zab]
   unfold signOf
   have : zaF.find? (fun p => p.isPrefixOf s) = some (zaF[i]'hlt') := by
    rw [List.find?_eq_some_iff_getElem]
    refine ⟨h, i, hlt', rfl, fun j hj => ?_⟩
    have := hpre (zaF[j]'(by omega)) (List.mem_take_iff_getElem.2 ⟨j, by omega, rfl⟩)
    simp [this]
   rw [this]
   rfl
  ·simp only [zaq (show i < 4611686018427387904 by omega), ssS, zeV, zeT, reduceIte, zeU]
   refine ⟨25 - (i + 1), by omega, i + 1, rfl, hlt, ?_, rfl⟩
   intro x hx
   rw [zfh] at hx
   rcases List.mem_append.1 hx with hx | hx
   ·exact hpre x hx
   ·simp only [ze8 hlt', zfN, zfw] at hx
    subst hx
    exact h
 ·have hge : i = 25 := by have := of_decide_eq_false h; omega
  simp only [ssS, zeV, zeT, reduceIte, zeU]
  refine zah zac ⟨?_, rfl⟩
  simp only [zaa, zab]
  rw [hge, show 25 = zaF.length from rfl, List.take_length] at hpre
  unfold signOf
  have : zaF.find? (fun p => p.isPrefixOf s) = none := by
   rw [List.find?_eq_none]
   intro x hx
   simp [hpre x hx]
  rw [this]
  rfl
end Go.Av.Fn
/- Rows of the reference, runs of bytes: what the functions answer. No condition. -/
namespace Go.Av.Fn
set_option linter.unusedSimpArgs false
set_option linter.unusedVariables false
set_option maxRecDepth 10000
open Go.Proofs
theorem Words_ok {Γ : Glob} {m : Store} : zae Tryz.prog Γ 161 [] m fun o m' => o = .ret (.sl (zaN.map bs) [] .full) ∧ m' = m := by
 refine zad mixed F161_ok (by rintro v m b x _ ⟨⟨⟩, _⟩) ?_
 simp only [F161, ss0, ze0, zeV]
 simp only [ssS, zeV, zeT, reduceIte, zeU]
 generalize he : zan _ _ _ _ = r
 have hr : r = some (V.sl (zaN.map bs) [] .full) := by
  rw [← he]
  kernel_rfl
 rw [hr]
 simp only [ssS, zeV, zeT, reduceIte, zeU]
 exact zah zac ⟨rfl, rfl⟩
theorem Signs_ok {Γ : Glob} {m : Store} : zae Tryz.prog Γ 208 [] m fun o m' => o = .ret (.sl (zaF.map bs) [] .full) ∧ m' = m := by
 refine zad mixed F208_ok (by rintro v m b x _ ⟨⟨⟩, _⟩) ?_
 simp only [F208, ss0, ze0, zeV]
 simp only [ssS, zeV, zeT, reduceIte, zeU]
 generalize he : zan _ _ _ _ = r
 have hr : r = some (V.sl (zaF.map bs) [] .full) := by
  rw [← he]
  kernel_rfl
 rw [hr]
 simp only [ssS, zeV, zeT, reduceIte, zeU]
 exact zah zac ⟨rfl, rfl⟩
theorem refWord_ok {Γ : Glob} {m : Store} (s : List UInt8) : zae Tryz.prog Γ 135 [bs s] m fun o m' => o = .ret (.val (.bool (zaN.contains s))) ∧ m' = m := by
 refine zad mixed F135_ok (by rintro v m b x _ ⟨⟨⟩, _⟩) ?_
 simp only [F135, ss0, ze0, zeV]
 simp only [ssS, zeV, zeT, reduceIte, zeU]
 refine zai Words_ok ?_
 simp only [ssS, zeV, zeT, reduceIte, zeU]
 refine zai (in_ok zaN s [] .full _ (by decide)) ?_
 simp only [ssS, zeV, zeT, reduceIte, zeU]
 exact zah zac ⟨rfl, rfl⟩
theorem zaX {p : UInt8 → Bool} : ∀ {s : List UInt8} {i : Nat}, (∀ x ∈ s.take i, p x = true) → i ≤ s.length → (∀ b, s[i]? = some b → p b = false) → (s.takeWhile p).length = i
 | [], i, _, h, _ => by simp at h; simp [h]
 | a :: s, 0, _, _, h => by
  have := h a rfl
  simp [List.takeWhile, this]
 | a :: s, i + 1, h1, h2, h3 => by
  have ha : p a = true := h1 a (by simp)
  rw [zfn ha, ze1, zaX (i := i) (fun x hx => h1 x (by simp [hx])) (by simpa using h2) (fun b hb => h3 b (by simpa using hb))]
theorem row_ok {Γ : Glob} {m : Store} {g : FuncId} {caps : List V} {p : UInt8 → Bool} (s : List UInt8) (hs : s.length < 4611686018427387904) (hp : ∀ b, zae Tryz.prog Γ g ([] ++ [by8 b] ++ caps) m fun o m' => o = .ret (.val (.bool (p b))) ∧ m' = m) :
  zae Tryz.prog Γ 185 [bs s, .fn (.func g) [] caps] m fun o m' => o = .ret (it (s.takeWhile p).length) ∧ m' = m := by
 refine zad mixed F185_ok (by rintro v m b x _ ⟨⟨⟩, _⟩) ?_
 simp only [F185, ss0, ze0, zeV]
 simp only [ssS, zeV, zeT, reduceIte, zeU]
 refine zbc (fun n st => ∃ i : Nat, n = s.length - i ∧ i ≤ s.length ∧ (∀ x ∈ s.take i, p x = true) ∧ st.m = m ∧ st.t.length = 20 ∧ tget st.t 0 = bs s ∧ tget st.t 1 = .fn (.func g) [] caps ∧ tget st.t 5 = it i) s.length ⟨0, rfl, Nat.zero_le _, by simp, rfl, rfl, rfl, rfl, rfl⟩ ?_
 rintro n ⟨t, m1⟩ ⟨i, hn, hi, hpre, hm, hlen, h0, h1, h5⟩
 simp only at hm h0 h1 h5 hlen
 subst hm
 rw [t_eq hlen]
 simp only [zat, zaA, zeV, h0, h1, h5]
 simp only [ssS, zeV, zeT, reduceIte, zeU]
 refine zaR (fun h => ?_) (fun h => ?_)
 ·have hlt : i < s.length := by have := of_decide_eq_true h; omega
  have hx : s[i]? = some s[i] := by simp [hlt]
  simp only [h, zby hx, ssS, zeV, zeT, reduceIte, zeU]
  refine zai (hp _) ?_
  simp only [ssS, zeV, zeT, reduceIte, zeU]
  refine zaj (fun h2 => ?_) (fun h2 => ?_)
  ·simp only [zaq (show i < 4611686018427387904 by omega), ssS, zeV, zeT, reduceIte, zeU]
   refine ⟨s.length - (i + 1), by omega, i + 1, rfl, hlt, ?_, rfl⟩
   intro x hx
   rw [zfh] at hx
   rcases List.mem_append.1 hx with hx | hx
   ·exact hpre x hx
   ·simp only [ze8 hlt, zfN, zfw] at hx
    subst hx
    exact h2
  ·simp only [ssS, zeV, zeT, reduceIte, zeU]
   refine zah zac ⟨?_, rfl⟩
   simp only [zaa, zab]
   rw [zaX hpre hi (fun b hb => by rw [hx] at hb; cases hb; exact h2)]
 ·have hge : ¬ i < s.length := by have := of_decide_eq_false h; omega
  simp only [h, ssS, zeV, zeT, reduceIte, zeU]
  refine zah zac ⟨?_, rfl⟩
  simp only [zaa, zab]
  rw [zaX hpre hi (fun b hb => by rw [zfL (by omega)] at hb; cases hb)]
def markOk (b : Nat) (p : V) : Prop := p = .val (.pointer none) ∨ p = .ptr b 0
def idxB (s : List UInt8) (c : UInt8) : Int := match s.findIdx? (· == c) with
 | some i => i
 | none => -1
structure LibOk (Γ : Glob) : Prop where
 clone : ∀ (m : Store) (s : List UInt8), s.length ≤ 281474976710656 → zae Tryz.prog Γ 131 [bs s] m fun o m' => o = .ret (bs s) ∧ m' = m
 copyCheck : ∀ (m : Store) (b : Nat) (p u : V), m b = some (.var 328 [p, u]) → markOk b p → zae Tryz.prog Γ 251 [.ptr b 0] m fun o m' => o = .ret (.tup []) ∧ m' = m.set b (.var 328 [.ptr b 0, u])
 string : ∀ (m : Store) (b : Nat) (p u : V) (l : List UInt8), m b = some (.var 328 [p, u]) → l.length ≤ 4096 → ((l = [] ∧ u = .sl [] [] .full) ∨ (l ≠ [] ∧ ∃ t k, m t = some (.tip 5 k) ∧ u = .sl (l.map by8) [] (.tip t k))) →
  zae Tryz.prog Γ 241 [.ptr b 0] m fun o m' => o = .ret (bs l) ∧ ∀ c x, m c = some x → (∀ l2 k, u ≠ .sl l2 [] (.tip c k)) → m' c = some x
 indexByte : ∀ (m : Store) (s : List UInt8) (c : UInt8), s.length ≤ 4096 → zae Tryz.prog Γ 242 [bs s, by8 c] m fun o m' => o = .ret (it (idxB s c)) ∧ m' = m
section
variable {Γ : Glob} {m : Store} (L : LibOk Γ)
include L
theorem clone_ok (s : List UInt8) (hs : s.length ≤ 281474976710656) : zae Tryz.prog Γ 110 [bs s] m fun o m' => o = .ret (bs s) ∧ m' = m := by
 refine zad mixed F110_ok (by rintro v m b x _ ⟨⟨⟩, _⟩) ?_
 simp only [F110, ss0, ze0, zeV]
 simp only [ssS, zeV, zeT, reduceIte, zeU]
 refine zai (L.clone _ s hs) ?_
 simp only [ssS, zeV, zeT, reduceIte, zeU]
 exact zah zac ⟨rfl, rfl⟩
def wordTok (s : List UInt8) : List V := [it (if zaN.contains s then 5 else 1), bs s, it 0, it 0, it 0]
def zbY (s : List UInt8) (e : Int) : Int := if zaN.contains s then e else if s.length > 20 then 5 else e
theorem word_ok (hΓ : Γ 3 = some (zaN.map bs)) {xb : Nat} {T : TypeId} {a0 a1 a2 : V} {e : Int} (s : List UInt8) (hs : s.length ≤ 281474976710656) (hx : m xb = some (.var T [a0, a1, a2, it e])) :
  zae Tryz.prog Γ 233 [.ptr xb 0, bs s] m fun o m' => o = .ret (.agg (wordTok s)) ∧ m' = m.set xb (.var T [a0, a1, a2, it (zbY s e)]) := by
 refine zad mixed F233_ok (by rintro v m b x _ ⟨⟨⟩, _⟩) ?_
 simp only [F233, ss0, ze0, zeV]
 simp only [ssS, zeV, zeT, reduceIte, zeU]
 refine zao fun b hb => ?_
 have hne : xb ≠ b := by
  rintro rfl
  rw [hx] at hb
  cases hb
 have hn : ∀ m' x, (Store.set m' b x) xb = m' xb := fun m' x => Store.set_ne m' x hne
 have hn2 : ∀ m' x, (Store.set m' xb x) b = m' b := fun m' x => Store.set_ne m' x hne.symm
 simp only [ssS, zeV, zeT, reduceIte, zeU]
 refine zai (Word_ok hΓ s) ?_
 simp only [ssS, zeV, zeT, reduceIte, zeU]
 refine zaj (fun h => ?_) (fun h => ?_)
 ·simp only [Store.set_same, ssS, zeV, zeT, reduceIte, zeU]
  refine zaQ (v := .agg (wordTok s)) (m' := m.set xb (.var T [a0, a1, a2, it (zbY s e)])) ?_ ?_ ⟨rfl, rfl⟩
  ·rw [zdl (b := b) rfl (Store.set_same _ _ _)]
   unfold wordTok
   rw [h]
   rfl
  ·refine drop_set (b := b) (by rw [hn2, hb]) (fun c hc => ?_)
   have : zbY s e = e := by simp only [zbY, h, if_true]
   rw [this, Store.set_eq m hx]
   simp [Store.set, hc]
 ·simp only [ssS, zeV, zeT, reduceIte, zeU]
  refine zaj (fun h2 => ?_) (fun h2 => ?_)
  ·have hl : s.length > 20 := by have := of_decide_eq_true h2; omega
   simp only [hn, hx, ssS, zeV, zeT, reduceIte, zeU]
   refine zai (clone_ok L s hs) ?_
   simp only [Store.set_same, hn2, ssS, zeV, zeT, reduceIte, zeU]
   refine zaQ (v := .agg (wordTok s)) (m' := m.set xb (.var T [a0, a1, a2, it (zbY s e)])) ?_ ?_ ⟨rfl, rfl⟩
   ·rw [zdl (b := b) rfl (Store.set_same _ _ _)]
    unfold wordTok
    rw [h]
    rfl
   ·refine drop_set (b := b) (by rw [hn2, hb]) (fun c hc => ?_)
    have : zbY s e = 5 := by simp only [zbY, h, hl, if_true]; rfl
    rw [this]
    simp [Store.set, hc]
  ·have hl : ¬ s.length > 20 := by have := of_decide_eq_false h2; omega
   simp only [ssS, zeV, zeT, reduceIte, zeU]
   refine zai (clone_ok L s hs) ?_
   simp only [Store.set_same, ssS, zeV, zeT, reduceIte, zeU]
   refine zaQ (v := .agg (wordTok s)) (m' := m.set xb (.var T [a0, a1, a2, it (zbY s e)])) ?_ ?_ ⟨rfl, rfl⟩
   ·rw [zdl (b := b) rfl (Store.set_same _ _ _)]
    unfold wordTok
    rw [h]
    rfl
   ·refine drop_set (b := b) (by rw [hn2, hb]) (fun c hc => ?_)
    have : zbY s e = e := by simp only [zbY, h, hl, if_false]; rfl
    rw [this, Store.set_eq m hx]
    simp [Store.set, hc]
end
def rdB (s : List UInt8) (a : Nat) (e : Int) : Blk := .var 111 [.val (.bool true), bs s, it a, it e]
theorem ptr_nn {xo yo : Operand} {b o : Nat} : binV Tryz.prog .eql 41 .pointer xo yo (.ptr b o) (.val (.pointer none)) = some (.val (.bool false)) := rfl
def rInt (s : List UInt8) (a : Nat) (e : Int) : Int × Nat × Int :=
 if e ≠ 0 then (0, a, e) else if (Av.numL (s.drop a)).2.2 ≠ 0 then (0, a, (Av.numL (s.drop a)).2.2) else ((Av.numL (s.drop a)).1, a + (Av.numL (s.drop a)).2.1, 0)
def zbr (s : List UInt8) (most : Int) : Int × Nat × Int :=
 if (Av.numL s).2.2 ≠ 0 then (0, 0, (Av.numL s).2.2) else if (Av.numL s).1 < 0 then (0, 0, 4) else if (Av.numL s).1 > max 0 most then (0, 0, 5) else ((Av.numL s).1, (Av.numL s).2.1, 0)
def zdm (s : List UInt8) (a : Nat) (e : Int) (most : Int) : Int × Nat × Int :=
 if e ≠ 0 then (0, a, e) else if (zbr (s.drop a) most).2.2 ≠ 0 then (0, a, (zbr (s.drop a) most).2.2) else ((zbr (s.drop a) most).1, a + (zbr (s.drop a) most).2.1, 0)
def textL (s : List UInt8) (most : Int) : List UInt8 × Nat × Int :=
 if (zbr s most).2.2 ≠ 0 then ([], 0, (zbr s most).2.2) else if (zbr s most).1 > (s.length : Int) - ((zbr s most).2.1 : Int) then ([], 0, 3)
 else ((s.drop (zbr s most).2.1).take (zbr s most).1.toNat, (zbr s most).2.1 + (zbr s most).1.toNat, 0)
def zeG (s : List UInt8) (a : Nat) (e : Int) (most : Int) : List UInt8 × Nat × Int :=
 if e ≠ 0 then ([], a, e) else if (textL (s.drop a) most).2.2 ≠ 0 then ([], a, (textL (s.drop a) most).2.2) else ((textL (s.drop a) most).1, a + (textL (s.drop a) most).2.1, 0)
theorem countL_le (s : List UInt8) (most : Int) : (zbr s most).2.1 ≤ s.length ∧ 0 ≤ (zbr s most).1 ∧ (zbr s most).1 ≤ 9223372036854775807 := by
 have h := Av.numL_le s
 have h2 := Av.numL_i64 s
 unfold Av.I64 at h2
 unfold zbr
 split
 ·simp
 ·split
  ·simp
  ·split
   ·simp
   ·simp only
    omega
theorem textL_le (s : List UInt8) (most : Int) : (textL s most).2.1 ≤ s.length := by
 obtain ⟨h1, h2, h3⟩ := countL_le s most
 unfold textL
 split
 ·simp
 ·split
  ·simp
  ·simp only
   omega
theorem zcm {s : List UInt8} {a : Nat} {e : Int} (h : a ≤ s.length) : (rInt s a e).2.1 ≤ s.length := by
 have h1 := Av.numL_le (s.drop a)
 rw [zfl] at h1
 unfold rInt
 split
 ·exact h
 ·split
  ·exact h
  ·simp only
   omega
theorem rCount_le {s : List UInt8} {a : Nat} {e most : Int} (h : a ≤ s.length) : (zdm s a e most).2.1 ≤ s.length := by
 have h1 := (countL_le (s.drop a) most).1
 rw [zfl] at h1
 unfold zdm
 split
 ·exact h
 ·split
  ·exact h
  ·simp only
   omega
theorem rText_le {s : List UInt8} {a : Nat} {e most : Int} (h : a ≤ s.length) : (zeG s a e most).2.1 ≤ s.length := by
 have h1 := textL_le (s.drop a) most
 rw [zfl] at h1
 unfold zeG
 split
 ·exact h
 ·split
  ·exact h
  ·simp only
   omega
section
variable {Γ : Glob} {m : Store} {rb a : Nat} {s : List UInt8} {e : Int}
theorem wErr_ok (hr : m rb = some (rdB s a e)) : zae Tryz.prog Γ 28 [.ptr rb 0] m fun o m' => o = .ret (it e) ∧ m' = m := by
 refine zad mixed F28_ok (by rintro v m b x _ ⟨⟨⟩, _⟩) ?_
 simp only [F28, ss0, ze0, zeV]
 simp only [ptr_nn, hr, rdB, Bool.not_true, ssS, zeV, zeT, reduceIte, zeU]
 exact zah zac ⟨rfl, rfl⟩
theorem wAt_ok (hr : m rb = some (rdB s a e)) : zae Tryz.prog Γ 27 [.ptr rb 0] m fun o m' => o = .ret (it a) ∧ m' = m := by
 refine zad mixed F27_ok (by rintro v m b x _ ⟨⟨⟩, _⟩) ?_
 simp only [F27, ss0, ze0, zeV]
 simp only [ptr_nn, hr, rdB, ssS, zeV, zeT, reduceIte, zeU]
 exact zah zac ⟨rfl, rfl⟩
theorem wNew_ok {l : List UInt8} {more : List V} {tok : Tok} : zae Tryz.prog Γ 22 [.sl (l.map by8) more tok] m fun o m' => ∃ rb, m rb = none ∧ o = .ret (.ptr rb 0) ∧ m' = m.set rb (rdB l 0 0) := by
 refine zad mixed F22_ok (by rintro v m b x _ ⟨_, _, ⟨⟩, _⟩) ?_
 simp only [F22, ss0, ze0, zeV]
 simp only [eval_b2s, b2s_bs, ssS, zeV, zeT, reduceIte, zeU]
 refine zao fun rb hrb => ?_
 simp only [ssS, zeV, zeT, reduceIte, zeU]
 exact zah zac ⟨rb, hrb, rfl, rfl⟩
def pick3 {α : Type} (z : α) (a : Nat) (e : Int) (r : α × Nat × Int) : α × Nat × Int := if e ≠ 0 then (z, a, e) else if r.2.2 ≠ 0 then (z, a, r.2.2) else (r.1, a + r.2.1, 0)
theorem readI_ok (hr : m rb = some (rdB s a e)) (ha : a ≤ s.length) (hs : s.length < 4611686018427387904) {f : FuncId} {caps : List V} (r : Int × Nat × Int) (hl : r.2.1 ≤ s.length - a)
  (hf : zae Tryz.prog Γ f ([] ++ [bs (s.drop a)] ++ caps) m fun o m' => o = .ret (.tup [it r.1, it r.2.1, it r.2.2]) ∧ m' = m) :
  zae Tryz.prog Γ 72 [.ptr rb 0, .fn (.func f) [] caps] m fun o m' => o = .ret (it (pick3 0 a e r).1) ∧ m' = m.set rb (rdB s (pick3 0 a e r).2.1 (pick3 0 a e r).2.2) := by
 refine zad mixed F72_ok (by rintro v m b x _ ⟨⟨⟩, _⟩) ?_
 simp only [F72, ss0, ze0, zeV]
 simp only [ssS, zeV, zeT, reduceIte, zeU]
 refine zai (wErr_ok hr) ?_
 unfold pick3
 cases he : (e != 0)
 ·have h0 : e = 0 := by simpa using he
  subst h0
  simp only [show ((0 : Int) != 0) = false from rfl, hr, rdB, zd7 ha, ssS, zeV, zeT, reduceIte, zeU]
  refine zai hf ?_
  cases h1 : (r.2.2 != 0)
  ·have h2 : r.2.2 = 0 := by simpa using h1
   have hw : IntKind.i64.wrap ((a : Int) + (r.2.1 : Int)) = ((a + r.2.1 : Nat) : Int) := by
    rw [wrap_i64 (by omega) (by omega)]
    omega
   simp only [hr, rdB, h1, hw, ssS, zeV, zeT, reduceIte, zeU]
   refine zah zac ⟨?_, ?_⟩
   ·simp only [zaa, zab, h2, ne_eq, not_true_eq_false, if_false]
   ·simp only [h2, ne_eq, not_true_eq_false, if_false]
  ·have h2 : r.2.2 ≠ 0 := by simpa using h1
   simp only [hr, rdB, h1, ssS, zeV, zeT, reduceIte, zeU]
   refine zah zac ⟨?_, ?_⟩
   ·simp only [zaa, zab, h2, ne_eq, not_true_eq_false, not_false_eq_true, if_true, if_false]
   ·simp only [h2, ne_eq, not_true_eq_false, not_false_eq_true, if_true, if_false]
 ·have h0 : e ≠ 0 := by simpa using he
  simp only [he, ssS, zeV, zeT, reduceIte, zeU]
  refine zah zac ⟨?_, ?_⟩
  ·simp only [zaa, zab, h0, ne_eq, not_false_eq_true, if_true]
  ·simp only [h0, ne_eq, not_false_eq_true, if_true]
   exact (Store.set_eq m hr).symm
theorem wInt_ok (hr : m rb = some (rdB s a e)) (ha : a ≤ s.length) (hs : s.length < 4611686018427387904) : zae Tryz.prog Γ 29 [.ptr rb 0] m fun o m' => o = .ret (it (rInt s a e).1) ∧ m' = m.set rb (rdB s (rInt s a e).2.1 (rInt s a e).2.2) := by
 refine zad mixed F29_ok (by rintro v m b x _ ⟨⟨⟩, _⟩) ?_
 simp only [F29, ss0, ze0, zeV]
 simp only [ssS, zeV, zeT, reduceIte, zeU]
 have h1 := Av.numL_le (s.drop a)
 rw [zfl] at h1
 refine zaH (readI_ok hr ha hs (Av.numL (s.drop a)) h1 (wnumber_ok _ (by simp; omega))) ?_
 simp only [ssS, zeV, zeT, reduceIte, zeU]
 exact zah zac ⟨rfl, rfl⟩
theorem wcount_ok (most : Int) (hs : s.length < 4611686018427387904) : zae Tryz.prog Γ 109 [bs s, it most] m fun o m' => o = .ret (.tup [it (zbr s most).1, it (zbr s most).2.1, it (zbr s most).2.2]) ∧ m' = m := by
 refine zad mixed F109_ok (by rintro v m b x _ ⟨⟨⟩, _⟩) ?_
 simp only [F109, ss0, ze0, zeV]
 simp only [ssS, zeV, zeT, reduceIte, zeU]
 refine zai (wnumber_ok _ hs) ?_
 unfold zbr
 generalize Av.numL s = r
 obtain ⟨n, u, e⟩ := r
 simp only
 simp only [ssS, zeV, zeT, reduceIte, zeU]
 cases h1 : (e != 0)
 ·have h1' : e = 0 := by simpa using h1
  subst h1'
  simp only [show ((0 : Int) != 0) = false from rfl, ssS, zeV, zeT, reduceIte, zeU]
  cases h2 : decide (n < 0)
  ·have h2' : ¬ n < 0 := of_decide_eq_false h2
   simp only [h2, eval_mm, q_mm, mm_max, ssS, zeV, zeT, reduceIte, zeU]
   cases h3 : decide (n > max 0 most)
   ·have h3' : ¬ n > max 0 most := of_decide_eq_false h3
    simp only [h3, ssS, zeV, zeT, reduceIte, zeU]
    refine zah zax ⟨?_, rfl⟩
    simp only [zaa, zab, ne_eq, not_true_eq_false, if_false, if_neg h2', if_neg h3']
   ·have h3' : n > max 0 most := of_decide_eq_true h3
    simp only [h3, ssS, zeV, zeT, reduceIte, zeU]
    refine zah zax ⟨?_, rfl⟩
    simp only [zaa, zab, ne_eq, not_true_eq_false, if_false, if_neg h2', if_pos h3']
    rfl
  ·have h2' : n < 0 := of_decide_eq_true h2
   simp only [h2, ssS, zeV, zeT, reduceIte, zeU]
   refine zah zax ⟨?_, rfl⟩
   simp only [zaa, zab, ne_eq, not_true_eq_false, if_false, if_pos h2']
   rfl
 ·have h1' : e ≠ 0 := by simpa using h1
  simp only [h1, ssS, zeV, zeT, reduceIte, zeU]
  refine zah zax ⟨?_, rfl⟩
  simp only [zaa, zab, h1', ne_eq, not_false_eq_true, if_true]
  rfl
theorem wText1_ok (L : LibOk Γ) (most : Int) {b : Nat} (hb : m b = some (.var 3 [it most])) (hs : s.length ≤ 281474976710656) : zae Tryz.prog Γ 108 ([] ++ [bs s] ++ [.ptr b 0]) m fun o m' => o = .ret (.tup [bs (textL s most).1, it (textL s most).2.1, it (textL s most).2.2]) ∧ m' = m := by
 refine zad mixed F108_ok (by rintro v m b x _ ⟨⟨⟩, _⟩) ?_
 simp only [F108, ss0, ze0, zeV]
 simp only [hb, ssS, zeV, zeT, reduceIte, zeU]
 refine zai (wcount_ok most (by omega)) ?_
 obtain ⟨q1, q2, q3⟩ := countL_le s most
 unfold textL
 generalize zbr s most = r at q1 q2 q3
 obtain ⟨n, u, e⟩ := r
 simp only at q1 q2 q3
 simp only [ssS, zeV, zeT, reduceIte, zeU]
 cases h1 : (e != 0)
 ·have h1' : e = 0 := by simpa using h1
  subst h1'
  have hw : IntKind.i64.wrap ((s.length : Int) - (u : Int)) = (s.length : Int) - (u : Int) := wrap_i64 (by omega) (by omega)
  simp only [show ((0 : Int) != 0) = false from rfl, zcr, hw, ssS, zeV, zeT, reduceIte, zeU]
  cases h3 : decide (n > (s.length : Int) - (u : Int))
  ·have h3' : ¬ n > (s.length : Int) - (u : Int) := of_decide_eq_false h3
   obtain ⟨n, rfl⟩ : ∃ k : Nat, n = (k : Int) := ⟨n.toNat, by omega⟩
   have hw2 : IntKind.i64.wrap ((u : Int) + (n : Int)) = ((u + n : Nat) : Int) := by
    rw [wrap_i64 (by omega) (by omega)]
    omega
   simp only [h3, hw2, slice_bs (x := s) (a := u) (b := u + n) (by omega) (by omega), ssS, zeV, zeT, reduceIte, zeU]
   refine zai (clone_ok L _ (by simp; omega)) ?_
   simp only [hw2, ssS, zeV, zeT, reduceIte, zeU]
   refine zah zax ⟨?_, rfl⟩
   simp only [zaa, zab, ne_eq, not_true_eq_false, if_false, if_neg h3', Int.toNat_natCast]
   rw [List.drop_take, show u + n - u = n by omega]
  ·have h3' : n > (s.length : Int) - (u : Int) := of_decide_eq_true h3
   simp only [h3, ssS, zeV, zeT, reduceIte, zeU]
   refine zah zax ⟨?_, rfl⟩
   simp only [zaa, zab, ne_eq, not_true_eq_false, if_false, if_pos h3']
   rfl
 ·have h1' : e ≠ 0 := by simpa using h1
  simp only [h1, ssS, zeV, zeT, reduceIte, zeU]
  refine zah zax ⟨?_, rfl⟩
  simp only [zaa, zab, h1', ne_eq, not_false_eq_true, if_true]
  rfl
theorem readS_ok (hr : m rb = some (rdB s a e)) (ha : a ≤ s.length) (hs : s.length < 4611686018427387904) {f : FuncId} {caps : List V} (r : List UInt8 × Nat × Int) (hl : r.2.1 ≤ s.length - a)
  (hf : zae Tryz.prog Γ f ([] ++ [bs (s.drop a)] ++ caps) m fun o m' => o = .ret (.tup [bs r.1, it r.2.1, it r.2.2]) ∧ m' = m) :
  zae Tryz.prog Γ 107 [.ptr rb 0, .fn (.func f) [] caps] m fun o m' => o = .ret (bs (pick3 [] a e r).1) ∧ m' = m.set rb (rdB s (pick3 [] a e r).2.1 (pick3 [] a e r).2.2) := by
 refine zad mixed F107_ok (by rintro v m b x _ ⟨⟨⟩, _⟩) ?_
 simp only [F107, ss0, ze0, zeV]
 simp only [ssS, zeV, zeT, reduceIte, zeU]
 refine zai (wErr_ok hr) ?_
 unfold pick3
 cases he : (e != 0)
 ·have h0 : e = 0 := by simpa using he
  subst h0
  simp only [show ((0 : Int) != 0) = false from rfl, hr, rdB, zd7 ha, ssS, zeV, zeT, reduceIte, zeU]
  refine zai hf ?_
  cases h1 : (r.2.2 != 0)
  ·have h2 : r.2.2 = 0 := by simpa using h1
   have hw : IntKind.i64.wrap ((a : Int) + (r.2.1 : Int)) = ((a + r.2.1 : Nat) : Int) := by
    rw [wrap_i64 (by omega) (by omega)]
    omega
   simp only [hr, rdB, h1, hw, ssS, zeV, zeT, reduceIte, zeU]
   refine zah zac ⟨?_, ?_⟩
   ·simp only [zaa, zab, h2, ne_eq, not_true_eq_false, if_false]
   ·simp only [h2, ne_eq, not_true_eq_false, if_false]
  ·have h2 : r.2.2 ≠ 0 := by simpa using h1
   simp only [hr, rdB, h1, ssS, zeV, zeT, reduceIte, zeU]
   refine zah zac ⟨?_, ?_⟩
   ·simp only [zaa, zab, h2, ne_eq, not_true_eq_false, not_false_eq_true, if_true, if_false]
   ·simp only [h2, ne_eq, not_true_eq_false, not_false_eq_true, if_true, if_false]
 ·have h0 : e ≠ 0 := by simpa using he
  simp only [he, ssS, zeV, zeT, reduceIte, zeU]
  refine zah zac ⟨?_, ?_⟩
  ·simp only [zaa, zab, h0, ne_eq, not_false_eq_true, if_true]
  ·simp only [h0, ne_eq, not_false_eq_true, if_true]
   exact (Store.set_eq m hr).symm
theorem wText_ok (L : LibOk Γ) (most : Int) (hr : m rb = some (rdB s a e)) (ha : a ≤ s.length) (hs : s.length ≤ 281474976710656) : zae Tryz.prog Γ 65 [.ptr rb 0, it most] m fun o m' => o = .ret (bs (zeG s a e most).1) ∧ m' = m.set rb (rdB s (zeG s a e most).2.1 (zeG s a e most).2.2) := by
 refine zae.less (A := fun o m' => o = .ret (bs (zeG s a e most).1) ∧ SubS (m.set rb (rdB s (zeG s a e most).2.1 (zeG s a e most).2.2)) m') ?_ fun o m' h => ⟨_, h.2, h.1, rfl⟩
 refine zad mixed F65_ok (by rintro v m b x _ ⟨⟨⟩, _⟩) ?_
 simp only [F65, ss0, ze0, zeV]
 simp only [ssS, zeV, zeT, reduceIte, zeU]
 refine zao fun b hb => ?_
 have hn := zal hr hb
 have h1 := textL_le (s.drop a) most
 rw [zfl] at h1
 simp only [ssS, zeV, zeT, reduceIte, zeU]
 refine zaH (readS_ok (a := a) (e := e) (by rw [Store.set_ne _ _ hn]; exact hr) ha (by omega) (textL (s.drop a) most) h1 (wText1_ok L most (Store.set_same _ _ _) (by simp; omega))) ?_
 simp only [ssS, zeV, zeT, reduceIte, zeU]
 refine zah zac ⟨rfl, ?_⟩
 rw [set_comm m _ _ hn.symm]
 refine (SubS.refl _).out ?_ _
 rw [Store.set_ne _ _ hn.symm]
 exact hb
theorem wCount_ok (most : Int) (hr : m rb = some (rdB s a e)) (ha : a ≤ s.length) (hs : s.length ≤ 281474976710656) : zae Tryz.prog Γ 90 [.ptr rb 0, it most] m fun o m' => o = .ret (it (zdm s a e most).1) ∧ m' = m.set rb (rdB s (zdm s a e most).2.1 (zdm s a e most).2.2) := by
 refine zae.less (A := fun o m' => o = .ret (it (zdm s a e most).1) ∧ SubS (m.set rb (rdB s (zdm s a e most).2.1 (zdm s a e most).2.2)) m') ?_ fun o m' h => ⟨_, h.2, h.1, rfl⟩
 refine zad mixed F90_ok (by rintro v m b x _ ⟨⟨⟩, _⟩) ?_
 simp only [F90, ss0, ze0, zeV]
 simp only [ssS, zeV, zeT, reduceIte, zeU]
 refine zao fun b hb => ?_
 have hn := zal hr hb
 have h1 := (countL_le (s.drop a) most).1
 rw [zfl] at h1
 simp only [ssS, zeV, zeT, reduceIte, zeU]
 refine zaH (readI_ok (a := a) (e := e) (f := 122) (caps := [.ptr b 0]) (by rw [Store.set_ne _ _ hn]; exact hr) ha (by omega) (zbr (s.drop a) most) h1 ?_) ?_
 ·refine zad mixed F122_ok (by rintro v m b x _ ⟨⟨⟩, _⟩) ?_
  simp only [F122, ss0, ze0, zeV]
  simp only [Store.set_same, ssS, zeV, zeT, reduceIte, zeU]
  refine zai (wcount_ok most (by simp; omega)) ?_
  simp only [ssS, zeV, zeT, reduceIte, zeU]
  exact zah zax ⟨rfl, rfl⟩
 simp only [ssS, zeV, zeT, reduceIte, zeU]
 refine zah zac ⟨rfl, ?_⟩
 rw [set_comm m _ _ hn.symm]
 refine (SubS.refl _).out ?_ _
 rw [Store.set_ne _ _ hn.symm]
 exact hb
/-! ### Texts put -/
theorem putText_ok {m' : Store} {v : V} {l t : List UInt8} (h : Buf 5 1 m m' v (l.map by8)) (hl : l.length + t.length + 10 ≤ 140737488355328) (hl2 : l.length < 1099511627776) :
  zae Tryz.prog Γ 68 [v, bs t] m' fun o m2 => ∃ v2, o = .ret v2 ∧ Buf 5 1 m m2 v2 ((l ++ Lib.uvarint (Lib.zigzag t.length) ++ t).map by8) := by
 refine zad mixed F68_ok (by rintro v m b x _ ⟨_, ⟨⟩, _⟩) ?_
 simp only [F68, ss0, ze0, zeV]
 simp only [zcr, ssS, zeV, zeT, reduceIte, zeU]
 have hI : Av.I64 (t.length : Int) := ⟨by omega, by omega⟩
 have hlen10 := Lib.uvarint_length64 (Av.zigzag_u64 hI)
 refine zbG (zea (.inl h) hI hl2) ?_ (by rintro v m' ⟨_, ⟨⟩, _⟩)
 rintro v2 m2 ⟨_, ⟨⟩, hB⟩
 simp only [ssS, zeV, zeT, reduceIte, zeU]
 refine appS_bufs hB (extra_bs t) (elemsOk_by8 t) (by simp; omega) fun m3 v3 hB3 => ?_
 simp only [ssS, zeV, zeT, reduceIte, zeU]
 refine zah zac ⟨v3, rfl, ?_⟩
 rw [zfA]
 exact hB3
end
theorem bldLen_ok {Γ : Glob} {m : Store} {b : Nat} {T : TypeId} {p : V} {es more : List V} {tok : Tok} (h : m b = some (.var T [p, .sl es more tok])) : zae Tryz.prog Γ 243 [.ptr b 0] m fun o m' => o = .ret (it es.length) ∧ m' = m := by
 refine zad mixed F243_ok (by rintro v m b x _ ⟨⟨⟩, _⟩) ?_
 simp only [F243, ss0, ze0, zeV]
 simp only [h, ssS, zeV, zeT, reduceIte, zeU]
 exact zah zac ⟨rfl, rfl⟩
theorem bldWrite_ok {Γ : Glob} (L : LibOk Γ) {m : Store} {b : Nat} {p u : V} {l : List UInt8} (c : UInt8) (h : m b = some (.var 328 [p, u])) (hp : markOk b p) (hl : l.length ≤ 4096)
  (hu : (l = [] ∧ u = .sl [] [] .full) ∨ (l ≠ [] ∧ ∃ t k, m t = some (.tip 5 k) ∧ u = .sl (l.map by8) [] (.tip t k))) :
  zae Tryz.prog Γ 244 [.ptr b 0, by8 c] m fun o m' => o = .ret (.val .nilIface) ∧ ∃ t k, t ≠ b ∧ (m t = none ∨ ∃ k0, m t = some (.tip 5 k0) ∧ ∃ l0, u = .sl l0 [] (.tip t k0)) ∧ m' = (m.set t (.tip 5 k)).set b (.var 328 [.ptr b 0, .sl ((l ++ [c]).map by8) [] (.tip t k)]) := by
 refine zad mixed F244_ok (by rintro v m b x _ ⟨⟨⟩, _⟩) ?_
 simp only [F244, ss0, ze0, zeV]
 simp only [ssS, zeV, zeT, reduceIte, zeU]
 refine zaH (L.copyCheck m b p u h hp) ?_
 simp only [Store.set_same, eval_lit1, litV1_val, ssS, zeV, zeT, reduceIte, zeU]
 have hel : zdz 1 [by8 c] := by
  intro y hy
  rw [zfw] at hy
  subst hy
  exact ⟨rfl, by intro z hz; simp [V.cells] at hz; subst hz; rfl⟩
 have hst : ∀ {t : Nat} {A B C : Blk}, t ≠ b → ((m.set b A).set t C).set b B = (m.set t C).set b B := by
  intro t A B C ht
  funext c
  simp only [Store.set]
  by_cases e : c = b
  ·simp [e]
  ·simp [e]
 rcases hu with ⟨rfl, rfl⟩ | ⟨hne, t, k, ht, rfl⟩
 ·refine appS_full (by simp) rfl hel (by simp) fun t ht => ?_
  have htb : t ≠ b := by
   rintro rfl
   rw [Store.set_same] at ht
   cases ht
  have hmt : m t = none := by rwa [Store.set_ne _ _ htb] at ht
  have hbt : ∀ m' x, (Store.set m' t x) b = m' b := fun m' x => Store.set_ne m' x htb.symm
  simp only [hbt, Store.set_same, ssS, zeV, zeT, reduceIte, zeU]
  refine zah zac ⟨rfl, t, 0, htb, .inl hmt, ?_⟩
  rw [hst htb]
  rfl
 ·have htb : t ≠ b := by
   rintro rfl
   rw [h] at ht
   cases ht
  have hbt : ∀ m' x, (Store.set m' t x) b = m' b := fun m' x => Store.set_ne m' x htb.symm
  refine appS_tip (by simp) (by simpa using hne) (by rw [Store.set_ne _ _ htb, ht]) (zbE l) hel (by simp; omega) ?_
  simp only [hbt, Store.set_same, ssS, zeV, zeT, reduceIte, zeU]
  refine zah zac ⟨rfl, t, k + 1, htb, .inr ⟨k, ht, _, rfl⟩, ?_⟩
  rw [hst htb, zfA]
  rfl
def qL : List UInt8 → List UInt8 → Nat → Except Int (List UInt8 × Nat)
 | [], _, _ => .error 6
 | c :: r, acc, k =>
  if c.toNat = 34 then .ok (acc, k)
  else if c.toNat < 32 ∨ c.toNat > 126 then .error 6
  else if c.toNat = 92 then match r with
   | [] => .error 6
   | d :: r' => if d.toNat ≠ 92 ∧ d.toNat ≠ 34 ∧ d.toNat ≠ 110 then .error 6 else if acc.length = 255 then .error 5 else qL r' (acc ++ [if d.toNat = 110 then 10 else d]) (k + 2)
  else if acc.length = 255 then .error 5 else qL r (acc ++ [c]) (k + 1)
def qRes (a : Nat) : Except Int (List UInt8 × Nat) → V
 | .ok (l, k) => .tup [bs l, it ((a + k + 2 : Nat) : Int), it 0]
 | .error e => .tup [bs [], it 0, it e]
theorem refQuoted_ok {Γ : Glob} {m : Store} (s : List UInt8) (a : Nat) (ha : a < s.length) (hs : s.length < 4611686018427387904) :
  zae Tryz.prog Γ 207 [bs s, it a] m fun o m' => o = .ret (qRes a (qL (s.drop (a + 1)) [] 0)) ∧ m' = m := by
 refine zad mixed F207_ok (by rintro v m b x _ ⟨⟨⟩, _⟩) ?_
 simp only [F207, ss0, ze0, zeV]
 simp only [zaq (show a < 4611686018427387904 by omega), ssS, zeV, zeT, reduceIte, zeU]
 generalize hres : qL (s.drop (a + 1)) [] 0 = res
 refine zbc (fun n st => ∃ (k : Nat) (acc : List UInt8) (v : V), n = s.length - (a + 1 + k) ∧ a + 1 + k ≤ s.length ∧ acc.length ≤ 255 ∧ qL (s.drop (a + 1 + k)) acc k = res ∧ Buf 5 1 m st.m v (acc.map by8) ∧ st.t.length = 80 ∧ tget st.t 0 = bs s ∧ tget st.t 7 = v ∧ tget st.t 8 = .val (.bool false) ∧ tget st.t 9 = it ((a + 1 + k : Nat) : Int))
  (s.length - (a + 1)) ⟨0, [], _, rfl, by omega, by simp, hres, Buf.start, rfl, rfl, rfl, rfl, rfl⟩ ?_
 rintro n ⟨t, m1⟩ ⟨k, acc, v, hn, hk, hacc, hq, hbuf, hlen, h0, h7, h8, h9⟩
 simp only at hbuf h0 h7 h8 h9 hlen
 rw [t_eq hlen]
 simp only [zat, zaA, zeV, h0, h7, h8, h9]
 simp only [ssS, zeV, zeT, reduceIte, zeU]
 have fin : ∀ {t : List V} {r : Except Int (List UInt8 × Nat)}, res = r → resV [.tmp 4, .tmp 5, .tmp 6] ⟨t, m1⟩ = some (qRes a r) → bodyA [.tmp 4, .tmp 5, .tmp 6] (fun o m' => o = Out.ret (qRes a res) ∧ m' = m) .ret ⟨t, m1⟩ := by
  intro t r h1 h2
  exact zaQ h2 hbuf.sub ⟨by rw [h1], rfl⟩
 refine zaj (fun h => ?_) (fun h => ?_)
 ·have hlt : a + 1 + k < s.length := by have := of_decide_eq_true h; omega
  have hx : s[a + 1 + k]? = some s[a + 1 + k] := by simp [hlt]
  have hdrop : s.drop (a + 1 + k) = s[a + 1 + k] :: s.drop (a + 1 + k + 1) := zfi hlt
  generalize s[a + 1 + k] = c at hx hdrop
  rw [hdrop, qL.eq_def] at hq
  simp only at hq
  simp only [zby hx, ssS, zeV, zeT, reduceIte, zeU]
  refine condS_mid (M := fun st => ∃ (k' : Nat) (c' : UInt8), st.m = m1 ∧ k ≤ k' ∧ a + 1 + k' < s.length ∧ res = (if acc.length = 255 then .error 5 else qL (s.drop (a + 1 + (k' + 1))) (acc ++ [c']) (k' + 1)) ∧ st.t.length = 80 ∧ tget st.t 0 = bs s ∧ tget st.t 7 = v ∧ tget st.t 8 = .val (.bool false) ∧ tget st.t 9 = it ((a + 1 + k' : Nat) : Int) ∧ tget st.t 10 = by8 c') ?_ ?_
  ·-- what is read is appended
   rintro ⟨t, m2⟩ ⟨k', c', hm2, hkk, hlt', hres', hlen, h0, h7, h8, h9, h10⟩
   simp only at hm2 hlen h0 h7 h8 h9 h10
   subst hm2
   rw [t_eq hlen]
   simp only [zat, zaA, zeV, h0, h7, h8, h9, h10]
   simp only [eval_lit1, litV1_val, ssS, zeV, zeT, reduceIte, zeU]
   refine appS_buf hbuf rfl (by intro c hc; simp [V.cells] at hc; subst hc; rfl) (by simp; omega) fun m3 v3 hb3 => ?_
   obtain ⟨tok3, rfl⟩ := hb3.val
   have hcast : (List.map by8 acc ++ [by8 c']) = List.map by8 (acc ++ [c']) := by simp
   rw [hcast] at hb3 ⊢
   simp only [zaq (show a + 1 + k' < 4611686018427387904 by omega), zfk, ssS, zeV, zeT, reduceIte, zeU]
   refine zaj (fun h => ?_) (fun h => ?_)
   ·have h255 : acc.length = 255 := by have := of_decide_eq_true h; simp at this; omega
    simp only [ssS, zeV, zeT, reduceIte, zeU]
    refine zaQ (v := qRes a (.error 5)) ?_ hb3.sub ⟨?_, rfl⟩
    ·rw [zax]
     rfl
    ·rw [hres', if_pos h255]
   ·have h255 : ¬ acc.length = 255 := by have := of_decide_eq_false h; simp at this; omega
    rw [if_neg h255] at hres'
    simp only [zaq (show a + 1 + k' < 4611686018427387904 by omega), ssS, zeV, zeT, reduceIte, zeU]
    refine ⟨s.length - (a + 1 + (k' + 1)), by omega, k' + 1, acc ++ [c'], _, rfl, by omega, by simp; omega, hres'.symm, hb3, rfl, ?_⟩
    exact ⟨by rw [h], rfl⟩
  ·obtain ⟨tok, rfl⟩ := hbuf.val
   have six : ∀ {t : List V}, res = .error 6 → tget t 4 = bs [] → tget t 5 = it 0 → tget t 6 = it 6 → bodyA [.tmp 4, .tmp 5, .tmp 6] (fun o m' => o = Out.ret (qRes a res) ∧ m' = m) .ret ⟨t, m1⟩ := by
    intro t h1 h4 h5 h6
    refine fin h1 ?_
    rw [zax, h4, h5, h6]
    rfl
   refine zaj (fun h1 => ?_) (fun h1 => ?_)
   ·have e1 : c.toNat = 34 := by have := eq_of_beq h1; omega
    rw [if_pos e1] at hq
    simp only [eval_b2s, b2s_bs, zaq (show a + 1 + k < 4611686018427387904 by omega), ssS, zeV, zeT, reduceIte, zeU]
    refine fin hq.symm ?_
    rw [zax]
    simp only [zaa, zab, qRes]
    rw [show a + 1 + k + 1 = a + k + 2 by omega]
   ·have e1 : ¬ c.toNat = 34 := by
     intro e
     rw [e] at h1
     cases h1
    rw [if_neg e1] at hq
    simp only [ssS, zeV, zeT, reduceIte, zeU]
    refine zaR (fun h2 => ?_) (fun h2 => ?_)
    ·have e2 : c.toNat < 32 := by have := of_decide_eq_true h2; omega
     rw [if_pos (.inl e2)] at hq
     simp only [h2, ssS, zeV, zeT, reduceIte, zeU]
     exact six hq.symm rfl rfl rfl
    ·have e2 : ¬ c.toNat < 32 := by have := of_decide_eq_false h2; omega
     simp only [h2, ssS, zeV, zeT, reduceIte, zeU]
     refine zaj (fun h3 => ?_) (fun h3 => ?_)
     ·have e3 : c.toNat > 126 := by have := of_decide_eq_true h3; omega
      rw [if_pos (.inr e3)] at hq
      simp only [ssS, zeV, zeT, reduceIte, zeU]
      exact six hq.symm rfl rfl rfl
     ·have e3 : ¬ c.toNat > 126 := by have := of_decide_eq_false h3; omega
      rw [if_neg (by omega)] at hq
      simp only [ssS, zeV, zeT, reduceIte, zeU]
      refine zaj (fun h4 => ?_) (fun h4 => ?_)
      ·have e4 : c.toNat = 92 := by have := eq_of_beq h4; omega
       rw [if_pos e4] at hq
       simp only [zaq (show a + 1 + k < 4611686018427387904 by omega), ssS, zeV, zeT, reduceIte, zeU]
       refine zaR (fun h5 => ?_) (fun h5 => ?_)
       ·have e5 : a + 1 + k + 1 = s.length := by have := eq_of_beq h5; omega
        rw [e5, zfD] at hq
        simp only [h5, ssS, zeV, zeT, reduceIte, zeU]
        exact six hq.symm rfl rfl rfl
       ·have e5 : a + 1 + k + 1 < s.length := by
         have : ¬ a + 1 + k + 1 = s.length := by
          intro e
          rw [e] at h5
          simp at h5
         omega
        have hx2 : s[a + 1 + k + 1]? = some s[a + 1 + k + 1] := by simp [e5]
        have hdrop2 : s.drop (a + 1 + k + 1) = s[a + 1 + k + 1] :: s.drop (a + 1 + k + 1 + 1) := zfi e5
        generalize s[a + 1 + k + 1] = d at hx2 hdrop2
        rw [hdrop2] at hq
        simp only at hq
        have good : (d.toNat = 92 ∨ d.toNat = 34 ∨ d.toNat = 110) → res = (if acc.length = 255 then .error 5 else qL (s.drop (a + 1 + (k + 1 + 1))) (acc ++ [if d.toNat = 110 then 10 else d]) (k + 1 + 1)) := by
         intro hd
         rw [if_neg (by omega)] at hq
         exact hq.symm
        have ne : ∀ {k : Nat}, ¬ d.toNat = k → ((d.toNat : Int) != (k : Int)) = true := by
         intro k hk
         simp only [bne_iff_ne, ne_eq]
         omega
        have nq : ∀ {k : Nat}, ¬ d.toNat = k → ((d.toNat : Int) == (k : Int)) = false := by
         intro k hk
         simp only [beq_eq_false_iff_ne, ne_eq]
         omega
        by_cases d1 : d.toNat = 92
        ·have f1 : ((d.toNat : Int) != 92) = false := by rw [d1]; rfl
         have f2 : ((d.toNat : Int) == 110) = false := nq (k := 110) (by omega)
         have hg := good (.inl d1)
         rw [if_neg (show ¬ d.toNat = 110 by omega)] at hg
         simp only [h5, zby hx2, f1, f2, ssS, zeV, zeT, reduceIte, zeU]
         exact ⟨k + 1, d, by omega, e5, hg, rfl, rfl⟩
        ·have f1 : ((d.toNat : Int) != 92) = true := ne (k := 92) d1
         by_cases d2 : d.toNat = 34
         ·have f2 : ((d.toNat : Int) != 34) = false := by rw [d2]; rfl
          have f3 : ((d.toNat : Int) == 110) = false := nq (k := 110) (by omega)
          have hg := good (.inr (.inl d2))
          rw [if_neg (show ¬ d.toNat = 110 by omega)] at hg
          simp only [h5, zby hx2, f1, f2, f3, ssS, zeV, zeT, reduceIte, zeU]
          exact ⟨k + 1, d, by omega, e5, hg, rfl, rfl⟩
         ·have f2 : ((d.toNat : Int) != 34) = true := ne (k := 34) d2
          by_cases d3 : d.toNat = 110
          ·have f3 : ((d.toNat : Int) != 110) = false := by rw [d3]; rfl
           have f4 : ((d.toNat : Int) == 110) = true := by rw [d3]; rfl
           have hg := good (.inr (.inr d3))
           rw [if_pos d3] at hg
           simp only [h5, zby hx2, f1, f2, f3, f4, ssS, zeV, zeT, reduceIte, zeU]
           exact ⟨k + 1, 10, by omega, e5, hg, rfl, rfl⟩
          ·have f3 : ((d.toNat : Int) != 110) = true := ne (k := 110) d3
           rw [if_pos ⟨d1, d2, d3⟩] at hq
           simp only [h5, zby hx2, f1, f2, f3, ssS, zeV, zeT, reduceIte, zeU]
           exact six hq.symm rfl rfl rfl
      ·have e4 : ¬ c.toNat = 92 := by
        intro e
        rw [e] at h4
        cases h4
       rw [if_neg e4] at hq
       simp only [ssS, zeV, zeT, reduceIte, zeU]
       exact ⟨k, c, Nat.le_refl k, hlt, hq.symm, rfl, rfl⟩
 ·have hge : a + 1 + k = s.length := by have := of_decide_eq_false h; omega
  simp only [ssS, zeV, zeT, reduceIte, zeU]
  refine fin (r := .error 6) ?_ ?_
  ·rw [← hq, hge, zfD, qL]
  ·rw [zax]
   rfl
theorem idxB3 (d : UInt8) : idxB [92, 34, 110] d = if d.toNat = 92 then 0 else if d.toNat = 34 then 1 else if d.toNat = 110 then 2 else -1 := by
 have key : ∀ c : UInt8, (c == d) = decide (d.toNat = c.toNat) := by
  intro c
  rw [zfF]
  simp only [beq_iff_eq, decide_eq_true_eq]
  constructor
  ·rintro rfl; rfl
  ·intro h; exact UInt8.toNat_inj.1 h.symm
 unfold idxB
 simp only [List.findIdx?_cons, key, List.findIdx?_nil]
 by_cases d1 : d.toNat = 92
 ·simp [d1]
 ·by_cases d2 : d.toNat = 34
  ·simp [d2]
  ·by_cases d3 : d.toNat = 110
   ·simp [d3]
   ·simp [d1, d2, d3]
def Bld (m m' : Store) (b : Nat) (l : List UInt8) : Prop := ∃ p u, m' b = some (.var 328 [p, u]) ∧ markOk b p ∧ (∀ c x, m c = some x → m' c = some x) ∧
 ((l = [] ∧ u = .sl [] [] .full) ∨ (l ≠ [] ∧ ∃ t k, m' t = some (.tip 5 k) ∧ m t = none ∧ u = .sl (l.map by8) [] (.tip t k)))
def quotOut (T : TypeId) (a0 a1 a2 : V) (e0 : Int) (xb : Nat) (m : Store) (r : Except Int (List UInt8 × Nat)) (o : Out) (m' : Store) : Prop := match r with
 | .ok (l, k) => o = .ret (.tup [bs l, it ((k + 2 : Nat) : Int)]) ∧ m' = m
 | .error e => o = .ret (.tup [bs [], it 0]) ∧ m' = m.set xb (.var T [a0, a1, a2, it e])
theorem quoted_ok {Γ : Glob} (L : LibOk Γ) {m : Store} {xb : Nat} {T : TypeId} {a0 a1 a2 : V} {e : Int} (s : List UInt8) (hs : s.length ≤ 4096) (hx : m xb = some (.var T [a0, a1, a2, it e])) :
  zae Tryz.prog Γ 234 [.ptr xb 0, bs s] m fun o m' => quotOut T a0 a1 a2 e xb m (qL s [] 0) o m' := by
 refine zad mixed F234_ok (by
  rintro v m b x _ h
  exfalso
  unfold quotOut at h
  split at h
  ·cases h.1
  ·cases h.1) ?_
 simp only [F234, ss0, ze0, zeV]
 simp only [ssS, zeV, zeT, reduceIte, zeU]
 refine zao fun b hb => ?_
 simp only [ssS, zeV, zeT, reduceIte, zeU]
 generalize hres : qL s [] 0 = res
 have hxb : xb ≠ b := by
  rintro rfl
  rw [hx] at hb
  cases hb
 have fail : ∀ {t : List V} {m1 : Store} {l : List UInt8} {er : Int}, Bld m m1 b l → res = .error er → resV [.tmp 4, .tmp 5] ⟨t, m1.set xb (.var T [a0, a1, a2, it er])⟩ = some (.tup [bs [], it 0]) →
   bodyA [.tmp 4, .tmp 5] (fun o m' => quotOut T a0 a1 a2 e xb m res o m') .ret ⟨t, m1.set xb (.var T [a0, a1, a2, it er])⟩ := by
  rintro t m1 l er ⟨p, u, h1, h2, h3, h4⟩ hr hv
  refine zaQ (m' := m.set xb (.var T [a0, a1, a2, it er])) hv (fun c x hc => ?_) ?_
  ·by_cases e : c = xb
   ·subst e
    rw [Store.set_same] at hc ⊢
    exact hc
   ·rw [Store.set_ne _ _ e] at hc ⊢
    exact h3 c x hc
  ·rw [hr]
   exact ⟨rfl, rfl⟩
 have good : ∀ {t : List V} {m1 : Store} {l : List UInt8} {k : Nat}, (∀ c x, m c = some x → m1 c = some x) → res = .ok (l, k) → resV [.tmp 4, .tmp 5] ⟨t, m1⟩ = some (.tup [bs l, it ((k + 2 : Nat) : Int)]) →
   bodyA [.tmp 4, .tmp 5] (fun o m' => quotOut T a0 a1 a2 e xb m res o m') .ret ⟨t, m1⟩ := by
  intro t m1 l k h3 hr hv
  refine zaQ (m' := m) hv h3 ?_
  rw [hr]
  exact ⟨rfl, rfl⟩
 refine zbb (zbV (zbR (n := fun st => ∃ l, Bld m st.m b l ∧ res = .error 6 ∧ st.t.length = 59 ∧ tget st.t 0 = .ptr xb 0) ?_ (fun _ _ h => h))) ?_
 ·rintro ⟨t, m1⟩ ⟨l, hB, hr, hlen, h0⟩
  simp only at hB hlen h0
  have hx1 : m1 xb = some (.var T [a0, a1, a2, it e]) := by
   obtain ⟨_, _, _, _, h3, _⟩ := hB
   exact h3 _ _ hx
  rw [t_eq hlen]
  simp only [zat, zaA, zeV, h0]
  simp only [hx1, ssS, zeV, zeT, reduceIte, zeU]
  exact fail hB hr rfl
 ·refine zbc (fun n st => ∃ (k : Nat) (acc : List UInt8), n = s.length - k ∧ k ≤ s.length ∧ acc.length ≤ 255 ∧ qL (s.drop k) acc k = res ∧ Bld m st.m b acc ∧ st.t.length = 59 ∧ tget st.t 0 = .ptr xb 0 ∧ tget st.t 1 = bs s ∧ tget st.t 6 = .ptr b 0 ∧ tget st.t 7 = it k) s.length
   ⟨0, [], rfl, by omega, by simp, hres, ⟨.val (.pointer none), .sl [] [] .full, Store.set_same _ _ _, .inl rfl, sub_set hb (fun _ _ h => h), .inl ⟨rfl, rfl⟩⟩, rfl, rfl, rfl, rfl, rfl⟩ ?_
  rintro n ⟨t, m1⟩ ⟨k, acc, hn, hk, hacc, hq, hB, hlen, h0, h1, h6, h7⟩
  simp only at hB h0 h1 h6 h7 hlen
  rw [t_eq hlen]
  simp only [zat, zaA, zeV, h0, h1, h6, h7]
  simp only [ssS, zeV, zeT, reduceIte, zeU]
  refine zaj (fun h => ?_) (fun h => ?_)
  ·have hlt : k < s.length := by have := of_decide_eq_true h; omega
   have hx2 : s[k]? = some s[k] := by simp [hlt]
   have hdrop : s.drop k = s[k] :: s.drop (k + 1) := zfi hlt
   generalize s[k] = c at hx2 hdrop
   rw [hdrop, qL.eq_def] at hq
   simp only at hq
   simp only [zby hx2, ssS, zeV, zeT, reduceIte, zeU]
   obtain ⟨p, u, hb1, hb2, hb3, hb4⟩ := id hB
   have hu : ∃ tok, u = .sl (acc.map by8) [] tok := by
    rcases hb4 with ⟨rfl, h⟩ | ⟨_, t, k, _, _, h⟩
    ·exact ⟨_, h⟩
    ·exact ⟨_, h⟩
   refine zaj (fun h1 => ?_) (fun h1 => ?_)
   ·have e1 : c.toNat = 34 := by have := eq_of_beq h1; omega
    rw [if_pos e1] at hq
    have hw : IntKind.i64.wrap ((k : Int) + 2) = ((k + 2 : Nat) : Int) := by
     rw [wrap_i64 (by omega) (by omega)]
     rfl
    simp only [ssS, zeV, zeT, reduceIte, zeU]
    refine zbG (L.string m1 b p u acc hb1 (by omega) (hb4.imp_right fun ⟨h, t, k, x, _, y⟩ => ⟨h, t, k, x, y⟩)) ?_ (by rintro v m' ⟨⟨⟩, _⟩)
    rintro v m' ⟨hv, hkeep⟩
    cases hv
    simp only [hw, ssS, zeV, zeT, reduceIte, zeU]
    refine good (fun c x hc => hkeep c x (hb3 c x hc) ?_) hq.symm rfl
    rintro l2 k2 hu2
    rcases hb4 with ⟨_, h⟩ | ⟨_, t2, k3, _, h2, h3⟩
    ·rw [h] at hu2; cases hu2
    ·rw [h3] at hu2
     simp only [V.sl.injEq, Tok.tip.injEq] at hu2
     rw [← hu2.2.2.1, h2] at hc
     cases hc
   ·have e1 : ¬ c.toNat = 34 := by
     intro e
     rw [e] at h1
     cases h1
    rw [if_neg e1] at hq
    simp only [ssS, zeV, zeT, reduceIte, zeU]
    refine zaR (fun h2 => ?_) (fun h2 => ?_)
    ·have e2 : c.toNat < 32 := by have := of_decide_eq_true h2; omega
     rw [if_pos (.inl e2)] at hq
     simp only [h2, ssS, zeV, zeT, reduceIte, zeU]
     exact ⟨acc, hB, hq.symm⟩
    ·have e2 : ¬ c.toNat < 32 := by have := of_decide_eq_false h2; omega
     simp only [h2, ssS, zeV, zeT, reduceIte, zeU]
     refine zaj (fun h3 => ?_) (fun h3 => ?_)
     ·have e3 : c.toNat > 126 := by have := of_decide_eq_true h3; omega
      rw [if_pos (.inr e3)] at hq
      simp only [ssS, zeV, zeT, reduceIte, zeU]
      exact ⟨acc, hB, hq.symm⟩
     ·have e3 : ¬ c.toNat > 126 := by have := of_decide_eq_false h3; omega
      rw [if_neg (by omega)] at hq
      simp only [ssS, zeV, zeT, reduceIte, zeU]
      refine condS_then (M := fun st => ∃ (k' : Nat) (c' : UInt8), st.m = m1 ∧ k ≤ k' ∧ k' < s.length ∧ res = (if acc.length = 255 then .error 5 else qL (s.drop (k' + 1)) (acc ++ [c']) (k' + 1)) ∧ st.t.length = 59 ∧ tget st.t 0 = .ptr xb 0 ∧ tget st.t 1 = bs s ∧ tget st.t 6 = .ptr b 0 ∧ tget st.t 7 = it k' ∧ tget st.t 8 = by8 c') ?_ ?_
      ·rintro ⟨t, m2⟩ ⟨k', c', hm2, hkk, hlt', hres', hlen, h0, h1, h6, h7, h8⟩
       simp only at hm2 hlen h0 h1 h6 h7 h8
       subst hm2
       rw [t_eq hlen]
       simp only [zat, zaA, zeV, h0, h1, h6, h7, h8]
       simp only [ssS, zeV, zeT, reduceIte, zeU]
       have hu' := hu
       obtain ⟨tok, rfl⟩ := hu'
       refine zai (bldLen_ok hb1) ?_
       simp only [zfk, ssS, zeV, zeT, reduceIte, zeU]
       refine zaj (fun h => ?_) (fun h => ?_)
       ·have h255 : acc.length = 255 := by have := eq_of_beq h; omega
        have hx1 := hb3 _ _ hx
        simp only [hx1, ssS, zeV, zeT, reduceIte, zeU]
        exact fail (l := acc) hB (by rw [hres', if_pos h255]) rfl
       ·have h255 : ¬ acc.length = 255 := by
         intro e
         rw [e] at h
         cases h
        rw [if_neg h255] at hres'
        simp only [ssS, zeV, zeT, reduceIte, zeU]
        refine zbG (bldWrite_ok L c' hb1 hb2 (by omega) (hb4.imp_right fun ⟨h, t, k, x, _, y⟩ => ⟨h, t, k, x, y⟩)) ?_ (by rintro v m' ⟨⟨⟩, _⟩)
        rintro v m' ⟨hv, t, j, htb, hmt, rfl⟩
        cases hv
        have hmt0 : m t = none := by
         rcases hmt with h | ⟨k0, h, l0, hl0⟩
         ·cases hm : m t with
          | none => rfl
          | some x => rw [hb3 _ _ hm] at h; cases h
         ·rcases hb4 with ⟨_, h2⟩ | ⟨_, t2, k2, q1, q2, q3⟩
          ·rw [h2] at hl0; cases hl0
          ·rw [q3] at hl0
           simp only [V.sl.injEq, Tok.tip.injEq] at hl0
           rw [← hl0.2.2.1]
           exact q2
        simp only [zaq (show k' < 4611686018427387904 by omega), ssS, zeV, zeT, reduceIte, zeU]
        refine ⟨s.length - (k' + 1), by omega, k' + 1, acc ++ [c'], rfl, by omega, by simp; omega, hres'.symm, ⟨.ptr b 0, _, Store.set_same _ _ _, .inr rfl, ?_, .inr ⟨by simp, t, j, ?_, hmt0, rfl⟩⟩, rfl⟩
        ·intro c x hc
         have n1 : c ≠ b := by rintro rfl; rw [hb] at hc; cases hc
         have n2 : c ≠ t := by rintro rfl; rw [hmt0] at hc; cases hc
         rw [Store.set_ne _ _ n1, Store.set_ne _ _ n2]
         exact hb3 c x hc
        ·rw [Store.set_ne _ _ htb, Store.set_same]
      ·refine zaj (fun h4 => ?_) (fun h4 => ?_)
       ·have e4 : c.toNat = 92 := by have := eq_of_beq h4; omega
        rw [if_pos e4] at hq
        simp only [zaq (show k < 4611686018427387904 by omega), ssS, zeV, zeT, reduceIte, zeU]
        refine zaR (fun h5 => ?_) (fun h5 => ?_)
        ·have e5 : k + 1 = s.length := by have := eq_of_beq h5; omega
         rw [e5, zfD] at hq
         simp only [h5, ssS, zeV, zeT, reduceIte, zeU]
         exact ⟨acc, hB, hq.symm⟩
        ·have e5 : k + 1 < s.length := by
          have : ¬ k + 1 = s.length := by
           intro e
           rw [e] at h5
           simp at h5
          omega
         have hx3 : s[k + 1]? = some s[k + 1] := by simp [e5]
         have hdrop2 : s.drop (k + 1) = s[k + 1] :: s.drop (k + 1 + 1) := zfi e5
         generalize s[k + 1] = d at hx3 hdrop2
         rw [hdrop2] at hq
         simp only at hq
         simp only [h5, zby hx3, ssS, zeV, zeT, reduceIte, zeU]
         refine zai (L.indexByte m1 [92, 34, 110] d (by decide)) ?_
         have good2 : (d.toNat = 92 ∨ d.toNat = 34 ∨ d.toNat = 110) → res = (if acc.length = 255 then .error 5 else qL (s.drop (k + 1 + 1)) (acc ++ [if d.toNat = 110 then 10 else d]) (k + 1 + 1)) := by
          intro hd
          rw [if_neg (by omega)] at hq
          exact hq.symm
         have nq : ∀ {k : Nat}, ¬ d.toNat = k → ((d.toNat : Int) == (k : Int)) = false := by
          intro k hk
          simp only [beq_eq_false_iff_ne, ne_eq]
          omega
         have hi := idxB3 d
         by_cases d1 : d.toNat = 92
         ·rw [if_pos d1] at hi
          have f2 : ((d.toNat : Int) == 110) = false := nq (k := 110) (by omega)
          have hg := good2 (.inl d1)
          rw [if_neg (show ¬ d.toNat = 110 by omega)] at hg
          have f1 : decide (idxB [92, 34, 110] d < 0) = false := by rw [hi]; rfl
          simp only [f1, zby hx3, f2, ssS, zeV, zeT, reduceIte, zeU]
          exact ⟨k + 1, d, by omega, e5, hg, rfl, rfl⟩
         ·rw [if_neg d1] at hi
          by_cases d2 : d.toNat = 34
          ·rw [if_pos d2] at hi
           have f2 : ((d.toNat : Int) == 110) = false := nq (k := 110) (by omega)
           have hg := good2 (.inr (.inl d2))
           rw [if_neg (show ¬ d.toNat = 110 by omega)] at hg
           have f1 : decide (idxB [92, 34, 110] d < 0) = false := by rw [hi]; rfl
           simp only [f1, zby hx3, f2, ssS, zeV, zeT, reduceIte, zeU]
           exact ⟨k + 1, d, by omega, e5, hg, rfl, rfl⟩
          ·rw [if_neg d2] at hi
           by_cases d3 : d.toNat = 110
           ·rw [if_pos d3] at hi
            have f4 : ((d.toNat : Int) == 110) = true := by rw [d3]; rfl
            have hg := good2 (.inr (.inr d3))
            rw [if_pos d3] at hg
            have f1 : decide (idxB [92, 34, 110] d < 0) = false := by rw [hi]; rfl
            simp only [f1, zby hx3, f4, ssS, zeV, zeT, reduceIte, zeU]
            exact ⟨k + 1, 10, by omega, e5, hg, rfl, rfl⟩
           ·rw [if_neg d3] at hi
            rw [if_pos ⟨d1, d2, d3⟩] at hq
            have f1 : decide (idxB [92, 34, 110] d < 0) = true := by rw [hi]; rfl
            simp only [f1, ssS, zeV, zeT, reduceIte, zeU]
            exact ⟨acc, hB, hq.symm⟩
       ·have e4 : ¬ c.toNat = 92 := by
         intro e
         rw [e] at h4
         cases h4
        rw [if_neg e4] at hq
        simp only [ssS, zeV, zeT, reduceIte, zeU]
        exact ⟨k, c, Nat.le_refl k, hlt, hq.symm, rfl, rfl⟩
  ·have hge : k = s.length := by have := of_decide_eq_false h; omega
   simp only [ssS, zeV, zeT, reduceIte, zeU]
   exact ⟨acc, hB, by rw [← hq, hge, zfD, qL]⟩
def zef (b : UInt8) : Bool := b.toNat != 10
theorem zcQ {p r : List UInt8} (h : p.isPrefixOf r = true) : p.length ≤ r.length := (List.isPrefixOf_iff_prefix.1 h).length_le
theorem slash_run {r : List UInt8} (h : [47, 47].isPrefixOf r = true) : 0 < (r.takeWhile zef).length := by
 cases r with
 | nil => cases h
 | cons b r =>
  simp only [zfO, ze2, beq_iff_eq] at h
  obtain ⟨rfl, _⟩ := h
  rw [zfn (by decide)]
  simp
def zbw (r : List UInt8) (a l : Nat) : Nat × Nat :=
 if h : [10].isPrefixOf r = true then zbw (r.drop 1) (a + 1) (l + 1)
 else if h2 : ([32].isPrefixOf r || [9].isPrefixOf r) = true then zbw (r.drop 1) (a + 1) l
 else if h3 : [47, 47].isPrefixOf r = true then zbw (r.drop (r.takeWhile zef).length) (a + (r.takeWhile zef).length) l
 else (a, l)
termination_by r.length
decreasing_by
 ·have := zcQ h
  simp at this ⊢
  omega
 ·have : 1 ≤ r.length := by
   rw [zfC] at h2
   rcases h2 with h2 | h2
   ·simpa using zcQ h2
   ·simpa using zcQ h2
  simp
  omega
 ·have h4 := slash_run h3
  have h5 := zcQ h3
  simp at h5 ⊢
  omega
theorem skip_ok {Γ : Glob} {m : Store} {xb : Nat} {T : TypeId} {e : Int} (s : List UInt8) (a0 l0 : Nat) (ha : a0 ≤ s.length) (hl : l0 + s.length < 4611686018427387904) (hx : m xb = some (.var T [bs s, it a0, it l0, it e])) :
  zae Tryz.prog Γ 217 [.ptr xb 0] m fun o m' => o = .ret (.tup []) ∧ m' = m.set xb (.var T [bs s, it (zbw (s.drop a0) a0 l0).1, it (zbw (s.drop a0) a0 l0).2, it e]) := by
 refine zad mixed F217_ok (by rintro v m b x _ ⟨⟨⟩, _⟩) ?_
 simp only [F217, ss0, ze0, zeV]
 simp only [ssS, zeV, zeT, reduceIte, zeU]
 refine zbc (fun n st => ∃ a l : Nat, n = s.length - a ∧ a ≤ s.length ∧ l + (s.length - a) < 4611686018427387904 ∧ zbw (s.drop a) a l = zbw (s.drop a0) a0 l0 ∧ st.m = m.set xb (.var T [bs s, it a, it l, it e]) ∧ st.t.length = 55 ∧ tget st.t 0 = .ptr xb 0)
  (s.length - a0) ⟨a0, l0, rfl, ha, by omega, rfl, (Store.set_eq m hx).symm, rfl, rfl⟩ ?_
 rintro n ⟨t, m1⟩ ⟨a, l, hn, hal, hll, hres, hm, hlen, h0⟩
 simp only at hm h0 hlen
 subst hm
 rw [t_eq hlen]
 simp only [zat, zaA, zeV, h0]
 have hsl : zbs (bs s) (some (some (a : Int))) (some none) = some (bs (s.drop a)) := zd7 hal
 simp only [Store.set_same, hsl, ssS, zeV, zeT, reduceIte, zeU]
 refine zai (zbI _ _) ?_
 simp only [ssS, zeV, zeT, reduceIte, zeU]
 refine zaj (fun h => ?_) (fun h => ?_)
 ·have hlt : a < s.length := by have := zcQ h; simp at this; omega
  simp only [Store.set_same, Store.set_set, zaq (show l < 4611686018427387904 by omega), zaq (show a < 4611686018427387904 by omega), ssS, zeV, zeT, reduceIte, zeU]
  refine ⟨s.length - (a + 1), by omega, a + 1, l + 1, rfl, hlt, by omega, ?_, rfl⟩
  rw [← hres, zbw.eq_1 (s.drop a), dif_pos h, zfu]
 ·simp only [ssS, zeV, zeT, reduceIte, zeU]
  refine zai (zbI _ _) ?_
  simp only [ssS, zeV, zeT, reduceIte, zeU]
  have blank : ∀ k, ([32].isPrefixOf (s.drop a) || [9].isPrefixOf (s.drop a)) = true → k = zbw (s.drop (a + 1)) (a + 1) l → k = zbw (s.drop a0) a0 l0 := by
   intro k h2 hk
   rw [← hres, zbw.eq_1 (s.drop a), dif_neg (by rw [h]; simp), dif_pos h2, zfu, hk]
  refine zaR (fun h2 => ?_) (fun h2 => ?_)
  ·have hlt : a < s.length := by have := zcQ h2; simp at this; omega
   simp only [h2, Store.set_same, Store.set_set, zaq (show a < 4611686018427387904 by omega), ssS, zeV, zeT, reduceIte, zeU]
   refine ⟨s.length - (a + 1), by omega, a + 1, l, rfl, hlt, by omega, blank _ (by rw [h2]; rfl) rfl, rfl⟩
  ·simp only [h2, ssS, zeV, zeT, reduceIte, zeU]
   refine zai (zbI _ _) ?_
   simp only [ssS, zeV, zeT, reduceIte, zeU]
   refine zaj (fun h3 => ?_) (fun h3 => ?_)
   ·have hlt : a < s.length := by have := zcQ h3; simp at this; omega
    simp only [Store.set_same, Store.set_set, zaq (show a < 4611686018427387904 by omega), ssS, zeV, zeT, reduceIte, zeU]
    refine ⟨s.length - (a + 1), by omega, a + 1, l, rfl, hlt, by omega, blank _ (by rw [h3]; simp) rfl, rfl⟩
   ·simp only [ssS, zeV, zeT, reduceIte, zeU]
    refine zai (zbI _ _) ?_
    simp only [ssS, zeV, zeT, reduceIte, zeU]
    have hno : ¬ ([32].isPrefixOf (s.drop a) || [9].isPrefixOf (s.drop a)) = true := by rw [h2, h3]; simp
    have hno1 : ¬ [10].isPrefixOf (s.drop a) = true := by rw [h]; simp
    refine zaj (fun h4 => ?_) (fun h4 => ?_)
    ·simp only [Store.set_same, ssS, zeV, zeT, reduceIte, zeU]
     refine zai (row_ok (p := zef) (s.drop a) (by simp; omega) (fun b => notNl_ok b)) ?_
     have hr0 := slash_run h4
     have hr1 : ((s.drop a).takeWhile zef).length ≤ s.length - a := by
      have := (zff zef (l := s.drop a)).length_le
      simpa using this
     have hw : IntKind.i64.wrap ((a : Int) + (((s.drop a).takeWhile zef).length : Int)) = ((a + ((s.drop a).takeWhile zef).length : Nat) : Int) := by
      rw [wrap_i64 (by omega) (by omega)]
      rfl
     simp only [Store.set_same, Store.set_set, hw, ssS, zeV, zeT, reduceIte, zeU]
     refine ⟨s.length - (a + ((s.drop a).takeWhile zef).length), by omega, a + ((s.drop a).takeWhile zef).length, l, rfl, by omega, by omega, ?_, rfl⟩
     rw [← hres, zbw.eq_1 (s.drop a), dif_neg hno1, dif_neg hno, dif_pos h4, zfu]
    ·simp only [ssS, zeV, zeT, reduceIte, zeU]
     refine zah (v := .tup []) rfl ⟨rfl, ?_⟩
     have hno4 : ¬ [47, 47].isPrefixOf (s.drop a) = true := by rw [h4]; simp
     rw [← hres, zbw.eq_1 (s.drop a), dif_neg hno1, dif_neg hno, dif_neg hno4]
def numL : Nat → List UInt8 → Option Nat
 | n, [] => some n
 | n, b :: r => if n > (9223372036854775807 - (b.toNat - 48)) / 10 then none else numL (10 * n + (b.toNat - 48)) r
def numV (s : List UInt8) : Int := match numL 0 s with
 | some n => n
 | none => -1
theorem conv_u8 {n : Int} : convV Tryz.prog 5 3 (.val (.int .u8 n)) = some (.val (.int .i64 (IntKind.i64.wrap n))) := by kernel_rfl
theorem number_ok {Γ : Glob} {m : Store} (s : List UInt8) (hs : s.length < 4611686018427387904) (hd : ∀ b ∈ s, dig b = true) : zae Tryz.prog Γ 206 [bs s] m fun o m' => o = .ret (it (numV s)) ∧ m' = m := by
 refine zad mixed F206_ok (by rintro v m b x _ ⟨⟨⟩, _⟩) ?_
 simp only [F206, ss0, ze0, zeV]
 simp only [ssS, zeV, zeT, reduceIte, zeU]
 refine zbc (fun n st => ∃ i k : Nat, n = s.length - i ∧ i ≤ s.length ∧ k ≤ 9223372036854775807 ∧ numL k (s.drop i) = numL 0 s ∧ st.m = m ∧ st.t.length = 27 ∧ tget st.t 0 = bs s ∧ tget st.t 3 = it k ∧ tget st.t 4 = it i) s.length ⟨0, 0, rfl, Nat.zero_le _, by omega, rfl, rfl, rfl, rfl, rfl, rfl⟩ ?_
 rintro n ⟨t, m1⟩ ⟨i, k, hn, hi, hk, hres, hm, hlen, h0, h3, h4⟩
 simp only at hm h0 h3 h4 hlen
 subst hm
 rw [t_eq hlen]
 simp only [zat, zaA, zeV, h0, h3, h4]
 simp only [ssS, zeV, zeT, reduceIte, zeU]
 refine zaj (fun h => ?_) (fun h => ?_)
 ·have hlt : i < s.length := by have := of_decide_eq_true h; omega
  have hx : s[i]? = some s[i] := by simp [hlt]
  have hb := hd s[i] (List.getElem_mem _)
  simp only [dig, ze2, decide_eq_true_eq] at hb
  generalize hbe : s[i] = b at hx hb
  have hw : IntKind.u8.wrap ((b.toNat : Int) - 48) = ((b.toNat - 48 : Nat) : Int) := by
   unfold IntKind.wrap
   simp only [IntKind.bits, IntKind.signed, Bool.false_and, ze3, if_false]
   omega
  have hw2 : IntKind.i64.wrap ((b.toNat - 48 : Nat) : Int) = ((b.toNat - 48 : Nat) : Int) := wrap_i64 (by omega) (by omega)
  have hw3 : IntKind.i64.wrap (9223372036854775807 - ((b.toNat - 48 : Nat) : Int)) = ((9223372036854775807 - (b.toNat - 48) : Nat) : Int) := by
   rw [wrap_i64 (by omega) (by omega)]
   omega
  have hq : Int.tdiv ((9223372036854775807 - (b.toNat - 48) : Nat) : Int) 10 = (((9223372036854775807 - (b.toNat - 48)) / 10 : Nat) : Int) := by
   rw [Int.tdiv_eq_ediv_of_nonneg (by omega)]
   omega
  have hw4 : IntKind.i64.wrap (((9223372036854775807 - (b.toNat - 48)) / 10 : Nat) : Int) = (((9223372036854775807 - (b.toNat - 48)) / 10 : Nat) : Int) := wrap_i64 (by omega) (by omega)
  have hdrop : s.drop i = b :: s.drop (i + 1) := by rw [← hbe]; exact zfi hlt
  simp only [zby hx, hw, zdy, conv_u8, hw2, hw3, bin_quo (show (10 : Int) ≠ 0 by decide), hq, hw4, ssS, zeV, zeT, reduceIte, zeU]
  refine zaj (fun h2 => ?_) (fun h2 => ?_)
  ·have hg : k > (9223372036854775807 - (b.toNat - 48)) / 10 := by have := of_decide_eq_true h2; omega
   simp only [ssS, zeV, zeT, reduceIte, zeU]
   refine zah zac ⟨?_, rfl⟩
   simp only [zaa, zab]
   have : numV s = -1 := by
    unfold numV
    rw [← hres, hdrop, numL, if_pos hg]
   rw [this]
  ·have hg : ¬ k > (9223372036854775807 - (b.toNat - 48)) / 10 := by have := of_decide_eq_false h2; omega
   have hw5 : IntKind.i64.wrap (10 * (k : Int)) = ((10 * k : Nat) : Int) := by rw [wrap_i64 (by omega) (by omega)]; rfl
   have hw6 : IntKind.i64.wrap (((10 * k : Nat) : Int) + ((b.toNat - 48 : Nat) : Int)) = ((10 * k + (b.toNat - 48) : Nat) : Int) := by rw [wrap_i64 (by omega) (by omega)]; rfl
   simp only [hw5, hw6, zaq (show i < 4611686018427387904 by omega), ssS, zeV, zeT, reduceIte, zeU]
   refine ⟨s.length - (i + 1), by omega, i + 1, 10 * k + (b.toNat - 48), rfl, hlt, by omega, ?_, rfl, rfl⟩
   rw [← hres, hdrop, numL, if_neg hg]
 ·have hge : i = s.length := by have := of_decide_eq_false h; omega
  simp only [ssS, zeV, zeT, reduceIte, zeU]
  refine zah zac ⟨?_, rfl⟩
  simp only [zaa, zab]
  have : numV s = k := by
   unfold numV
   rw [← hres, hge, zfD, numL]
  rw [this]
end Go.Av.Fn
/- The reference's tokens. No condition. -/
namespace Go.Av.Fn
set_option linter.unusedSimpArgs false
set_option linter.unusedVariables false
set_option maxRecDepth 10000
open Go.Proofs
theorem qL_err {r acc : List UInt8} {k : Nat} {e : Int} (h : qL r acc k = .error e) : e ≠ 0 := by
 fun_induction qL r acc k <;> simp_all <;> (subst h; decide)
def tokL (r : List UInt8) : Except Int (Tk × Nat) := match r with
 | [] => .error 6
 | c :: _ =>
  if let8 c then
   if zaN.contains (r.takeWhile zbg) then .ok (⟨5, r.takeWhile zbg, 0, 0, 0⟩, (r.takeWhile zbg).length)
   else if (r.takeWhile zbg).length > 20 then .error 5 else .ok (⟨1, r.takeWhile zbg, 0, 0, 0⟩, (r.takeWhile zbg).length)
  else if dig c then match numL 0 (r.takeWhile dig) with
   | none => .error 5
   | some n => .ok (⟨2, [], n, 0, 0⟩, (r.takeWhile dig).length)
  else if c.toNat = 34 then match qL (r.drop 1) [] 0 with
   | .error e => .error e
   | .ok (l, k) => .ok (⟨3, l, 0, 0, 0⟩, k + 2)
  else match zaF.find? fun p => p.isPrefixOf r with
   | some p => .ok (⟨4, p, 0, 0, 0⟩, p.length)
   | none => .error 6
def tokOut (a : Nat) (r : Except Int (Tk × Nat)) (o : Out) : Prop := match r with
 | .ok (t, n) => o = .ret (.tup [tkV t, it ((a + n : Nat) : Int), it 0])
 | .error e => e ≠ 0 ∧ ∃ (t : Tk) (w : V), o = .ret (.tup [tkV t, w, it e])
theorem resV_tok {x y z : Nat} {b o : Nat} {T : TypeId} {sz : Option Nat} {cs : List V} {u : V} {t : List V} {m : Store} (h1 : tget t x = .ptr b o) (h2 : m b = some (.var T cs)) (h3 : zbC cs o sz = some u) :
  resV [.cell x sz, .tmp y, .tmp z] ⟨t, m⟩ = some (.tup [u, tget t y, tget t z]) := by
 simp only [resV, zb8, zcf, za3, h1, h2, h3, Option.map_some]
theorem tw_all {p : UInt8 → Bool} : ∀ (r : List UInt8), ∀ x ∈ r.takeWhile p, p x = true
 | [], x, hx => by cases hx
 | b :: r, x, hx => by
  cases hb : p b with
  | true =>
   rw [zfn hb] at hx
   rcases List.mem_cons.1 hx with rfl | hx
   ·exact hb
   ·exact tw_all r x hx
  | false =>
   rw [List.takeWhile_cons_of_neg (by simp [hb])] at hx
   cases hx
theorem takeWhile_take {p : UInt8 → Bool} (r : List UInt8) : r.take (r.takeWhile p).length = r.takeWhile p := by
 induction r with
 | nil => rfl
 | cons b r ih =>
  cases hb : p b with
  | true => rw [zfn hb, ze1, List.take_succ_cons, ih]
  | false => rw [List.takeWhile_cons_of_neg (by simp [hb])]; rfl
theorem refToken_ok {Γ : Glob} {m : Store} (s : List UInt8) (a : Nat) (ha : a < s.length) (hs : s.length < 2305843009213693952) :
  zae Tryz.prog Γ 181 [bs s, it a] m fun o m' => tokOut a (tokL (s.drop a)) o ∧ m' = m := by
 refine zad mixed F181_ok (by
  rintro v m b x _ ⟨h, _⟩
  exfalso
  unfold tokOut at h
  split at h
  ·cases h
  ·obtain ⟨_, _, _, h⟩ := h
   cases h) ?_
 have hx : s[a]? = some s[a] := by simp [ha]
 have hdrop : s.drop a = s[a] :: s.drop (a + 1) := zfi ha
 generalize s[a] = c at hx hdrop
 simp only [F181, ss0, ze0, zeV]
 simp only [ssS, zeV, zeT, reduceIte, zeU]
 refine zao fun b hb => ?_
 simp only [zby hx, ssS, zeV, zeT, reduceIte, zeU]
 refine zai (zdJ c) ?_
 simp only [ssS, zeV, zeT, reduceIte, zeU]
 have fin : ∀ {t : List V} {m2 : Store} {u : V} {T : TypeId} {cs : List V}, tget t 4 = .ptr b 0 → m2 b = some (.var T cs) → zbC cs 0 (some 5) = some u → (∀ c, c ≠ b → m2 c = m c) → tokOut a (tokL (s.drop a)) (.ret (.tup [u, tget t 5, tget t 6])) →
   bodyA [.cell 4 (some 5), .tmp 5, .tmp 6] (fun o m' => tokOut a (tokL (s.drop a)) o ∧ m' = m) .ret ⟨t, m2⟩ := by
  intro t m2 u T cs h1 h2 h3 h4 h5
  exact zaQ (resV_tok h1 h2 h3) (drop_set hb h4) ⟨h5, rfl⟩
 refine zaj (fun hc => ?_) (fun hc => ?_)
 ·-- a name or a word
  have hspec : tokL (s.drop a) = if zaN.contains ((s.drop a).takeWhile zbg) then .ok (⟨5, (s.drop a).takeWhile zbg, 0, 0, 0⟩, ((s.drop a).takeWhile zbg).length)
    else if ((s.drop a).takeWhile zbg).length > 20 then .error 5 else .ok (⟨1, (s.drop a).takeWhile zbg, 0, 0, 0⟩, ((s.drop a).takeWhile zbg).length) := by
   rw [hdrop]
   simp only [tokL, hc, if_true]
  simp only [ssS, zeV, zeT, reduceIte, zeU]
  have hL : ((s.drop a).takeWhile zbg).length ≤ s.length - a := by
   have := (zff zbg (l := s.drop a)).length_le
   simpa using this
  have hcut : zbs (bs s) (some (some (a : Int))) (some (some ((a + ((s.drop a).takeWhile zbg).length : Nat) : Int))) = some (bs ((s.drop a).takeWhile zbg)) := by
   rw [slice_bs (by omega) (by omega), List.drop_take, Nat.add_sub_cancel_left, takeWhile_take]
  generalize hW : (s.drop a).takeWhile zbg = W at hspec hL hcut
  refine zbb (zbV (zbR (n := fun st => st.m = m.set b (.var 179 [it 0, bs [], it 0, it 0, it 0]) ∧ st.t.length = 144 ∧ tget st.t 0 = bs s ∧ tget st.t 1 = it a ∧ tget st.t 4 = .ptr b 0 ∧ tget st.t 8 = it ((a + W.length : Nat) : Int)) ?_ (fun _ _ h => h))) ?_
  ·rintro ⟨t, m1⟩ ⟨hm, hlen, h0, h1, h4, h8⟩
   simp only at hm h0 h1 h4 h8 hlen
   subst hm
   rw [t_eq hlen]
   simp only [zat, zaA, zeV, h0, h1, h4, h8]
   simp only [hcut, ssS, zeV, zeT, reduceIte, zeU]
   refine zai (refWord_ok W) ?_
   simp only [ssS, zeV, zeT, reduceIte, zeU]
   refine zaj (fun hw => ?_) (fun hw => ?_)
   ·simp only [Store.set_same, ssS, zeV, zeT, reduceIte, zeU]
    refine fin rfl (Store.set_same _ _ _) rfl (fun c hc => by simp [Store.set, hc]) ?_
    rw [hspec, if_pos hw]
    rfl
   ·simp only [ssS, zeV, zeT, reduceIte, zeU]
    refine zaj (fun h20 => ?_) (fun h20 => ?_)
    ·have h20 : W.length > 20 := by have := of_decide_eq_true h20; omega
     simp only [Store.set_same, ssS, zeV, zeT, reduceIte, zeU]
     refine fin rfl (Store.set_same _ _ _) rfl (fun c hc => by simp [Store.set, hc]) ?_
     rw [hspec, if_neg (by rw [hw]; simp), if_pos h20]
     exact ⟨by decide, ⟨0, [], 0, 0, 0⟩, _, rfl⟩
    ·have h20 : ¬ W.length > 20 := by have := of_decide_eq_false h20; omega
     simp only [Store.set_same, ssS, zeV, zeT, reduceIte, zeU]
     refine fin rfl (Store.set_same _ _ _) rfl (fun c hc => by simp [Store.set, hc]) ?_
     rw [hspec, if_neg (by rw [hw]; simp), if_neg h20]
     rfl
  refine zbc (fun n st => ∃ j : Nat, n = s.length - (a + j) ∧ a + j ≤ s.length ∧ (∀ x ∈ (s.drop a).take j, zbg x = true) ∧ st.m = m.set b (.var 179 [it 0, bs [], it 0, it 0, it 0]) ∧ st.t.length = 144 ∧ tget st.t 0 = bs s ∧ tget st.t 1 = it a ∧ tget st.t 4 = .ptr b 0 ∧ tget st.t 8 = it ((a + j : Nat) : Int)) (s.length - a)
   ⟨0, rfl, by omega, by simp, rfl, rfl, rfl, rfl, rfl, rfl⟩ ?_
  rintro n ⟨t, m1⟩ ⟨j, hn, hj, hpre, hm, hlen, h0, h1, h4, h8⟩
  simp only at hm h0 h1 h4 h8 hlen
  subst hm
  rw [t_eq hlen]
  simp only [zat, zaA, zeV, h0, h1, h4, h8]
  simp only [ssS, zeV, zeT, reduceIte, zeU]
  refine zaR (fun h => ?_) (fun h => ?_)
  ·have hlt : a + j < s.length := by have := of_decide_eq_true h; omega
   have hx : s[a + j]? = some s[a + j] := by simp [hlt]
   have hr : (s.drop a)[j]? = some s[a + j] := by rw [List.getElem?_drop, hx]
   generalize s[a + j] = d at hx hr
   have stop : zbg d = false → W.length = j := fun hd => by
    rw [← hW]
    exact zaX hpre (by simp; omega) (fun b hb => by rw [hr] at hb; cases hb; exact hd)
   have more : zbg d = true → ∀ x ∈ (s.drop a).take (j + 1), zbg x = true := by
    intro hd x hx
    rw [zfh, hr] at hx
    rcases List.mem_append.1 hx with hx | hx
    ·exact hpre x hx
    ·simp at hx
     subst hx
     exact hd
   simp only [h, zby hx, ssS, zeV, zeT, reduceIte, zeU]
   refine zai (zdJ d) ?_
   simp only [ssS, zeV, zeT, reduceIte, zeU]
   refine zaR (fun hd => ?_) (fun hd => ?_)
   ·simp only [hd, zaq (show a + j < 4611686018427387904 by omega), ssS, zeV, zeT, reduceIte, zeU]
    refine ⟨s.length - (a + (j + 1)), by omega, j + 1, rfl, hlt, more (by simp [zbg, hd]), rfl⟩
   ·simp only [hd, zby hx, ssS, zeV, zeT, reduceIte, zeU]
    refine zai (zeF d) ?_
    simp only [ssS, zeV, zeT, reduceIte, zeU]
    refine zaj (fun hd2 => ?_) (fun hd2 => ?_)
    ·simp only [zaq (show a + j < 4611686018427387904 by omega), ssS, zeV, zeT, reduceIte, zeU]
     refine ⟨s.length - (a + (j + 1)), by omega, j + 1, rfl, hlt, more (by simp [zbg, hd2]), rfl⟩
    ·simp only [ssS, zeV, zeT, reduceIte, zeU]
     rw [stop (by simp [zbg, hd, hd2])]
  ·have hge : a + j = s.length := by have := of_decide_eq_false h; omega
   have stop : W.length = j := by
    rw [← hW]
    exact zaX hpre (by simp; omega) (fun b hb => by rw [zfL (by simp; omega)] at hb; cases hb)
   simp only [h, ssS, zeV, zeT, reduceIte, zeU]
   rw [stop]
 ·simp only [ssS, zeV, zeT, reduceIte, zeU]
  refine zai (zeF c) ?_
  simp only [ssS, zeV, zeT, reduceIte, zeU]
  refine zaj (fun hc2 => ?_) (fun hc2 => ?_)
  ·-- a number
   have hspec : tokL (s.drop a) = match numL 0 ((s.drop a).takeWhile dig) with
     | none => .error 5
     | some n => .ok (⟨2, [], n, 0, 0⟩, ((s.drop a).takeWhile dig).length) := by
    rw [hdrop]
    simp only [tokL, hc, hc2, if_true, ze3, if_false]
   simp only [ssS, zeV, zeT, reduceIte, zeU]
   have hL : ((s.drop a).takeWhile dig).length ≤ s.length - a := by
    have := (zff dig (l := s.drop a)).length_le
    simpa using this
   have hcut : zbs (bs s) (some (some (a : Int))) (some (some ((a + ((s.drop a).takeWhile dig).length : Nat) : Int))) = some (bs ((s.drop a).takeWhile dig)) := by
    rw [slice_bs (by omega) (by omega), List.drop_take, Nat.add_sub_cancel_left, takeWhile_take]
   have hall : ∀ x ∈ (s.drop a).takeWhile dig, dig x = true := tw_all _
   generalize hW : (s.drop a).takeWhile dig = W at hspec hL hcut hall
   refine zbb (zbV (zbR (n := fun st => st.m = m.set b (.var 179 [it 0, bs [], it 0, it 0, it 0]) ∧ st.t.length = 144 ∧ tget st.t 0 = bs s ∧ tget st.t 1 = it a ∧ tget st.t 4 = .ptr b 0 ∧ tget st.t 8 = it ((a + W.length : Nat) : Int)) ?_ (fun _ _ h => h))) ?_
   ·rintro ⟨t, m1⟩ ⟨hm, hlen, h0, h1, h4, h8⟩
    simp only at hm h0 h1 h4 h8 hlen
    subst hm
    rw [t_eq hlen]
    simp only [zat, zaA, zeV, h0, h1, h4, h8]
    simp only [hcut, ssS, zeV, zeT, reduceIte, zeU]
    refine zai (number_ok W (by omega) hall) ?_
    simp only [ssS, zeV, zeT, reduceIte, zeU]
    cases hnum : numL 0 W with
    | none =>
     have hv : decide (numV W < 0) = true := by simp [numV, hnum]
     simp only [hv, Store.set_same, ssS, zeV, zeT, reduceIte, zeU]
     refine fin rfl (Store.set_same _ _ _) rfl (fun c hc => by simp [Store.set, hc]) ?_
     rw [hspec, hnum]
     exact ⟨by decide, ⟨0, [], 0, 0, 0⟩, _, rfl⟩
    | some k =>
     have hv : decide (numV W < 0) = false := by simp [numV, hnum]
     have hv2 : numV W = k := by simp [numV, hnum]
     have hv3 : decide ((k : Int) < 0) = false := by simp
     simp only [hv3, hv2, Store.set_same, ssS, zeV, zeT, reduceIte, zeU]
     refine fin rfl (Store.set_same _ _ _) rfl (fun c hc => by simp [Store.set, hc]) ?_
     rw [hspec, hnum]
     rfl
   refine zbc (fun n st => ∃ j : Nat, n = s.length - (a + j) ∧ a + j ≤ s.length ∧ (∀ x ∈ (s.drop a).take j, dig x = true) ∧ st.m = m.set b (.var 179 [it 0, bs [], it 0, it 0, it 0]) ∧ st.t.length = 144 ∧ tget st.t 0 = bs s ∧ tget st.t 1 = it a ∧ tget st.t 4 = .ptr b 0 ∧ tget st.t 8 = it ((a + j : Nat) : Int)) (s.length - a)
    ⟨0, rfl, by omega, by simp, rfl, rfl, rfl, rfl, rfl, rfl⟩ ?_
   rintro n ⟨t, m1⟩ ⟨j, hn, hj, hpre, hm, hlen, h0, h1, h4, h8⟩
   simp only at hm h0 h1 h4 h8 hlen
   subst hm
   rw [t_eq hlen]
   simp only [zat, zaA, zeV, h0, h1, h4, h8]
   simp only [ssS, zeV, zeT, reduceIte, zeU]
   refine zaR (fun h => ?_) (fun h => ?_)
   ·have hlt : a + j < s.length := by have := of_decide_eq_true h; omega
    have hx : s[a + j]? = some s[a + j] := by simp [hlt]
    have hr : (s.drop a)[j]? = some s[a + j] := by rw [List.getElem?_drop, hx]
    generalize s[a + j] = d at hx hr
    have stop : dig d = false → W.length = j := fun hd => by
     rw [← hW]
     exact zaX hpre (by simp; omega) (fun b hb => by rw [hr] at hb; cases hb; exact hd)
    have more : dig d = true → ∀ x ∈ (s.drop a).take (j + 1), dig x = true := by
     intro hd x hx
     rw [zfh, hr] at hx
     rcases List.mem_append.1 hx with hx | hx
     ·exact hpre x hx
     ·simp at hx
      subst hx
      exact hd
    simp only [h, zby hx, ssS, zeV, zeT, reduceIte, zeU]
    refine zai (zeF d) ?_
    simp only [ssS, zeV, zeT, reduceIte, zeU]
    refine zaj (fun hd2 => ?_) (fun hd2 => ?_)
    ·simp only [zaq (show a + j < 4611686018427387904 by omega), ssS, zeV, zeT, reduceIte, zeU]
     refine ⟨s.length - (a + (j + 1)), by omega, j + 1, rfl, hlt, more hd2, rfl⟩
    ·simp only [ssS, zeV, zeT, reduceIte, zeU]
     rw [stop hd2]
   ·have hge : a + j = s.length := by have := of_decide_eq_false h; omega
    have stop : W.length = j := by
     rw [← hW]
     exact zaX hpre (by simp; omega) (fun b hb => by rw [zfL (by simp; omega)] at hb; cases hb)
    simp only [h, ssS, zeV, zeT, reduceIte, zeU]
    rw [stop]
  ·simp only [ssS, zeV, zeT, reduceIte, zeU]
   refine zaj (fun hc3 => ?_) (fun hc3 => ?_)
   ·have e3 : c.toNat = 34 := by have := eq_of_beq hc3; omega
    have hspec : tokL (s.drop a) = match qL (s.drop (a + 1)) [] 0 with
      | .error e => .error e
      | .ok (l, k) => .ok (⟨3, l, 0, 0, 0⟩, k + 2) := by
     rw [hdrop]
     simp only [tokL, hc, hc2, e3, if_true, ze3, if_false, List.drop_succ_cons, List.drop_zero]
    simp only [ssS, zeV, zeT, reduceIte, zeU]
    refine zai (refQuoted_ok s a ha (by omega)) ?_
    cases hq : qL (s.drop (a + 1)) [] 0 with
    | error e =>
     simp only [qRes, Store.set_same, ssS, zeV, zeT, reduceIte, zeU]
     refine fin rfl (Store.set_same _ _ _) rfl (fun c hc => by simp [Store.set, hc]) ?_
     rw [hspec, hq]
     exact ⟨qL_err hq, ⟨3, [], 0, 0, 0⟩, _, rfl⟩
    | ok x =>
     obtain ⟨l, k⟩ := x
     simp only [qRes, Store.set_same, ssS, zeV, zeT, reduceIte, zeU]
     refine fin rfl (Store.set_same _ _ _) rfl (fun c hc => by simp [Store.set, hc]) ?_
     rw [hspec, hq]
     rfl
   ·have e3 : ¬ c.toNat = 34 := by
     intro e
     rw [e] at hc3
     cases hc3
    have hspec : tokL (s.drop a) = match zaF.find? fun p => p.isPrefixOf (s.drop a) with
      | some p => .ok (⟨4, p, 0, 0, 0⟩, p.length)
      | none => .error 6 := by
     rw [hdrop]
     simp only [tokL, hc, hc2, e3, ze3, if_false]
    simp only [ssS, zeV, zeT, reduceIte, zeU]
    refine zai Signs_ok ?_
    simp only [ssS, zeV, zeT, reduceIte, zeU]
    have hlen25 : zaF.length = 25 := rfl
    refine zbc (fun n st => ∃ i : Nat, n = 25 - i ∧ i ≤ 25 ∧ (∀ x ∈ zaF.take i, x.isPrefixOf (s.drop a) = false) ∧ st.m = m.set b (.var 179 [it 0, bs [], it 0, it 0, it 0]) ∧ st.t.length = 144 ∧ tget st.t 0 = bs s ∧ tget st.t 1 = it a ∧ tget st.t 4 = .ptr b 0 ∧ tget st.t 14 = .sl (zaF.map bs) [] .full ∧ tget st.t 15 = it i) 25
     ⟨0, rfl, Nat.zero_le _, by simp, rfl, rfl, rfl, rfl, rfl, rfl, rfl⟩ ?_
    rintro n ⟨t, m1⟩ ⟨i, hn, hi, hpre, hm, hlen, h0, h1, h4, h14, h15⟩
    simp only at hm h0 h1 h4 h14 h15 hlen
    subst hm
    rw [t_eq hlen]
    simp only [zat, zaA, zeV, h0, h1, h4, h14, h15]
    simp only [zfk, hlen25, ssS, zeV, zeT, reduceIte, zeU]
    refine zaj (fun h => ?_) (fun h => ?_)
    ·have hlt : i < 25 := by have := of_decide_eq_true h; omega
     have hlt' : i < zaF.length := hlt
     have hx : idxLV 1 (.sl (zaF.map bs) [] .full) (it i) = some (.elt [bs zaF[i]]) := zbP (e := bs zaF[i]) (by simp [hlt']) rfl
     have hpl : zaF[i].length ≤ 2 := by
      have : ∀ p ∈ zaF, p.length ≤ 2 := by decide
      exact this _ (List.getElem_mem _)
     have hnext : ∀ {q : List UInt8}, q = zaF[i] → q.isPrefixOf (s.drop a) = false → ∀ x ∈ zaF.take (i + 1), x.isPrefixOf (s.drop a) = false := by
      rintro q rfl hq x hx
      rw [zfh] at hx
      rcases List.mem_append.1 hx with hx | hx
      ·exact hpre x hx
      ·simp only [ze8 hlt', zfN, zfw] at hx
       subst hx
       exact hq
     have hfind : ∀ {q : List UInt8}, q = zaF[i] → q.isPrefixOf (s.drop a) = true → zaF.find? (fun p => p.isPrefixOf (s.drop a)) = some q := by
      rintro q rfl hq
      rw [List.find?_eq_some_iff_getElem]
      refine ⟨hq, i, hlt', rfl, fun j hj => ?_⟩
      have := hpre (zaF[j]'(by omega)) (List.mem_take_iff_getElem.2 ⟨j, by omega, rfl⟩)
      simp [this]
     generalize hp : zaF[i] = p at hx hpl
     have hw : IntKind.i64.wrap ((a : Int) + (p.length : Int)) = ((a + p.length : Nat) : Int) := by
      rw [wrap_i64 (by omega) (by omega)]
      rfl
     simp only [hx, hw, ssS, zeV, zeT, reduceIte, zeU]
     refine zaR (fun h2 => ?_) (fun h2 => ?_)
     ·have hle : a + p.length ≤ s.length := by have := of_decide_eq_true h2; omega
      have hcut : zbs (bs s) (some (some (a : Int))) (some (some ((a + p.length : Nat) : Int))) = some (bs ((s.drop a).take p.length)) := by
       rw [slice_bs (by omega) hle, List.drop_take, Nat.add_sub_cancel_left]
      have hiff : ((s.drop a).take p.length == p) = p.isPrefixOf (s.drop a) := by
       rw [zfF]
       simp only [beq_iff_eq, List.isPrefixOf_iff_prefix]
       rw [List.prefix_iff_eq_take, eq_comm]
      simp only [h2, hx, hw, hcut, ssS, zeV, zeT, reduceIte, zeU]
      refine zaj (fun h3 => ?_) (fun h3 => ?_)
      ·rw [hiff] at h3
       simp only [hx, hw, Store.set_same, ssS, zeV, zeT, reduceIte, zeU]
       refine fin rfl (Store.set_same _ _ _) rfl (fun c hc => by simp [Store.set, hc]) ?_
       rw [hspec, hfind hp.symm h3]
       rfl
      ·rw [hiff] at h3
       simp only [zaq (show i < 4611686018427387904 by omega), ssS, zeV, zeT, reduceIte, zeU]
       exact ⟨25 - (i + 1), by omega, i + 1, rfl, hlt, hnext hp.symm h3, rfl⟩
     ·have hle : ¬ a + p.length ≤ s.length := by have := of_decide_eq_false h2; omega
      simp only [h2, zaq (show i < 4611686018427387904 by omega), ssS, zeV, zeT, reduceIte, zeU]
      refine ⟨25 - (i + 1), by omega, i + 1, rfl, hlt, hnext hp.symm ?_, rfl⟩
      cases hq : p.isPrefixOf (s.drop a) with
      | false => rfl
      | true =>
       have := (List.isPrefixOf_iff_prefix.1 hq).length_le
       simp at this
       omega
    ·have hge : i = 25 := by have := of_decide_eq_false h; omega
     simp only [Store.set_same, ssS, zeV, zeT, reduceIte, zeU]
     refine fin rfl (Store.set_same _ _ _) rfl (fun c hc => by simp [Store.set, hc]) ?_
     have hnone : zaF.find? (fun p => p.isPrefixOf (s.drop a)) = none := by
      rw [hge, show 25 = zaF.length from rfl, List.take_length] at hpre
      rw [List.find?_eq_none]
      intro x hx
      simp [hpre x hx]
     rw [hspec, hnone]
     exact ⟨by decide, ⟨0, [], 0, 0, 0⟩, _, rfl⟩
end Go.Av.Fn
/- A text's tokens, in plain terms. No condition. -/
namespace Go.Av.Fn
set_option linter.unusedSimpArgs false
set_option linter.unusedVariables false
theorem qL_len {r acc : List UInt8} {k : Nat} {l : List UInt8} {k' : Nat} (h : qL r acc k = .ok (l, k')) : k ≤ k' ∧ k' < k + r.length := by
 fun_induction qL r acc k <;> simp_all <;> omega
theorem tokL_len {r : List UInt8} {t : Tk} {n : Nat} (h : tokL r = .ok (t, n)) : 0 < n ∧ n ≤ r.length := by
 unfold tokL at h
 split at h
 ·cases h
 ·rename_i c r'
  split at h
  ·rename_i hc
   have h1 : 0 < ((c :: r').takeWhile zbg).length := by
    rw [zfn (by simp [zbg, hc])]
    simp
   have h2 := (zff zbg (l := c :: r')).length_le
   split at h
   ·simp only [Except.ok.injEq, Prod.mk.injEq] at h
    omega
   ·split at h
    ·cases h
    ·simp only [Except.ok.injEq, Prod.mk.injEq] at h
     omega
  ·split at h
   ·rename_i hc
    have h1 : 0 < ((c :: r').takeWhile dig).length := by
     rw [zfn hc]
     simp
    have h2 := (zff dig (l := c :: r')).length_le
    split at h
    ·cases h
    ·simp only [Except.ok.injEq, Prod.mk.injEq] at h
     omega
   ·split at h
    ·split at h
     ·cases h
     ·rename_i l k hq
      have := qL_len hq
      simp only [Except.ok.injEq, Prod.mk.injEq] at h
      simp at this ⊢
      omega
    ·split at h
     ·rename_i p hp
      simp only [Except.ok.injEq, Prod.mk.injEq] at h
      have h1 := List.mem_of_find?_eq_some hp
      have h2 := List.find?_some hp
      have h3 : ∀ p ∈ zaF, 0 < p.length := by decide
      have h4 := h3 p h1
      have h5 := zcQ h2
      omega
     ·cases h
def zdE (r : List UInt8) (a l : Nat) (acc : List Tk) : Except (Nat × Int) (List Tk) :=
 let x := zbw r a l
 let r' := r.drop (x.1 - a)
 match h : tokL r' with
 | .error e => if r' = [] then .ok (acc ++ [⟨0, [], 0, x.2, x.1⟩]) else .error (x.1, e)
 | .ok (t, n) => zdE (r'.drop n) (x.1 + n) x.2 (acc ++ [{ t with l := x.2, a := x.1 }])
termination_by r.length
decreasing_by
 have h1 := tokL_len h
 have h2 : r'.length ≤ r.length := by
  show (r.drop _).length ≤ r.length
  rw [zfl]
  omega
 have h3 : r'.length = (r.drop ((zbw r a l).1 - a)).length := rfl
 rw [zfl]
 omega
end Go.Av.Fn
/- The program's tokens. No condition. -/
namespace Go.Av.Fn
set_option linter.unusedSimpArgs false
set_option linter.unusedVariables false
set_option maxRecDepth 10000
open Go.Proofs
def ParseOk (Γ : Glob) : Prop := ∀ (m : Store) (s : List UInt8), s ≠ [] → s.length ≤ 4096 → (∀ c ∈ s, dig c = true) →
 zae Tryz.prog Γ 125 [bs s, it 10, it 64] m fun o m' => (match numL 0 s with
  | some n => o = .ret (.tup [it n, .val .nilIface])
  | none => ∃ (v : Int) (T : TypeId) (u : V), o = .ret (.tup [it v, .ifc T u])) ∧ m' = m
def tokP (T : TypeId) (a0 a1 a2 : V) (xb : Nat) (m : Store) (r : Except Int (Tk × Nat)) (o : Out) (m' : Store) : Prop := match r with
 | .ok (t, n) => o = .ret (.tup [tkV t, it n]) ∧ m' = m
 | .error er => (∃ (t : Tk) (n : Int), o = .ret (.tup [tkV t, it n])) ∧ er ≠ 0 ∧ m' = m.set xb (.var T [a0, a1, a2, it er])
theorem neq_ifc {xo yo : Operand} {T : TypeId} {u : V} : binV Tryz.prog .neq 163 .iface xo yo (.ifc T u) (.val .nilIface) = some (.val (.bool true)) := rfl
theorem neq_nil : binV Tryz.prog .neq 163 .iface (.tmp 39) (.const .nilIface) (.val .nilIface) (.val .nilIface) = some (.val (.bool false)) := by kernel_rfl
theorem resV_tk2 {x y : Nat} {b o : Nat} {T : TypeId} {sz : Option Nat} {cs : List V} {u : V} {t : List V} {m : Store} (h1 : tget t x = .ptr b o) (h2 : m b = some (.var T cs)) (h3 : zbC cs o sz = some u) :
  resV [.cell x sz, .tmp y] ⟨t, m⟩ = some (.tup [u, tget t y]) := by
 simp only [resV, zb8, zcf, za3, h1, h2, h3, Option.map_some]
theorem token_ok {Γ : Glob} (L : LibOk Γ) (L2 : ParseOk Γ) (h0 : Γ 3 = some (zaN.map bs)) (h1 : Γ 2 = some (zaF.map bs)) {m : Store} {xb : Nat} {T : TypeId} {a0 a1 a2 : V} (s : List UInt8) (hs : s.length ≤ 4096) (hne : s ≠ []) (hx : m xb = some (.var T [a0, a1, a2, it 0])) :
  zae Tryz.prog Γ 218 [.ptr xb 0, bs s] m fun o m' => tokP T a0 a1 a2 xb m (tokL s) o m' := by
 refine zad mixed F218_ok (by
  rintro v m b x _ h
  exfalso
  unfold tokP at h
  split at h
  ·cases h.1
  ·obtain ⟨⟨_, _, h⟩, _⟩ := h
   cases h) ?_
 obtain ⟨c, r, hsc⟩ : ∃ c r, s = c :: r := by
  cases s with
  | nil => exact absurd rfl hne
  | cons c r => exact ⟨c, r, rfl⟩
 have hc0 : idxStrV (bs s) (.val (.int .i64 0)) = some (.val (.int .u8 c.toNat)) := zby (i := 0) (by rw [hsc]; rfl)
 simp only [F218, ss0, ze0, zeV]
 simp only [ssS, zeV, zeT, reduceIte, zeU]
 refine zao fun b hb => ?_
 have hxb : xb ≠ b := by
  rintro rfl
  rw [hx] at hb
  cases hb
 have hn : ∀ m' x, (Store.set m' b x) xb = m' xb := fun m' x => Store.set_ne m' x hxb
 have hn2 : ∀ m' x, (Store.set m' xb x) b = m' b := fun m' x => Store.set_ne m' x hxb.symm
 simp only [hc0, ssS, zeV, zeT, reduceIte, zeU]
 refine zai (letter_ok c) ?_
 simp only [ssS, zeV, zeT, reduceIte, zeU]
 have good : ∀ {t : List V} {m2 : Store} {k : Tk} {n : Nat}, tget t 4 = .ptr b 0 → m2 b = some (.var 179 [it k.k, bs k.s, it k.n, it k.l, it k.a]) → tget t 5 = it n → (∀ c, c ≠ b → m2 c = m c) → tokL s = .ok (k, n) →
   bodyA [.cell 4 (some 5), .tmp 5] (fun o m' => tokP T a0 a1 a2 xb m (tokL s) o m') .ret ⟨t, m2⟩ := by
  intro t m2 k n h1 h2 h3 h4 h5
  refine zaQ (resV_tk2 h1 h2 (u := tkV k) rfl) (drop_set hb h4) ?_
  rw [h5, h3]
  exact ⟨rfl, rfl⟩
 have fail : ∀ {t : List V} {m2 : Store} {k : Tk} {n : Int} {er : Int}, tget t 4 = .ptr b 0 → m2 b = some (.var 179 [it k.k, bs k.s, it k.n, it k.l, it k.a]) → tget t 5 = it n → (∀ c, c ≠ b → m2 c = (m.set xb (.var T [a0, a1, a2, it er])) c) → er ≠ 0 → tokL s = .error er →
   bodyA [.cell 4 (some 5), .tmp 5] (fun o m' => tokP T a0 a1 a2 xb m (tokL s) o m') .ret ⟨t, m2⟩ := by
  intro t m2 k n er h1 h2 h3 h4 he h5
  refine zaQ (m' := m.set xb (.var T [a0, a1, a2, it er])) (resV_tk2 h1 h2 (u := tkV k) rfl) (drop_set (by rw [hn2, hb]) h4) ?_
  rw [h5, h3]
  exact ⟨⟨_, _, rfl⟩, he, rfl⟩
 refine zaj (fun hc => ?_) (fun hc => ?_)
 ·-- a name or a word
  have hspec : tokL s = if zaN.contains (s.takeWhile zbg) then .ok (⟨5, s.takeWhile zbg, 0, 0, 0⟩, (s.takeWhile zbg).length)
    else if (s.takeWhile zbg).length > 20 then .error 5 else .ok (⟨1, s.takeWhile zbg, 0, 0, 0⟩, (s.takeWhile zbg).length) := by
   rw [hsc]
   simp only [tokL, hc, if_true]
  have hcut : zbs (bs s) (some none) (some (some ((s.takeWhile zbg).length : Int))) = some (bs (s.takeWhile zbg)) := by
   rw [slice_upto (zff zbg).length_le, takeWhile_take]
  have hL := (zff zbg (l := s)).length_le
  simp only [ssS, zeV, zeT, reduceIte, zeU]
  refine zai (row_ok (p := zbg) s (by omega) (fun b => alnum_ok b)) ?_
  generalize s.takeWhile zbg = W at hspec hcut hL
  simp only [hcut, ssS, zeV, zeT, reduceIte, zeU]
  refine zaH (word_ok L h0 W (by omega) (by rw [hn, hx])) ?_
  simp only [hn2, Store.set_same, wordTok, ssS, zeV, zeT, reduceIte, zeU]
  by_cases hw : zaN.contains W = true
  ·rw [if_pos hw] at hspec
   refine good (k := ⟨5, W, 0, 0, 0⟩) rfl ?_ rfl ?_ hspec
   ·rw [Store.set_same, if_pos hw]
   ·intro c hc
    have : zbY W 0 = 0 := by simp only [zbY, hw, if_true]
    rw [this]
    rw [Store.set_ne _ _ hc]
    by_cases e : c = xb
    ·subst e; rw [Store.set_same, hx]
    ·rw [Store.set_ne _ _ e, Store.set_ne _ _ hc]
  ·rw [if_neg hw] at hspec
   by_cases h20 : W.length > 20
   ·rw [if_pos h20] at hspec
    refine fail (k := ⟨1, W, 0, 0, 0⟩) rfl ?_ rfl ?_ (by decide) hspec
    ·rw [Store.set_same, if_neg hw]
    ·intro c hc
     have : zbY W 0 = 5 := by simp only [zbY, hw, h20, if_true]; rfl
     rw [this]
     rw [Store.set_ne _ _ hc]
     by_cases e : c = xb
     ·subst e; rw [Store.set_same, Store.set_same]
     ·rw [Store.set_ne _ _ e, Store.set_ne _ _ hc, Store.set_ne _ _ e]
   ·rw [if_neg h20] at hspec
    refine good (k := ⟨1, W, 0, 0, 0⟩) rfl ?_ rfl ?_ hspec
    ·rw [Store.set_same, if_neg hw]
    ·intro c hc
     have : zbY W 0 = 0 := by simp only [zbY, hw, h20, if_false]; rfl
     rw [this]
     rw [Store.set_ne _ _ hc]
     by_cases e : c = xb
     ·subst e; rw [Store.set_same, hx]
     ·rw [Store.set_ne _ _ e, Store.set_ne _ _ hc]
 ·simp only [ssS, zeV, zeT, reduceIte, zeU]
  refine zai (digit_ok c) ?_
  simp only [ssS, zeV, zeT, reduceIte, zeU]
  refine zaj (fun hc2 => ?_) (fun hc2 => ?_)
  ·-- a number
   have hspec : tokL s = match numL 0 (s.takeWhile dig) with
     | none => .error 5
     | some n => .ok (⟨2, [], n, 0, 0⟩, (s.takeWhile dig).length) := by
    rw [hsc]
    simp only [tokL, hc, hc2, if_true, ze3, if_false]
    all_goals rfl
   have hcut : zbs (bs s) (some none) (some (some ((s.takeWhile dig).length : Int))) = some (bs (s.takeWhile dig)) := by
    rw [slice_upto (zff dig).length_le, takeWhile_take]
   have hL := (zff dig (l := s)).length_le
   have hall : ∀ x ∈ s.takeWhile dig, dig x = true := tw_all _
   have hWne : s.takeWhile dig ≠ [] := by
    rw [hsc, zfn hc2]
    simp
   simp only [ssS, zeV, zeT, reduceIte, zeU]
   refine zai (row_ok (p := dig) s (by omega) (fun b => digit_ok b)) ?_
   generalize s.takeWhile dig = W at hspec hcut hL hall hWne
   simp only [hcut, ssS, zeV, zeT, reduceIte, zeU]
   refine zbG (L2 _ W hWne (by omega) hall) ?_ (by
    rintro v m' ⟨h, _⟩
    exfalso
    split at h
    ·cases h
    ·obtain ⟨_, _, _, h⟩ := h
     cases h)
   rintro v m' ⟨hv, rfl⟩
   cases hnum : numL 0 W with
   | none =>
    rw [hnum] at hv hspec
    simp only at hv hspec
    obtain ⟨v, T', u, hv⟩ := hv
    cases hv
    simp only [neq_ifc, hn, hx, hn2, Store.set_same, ssS, zeV, zeT, reduceIte, zeU]
    refine fail (k := ⟨2, [], v, 0, 0⟩) rfl (Store.set_same _ _ _) rfl (fun c hc => ?_) (by decide) hspec
    rw [Store.set_ne _ _ hc]
    by_cases e : c = xb
    ·subst e; rw [Store.set_same, Store.set_same]
    ·rw [Store.set_ne _ _ e, Store.set_ne _ _ hc, Store.set_ne _ _ e]
   | some k =>
    rw [hnum] at hv hspec
    simp only at hv hspec
    cases hv
    simp only [neq_nil, hn, hx, hn2, Store.set_same, ssS, zeV, zeT, reduceIte, zeU]
    refine good (k := ⟨2, [], k, 0, 0⟩) rfl (Store.set_same _ _ _) rfl (fun c hc => ?_) hspec
    rw [Store.set_ne _ _ hc, Store.set_ne _ _ hc]
  ·simp only [ssS, zeV, zeT, reduceIte, zeU]
   refine zaj (fun hc3 => ?_) (fun hc3 => ?_)
   ·have e3 : c.toNat = 34 := by have := eq_of_beq hc3; omega
    have hspec : tokL s = match qL (s.drop 1) [] 0 with
      | .error e => .error e
      | .ok (l, k) => .ok (⟨3, l, 0, 0, 0⟩, k + 2) := by
     rw [hsc]
     simp only [tokL, hc, hc2, e3, if_true, ze3, if_false, List.drop_succ_cons, List.drop_zero]
     all_goals rfl
    have hcut : zbs (bs s) (some (some 1)) (some none) = some (bs (s.drop 1)) := zd7 (a := 1) (by rw [hsc]; simp)
    simp only [hcut, ssS, zeV, zeT, reduceIte, zeU]
    refine zbG (quoted_ok L (s.drop 1) (by simp; omega) (by rw [hn, hx])) ?_ (by
     rintro v m' h
     exfalso
     unfold quotOut at h
     split at h
     ·cases h.1
     ·cases h.1)
    rintro v m' hv
    cases hq : qL (s.drop 1) [] 0 with
    | error e =>
     rw [hq] at hv hspec
     simp only at hspec
     obtain ⟨hv, rfl⟩ := hv
     cases hv
     simp only [hn, hn2, Store.set_same, ssS, zeV, zeT, reduceIte, zeU]
     refine fail (k := ⟨3, [], 0, 0, 0⟩) rfl (Store.set_same _ _ _) rfl (fun c hc => ?_) (qL_err hq) hspec
     rw [Store.set_ne _ _ hc]
     by_cases e : c = xb
     ·subst e; rw [Store.set_same, Store.set_same]
     ·rw [Store.set_ne _ _ e, Store.set_ne _ _ hc, Store.set_ne _ _ e]
    | ok x =>
     obtain ⟨l, k⟩ := x
     rw [hq] at hv hspec
     simp only at hspec
     obtain ⟨hv, rfl⟩ := hv
     cases hv
     simp only [hn, hn2, Store.set_same, ssS, zeV, zeT, reduceIte, zeU]
     refine good (k := ⟨3, l, 0, 0, 0⟩) rfl (Store.set_same _ _ _) rfl (fun c hc => ?_) hspec
     rw [Store.set_ne _ _ hc, Store.set_ne _ _ hc]
   ·have e3 : ¬ c.toNat = 34 := by
     intro e
     rw [e] at hc3
     cases hc3
    have hspec : tokL s = match zaF.find? fun p => p.isPrefixOf s with
      | some p => .ok (⟨4, p, 0, 0, 0⟩, p.length)
      | none => .error 6 := by
     rw [hsc]
     simp only [tokL, hc, hc2, e3, ze3, if_false]
     all_goals rfl
    simp only [ssS, zeV, zeT, reduceIte, zeU]
    refine zai (sign_ok h1 s) ?_
    have hsg : signOf s = (zaF.find? fun p => p.isPrefixOf s).getD [] := rfl
    cases hf : zaF.find? (fun p => p.isPrefixOf s) with
    | none =>
     rw [hf] at hspec hsg
     simp only [Option.getD_none] at hsg
     rw [hsg]
     have hnn : (([] : List UInt8) == []) = true := rfl
     simp only at hspec
     simp only [hnn, hn, hx, hn2, Store.set_same, ssS, zeV, zeT, reduceIte, zeU]
     refine fail (k := ⟨4, [], 0, 0, 0⟩) rfl (Store.set_same _ _ _) rfl (fun c hc => ?_) (by decide) hspec
     rw [Store.set_ne _ _ hc]
     by_cases e : c = xb
     ·subst e; rw [Store.set_same, Store.set_same]
     ·rw [Store.set_ne _ _ e, Store.set_ne _ _ hc, Store.set_ne _ _ e]
    | some p =>
     rw [hf] at hspec hsg
     simp only [Option.getD_some] at hsg
     have hpne : p ≠ [] := by
      have : ∀ q ∈ zaF, q ≠ [] := by decide
      exact this p (List.mem_of_find?_eq_some hf)
     rw [hsg]
     have hnn : (p == []) = false := by
      cases p with
      | nil => exact absurd rfl hpne
      | cons _ _ => rfl
     simp only at hspec
     simp only [hnn, hn, hx, hn2, Store.set_same, ssS, zeV, zeT, reduceIte, zeU]
     refine good (k := ⟨4, p, 0, 0, 0⟩) rfl (Store.set_same _ _ _) rfl (fun c hc => ?_) hspec
     rw [Store.set_ne _ _ hc, Store.set_ne _ _ hc]
end Go.Av.Fn
/- A text's tokens do not change by going behind a blank. No condition. -/
namespace Go.Av.Fn
set_option linter.unusedSimpArgs false
set_option linter.unusedVariables false
theorem skipL_ge {r : List UInt8} {a l : Nat} : a ≤ (zbw r a l).1 := by
 fun_induction zbw r a l <;> omega
def scanN (r : List UInt8) (x : Nat × Nat) (acc : List Tk) : Except (Nat × Int) (List Tk) := match tokL r with
 | .error e => if r = [] then .ok (acc ++ [⟨0, [], 0, x.2, x.1⟩]) else .error (x.1, e)
 | .ok (t, n) => zdE (r.drop n) (x.1 + n) x.2 (acc ++ [{ t with l := x.2, a := x.1 }])
theorem scanL_eq (r : List UInt8) (a l : Nat) (acc : List Tk) : zdE r a l acc = scanN (r.drop ((zbw r a l).1 - a)) (zbw r a l) acc := by
 rw [zdE]
 unfold scanN
 split
 ·rename_i e h
  simp only [h]
 ·rename_i t n h
  simp only [h]
theorem scanL_step {r : List UInt8} {a l k l2 : Nat} {acc : List Tk} (h : zbw r a l = zbw (r.drop k) (a + k) l2) : zdE r a l acc = zdE (r.drop k) (a + k) l2 acc := by
 rw [scanL_eq, scanL_eq (r.drop k), ← h, zfu]
 have := skipL_ge (r := r.drop k) (a := a + k) (l := l2)
 rw [← h] at this
 rw [show k + ((zbw r a l).1 - (a + k)) = (zbw r a l).1 - a by omega]
end Go.Av.Fn
/- The program's row of tokens, handed to whoever ranges over it. No condition. -/
namespace Go.Av.Fn
set_option linter.unusedSimpArgs false
set_option linter.unusedVariables false
set_option maxRecDepth 10000
open Go.Proofs
theorem ayields_sub {P : Program} {Γ : Glob} {l : Nat} {args : List V} {mC S : Store} {R : Out → Store → Prop} (h : zbv P Γ l args mC R) (hs : ∀ b x, mC b = some x → S b = some x) :
  zbv P Γ l args S fun o S' => ∃ m', R o m' ∧ (∀ b x, m' b = some x → S' b = some x) ∧ (∀ b x, S b = some x → mC b = none → S' b = some x ∧ m' b = none) := by
 obtain ⟨F, hF⟩ : ∃ F : Store, (fun b => match mC b with | some _ => none | none => S b) = F := ⟨_, rfl⟩
 have e1 : mC.or F = S := by
  funext b
  rw [← hF]
  simp only [Store.or]
  cases hb : mC b with
  | some x => exact (hs b x hb).symm
  | none => rfl
 have e2 : Disj mC F := by
  intro b
  rw [← hF]
  cases hb : mC b with
  | some x => exact .inr (by simp only [hb])
  | none => exact .inl rfl
 have := h.frame e2
 rw [e1] at this
 refine this.mono ?_
 rintro o m'' ⟨m', rfl, hD, hR⟩
 refine ⟨m', hR, fun b x hb => zbN hb, fun b x hb hn => ?_⟩
 have hFb : F b = some x := by rw [← hF]; simp only [hn]; exact hb
 have hm : m' b = none := by
  rcases hD b with k | k
  ·exact k
  ·rw [hFb] at k; cases k
 exact ⟨by simp only [Store.or, hm, hFb], hm⟩
theorem skipL_le {r : List UInt8} {a l : Nat} : (zbw r a l).1 ≤ a + r.length ∧ (zbw r a l).2 + a ≤ l + (zbw r a l).1 := by
 fun_induction zbw r a l with
 | case1 r a l h ih =>
  have := zcQ h
  simp at this ih ⊢
  omega
 | case2 r a l h h2 ih =>
  have : 1 ≤ r.length := by
   rw [zfC] at h2
   rcases h2 with h2 | h2
   ·simpa using zcQ h2
   ·simpa using zcQ h2
  simp at ih ⊢
  omega
 | case3 r a l h h2 h3 ih =>
  have := (zff zef (l := r)).length_le
  simp at ih ⊢
  omega
 | case4 r a l h h2 h3 => omega
theorem tokens_ok {Γ : Glob} {m : Store} {xb : Nat} : zae Tryz.prog Γ 196 [.ptr xb 0] m fun o m' => ∃ pb, m pb = none ∧ o = .ret (.fn (.func 216) [] [.ptr pb 0]) ∧ m' = m.set pb (.var 243 [.ptr xb 0]) := by
 refine zad mixed F196_ok (by rintro v m b x _ ⟨_, _, ⟨⟩, _⟩) ?_
 simp only [F196, ss0, ze0, zeV]
 simp only [ssS, zeV, zeT, reduceIte, zeU]
 refine zao fun b hb => ?_
 simp only [ssS, zeV, zeT, reduceIte, zeU]
 exact zah zac ⟨b, hb, rfl, rfl⟩
def resOut (acc : List Tk) (a : Nat) (e : Int) : Except (Nat × Int) (List Tk) → Prop
 | .ok l => acc = l ∧ e = 0
 | .error (a', e') => a' = a ∧ e' = e ∧ e ≠ 0
def rowOut (J : List Tk → Store → Prop) (xb pb : Nat) (s : List UInt8) (o : Out) (m' : Store) : Prop :=
 o = .ret (.tup []) ∧ ∃ (acc : List Tk) (mC : Store) (a l : Nat) (e : Int), J acc mC ∧ mC xb = none ∧ mC pb = none ∧ m' = (mC.set pb (.var 243 [.ptr xb 0])).set xb (.var 245 [bs s, it a, it l, it e]) ∧
  resOut acc a e (zdE s 0 1 [])
theorem tokens1_ok {Γ : Glob} (L : LibOk Γ) (L2 : ParseOk Γ) (h0 : Γ 3 = some (zaN.map bs)) (h1 : Γ 2 = some (zaF.map bs)) {y : Nat} {J : List Tk → Store → Prop} {xb pb : Nat} (hxp : xb ≠ pb) (s : List UInt8) (hs : s.length ≤ 4096)
  (hy : ∀ acc t mC, acc.length ≤ 4096 → J acc mC → zbv Tryz.prog Γ y [tkV t] mC fun o m' => o = .ret (.val (.bool true)) ∧ J (acc ++ [t]) m') {mC : Store} (hJ : J [] mC) (hx : mC xb = none) (hp : mC pb = none) :
  zae Tryz.prog Γ 216 [.fn (.yield y) [] [], .ptr pb 0] ((mC.set pb (.var 243 [.ptr xb 0])).set xb (.var 245 [bs s, it 0, it 1, it 0])) fun o m' => rowOut J xb pb s o m' := by
 refine zad mixed F216_ok (by
  rintro v m b x _ ⟨h, _⟩
  cases h) ?_
 simp only [F216, ss0, ze0, zeV]
 simp only [ssS, zeV, zeT, reduceIte, zeU]
 generalize hres : zdE s 0 1 [] = res
 -- the ends
 have fin : ∀ {t : List V} {S mC : Store} {acc : List Tk} {a l : Nat} {e : Int}, J acc mC → mC xb = none → mC pb = none → (∀ b x, mC b = some x → S b = some x) → S xb = some (.var 245 [bs s, it a, it l, it e]) → S pb = some (.var 243 [.ptr xb 0]) →
   resOut acc a e res → bodyA [] (fun o m' => rowOut J xb pb s o m') .ret ⟨t, S⟩ := by
  intro t S mC acc a l e k1 k2 k3 k4 k5 k6 k7
  refine zaQ (v := .tup []) (m' := (mC.set pb (.var 243 [.ptr xb 0])).set xb (.var 245 [bs s, it a, it l, it e])) rfl (fun c x hc => ?_) ⟨rfl, acc, mC, a, l, e, k1, k2, k3, rfl, by rw [hres]; exact k7⟩
  by_cases e1 : c = xb
  ·subst e1; rw [Store.set_same] at hc; rw [k5]; exact hc
  ·rw [Store.set_ne _ _ e1] at hc
   by_cases e2 : c = pb
   ·subst e2; rw [Store.set_same] at hc; rw [k6]; exact hc
   ·rw [Store.set_ne _ _ e2] at hc; exact k4 c x hc
 refine zbc (fun n st => ∃ (a l : Nat) (acc : List Tk) (mC : Store), n = s.length - a ∧ a ≤ s.length ∧ l ≤ a + 1 ∧ acc.length ≤ a ∧ zdE (s.drop a) a l acc = res ∧ J acc mC ∧ mC xb = none ∧ mC pb = none ∧ (∀ b x, mC b = some x → st.m b = some x) ∧ st.m xb = some (.var 245 [bs s, it a, it l, it 0]) ∧ st.m pb = some (.var 243 [.ptr xb 0]) ∧ st.t.length = 71 ∧ tget st.t 0 = .fn (.yield y) [] [] ∧ tget st.t 1 = .ptr pb 0)
  s.length ⟨0, 1, [], mC, rfl, by omega, by omega, by simp, hres, hJ, hx, hp, ?_, Store.set_same _ _ _, ?_, rfl, rfl, rfl⟩ ?_
 ·intro b x hb
  have n1 : b ≠ xb := by rintro rfl; rw [hx] at hb; cases hb
  have n2 : b ≠ pb := by rintro rfl; rw [hp] at hb; cases hb
  show ((mC.set pb (.var 243 [.ptr xb 0])).set xb (.var 245 [bs s, it 0, it 1, it 0])) b = some x
  rw [Store.set_ne _ _ n1, Store.set_ne _ _ n2]
  exact hb
 ·show ((mC.set pb (.var 243 [.ptr xb 0])).set xb (.var 245 [bs s, it 0, it 1, it 0])) pb = _
  rw [Store.set_ne _ _ (fun e => hxp e.symm), Store.set_same]
 clear hJ hx hp mC
 rintro n ⟨t, S⟩ ⟨a, l, acc, mC, hn, ha, hl, hacc, hres2, hJ, hx, hp, hsub, hX, hP, hlen, ht0, ht1⟩
 simp only at hsub hX hP hlen ht0 ht1
 rw [t_eq hlen]
 simp only [zat, zaA, zeV, ht0, ht1]
 simp only [hP, ssS, zeV, zeT, reduceIte, zeU]
 refine zaH (skip_ok s a l ha (by omega) hX) ?_
 obtain ⟨q1, q2⟩ := skipL_le (r := s.drop a) (a := a) (l := l)
 have q3 := skipL_ge (r := s.drop a) (a := a) (l := l)
 rw [zfl] at q1
 have hN : scanN (s.drop (zbw (s.drop a) a l).1) (zbw (s.drop a) a l) acc = res := by
  rw [← hres2, scanL_eq, zfu]
  congr 2
  omega
 generalize hsk : zbw (s.drop a) a l = sk at q1 q2 q3 hN
 obtain ⟨a1, l1⟩ := sk
 simp only at q1 q2 q3 hN
 obtain ⟨S1, hS1⟩ : ∃ S1, S.set xb (.var 245 [bs s, it a1, it l1, it 0]) = S1 := ⟨_, rfl⟩
 have hX1 : S1 xb = some (.var 245 [bs s, it a1, it l1, it 0]) := by rw [← hS1]; exact Store.set_same _ _ _
 have hP1 : S1 pb = some (.var 243 [.ptr xb 0]) := by rw [← hS1, Store.set_ne _ _ (fun e => hxp e.symm)]; exact hP
 have hsub1 : ∀ b x, mC b = some x → S1 b = some x := by
  intro b x hb
  rw [← hS1, Store.set_ne _ _ (by rintro rfl; rw [hx] at hb; cases hb)]
  exact hsub b x hb
 rw [hS1]
 simp only [hX1, hP1, zcr, ssS, zeV, zeT, reduceIte, zeU]
 refine zaj (fun h => ?_) (fun h => ?_)
 ·-- the end
  have he : a1 = s.length := by have := eq_of_beq h; omega
  simp only [hX1, hP1, ssS, zeV, zeT, reduceIte, zeU]
  refine callS_yield (ayields_sub (hy acc ⟨0, [], 0, l1, a1⟩ mC (by omega) hJ) hsub1) ?_ (by rintro v m' ⟨_, ⟨⟨⟩, _⟩, _⟩)
  rintro v S2 ⟨mC2, ⟨hv, hJ2⟩, hsub2, hkeep⟩
  cases hv
  simp only [ssS, zeV, zeT, reduceIte, zeU]
  refine fin hJ2 (hkeep _ _ hX1 hx).2 (hkeep _ _ hP1 hp).2 hsub2 (hkeep _ _ hX1 hx).1 (hkeep _ _ hP1 hp).1 ?_
  rw [← hN, he, zfD]
  exact ⟨rfl, rfl⟩
 ·have hlt : a1 < s.length := by
   have : ¬ a1 = s.length := by
    intro e
    rw [e] at h
    simp at h
   omega
  have hcut : zbs (bs s) (some (some (a1 : Int))) (some none) = some (bs (s.drop a1)) := zd7 (by omega)
  have hdne : s.drop a1 ≠ [] := by
   intro e
   have := congrArg List.length e
   simp at this
   omega
  simp only [hX1, hP1, hcut, ssS, zeV, zeT, reduceIte, zeU]
  refine zbG (token_ok L L2 h0 h1 (s.drop a1) (by simp; omega) hdne hX1) ?_ (by
   rintro v m' h
   exfalso
   unfold tokP at h
   split at h
   ·cases h.1
   ·obtain ⟨⟨_, _, h⟩, _⟩ := h
    cases h)
  intro v S2 hv
  unfold scanN at hN
  cases htok : tokL (s.drop a1) with
  | error er =>
   rw [htok] at hv hN
   simp only [if_neg hdne] at hN
   obtain ⟨⟨tk, k, hv⟩, hne0, rfl⟩ := hv
   cases hv
   obtain ⟨S2, hS2⟩ : ∃ S2, S1.set xb (.var 245 [bs s, it a1, it l1, it er]) = S2 := ⟨_, rfl⟩
   have hX2 : S2 xb = some (.var 245 [bs s, it a1, it l1, it er]) := by rw [← hS2]; exact Store.set_same _ _ _
   have hP2 : S2 pb = some (.var 243 [.ptr xb 0]) := by rw [← hS2, Store.set_ne _ _ (fun e => hxp e.symm)]; exact hP1
   have hsub2 : ∀ b x, mC b = some x → S2 b = some x := by
    intro b x hb
    rw [← hS2, Store.set_ne _ _ (by rintro rfl; rw [hx] at hb; cases hb)]
    exact hsub1 b x hb
   rw [hS2]
   simp only [tkV, ssS, zeV, zeT, reduceIte, zeU]
   refine zao fun b hb => ?_
   have n1 : xb ≠ b := by rintro rfl; rw [hX2] at hb; cases hb
   have n2 : pb ≠ b := by rintro rfl; rw [hP2] at hb; cases hb
   have hbx : ∀ m' x, (Store.set m' b x) xb = m' xb := fun m' x => Store.set_ne m' x n1
   have hbp : ∀ m' x, (Store.set m' b x) pb = m' pb := fun m' x => Store.set_ne m' x n2
   have hne1 : ((er : Int) != 0) = true := by simpa using hne0
   simp only [Store.set_same, Store.set_set, hbx, hbp, hX2, hP2, hne1, ssS, zeV, zeT, reduceIte, zeU]
   refine fin hJ hx hp (fun c x hc => ?_) (by rw [hbx]; exact hX2) (by rw [hbp]; exact hP2) (by rw [← hN]; exact ⟨rfl, rfl, hne0⟩)
   rw [Store.set_ne _ _ (by rintro rfl; rw [hsub2 _ _ hc] at hb; cases hb)]
   exact hsub2 c x hc
  | ok x =>
   obtain ⟨tk, k⟩ := x
   rw [htok] at hv hN
   simp only at hN
   obtain ⟨hv, rfl⟩ := hv
   cases hv
   simp only [tkV, ssS, zeV, zeT, reduceIte, zeU]
   refine zao fun b hb => ?_
   have n1 : xb ≠ b := by rintro rfl; rw [hX1] at hb; cases hb
   have n2 : pb ≠ b := by rintro rfl; rw [hP1] at hb; cases hb
   have hbx : ∀ m' x, (Store.set m' b x) xb = m' xb := fun m' x => Store.set_ne m' x n1
   have hbp : ∀ m' x, (Store.set m' b x) pb = m' pb := fun m' x => Store.set_ne m' x n2
   have hne1 : ((0 : Int) != 0) = false := rfl
   simp only [Store.set_same, Store.set_set, hbx, hbp, hX1, hP1, hne1, ssS, zeV, zeT, reduceIte, zeU]
   have htl := tokL_len htok
   rw [zfl] at htl
   have hsub2 : ∀ c x, mC c = some x → (S2.set b (.var 179 [it tk.k, bs tk.s, it tk.n, it l1, it a1])) c = some x := by
    intro c x hc
    rw [Store.set_ne _ _ (by rintro rfl; rw [hsub1 _ _ hc] at hb; cases hb)]
    exact hsub1 c x hc
   refine callS_yield (ayields_sub (hy acc { tk with l := l1, a := a1 } mC (by omega) hJ) hsub2) ?_ (by rintro v m' ⟨_, ⟨⟨⟩, _⟩, _⟩)
   rintro v S3 ⟨mC3, ⟨hv, hJ3⟩, hsub3, hkeep⟩
   cases hv
   obtain ⟨hX3, hx3⟩ := hkeep xb _ (by rw [hbx]; exact hX1) hx
   obtain ⟨hP3, hp3⟩ := hkeep pb _ (by rw [hbp]; exact hP1) hp
   have hw : IntKind.i64.wrap ((a1 : Int) + (k : Int)) = ((a1 + k : Nat) : Int) := by
    rw [wrap_i64 (by omega) (by omega)]
    rfl
   simp only [hX3, hP3, hw, Bool.not_true, ssS, zeV, zeT, reduceIte, zeU]
   rw [zfu] at hN
   refine ⟨s.length - (a1 + k), by omega, a1 + k, l1, _, mC3, rfl, by omega, by omega, by simp; omega, hN, hJ3, hx3, hp3, fun c x hc => ?_, Store.set_same _ _ _, ?_⟩
   ·rw [Store.set_ne _ _ (by rintro rfl; rw [hx3] at hc; cases hc)]
    exact hsub3 c x hc
   ·rw [Store.set_ne _ _ (fun e => hxp e.symm)]
    exact hP3
def zd0 (s : List UInt8) : Except (Nat × Int) (List Tk) := if s.length > 4096 then .error (0, 5) else zdE s 0 1 []
def ScanOut (r : Except (Nat × Int) (List Tk)) (o : Out) : Prop := match r with
 | .ok l => ∃ tok, o = .ret (.tup [.sl (l.map tkV) [] tok, it 0, it 0])
 | .error (a, e) => o = .ret (.tup [.sl [] [] .full, it a, it e])
theorem cells_tk (t : Tk) : (tkV t).cells = [it t.k, bs t.s, it t.n, it t.l, it t.a] := rfl
def litV5 (z : List V) (v : V) : Option V := (zc2 5 [.agg z] [(0, v)]).map fun es => .sl es [] .full
theorem lit5 {P : Program} {Γ : Glob} {t : List V} {m : Store} {z : List V} {x : Nat} : zan P (ev Γ t) m (.lits 5 z 1 [(0, .tmp x)]) = litV5 z (ev Γ t (.tmp x)) := rfl
theorem litV5_agg {z : List V} {a b c d e : V} : litV5 z (.agg [a, b, c, d, e]) = some (.sl [.agg [a, b, c, d, e]] [] .full) := rfl
theorem refScan_ok {Γ : Glob} {m : Store} (s : List UInt8) : zae Tryz.prog Γ 152 [bs s] m fun o m' => ScanOut (zd0 s) o ∧ m' = m := by
 refine zad mixed F152_ok (by
  rintro v m b x _ ⟨h, _⟩
  exfalso
  unfold ScanOut at h
  split at h
  ·obtain ⟨_, h⟩ := h
   cases h
  ·cases h) ?_
 simp only [F152, ss0, ze0, zeV]
 simp only [ssS, zeV, zeT, reduceIte, zeU]
 refine zaj (fun h => ?_) (fun h => ?_)
 ·have hl : s.length > 4096 := by have := of_decide_eq_true h; omega
  simp only [ssS, zeV, zeT, reduceIte, zeU]
  refine zah zax ⟨?_, rfl⟩
  unfold zd0
  rw [if_pos hl]
  rfl
 ·have hl : ¬ s.length > 4096 := by have := of_decide_eq_false h; omega
  have hres0 : zd0 s = zdE s 0 1 [] := by unfold zd0; rw [if_neg hl]
  generalize zd0 s = res at hres0
  simp only [ssS, zeV, zeT, reduceIte, zeU]
  refine zbc (fun n st => ∃ (a l : Nat) (acc : List Tk) (m0 : Store) (v : V), n = s.length - a ∧ a ≤ s.length ∧ l ≤ a + 1 ∧ acc.length ≤ a ∧ zdE (s.drop a) a l acc = res ∧ (∀ b x, m b = some x → m0 b = some x) ∧ Buf 179 5 m0 st.m v (acc.map tkV) ∧ st.t.length = 94 ∧ tget st.t 0 = bs s ∧ tget st.t 5 = v ∧ tget st.t 6 = it l ∧ tget st.t 7 = it a)
   s.length ⟨0, 1, [], m, _, rfl, by omega, by omega, by simp, hres0.symm, fun _ _ h => h, Buf.start, rfl, rfl, rfl, rfl, rfl⟩ ?_
  rintro n ⟨t, m1⟩ ⟨a, l, acc, m0, v, hn, ha, hla, hacc, hres, hsub, hbuf, hlen, h0, h5, h6, h7⟩
  simp only at hbuf h0 h5 h6 h7 hlen
  rw [t_eq hlen]
  simp only [zat, zaA, zeV, h0, h5, h6, h7]
  simp only [ssS, zeV, zeT, reduceIte, zeU]
  refine zaj (fun h => ?_) (fun h => ?_)
  ·have hlt : a < s.length := by have := of_decide_eq_true h; omega
   have hx : s[a]? = some s[a] := by simp [hlt]
   have hdrop : s.drop a = s[a] :: s.drop (a + 1) := zfi hlt
   generalize s[a] = c at hx hdrop
   simp only [zby hx, ssS, zeV, zeT, reduceIte, zeU]
   refine condS_mid (M := fun st => st.m = m1 ∧ st.t.length = 94 ∧ tget st.t 0 = bs s ∧ tget st.t 5 = v ∧ tget st.t 6 = it l ∧ tget st.t 7 = it a ∧ zbw (s.drop a) a l = (a, l)) ?_ ?_
   ·-- a token
    rintro ⟨t, m2⟩ ⟨hm2, hlen, h0, h5, h6, h7, hsk⟩
    simp only at hm2 hlen h0 h5 h6 h7
    subst hm2
    rw [t_eq hlen]
    simp only [zat, zaA, zeV, h0, h5, h6, h7]
    simp only [ssS, zeV, zeT, reduceIte, zeU]
    refine zbG (refToken_ok s a hlt (by omega)) ?_ (by
     rintro v m' ⟨h, _⟩
     exfalso
     unfold tokOut at h
     split at h
     ·cases h
     ·obtain ⟨_, _, _, h⟩ := h
      cases h)
    rintro u m' ⟨hu, rfl⟩
    have hN : scanN (s.drop a) (a, l) acc = res := by
     rw [← hres, scanL_eq, hsk, Nat.sub_self, List.drop_zero]
    unfold scanN at hN
    cases htok : tokL (s.drop a) with
    | error e =>
     rw [htok] at hu hN
     obtain ⟨he, t0, v2, hu⟩ := hu
     cases hu
     simp only at hN
     rw [if_neg (by rw [hdrop]; simp)] at hN
     simp only [ssS, zeV, zeT, reduceIte, zeU]
     refine zao fun b hb => ?_
     have hne : (e != 0) = true := by simpa using he
     simp only [cells_tk, Store.set_same, hne, ssS, zeV, zeT, reduceIte, zeU]
     refine zaQ (m' := m) zax (fun c x hc => ?_) ⟨?_, rfl⟩
     ·have h1 : m' c = some x := hbuf.sub _ _ (hsub _ _ hc)
      have h2 : c ≠ b := by
       rintro rfl
       rw [hb] at h1
       cases h1
      simp [Store.set, h2, h1]
     ·rw [← hN]
      rfl
    | ok x =>
     obtain ⟨tk, n2⟩ := x
     rw [htok] at hu hN
     cases hu
     simp only at hN
     rw [zfu] at hN
     simp only [ssS, zeV, zeT, reduceIte, zeU]
     refine zao fun b hb => ?_
     have hz : ((0 : Int) != 0) = false := rfl
     simp only [cells_tk, Store.set_same, Store.set_set, hz, lit5, litV5_agg, ssS, zeV, zeT, reduceIte, zeU]
     have hn2 := tokL_len htok
     rw [zfl] at hn2
     have hmb : m b = none := by
      cases hc : m b with
      | none => rfl
      | some x =>
       have := hbuf.sub _ _ (hsub _ _ hc)
       rw [hb] at this
       cases this
     refine appS_buf (hbuf.add hb) rfl (by intro c hc; simp [V.cells] at hc; rcases hc with rfl | rfl | rfl | rfl | rfl <;> rfl) (by simp; omega) fun m3 v3 hb3 => ?_
     simp only [ssS, zeV, zeT, reduceIte, zeU]
     refine ⟨s.length - (a + n2), by omega, a + n2, l, acc ++ [{ tk with l := l, a := a }], _, v3, rfl, by omega, by omega, by simp; omega, hN, ?_, by rw [zfA]; exact hb3, rfl, rfl, rfl⟩
     exact sub_set hmb hsub
   refine zaj (fun h1 => ?_) (fun h1 => ?_)
   ·have e1 : c.toNat = 10 := by have := eq_of_beq h1; omega
    have ec : c = 10 := UInt8.toNat_inj.1 e1
    simp only [zaq (show a < 4611686018427387904 by omega), zaq (show l < 4611686018427387904 by omega), ssS, zeV, zeT, reduceIte, zeU]
    have hst := scanL_step (r := s.drop a) (a := a) (l := l) (k := 1) (l2 := l + 1) (acc := acc) (by rw [zbw.eq_1 (s.drop a), dif_pos (by rw [hdrop, ec]; rfl)])
    rw [zfu] at hst
    exact ⟨s.length - (a + 1), by omega, a + 1, l + 1, acc, m0, v, rfl, hlt, by omega, by omega, by rw [← hst, hres], hsub, hbuf, rfl, rfl, rfl⟩
   ·have e1 : ¬ c.toNat = 10 := by
     intro e
     rw [e] at h1
     cases h1
    have n1 : ¬ [10].isPrefixOf (s.drop a) = true := by
     rw [hdrop]
     intro e
     simp [zfO] at e
     exact e1 (by rw [← e]; rfl)
    have blank : (c.toNat = 32 ∨ c.toNat = 9) → zdE (s.drop (a + 1)) (a + 1) l acc = res := by
     intro hb
     have hst := scanL_step (r := s.drop a) (a := a) (l := l) (k := 1) (l2 := l) (acc := acc) (by
      rw [zbw.eq_1 (s.drop a), dif_neg n1, dif_pos (by
       rw [hdrop]
       rcases hb with hb | hb
       ·rw [show c = 32 from UInt8.toNat_inj.1 hb]; rfl
       ·rw [show c = 9 from UInt8.toNat_inj.1 hb]; rfl)])
     rw [zfu] at hst
     rw [← hst, hres]
    have tok : ¬ (c.toNat = 32 ∨ c.toNat = 9) → ¬ [47, 47].isPrefixOf (s.drop a) = true → zbw (s.drop a) a l = (a, l) := by
     intro h2 h3
     rw [zbw.eq_1 (s.drop a), dif_neg n1, dif_neg, dif_neg h3]
     rw [hdrop]
     intro e
     simp [zfO] at e
     exact h2 (e.imp (fun e => by rw [← e]; rfl) (fun e => by rw [← e]; rfl))
    simp only [ssS, zeV, zeT, reduceIte, zeU]
    refine zaR (fun h2 => ?_) (fun h2 => ?_)
    ·have e2 : c.toNat = 32 := by have := eq_of_beq h2; omega
     simp only [h2, zaq (show a < 4611686018427387904 by omega), ssS, zeV, zeT, reduceIte, zeU]
     exact ⟨s.length - (a + 1), by omega, a + 1, l, acc, m0, v, rfl, hlt, by omega, by omega, blank (.inl e2), hsub, hbuf, rfl, rfl, rfl⟩
    ·have e2 : ¬ c.toNat = 32 := by
      intro e
      rw [e] at h2
      cases h2
     simp only [h2, ssS, zeV, zeT, reduceIte, zeU]
     refine zaj (fun h3 => ?_) (fun h3 => ?_)
     ·have e3 : c.toNat = 9 := by have := eq_of_beq h3; omega
      simp only [zaq (show a < 4611686018427387904 by omega), ssS, zeV, zeT, reduceIte, zeU]
      exact ⟨s.length - (a + 1), by omega, a + 1, l, acc, m0, v, rfl, hlt, by omega, by omega, blank (.inr e3), hsub, hbuf, rfl, rfl, rfl⟩
     ·have e3 : ¬ c.toNat = 9 := by
       intro e
       rw [e] at h3
       cases h3
      simp only [ssS, zeV, zeT, reduceIte, zeU]
      refine zaR (fun h4 => ?_) (fun h4 => ?_)
      ·have e4 : c.toNat = 47 := by have := eq_of_beq h4; omega
       simp only [h4, zaq (show a < 4611686018427387904 by omega), ssS, zeV, zeT, reduceIte, zeU]
       refine zaR (fun h5 => ?_) (fun h5 => ?_)
       ·have hlt2 : a + 1 < s.length := by have := of_decide_eq_true h5; omega
        have hx2 : s[a + 1]? = some s[a + 1] := by simp [hlt2]
        have hdrop2 : s.drop (a + 1) = s[a + 1] :: s.drop (a + 1 + 1) := zfi hlt2
        generalize s[a + 1] = d at hx2 hdrop2
        simp only [h5, zby hx2, zaq (show a < 4611686018427387904 by omega), ssS, zeV, zeT, reduceIte, zeU]
        refine zaj (fun h6 => ?_) (fun h6 => ?_)
        ·-- a remark
         have e6 : d.toNat = 47 := by have := eq_of_beq h6; omega
         have hpre2 : [47, 47].isPrefixOf (s.drop a) = true := by
          rw [hdrop, hdrop2, show c = 47 from UInt8.toNat_inj.1 e4, show d = 47 from UInt8.toNat_inj.1 e6]
          rfl
         have hno : ¬ ([32].isPrefixOf (s.drop a) || [9].isPrefixOf (s.drop a)) = true := by
          rw [hdrop, show c = 47 from UInt8.toNat_inj.1 e4]
          intro e
          simp [zfO] at e
         have hst := scanL_step (r := s.drop a) (a := a) (l := l) (k := ((s.drop a).takeWhile zef).length) (l2 := l) (acc := acc) (by
          rw [zbw.eq_1 (s.drop a), dif_neg n1, dif_neg hno, dif_pos hpre2])
         rw [zfu] at hst
         have hr0 := slash_run hpre2
         have hL : ((s.drop a).takeWhile zef).length ≤ s.length - a := by
          have := (zff zef (l := s.drop a)).length_le
          simpa using this
         generalize hW : ((s.drop a).takeWhile zef).length = L at hst hr0 hL
         simp only [ssS, zeV, zeT, reduceIte, zeU]
         refine zbc (fun n st => ∃ j : Nat, n = s.length - (a + j) ∧ a + j ≤ s.length ∧ (∀ x ∈ (s.drop a).take j, zef x = true) ∧ st.m = m1 ∧ st.t.length = 94 ∧ tget st.t 0 = bs s ∧ tget st.t 5 = v ∧ tget st.t 6 = it l ∧ tget st.t 7 = it ((a + j : Nat) : Int)) (s.length - a)
          ⟨0, rfl, by omega, by simp, rfl, rfl, rfl, rfl, rfl, rfl⟩ ?_
         rintro n2 ⟨t, m2⟩ ⟨j, hn2, hj, hpre, hm, hlen, h0, h5, h6, h7⟩
         simp only at hm h0 h5 h6 h7 hlen
         subst hm
         rw [t_eq hlen]
         simp only [zat, zaA, zeV, h0, h5, h6, h7]
         have out : L = j → ∃ n', n' < n ∧ ∃ (a' l' : Nat) (acc' : List Tk) (m0' : Store) (v' : V), n' = s.length - a' ∧ a' ≤ s.length ∧ l' ≤ a' + 1 ∧ acc'.length ≤ a' ∧ zdE (s.drop a') a' l' acc' = res ∧ (∀ b x, m b = some x → m0' b = some x) ∧ Buf 179 5 m0' m2 v' (acc'.map tkV) ∧ v = v' ∧ it l = it l' ∧ it ((a + j : Nat) : Int) = it a' := by
          rintro rfl
          exact ⟨s.length - (a + L), by omega, a + L, l, acc, m0, v, rfl, by omega, by omega, by omega, by rw [← hst, hres], hsub, hbuf, rfl, rfl, rfl⟩
         simp only [ssS, zeV, zeT, reduceIte, zeU]
         refine zaR (fun h => ?_) (fun h => ?_)
         ·have hlt : a + j < s.length := by have := of_decide_eq_true h; omega
          have hx : s[a + j]? = some s[a + j] := by simp [hlt]
          have hr : (s.drop a)[j]? = some s[a + j] := by rw [List.getElem?_drop, hx]
          generalize s[a + j] = q at hx hr
          simp only [h, zby hx, ssS, zeV, zeT, reduceIte, zeU]
          refine zaj (fun hq => ?_) (fun hq => ?_)
          ·have hq2 : zef q = true := by
            simp only [zef, bne_iff_ne, ne_eq]
            intro e
            rw [e] at hq
            cases hq
           simp only [zaq (show a + j < 4611686018427387904 by omega), ssS, zeV, zeT, reduceIte, zeU]
           refine ⟨s.length - (a + (j + 1)), by omega, j + 1, rfl, hlt, ?_, rfl⟩
           intro x hx
           rw [zfh, hr] at hx
           rcases List.mem_append.1 hx with hx | hx
           ·exact hpre x hx
           ·simp at hx
            subst hx
            exact hq2
          ·have hq2 : zef q = false := by
            have : (q.toNat : Int) = 10 := by simpa using hq
            simp only [zef, bne_eq_false_iff_eq]
            omega
           simp only [ssS, zeV, zeT, reduceIte, zeU]
           exact out (by rw [← hW]; exact zaX hpre (by simp; omega) (fun b hb => by rw [hr] at hb; cases hb; exact hq2))
         ·have hge : a + j = s.length := by have := of_decide_eq_false h; omega
          simp only [h, ssS, zeV, zeT, reduceIte, zeU]
          exact out (by rw [← hW]; exact zaX hpre (by simp; omega) (fun b hb => by rw [zfL (by simp; omega)] at hb; cases hb))
        ·simp only [ssS, zeV, zeT, reduceIte, zeU]
         refine tok (by omega) ?_
         rw [hdrop, hdrop2]
         intro e
         simp [zfO] at e
         rw [← e.2] at h6
         cases h6
       ·have hge : ¬ a + 1 < s.length := by have := of_decide_eq_false h5; omega
        simp only [h5, ssS, zeV, zeT, reduceIte, zeU]
        refine tok (by omega) ?_
        intro e
        have := zcQ e
        simp at this
        omega
      ·simp only [h4, ssS, zeV, zeT, reduceIte, zeU]
       refine tok (by omega) ?_
       rw [hdrop]
       intro e
       simp [zfO] at e
       rw [← e.1] at h4
       cases h4
  ·have hge : a = s.length := by have := of_decide_eq_false h; omega
   have hok : res = .ok (acc ++ [⟨0, [], 0, l, s.length⟩]) := by
    have hsk : zbw [] a l = (a, l) := by
     rw [zbw.eq_1, dif_neg (by decide), dif_neg (by decide), dif_neg (by decide)]
    rw [← hres, show s.drop a = [] by rw [hge, zfD], scanL_eq, hsk, List.drop_nil]
    simp [scanN, tokL, hge]
   simp only [lit5, litV5_agg, ssS, zeV, zeT, reduceIte, zeU]
   refine appS_buf hbuf rfl (by intro c hc; simp [V.cells] at hc; rcases hc with rfl | rfl | rfl | rfl | rfl <;> rfl) (by simp; omega) fun m3 v3 hb3 => ?_
   obtain ⟨tok3, rfl⟩ := hb3.val
   simp only [ssS, zeV, zeT, reduceIte, zeU]
   refine zaQ (m' := m) zax (fun c x hc => hb3.sub _ _ (hsub _ _ hc)) ⟨?_, rfl⟩
   rw [hok]
   refine ⟨tok3, ?_⟩
   rw [zfA]
   rfl
end Go.Av.Fn
/- The program's tokens of a text. No condition. -/
namespace Go.Av
section
variable {P : Program} {Γ : Glob} {Kp : V → Store → Prop}
theorem awp_range {f : Operand} {ps : List Tmp} {x y : za0} {Q : Ex → St → Prop} {t : List V} {m : Store} {g : FuncId} {first caps : List V} (hf : ev Γ t f = .fn (.func g) first caps)
  (h : ∀ H cx cy, comp P H cx = some x → comp P H cy = some y → ∀ fn l D, m l = none → zae P Γ g (first ++ [.fn (.yield l) [] []] ++ caps) (m.set l (.loop true fn t ps.toArray cx cy D)) fun o m' => (∃ v, o = .ret v) ∧ ∃ m₁, m' = m₁.set l (.loop true fn t ps.toArray cx cy D) ∧ m₁ l = none ∧ Q .normal ⟨t, m₁⟩) :
  awp P Γ Kp (.range f ps x y) Q ⟨t, m⟩ := by
 simp only [awp, hf]
 intro H cx cy h1 h2 fn l D hl
 refine (h H cx cy h1 h2 fn l D hl).mono fun o m' k => ?_
 obtain ⟨⟨v, rfl⟩, k⟩ := k
 exact k
theorem st_gen {Φ : List V → Prop} {t : List V} (h : ∀ T0, T0 = t → Φ T0) : Φ t := h t rfl
theorem tget_set_ne {t : List V} {i j : Nat} {v : V} (h : i ≠ j) : tget (t.set i v) j = tget t j := by
 rw [← za3, ← za3, ze7, ze7, List.getElem?_set, if_neg h]
theorem tget_set_same {t : List V} {i : Nat} {v : V} (h : i < t.length) : tget (t.set i v) i = v := by
 rw [← za3, ze7, List.getElem?_set]
 simp [h]
theorem Buf.del {e : TypeId} {size : Nat} {N m2 : Store} {v : V} {es : List V} {b : Nat} {x : Blk} (h : Buf e size (N.set b x) m2 v es) (hn : N b = none) :
  m2 b = some x ∧ ∃ M, Buf e size N M v es ∧ M b = none ∧ ∀ y, m2.set b y = M.set b y := by
 obtain ⟨h1, h2⟩ := h
 rcases h2 with ⟨h2, h3, rfl⟩ | ⟨h2, t, k, ht, rfl, h3⟩
 ·exact ⟨Store.set_same _ _ _, N, ⟨h1, .inl ⟨h2, h3, rfl⟩⟩, hn, fun y => Store.set_set _ _ _ _⟩
 ·have hne : t ≠ b := by rintro rfl; rw [Store.set_same] at ht; cases ht
  rw [Store.set_ne _ _ hne] at ht
  refine ⟨by rw [Store.set_ne _ _ hne.symm, Store.set_same], N.set t (.tip e k), ⟨h1, .inr ⟨h2, t, k, ht, rfl, h3⟩⟩, by rw [Store.set_ne _ _ hne.symm]; exact hn, fun y => ?_⟩
  funext c
  simp only [Store.set]
  by_cases e : c = b
  ·simp [e]
  ·simp [e]
end
end Go.Av
namespace Go.Av.Fn
set_option linter.unusedSimpArgs false
set_option linter.unusedVariables false
set_option maxRecDepth 10000
open Go.Proofs
def outSt (m : Store) (ob : Nat) (acc : List Tk) (m0 : Store) : Prop := ∃ N M v, (∀ b x, m b = some x → N b = some x) ∧ N ob = none ∧ Buf 179 5 N M v (acc.map tkV) ∧ M ob = none ∧ m0 = M.set ob (.var 194 [v])
theorem scan_ok {Γ : Glob} (L : LibOk Γ) (L2 : ParseOk Γ) (h0 : Γ 3 = some (zaN.map bs)) (h1 : Γ 2 = some (zaF.map bs)) {m : Store} (s : List UInt8) : zae Tryz.prog Γ 169 [bs s] m fun o m' => ScanOut (zd0 s) o ∧ m' = m := by
 refine zad mixed F169_ok (by
  rintro v m b x _ ⟨h, _⟩
  exfalso
  unfold ScanOut at h
  split at h
  ·obtain ⟨_, h⟩ := h
   cases h
  ·cases h) ?_
 simp only [F169, ss0, ze0, zeV]
 simp only [ssS, zeV, zeT, reduceIte, zeU]
 refine zaj (fun h => ?_) (fun h => ?_)
 ·have hl : s.length > 4096 := by have := of_decide_eq_true h; omega
  simp only [ssS, zeV, zeT, reduceIte, zeU]
  refine zah zax ⟨?_, rfl⟩
  unfold zd0
  rw [if_pos hl]
  rfl
 ·have hl : ¬ s.length > 4096 := by have := of_decide_eq_false h; omega
  have hres0 : zd0 s = zdE s 0 1 [] := by unfold zd0; rw [if_neg hl]
  rw [hres0]
  simp only [ssS, zeV, zeT, reduceIte, zeU]
  refine zao fun xb hxb => ?_
  simp only [ssS, zeV, zeT, reduceIte, zeU]
  refine zao fun ob hob => ?_
  have hxo : xb ≠ ob := by rintro rfl; rw [Store.set_same] at hob; cases hob
  have hob' : m ob = none := by rwa [Store.set_ne _ _ hxo.symm] at hob
  simp only [ssS, zeV, zeT, reduceIte, zeU]
  refine zbG tokens_ok ?_ (by rintro v m' ⟨_, _, ⟨⟩, _⟩)
  rintro v m' ⟨pb, hpb, hv, rfl⟩
  cases hv
  have hpo : pb ≠ ob := by rintro rfl; rw [Store.set_same] at hpb; cases hpb
  rw [Store.set_ne _ _ hpo] at hpb
  have hpx : pb ≠ xb := by rintro rfl; rw [Store.set_same] at hpb; cases hpb
  have hpb' : m pb = none := by rwa [Store.set_ne _ _ hpx] at hpb
  simp only [ssS, zeV, zeT, reduceIte, zeU]
  refine st_gen (Φ := fun t => awp _ _ _ _ _ ⟨t, _⟩) fun T0 hT0 => ?_
  have hlen : T0.length = 35 := by rw [hT0]; rfl
  have t5 : tget T0 5 = .ptr xb 0 := by rw [hT0]; rfl
  have t6 : tget T0 6 = .ptr ob 0 := by rw [hT0]; rfl
  have t15 : tget T0 15 = .fn (.func 216) [] [.ptr pb 0] := by rw [hT0]; rfl
  clear hT0
  refine awp_range (g := 216) (first := []) (caps := [.ptr pb 0]) (by simp only [zdU]; exact t15) ?_
  intro H cx cy hcx hcy fn l D hl0
  have hlp : l ≠ pb := by rintro rfl; rw [Store.set_same] at hl0; cases hl0
  rw [Store.set_ne _ _ hlp] at hl0
  have hlo : l ≠ ob := by rintro rfl; rw [Store.set_same] at hl0; cases hl0
  rw [Store.set_ne _ _ hlo] at hl0
  have hlx : l ≠ xb := by rintro rfl; rw [Store.set_same] at hl0; cases hl0
  rw [Store.set_ne _ _ hlx] at hl0
  have hst : ((((m.set xb (.var 245 [bs s, it 0, it 1, it 0])).set ob (.var 194 [.sl [] [] .full])).set pb (.var 243 [.ptr xb 0])).set l (.loop true fn T0 [16].toArray cx cy D))
    = ((((m.set ob (.var 194 [.sl [] [] .full])).set l (.loop true fn T0 [16].toArray cx cy D)).set pb (.var 243 [.ptr xb 0])).set xb (.var 245 [bs s, it 0, it 1, it 0])) := by
   funext c
   simp only [Store.set]
   by_cases e1 : c = l
   ·subst e1; simp [hlp, hlx]
   ·by_cases e2 : c = pb
    ·subst e2; simp [e1, hpx]
    ·by_cases e3 : c = ob
     ·subst e3; simp [e1, e2, hxo.symm]
     ·simp [e1, e2, e3]
  have hy : ∀ acc t mC, acc.length ≤ 4096 → (∃ m0, m0 l = none ∧ mC = m0.set l (.loop true fn T0 [16].toArray cx cy D) ∧ outSt m ob acc m0) →
    zbv Tryz.prog Γ l [tkV t] mC fun o m' => o = .ret (.val (.bool true)) ∧ ∃ m0, m0 l = none ∧ m' = m0.set l (.loop true fn T0 [16].toArray cx cy D) ∧ outSt m ob (acc ++ [t]) m0 := by
   rintro acc tk mC hacc ⟨m0, hm0, rfl, N, M, v, k1, k2, k3, k4, rfl⟩
   refine (ayields_of_awp mixed hcx hcy rfl rfl (R := fun m1 => outSt m ob (acc ++ [tk]) m1) hm0 rfl ?_).mono ?_
   ·refine st_gen (Φ := fun t => awp _ _ _ _ _ ⟨t, _⟩) fun T1 hT1 => ?_
    have l1 : T1.length = 35 := by rw [hT1]; exact (List.length_set ..).trans hlen
    have u6 : tget T1 6 = .ptr ob 0 := by rw [hT1]; exact (tget_set_ne (by decide)).trans t6
    have u16 : tget T1 16 = tkV tk := by rw [hT1]; exact tget_set_same (by omega)
    clear hT1
    rw [t_eq l1]
    simp only [zat, zaA, zeV, u6, u16]
    simp only [ssS, zeV, zeT, reduceIte, zeU]
    refine zao fun b hb => ?_
    have hbo : b ≠ ob := by rintro rfl; rw [Store.set_same] at hb; cases hb
    have hMb : M b = none := by rwa [Store.set_ne _ _ hbo] at hb
    have hn : ∀ m' x, (Store.set m' b x) ob = m' ob := fun m' x => Store.set_ne m' x hbo.symm
    have hn2 : ∀ m' x, (Store.set m' ob x) b = m' b := fun m' x => Store.set_ne m' x hbo
    obtain ⟨tok, rfl⟩ := k3.val
    simp only [cells_tk, Store.set_same, Store.set_set, hn, hn2, lit5, litV5_agg, ssS, zeV, zeT, reduceIte, zeU]
    have hNb : N b = none := by
     cases hc : N b with
     | none => rfl
     | some x => rw [k3.sub _ _ hc] at hMb; cases hMb
    have hbuf := (k3.add (x := .var 179 [it tk.k, bs tk.s, it tk.n, it tk.l, it tk.a]) hMb).add (b := ob) (x := .var 194 [.sl (acc.map tkV) [] tok]) (by rw [hn]; exact k4)
    rw [set_comm M _ _ hbo] at hbuf
    refine appS_buf hbuf rfl (by intro c hc; simp [V.cells] at hc; rcases hc with rfl | rfl | rfl | rfl | rfl <;> rfl) (by simp; omega) fun m3 v3 hb3 => ?_
    obtain ⟨d1, M', d2, d3, d4⟩ := hb3.del (b := ob) (by rw [hn]; exact k2)
    obtain ⟨tok3, rfl⟩ := hb3.val
    simp only [d1, ssS, zeV, zeT, reduceIte, zeU]
    refine ⟨N.set b (.var 179 [it tk.k, bs tk.s, it tk.n, it tk.l, it tk.a]), M', _, fun c x hc => ?_, by rw [hn]; exact k2, by rw [zfA]; exact d2, d3, d4 _⟩
    rw [Store.set_ne _ _ (by rintro rfl; rw [k1 _ _ hc] at hNb; cases hNb)]
    exact k1 _ _ hc
   ·rintro o m' ⟨m₁, rfl, hn, rfl, hR⟩
    exact ⟨rfl, m₁, hn, rfl, hR⟩
  have key := tokens1_ok L L2 h0 h1 (y := l) (J := fun acc mC => ∃ m0, m0 l = none ∧ mC = m0.set l (.loop true fn T0 [16].toArray cx cy D) ∧ outSt m ob acc m0) (xb := xb) (pb := pb) (Ne.symm hpx) s (by omega) hy
   (mC := (m.set ob (.var 194 [.sl [] [] .full])).set l (.loop true fn T0 [16].toArray cx cy D)) ⟨m.set ob (.var 194 [.sl [] [] .full]), by rw [Store.set_ne _ _ hlo]; exact hl0, rfl, m, m, _, fun _ _ h => h, hob', Buf.start, hob', rfl⟩
   (by rw [Store.set_ne _ _ hlx.symm, Store.set_ne _ _ hxo]; exact hxb) (by rw [Store.set_ne _ _ hlp.symm, Store.set_ne _ _ hpo]; exact hpb')
  rw [← hst] at key
  refine zae.mono (R := fun o m' => rowOut _ xb pb s o m') key ?_
  rintro o m' ⟨rfl, acc, mC, a, ln, e, ⟨m0, hm0, rfl, N, M, v, k1, k2, k3, k4, rfl⟩, g1, g2, rfl, hr⟩
  refine ⟨⟨_, rfl⟩, (((M.set ob (.var 194 [v])).set pb (.var 243 [.ptr xb 0])).set xb (.var 245 [bs s, it a, it ln, it e])), ?_, ?_, ?_⟩
  ·funext c
   simp only [Store.set]
   by_cases e1 : c = l
   ·subst e1; simp [hlp, hlx]
   ·simp [e1]
  ·rw [Store.set_ne _ _ hlx, Store.set_ne _ _ hlp]; exact hm0
  ·have hxo2 : ∀ m' x, (Store.set m' xb x) ob = m' ob := fun m' x => Store.set_ne m' x hxo.symm
   have hpo2 : ∀ m' x, (Store.set m' pb x) ob = m' ob := fun m' x => Store.set_ne m' x hpo.symm
   have hsub : ∀ c x, m c = some x → (((M.set ob (.var 194 [v])).set pb (.var 243 [.ptr xb 0])).set xb (.var 245 [bs s, it a, it ln, it e])) c = some x := by
    intro c x hc
    rw [Store.set_ne _ _ (by rintro rfl; rw [hxb] at hc; cases hc), Store.set_ne _ _ (by rintro rfl; rw [hpb'] at hc; cases hc), Store.set_ne _ _ (by rintro rfl; rw [hob'] at hc; cases hc)]
    exact k3.sub _ _ (k1 _ _ hc)
   obtain ⟨tok, rfl⟩ := k3.val
   rw [t_eq hlen]
   simp only [zat, zaA, zeV, t5, t6, t15]
   cases hsc : zdE s 0 1 [] with
   | ok lx =>
    rw [hsc] at hr
    obtain ⟨rfl, rfl⟩ := hr
    have hz : ((0 : Int) != 0) = false := rfl
    simp only [hz, Store.set_same, hxo2, hpo2, ssS, zeV, zeT, reduceIte, zeU]
    exact zaQ (m' := m) zax hsub ⟨⟨tok, rfl⟩, rfl⟩
   | error p =>
    rw [hsc] at hr
    obtain ⟨a', e'⟩ := p
    obtain ⟨rfl, rfl, hne⟩ := hr
    have hz : ((e' : Int) != 0) = true := by simpa using hne
    simp only [hz, Store.set_same, hxo2, hpo2, ssS, zeV, zeT, reduceIte, zeU]
    exact zaQ (m' := m) zax hsub ⟨rfl, rfl⟩
end Go.Av.Fn
/- A text's expression, and whether a command is right, in plain terms. No condition. -/
namespace Go.Av.Fn
set_option linter.unusedSimpArgs false
set_option linter.unusedVariables false
def exO : Option Ex → V
 | some e => exV e
 | none => exV (.mk 0 [] 0 [] 0)
structure Form where
 w : List UInt8
 least : Int
 n : Bool
 s : Bool
 deriving DecidableEq
def za2 : Form := ⟨[], 0, false, false⟩
def forms : List Form := [za2, ⟨[115, 116, 101, 112], 0, false, false⟩, ⟨[110, 101, 120, 116], 0, false, false⟩, ⟨[102, 105, 110, 105, 115, 104], 0, false, false⟩, ⟨[99, 111, 110, 116, 105, 110, 117, 101], 0, false, false⟩,
 ⟨[98, 97, 99, 107, 45, 115, 116, 101, 112], 0, false, false⟩, ⟨[98, 97, 99, 107, 45, 110, 101, 120, 116], 0, false, false⟩, ⟨[98, 97, 99, 107, 45, 102, 105, 110, 105, 115, 104], 0, false, false⟩, ⟨[98, 97, 99, 107, 45, 99, 111, 110, 116, 105, 110, 117, 101], 0, false, false⟩,
 ⟨[103, 111, 116, 111], 0, true, false⟩, ⟨[98, 114, 101, 97, 107], 1, true, true⟩, ⟨[119, 97, 116, 99, 104], 0, false, true⟩, ⟨[100, 101, 108, 101, 116, 101], 1, true, false⟩, ⟨[101, 110, 97, 98, 108, 101], 1, true, false⟩, ⟨[100, 105, 115, 97, 98, 108, 101], 1, true, false⟩,
 ⟨[117, 112], 0, false, false⟩, ⟨[100, 111, 119, 110], 0, false, false⟩, ⟨[112, 114, 105, 110, 116], 0, false, true⟩]
def zaV (k : Int) : Form := if k < 0 then za2 else (forms[k.toNat]?).getD za2
def formV (f : Form) : V := .agg [bs f.w, it f.least, .val (.bool f.n), .val (.bool f.s)]
def cmdV (k n : Int) (s : List UInt8) : V := .agg [it k, it n, bs s]
theorem Good.end_ : ∀ (l : List Tk) (t : Tk), t.k = 0 → Good (l ++ [t])
 | [], t, h => h
 | [a], t, h => h
 | a :: b :: l, t, h => Good.end_ (b :: l) t h
theorem scanL_good {r : List UInt8} {a l : Nat} {acc L : List Tk} (h : zdE r a l acc = .ok L) : Good L := by
 fun_induction zdE r a l acc with
 | case1 r a l acc x r' e h1 h2 => cases h; exact Good.end_ _ _ rfl
 | case2 r a l acc x r' e h1 h2 => cases h
 | case3 r a l acc x r' t n h1 ih => exact ih h
theorem scanR_good {s : List UInt8} {L : List Tk} (h : zd0 s = .ok L) : Good L := by
 unfold zd0 at h
 split at h
 ·cases h
 ·exact scanL_good h
theorem scanL_len {r : List UInt8} {a l : Nat} {acc L : List Tk} (h : zdE r a l acc = .ok L) : L.length ≤ acc.length + r.length + 1 := by
 fun_induction zdE r a l acc with
 | case1 r a l acc x r' e h1 h2 => cases h; simp
 | case2 r a l acc x r' e h1 h2 => cases h
 | case3 r a l acc x r' t n h1 ih =>
  have := ih h
  have h4 := tokL_len h1
  have h5 : r'.length ≤ r.length := by
   show (r.drop _).length ≤ r.length
   rw [zfl]; omega
  simp at this
  omega
theorem scanR_len {s : List UInt8} {L : List Tk} (h : zd0 s = .ok L) : L.length ≤ 4097 := by
 unfold zd0 at h
 split at h
 ·cases h
 ·have := scanL_len h
  simp at this
  omega
theorem run_expr {l : List Tk} (h : Good l) : ∃ p, run (10 * l.length + 9) (.ex 0) l = some p ∧ Sgl p ∧ Fit false 0 l p := by
 obtain ⟨p, h1, h2⟩ := run_fits (10 * l.length + 9) (.ex 0) l h (by simp [zdr]) (by simp [zc0])
 refine ⟨p, h1, ?_, h2⟩
 cases p with
 | ok es l1 => exact h2.2.2 rfl
 | st l1 => trivial
end Go.Av.Fn
/- errors.As at a reader that is stuck: true, and the target is that reader. Condition: what errors.errorType holds. -/
namespace Go.Av.Fn
open Go.RowKit Go.Extern.Stop Go.Stop Go.Extern Go.Proofs
set_option linter.unusedSimpArgs false
set_option linter.unusedVariables false
theorem e_valueOfP (t : Addr) (w : World) : (ReflectliteValue.unpack (.iface 218 (.pointer (some t)))).run Tryz.prog w
  = .ok (.agg #[.pointer (some ⟨9, 218, none⟩), .pointer (some ⟨w.heap.size, 0, none⟩), .int .u64 150]) (w.alloc (.cells #[.pointer (some t)] 218)) := by kernel_rfl
theorem e_typeP (a : Addr) (w : World) : (ReflectliteValue.methodAny (ReflectliteValue.valueError "reflectlite.Value.Type" 0) (fun t _ _ _ => ReflectliteType.toType t) #[.agg #[.pointer (some ⟨9, 218, none⟩), .pointer (some a), .int .u64 150]]).run Tryz.prog w
  = .ok (.iface 289 (.agg #[.pointer (some ⟨9, 218, none⟩)])) w := by kernel_rfl
theorem e_methodKind (h : Value) (w : World) : (Go.method 500 289 (.agg #[h]) "Kind").run Tryz.prog w = .ok (283, h) w := by kernel_rfl
theorem e_kindP (w : World) : ((ReflectliteType.abiMethod fun t => (fun a : Nat => Value.int IntKind.u8 (a : Int)) <$> Rtype.kind t) #[.pointer (some ⟨9, 218, none⟩)]).run Tryz.prog w = .ok (.int .u8 22) w := by kernel_rfl
theorem e_kindT (w : World) : ((ReflectliteType.abiMethod fun t => (fun a : Nat => Value.int IntKind.u8 (a : Int)) <$> Rtype.kind t) #[.pointer (some ⟨9, 215, none⟩)]).run Tryz.prog w = .ok (.int .u8 22) w := by kernel_rfl
theorem e_rlm (z : Sem Value) (f : TypeId → Addr → Nat → Nat → Sem Value) (v : Value) :
  ReflectliteValue.method z f #[v] = (do match ← ReflectliteValue.parts v with | none => z | some (t, a, fl) => f t a fl (fl % 32)) := rfl
theorem e_partsP (a : Addr) (w : World) : (ReflectliteValue.parts (.agg #[.pointer (some ⟨9, 218, none⟩), .pointer (some a), .int .u64 150])).run Tryz.prog w = .ok (some (218, a, 150)) w := by kernel_rfl
theorem e_isNilP (a p : Addr) (W : World) (ha : W.cell? a = some (.pointer (some p))) :
  (ReflectliteValue.method (ReflectliteValue.valueError "reflectlite.Value.IsNil" 0) ReflectliteValue.isNil #[.agg #[.pointer (some ⟨9, 218, none⟩), .pointer (some a), .int .u64 150]]).run Tryz.prog W = .ok (.bool false) W := by
 rw [e_rlm]
 simp only [Sem.run_bind, e_partsP, Result.andThen]
 simp [ReflectliteValue.isNil, loadVar, isAgg, underlying, Tryz.underlying218, ha, Result.andThen]
theorem e_methodElem (h : Value) (w : World) : (Go.method 500 289 (.agg #[h]) "Elem").run Tryz.prog w = .ok (298, .agg #[h]) w := by kernel_rfl
theorem e_methodImplements (h : Value) (w : World) : (Go.method 500 289 (.agg #[h]) "Implements").run Tryz.prog w = .ok (299, .agg #[h]) w := by kernel_rfl
theorem e_methodAssignableTo (h : Value) (w : World) : (Go.method 500 289 (.agg #[h]) "AssignableTo").run Tryz.prog w = .ok (296, .agg #[h]) w := by kernel_rfl
theorem e_elemP (w : World) : (ReflectliteType.method ReflectliteType.elem #[.agg #[.pointer (some ⟨9, 218, none⟩)]]).run Tryz.prog w = .ok (.iface 289 (.agg #[.pointer (some ⟨9, 215, none⟩)])) w := by kernel_rfl
theorem e_implementsT (w : World) : (ReflectliteType.relation "Implements" ReflectliteType.implements_ #[.agg #[.pointer (some ⟨9, 215, none⟩)], .iface 289 (.agg #[.pointer (some ⟨9, 163, none⟩)])]).run Tryz.prog w = .ok (.bool true) w := by kernel_rfl
theorem e_typeOfT (v : Value) (w : World) : (ReflectliteType.typeOf #[.iface 215 v]).run Tryz.prog w = .ok (.iface 289 (.agg #[.pointer (some ⟨9, 215, none⟩)])) w := by kernel_rfl
theorem e_assignableT (w : World) : (ReflectliteType.relation "AssignableTo" ReflectliteType.assignableTo #[.agg #[.pointer (some ⟨9, 215, none⟩)], .iface 289 (.agg #[.pointer (some ⟨9, 215, none⟩)])]).run Tryz.prog w = .ok (.bool true) w := by kernel_rfl
theorem e_valueOfT (e : Addr) (w : World) : (ReflectliteValue.unpack (.iface 215 (.pointer (some e)))).run Tryz.prog w
  = .ok (.agg #[.pointer (some ⟨9, 215, none⟩), .pointer (some ⟨w.heap.size, 0, none⟩), .int .u64 150]) (w.alloc (.cells #[.pointer (some e)] 215)) := by kernel_rfl
theorem e_elemOfP (w : World) : (Rtype.elem? 218).run Tryz.prog w = .ok (some 215) w := by kernel_rfl
theorem e_mkT (p : Addr) (w : World) : (ReflectliteValue.mk 215 p ReflectliteValue.flagAddr).run Tryz.prog w = .ok (.agg #[.pointer (some ⟨9, 215, none⟩), .pointer (some p), .int .u64 406]) w := by kernel_rfl
theorem e_elemVP (a p : Addr) (W : World) (ha : W.cell? a = some (.pointer (some p))) :
  (ReflectliteValue.method (ReflectliteValue.valueError "reflectlite.Value.Elem" 0) ReflectliteValue.elem #[.agg #[.pointer (some ⟨9, 218, none⟩), .pointer (some a), .int .u64 150]]).run Tryz.prog W
   = .ok (.agg #[.pointer (some ⟨9, 215, none⟩), .pointer (some p), .int .u64 406]) W := by
 rw [e_rlm]
 simp only [Sem.run_bind, e_partsP, Result.andThen]
 simp [ReflectliteValue.elem, loadVar, isAgg, underlying, Tryz.underlying218, ha, Result.andThen, e_elemOfP, e_mkT]
theorem e_rls (v x : Value) : ReflectliteValue.set #[v, x] = (do
  let (some (dst, a, fl), some (src, b, _)) := (← ReflectliteValue.parts v, ← ReflectliteValue.parts x)
   | unsupported (.noEntry "extern/(internal/reflectlite.Value).Set.zeroValue")
  if fl / ReflectliteValue.flagAddr % 2 == 0 then unsupported (.noEntry "extern/(internal/reflectlite.Value).Set.unaddressable")
  let val ← loadVar src b
  if ← Rtype.directlyAssignable dst src then storeVar dst a val
  else if ← Rtype.implements dst src then
   if (← Rtype.kind src) == 20 then
    match val with
    | .nilIface => unsupported (.noEntry "extern/reflectlite: a nil value of one interface type handed on as a value of another")
    | _ => storeVar dst a val
   else storeVar dst a (.iface src val)
  else panicString ("reflectlite.Set: value of type " ++ (← Rtype.spelt src) ++ " is not assignable to type " ++ (← Rtype.spelt dst))
  pure (.tuple #[])) := rfl
theorem e_partsTa (a : Addr) (w : World) : (ReflectliteValue.parts (.agg #[.pointer (some ⟨9, 215, none⟩), .pointer (some a), .int .u64 406])).run Tryz.prog w = .ok (some (215, a, 406)) w := by kernel_rfl
theorem e_partsT (a : Addr) (w : World) : (ReflectliteValue.parts (.agg #[.pointer (some ⟨9, 215, none⟩), .pointer (some a), .int .u64 150])).run Tryz.prog w = .ok (some (215, a, 150)) w := by kernel_rfl
theorem e_directT (w : World) : (Rtype.directlyAssignable 215 215).run Tryz.prog w = .ok true w := by kernel_rfl
theorem e_setT (ta b e : Addr) (old : Value) (W : World) (hb : W.cell? b = some (.pointer (some e))) (ht : W.cell? ta = some old) (hf : W.frozen? ta = false) :
  (ReflectliteValue.set #[.agg #[.pointer (some ⟨9, 215, none⟩), .pointer (some ta), .int .u64 406], .agg #[.pointer (some ⟨9, 215, none⟩), .pointer (some b), .int .u64 150]]).run Tryz.prog W
   = .ok (.tuple #[]) (W.setCell ta (.pointer (some e))) := by
 rw [e_rls]
 simp only [Sem.run_bind, e_partsTa, e_partsT, Result.andThen]
 simp [ReflectliteValue.flagAddr, loadVar, isAgg, underlying, Tryz.underlying215, hb, Result.andThen, e_directT, storeVar, Value.cells, storeCells, Addr.add]
 rw [run_store Tryz.prog W ta _ _ (by rfl)]
 simp [ht, hf]
def asWorld (w : World) (e t : Addr) : World := ((((w.alloc (.cells #[.pointer (some t)] 218)).alloc (.cells #[.pointer (some ⟨9, 218, none⟩), .pointer (some ⟨w.heap.size, 0, none⟩), .int .u64 150] 251)).alloc (.cells #[.pointer (some ⟨9, 218, none⟩), .pointer (some ⟨w.heap.size, 0, none⟩), .int .u64 150] 251)).alloc (.cells #[.pointer (some e)] 215)).setCell t (.pointer (some e))
set_option maxHeartbeats 8000000 in
theorem as_hit (e t : Addr) (old : Value) (w : World) (hg : w.cell? ⟨6, 0, none⟩ = some (.iface 289 (.agg #[.pointer (some ⟨9, 163, none⟩)]))) (ht0 : w.cell? t = some old) (hf0 : w.frozen? t = false) :
  Calls Tryz.prog 171 #[.iface 215 (.pointer (some e)), .iface 218 (.pointer (some t))] w fun ev w' => ev = .returned (.bool true) ∧ w' = asWorld w e t := by
 have h6 := @run_callFunc_extern Tryz.prog 197 _ (fun args => ReflectliteValue.unpack (args.getD 0 (.tuple #[]))) Tryz.func197 (by kernel_rfl) (by kernel_rfl) (by kernel_rfl) (by kernel_rfl)
 have h7 := @run_callFunc_extern Tryz.prog 198 _ (ReflectliteValue.methodAny (ReflectliteValue.valueError "reflectlite.Value.Type" 0) (fun t _ _ _ => ReflectliteType.toType t)) Tryz.func198 (by kernel_rfl) (by kernel_rfl) (by kernel_rfl) (by kernel_rfl)
 have h8 := @run_callFunc_extern Tryz.prog 199 _ (ReflectliteValue.method (ReflectliteValue.valueError "reflectlite.Value.IsNil" 0) ReflectliteValue.isNil) Tryz.func199 (by kernel_rfl) (by kernel_rfl) (by kernel_rfl) (by kernel_rfl)
 have h27 := @run_callFunc_extern Tryz.prog 283 _ (ReflectliteType.abiMethod fun t => do pure (.int .u8 (← Rtype.kind t))) Tryz.func283 (by kernel_rfl) (by kernel_rfl) (by kernel_rfl) (by kernel_rfl)
 have h37 := @run_callFunc_extern Tryz.prog 298 _ (ReflectliteType.method ReflectliteType.elem) Tryz.func298 (by kernel_rfl) (by kernel_rfl) (by kernel_rfl) (by kernel_rfl)
 have h38 := @run_callFunc_extern Tryz.prog 299 _ (ReflectliteType.relation "Implements" ReflectliteType.implements_) Tryz.func299 (by kernel_rfl) (by kernel_rfl) (by kernel_rfl) (by kernel_rfl)
 have h10 := @run_callFunc_extern Tryz.prog 219 _ ReflectliteType.typeOf Tryz.func219 (by kernel_rfl) (by kernel_rfl) (by kernel_rfl) (by kernel_rfl)
 have h35 := @run_callFunc_extern Tryz.prog 296 _ (ReflectliteType.relation "AssignableTo" ReflectliteType.assignableTo) Tryz.func296 (by kernel_rfl) (by kernel_rfl) (by kernel_rfl) (by kernel_rfl)
 have h11 := @run_callFunc_extern Tryz.prog 220 _ (ReflectliteValue.method (ReflectliteValue.valueError "reflectlite.Value.Elem" 0) ReflectliteValue.elem) Tryz.func220 (by kernel_rfl) (by kernel_rfl) (by kernel_rfl) (by kernel_rfl)
 have h12 := @run_callFunc_extern Tryz.prog 221 _ ReflectliteValue.set Tryz.func221 (by kernel_rfl) (by kernel_rfl) (by kernel_rfl) (by kernel_rfl)
 have tO := e_typeOfT
 have mA := e_methodAssignableTo
 have a25 := e_assignableT
 have v25 := e_valueOfT
 have f6 := e_valueOfP
 have f7 := e_typeP
 have mK := e_methodKind
 have mE := e_methodElem
 have mI := e_methodImplements
 have k27 := e_kindP
 have k25 := e_kindT
 have e27 := e_elemP
 have i25 := e_implementsT
 have n8 := e_isNilP ⟨w.heap.size, 0, none⟩ t ((w.alloc (.cells #[.pointer (some t)] 218)).alloc (.cells #[.pointer (some ⟨9, 218, none⟩), .pointer (some ⟨w.heap.size, 0, none⟩), .int .u64 150] 251)) (by simp)
 have hlt : 6 < w.heap.size := by
  rcases Nat.lt_or_ge 6 w.heap.size with h | h
  ·exact h
  ·simp [World.cell?, Array.getElem?_eq_none h] at hg
 have hg2 : ((w.alloc (.cells #[.pointer (some t)] 218)).alloc (.cells #[.pointer (some ⟨9, 218, none⟩), .pointer (some ⟨w.heap.size, 0, none⟩), .int .u64 150] 251)).cell? ⟨6, 0, none⟩ = some (.iface 289 (.agg #[.pointer (some ⟨9, 163, none⟩)])) := by
  rw [World.cell?_alloc_lt _ _ ⟨6, 0, none⟩ (by simp; omega), World.cell?_alloc_lt _ _ ⟨6, 0, none⟩ hlt]; exact hg
 have htl : t.block < w.heap.size := by
  rcases Nat.lt_or_ge t.block w.heap.size with h | h
  ·exact h
  ·simp [World.cell?, Array.getElem?_eq_none h] at ht0
 have el := e_elemVP ⟨w.heap.size, 0, none⟩ t (((w.alloc (.cells #[.pointer (some t)] 218)).alloc (.cells #[.pointer (some ⟨9, 218, none⟩), .pointer (some ⟨w.heap.size, 0, none⟩), .int .u64 150] 251)).alloc (.cells #[.pointer (some ⟨9, 218, none⟩), .pointer (some ⟨w.heap.size, 0, none⟩), .int .u64 150] 251)) (by rw [World.cell?_alloc_lt _ _ ⟨w.heap.size, 0, none⟩ (by simp; omega)]; simp)
 have st := e_setT t ⟨w.heap.size + 1 + 1 + 1, 0, none⟩ e old ((((w.alloc (.cells #[.pointer (some t)] 218)).alloc (.cells #[.pointer (some ⟨9, 218, none⟩), .pointer (some ⟨w.heap.size, 0, none⟩), .int .u64 150] 251)).alloc (.cells #[.pointer (some ⟨9, 218, none⟩), .pointer (some ⟨w.heap.size, 0, none⟩), .int .u64 150] 251)).alloc (.cells #[.pointer (some e)] 215))
  (by rw [World.cell?_alloc_at _ _ _ _ (by simp)]; rfl)
  (by rw [World.cell?_alloc_lt _ _ t (by simp; omega), World.cell?_alloc_lt _ _ t (by simp; omega), World.cell?_alloc_lt _ _ t (by simp; omega), World.cell?_alloc_lt _ _ t htl]; exact ht0)
  (by rw [World.frozen?_alloc_old _ _ t (by simp; omega), World.frozen?_alloc_old _ _ t (by simp; omega), World.frozen?_alloc_old _ _ t (by simp; omega), World.frozen?_alloc_old _ _ t (Nat.ne_of_lt htl)]; exact hf0)
 unfold asWorld
 go_enter Tryz.func171, Tryz.ntmps171
 go_wp2
 refine wp_loop_rounds 1 ?_
 rw [rounds_succ]
 go_wp2
 go_ret
 exact ⟨rfl, rfl⟩
end Go.Av.Fn
/- errors.As at a reader that is stuck, over abstract values. Condition: what errors.errorType holds. -/
namespace Go.Av.Fn
open Go.RowKit Go.Proofs
set_option linter.unusedSimpArgs false
set_option linter.unusedVariables false
theorem as_ok {Γ : Glob} (hΓ : Γ 6 = some [.ifc 289 (.agg [.ptr 9 163])]) {m : Store} {e eo t : Nat} {c : V} (ht : m t = some (.var 215 [c])) :
  zae Tryz.prog Γ 171 [.ifc 215 (.ptr e eo), .ifc 218 (.ptr t 0)] m fun o m' => o = .ret (.val (.bool true)) ∧ m' = m.set t (.var 215 [.ptr e eo]) := by
 refine ⟨by kernel_rfl, fun G B0 mF w cargs hD hR hL => ?_⟩
 obtain ⟨u1, us1, rfl, r1, hL⟩ := hL.cons_inv
 obtain ⟨u2, us2, rfl, r2, hL⟩ := hL.cons_inv
 obtain rfl := hL.nil_inv
 have hu1 : u1 = .iface 215 (.pointer (some ⟨e, eo, none⟩)) := by
  cases r1 with
  | ifc r1 => cases r1; rfl
 have hu2 : u2 = .iface 218 (.pointer (some ⟨t, 0, none⟩)) := by
  cases r2 with
  | ifc r2 => cases r2; rfl
 subst hu1
 subst hu2
 have hM : (m.or mF) t = some (.var 215 [c]) := zbN ht
 obtain ⟨hB, ⟨us, h2, h3⟩, h4⟩ := hR.var t _ _ hM
 obtain ⟨old, us', rfl, r3, r4⟩ := h3.cons_inv
 obtain rfl := r4.nil_inv
 obtain ⟨gs, g1, g2⟩ := hR.glob _ _ hΓ
 obtain ⟨gv, gs', rfl, g3, g4⟩ := g1.cons_inv
 have hgv : gv = .iface 289 (.agg #[.pointer (some ⟨9, 163, none⟩)]) := by
  cases g3 with
  | ifc g3 =>
   cases g3 with
   | agg g5 =>
    obtain ⟨gp, gs'', rfl, g6, g7⟩ := g5.cons_inv
    obtain rfl := g7.nil_inv
    cases g6
    rfl
 subst hgv
 have hg := hR.K _ _ _ (g2.2 0 _ rfl)
 have ht0 : w.cell? ⟨t, 0, none⟩ = some old := by simp [World.cell?, h2]
 have hf0 : w.frozen? ⟨t, 0, none⟩ = false := by simp [World.frozen?, h2]
 refine (as_hit ⟨e, eo, none⟩ ⟨t, 0, none⟩ old w hg ht0 hf0).mono ?_
 rintro ev w' ⟨rfl, rfl⟩
 refine ⟨G, m.set t (.var 215 [.ptr e eo]), .ret (.val (.bool true)), Gh.le.refl G, hD.set _ (hD.of_some ht), ?_, ?_, .ret (.val rfl), rfl, rfl⟩
 ·rw [or_set]
  exact ((((hR.alloc _).alloc _).alloc _).alloc _).store hM (o := 0) (.ptr e eo)
 ·refine Below.setCell (((((Below.refl B0 w).alloc hR.base _).alloc ?_ _).alloc ?_ _).alloc ?_ _) hB _
  all_goals (simp only [World.size_alloc]; have := hR.base; omega)
end Go.Av.Fn
/- A text read by the parser, and what it says when it can't go on. Condition: what errors.errorType holds. -/
namespace Go.Av
section
variable {P : Program} {Γ : Glob} {l : List Item} {t : List V} {m : Store} {d : Option Tmp}
theorem runP_cons {Kp : V → St → Prop} {K : St → Prop} {g : Option (Tmp × Bool)} {ao : AOp} : runP P Γ Kp (⟨d, g, ao, []⟩ :: l) K ⟨t, m⟩ = runO P Γ (fun v m' => Kp v ⟨t, m'⟩) [⟨d, g, ao, []⟩] (runP P Γ Kp l K) (some ⟨t, m⟩) := by
 apply propext
 simp only [runP, stepP, runO, runA, stepA, zaG, List.not_mem_nil, false_implies, implies_true, true_and]
theorem runP_nil {Kp : V → St → Prop} {K : St → Prop} {st : St} : runP P Γ Kp [] K st = K st := rfl
theorem awpP_row {Kp : V → St → Prop} {Q : Ex → St → Prop} {st : St} : awpP P Γ Kp (.row l) Q st = runP P Γ Kp l (Q .normal) st := rfl
theorem awpP_seq {Kp : V → St → Prop} {Q : Ex → St → Prop} {a b : PCode} {st : St} : awpP P Γ Kp (.seq a b) Q st = awpP P Γ Kp a (thenA (awpP P Γ Kp b Q) Q) st := rfl
theorem awpP_code {Kp : V → St → Prop} {Q : Ex → St → Prop} {c : za0} {st : St} : awpP P Γ Kp (.code c) Q st = awp P Γ (fun _ _ => False) c Q st := rfl
def condP (v : V) (A B : Prop) : Prop := match v with
 | .val (.bool t) => (t = true → A) ∧ (t = false → B)
 | _ => False
theorem awpP_cond {Kp : V → St → Prop} {Q : Ex → St → Prop} {c : Operand} {a b : PCode} : awpP P Γ Kp (.cond c a b) Q ⟨t, m⟩ = condP (ev Γ t c) (awpP P Γ Kp a Q ⟨t, m⟩) (awpP P Γ Kp b Q ⟨t, m⟩) := (rfl)
theorem condP_true {A B : Prop} : condP (.val (.bool true)) A B = A := by simp [condP]
theorem condP_false {A B : Prop} : condP (.val (.bool false)) A B = B := by simp [condP]
theorem runA_O {Kp : V → Store → Prop} {K : St → Prop} {st : St} : runA P Γ Kp l K st = runO P Γ Kp l K (some st) := rfl
theorem put_none {st : St} {v : V} : st.put none v = st := rfl
theorem q_asrt {T : TypeId} {x : Operand} : zaZ (.asrt T x) = true := (rfl)
theorem eval_asrt {T : TypeId} {x : Operand} : zan P (ev Γ t) m (.asrt T x) = asrtV P T (ev Γ t x) := rfl
end
end Go.Av
namespace Go.Av.Fn
set_option linter.unusedSimpArgs false
set_option linter.unusedVariables false
set_option maxRecDepth 10000
open Go.Proofs
def readT (l : List Tk) : Option Ex × Int × Int := match run (10 * l.length + 9) (.ex 0) l with
 | some (.ok [e] (t :: _)) => if t.k = 0 then (some e, 0, 0) else (none, t.a, 6)
 | some (.st (t :: _)) => (none, t.a, 6)
 | _ => (none, 0, 0)
def zcK (s : List UInt8) : Option Ex × Int × Int := match zd0 s with
 | .error (a, e) => (none, a, e)
 | .ok l => readT l
def triV (r : Option Ex × Int × Int) : V := .tup [exO r.1, it r.2.1, it r.2.2]
theorem nil_is : binV Tryz.prog .eql 20 .iface (.tmp 9) (.const .nilIface) (.val .nilIface) (.val .nilIface) = some (.val (.bool true)) := by kernel_rfl
theorem asrt_st {b : Nat} : asrtV Tryz.prog 163 (.ifc 215 (.ptr b 0)) = some (.tup [.ifc 215 (.ptr b 0), .val (.bool true)]) := by kernel_rfl
section
variable {Γ : Glob} {m : Store} {xb ab eb : Nat}
theorem read1_none : zdD Tryz.prog Γ 170 [.ptr xb 0, .ptr ab 0, .ptr eb 0] m none (fun m' => m' = m) := by
 refine adcalls_of_awp mixed R170_ok ?_
 have hs : startR R170 [.ptr xb 0, .ptr ab 0, .ptr eb 0] m none = ⟨[.ptr xb 0, .ptr ab 0, .ptr eb 0, .val .nilIface, un, un, un, un, .val .nilIface, un, un, un, un, un, un, un, un, un, un, un, un, un, un, un, un, un, un, un], m⟩ := rfl
 rw [hs]
 simp only [R170]
 simp only [nil_is, ssS, zeV, zeT, reduceIte, zeU]
 exact ⟨⟨_, rfl⟩, rfl⟩
theorem read1_some (hΓ : Γ 6 = some [.ifc 289 (.agg [.ptr 9 163])]) {b : Nat} {a : Int} {c1 : List V} {c2 c3 : V} (hb : m b = some (.var 220 [it a])) (hx : m xb = some (.var 170 c1)) (h1 : c1.length = 5) (ha : m ab = some (.var 3 [c2])) (he : m eb = some (.var 25 [c3])) (hxa : xb ≠ ab) (hxe : xb ≠ eb) (hae : ab ≠ eb) :
  zdD Tryz.prog Γ 170 [.ptr xb 0, .ptr ab 0, .ptr eb 0] m (some (stV b)) (fun m' => m' xb = some (.var 170 zE) ∧ m' ab = some (.var 3 [it a]) ∧ m' eb = some (.var 25 [it 6]) ∧ ∀ c x, c ≠ xb → c ≠ ab → c ≠ eb → m c = some x → m' c = some x) := by
 refine adcalls_of_awp mixed R170_ok ?_
 have hs : startR R170 [.ptr xb 0, .ptr ab 0, .ptr eb 0] m (some (stV b)) = ⟨[.ptr xb 0, .ptr ab 0, .ptr eb 0, stV b, un, un, un, un, stV b, un, un, un, un, un, un, un, un, un, un, un, un, un, un, un, un, un, un, un], m⟩ := rfl
 rw [hs]
 have hst : stV b = .ifc 215 (.ptr b 0) := rfl
 have hni : binV Tryz.prog .eql 20 .iface (.tmp 9) (.const .nilIface) (stV b) (.val .nilIface) = some (.val (.bool false)) := rfl
 simp only [R170]
 simp only [hni, ssS, zeV, zeT, reduceIte, zeU]
 refine zao fun b4 hb4 => ?_
 have n4 : ∀ {c x}, m c = some x → c ≠ b4 := fun h => zal h hb4
 simp only [q_asrt, eval_asrt, asrt_st, hst, ssS, zeV, zeT, reduceIte, zeU]
 refine zaH (as_ok hΓ (c := .val (.pointer none)) (Store.set_same _ _ _)) ?_
 simp only [Store.set_set, ssS, zeV, zeT, reduceIte, zeU]
 refine zao fun b7 hb7 => ?_
 have h47 : b4 ≠ b7 := zal (Store.set_same _ _ _) hb7
 have n7 : ∀ {c x}, m c = some x → c ≠ b7 := fun {c x} h => zal (x := x) (by rw [Store.set_ne _ _ (n4 h)]; exact h) hb7
 obtain ⟨p1, p2, p3, p4, p5, rfl⟩ : ∃ p1 p2 p3 p4 p5, c1 = [p1, p2, p3, p4, p5] := by
  match c1, h1 with
  | [p1, p2, p3, p4, p5], _ => exact ⟨_, _, _, _, _, rfl⟩
 simp only [Store.set_same, Store.set_ne _ _ h47, Store.set_ne _ _ (n7 hb), Store.set_ne _ _ (n4 hb), hb, Store.set_ne _ _ (n7 hx), Store.set_ne _ _ (n4 hx), hx, ssS, zeV, zeT, reduceIte, zeU]
 simp only [Store.set_ne _ _ hxa.symm, Store.set_ne _ _ (n7 ha), Store.set_ne _ _ (n4 ha), ha, ssS, zeV, zeT, reduceIte, zeU]
 simp only [Store.set_ne _ _ hae.symm, Store.set_ne _ _ hxe.symm, Store.set_ne _ _ (n7 he), Store.set_ne _ _ (n4 he), he, ssS, zeV, zeT, reduceIte, zeU]
 refine ⟨⟨_, rfl⟩, ?_, ?_, Store.set_same _ _ _, ?_⟩
 ·show (Store.set _ _ _) _ = _
  rw [Store.set_ne _ _ hxe, Store.set_ne _ _ hxa, Store.set_same]
 ·show (Store.set _ _ _) _ = _
  rw [Store.set_ne _ _ hae, Store.set_same]
 ·intro c x h1 h2 h3 hc
  show (Store.set _ _ _) _ = _
  rw [Store.set_ne _ _ h3, Store.set_ne _ _ h2, Store.set_ne _ _ h1, Store.set_ne _ _ (n7 hc), Store.set_ne _ _ (n4 hc)]
  exact hc
end
end Go.Av.Fn
/- A text's expression: what the program's Expr tells. Conditions: the library's functions (LibOk, ParseOk), and what four variables hold. -/
namespace Go.Av
theorem zdD.mono {P : Program} {Γ : Glob} {g : FuncId} {caps : List V} {m : Store} {p : Option V} {R R' : Store → Prop} (h : zdD P Γ g caps m p R) (hr : ∀ m', R m' → R' m') : zdD P Γ g caps m p R' := by
 refine ⟨h.1, fun G B0 mF w ccaps u a b c d => ?_⟩
 have := h.2 G B0 mF w ccaps u a b c d
 refine this.mono ?_
 rintro e u' w' ⟨uv, G', m', h1, h2, h3, h4, h5, h6, h7⟩
 exact ⟨uv, G', m', h1, h2, h3, h4, h5, h6, hr _ h7⟩
theorem resV_cells3 {t : List V} {m : Store} {i j k a b c : Nat} {T1 T2 T3 : TypeId} {cs : List V} {u x y : V} (h1 : tget t i = .ptr a 0) (h2 : m a = some (.var T1 cs)) (h3 : zbC cs 0 (some 5) = some u) (h4 : tget t j = .ptr b 0) (h5 : m b = some (.var T2 [x])) (h6 : tget t k = .ptr c 0) (h7 : m c = some (.var T3 [y])) :
  resV [.cell i (some 5), .cell j none, .cell k none] ⟨t, m⟩ = some (.tup [u, x, y]) := by
 have e : ∀ z : V, zbC [z] 0 none = some z := fun _ => rfl
 simp only [resV, zb8, zcf, za3, h1, h2, h3, h4, h5, h6, h7, e, Option.map_some]
end Go.Av
namespace Go.Av.Fn
set_option linter.unusedSimpArgs false
set_option linter.unusedVariables false
set_option maxRecDepth 10000
open Go.Proofs
structure Env (Γ : Glob) : Prop where
 lib : LibOk Γ
 parse : ParseOk Γ
 words : Γ 3 = some (zaN.map bs)
 signs : Γ 2 = some (zaF.map bs)
 errT : Γ 6 = some [.ifc 289 (.agg [.ptr 9 163])]
theorem tokL_ne {r : List UInt8} {e : Int} (h : tokL r = .error e) : e ≠ 0 := by
 unfold tokL at h
 split at h
 ·cases h; decide
 ·split at h
  ·split at h
   ·cases h
   ·split at h
    ·cases h; decide
    ·cases h
  ·split at h
   ·split at h
    ·cases h; decide
    ·cases h
   ·split at h
    ·split at h
     ·rename_i hq
      cases h
      exact qL_err hq
     ·cases h
    ·split at h
     ·cases h
     ·cases h; decide
theorem scanL_ne {r : List UInt8} {a l : Nat} {acc : List Tk} {x : Nat × Int} (h : zdE r a l acc = .error x) : x.2 ≠ 0 := by
 fun_induction zdE r a l acc with
 | case1 r a l acc x r' e h1 h2 => cases h
 | case2 r a l acc x r' e h1 h2 => cases h; exact tokL_ne h1
 | case3 r a l acc x r' t n h1 ih => exact ih h
theorem scanR_ne {s : List UInt8} {a : Nat} {e : Int} (h : zd0 s = .error (a, e)) : e ≠ 0 := by
 unfold zd0 at h
 split at h
 ·cases h; decide
 ·exact scanL_ne h
def scanV : Except (Nat × Int) (List Tk) → V
 | .ok l => .tup [.sl (l.map tkV) [] .no, it 0, it 0]
 | .error (a, e) => .tup [.sl [] [] .no, it a, it e]
theorem weak_tk (t : Tk) : weak (tkV t) = tkV t := rfl
section
variable {Γ : Glob} {m : Store}
theorem scan_weak (E : Env Γ) (s : List UInt8) : zae Tryz.prog Γ 169 [bs s] m fun o m' => o = .ret (scanV (zd0 s)) ∧ m' = m := by
 refine zae.weak (scan_ok E.lib E.parse E.words E.signs s) ?_ ?_
 ·rintro v m' ⟨h, rfl⟩
  refine ⟨?_, rfl⟩
  unfold ScanOut at h
  split at h
  ·rename_i l hl
   obtain ⟨tok, h⟩ := h
   cases h
   rw [hl]
   simp only [scanV, weak, zaL, weaks_map weak_tk]
  ·rename_i a e hl
   cases h
   rw [hl]
   simp only [scanV, weak, zaL]
 ·rintro v m' ⟨h, _⟩
  exfalso
  unfold ScanOut at h
  split at h
  ·obtain ⟨_, h⟩ := h
   cases h
  ·cases h
theorem Expr1_ok {rb n : Nat} {l : List Tk} {p : PR} (hn0 : n ≤ 1099511627776) (hr : m rb = some (rdr l)) (hs : Sgl p) (hp : run n (.ex 0) l = some p) : zae Tryz.prog Γ 145 [.ptr rb 0] m (PE m rb hdV p) := by
 refine zcG (zad mixed F145_ok zd2 ?_)
 simp only [F145, ss0, ze0, zeV]
 simp only [ssS, zeV, zeT, reduceIte, zeU]
 refine zao fun b hb => ?_
 have hn := zal hr hb
 have hE := (Ext.refl m rb).alloc hb (.var 170 zE)
 simp only [ssS, zeV, zeT, reduceIte, zeU]
 refine zav ((parser_ok n hn0).1 0 l p _ rb (by omega) (by rw [Store.set_ne _ _ hn]; exact hr) hs hp) (fun es l1 e => ?_) (fun l1 b2 e hb2 => ?_)
 ·subst e
  obtain ⟨e, rfl⟩ := hs
  obtain ⟨k, s, n, kids, ln⟩ := e
  simp only [hdV, exV, Store.set_ne _ _ hn.symm, Store.set_same, ssS, zeV, zeT, reduceIte, zeU]
  refine zbZ (b := b) rfl (Store.set_same _ _ _) (zaI _) ?_
  exact ((hE.rd _).loc hb _).ret (by rw [Store.set_ne _ _ hn, Store.set_same])
 ·subst e
  exact zbq hE (by rw [Store.set_ne _ _ hn]; exact hr) hb2
theorem read_ok (E : Env Γ) (s : List UInt8) : zae Tryz.prog Γ 144 [bs s, .fn (.func 145) [] []] m fun o m' => o = .ret (triV (zcK s)) ∧ m' = m := by
 refine zae.weak (R := fun o m' => ∃ v, o = .ret v ∧ weak v = triV (zcK s) ∧ m' = m) (zae.less (A := fun o m' => ∃ v, o = .ret v ∧ weak v = triV (zcK s) ∧ SubS m m') ?_ (fun o m' ⟨v, h1, h2, h3⟩ => ⟨m, h3, v, h1, h2, rfl⟩)) ?_ ?_
 rotate_left
 ·rintro v m' ⟨_, ⟨⟩, h, rfl⟩
  exact ⟨by rw [h], rfl⟩
 ·rintro v m' ⟨_, ⟨⟩, _⟩
 refine acalls_of_defer mixed D144_ok (by rintro v m b x _ ⟨_, ⟨⟩, _⟩) ?_
 simp only [D144, awpD, ss0, ze0, zeV]
 simp only [ssS, zeV, zeT, reduceIte, zeU]
 refine zao fun xb hxb => ?_
 simp only [ssS, zeV, zeT, reduceIte, zeU]
 refine zao fun ab hab => ?_
 have n1 : xb ≠ ab := zal (Store.set_same _ _ _) hab
 simp only [ssS, zeV, zeT, reduceIte, zeU]
 refine zao fun eb heb => ?_
 have n2 : ab ≠ eb := zal (Store.set_same _ _ _) heb
 have n3 : xb ≠ eb := zal (x := .var 170 zE) (by rw [Store.set_ne _ _ n1, Store.set_same]) heb
 simp only [ssS, zeV, zeT, reduceIte, zeU]
 refine zai (scan_weak E s) ?_
 -- the store
 have key : ∀ S : Store, SubS m S → S xb = some (.var 170 zE) → S ab = some (.var 3 [it 0]) → S eb = some (.var 25 [it 0]) → m xb = none ∧ m ab = none ∧ m eb = none := by
  intro S h1 h2 h3 h4
  refine ⟨hxb, ?_, ?_⟩
  ·rw [Store.set_ne _ _ n1.symm] at hab; exact hab
  ·rw [Store.set_ne _ _ n2.symm, Store.set_ne _ _ n3.symm] at heb; exact heb
 have hS0 : SubS m (((m.set xb (.var 170 zE)).set ab (.var 3 [it 0])).set eb (.var 25 [it 0])) := (((SubS.refl m).out hxb _).out (by rw [Store.set_ne _ _ n1.symm] at hab; exact hab) _).out (by rw [Store.set_ne _ _ n2.symm, Store.set_ne _ _ n3.symm] at heb; exact heb) _
 have hx0 : (((m.set xb (.var 170 zE)).set ab (.var 3 [it 0])).set eb (.var 25 [it 0])) xb = some (.var 170 zE) := by rw [Store.set_ne _ _ n3, Store.set_ne _ _ n1, Store.set_same]
 have ha0 : (((m.set xb (.var 170 zE)).set ab (.var 3 [it 0])).set eb (.var 25 [it 0])) ab = some (.var 3 [it 0]) := by rw [Store.set_ne _ _ n2, Store.set_same]
 have he0 : (((m.set xb (.var 170 zE)).set ab (.var 3 [it 0])).set eb (.var 25 [it 0])) eb = some (.var 25 [it 0]) := Store.set_same _ _ _
 generalize (((m.set xb (.var 170 zE)).set ab (.var 3 [it 0])).set eb (.var 25 [it 0])) = S at hS0 hx0 ha0 he0
 obtain ⟨mx, ma, me⟩ := key S hS0 hx0 ha0 he0
 clear key hab heb hxb
 cases hsc : zd0 s with
 | error x =>
  obtain ⟨a, e⟩ := x
  have hne : ((e : Int) != 0) = true := by simpa using scanR_ne hsc
  simp only [scanV, ha0, he0, hx0, hne, Store.set_same, Store.set_set, Store.set_ne _ _ n1, Store.set_ne _ _ n2, Store.set_ne _ _ n3, Store.set_ne _ _ n1.symm, Store.set_ne _ _ n2.symm, Store.set_ne _ _ n3.symm, ssS, zeV, zeT, reduceIte, zeU]
  refine zah (resV_cells3 (T1 := 170) (T2 := 3) (cs := zE) (u := .agg zE) (x := it a) (y := it e) (a := xb) (b := ab) (c := eb) rfl ?_ rfl rfl ?_ rfl (Store.set_same _ _ _)) ⟨_, rfl, ?_, ?_⟩
  ·show (Store.set _ _ _) _ = _
   rw [Store.set_ne _ _ n3, Store.set_ne _ _ n1, Store.set_same]
  ·show (Store.set _ _ _) _ = _
   rw [Store.set_ne _ _ n2, Store.set_same]
  ·simp only [zcK, hsc, triV, exO, exV, exVs, weak, zaL]
   rfl
  ·exact ((((hS0.out ma _).out me _).out mx _).out ma _).out me _
 | ok l =>
  have hg := scanR_good hsc
  obtain ⟨p, hp, hsg, hfit⟩ := run_expr hg
  have hl := scanR_len hsc
  have hrd : zcK s = readT l := by unfold zcK; rw [hsc]
  simp only [scanV, ha0, he0, hx0, Store.set_same, Store.set_set, Store.set_ne _ _ n1, Store.set_ne _ _ n2, Store.set_ne _ _ n3, Store.set_ne _ _ n1.symm, Store.set_ne _ _ n2.symm, Store.set_ne _ _ n3.symm, show ((0 : Int) != 0) = false from rfl, runA_O, put_none, awpP_row, awpP_seq, runP_cons, runP_nil, ssS, zeV, zeT, reduceIte, zeU]
  have e1 : S.set ab (.var 3 [V.val (Value.int IntKind.i64 0)]) = S := Store.set_eq S ha0
  have e2 : S.set eb (.var 25 [V.val (Value.int IntKind.i64 0)]) = S := Store.set_eq S he0
  rw [e1, e2]
  refine zao fun rb hrb => ?_
  have hrr : (S.set rb (rdr l)) rb = some (rdr l) := Store.set_same _ _ _
  have mr := hS0.none hrb
  have nx := zal hx0 hrb
  have na := zal ha0 hrb
  have ne := zal he0 hrb
  have hst : ∀ (S1 : Store) (t : List V) (l0 l1 : List Tk) (b : Nat), (S.set rb (rdr l0)) b = none → Good l1 → readT l = (none, atOf l1, 6) → tget t 4 = .ptr xb 0 → tget t 5 = .ptr ab 0 → tget t 6 = .ptr eb 0 →
    (∃ c1 c2 c3, S1 = (((S.set xb (.var 170 c1)).set ab (.var 3 [c2])).set eb (.var 25 [c3])).set rb (rdr l1) ∧ c1.length = 5) →
    zdD Tryz.prog Γ 170 [.ptr xb 0, .ptr ab 0, .ptr eb 0] (S1.set b (stk l1)) (some (stV b)) (endD [ARes.cell 4 (some 5), ARes.cell 5 none, ARes.cell 6 none] (fun o m' => ∃ v, o = .ret v ∧ weak v = triV (zcK s) ∧ SubS m m') t) := by
   rintro S1 t l0 l1 b hb hg1 hrt g1 g2 g3 ⟨c1, c2, c3, rfl, hc1⟩
   have hb' : S b = none := by
    rw [Store.set_ne _ _ (fun e => zal (Store.set_same S rb (rdr l0)) hb e.symm)] at hb
    exact hb
   have bx := zal hx0 hb'
   have ba := zal ha0 hb'
   have be := zal he0 hb'
   have br : rb ≠ b := zal (Store.set_same S rb (rdr l0)) hb
   refine (read1_some E.errT (b := b) (a := atOf l1) (c1 := c1) (c2 := c2) (c3 := c3) (Store.set_same _ _ _) ?_ hc1 ?_ ?_ n1 n3 n2).mono ?_
   ·rw [Store.set_ne _ _ bx, Store.set_ne _ _ nx, Store.set_ne _ _ n3, Store.set_ne _ _ n1, Store.set_same]
   ·rw [Store.set_ne _ _ ba, Store.set_ne _ _ na, Store.set_ne _ _ n2, Store.set_same]
   ·rw [Store.set_ne _ _ be, Store.set_ne _ _ ne, Store.set_same]
   ·rintro m' ⟨q1, q2, q3, q4⟩
    refine ⟨_, resV_cells3 (a := xb) (b := ab) (c := eb) (u := .agg zE) g1 q1 rfl g2 q2 g3 q3, m', fun _ _ h => h, _, rfl, ?_, fun c x hc => ?_⟩
    ·simp only [hrd, hrt, triV, exO, exV, exVs, weak, zaL]
     rfl
    ·have k1 : c ≠ xb := fun e => zal hc mx e
     have k2 : c ≠ ab := fun e => zal hc ma e
     have k3 : c ≠ eb := fun e => zal hc me e
     have k4 : c ≠ rb := fun e => zal hc mr e
     have k5 : c ≠ b := zal (hS0 c x hc) hb'
     refine q4 c x k1 k2 k3 ?_
     rw [Store.set_ne _ _ k5, Store.set_ne _ _ k4, Store.set_ne _ _ k3, Store.set_ne _ _ k2, Store.set_ne _ _ k1]
     exact hS0 c x hc
  simp only [runP_cons, runP_nil, awpP_row, awpP_seq, ssS, zeV, zeT, reduceIte, zeU]
  refine zav (S := S.set rb (rdr l)) (Expr1_ok (by omega) hrr hsg hp) (fun es l1 e => ?_) (fun l1 b e hb => ?_)
  ·subst e
   obtain ⟨e, rfl⟩ := hsg
   have hg1 := hfit.1
   obtain ⟨tk, l2, rfl⟩ := hg1.ne
   obtain ⟨k, s', n', kids, ln⟩ := e
   simp only [hdV, exV, Store.set_set, Store.set_same, Store.set_ne _ _ nx, Store.set_ne _ _ nx.symm, hx0, rdr, idx_tk, ld5, runP_cons, runP_nil, awpP_row, awpP_seq, awpP_cond, awpP_code, ssS, zeV, zeT, reduceIte, zeU]
   have hrun : readT l = if tk.k = 0 then (some (.mk k s' n' kids ln), 0, 0) else (none, tk.a, 6) := by
    unfold readT
    rw [hp]
   cases hk : (tk.k != 0)
   ·have hk0 : tk.k = 0 := by simpa using hk
    rw [if_pos hk0] at hrun
    simp only [condP_false, leaveD, runP_cons, runP_nil, awpP_row, awpP_seq, awpP_code, Store.set_same, Store.set_set, Store.set_ne _ _ nx, Store.set_ne _ _ nx.symm, Store.set_ne _ _ na, Store.set_ne _ _ na.symm, Store.set_ne _ _ ne, Store.set_ne _ _ ne.symm, Store.set_ne _ _ n1, Store.set_ne _ _ n2, Store.set_ne _ _ n3, Store.set_ne _ _ n1.symm, Store.set_ne _ _ n2.symm, Store.set_ne _ _ n3.symm, hx0, ha0, he0, ssS, zeV, zeT, reduceIte, zeU]
    refine read1_none.mono ?_
    rintro m' rfl
    refine ⟨_, resV_cells3 (T1 := 170) (T2 := 3) (cs := [it k, bs s', it n', .sl (exVs kids) [] .no, it ln]) (u := .agg [it k, bs s', it n', .sl (exVs kids) [] .no, it ln]) (x := it 0) (y := it 0) (a := xb) (b := ab) (c := eb) rfl ?_ rfl rfl ?_ rfl (Store.set_same _ _ _), _, fun _ _ h => h, _, rfl, ?_, ?_⟩
    ·show (Store.set _ _ _) _ = _
     rw [Store.set_ne _ _ n3, Store.set_ne _ _ n1, Store.set_same]
    ·show (Store.set _ _ _) _ = _
     rw [Store.set_ne _ _ n2, Store.set_same]
    ·rw [hrd, hrun]
     simp only [triV, exO, exV, weak, zaL, zaI, bs]
    ·exact (((hS0.out mr _).out mx _).out ma _).out me _
   ·have hk0 : ¬ tk.k = 0 := by simpa using hk
    rw [if_neg hk0] at hrun
    simp only [condP_true]
    have hr2 : ((S.set rb (rdr (tk :: l2))).set xb (.var 170 [it k, bs s', it n', .sl (exVs kids) [] .no, it ln])) rb = some (rdr (tk :: l2)) := by
     rw [Store.set_ne _ _ nx.symm, Store.set_same]
    refine zav (stop_ok (val := hdV) hr2) (by rintro es l3 ⟨⟩) ?_
    rintro l3 b ⟨⟩ hb
    refine hst _ _ (tk :: l2) (tk :: l2) b ?_ hg1 hrun rfl rfl rfl ⟨[it k, bs s', it n', .sl (exVs kids) [] .no, it ln], it 0, it 0, ?_, rfl⟩
    ·rw [Store.set_ne _ _ (fun e => zal (Store.set_same _ _ _) hb e.symm)] at hb
     exact hb
    ·rw [set_comm S _ _ nx.symm, Store.set_set, Store.set_eq (S.set xb _) (show (S.set xb _) ab = some (.var 3 [it 0]) by rw [Store.set_ne _ _ n1.symm]; exact ha0), Store.set_eq (S.set xb _) (show (S.set xb _) eb = some (.var 25 [it 0]) by rw [Store.set_ne _ _ n3.symm]; exact he0)]
  ·subst e
   have hrun : readT l = (none, atOf l1, 6) := by
    obtain ⟨t, r, rfl⟩ := hfit.1.ne
    unfold readT
    rw [hp]
    rfl
   rw [Store.set_set]
   exact hst _ _ l l1 b hb hfit.1 hrun rfl rfl rfl ⟨zE, it 0, it 0, by rw [Store.set_eq S hx0, Store.set_eq S ha0, Store.set_eq S he0], rfl⟩
end
end Go.Av.Fn
/- Whether a text is an expression's, and a command right. Conditions: the library's functions (LibOk, ParseOk), and what three variables hold. -/
namespace Go.Av.Fn
set_option linter.unusedSimpArgs false
set_option linter.unusedVariables false
set_option maxRecDepth 10000
open Go.Proofs
def zcw (s : List UInt8) : Option Ex × Int × Int :=
 if (zcK s).2.2 = 0 then (match (zcK s).1 with
  | some e => if zci e > 24 then (none, 0, 7) else (some e, 0, 0)
  | none => (none, 0, 0))
 else (none, (zcK s).2.1, (zcK s).2.2)
def zbD (s : List UInt8) : Bool := (zcw s).2.2 == 0 && decide (s.length ≤ 255)
def zaT (k n : Int) (s : List UInt8) : Bool :=
 if (decide (zaV k = za2) || (!(zaV k).n && n != 0) || (!(zaV k).s && !(s == [])) || decide (n < (zaV k).least) || decide (n > 4294967296)) = true then false
 else if (!(zaV k).s || ((zaV k).n && s == [])) = true then true
 else zbD s
theorem readS_size {s : List UInt8} {e : Ex} {x : Int × Int} (h : zcK s = (some e, x)) : za8 e ≤ 4097 := by
 unfold zcK at h
 split at h
 ·cases h
 ·rename_i l hl
  obtain ⟨p, hp, hsg, hfit⟩ := run_expr (scanR_good hl)
  have hlen := scanR_len hl
  unfold readT at h
  rw [hp] at h
  cases p with
  | ok es l1 =>
   obtain ⟨e2, rfl⟩ := hsg
   obtain ⟨tk, l2, rfl⟩ := hfit.1.ne
   have h3 := hfit.2.1
   simp only [sizes] at h3
   simp only at h
   split at h
   ·cases h; omega
   ·cases h
  | st l1 =>
   obtain ⟨tk, l2, rfl⟩ := hfit.1.ne
   cases h
theorem resV_c5tt {t : List V} {m : Store} {i j k a : Nat} {T1 : TypeId} {cs : List V} {u : V} (h1 : tget t i = .ptr a 0) (h2 : m a = some (.var T1 cs)) (h3 : zbC cs 0 (some 5) = some u) :
  resV [.cell i (some 5), .tmp j, .tmp k] ⟨t, m⟩ = some (.tup [u, tget t j, tget t k]) := by
 simp only [resV, zb8, zcf, za3, h1, h2, h3, Option.map_some]
theorem form_eq (xo yo : Operand) (x : Form) : binV Tryz.prog .eql 100 .other xo yo (.agg [bs x.w, it x.least, .val (.bool x.n), .val (.bool x.s)]) (.agg [.val (.string (ByteArray.mk #[])), .val (.int .i64 0), .val (.bool false), .val (.bool false)]) = some (.val (.bool (decide (x = za2)))) := by
 have h := (struct_eq (P := Tryz.prog) (T := 100) (xo := xo) (yo := yo) (cs := [bs x.w, it x.least, .val (.bool x.n), .val (.bool x.s)]) (cs' := [bs [], it 0, .val (.bool false), .val (.bool false)])
  (xs := [.string ⟨x.w.toArray⟩, .int .i64 x.least, .bool x.n, .bool x.s]) (ys := [.string ⟨([] : List UInt8).toArray⟩, .int .i64 0, .bool false, .bool false])
  (r := ((ByteArray.mk x.w.toArray).toList == (ByteArray.mk ([] : List UInt8).toArray).toList && (x.least == 0 && (x.n == false && (x.s == false && true)))))
  (by kernel_rfl) (by kernel_rfl) (by kernel_rfl) rfl rfl (by kernel_rfl)).1
 have e : ((ByteArray.mk x.w.toArray).toList == (ByteArray.mk ([] : List UInt8).toArray).toList && (x.least == 0 && (x.n == false && (x.s == false && true)))) = decide (x = za2) := by
  rw [zb3, zb3, zfF]
  obtain ⟨a, b, c, d⟩ := x
  simp [za2]
 rw [e] at h
 exact h
section
variable {Γ : Glob} {m : Store}
theorem sExpr_ok (E : Env Γ) (s : List UInt8) : zae Tryz.prog Γ 128 [bs s] m fun o m' => o = .ret (triV (zcw s)) ∧ m' = m := by
 refine zae.weak (R := fun o m' => ∃ v, o = .ret v ∧ weak v = triV (zcw s) ∧ m' = m) (zae.less (A := fun o m' => ∃ v, o = .ret v ∧ weak v = triV (zcw s) ∧ SubS m m') ?_ (fun o m' ⟨v, h1, h2, h3⟩ => ⟨m, h3, v, h1, h2, rfl⟩)) ?_ ?_
 rotate_left
 ·rintro v m' ⟨_, ⟨⟩, h, rfl⟩
  exact ⟨by rw [h], rfl⟩
 ·rintro v m' ⟨_, ⟨⟩, _⟩
 refine zad mixed F128_ok (by rintro v m b x _ ⟨_, ⟨⟩, _⟩) ?_
 simp only [F128, ss0, ze0, zeV]
 simp only [ssS, zeV, zeT, reduceIte, zeU]
 refine zao fun b2 hb2 => ?_
 simp only [ssS, zeV, zeT, reduceIte, zeU]
 refine zai (read_ok E s) ?_
 obtain ⟨k, s', n', kids, ln, hex, hsz, hO⟩ : ∃ k s' n' kids ln, exO (zcK s).1 = exV (.mk k s' n' kids ln) ∧ za8 (.mk k s' n' kids ln) ≤ 4097 ∧ ((zcK s).1 = some (.mk k s' n' kids ln) ∨ ((zcK s).1 = none ∧ Ex.mk k s' n' kids ln = .mk 0 [] 0 [] 0)) := by
  cases hr : (zcK s).1 with
  | none => exact ⟨0, [], 0, [], 0, rfl, by simp [za8, sizes], .inr ⟨rfl, rfl⟩⟩
  | some e =>
   have hs := readS_size (s := s) (e := e) (x := (zcK s).2) (by rw [← hr])
   obtain ⟨k, s', n', kids, ln⟩ := e
   exact ⟨k, s', n', kids, ln, rfl, hs, .inl rfl⟩
 simp only [triV, hex, exV, ssS, zeV, zeT, reduceIte, zeU]
 refine zao fun b5 hb5 => ?_
 have h25 : b2 ≠ b5 := zal (Store.set_same _ _ _) hb5
 have hS : ∀ x y z, SubS m (((m.set b2 x).set b5 y).set b2 z) := fun x y z => (((SubS.refl m).out hb2 _).out (by rw [Store.set_ne _ _ h25.symm] at hb5; exact hb5) _).out hb2 _
 simp only [Store.set_same, Store.set_set, ssS, zeV, zeT, reduceIte, zeU]
 cases hne : ((zcK s).2.2 != 0)
 ·have h0 : (zcK s).2.2 = 0 := by simpa using hne
  simp only [Store.set_same, ssS, zeV, zeT, reduceIte, zeU]
  refine zai (depth_ok 4097 (.mk k s' n' kids ln) _ hsz (by omega)) ?_
  simp only [ssS, zeV, zeT, reduceIte, zeU]
  refine zaj (fun hc => ?_) (fun hc => ?_)
  ·have hd : zci (.mk k s' n' kids ln) > 24 := by have := of_decide_eq_true hc; omega
   simp only [Store.set_ne _ _ h25, Store.set_same, ssS, zeV, zeT, reduceIte, zeU]
   refine zah (resV_c5tt (T1 := 170) (a := b2) (cs := zE) (u := .agg zE) rfl (Store.set_same _ _ _) rfl) ⟨_, rfl, ?_, hS _ _ _⟩
   rcases hO with h1 | ⟨h1, h2⟩
   ·simp only [zcw, h0, if_true, h1, if_pos hd, exO, exV, exVs, weak, zaL]
    rfl
   ·rw [h2] at hd
    simp [zci, depths] at hd
  ·have hd : ¬ zci (.mk k s' n' kids ln) > 24 := by have := of_decide_eq_false hc; omega
   simp only [Store.set_ne _ _ h25, Store.set_same, ssS, zeV, zeT, reduceIte, zeU]
   refine zah (resV_c5tt (T1 := 170) (a := b2) (cs := [it k, bs s', it n', .sl (exVs kids) [] .no, it ln]) (u := .agg [it k, bs s', it n', .sl (exVs kids) [] .no, it ln]) rfl (Store.set_same _ _ _) rfl) ⟨_, rfl, ?_, hS _ _ _⟩
   rcases hO with h1 | ⟨h1, h2⟩
   ·simp only [zcw, h0, if_true, h1, if_neg hd, exO, exV, exVs, weak, zaL, zaI, bs]
    rfl
   ·cases h2
    simp only [zcw, h0, if_true, h1, exO, exV, exVs, weak, zaL, bs]
    rfl
 ·have h0 : ¬ (zcK s).2.2 = 0 := by simpa using hne
  simp only [Store.set_ne _ _ h25, Store.set_same, ssS, zeV, zeT, reduceIte, zeU]
  refine zah (resV_c5tt (T1 := 170) (a := b2) (cs := zE) (u := .agg zE) rfl (Store.set_same _ _ _) rfl) ⟨_, rfl, ?_, hS _ _ _⟩
  simp only [zcw, h0, if_false, exO, exV, exVs, weak, zaL]
  rfl
theorem written_ok (E : Env Γ) (s : List UInt8) : zae Tryz.prog Γ 103 [bs s] m fun o m' => o = .ret (.val (.bool (zbD s))) ∧ m' = m := by
 refine zae.less (A := fun o m' => o = .ret (.val (.bool (zbD s))) ∧ SubS m m') ?_ fun o m' h => ⟨m, h.2, h.1, rfl⟩
 refine zad mixed F103_ok (by rintro v m b x _ ⟨⟨⟩, _⟩) ?_
 simp only [F103, ss0, ze0, zeV]
 simp only [ssS, zeV, zeT, reduceIte, zeU]
 refine zai (sExpr_ok E s) ?_
 obtain ⟨k, s', n', kids, ln, hex⟩ : ∃ k s' n' kids ln, exO (zcw s).1 = exV (.mk k s' n' kids ln) := by
  cases (zcw s).1 with
  | none => exact ⟨0, [], 0, [], 0, rfl⟩
  | some e => obtain ⟨k, s', n', kids, ln⟩ := e; exact ⟨k, s', n', kids, ln, rfl⟩
 simp only [triV, hex, exV, ssS, zeV, zeT, reduceIte, zeU]
 refine zao fun b3 hb3 => ?_
 simp only [Store.set_same, Store.set_set, ssS, zeV, zeT, reduceIte, zeU]
 have hl : decide ((s.length : Int) ≤ 255) = decide (s.length ≤ 255) := by
  rw [decide_eq_decide]
  omega
 cases h0 : ((zcw s).2.2 == 0)
 ·simp only [zcr, ssS, zeV, zeT, reduceIte, zeU]
  refine zah zac ⟨?_, (SubS.refl m).out hb3 _⟩
  simp only [zaa, zab, zbD, h0]
  rfl
 ·simp only [zcr, hl, ssS, zeV, zeT, reduceIte, zeU]
  refine zah zac ⟨?_, (SubS.refl m).out hb3 _⟩
  simp only [zaa, zab, zbD, h0]
  rfl
end
end Go.Av.Fn
