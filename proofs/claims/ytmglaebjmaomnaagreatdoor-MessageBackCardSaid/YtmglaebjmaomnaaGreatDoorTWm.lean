/- Numbers as bytes: shifts, folds and unfolds as the program computes them; the number that bytes begin with. No condition. -/
import Derived.Lib.VarintBits
import Derived.Lib.VarintDec
import Derived.Lib.Zigzag
import Derived.Test.YtmglaebjmaomnaaGreatDoorFn1
open Bool renaming and_eq_true → ze1, false_eq_true → zeX
open Int renaming fdiv_eq_ediv_of_nonneg → zfw
open List renaming length_cons → zeV, cons_append → ze2, take_succ_cons → zfF
open Nat renaming reduceAdd → zeQ, reduceSub → zeW, le_refl → zfq, reduceLeDiff → zeO, reduceEqDiff → zeP
namespace Go.Av
open Go.Lib
set_option linter.unusedSimpArgs false
set_option linter.unusedVariables false
section
variable {P : Program} {T : TypeId} {xo yo : Operand} {k yk : IntKind} {a b : Int}
theorem bin_shl (h : 0 ≤ b) : binV P .shl T .other xo yo (.val (.int k a)) (.val (.int yk b)) = some (.val (.int k (k.wrap (a * 2 ^ (min b.toNat k.bits))))) := by
 simp [binV,zbZ,zaM,raw,eqGuard,binOp,zaw,Op.shift,zbn,pure,bind,Sem.bind,h,Int.not_lt.2 h]
theorem bin_shr (h : 0 ≤ b) : binV P .shr T .other xo yo (.val (.int k a)) (.val (.int yk b)) = some (.val (.int k (a.fdiv (2 ^ (min b.toNat k.bits))))) := by
 simp [binV,zbZ,zaM,raw,eqGuard,binOp,zaw,Op.shift,zbn,pure,bind,Sem.bind,h,Int.not_lt.2 h]
theorem bin_xorb : binV P .xor T .other xo yo (.val (.int k a)) (.val (.int k b)) = some (.val (.int k (bits .xor k a b))) := by
 simp [binV,zbZ,zaM,raw,eqGuard,binOp,zaw,Op.intBits,zbn,pure,bind,Sem.bind,bits]
theorem bin_orb : binV P .or T .other xo yo (.val (.int k a)) (.val (.int k b)) = some (.val (.int k (bits .or k a b))) := by
 simp [binV,zbZ,zaM,raw,eqGuard,binOp,zaw,Op.intBits,zbn,pure,bind,Sem.bind,bits]
theorem bin_andb : binV P .and T .other xo yo (.val (.int k a)) (.val (.int k b)) = some (.val (.int k (bits .and k a b))) := by
 simp [binV,zbZ,zaM,raw,eqGuard,binOp,zaw,Op.intBits,zbn,pure,bind,Sem.bind,bits]
end
section
variable {P : Program} {Γ : Glob} {Kp : V → Store → Prop} {l : List Item} {K : St → Prop} {t : List V} {m m' : Store} {d : Option Tmp} {s : List (Tmp × Option (Tmp × Bool) × AOp)}
theorem appS_bufs {e : TypeId} {bytes : Nat} {v x : V} {es ys : List V} (h : Buf e 1 m m' v es) (hx : extra m' 1 x = some ys) (hy : zdz 1 ys) (hl : (es.length + ys.length) * bytes ≤ 140737488355328)
  (hk : ∀ m2 v2,Buf e 1 m m2 v2 (es ++ ys) → zbY P Γ Kp s l K (putO t m2 d (some v2))) : appS P Γ Kp e bytes 1 v x d s l K t m' := by
 have hsz : szOk 1 (es ++ ys) = true := by
  have := h.1
  simp only [szOk,List.all_append,ze1] at this ⊢
  refine ⟨this,List.all_eq_true.2 fun y hyy => ?_⟩
  simp [(hy y hyy).1]
 obtain ⟨tok,hv⟩ := h.val
 have hb := h
 rcases h.2 with ⟨rfl,rfl,rfl⟩ | ⟨hne,b,k,hbn,rfl,rfl⟩
 ·simp only [appS,opE,hx]
  refine ⟨fun e0 => ?_,fun e0 => ⟨rfl,hy,.inl (by simpa using hl),trivial,fun b hb => ?_⟩⟩
  ·subst e0
   exact hk _ _ ⟨rfl,.inl ⟨rfl,rfl,rfl⟩⟩
  ·exact hk _ _ ⟨hsz,.inr ⟨by simpa using e0,b,0,hb,rfl,rfl⟩⟩
 ·simp only [appS,opE,hx]
  refine ⟨fun e0 => ?_,fun e0 => ⟨h.1,hy,.inl hl,trivial,hne,Store.set_same _ _ _,?_⟩⟩
  ·subst e0
   exact hk _ _ (by rw [List.append_nil]; exact hb)
  ·rw [Store.set_set]
   exact hk _ _ ⟨hsz,.inr ⟨by simp [hne],b,k + 1,hbn,rfl,rfl⟩⟩
theorem elemsOk_by8 (l : List UInt8) : zdz 1 (l.map by8) := by
 intro y hy
 obtain ⟨b,_,rfl⟩ := List.mem_map.1 hy
 exact ⟨rfl,fun c hc => by simp only [V.cells,List.mem_singleton] at hc; subst hc; rfl⟩
theorem extra_bs {m : Store} (l : List UInt8) : extra m 1 (bs l) = some (l.map by8) := by
 simp [extra,bs,bytesV]
end
def I64 (n : Int) : Prop := -9223372036854775808 ≤ n ∧ n < 9223372036854775808
theorem fold_eq {n : Int} (h : I64 n) : bits .xor .u64 (IntKind.u64.wrap (IntKind.u64.wrap n * 2 ^ (min (Int.toNat 1) IntKind.u64.bits))) (IntKind.u64.wrap (n.fdiv (2 ^ (min (Int.toNat 63) IntKind.i64.bits)))) = (zigzag n : Int) := by
 obtain ⟨h1,h2⟩ := h
 have e1 : min (Int.toNat 1) IntKind.u64.bits = 1 := by decide
 have e2 : min (Int.toNat 63) IntKind.i64.bits = 63 := by decide
 rw [e1,e2,IntKind.wrap_u64,IntKind.wrap_u64,IntKind.wrap_u64]
 by_cases hn : 0 ≤ n
 ·have e3 : n.fdiv (2 ^ 63) = 0 := by
   rw [zfw _ (by decide)]
   exact Int.ediv_eq_zero_of_lt hn (by omega)
  rw [e3]
  have e4 : n % 18446744073709551616 * 2 ^ 1 % 18446744073709551616 = ((2 * n.toNat : Nat) : Int) := by omega
  rw [e4,show (0 : Int) % 18446744073709551616 = ((0 : Nat) : Int) from rfl,bits_xor_u64_nat _ _ (by omega) (by decide),Nat.xor_zero]
  unfold zigzag
  rw [if_pos hn]
  omega
 ·have e3 : n.fdiv (2 ^ 63) = -1 := by
   rw [zfw _ (by decide)]
   omega
  rw [e3]
  have e4 : n % 18446744073709551616 * 2 ^ 1 % 18446744073709551616 = (((2 * n + 18446744073709551616).toNat : Nat) : Int) := by omega
  have e5 : (-1 : Int) % 18446744073709551616 = ((2 ^ 64 - 1 : Nat) : Int) := by decide
  rw [e4,e5,bits_xor_u64_nat _ _ (by omega) (by decide),Nat.xor_comm,xor_ones64 _ (by omega)]
  unfold zigzag
  rw [if_neg hn]
  omega
theorem zigzag_u64 {n : Int} (h : I64 n) : zigzag n < 18446744073709551616 := zigzag_lt h.1 (by have := h.2; omega)
theorem unzigzag_i64 {u : Nat} (h : u < 18446744073709551616) : I64 (unzigzag u) := by
 unfold unzigzag I64
 split <;> omega
theorem unzigzag_zigzag (n : Int) : unzigzag (zigzag n) = n := by
 unfold unzigzag zigzag
 split <;> split <;> omega
theorem zigzag_unzigzag (u : Nat) : zigzag (unzigzag u) = u := by
 unfold unzigzag zigzag
 split <;> split <;> omega
theorem i64_notneg (x : Nat) (hx : x < 9223372036854775808) : bits .xor .i64 (x : Int) (-1) = -(x : Int) - 1 := by
 have h := i64_not x hx
 show IntKind.i64.wrap ((BitVec.ofInt 64 (x : Int) ^^^ BitVec.ofInt 64 (-1)).toNat : Int) = _
 rw [BitVec.xor_comm]
 exact h
theorem i64_xor0 (x : Nat) (hx : x < 9223372036854775808) : bits .xor .i64 (x : Int) 0 = (x : Int) := by
 show IntKind.i64.wrap ((BitVec.ofInt 64 (x : Int) ^^^ BitVec.ofInt 64 0).toNat : Int) = _
 have h1 : (BitVec.ofInt 64 (0 : Int)) = 0#64 := by decide
 have h2 : (BitVec.ofInt 64 (x : Int)).toNat = x := by
  rw [BitVec.ofInt_natCast,BitVec.toNat_ofNat]; exact Nat.mod_eq_of_lt (by omega)
 rw [h1,BitVec.xor_zero,h2,wrap_i64 (by omega) (by omega)]
theorem unfold_eq {u : Nat} (h : u < 18446744073709551616) : bits .xor .i64 (IntKind.i64.wrap ((u : Int).fdiv (2 ^ (min (Int.toNat 1) IntKind.u64.bits)))) (IntKind.i64.wrap (0 - IntKind.i64.wrap (bits .and .u64 (u : Int) 1))) = unzigzag u := by
 have e1 : min (Int.toNat 1) IntKind.u64.bits = 1 := by decide
 rw [e1,u64_and1 _ (by omega) (by omega)]
 have e3 : (u : Int).fdiv (2 ^ 1) = ((u / 2 : Nat) : Int) := by
  rw [zfw _ (by decide)]
  omega
 rw [e3,wrap_i64 (n := ((u / 2 : Nat) : Int)) (by omega) (by omega),wrap_i64 (n := (u : Int) % 2) (by omega) (by omega),wrap_i64 (by omega) (by omega)]
 unfold unzigzag
 by_cases hu : u % 2 = 0
 ·rw [if_pos hu,show (0 : Int) - (u : Int) % 2 = 0 by omega,i64_xor0 _ (by omega)]
 ·rw [if_neg hu,show (0 : Int) - (u : Int) % 2 = -1 by omega,i64_notneg _ (by omega)]
theorem or128 (f : Nat) : bits .or .u8 (IntKind.u8.wrap (f : Int)) 128 = ((f % 128 + 128 : Nat) : Int) := by
 rw [IntKind.wrap_u8,u8_or128_any _ (by omega) (by omega)]
 omega
theorem by8_big (f : Nat) : V.val (.int .u8 ((f % 128 + 128 : Nat) : Int)) = by8 (f % 128 + 128).toUInt8 := by
 have : (f % 128 + 128).toUInt8.toNat = f % 128 + 128 := by
  show (UInt8.ofNat _).toNat = _
  rw [UInt8.toNat_ofNat']
  omega
 rw [by8,this]
theorem by8_small {f : Nat} (h : f < 128) : V.val (.int .u8 (IntKind.u8.wrap (f : Int))) = by8 f.toUInt8 := by
 have : f.toUInt8.toNat = f := by
  show (UInt8.ofNat _).toNat = _
  rw [UInt8.toNat_ofNat']
  omega
 rw [by8,this,IntKind.wrap_u8]
 congr 2
 omega
theorem shr7 (f : Nat) : (f : Int).fdiv (2 ^ (min (Int.toNat 7) IntKind.u64.bits)) = ((f / 128 : Nat) : Int) := by
 have e1 : min (Int.toNat 7) IntKind.u64.bits = 7 := by decide
 rw [e1,zfw _ (by decide)]
 omega
end Go.Av
/- Sums of bytes over 32 bits, az numbers: a bit's step az the program, and az the document, computes it. No condition. -/
namespace Go.Av.Fn
set_option linter.unusedSimpArgs false
set_option linter.unusedVariables false
def u32 (n : Nat) : V := .val (.int .u32 n)
def bitN (c : Nat) : Nat := if c % 2 = 1 then (c / 2) ^^^ 3988292384 else c / 2
def bitsN : Nat → Nat → Nat
 | 0,c => c
 | k + 1,c => bitN (bitsN k c)
def byteN (c : Nat) (b : UInt8) : Nat := bitsN 8 (c ^^^ b.toNat)
def sumN (c : Nat) (l : List UInt8) : Nat := l.foldl byteN c
def moreN (n : Nat) (l : List UInt8) : Nat := 4294967295 - sumN (4294967295 - n) l
def crcN (l : List UInt8) : Nat := moreN 0 l
def le4 (n : Nat) : List UInt8 := [n.toUInt8,(n / 256).toUInt8,(n / 65536).toUInt8,(n / 16777216).toUInt8]
theorem bitN_lt {c : Nat} (h : c < 4294967296) : bitN c < 4294967296 := by
 unfold bitN
 split
 ·exact Nat.xor_lt_two_pow (n := 32) (by omega) (by omega)
 ·omega
theorem bitsN_lt {c : Nat} (h : c < 4294967296) (k : Nat) : bitsN k c < 4294967296 := by
 induction k with
 | zero => exact h
 | succ k ih => exact bitN_lt ih
theorem byteN_lt {c : Nat} (h : c < 4294967296) (b : UInt8) : byteN c b < 4294967296 := bitsN_lt (Nat.xor_lt_two_pow (n := 32) (by omega) (by have := b.toNat_lt; omega)) 8
theorem sumN_lt {c : Nat} (h : c < 4294967296) (l : List UInt8) : sumN c l < 4294967296 := by
 induction l generalizing c with
 | nil => exact h
 | cons b l ih => exact ih (byteN_lt h b)
theorem sumN_app (c : Nat) (a b : List UInt8) : sumN c (a ++ b) = sumN (sumN c a) b := List.foldl_append
theorem moreN_lt {n : Nat} (l : List UInt8) : moreN n l < 4294967296 := by unfold moreN; omega
theorem moreN_app (n : Nat) (a b : List UInt8) : moreN (moreN n a) b = moreN n (a ++ b) := by
 have h := sumN_lt (c := 4294967295 - n) (by omega) a
 unfold moreN
 rw [show 4294967295 - (4294967295 - sumN (4294967295 - n) a) = sumN (4294967295 - n) a by omega,sumN_app]
theorem wrap32 (n : Int) : IntKind.u32.wrap n = n % 4294967296 := by simp [IntKind.wrap,IntKind.bits,IntKind.signed]
theorem ofInt32 {a : Nat} (h : a < 4294967296) : (BitVec.ofInt 32 (a : Int)).toNat = a := by
 rw [BitVec.ofInt_natCast,BitVec.toNat_ofNat]; exact Nat.mod_eq_of_lt (by omega)
theorem xor32 {a b : Nat} (ha : a < 4294967296) (hb : b < 4294967296) : bits .xor .u32 (a : Int) (b : Int) = ((a ^^^ b : Nat) : Int) := by
 have hx : a ^^^ b < 2 ^ 32 := Nat.xor_lt_two_pow (by omega) (by omega)
 show IntKind.u32.wrap ((BitVec.ofInt 32 (a : Int) ^^^ BitVec.ofInt 32 (b : Int)).toNat : Int) = _
 rw [BitVec.toNat_xor,ofInt32 ha,ofInt32 hb,wrap32]
 omega
theorem and32 {a b : Nat} (ha : a < 4294967296) (hb : b < 4294967296) : bits .and .u32 (a : Int) (b : Int) = ((a &&& b : Nat) : Int) := by
 have hx : a &&& b < 2 ^ 32 := Nat.and_lt_two_pow _ (by omega)
 show IntKind.u32.wrap ((BitVec.ofInt 32 (a : Int) &&& BitVec.ofInt 32 (b : Int)).toNat : Int) = _
 rw [BitVec.toNat_and,ofInt32 ha,ofInt32 hb,wrap32]
 omega
section
variable {P : Program} {T : TypeId} {xo yo : Operand} {yk : IntKind} {a b : Nat}
theorem u32_xor (ha : a < 4294967296) (hb : b < 4294967296) : binV P .xor T .other xo yo (u32 a) (u32 b) = some (u32 (a ^^^ b)) := by
 rw [u32,u32,bin_xorb,xor32 ha hb]; rfl
theorem u32_and (ha : a < 4294967296) (hb : b < 4294967296) : binV P .and T .other xo yo (u32 a) (u32 b) = some (u32 (a &&& b)) := by
 rw [u32,u32,bin_andb,and32 ha hb]; rfl
theorem u32_not (ha : a < 4294967296) : unV P .xor (u32 a) = some (u32 (4294967295 - a)) := by
 have e : bits .xor .u32 (4294967295 : Int) (a : Int) = ((4294967295 - a : Nat) : Int) := by
  have := xor32 (a := 4294967295) (b := a) (by decide) ha
  rw [show ((4294967295 : Nat) : Int) = 4294967295 from rfl] at this
  rw [this]
  have h2 := Nat.xor_comm a 4294967295
  rw [← h2,show (4294967295 : Nat) = 2 ^ 32 - 1 from rfl]
  have : a ^^^ (2 ^ 32 - 1) = 2 ^ 32 - 1 - a := by
   apply Nat.eq_of_testBit_eq
   intro i
   rw [Nat.testBit_xor,Nat.testBit_two_pow_sub_one,show 2 ^ 32 - 1 - a = 2 ^ 32 - (a + 1) by omega,Nat.testBit_two_pow_sub_succ (by omega)]
   by_cases hi : i < 32
   ·simp [hi]
   ·have : a.testBit i = false := Nat.testBit_lt_two_pow (Nat.lt_of_lt_of_le (show a < 2 ^ 32 by omega) (Nat.pow_le_pow_right (by decide) (by omega)))
    simp [hi,this]
  rw [this]
 show (match zaw P (Op.unary .xor (.int .u32 a)) with | some v => if zbn v then some (V.val v) else none | none => none) = _
 have e2 : Op.unary .xor (.int .u32 (a : Int)) = pure (.int .u32 (bits .xor .u32 (4294967295 : Int) (a : Int))) := rfl
 rw [e2,e]
 rfl
theorem u32_shr1 : binV P .shr T .other xo yo (u32 a) (.val (.int yk 1)) = some (u32 (a / 2)) := by
 rw [u32,bin_shr (by decide)]
 show some (V.val (.int .u32 ((a : Int).fdiv 2))) = _
 rw [zfw _ (by decide)]
 rfl
theorem u32_neg1 : unV P .neg (u32 (a &&& 1)) = some (u32 (if a % 2 = 1 then 4294967295 else 0)) := by
 rw [u32,unV_neg,wrap32,Nat.and_one_is_mod]
 rcases Nat.mod_two_eq_zero_or_one a with h | h <;> rw [h] <;> rfl
theorem bitN_eq : (a / 2) ^^^ ((if a % 2 = 1 then 4294967295 else 0) &&& 3988292384) = bitN a := by
 unfold bitN
 split
 ·rfl
 ·rw [Nat.zero_and,Nat.xor_zero]
end
theorem le4_b0 (n : Nat) : V.val (.int .u8 (IntKind.u8.wrap (n : Int))) = by8 n.toUInt8 := by
 rw [by8,IntKind.wrap_u8,show n.toUInt8.toNat = n % 256 from UInt8.toNat_ofNat' ..]
 rfl
end Go.Av.Fn
/- The number that bytes begin with: plain laws. No condition. -/
namespace Go.Av
open Go.Lib
set_option linter.unusedSimpArgs false
set_option linter.unusedVariables false
def zcm : Nat → Nat → List UInt8 → Int × Nat × Int
 | _,_,[] => (0,0,3)
 | i,f,c :: s => if i = 9 ∧ c.toNat ≠ 1 then (0,0,4)
  else if 128 ≤ c.toNat then zcm (i + 1) (f + c.toNat % 128 * 2 ^ (7 * i)) s
  else if c.toNat = 0 ∧ 0 < i then (0,0,4)
  else (unzigzag (f + c.toNat % 128 * 2 ^ (7 * i)),i + 1,0)
def numL (s : List UInt8) : Int × Nat × Int := zcm 0 0 s
theorem tens {i : Nat} (h : i ≤ 9) : i = 0 ∨ i = 1 ∨ i = 2 ∨ i = 3 ∨ i = 4 ∨ i = 5 ∨ i = 6 ∨ i = 7 ∨ i = 8 ∨ i = 9 := by omega
theorem num_shl {i c : Nat} (hi : i ≤ 9) (hc : c < 256) (h9 : i = 9 → c = 1) : IntKind.u64.wrap (((c % 128 : Nat) : Int) * 2 ^ (min (Int.toNat ((7 * i : Nat) : Int)) IntKind.u64.bits)) = ((c % 128 * 2 ^ (7 * i) : Nat) : Int) := by
 rw [IntKind.wrap_u64,Int.toNat_natCast]
 have e : min (7 * i) IntKind.u64.bits = 7 * i := by
  show min (7 * i) 64 = 7 * i
  omega
 rw [e]
 rcases tens hi with rfl | rfl | rfl | rfl | rfl | rfl | rfl | rfl | rfl | rfl <;> simp only [Nat.reduceMul,Int.reducePow,Nat.reducePow] <;> omega
theorem num_or {i c f : Nat} (hi : i ≤ 9) (hc : c < 256) (h9 : i = 9 → c = 1) (hf : f < 2 ^ (7 * i)) : bits .or .u64 (f : Int) ((c % 128 * 2 ^ (7 * i) : Nat) : Int) = ((f + c % 128 * 2 ^ (7 * i) : Nat) : Int) := by
 rcases tens hi with rfl | rfl | rfl | rfl | rfl | rfl | rfl | rfl | rfl | rfl <;> simp only [Nat.reduceMul,Nat.reducePow] at hf ⊢
 ·rw [u64_orv0 _ _ (by omega) (by omega) (by omega) (by omega) (by omega)]; omega
 ·rw [u64_orv7 _ _ (by omega) (by omega) (by omega) (by omega) (by omega)]; omega
 ·rw [u64_orv14 _ _ (by omega) (by omega) (by omega) (by omega) (by omega)]; omega
 ·rw [u64_orv21 _ _ (by omega) (by omega) (by omega) (by omega) (by omega)]; omega
 ·rw [u64_orv28 _ _ (by omega) (by omega) (by omega) (by omega) (by omega)]; omega
 ·rw [u64_orv35 _ _ (by omega) (by omega) (by omega) (by omega) (by omega)]; omega
 ·rw [u64_orv42 _ _ (by omega) (by omega) (by omega) (by omega) (by omega)]; omega
 ·rw [u64_orv49 _ _ (by omega) (by omega) (by omega) (by omega) (by omega)]; omega
 ·rw [u64_orv56 _ _ (by omega) (by omega) (by omega) (by omega) (by omega)]; omega
 ·rw [u64_orv63 _ _ (by omega) (by omega) (by omega) (by omega) (by omega)]; omega
theorem num_lt {i c f : Nat} (hi : i ≤ 9) (hc : c < 256) (h9 : i = 9 → c = 1) (hf : f < 2 ^ (7 * i)) : f + c % 128 * 2 ^ (7 * i) < 18446744073709551616 ∧ (i ≤ 8 → f + c % 128 * 2 ^ (7 * i) < 2 ^ (7 * (i + 1))) := by
 rcases tens hi with rfl | rfl | rfl | rfl | rfl | rfl | rfl | rfl | rfl | rfl <;> simp only [Nat.reduceMul,Nat.reducePow,zeQ] at hf ⊢ <;> omega
theorem and127 {c : Nat} (h : c < 256) : bits .and .u8 (c : Int) 127 = ((c % 128 : Nat) : Int) := by
 rw [u8_and127 _ (by omega) (by omega)]
 omega
theorem and128_all : ∀ n : Fin 256,(bits .and .u8 (n.val : Int) 128 != 0) = decide (128 ≤ n.val) := by decide +kernel
theorem and128 {c : Nat} (h : c < 256) : (bits .and .u8 (c : Int) 128 != 0) = decide (128 ≤ c) := and128_all ⟨c,h⟩
theorem numGo_le : ∀ (s : List UInt8) (i f : Nat),i ≤ 9 → (zcm i f s).2.1 ≤ i + s.length
 | [],i,f,_ => by simp [zcm]
 | c :: s,i,f,hi => by
  unfold zcm
  split
  ·simp
  ·split
   ·rename_i h1 h2
    have h9 : i ≤ 8 := by omega
    have := numGo_le s (i + 1) (f + c.toNat % 128 * 2 ^ (7 * i)) (by omega)
    simp only [zeV]
    omega
   ·split
    ·simp
    ·simp only [zeV]
     omega
theorem numL_le (s : List UInt8) : (numL s).2.1 ≤ s.length := by
 have := numGo_le s 0 0 (by omega)
 unfold numL
 omega
theorem numGo_put : ∀ (k u i f : Nat) (r : List UInt8),u < 2 ^ (64 - 7 * i) → u < 128 ^ (k + 1) → (0 < i → 0 < u) → i + k ≤ 9 → zcm i f (uvarint u ++ r) = (unzigzag (f + u * 2 ^ (7 * i)),i + (uvarint u).length,0)
 | k,u,i,f,r,hu,hk,hp,hi => by
  have hi9 : i ≤ 9 := by omega
  have h9 : i = 9 → u < 2 := by
   rintro rfl
   simpa using hu
  by_cases hs : u < 128
  ·rw [uvarint_small hs]
   have e : u.toUInt8.toNat = u := by
    show (UInt8.ofNat _).toNat = _
    rw [UInt8.toNat_ofNat']
    omega
   simp only [ze2,List.nil_append,zcm,e,List.length_singleton]
   rw [if_neg (by intro ⟨a,b⟩; have := h9 a; have := hp (by omega); omega),if_neg (by omega),if_neg (by intro ⟨a,b⟩; have := hp b; omega),Nat.mod_eq_of_lt hs]
  ·rw [uvarint_big (by omega)]
   have e : (u % 128 + 128).toUInt8.toNat = u % 128 + 128 := by
    show (UInt8.ofNat _).toNat = _
    rw [UInt8.toNat_ofNat']
    omega
   simp only [ze2,zcm,e]
   have h8 : i ≤ 8 := by
    rcases Nat.lt_or_ge i 9 with h | h
    ·omega
    ·have := h9 (by omega); omega
   rw [if_neg (by omega),if_pos (by omega)]
   cases k with
   | zero => simp at hk; omega
   | succ k =>
    have hu' : u / 128 < 2 ^ (64 - 7 * (i + 1)) := by
     have : i = 0 ∨ i = 1 ∨ i = 2 ∨ i = 3 ∨ i = 4 ∨ i = 5 ∨ i = 6 ∨ i = 7 ∨ i = 8 := by omega
     rcases this with rfl | rfl | rfl | rfl | rfl | rfl | rfl | rfl | rfl <;> simp only [Nat.reduceMul,zeW,Nat.reducePow,zeQ] at hu ⊢ <;> omega
    rw [numGo_put k (u / 128) (i + 1) _ r hu' (by rw [Nat.pow_succ] at hk; exact Nat.div_lt_of_lt_mul (by rw [Nat.mul_comm]; exact hk)) (by omega) (by omega)]
    have e3 : f + (u % 128 + 128) % 128 * 2 ^ (7 * i) + u / 128 * 2 ^ (7 * (i + 1)) = f + u * 2 ^ (7 * i) := by
     have e4 : 2 ^ (7 * (i + 1)) = 128 * 2 ^ (7 * i) := by
      rw [show 7 * (i + 1) = 7 + 7 * i by omega,Nat.pow_add]
     rw [e4]
     generalize 2 ^ (7 * i) = p
     have e5 : (u % 128 + 128) % 128 = u % 128 := by omega
     rw [e5]
     have e6 : u = 128 * (u / 128) + u % 128 := by omega
     generalize u / 128 = q at e6 ⊢
     generalize u % 128 = r' at e6 ⊢
     subst e6
     rw [Nat.add_mul,Nat.mul_comm 128 q,Nat.mul_assoc]
     omega
    rw [e3]
    simp only [zeV]
    refine Prod.ext rfl (Prod.ext ?_ rfl)
    simp only
    omega
theorem numL_put {n : Int} (h : I64 n) (r : List UInt8) : numL (uvarint (zigzag n) ++ r) = (n,(uvarint (zigzag n)).length,0) := by
 unfold numL
 have hz := zigzag_u64 h
 rw [numGo_put 9 _ 0 0 r (by simpa using hz) (Nat.lt_of_lt_of_le hz (by decide)) (by omega) (by omega)]
 simp [unzigzag_zigzag]
theorem numGo_i64 : ∀ (s : List UInt8) (i f : Nat),i ≤ 9 → f < 2 ^ (7 * i) → I64 (zcm i f s).1
 | [],i,f,_,_ => by simp [zcm,I64]
 | c :: s,i,f,hi,hf => by
  unfold zcm
  have hc : c.toNat < 256 := c.toNat_lt
  split
  ·simp [I64]
  ·rename_i h1
   have h9 : i = 9 → c.toNat = 1 := by omega
   have hl := num_lt hi hc h9 hf
   split
   ·rename_i h2
    exact numGo_i64 s (i + 1) _ (by omega) (hl.2 (by omega))
   ·split
    ·simp [I64]
    ·exact unzigzag_i64 hl.1
theorem numL_i64 (s : List UInt8) : I64 (numL s).1 := numGo_i64 s 0 0 (by omega) (by decide)
end Go.Av
/- Numbers that are read stand in their one form; what is in a frame: plain laws. No condition. -/
namespace Go.Av
open Go.Lib
set_option linter.unusedSimpArgs false
set_option linter.unusedVariables false
theorem toU8_of {c : UInt8} {n : Nat} (h : n % 256 = c.toNat) : n.toUInt8 = c := by
 apply UInt8.toNat_inj.1
 show (UInt8.ofNat n).toNat = _
 rw [UInt8.toNat_ofNat']
 omega
theorem numGo_take : ∀ (s : List UInt8) (i f k : Nat),i ≤ 9 → 10 ≤ i + k → zcm i f (s.take k) = zcm i f s
 | [],i,f,k,_,_ => by rw [List.take_nil]
 | c :: s,i,f,0,h1,h2 => by omega
 | c :: s,i,f,k + 1,h1,h2 => by
  rw [zfF,zcm,zcm]
  split
  ·rfl
  ·rename_i h9
   split
   ·rw [numGo_take s (i + 1) _ k (by omega) (by omega)]
   ·rfl
theorem numL_take (s : List UInt8) {k : Nat} (h : 10 ≤ k) : numL (s.take k) = numL s := numGo_take s 0 0 k (by omega) (by omega)
theorem numGo_canon : ∀ (s : List UInt8) (i f u : Nat) (n : Int),i ≤ 9 → zcm i f s = (n,u,0) → ∃ v,i < u ∧ u - i ≤ s.length ∧ s.take (u - i) = uvarint v ∧ n = unzigzag (f + v * 2 ^ (7 * i)) ∧ v < 2 ^ (64 - 7 * i) ∧ (0 < i → 0 < v)
 | [],i,f,u,n,_,h => by simp [zcm] at h
 | c :: s,i,f,u,n,hi,h => by
  have hc := c.toNat_lt
  rw [zcm] at h
  split at h
  ·simp at h
  ·rename_i h9
   have h9' : i = 9 → c.toNat = 1 := fun e => by
    rcases Nat.decEq c.toNat 1 with k | k
    ·exact absurd ⟨e,k⟩ h9
    ·exact k
   split at h
   ·rename_i hb
    have h8 : i ≤ 8 := by
     rcases Nat.lt_or_ge i 9 with k | k
     ·omega
     ·have := h9' (by omega); omega
    obtain ⟨v,g1,g2,g3,g4,g5,g6⟩ := numGo_canon s (i + 1) _ u n (by omega) h
    have hv : v < 2 ^ (57 - 7 * i) := by
     rw [show 64 - 7 * (i + 1) = 57 - 7 * i by omega] at g5
     exact g5
    have hp : 2 ^ (64 - 7 * i) = 128 * 2 ^ (57 - 7 * i) := by
     rw [show 64 - 7 * i = 7 + (57 - 7 * i) by omega,Nat.pow_add]
    refine ⟨c.toNat - 128 + 128 * v,by omega,by simp only [zeV]; omega,?_,?_,?_,fun _ => by have := g6 (by omega); omega⟩
    ·obtain ⟨d,rfl⟩ : ∃ d,u = i + 1 + d := ⟨u - (i + 1),by omega⟩
     have hv0 := g6 (by omega)
     rw [show i + 1 + d - i = d + 1 by omega,zfF,uvarint_big (by omega),show (c.toNat - 128 + 128 * v) / 128 = v by omega,← g3,show i + 1 + d - (i + 1) = d by omega]
     rw [toU8_of (c := c) (by omega)]
    ·rw [g4]
     congr 1
     have e4 : 2 ^ (7 * (i + 1)) = 128 * 2 ^ (7 * i) := by
      rw [show 7 * (i + 1) = 7 + 7 * i by omega,Nat.pow_add]
     rw [e4,Nat.add_mul,show c.toNat % 128 = c.toNat - 128 by omega,Nat.add_assoc]
     congr 2
     rw [← Nat.mul_assoc,Nat.mul_comm v 128]
    ·rw [hp]
     omega
   ·split at h
    ·simp at h
    ·rename_i h1 h2
     simp only [Prod.mk.injEq,and_true] at h
     obtain ⟨rfl,rfl⟩ := h
     refine ⟨c.toNat,by omega,by simp only [zeV]; omega,?_,by rw [Nat.mod_eq_of_lt (by omega : c.toNat < 128)],?_,fun h => by omega⟩
     ·rw [show i + 1 - i = 1 by omega,zfF,List.take_zero,uvarint_small (by omega),toU8_of (c := c) (by omega)]
     ·rcases Nat.lt_or_ge i 9 with k | k
      ·have : 2 ^ 8 ≤ 2 ^ (64 - 7 * i) := Nat.pow_le_pow_right (by decide) (by omega)
       omega
      ·have e : i = 9 := by omega
       have := h9' e
       subst e
       omega
theorem numL_canon {s : List UInt8} {n : Int} {u : Nat} (h : numL s = (n,u,0)) : 0 < u ∧ u ≤ s.length ∧ s.take u = uvarint (zigzag n) ∧ I64 n := by
 obtain ⟨v,g1,g2,g3,g4,g5,_⟩ := numGo_canon s 0 0 u n (by omega) h
 simp only [Nat.sub_zero,Nat.zero_add,Nat.mul_zero,Nat.pow_zero,Nat.mul_one] at g2 g3 g4 g5
 subst g4
 exact ⟨g1,g2,by rw [g3,zigzag_unzigzag],unzigzag_i64 (by simpa using g5)⟩
end Go.Av
/- A token, in plain terms. No condition. -/
namespace Go.Av.Fn
set_option linter.unusedSimpArgs false
set_option linter.unusedVariables false
structure Tk where
 k : Int
 s : List UInt8
 n : Int
 l : Int
 a : Int
 deriving DecidableEq
def tkV (t : Tk) : V := .agg [it t.k,bs t.s,it t.n,it t.l,it t.a]
inductive Ex where
 | mk (k : Int) (s : List UInt8) (n : Int) (kids : List Ex) (l : Int)
def Ex.line : Ex → Int
 | .mk _ _ _ _ l => l
mutual
def exV : Ex → V
 | .mk k s n kids l => .agg [it k,bs s,it n,.sl (exVs kids) [] .no,it l]
def exVs : List Ex → List V
 | [] => []
 | e :: r => exV e :: exVs r
end
mutual
def zbr : Ex → Nat
 | .mk _ _ _ kids _ => sizes kids + 1
def sizes : List Ex → Nat
 | [] => 0
 | e :: r => zbr e + sizes r
end
mutual
def depthE : Ex → Nat
 | .mk _ _ _ kids _ => depths kids + 1
def depths : List Ex → Nat
 | [] => 0
 | e :: r => max (depthE e) (depths r)
end
theorem exVs_map : ∀ l : List Ex,exVs l = l.map exV
 | [] => rfl
 | e :: r => by rw [exVs,exVs_map r]; rfl
theorem exVs_append (a b : List Ex) : exVs (a ++ b) = exVs a ++ exVs b := by simp [exVs_map]
theorem exVs_length (l : List Ex) : (exVs l).length = l.length := by simp [exVs_map]
theorem sizes_append : ∀ (a b : List Ex),sizes (a ++ b) = sizes a + sizes b
 | [],b => by simp [sizes]
 | e :: r,b => by
  rw [ze2,sizes,sizes,sizes_append r b]
  omega
mutual
theorem depth_size : ∀ e : Ex,depthE e ≤ zbr e
 | .mk _ _ _ kids _ => by
  have := depths_sizes kids
  simp only [depthE,zbr]
  omega
theorem depths_sizes : ∀ l : List Ex,depths l ≤ sizes l
 | [] => by simp [depths]
 | e :: r => by
  have h1 := depth_size e
  have h2 := depths_sizes r
  simp only [depths,sizes]
  omega
end
theorem length_sizes : ∀ l : List Ex,l.length ≤ sizes l
 | [] => by simp
 | e :: r => by
  have h2 := length_sizes r
  have h1 : 1 ≤ zbr e := by
   cases e
   simp only [zbr]
   omega
  simp only [sizes,zeV]
  omega
theorem size_mem : ∀ {l : List Ex} {e : Ex},e ∈ l → zbr e ≤ sizes l
 | x :: r,e,h => by
  simp only [sizes]
  rcases List.mem_cons.1 h with rfl | h
  ·omega
  ·have := size_mem h
   omega
inductive PR where
 | ok (es : List Ex) (l : List Tk)
 | st (l : List Tk)
inductive Rule where
 | ex (line : Nat)
 | lp (line : Nat) (e : Ex)
 | un
 | po (e : Ex)
 | si
 | ro (out : List Ex)
def isS (s : List UInt8) (t : Tk) : Bool := (t.k == 4 || t.k == 5) && t.s == s
def level (s : List UInt8) : Int :=
 if s == [124,124] then 0
 else if s == [38,38] then 1
 else if s == [61,61] || s == [33,61] then 2
 else if s == [60] || (s == [60,61] || (s == [62] || s == [62,61])) then 3
 else if s == [43] || s == [45] then 4
 else if s == [42] || (s == [47] || s == [37]) then 5
 else -1
def bind1 (r : Option PR) (k : Ex → List Tk → Option PR) : Option PR := match r with
 | some (.ok [e] l) => k e l
 | some (.st l) => some (.st l)
 | _ => none
def bindL (r : Option PR) (k : List Ex → List Tk → Option PR) : Option PR := match r with
 | some (.ok es l) => k es l
 | some (.st l) => some (.st l)
 | none => none
def zcW (s : List UInt8) (l : List Tk) (k : List Tk → Option PR) : Option PR := match l with
 | t :: r => if isS s t = true then k r else some (.st l)
 | [] => none
def nameK (l : List Tk) (k : List UInt8 → List Tk → Option PR) : Option PR := match l with
 | t :: r => if t.k = 1 then k t.s r else some (.st l)
 | [] => none
def rowR (f : Rule → List Tk → Option PR) (l : List Tk) : Option PR := bind1 (f (.ex 0) l) fun e l1 => f (.ro [e]) l1
def untilR (f : Rule → List Tk → Option PR) (s : List UInt8) (l : List Tk) : Option PR := match l with
 | t :: r => if isS s t = true then some (.ok [] r) else bindL (rowR f l) fun es l2 => zcW s l2 fun l3 => some (.ok es l3)
 | [] => none
def callR (f : Rule → List Tk → Option PR) (t : Tk) (l : List Tk) : Option PR := match l with
 | t2 :: l2 => if isS [40] t2 = true then bindL (untilR f [41] l2) fun es l3 => some (.ok [.mk 5 t.s 0 es t.l] l3) else some (.ok [.mk 4 t.s 0 [] t.l] l)
 | [] => none
def singleR (f : Rule → List Tk → Option PR) (t : Tk) (l : List Tk) : Option PR :=
 if t.k = 2 then some (.ok [.mk 1 [] t.n [] t.l] l)
 else if t.k = 3 then some (.ok [.mk 3 t.s 0 [] t.l] l)
 else if t.k = 1 then callR f t l
 else if isS [116,114,117,101] t = true then some (.ok [.mk 2 [] 1 [] t.l] l)
 else if isS [102,97,108,115,101] t = true then some (.ok [.mk 2 [] 0 [] t.l] l)
 else if isS [110,101,119] t = true then nameK l fun s l2 => zcW [40] l2 fun l3 => bindL (untilR f [41] l3) fun es l4 => some (.ok [.mk 11 s 0 es t.l] l4)
 else if isS [91] t = true then bindL (rowR f l) fun es l2 => zcW [93] l2 fun l3 => some (.ok [.mk 10 [] 0 es t.l] l3)
 else if isS [40] t = true then bind1 (f (.ex 0) l) fun e l2 => zcW [41] l2 fun l3 => some (.ok [e] l3)
 else some (.st (t :: l))
def step (f : Rule → List Tk → Option PR) (t : Tk) (l : List Tk) : Rule → Option PR
 | .ex line => if line = 6 then f .un (t :: l) else bind1 (f (.ex (line + 1)) (t :: l)) fun e l1 => f (.lp line e) l1
 | .lp line e => if (t.k == 4 && level t.s == (line : Int)) = true then bind1 (f (.ex (line + 1)) l) fun e2 l2 => f (.lp line (.mk 7 t.s 0 [e,e2] e.line)) l2 else some (.ok [e] (t :: l))
 | .un => if (isS [45] t || isS [33] t) = true then bind1 (f .un l) fun e l1 => some (.ok [.mk 6 t.s 0 [e] t.l] l1) else bind1 (f .si (t :: l)) fun e l1 => f (.po e) l1
 | .po e => if isS [91] t = true then bind1 (f (.ex 0) l) fun e2 l2 => zcW [93] l2 fun l3 => f (.po (.mk 8 [] 0 [e,e2] e.line)) l3
  else if isS [46] t = true then nameK l fun s l2 => f (.po (.mk 9 s 0 [e] e.line)) l2
  else some (.ok [e] (t :: l))
 | .si => singleR f t l
 | .ro out => if isS [44] t = true then bind1 (f (.ex 0) l) fun e l1 => f (.ro (out ++ [e])) l1 else some (.ok out (t :: l))
def run : Nat → Rule → List Tk → Option PR
 | 0,_,_ => none
 | n + 1,r,l => match l with
  | [] => none
  | t :: l => step (run n) t l r
/-! ### It comes to an end -/
def Good : List Tk → Prop
 | [] => False
 | [t] => t.k = 0
 | _ :: t :: l => Good (t :: l)
theorem Good.tail {t : Tk} {l : List Tk} (h : Good (t :: l)) (hk : t.k ≠ 0) : Good l := by
 cases l with
 | nil => exact absurd h hk
 | cons x l => exact h
theorem Good.ne {l : List Tk} (h : Good l) : ∃ t r,l = t :: r := by
 cases l with
 | nil => exact h.elim
 | cons t r => exact ⟨t,r,rfl⟩
theorem zec {s : List UInt8} {t : Tk} (h : isS s t = true) : t.k ≠ 0 := by
 intro h0
 simp [isS,h0] at h
def zdp : Rule → Nat
 | .lp _ e => zbr e
 | .po e => zbr e
 | .ro out => sizes out
 | _ => 0
def zc7 : Rule → Nat
 | .ex line => 8 - line
 | .un => 1
 | _ => 0
def zdw : Rule → Prop
 | .ex line => line ≤ 6
 | .lp line _ => line ≤ 5
 | _ => True
def Fit (many : Bool) (sz : Nat) (l : List Tk) : PR → Prop
 | .ok es l1 => Good l1 ∧ sizes es + l1.length ≤ l.length + sz ∧ (many = false → ∃ e,es = [e])
 | .st l1 => Good l1 ∧ l1.length ≤ l.length
def Fits (many : Bool) (sz : Nat) (l : List Tk) (r : Option PR) : Prop := ∃ p,r = some p ∧ Fit many sz l p
def manyR : Rule → Bool
 | .ro _ => true
 | _ => false
theorem Fits.bind1 {sz sz' : Nat} {l l' : List Tk} {many : Bool} {r : Option PR} {k : Ex → List Tk → Option PR} (h : Fits false sz l r) (hl : l.length ≤ l'.length)
  (hk : ∀ e l1,Good l1 → zbr e + l1.length ≤ l.length + sz → Fits many sz' l' (k e l1)) : Fits many sz' l' (bind1 r k) := by
 obtain ⟨p,rfl,hp⟩ := h
 cases p with
 | ok es l1 =>
  obtain ⟨h1,h2,h3⟩ := hp
  obtain ⟨e,rfl⟩ := h3 rfl
  simp only [sizes] at h2
  exact hk e l1 h1 (by omega)
 | st l1 => exact ⟨_,rfl,hp.1,by have := hp.2; omega⟩
theorem Fits.bindL {sz sz' : Nat} {l l' : List Tk} {many many' : Bool} {r : Option PR} {k : List Ex → List Tk → Option PR} (h : Fits many sz l r) (hl : l.length ≤ l'.length)
  (hk : ∀ es l1,Good l1 → sizes es + l1.length ≤ l.length + sz → Fits many' sz' l' (k es l1)) : Fits many' sz' l' (bindL r k) := by
 obtain ⟨p,rfl,hp⟩ := h
 cases p with
 | ok es l1 => exact hk es l1 hp.1 hp.2.1
 | st l1 => exact ⟨_,rfl,hp.1,by have := hp.2; omega⟩
theorem fits_must {sz : Nat} {s : List UInt8} {l l' : List Tk} {many : Bool} {k : List Tk → Option PR} (hg : Good l) (hl : l.length ≤ l'.length)
  (hk : ∀ l1,Good l1 → l1.length + 1 = l.length → Fits many sz l' (k l1)) : Fits many sz l' (zcW s l k) := by
 obtain ⟨t,r,rfl⟩ := hg.ne
 simp only [zcW]
 by_cases h : isS s t = true
 ·rw [if_pos h]
  exact hk r (hg.tail (zec h)) (by simp)
 ·rw [if_neg h]
  exact ⟨_,rfl,hg,hl⟩
theorem fits_name {sz : Nat} {l l' : List Tk} {many : Bool} {k : List UInt8 → List Tk → Option PR} (hg : Good l) (hl : l.length ≤ l'.length)
  (hk : ∀ s l1,Good l1 → l1.length + 1 = l.length → Fits many sz l' (k s l1)) : Fits many sz l' (nameK l k) := by
 obtain ⟨t,r,rfl⟩ := hg.ne
 simp only [nameK]
 by_cases h : t.k = 1
 ·rw [if_pos h]
  exact hk _ r (hg.tail (by omega)) (by simp)
 ·rw [if_neg h]
  exact ⟨_,rfl,hg,hl⟩
theorem zcZ {sz : Nat} {l l1 : List Tk} {many : Bool} {e : Ex} (hg : Good l1) (h : zbr e + l1.length ≤ l.length + sz) : Fits many sz l (some (.ok [e] l1)) := ⟨_,rfl,hg,by simp only [sizes]; omega,fun _ => ⟨e,rfl⟩⟩
theorem Fits.mono {many : Bool} {sz sz' : Nat} {l l' : List Tk} {r : Option PR} (h : Fits many sz l r) (hl : l.length ≤ l'.length) (hs : l.length + sz ≤ l'.length + sz') : Fits many sz' l' r := by
 obtain ⟨p,rfl,hp⟩ := h
 refine ⟨p,rfl,?_⟩
 cases p with
 | ok es l1 => exact ⟨hp.1,by have := hp.2.1; omega,hp.2.2⟩
 | st l1 => exact ⟨hp.1,by have := hp.2; omega⟩
theorem run_fits : ∀ (n : Nat) (r : Rule) (l : List Tk),Good l → zdw r → 10 * l.length + zc7 r < n → Fits (manyR r) (zdp r) l (run n r l)
 | 0,r,l,hg,ho,hn => absurd hn (by omega)
 | n + 1,r,l,hg,ho,hn => by
  obtain ⟨t,l,rfl⟩ := hg.ne
  have ih := run_fits n
  have hrow : ∀ l',Good l' → 10 * l'.length + 8 < n → Fits true 0 l' (rowR (run n) l') := by
   intro l' hg' hn'
   refine Fits.bind1 (ih (.ex 0) l' hg' (by simp [zdw]) (by simpa [zc7] using hn')) (zfq _) fun e l1 h1 h2 => ?_
   simp only [zdp] at h2
   have hp : 1 ≤ zbr e := by cases e; simp only [zbr]; omega
   refine (ih (.ro [e]) l1 h1 trivial (by simp only [zc7]; omega)).mono (by omega) ?_
   simp only [zdp,sizes]
   omega
  have hunt : ∀ s l',Good l' → 10 * l'.length + 8 < n → Fits true 0 l' (untilR (run n) s l') := by
   intro s l' hg' hn'
   obtain ⟨t',r',rfl⟩ := hg'.ne
   simp only [untilR]
   by_cases h : isS s t' = true
   ·rw [if_pos h]
    exact ⟨_,rfl,hg'.tail (zec h),by simp [sizes],by simp⟩
   ·rw [if_neg h]
    refine Fits.bindL (hrow _ hg' hn') (zfq _) fun es l1 h1 h2 => ?_
    refine fits_must h1 (by omega) fun l2 h3 h4 => ⟨_,rfl,h3,by omega,by simp⟩
  simp only [zeV] at hn
  show Fits (manyR r) (zdp r) (t :: l) (step (run n) t l r)
  cases r with
  | ex line =>
   simp only [step,zc7,zdw,zdp,manyR] at hn ho ⊢
   by_cases h : line = 6
   ·subst h
    rw [if_pos rfl]
    exact ih .un _ hg trivial (by simp only [zc7,zeV]; omega)
   ·rw [if_neg h]
    refine Fits.bind1 (ih (.ex (line + 1)) _ hg (by simp only [zdw]; omega) (by simp only [zc7,zeV]; omega)) (zfq _) fun e l1 h1 h2 => ?_
    simp only [zdp,zeV] at h2
    have hp : 1 ≤ zbr e := by cases e; simp only [zbr]; omega
    exact (ih (.lp line e) l1 h1 (by simp only [zdw]; omega) (by simp only [zc7]; omega)).mono (by simp only [zeV]; omega) (by simp only [zdp,zeV]; omega)
  | lp line e =>
   simp only [step,zc7,zdw,zdp,manyR] at hn ho ⊢
   by_cases h : (t.k == 4 && level t.s == (line : Int)) = true
   ·rw [if_pos h]
    have hk : t.k ≠ 0 := by
     intro h0
     simp [h0] at h
    refine Fits.bind1 (ih (.ex (line + 1)) _ (hg.tail hk) (by simp only [zdw]; omega) (by simp only [zc7]; omega)) (by simp) fun e2 l2 h1 h2 => ?_
    simp only [zdp] at h2
    have hp : 1 ≤ zbr e2 := by cases e2; simp only [zbr]; omega
    exact (ih (.lp line _) l2 h1 ho (by simp only [zc7]; omega)).mono (by simp only [zeV]; omega) (by simp only [zdp,zbr,sizes,zeV]; omega)
   ·rw [if_neg h]
    exact zcZ hg (by simp only [zeV]; omega)
  | un =>
   simp only [step,zc7,zdw,zdp,manyR] at hn ho ⊢
   by_cases h : (isS [45] t || isS [33] t) = true
   ·rw [if_pos h]
    have hk : t.k ≠ 0 := by
     rw [Bool.or_eq_true] at h
     rcases h with h | h
     ·exact zec h
     ·exact zec h
    refine Fits.bind1 (ih .un _ (hg.tail hk) trivial (by simp only [zc7]; omega)) (by simp) fun e l1 h1 h2 => ?_
    simp only [zdp] at h2
    exact zcZ h1 (by simp only [zbr,sizes,zeV]; omega)
   ·rw [if_neg h]
    refine Fits.bind1 (ih .si _ hg trivial (by simp only [zc7,zeV]; omega)) (zfq _) fun e l1 h1 h2 => ?_
    simp only [zdp,zeV] at h2
    have hp : 1 ≤ zbr e := by cases e; simp only [zbr]; omega
    exact (ih (.po e) l1 h1 trivial (by simp only [zc7]; omega)).mono (by simp only [zeV]; omega) (by simp only [zdp,zeV]; omega)
  | po e =>
   simp only [step,zc7,zdw,zdp,manyR] at hn ho ⊢
   by_cases h : isS [91] t = true
   ·rw [if_pos h]
    refine Fits.bind1 (ih (.ex 0) _ (hg.tail (zec h)) (by simp [zdw]) (by simp only [zc7]; omega)) (by simp) fun e2 l2 h1 h2 => ?_
    simp only [zdp] at h2
    refine fits_must h1 (by simp only [zeV]; omega) fun l3 h3 h4 => ?_
    exact (ih (.po _) l3 h3 trivial (by simp only [zc7]; omega)).mono (by simp only [zeV]; omega) (by simp only [zdp,zbr,sizes,zeV]; omega)
   ·rw [if_neg h]
    by_cases h : isS [46] t = true
    ·rw [if_pos h]
     refine fits_name (hg.tail (zec h)) (by simp) fun s l1 h3 h4 => ?_
     exact (ih (.po _) l1 h3 trivial (by simp only [zc7]; omega)).mono (by simp only [zeV]; omega) (by simp only [zdp,zbr,sizes,zeV]; omega)
    ·rw [if_neg h]
     exact zcZ hg (by simp only [zeV]; omega)
  | ro out =>
   simp only [step,zc7,zdw,zdp,manyR] at hn ho ⊢
   by_cases h : isS [44] t = true
   ·rw [if_pos h]
    refine Fits.bind1 (ih (.ex 0) _ (hg.tail (zec h)) (by simp [zdw]) (by simp only [zc7]; omega)) (by simp) fun e l1 h1 h2 => ?_
    simp only [zdp] at h2
    have hp : 1 ≤ zbr e := by cases e; simp only [zbr]; omega
    exact (ih (.ro _) l1 h1 trivial (by simp only [zc7]; omega)).mono (by simp only [zeV]; omega) (by simp only [zdp,sizes_append,sizes,zeV]; omega)
   ·rw [if_neg h]
    exact ⟨_,rfl,hg,by simp only [zeV]; omega,by simp⟩
  | si =>
   simp only [step,singleR,zc7,zdw,zdp,manyR] at hn ho ⊢
   split
   ·rename_i h
    exact zcZ (hg.tail (by omega)) (by simp only [zbr,sizes,zeV]; omega)
   ·split
    ·rename_i h
     exact zcZ (hg.tail (by omega)) (by simp only [zbr,sizes,zeV]; omega)
    ·split
     ·rename_i h
      have hg1 := hg.tail (by omega)
      obtain ⟨t2,l2,rfl⟩ := hg1.ne
      simp only [callR]
      by_cases h2 : isS [40] t2 = true
      ·rw [if_pos h2]
       simp only [zeV] at hn
       refine Fits.bindL (hunt [41] _ (hg1.tail (zec h2)) (by omega)) (by simp only [zeV]; omega) fun es l3 h3 h4 => ?_
       exact zcZ h3 (by simp only [zbr,sizes,zeV]; omega)
      ·rw [if_neg h2]
       exact zcZ hg1 (by simp only [zbr,sizes,zeV]; omega)
     ·split
      ·rename_i h
       exact zcZ (hg.tail (zec h)) (by simp only [zbr,sizes,zeV]; omega)
      ·split
       ·rename_i h
        exact zcZ (hg.tail (zec h)) (by simp only [zbr,sizes,zeV]; omega)
       ·split
        ·rename_i h
         refine fits_name (hg.tail (zec h)) (by simp) fun s l1 h3 h4 => ?_
         refine fits_must h3 (by simp only [zeV]; omega) fun l2 h5 h6 => ?_
         refine Fits.bindL (hunt [41] _ h5 (by omega)) (by simp only [zeV]; omega) fun es l3 h7 h8 => ?_
         exact zcZ h7 (by simp only [zbr,sizes,zeV]; omega)
        ·split
         ·rename_i h
          refine Fits.bindL (hrow _ (hg.tail (zec h)) (by omega)) (by simp) fun es l3 h7 h8 => ?_
          refine fits_must h7 (by simp only [zeV]; omega) fun l2 h5 h6 => ?_
          exact zcZ h5 (by simp only [zbr,sizes,zeV]; omega)
         ·split
          ·rename_i h
           refine Fits.bind1 (ih (.ex 0) _ (hg.tail (zec h)) (by simp [zdw]) (by simp only [zc7]; omega)) (by simp) fun e l1 h1 h2 => ?_
           simp only [zdp] at h2
           refine fits_must h1 (by simp only [zeV]; omega) fun l2 h5 h6 => ?_
           exact zcZ h5 (by simp only [zbr,sizes,zeV]; omega)
          ·exact ⟨_,rfl,hg,zfq _⟩
end Go.Av.Fn
/- The parser's small steps: what they do. No condition. -/
namespace Go.Av
section
variable {P : Program} {Γ : Glob} {Kp : V → Store → Prop} {s : List (Tmp × Option (Tmp × Bool) × AOp)} {l : List Item} {K : St → Prop} {t : List V} {m : Store} {d : Option Tmp}
def panS (Kp : V → Store → Prop) (v : V) (m : Store) : Prop := match v with
 | .ifc t v => Kp (.ifc t v) m
 | _ => False
theorem runO_pan {x : Operand} : runO P Γ Kp (⟨d,none,.panic x,s⟩ :: l) K (some ⟨t,m⟩) = panS Kp (ev Γ t x) m := by
 show (match ev Γ t x with
  | .ifc t v => Kp (.ifc t v) m
  | _ => False) = _
 unfold panS
 split <;> rfl
theorem panS_ifc {T : TypeId} {v : V} : panS Kp (.ifc T v) m = Kp (.ifc T v) m := rfl
theorem awp_loop' {c : za4} {Q : Ex → St → Prop} {st : St} (I : Nat → St → Prop) (n : Nat) (h0 : I n st) (h : ∀ n s (J : St → Prop),(∀ n' s',n' < n → I n' s' → J s') → I n s → awp P Γ Kp c (thenA J Q) s) : awp P Γ Kp (.loop c) Q st :=
 zdc I n h0 fun n s hi => h n s _ (fun n' _ hn h => ⟨n',hn,h⟩) hi
theorem zbw {x : Operand} {lo hi mx : Option Operand} {z : Nat} : zao P (ev Γ t) m (.sliceL z x lo hi mx) = zew z (ev Γ t x) (zbd (ev Γ t) lo) (zbd (ev Γ t) hi) (zbd (ev Γ t) mx) := rfl
end
end Go.Av
namespace Go.Av.Fn
set_option linter.unusedSimpArgs false
set_option linter.unusedVariables false
set_option maxRecDepth 10000
open Go.Proofs
def rdr (l : List Tk) : Blk := .var 273 [.sl (l.map tkV) [] .no]
def atOf : List Tk → Int
 | t :: _ => t.a
 | [] => 0
def stk (l : List Tk) : Blk := .var 271 [it (atOf l)]
def stV (b : Nat) : V := .ifc 264 (.ptr b 0)
def PL (m : Store) (rb : Nat) (val : List Ex → V) (p : PR) (o : Out) (m' : Store) : Prop := match p with
 | .ok es l => ∃ v,o = .ret v ∧ weak v = val es ∧ SubS (m.set rb (rdr l)) m'
 | .st l => ∃ b,m b = none ∧ o = .pan (stV b) ∧ SubS ((m.set rb (rdr l)).set b (stk l)) m'
def PE (m : Store) (rb : Nat) (val : List Ex → V) (p : PR) (o : Out) (m' : Store) : Prop := match p with
 | .ok es l => o = .ret (val es) ∧ m' = m.set rb (rdr l)
 | .st l => ∃ b,m b = none ∧ o = .pan (stV b) ∧ m' = (m.set rb (rdr l)).set b (stk l)
def Ext (m : Store) (rb : Nat) (S : Store) : Prop := ∀ c x,c ≠ rb → m c = some x → S c = some x
section
variable {m S : Store} {rb b : Nat} {x y : Blk} {l : List Tk}
theorem Ext.refl (m : Store) (rb : Nat) : Ext m rb m := fun _ _ _ h => h
theorem Ext.alloc (h : Ext m rb S) (hb : S b = none) (x : Blk) : Ext m rb (S.set b x) := by
 intro c y hc hm
 rw [Store.set_ne _ _ (zal (h c y hc hm) hb)]
 exact h c y hc hm
theorem Ext.loc (h : Ext m rb S) (hb : m b = none) (x : Blk) : Ext m rb (S.set b x) := by
 intro c y hc hm
 rw [Store.set_ne _ _ (zal hm hb)]
 exact h c y hc hm
theorem Ext.rd (h : Ext m rb S) (x : Blk) : Ext m rb (S.set rb x) := by
 intro c y hc hm
 rw [Store.set_ne _ _ hc]
 exact h c y hc hm
theorem Ext.none (h : Ext m rb S) (hr : S rb = some y) (hb : S b = none) : m b = none := by
 cases e : m b with
 | none => rfl
 | some z =>
  have hne : b ≠ rb := fun e => zal hr hb e.symm
  rw [h b z hne e] at hb
  cases hb
theorem Ext.ret (h : Ext m rb S) (hr : S rb = some (rdr l)) : SubS (m.set rb (rdr l)) S := by
 intro c z hc
 by_cases e : c = rb
 ·subst e
  rw [Store.set_same] at hc
  cases hc
  exact hr
 ·rw [Store.set_ne _ _ e] at hc
  exact h c z e hc
theorem Ext.pan (h : Ext m rb S) (l : List Tk) (b : Nat) (z : Blk) : SubS ((m.set rb (rdr l)).set b z) ((S.set rb (rdr l)).set b z) := (Ext.ret (h.rd (rdr l)) (Store.set_same _ _ _)).set b z
theorem zbt {val : List Ex → V} (h : Ext m rb S) (hr : S rb = some y) (hb : S b = Option.none) : PL m rb val (.st l) (.pan (stV b)) ((S.set rb (rdr l)).set b (stk l)) :=
 ⟨b,h.none hr hb,rfl,h.pan l b _⟩
theorem zdV {val : List Ex → V} {p : PR} : ∀ v (m1 : Store) b x,m1 b = none → PL m rb val p (.pan v) m1 → PL m rb val p (.pan v) (m1.set b x) := by
 intro v m1 b x hb h
 cases p with
 | ok es l =>
  obtain ⟨_,⟨⟩,_⟩ := h
 | st l =>
  obtain ⟨c,h1,h2,h3⟩ := h
  exact ⟨c,h1,h2,h3.out (h3.none hb) _⟩
theorem zcH {P : Program} {Γ : Glob} {f : FuncId} {args : List V} {val : List Ex → V} {p : PR} (h : zab P Γ f args m (PL m rb val p)) : zab P Γ f args m (PE m rb val p) := by
 cases p with
 | ok es l =>
  refine zab.weak (R := fun o m' => ∃ v,o = .ret v ∧ weak v = val es ∧ m' = m.set rb (rdr l)) (h.less ?_) ?_ ?_
  ·rintro o m' ⟨v,h1,h2,h3⟩
   exact ⟨_,h3,v,h1,h2,rfl⟩
  ·rintro v m' ⟨_,⟨⟩,h2,h3⟩
   exact ⟨by rw [h2],h3⟩
  ·rintro v m' ⟨_,⟨⟩,_⟩
 | st l =>
  refine h.less ?_
  rintro o m' ⟨b,h1,h2,h3⟩
  exact ⟨_,h3,b,h1,h2,rfl⟩
theorem zau {P : Program} {Γ : Glob} {Kp : V → Store → Prop} {s : List (Tmp × Option (Tmp × Bool) × AOp)} {li : List Item} {K : St → Prop} {t : List V} {d : Option Tmp} {g : FuncId} {first args caps : List V} {val : List Ex → V} {p : PR}
  (h : zab P Γ g (first ++ args ++ caps) S (PE S rb val p)) (hok : ∀ es l1,p = .ok es l1 → zbY P Γ Kp s li K (putO t (S.set rb (rdr l1)) d (some (val es))))
  (hst : ∀ l1 b,p = .st l1 → S b = Option.none → Kp (stV b) ((S.set rb (rdr l1)).set b (stk l1))) : callS P Γ Kp (.fn (.func g) first caps) args d s li K t S := by
 refine zbT h ?_ ?_
 ·intro v m' hv
  cases p with
  | ok es l =>
   obtain ⟨h1,rfl⟩ := hv
   cases h1
   exact hok _ _ rfl
  | st l =>
   obtain ⟨_,_,⟨⟩,_⟩ := hv
 ·intro v m' hv
  cases p with
  | ok es l =>
   obtain ⟨⟨⟩,_⟩ := hv
  | st l =>
   obtain ⟨b,h1,h2,rfl⟩ := hv
   cases h2
   exact hst _ _ rfl h1
end
theorem zck {r : Option PR} {k : Ex → List Tk → Option PR} {p : PR} (h : bind1 r k = some p) : (∃ e l,r = some (.ok [e] l) ∧ k e l = some p) ∨ (∃ l,r = some (.st l) ∧ p = .st l) := by
 unfold bind1 at h
 split at h
 ·exact .inl ⟨_,_,rfl,h⟩
 ·cases h
  exact .inr ⟨_,rfl,rfl⟩
 ·cases h
theorem bindL_inv {r : Option PR} {k : List Ex → List Tk → Option PR} {p : PR} (h : bindL r k = some p) : (∃ es l,r = some (.ok es l) ∧ k es l = some p) ∨ (∃ l,r = some (.st l) ∧ p = .st l) := by
 unfold bindL at h
 split at h
 ·exact .inl ⟨_,_,rfl,h⟩
 ·cases h
  exact .inr ⟨_,rfl,rfl⟩
 ·cases h
mutual
theorem weak_exV : ∀ e : Ex,weak (exV e) = exV e
 | .mk k s n kids l => by
  simp only [exV,weak,za9,zaU kids,bs]
theorem zaU : ∀ l : List Ex,za9 (exVs l) = exVs l
 | [] => rfl
 | e :: r => by simp only [exVs,za9,weak_exV e,zaU r]
end
theorem zcP (e : Ex) : (exV e).cells.length = 5 := by
 cases e
 rfl
theorem szOk_tk : ∀ l : List Tk,szOk 5 (l.map tkV) = true
 | [] => rfl
 | t :: l => by
  have := szOk_tk l
  simp only [szOk,List.map_cons,List.all_cons,ze1] at this ⊢
  exact ⟨rfl,this⟩
theorem cut_tk {t : Tk} {l : List Tk} : zew 5 (.sl (tkV t :: l.map tkV) [] .no) (some (some 1)) (some none) (some none) = some (.sl (l.map tkV) [] .no) := by
 have hs : szOk 5 (tkV t :: l.map tkV) = true := szOk_tk (t :: l)
 simp only [zew,List.append_nil,hs,if_true,cutV,Option.getD_none,Option.getD_some]
 rw [if_pos ⟨by decide,by simp,by omega⟩]
 simp [zem]
theorem idx_tk {t : Tk} {l : List V} {mm : List V} {tt : Tok} : idxLV 5 (.sl (tkV t :: l) mm tt) (.val (.int .i64 0)) = some (.elt [it t.k,bs t.s,it t.n,it t.l,it t.a]) := idxLV_nat (i := 0) (e := tkV t) rfl rfl
theorem ld5 {m : Store} {a b c d e : V} : loadV m (some 5) (.elt [a,b,c,d,e]) = some (.agg [a,b,c,d,e]) := rfl
theorem lit5_eq {P : Program} {Γ : Glob} {t : List V} {m : Store} {z : List V} {x : Nat} : zao P (ev Γ t) m (.lits 5 z 1 [(0,.tmp x)]) = (zcX 5 [.agg z] [(0,ev Γ t (.tmp x))]).map fun es => .sl es [] .full := rfl
theorem lit52_eq {P : Program} {Γ : Glob} {t : List V} {m : Store} {z : List V} {x y : Nat} : zao P (ev Γ t) m (.lits 5 z 2 [(0,.tmp x),(1,.tmp y)]) = (zcX 5 [.agg z,.agg z] [(0,ev Γ t (.tmp x)),(1,ev Γ t (.tmp y))]).map fun es => .sl es [] .full := rfl
theorem lits5_one {z : List V} {v : V} (h : v.cells.length = 5) : ((zcX 5 [.agg z] [(0,v)]).map fun es => V.sl es [] .full) = some (.sl [v] [] .full) := by
 rw [litsV_next h (by simp),litsV_done]
 rfl
theorem lits5_two {z : List V} {v u : V} (h : v.cells.length = 5) (k : u.cells.length = 5) : ((zcX 5 [.agg z,.agg z] [(0,v),(1,u)]).map fun es => V.sl es [] .full) = some (.sl [v,u] [] .full) := by
 rw [litsV_next h (by simp),litsV_next k (by simp [← zeu]),litsV_done]
 rfl
section
variable {Γ : Glob} {m : Store} {rb : Nat}
theorem level_ok (s : List UInt8) : zab Tryz.prog Γ 203 [bs s] m fun o m' => o = .ret (it (level s)) ∧ m' = m := by
 refine zae mixed F203_ok (by rintro v m b x _ ⟨⟨⟩,_⟩) ?_
 simp only [F203,ss0,zeW,zeQ]
 simp only [ssS,zeQ,zeO,reduceIte,zeP]
 repeat' first
  | (refine zat (fun h => ?_) (fun h => ?_))
  | (simp only [ssS,zeQ,zeO,reduceIte,zeP])
 all_goals
  refine zai zah ⟨?_,rfl⟩
  simp only [zac,zad]
  simp_all [level]
theorem is_ok {t : Tk} {l : List Tk} (s : List UInt8) (hr : m rb = some (rdr (t :: l))) : zab Tryz.prog Γ 247 [.ptr rb 0,bs s] m fun o m' => o = .ret (.val (.bool (isS s t))) ∧ m' = m := by
 refine zab.less (A := fun o m' => o = .ret (.val (.bool (isS s t))) ∧ SubS m m') ?_ fun o m' h => ⟨m,h.2,h.1,rfl⟩
 refine zae mixed F247_ok (by rintro v m b x _ ⟨⟨⟩,_⟩) ?_
 simp only [F247,ss0,zeW,zeQ]
 simp only [hr,rdr,idx_tk,ld5,ssS,zeQ,zeO,reduceIte,zeP]
 refine zaq fun b hb => ?_
 have hn := zal hr hb
 simp only [Store.set_same,ssS,zeQ,zeO,reduceIte,zeP]
 cases h4 : (t.k == 4)
 ·cases h5 : (t.k == 5)
  ·simp only [h4,h5,Store.set_same,Store.set_set,ssS,zeQ,zeO,reduceIte,zeP]
   refine zai zah ⟨?_,(SubS.refl m).out hb _⟩
   simp only [zac,zad,isS,h4,h5]
   rfl
  ·simp only [h4,h5,Store.set_same,Store.set_set,ssS,zeQ,zeO,reduceIte,zeP]
   refine zai zah ⟨?_,(SubS.refl m).out hb _⟩
   simp only [zac,zad,isS,h4,h5]
   rfl
 ·simp only [h4,Store.set_same,Store.set_set,ssS,zeQ,zeO,reduceIte,zeP]
  refine zai zah ⟨?_,(SubS.refl m).out hb _⟩
  simp only [zac,zad,isS,h4]
  rfl
theorem zbP {t : Tk} {l : List Tk} {s : List UInt8} (hr : m rb = some (rdr (t :: l))) (h : isS s t = true) : zab Tryz.prog Γ 228 [.ptr rb 0,bs s] m fun o m' => o = .ret (.val (.bool true)) ∧ m' = m.set rb (rdr l) := by
 refine zae mixed F228_ok (by rintro v m b x _ ⟨⟨⟩,_⟩) ?_
 simp only [F228,ss0,zeW,zeQ]
 simp only [ssS,zeQ,zeO,reduceIte,zeP]
 refine zak (is_ok s hr) ?_
 simp only [h,hr,rdr,zbw,cut_tk,ssS,zeQ,zeO,reduceIte,zeP]
 exact zai zah ⟨rfl,rfl⟩
theorem zcp {t : Tk} {l : List Tk} {s : List UInt8} (hr : m rb = some (rdr (t :: l))) (h : isS s t = false) : zab Tryz.prog Γ 228 [.ptr rb 0,bs s] m fun o m' => o = .ret (.val (.bool false)) ∧ m' = m := by
 refine zae mixed F228_ok (by rintro v m b x _ ⟨⟨⟩,_⟩) ?_
 simp only [F228,ss0,zeW,zeQ]
 simp only [ssS,zeQ,zeO,reduceIte,zeP]
 refine zak (is_ok s hr) ?_
 simp only [h,ssS,zeQ,zeO,reduceIte,zeP]
 exact zai zah ⟨rfl,rfl⟩
theorem stop_ok {t : Tk} {l : List Tk} {val : List Ex → V} (hr : m rb = some (rdr (t :: l))) : zab Tryz.prog Γ 201 [.ptr rb 0] m (PE m rb val (.st (t :: l))) := by
 refine zcH (zae mixed F201_ok zdV ?_)
 simp only [F201,ss0,zeW,zeQ]
 simp only [hr,rdr,idx_tk,ld5,ssS,zeQ,zeO,reduceIte,zeP]
 refine zaq fun b hb => ?_
 simp only [runO_pan,panS_ifc,ssS,zeQ,zeO,reduceIte,zeP]
 refine ⟨b,hb,rfl,?_⟩
 rw [Store.set_eq m hr]
 exact SubS.refl _
theorem zdv {l : List Tk} {s : List UInt8} {p : PR} (hr : m rb = some (rdr l)) (h : zcW s l (fun l2 => some (.ok [] l2)) = some p) : zab Tryz.prog Γ 204 [.ptr rb 0,bs s] m (PE m rb (fun _ => .tup []) p) := by
 cases l with
 | nil => cases h
 | cons t l =>
  simp only [zcW] at h
  refine zcH (zae mixed F204_ok zdV ?_)
  simp only [F204,ss0,zeW,zeQ]
  simp only [ssS,zeQ,zeO,reduceIte,zeP]
  cases hi : isS s t
  ·simp only [hi,zeX,if_false,Option.some.injEq] at h
   subst h
   refine zak (zcp hr hi) ?_
   simp only [Bool.not_false,ssS,zeQ,zeO,reduceIte,zeP]
   refine zau (stop_ok (val := fun _ => .tup []) hr) (by rintro es l1 ⟨⟩) ?_
   rintro l1 b ⟨⟩ hb
   exact zbt (Ext.refl m rb) hr hb
  ·simp only [hi,if_true,Option.some.injEq] at h
   subst h
   refine zaK (zbP hr hi) ?_
   simp only [Bool.not_true,ssS,zeQ,zeO,reduceIte,zeP]
   exact bodyA_normal (v := .tup []) rfl ⟨_,rfl,rfl,SubS.refl _⟩
theorem name_yes {t : Tk} {l : List Tk} (hr : m rb = some (rdr (t :: l))) (h : t.k = 1) : zab Tryz.prog Γ 230 [.ptr rb 0] m fun o m' => o = .ret (bs t.s) ∧ m' = m.set rb (rdr l) := by
 refine zab.less (A := fun o m' => o = .ret (bs t.s) ∧ SubS (m.set rb (rdr l)) m') ?_ fun o m' h => ⟨_,h.2,h.1,rfl⟩
 refine zae mixed F230_ok (by rintro v m b x _ ⟨⟨⟩,_⟩) ?_
 simp only [F230,ss0,zeW,zeQ]
 simp only [hr,rdr,idx_tk,ld5,ssS,zeQ,zeO,reduceIte,zeP]
 refine zaq fun b hb => ?_
 have hn := zal hr hb
 have h1 : (t.k != 1) = false := by simp [h]
 simp only [Store.set_same,Store.set_set,Store.set_ne _ _ hn,Store.set_ne _ _ hn.symm,hr,rdr,h1,zbw,cut_tk,ssS,zeQ,zeO,reduceIte,zeP]
 refine zai zah ⟨rfl,?_⟩
 exact Ext.ret ((Ext.refl m rb).alloc hb _ |>.rd _) (Store.set_same _ _ _)
theorem name_no {t : Tk} {l : List Tk} {val : List Ex → V} (hr : m rb = some (rdr (t :: l))) (h : ¬ t.k = 1) : zab Tryz.prog Γ 230 [.ptr rb 0] m (PE m rb val (.st (t :: l))) := by
 refine zcH (zae mixed F230_ok zdV ?_)
 simp only [F230,ss0,zeW,zeQ]
 simp only [hr,rdr,idx_tk,ld5,ssS,zeQ,zeO,reduceIte,zeP]
 refine zaq fun b hb => ?_
 have hn := zal hr hb
 have h1 : (t.k != 1) = true := by simp [h]
 simp only [Store.set_same,Store.set_set,h1,ssS,zeQ,zeO,reduceIte,zeP]
 refine zau (S := m.set b _) (stop_ok (val := val) (by rw [Store.set_ne _ _ hn]; exact hr)) (by rintro es l1 ⟨⟩) ?_
 rintro l1 b2 ⟨⟩ hb2
 exact zbt ((Ext.refl m rb).alloc hb _) (by rw [Store.set_ne _ _ hn]; exact hr) hb2
end
end Go.Av.Fn
/- The parser's rows of expressions, over what reads one. No condition. -/
namespace Go.Av.Fn
set_option linter.unusedSimpArgs false
set_option linter.unusedVariables false
set_option maxRecDepth 10000
open Go.Proofs
def hdV : List Ex → V
 | e :: _ => exV e
 | [] => un
def slV (es : List Ex) : V := .sl (exVs es) [] .no
def Sgl : PR → Prop
 | .ok es _ => ∃ e,es = [e]
 | .st _ => True
def ExH (Γ : Glob) (n : Nat) : Prop := ∀ (line : Nat) (l : List Tk) (p : PR) (m : Store) (rb : Nat),line ≤ 6 → m rb = some (rdr l) → Sgl p → run n (.ex line) l = some p → zab Tryz.prog Γ 186 [.ptr rb 0,it line] m (PE m rb hdV p)
def UnH (Γ : Glob) (n : Nat) : Prop := ∀ (l : List Tk) (p : PR) (m : Store) (rb : Nat),m rb = some (rdr l) → Sgl p → run n .un l = some p → zab Tryz.prog Γ 202 [.ptr rb 0] m (PE m rb hdV p)
def SiH (Γ : Glob) (n : Nat) : Prop := ∀ (l : List Tk) (p : PR) (m : Store) (rb : Nat),m rb = some (rdr l) → Sgl p → run n .si l = some p → zab Tryz.prog Γ 229 [.ptr rb 0] m (PE m rb hdV p)
theorem BufF.put {e : TypeId} {size : Nat} {m m' : Store} {v : V} {es : List V} (h : BufF e size m m' v es) {b : Nat} {x y : Blk} (hb : m b = some y) : BufF e size (m.set b x) (m'.set b x) v es := by
 refine ⟨h.1,?_⟩
 rcases h.2 with ⟨h2,rfl⟩ | ⟨h1,t,k,ht,rfl,h2⟩
 ·exact .inl ⟨h2,rfl⟩
 ·have hne : t ≠ b := fun e => zal hb ht e.symm
  exact .inr ⟨h1,t,k,by rw [Store.set_ne _ _ hne,ht],set_comm _ _ _ hne,h2⟩
theorem exV_one (e : Ex) : ∀ c ∈ (exV e).cells,oneV c = true := by
 obtain ⟨k,s,n,kids,l⟩ := e
 intro c hc
 simp only [exV,V.cells,List.mem_cons,List.not_mem_nil,or_false] at hc
 rcases hc with rfl | rfl | rfl | rfl | rfl <;> rfl
theorem szOk_ex : ∀ l : List Ex,szOk 5 (exVs l) = true
 | [] => rfl
 | e :: l => by
  have := szOk_ex l
  simp only [szOk,exVs,List.all_cons,ze1] at this ⊢
  exact ⟨by rw [zcP]; rfl,this⟩
theorem zbX {m m2 : Store} {rb b i : Nat} {t : List V} {k n ln : Int} {s : List UInt8} {vs : List V} {tok : Tok} {kids : List Ex} {l1 : List Tk} (h1 : tget t i = .ptr b 0) (h2 : m2 b = some (.var 206 [it k,bs s,it n,.sl vs [] tok,it ln])) (hv : za9 vs = exVs kids) (hs : SubS (m.set rb (rdr l1)) m2) :
  bodyA [ARes.cell i (some 5)] (PL m rb hdV (.ok [.mk k s n kids ln] l1)) .ret ⟨t,m2⟩ :=
 zai (v := .agg [it k,bs s,it n,.sl vs [] tok,it ln]) ((zdq h1 h2).trans rfl) ⟨_,rfl,by simp only [weak,za9,hdV,exV,hv,bs],hs⟩
section
variable {Γ : Glob} {m : Store} {rb n : Nat} {l : List Tk} {p : PR}
theorem any_ok (h : ExH Γ n) (hr : m rb = some (rdr l)) (hs : Sgl p) (hp : run n (.ex 0) l = some p) : zab Tryz.prog Γ 249 [.ptr rb 0] m (PE m rb hdV p) := by
 refine zcH (zae mixed F249_ok zdV ?_)
 simp only [F249,ss0,zeW,zeQ]
 simp only [ssS,zeQ,zeO,reduceIte,zeP]
 refine zaq fun b hb => ?_
 have hn := zal hr hb
 have hE := (Ext.refl m rb).alloc hb (.var 206 [V.val (Value.int IntKind.i64 0),V.val (Value.string (ByteArray.mk #[])),V.val (Value.int IntKind.i64 0),V.sl [] [] Tok.full,V.val (Value.int IntKind.i64 0)])
 simp only [ssS,zeQ,zeO,reduceIte,zeP]
 refine zau (h 0 l p _ rb (by omega) (by rw [Store.set_ne _ _ hn]; exact hr) hs hp) (fun es l1 e => ?_) (fun l1 b2 e hb2 => ?_)
 ·subst e
  obtain ⟨e,rfl⟩ := hs
  obtain ⟨k,s,n,kids,ln⟩ := e
  simp only [hdV,exV,Store.set_ne _ _ hn.symm,Store.set_same,ssS,zeQ,zeO,reduceIte,zeP]
  refine zbX (b := b) rfl (Store.set_same _ _ _) (zaU _) ?_
  exact ((hE.rd _).loc hb _).ret (by rw [Store.set_ne _ _ hn,Store.set_same])
 ·subst e
  exact zbt hE (by rw [Store.set_ne _ _ hn]; exact hr) hb2
theorem rowE_ok (hn0 : n ≤ 1099511627776) (h : ∀ k ≤ n,ExH Γ k) (hr : m rb = some (rdr l)) (hp : rowR (run n) l = some p) : zab Tryz.prog Γ 250 [.ptr rb 0,.fn (.func 249) [.ptr rb 0] []] m (PE m rb slV p) := by
 refine zcH (zae mixed F250_ok zdV ?_)
 simp only [F250,ss0,zeW,zeQ]
 simp only [ssS,zeQ,zeO,reduceIte,zeP]
 rcases zck hp with ⟨e,l1,h1,h2⟩ | ⟨l1,h1,rfl⟩
 case inr =>
  refine zau (any_ok (p := .st l1) (h n (zfq _)) hr trivial h1) (by rintro es l2 ⟨⟩) ?_
  rintro l2 b ⟨⟩ hb
  exact zbt (Ext.refl m rb) hr hb
 case inl =>
  refine zau (any_ok (p := .ok [e] l1) (h n (zfq _)) hr ⟨e,rfl⟩ h1) ?_ (by rintro l2 b ⟨⟩)
  rintro es l2 ⟨⟩
  simp only [hdV,lit5_eq,lits5_one (zcP e),ssS,zeQ,zeO,reduceIte,zeP]
  refine awp_loop' (fun j st => ∃ (out : List Ex) (l1 : List Tk) (N : Store) (v : V),run j (.ro out) l1 = some p ∧ out.length + j ≤ n + 1 ∧ Ext m rb N ∧ N rb = some (rdr l1) ∧ BufF 206 5 N st.m v (exVs out) ∧ st.t.length = 17 ∧ tget st.t 0 = .ptr rb 0 ∧ tget st.t 1 = .fn (.func 249) [.ptr rb 0] [] ∧ tget st.t 5 = v)
   n ⟨[e],l1,_,_,h2,by simp; omega,(Ext.refl m rb).rd _,Store.set_same _ _ _,⟨szOk_ex [e],.inl ⟨rfl,rfl⟩⟩,rfl,rfl,rfl,rfl⟩ ?_
  rintro j ⟨t,M⟩ J hJ ⟨out,l3,N,v,g1,g2,g3,g4,g5,hlen,t0,t1,t5⟩
  simp only at g5 hlen t0 t1 t5
  subst t5
  cases j with
  | zero => cases g1
  | succ j =>
   cases l3 with
   | nil => cases g1
   | cons tk l3 =>
    have g1 : step (run j) tk l3 (.ro out) = some p := g1
    simp only [step] at g1
    obtain ⟨tok,htok⟩ := g5.val
    rw [htok] at g5
    have hM := g5.sub _ _ g4
    rw [t_eq hlen]
    simp only [zaE,zaY,zeQ,t0,t1,htok]
    simp only [ssS,zeQ,zeO,reduceIte,zeP]
    cases hi : isS [44] tk
    ·simp only [hi,zeX,if_false,Option.some.injEq] at g1
     subst g1
     refine zak (zcp hM hi) ?_
     simp only [ssS,zeQ,zeO,reduceIte,zeP]
     refine zai zah ⟨.sl (exVs out) [] tok,rfl,?_,?_⟩
     ·simp only [weak,za9,zaU,slV]
     ·exact (SubS.trans (g3.ret g4) g5.sub)
    ·simp only [hi,if_true] at g1
     refine zaK (zbP hM hi) ?_
     simp only [ssS,zeQ,zeO,reduceIte,zeP]
     have g6 := BufF.put g5 (x := rdr l3) g4
     have hM6 : (M.set rb (rdr l3)) rb = some (rdr l3) := Store.set_same _ _ _
     have hE6 : Ext m rb (M.set rb (rdr l3)) := fun c x hc hm => by
      rw [Store.set_ne _ _ hc]
      exact g5.sub _ _ (g3 c x hc hm)
     rcases zck g1 with ⟨e2,l4,k1,k2⟩ | ⟨l4,k1,rfl⟩
     case inr =>
      refine zau (any_ok (p := .st l4) (h j (by omega)) hM6 trivial k1) (by rintro es l2 ⟨⟩) ?_
      rintro l2 b ⟨⟩ hb
      exact zbt hE6 hM6 hb
     case inl =>
      refine zau (any_ok (p := .ok [e2] l4) (h j (by omega)) hM6 ⟨e2,rfl⟩ k1) ?_ (by rintro l2 b ⟨⟩)
      rintro es l5 ⟨⟩
      simp only [hdV,lit5_eq,lits5_one (zcP e2),Store.set_set,ssS,zeQ,zeO,reduceIte,zeP]
      have g7 := BufF.put g5 (x := rdr l4) g4
      refine appS_bufF g7 (zcP e2) (exV_one e2) (by rw [exVs_length]; omega) fun m2 v2 hB2 => ?_
      simp only [ssS,zeQ,zeO,reduceIte,zeP]
      refine hJ j _ (by omega) ⟨out ++ [e2],l4,_,v2,k2,by simp; omega,g3.rd _,Store.set_same _ _ _,by rw [exVs_append]; exact hB2,rfl,rfl,rfl,rfl⟩
theorem until_ok (hn0 : n ≤ 1099511627776) (h : ∀ k ≤ n,ExH Γ k) {s : List UInt8} (hr : m rb = some (rdr l)) (hp : untilR (run n) s l = some p) : zab Tryz.prog Γ 248 [.ptr rb 0,bs s,.fn (.func 249) [.ptr rb 0] []] m (PE m rb slV p) := by
 cases l with
 | nil => cases hp
 | cons tk l =>
  simp only [untilR] at hp
  refine zcH (zae mixed F248_ok zdV ?_)
  simp only [F248,ss0,zeW,zeQ]
  simp only [ssS,zeQ,zeO,reduceIte,zeP]
  cases hi : isS s tk
  ·simp only [hi,zeX,if_false] at hp
   refine zak (zcp hr hi) ?_
   simp only [ssS,zeQ,zeO,reduceIte,zeP]
   rcases bindL_inv hp with ⟨es,l1,h1,h2⟩ | ⟨l1,h1,rfl⟩
   case inr =>
    refine zau (rowE_ok hn0 h hr h1) (by rintro es l2 ⟨⟩) ?_
    rintro l2 b ⟨⟩ hb
    exact zbt (Ext.refl m rb) hr hb
   case inl =>
    refine zau (rowE_ok hn0 h hr h1) ?_ (by rintro l2 b ⟨⟩)
    rintro es2 l2 ⟨⟩
    simp only [ssS,zeQ,zeO,reduceIte,zeP]
    cases l1 with
    | nil => cases h2
    | cons t2 l1 =>
     simp only [zcW] at h2
     cases hj : isS s t2
     ·simp only [hj,zeX,if_false,Option.some.injEq] at h2
      subst h2
      refine zau (zdv (s := s) (p := .st (t2 :: l1)) (Store.set_same _ _ _) (by simp only [zcW,hj,zeX,if_false])) (by rintro es l2 ⟨⟩) ?_
      rintro l2 b ⟨⟩ hb
      exact zbt ((Ext.refl m rb).rd _) (Store.set_same _ _ _) hb
     ·simp only [hj,if_true,Option.some.injEq] at h2
      subst h2
      refine zau (zdv (s := s) (p := .ok [] l1) (Store.set_same _ _ _) (by simp only [zcW,hj,if_true])) ?_ (by rintro l2 b ⟨⟩)
      rintro es3 l3 ⟨⟩
      simp only [ssS,zeQ,zeO,reduceIte,zeP]
      refine zai zah ⟨slV es,rfl,?_,?_⟩
      ·simp only [slV,weak,za9,zaU]
      ·rw [Store.set_set]
       exact SubS.refl _
  ·simp only [hi,if_true,Option.some.injEq] at hp
   subst hp
   refine zaK (zbP hr hi) ?_
   simp only [ssS,zeQ,zeO,reduceIte,zeP]
   exact zai zah ⟨_,rfl,rfl,SubS.refl _⟩
end
abbrev zE : List V := [V.val (Value.int IntKind.i64 0),V.val (Value.string (ByteArray.mk #[])),V.val (Value.int IntKind.i64 0),V.sl [] [] Tok.full,V.val (Value.int IntKind.i64 0)]
theorem isS_self {t : Tk} (h : (t.k == 4) = true) : isS t.s t = true := by simp [isS,h]
theorem zcF {n : Nat} {r : Rule} {l : List Tk} {p : PR} (h : run n r l = some p) : ∃ j t l',n = j + 1 ∧ l = t :: l' ∧ step (run j) t l' r = some p := by
 cases n with
 | zero => cases h
 | succ j =>
  cases l with
  | nil => cases h
  | cons t l' => exact ⟨j,t,l',rfl,rfl,h⟩
theorem expr_ok {Γ : Glob} {n : Nat} (h : ∀ k < n,ExH Γ k ∧ UnH Γ k) : ExH Γ n := by
 intro line l p m rb hl hr hs hp
 replace hp := zcF hp
 obtain ⟨n,tk,l,rfl,rfl,hp⟩ := hp
 simp only [step] at hp
 refine zcH (zae mixed F186_ok zdV ?_)
 simp only [F186,ss0,zeW,zeQ]
 simp only [ssS,zeQ,zeO,reduceIte,zeP]
 refine zaq fun b4 hb4 => ?_
 have h4 := zal hr hb4
 have hE := (Ext.refl m rb).alloc hb4 (.var 206 zE)
 have hr4 : (m.set b4 (.var 206 zE)) rb = some (rdr (tk :: l)) := by rw [Store.set_ne _ _ h4]; exact hr
 simp only [ssS,zeQ,zeO,reduceIte,zeP]
 refine zat (fun hc => ?_) (fun hc => ?_)
 ·have h6 : line = 6 := by have := eq_of_beq hc; omega
  rw [if_pos h6] at hp
  simp only [ssS,zeQ,zeO,reduceIte,zeP]
  refine zau ((h n (by omega)).2 (tk :: l) p _ rb hr4 hs hp) (fun es l1 e => ?_) (fun l1 b2 e hb2 => ?_)
  ·subst e
   obtain ⟨e,rfl⟩ := hs
   obtain ⟨k,s,nn,kids,ln⟩ := e
   simp only [hdV,exV,Store.set_ne _ _ h4.symm,Store.set_same,ssS,zeQ,zeO,reduceIte,zeP]
   refine zbX (b := b4) rfl (Store.set_same _ _ _) (zaU _) ?_
   exact ((hE.rd _).loc hb4 _).ret (by rw [Store.set_ne _ _ h4,Store.set_same])
  ·subst e
   exact zbt hE hr4 hb2
 ·have h6 : ¬ line = 6 := by
   intro e
   rw [e] at hc
   simp at hc
  rw [if_neg h6] at hp
  simp only [zax (show line < 4611686018427387904 by omega),ssS,zeQ,zeO,reduceIte,zeP]
  rcases zck hp with ⟨e,l1,h1,h2⟩ | ⟨l1,h1,rfl⟩
  case inr =>
   refine zau ((h n (by omega)).1 (line + 1) (tk :: l) (.st l1) _ rb (by omega) hr4 trivial h1) (by rintro es l2 ⟨⟩) ?_
   rintro l2 b2 ⟨⟩ hb2
   exact zbt hE hr4 hb2
  case inl =>
   refine zau ((h n (by omega)).1 (line + 1) (tk :: l) (.ok [e] l1) _ rb (by omega) hr4 ⟨e,rfl⟩ h1) ?_ (by rintro l2 b2 ⟨⟩)
   rintro es l2 ⟨⟩
   obtain ⟨k,s,nn,kids,ln⟩ := e
   obtain ⟨_,tk2,l2,_,rfl,_⟩ := zcF h2
   have hE2 := hE.rd (rdr (tk2 :: l2))
   simp only [hdV,exV,ssS,zeQ,zeO,reduceIte,zeP]
   refine zaq fun b5 hb5 => ?_
   have h5 := zal (Store.set_same _ _ _) hb5
   have h45 : b4 ≠ b5 := zal (x := .var 206 zE) (by rw [Store.set_ne _ _ h4.symm,Store.set_same]) hb5
   have hm5 := hE2.none (Store.set_same _ _ _) hb5
   simp only [Store.set_same,Store.set_set,Store.set_ne _ _ h5,rdr,idx_tk,ld5,ssS,zeQ,zeO,reduceIte,zeP]
   refine zaq fun b6 hb6 => ?_
   have h6r : rb ≠ b6 := zal (x := rdr (tk2 :: l2)) (by rw [Store.set_ne _ _ h5,Store.set_same]; rfl) hb6
   have h46 : b4 ≠ b6 := zal (x := .var 206 zE) (by rw [Store.set_ne _ _ h45,Store.set_ne _ _ h4.symm,Store.set_same]) hb6
   have h56 : b5 ≠ b6 := zal (Store.set_same _ _ _) hb6
   simp only [Store.set_same,Store.set_set,ssS,zeQ,zeO,reduceIte,zeP]
   refine awp_loop' (fun j st => ∃ (k : Int) (s : List UInt8) (nn : Int) (kids : List Ex) (ln : Int) (vs : List V) (tok : Tok) (tk : Tk) (l : List Tk) (b6 : Nat),j ≤ n ∧ run j (.lp line (.mk k s nn kids ln)) (tk :: l) = some p ∧ za9 vs = exVs kids ∧ st.m b4 = some (.var 206 zE) ∧ st.m b5 = some (.var 206 [it k,bs s,it nn,.sl vs [] tok,it ln]) ∧ st.m b6 = some (.var 185 [it tk.k,bs tk.s,it tk.n,it tk.l,it tk.a]) ∧ st.m rb = some (rdr (tk :: l)) ∧ Ext m rb st.m ∧ st.t.length = 54 ∧ tget st.t 0 = .ptr rb 0 ∧ tget st.t 1 = it line ∧ tget st.t 4 = .ptr b4 0 ∧ tget st.t 5 = .ptr b5 0 ∧ tget st.t 6 = .ptr b6 0)
    n ⟨k,s,nn,kids,ln,exVs kids,.no,tk2,l2,b6,zfq _,h2,zaU _,?_,?_,Store.set_same _ _ _,?_,?_,rfl,rfl,rfl,rfl,rfl,rfl⟩ ?_
   ·show (Store.set _ _ _) _ = _
    rw [Store.set_ne _ _ h46,Store.set_ne _ _ h45,Store.set_ne _ _ h4.symm,Store.set_same]
   ·show (Store.set _ _ _) _ = _
    rw [Store.set_ne _ _ h56,Store.set_same]
   ·show (Store.set _ _ _) _ = _
    rw [Store.set_ne _ _ h6r,Store.set_ne _ _ h5,Store.set_same]; rfl
   ·exact (hE2.alloc hb5 _).alloc hb6 _
   clear h6r h46 h56 hb6 b6 h2 h1 hp hE2 hb5
   rintro j ⟨t,S⟩ J hJ ⟨k,s,nn,kids,ln,vs,tok,tk,l,b6,hjn,g1,hv,s4,s5,s6,sr,hES,hlen,t0,t1,t4,t5,t6⟩
   simp only at s4 s5 s6 sr hES hlen t0 t1 t4 t5 t6
   have n46 : b6 ≠ b4 := by rintro rfl; rw [s4] at s6; cases s6
   have n56 : b6 ≠ b5 := by rintro rfl; rw [s5] at s6; cases s6
   have n6r : b6 ≠ rb := by rintro rfl; rw [sr] at s6; cases s6
   have n5r : b5 ≠ rb := h5.symm
   have n4r : b4 ≠ rb := h4.symm
   replace g1 := zcF g1
   obtain ⟨j,_,_,rfl,hc,g1⟩ := g1
   cases hc
   simp only [step] at g1
   rw [t_eq hlen]
   simp only [zaE,zaY,zeQ,t0,t1,t4,t5,t6]
   simp only [s6,ssS,zeQ,zeO,reduceIte,zeP]
   have hfin : ∀ (t : List V),tget t 4 = .ptr b4 0 → bodyA [ARes.cell 4 (some 5)] (PL m rb hdV (.ok [.mk k s nn kids ln] (tk :: l))) .ret ⟨t,S.set b4 (.var 206 [it k,bs s,it nn,.sl vs [] tok,it ln])⟩ := by
    intro t ht
    refine zbX (b := b4) ht (Store.set_same _ _ _) hv ?_
    exact (hES.loc hb4 _).ret (by rw [Store.set_ne _ _ h4]; exact sr)
   cases hk : (tk.k == 4)
   ·simp only [hk,Bool.false_and,zeX,if_false,Option.some.injEq] at g1
    subst g1
    simp only [s4,s5,ssS,zeQ,zeO,reduceIte,zeP]
    exact hfin _ rfl
   ·simp only [s6,ssS,zeQ,zeO,reduceIte,zeP]
    refine zak (level_ok _) ?_
    simp only [ssS,zeQ,zeO,reduceIte,zeP]
    cases hlv : (level tk.s == (line : Int))
    ·simp only [hk,hlv,Bool.and_false,zeX,if_false,Option.some.injEq] at g1
     subst g1
     simp only [s4,s5,ssS,zeQ,zeO,reduceIte,zeP]
     exact hfin _ rfl
    ·simp only [hk,hlv,Bool.and_self,if_true] at g1
     simp only [s6,ssS,zeQ,zeO,reduceIte,zeP]
     refine zau (zdv (s := tk.s) (p := .ok [] l) sr (by simp only [zcW,isS_self hk,if_true])) ?_ (by rintro l2 b2 ⟨⟩)
     rintro es l0 ⟨⟩
     simp only [Store.set_ne _ _ n6r,Store.set_ne _ _ n5r,s6,s5,zax (show line < 4611686018427387904 by omega),ssS,zeQ,zeO,reduceIte,zeP]
     have hr2 : (S.set rb (rdr l)) rb = some (rdr l) := Store.set_same _ _ _
     rcases zck g1 with ⟨e2,l3,k1,k2⟩ | ⟨l3,k1,rfl⟩
     case inr =>
      refine zau ((h j (by omega)).1 (line + 1) l (.st l3) _ rb (by omega) hr2 trivial k1) (by rintro es l2 ⟨⟩) ?_
      rintro l2 b2 ⟨⟩ hb2
      exact zbt (hES.rd _) hr2 hb2
     case inl =>
      refine zau ((h j (by omega)).1 (line + 1) l (.ok [e2] l3) _ rb (by omega) hr2 ⟨e2,rfl⟩ k1) ?_ (by rintro l2 b2 ⟨⟩)
      rintro es l4 ⟨⟩
      obtain ⟨_,tk3,l4,_,rfl,_⟩ := zcF k2
      simp only [hdV,Store.set_set,Store.set_ne _ _ n56,Store.set_ne _ _ n6r,Store.set_ne _ _ n5r,s6,s5,lit52_eq,lits5_two (v := .agg [it k,bs s,it nn,.sl vs [] tok,it ln]) (u := exV e2) rfl (zcP e2),ssS,zeQ,zeO,reduceIte,zeP]
      refine zaq fun b7 hb7 => ?_
      have q7r : rb ≠ b7 := zal (x := rdr (tk3 :: l4)) (by rw [Store.set_ne _ _ h5,Store.set_same]) hb7
      have q57 : b5 ≠ b7 := zal (Store.set_same _ _ _) hb7
      have q47 : b4 ≠ b7 := zal (by rw [Store.set_ne _ _ h45,Store.set_ne _ _ n4r]; exact s4) hb7
      have q67 : b6 ≠ b7 := zal (by rw [Store.set_ne _ _ n56,Store.set_ne _ _ n6r]; exact s6) hb7
      simp only [Store.set_same,Store.set_set,Store.set_ne _ _ q7r,Store.set_ne _ _ q67,Store.set_ne _ _ h5,Store.set_ne _ _ n56,Store.set_ne _ _ n6r,s6,rdr,idx_tk,ld5,ssS,zeQ,zeO,reduceIte,zeP]
      refine hJ j _ (by omega) ⟨7,tk.s,0,[.mk k s nn kids ln,e2],ln,[.agg [it k,bs s,it nn,.sl vs [] tok,it ln],exV e2],.full,tk3,l4,b7,by omega,k2,?_,?_,?_,Store.set_same _ _ _,?_,?_,rfl,rfl,rfl,rfl,rfl,rfl⟩
      ·simp only [za9,weak,exVs,exV,hv,weak_exV,bs]
      ·show (Store.set _ _ _) _ = _
       rw [Store.set_ne _ _ q47,Store.set_ne _ _ h45,Store.set_ne _ _ n4r]; exact s4
      ·show (Store.set _ _ _) _ = _
       rw [Store.set_ne _ _ q57,Store.set_same]
      ·show (Store.set _ _ _) _ = _
       rw [Store.set_ne _ _ q7r,Store.set_ne _ _ h5,Store.set_same]; rfl
      ·exact ((hES.rd _).loc hm5 _).alloc hb7 _
theorem unary_ok {Γ : Glob} {n : Nat} (h : ∀ k < n,ExH Γ k ∧ UnH Γ k ∧ SiH Γ k) : UnH Γ n := by
 intro l p m rb hr hs hp
 replace hp := zcF hp
 obtain ⟨n,tk,l,rfl,rfl,hp⟩ := hp
 simp only [step] at hp
 refine zcH (zae mixed F202_ok zdV ?_)
 simp only [F202,ss0,zeW,zeQ]
 simp only [ssS,zeQ,zeO,reduceIte,zeP]
 refine zaq fun b2 hb2 => ?_
 have h2 := zal hr hb2
 have hE := (Ext.refl m rb).alloc hb2 (.var 206 zE)
 simp only [Store.set_ne _ _ h2,hr,rdr,idx_tk,ld5,ssS,zeQ,zeO,reduceIte,zeP]
 refine zaq fun b3 hb3 => ?_
 have h3 : rb ≠ b3 := zal (x := rdr (tk :: l)) (by rw [Store.set_ne _ _ h2]; exact hr) hb3
 have h23 : b2 ≠ b3 := zal (Store.set_same _ _ _) hb3
 simp only [Store.set_same,Store.set_set,ssS,zeQ,zeO,reduceIte,zeP]
 obtain ⟨S,hS⟩ : ∃ S,(m.set b2 (.var 206 zE)).set b3 (.var 185 [it tk.k,bs tk.s,it tk.n,it tk.l,it tk.a]) = S := ⟨_,rfl⟩
 have s2 : S b2 = some (.var 206 zE) := by rw [← hS,Store.set_ne _ _ h23,Store.set_same]
 have s3 : S b3 = some (.var 185 [it tk.k,bs tk.s,it tk.n,it tk.l,it tk.a]) := by rw [← hS,Store.set_same]
 have sr : S rb = some (rdr (tk :: l)) := by rw [← hS,Store.set_ne _ _ h3,Store.set_ne _ _ h2]; exact hr
 have hES : Ext m rb S := by rw [← hS]; exact hE.alloc hb3 _
 rw [hS]
 clear hS hE hb3
 have n2r := h2.symm
 have n3r := h3.symm
 have n32 := h23.symm
 cases hi : isS [45] tk
 ·refine zak (zcp sr hi) ?_
  simp only [ssS,zeQ,zeO,reduceIte,zeP]
  cases hj : isS [33] tk
  ·-- neither
   simp only [hi,hj,Bool.or_self,zeX,if_false] at hp
   refine zak (zcp sr hj) ?_
   simp only [ssS,zeQ,zeO,reduceIte,zeP]
   rcases zck hp with ⟨e,l1,h1,k2⟩ | ⟨l1,h1,rfl⟩
   case inr =>
    refine zau ((h n (by omega)).2.2 (tk :: l) (.st l1) _ rb sr trivial h1) (by rintro es l2 ⟨⟩) ?_
    rintro l2 b ⟨⟩ hb
    exact zbt hES sr hb
   case inl =>
    refine zau ((h n (by omega)).2.2 (tk :: l) (.ok [e] l1) _ rb sr ⟨e,rfl⟩ h1) ?_ (by rintro l2 b ⟨⟩)
    rintro es l2 ⟨⟩
    obtain ⟨k,s,nn,kids,ln⟩ := e
    obtain ⟨_,tk2,l2,_,rfl,_⟩ := zcF k2
    simp only [hdV,exV,ssS,zeQ,zeO,reduceIte,zeP]
    refine zaq fun b4 hb4 => ?_
    have h4 := zal (Store.set_same _ _ _) hb4
    have h24 : b2 ≠ b4 := zal (by rw [Store.set_ne _ _ n2r]; exact s2) hb4
    have hE2 := hES.rd (rdr (tk2 :: l2))
    have hm4 := hE2.none (Store.set_same _ _ _) hb4
    simp only [Store.set_same,Store.set_set,ssS,zeQ,zeO,reduceIte,zeP]
    refine awp_loop' (fun j st => ∃ (k : Int) (s : List UInt8) (nn : Int) (kids : List Ex) (ln : Int) (vs : List V) (tok : Tok) (tk : Tk) (l : List Tk),j ≤ n ∧ run j (.po (.mk k s nn kids ln)) (tk :: l) = some p ∧ za9 vs = exVs kids ∧ st.m b2 = some (.var 206 zE) ∧ st.m b4 = some (.var 206 [it k,bs s,it nn,.sl vs [] tok,it ln]) ∧ st.m rb = some (rdr (tk :: l)) ∧ Ext m rb st.m ∧ st.t.length = 50 ∧ tget st.t 0 = .ptr rb 0 ∧ tget st.t 2 = .ptr b2 0 ∧ tget st.t 4 = .ptr b4 0)
     n ⟨k,s,nn,kids,ln,exVs kids,.no,tk2,l2,zfq _,k2,zaU _,?_,Store.set_same _ _ _,?_,hE2.alloc hb4 _,rfl,rfl,rfl,rfl⟩ ?_
    ·show (Store.set _ _ _) _ = _
     rw [Store.set_ne _ _ h24,Store.set_ne _ _ n2r]; exact s2
    ·show (Store.set _ _ _) _ = _
     rw [Store.set_ne _ _ h4,Store.set_same]
    clear hE2 hb4 k2 h1 hp
    clear s2 s3 sr hES S
    rintro j ⟨t,S⟩ J hJ ⟨k,s,nn,kids,ln,vs,tok,tk,l,hjn,g1,hv,s2,s4,sr,hES,hlen,t0,t2,t4⟩
    simp only at s2 s4 sr hES hlen t0 t2 t4
    have n4r := h4.symm
    have n42 := h24.symm
    replace g1 := zcF g1
    obtain ⟨j,_,_,rfl,hc,g1⟩ := g1
    cases hc
    simp only [step] at g1
    rw [t_eq hlen]
    simp only [zaE,zaY,zeQ,t0,t2,t4]
    simp only [ssS,zeQ,zeO,reduceIte,zeP]
    cases hi : isS [91] tk
    ·refine zak (zcp sr hi) ?_
     simp only [hi,zeX,if_false] at g1
     simp only [ssS,zeQ,zeO,reduceIte,zeP]
     cases hj : isS [46] tk
     ·refine zak (zcp sr hj) ?_
      simp only [hj,zeX,if_false,Option.some.injEq] at g1
      subst g1
      simp only [s4,s2,ssS,zeQ,zeO,reduceIte,zeP]
      refine zbX (b := b2) rfl (Store.set_same _ _ _) hv ?_
      exact (hES.loc hb2 _).ret (by rw [Store.set_ne _ _ h2]; exact sr)
     ·refine zaK (zbP sr hj) ?_
      simp only [hj,if_true] at g1
      simp only [Store.set_ne _ _ n4r,s4,lit5_eq,lits5_one (v := .agg [it k,bs s,it nn,.sl vs [] tok,it ln]) rfl,ssS,zeQ,zeO,reduceIte,zeP]
      have hr2 : (S.set rb (rdr l)) rb = some (rdr l) := Store.set_same _ _ _
      cases l with
      | nil => cases g1
      | cons t3 l =>
       simp only [nameK] at g1
       by_cases h1 : t3.k = 1
       ·rw [if_pos h1] at g1
        obtain ⟨_,tk4,l4,_,rfl,_⟩ := zcF g1
        refine zaK (name_yes hr2 h1) ?_
        simp only [Store.set_set,Store.set_ne _ _ n4r,s4,ssS,zeQ,zeO,reduceIte,zeP]
        refine hJ j _ (by omega) ⟨9,t3.s,0,[.mk k s nn kids ln],ln,[.agg [it k,bs s,it nn,.sl vs [] tok,it ln]],.full,tk4,l4,by omega,g1,?_,?_,Store.set_same _ _ _,?_,(hES.rd _).loc hm4 _,rfl,rfl,rfl,rfl⟩
        ·simp only [za9,weak,exVs,exV,hv,bs]
        ·show (Store.set _ _ _) _ = _
         rw [Store.set_ne _ _ h24,Store.set_ne _ _ n2r]; exact s2
        ·show (Store.set _ _ _) _ = _
         rw [Store.set_ne _ _ h4,Store.set_same]
       ·rw [if_neg h1,Option.some.injEq] at g1
        subst g1
        refine zau (name_no (val := hdV) hr2 h1) (by rintro es l2 ⟨⟩) ?_
        rintro l2 b ⟨⟩ hb
        exact zbt (hES.rd _) hr2 hb
    ·refine zaK (zbP sr hi) ?_
     simp only [hi,if_true] at g1
     simp only [Store.set_ne _ _ n4r,s4,ssS,zeQ,zeO,reduceIte,zeP]
     have hr2 : (S.set rb (rdr l)) rb = some (rdr l) := Store.set_same _ _ _
     rcases zck g1 with ⟨e2,l3,k1,k2⟩ | ⟨l3,k1,rfl⟩
     case inr =>
      refine zau ((h j (by omega)).1 0 l (.st l3) _ rb (by omega) hr2 trivial k1) (by rintro es l2 ⟨⟩) ?_
      rintro l2 b ⟨⟩ hb
      exact zbt (hES.rd _) hr2 hb
     case inl =>
      refine zau ((h j (by omega)).1 0 l (.ok [e2] l3) _ rb (by omega) hr2 ⟨e2,rfl⟩ k1) ?_ (by rintro l2 b ⟨⟩)
      rintro es l4 ⟨⟩
      simp only [hdV,Store.set_set,Store.set_ne _ _ n4r,s4,lit52_eq,lits5_two (v := .agg [it k,bs s,it nn,.sl vs [] tok,it ln]) (u := exV e2) rfl (zcP e2),ssS,zeQ,zeO,reduceIte,zeP]
      cases l3 with
      | nil => cases k2
      | cons t5 l3 =>
       simp only [zcW] at k2
       have hr3 : ((S.set rb (rdr (t5 :: l3))).set b4 (.var 206 [it 8,bs [],it 0,.sl [.agg [it k,bs s,it nn,.sl vs [] tok,it ln],exV e2] [] .full,it ln])) rb = some (rdr (t5 :: l3)) := by
        rw [Store.set_ne _ _ h4,Store.set_same]
       cases hj : isS [93] t5
       ·simp only [hj,zeX,if_false,Option.some.injEq] at k2
        subst k2
        refine zau (zdv (s := [93]) (p := .st (t5 :: l3)) hr3 (by simp only [zcW,hj,zeX,if_false])) (by rintro es l2 ⟨⟩) ?_
        rintro l2 b ⟨⟩ hb
        exact zbt ((hES.rd _).loc hm4 _) hr3 hb
       ·simp only [hj,if_true] at k2
        obtain ⟨_,tk4,l5,_,rfl,_⟩ := zcF k2
        refine zau (zdv (s := [93]) (p := .ok [] (tk4 :: l5)) hr3 (by simp only [zcW,hj,if_true])) ?_ (by rintro l2 b2 ⟨⟩)
        rintro es l0 ⟨⟩
        simp only [ssS,zeQ,zeO,reduceIte,zeP]
        refine hJ j _ (by omega) ⟨8,[],0,[.mk k s nn kids ln,e2],ln,[.agg [it k,bs s,it nn,.sl vs [] tok,it ln],exV e2],.full,tk4,l5,by omega,k2,?_,?_,?_,Store.set_same _ _ _,((hES.rd _).loc hm4 _).rd _,rfl,rfl,rfl,rfl⟩
        ·simp only [za9,weak,exVs,exV,hv,weak_exV,bs]
        ·show (Store.set _ _ _) _ = _
         rw [Store.set_ne _ _ n2r,Store.set_ne _ _ h24,Store.set_ne _ _ n2r]; exact s2
        ·show (Store.set _ _ _) _ = _
         rw [Store.set_ne _ _ n4r,Store.set_same]; rfl
  ·-- !
   simp only [hi,hj,Bool.or_true,Bool.true_or,if_true] at hp
   refine zaK (zbP sr hj) ?_
   simp only [Store.set_ne _ _ n3r,s3,ssS,zeQ,zeO,reduceIte,zeP]
   have hr2 : (S.set rb (rdr l)) rb = some (rdr l) := Store.set_same _ _ _
   rcases zck hp with ⟨e,l1,h1,k2⟩ | ⟨l1,h1,rfl⟩
   case inr =>
    refine zau ((h n (by omega)).2.1 l (.st l1) _ rb hr2 trivial h1) (by rintro es l2 ⟨⟩) ?_
    rintro l2 b ⟨⟩ hb
    exact zbt (hES.rd _) hr2 hb
   case inl =>
    refine zau ((h n (by omega)).2.1 l (.ok [e] l1) _ rb hr2 ⟨e,rfl⟩ h1) ?_ (by rintro l2 b ⟨⟩)
    rintro es l2 ⟨⟩
    cases k2
    simp only [hdV,Store.set_set,Store.set_ne _ _ n3r,Store.set_ne _ _ n2r,s2,s3,lit5_eq,lits5_one (zcP e),ssS,zeQ,zeO,reduceIte,zeP]
    refine zbX (b := b2) rfl (Store.set_same _ _ _) (by simp only [za9,weak_exV,exVs]) ?_
    exact ((hES.rd _).loc hb2 _).ret (by rw [Store.set_ne _ _ h2,Store.set_same])
 ·-- -
  simp only [hi,Bool.true_or,if_true] at hp
  refine zaK (zbP sr hi) ?_
  simp only [Store.set_ne _ _ n3r,s3,ssS,zeQ,zeO,reduceIte,zeP]
  have hr2 : (S.set rb (rdr l)) rb = some (rdr l) := Store.set_same _ _ _
  rcases zck hp with ⟨e,l1,h1,k2⟩ | ⟨l1,h1,rfl⟩
  case inr =>
   refine zau ((h n (by omega)).2.1 l (.st l1) _ rb hr2 trivial h1) (by rintro es l2 ⟨⟩) ?_
   rintro l2 b ⟨⟩ hb
   exact zbt (hES.rd _) hr2 hb
  case inl =>
   refine zau ((h n (by omega)).2.1 l (.ok [e] l1) _ rb hr2 ⟨e,rfl⟩ h1) ?_ (by rintro l2 b ⟨⟩)
   rintro es l2 ⟨⟩
   cases k2
   simp only [hdV,Store.set_set,Store.set_ne _ _ n3r,Store.set_ne _ _ n2r,s2,s3,lit5_eq,lits5_one (zcP e),ssS,zeQ,zeO,reduceIte,zeP]
   refine zbX (b := b2) rfl (Store.set_same _ _ _) (by simp only [za9,weak_exV,exVs]) ?_
   exact ((hES.rd _).loc hb2 _).ret (by rw [Store.set_ne _ _ h2,Store.set_same])
theorem single_ok {Γ : Glob} {n : Nat} (hn0 : n ≤ 1099511627776) (h : ∀ k < n,ExH Γ k) : SiH Γ n := by
 intro l p m rb hr hs hp
 replace hp := zcF hp
 obtain ⟨n,tk,l,rfl,rfl,hp⟩ := hp
 simp only [step,singleR] at hp
 have hle : ∀ k ≤ n,ExH Γ k := fun k hk => h k (by omega)
 refine zcH (zae mixed F229_ok zdV ?_)
 simp only [F229,ss0,zeW,zeQ]
 simp only [ssS,zeQ,zeO,reduceIte,zeP]
 refine zaq fun b2 hb2 => ?_
 have h2 := zal hr hb2
 have hE := (Ext.refl m rb).alloc hb2 (.var 206 zE)
 simp only [Store.set_ne _ _ h2,hr,rdr,idx_tk,ld5,ssS,zeQ,zeO,reduceIte,zeP]
 refine zaq fun b3 hb3 => ?_
 have h3 : rb ≠ b3 := zal (x := rdr (tk :: l)) (by rw [Store.set_ne _ _ h2]; exact hr) hb3
 have h23 : b2 ≠ b3 := zal (Store.set_same _ _ _) hb3
 simp only [Store.set_same,Store.set_set,ssS,zeQ,zeO,reduceIte,zeP]
 refine zaq fun b4 hb4 => ?_
 have h4 : rb ≠ b4 := zal (x := rdr (tk :: l)) (by rw [Store.set_ne _ _ h3,Store.set_ne _ _ h2]; exact hr) hb4
 have h24 : b2 ≠ b4 := zal (x := .var 206 zE) (by rw [Store.set_ne _ _ h23,Store.set_same]) hb4
 have h34 : b3 ≠ b4 := zal (Store.set_same _ _ _) hb4
 have hm4 := (hE.alloc hb3 (.var 185 [it tk.k,bs tk.s,it tk.n,it tk.l,it tk.a])).none (y := rdr (tk :: l)) (by rw [Store.set_ne _ _ h3,Store.set_ne _ _ h2]; exact hr) hb4
 simp only [Store.set_same,Store.set_set,ssS,zeQ,zeO,reduceIte,zeP]
 obtain ⟨S,hS⟩ : ∃ S,((m.set b2 (.var 206 zE)).set b3 (.var 185 [it tk.k,bs tk.s,it tk.n,it tk.l,it tk.a])).set b4 (.var 206 [V.val (Value.int IntKind.i64 0),V.val (Value.string (ByteArray.mk #[])),V.val (Value.int IntKind.i64 0),V.sl [] [] Tok.full,it tk.l]) = S := ⟨_,rfl⟩
 have s2 : S b2 = some (.var 206 zE) := by rw [← hS,Store.set_ne _ _ h24,Store.set_ne _ _ h23,Store.set_same]
 have s3 : S b3 = some (.var 185 [it tk.k,bs tk.s,it tk.n,it tk.l,it tk.a]) := by rw [← hS,Store.set_ne _ _ h34,Store.set_same]
 have s4 : S b4 = some (.var 206 [V.val (Value.int IntKind.i64 0),V.val (Value.string (ByteArray.mk #[])),V.val (Value.int IntKind.i64 0),V.sl [] [] Tok.full,it tk.l]) := by rw [← hS,Store.set_same]
 have sr : S rb = some (rdr (tk :: l)) := by rw [← hS,Store.set_ne _ _ h4,Store.set_ne _ _ h3,Store.set_ne _ _ h2]; exact hr
 have hES : Ext m rb S := by rw [← hS]; exact (hE.alloc hb3 _).alloc hb4 _
 rw [hS]
 clear hS hE hb3 hb4
 have n2r := h2.symm
 have n3r := h3.symm
 have n4r := h4.symm
 have n32 := h23.symm
 have n42 := h24.symm
 have n43 := h34.symm
 have hr2 : ∀ l,(S.set rb (rdr l)) rb = some (rdr l) := fun l => Store.set_same _ _ _
 have sr' : S rb = some (.var 273 [.sl (tkV tk :: l.map tkV) [] .no]) := sr
 cases k2 : (tk.k == 2)
 case true =>
  rw [if_pos (eq_of_beq k2),Option.some.injEq] at hp
  subst hp
  simp only [k2,s3,s4,s2,sr',zbw,cut_tk,Store.set_same,Store.set_set,Store.set_ne _ _ n2r,Store.set_ne _ _ n3r,Store.set_ne _ _ n4r,Store.set_ne _ _ h24,Store.set_ne _ _ h34,ssS,zeQ,zeO,reduceIte,zeP]
  refine zbX (b := b2) (s := []) (kids := []) (vs := []) rfl (Store.set_same _ _ _) rfl ?_
  exact (((hES.rd _).loc hm4 _).loc hb2 _).ret (by rw [Store.set_ne _ _ h2,Store.set_ne _ _ h4,Store.set_same]; rfl)
 rw [if_neg (by intro e; simp [e] at k2)] at hp
 cases k3 : (tk.k == 3)
 case true =>
  rw [if_pos (eq_of_beq k3),Option.some.injEq] at hp
  subst hp
  simp only [k2,k3,s3,s4,s2,sr',zbw,cut_tk,Store.set_same,Store.set_set,Store.set_ne _ _ n2r,Store.set_ne _ _ n3r,Store.set_ne _ _ n4r,Store.set_ne _ _ h24,Store.set_ne _ _ h34,ssS,zeQ,zeO,reduceIte,zeP]
  refine zbX (b := b2) (kids := []) (vs := []) rfl (Store.set_same _ _ _) rfl ?_
  exact (((hES.rd _).loc hm4 _).loc hb2 _).ret (by rw [Store.set_ne _ _ h2,Store.set_ne _ _ h4,Store.set_same]; rfl)
 rw [if_neg (by intro e; simp [e] at k3)] at hp
 cases k1 : (tk.k == 1)
 case true =>
  rw [if_pos (eq_of_beq k1)] at hp
  simp only [k2,k3,k1,s3,ssS,zeQ,zeO,reduceIte,zeP]
  refine zaK (name_yes sr (eq_of_beq k1)) ?_
  simp only [Store.set_ne _ _ n4r,s4,Store.set_same,Store.set_set,ssS,zeQ,zeO,reduceIte,zeP]
  cases l with
  | nil => cases hp
  | cons t2 l =>
   simp only [callR] at hp
   have hr4 : ∀ x,((S.set rb (rdr (t2 :: l))).set b4 x) rb = some (rdr (t2 :: l)) := fun x => by rw [Store.set_ne _ _ h4,Store.set_same]
   cases hi : isS [40] t2
   ·simp only [hi,zeX,if_false,Option.some.injEq] at hp
    subst hp
    refine zak (zcp (hr4 _) hi) ?_
    simp only [Store.set_ne _ _ h24,Store.set_ne _ _ n2r,s2,Store.set_same,Store.set_set,ssS,zeQ,zeO,reduceIte,zeP]
    refine zbX (b := b2) (kids := []) (vs := []) rfl (Store.set_same _ _ _) rfl ?_
    exact (((hES.rd _).loc hm4 _).loc hb2 _).ret (by rw [Store.set_ne _ _ h2]; exact hr4 _)
   ·simp only [hi,if_true] at hp
    refine zaK (zbP (hr4 _) hi) ?_
    simp only [ssS,zeQ,zeO,reduceIte,zeP]
    rcases bindL_inv hp with ⟨es,l3,q1,q2⟩ | ⟨l3,q1,rfl⟩
    case inr =>
     refine zau (until_ok (by omega) hle (Store.set_same _ _ _) q1) (by rintro es l2 ⟨⟩) ?_
     rintro l2 b ⟨⟩ hb
     exact zbt (((hES.rd _).loc hm4 _).rd _) (Store.set_same _ _ _) hb
    case inl =>
     refine zau (until_ok (by omega) hle (Store.set_same _ _ _) q1) ?_ (by rintro l2 b ⟨⟩)
     rintro es2 l4 ⟨⟩
     cases q2
     simp only [slV,Store.set_set,Store.set_ne _ _ n4r,Store.set_ne _ _ h24,Store.set_ne _ _ n2r,s2,Store.set_same,ssS,zeQ,zeO,reduceIte,zeP]
     refine zbX (b := b2) rfl (Store.set_same _ _ _) (zaU _) ?_
     exact ((((hES.rd _).loc hm4 _).rd _).loc hm4 _ |>.loc hb2 _).ret (by rw [Store.set_ne _ _ h2,Store.set_ne _ _ h4,Store.set_same])
 rw [if_neg (by intro e; simp [e] at k1)] at hp
 simp only [k2,k3,k1,s3,ssS,zeQ,zeO,reduceIte,zeP]
 cases i1 : isS [116,114,117,101] tk
 case true =>
  rw [if_pos i1,Option.some.injEq] at hp
  subst hp
  refine zaK (zbP sr i1) ?_
  simp only [s3,s4,s2,Store.set_same,Store.set_set,Store.set_ne _ _ n2r,Store.set_ne _ _ n3r,Store.set_ne _ _ n4r,Store.set_ne _ _ h24,Store.set_ne _ _ h34,ssS,zeQ,zeO,reduceIte,zeP]
  refine zbX (b := b2) (s := []) (kids := []) (vs := []) rfl (Store.set_same _ _ _) rfl ?_
  exact (((hES.rd _).loc hm4 _).loc hb2 _).ret (by rw [Store.set_ne _ _ h2,Store.set_ne _ _ h4,Store.set_same])
 rw [if_neg (by rw [i1]; decide)] at hp
 refine zak (zcp sr i1) ?_
 simp only [ssS,zeQ,zeO,reduceIte,zeP]
 cases i2 : isS [102,97,108,115,101] tk
 case true =>
  rw [if_pos i2,Option.some.injEq] at hp
  subst hp
  refine zaK (zbP sr i2) ?_
  simp only [s3,s4,s2,Store.set_same,Store.set_set,Store.set_ne _ _ n2r,Store.set_ne _ _ n3r,Store.set_ne _ _ n4r,Store.set_ne _ _ h24,Store.set_ne _ _ h34,ssS,zeQ,zeO,reduceIte,zeP]
  refine zbX (b := b2) (s := []) (kids := []) (vs := []) rfl (Store.set_same _ _ _) rfl ?_
  exact (((hES.rd _).loc hm4 _).loc hb2 _).ret (by rw [Store.set_ne _ _ h2,Store.set_ne _ _ h4,Store.set_same])
 rw [if_neg (by rw [i2]; decide)] at hp
 refine zak (zcp sr i2) ?_
 simp only [ssS,zeQ,zeO,reduceIte,zeP]
 cases i3 : isS [110,101,119] tk
 case true =>
  rw [if_pos i3] at hp
  refine zaK (zbP sr i3) ?_
  simp only [ssS,zeQ,zeO,reduceIte,zeP]
  cases l with
  | nil => cases hp
  | cons t2 l =>
   simp only [nameK] at hp
   by_cases q : t2.k = 1
   ·rw [if_pos q] at hp
    refine zaK (name_yes (hr2 _) q) ?_
    simp only [Store.set_ne _ _ n4r,s4,Store.set_same,Store.set_set,ssS,zeQ,zeO,reduceIte,zeP]
    cases l with
    | nil => cases hp
    | cons t3 l =>
     simp only [zcW] at hp
     have hr4 : ∀ x,((S.set rb (rdr (t3 :: l))).set b4 x) rb = some (rdr (t3 :: l)) := fun x => by rw [Store.set_ne _ _ h4,Store.set_same]
     cases hi : isS [40] t3
     ·simp only [hi,zeX,if_false,Option.some.injEq] at hp
      subst hp
      refine zau (zdv (s := [40]) (p := .st (t3 :: l)) (hr4 _) (by simp only [zcW,hi,zeX,if_false])) (by rintro es l2 ⟨⟩) ?_
      rintro l2 b ⟨⟩ hb
      exact zbt ((hES.rd _).loc hm4 _) (hr4 _) hb
     ·simp only [hi,if_true] at hp
      refine zau (zdv (s := [40]) (p := .ok [] l) (hr4 _) (by simp only [zcW,hi,if_true])) ?_ (by rintro l2 b2 ⟨⟩)
      rintro es l0 ⟨⟩
      simp only [ssS,zeQ,zeO,reduceIte,zeP]
      rcases bindL_inv hp with ⟨es,l3,q1,q2⟩ | ⟨l3,q1,rfl⟩
      case inr =>
       refine zau (until_ok (by omega) hle (Store.set_same _ _ _) q1) (by rintro es l2 ⟨⟩) ?_
       rintro l2 b ⟨⟩ hb
       exact zbt (((hES.rd _).loc hm4 _).rd _) (Store.set_same _ _ _) hb
      case inl =>
       refine zau (until_ok (by omega) hle (Store.set_same _ _ _) q1) ?_ (by rintro l2 b ⟨⟩)
       rintro es2 l4 ⟨⟩
       cases q2
       simp only [slV,Store.set_set,Store.set_ne _ _ n4r,Store.set_ne _ _ h24,Store.set_ne _ _ n2r,s2,Store.set_same,ssS,zeQ,zeO,reduceIte,zeP]
       refine zbX (b := b2) rfl (Store.set_same _ _ _) (zaU _) ?_
       exact ((((hES.rd _).loc hm4 _).rd _).loc hm4 _ |>.loc hb2 _).ret (by rw [Store.set_ne _ _ h2,Store.set_ne _ _ h4,Store.set_same])
   ·rw [if_neg q,Option.some.injEq] at hp
    subst hp
    refine zau (name_no (val := hdV) (hr2 _) q) (by rintro es l2 ⟨⟩) ?_
    rintro l2 b ⟨⟩ hb
    exact zbt (hES.rd _) (hr2 _) hb
 rw [if_neg (by rw [i3]; decide)] at hp
 refine zak (zcp sr i3) ?_
 simp only [ssS,zeQ,zeO,reduceIte,zeP]
 cases i4 : isS [91] tk
 case true =>
  rw [if_pos i4] at hp
  refine zaK (zbP sr i4) ?_
  simp only [ssS,zeQ,zeO,reduceIte,zeP]
  rcases bindL_inv hp with ⟨es,l3,q1,q2⟩ | ⟨l3,q1,rfl⟩
  case inr =>
   refine zau (rowE_ok (by omega) hle (Store.set_same _ _ _) q1) (by rintro es l2 ⟨⟩) ?_
   rintro l2 b ⟨⟩ hb
   exact zbt (hES.rd _) (Store.set_same _ _ _) hb
  case inl =>
   refine zau (rowE_ok (by omega) hle (Store.set_same _ _ _) q1) ?_ (by rintro l2 b ⟨⟩)
   rintro es2 l4 ⟨⟩
   simp only [slV,Store.set_set,Store.set_ne _ _ n4r,s4,Store.set_same,ssS,zeQ,zeO,reduceIte,zeP]
   cases l3 with
   | nil => cases q2
   | cons t3 l3 =>
    simp only [zcW] at q2
    have hr4 : ∀ x,((S.set rb (rdr (t3 :: l3))).set b4 x) rb = some (rdr (t3 :: l3)) := fun x => by rw [Store.set_ne _ _ h4,Store.set_same]
    cases hi : isS [93] t3
    ·simp only [hi,zeX,if_false,Option.some.injEq] at q2
     subst q2
     refine zau (zdv (s := [93]) (p := .st (t3 :: l3)) (hr4 _) (by simp only [zcW,hi,zeX,if_false])) (by rintro es l2 ⟨⟩) ?_
     rintro l2 b ⟨⟩ hb
     exact zbt ((hES.rd _).loc hm4 _) (hr4 _) hb
    ·simp only [hi,if_true,Option.some.injEq] at q2
     subst q2
     refine zau (zdv (s := [93]) (p := .ok [] l3) (hr4 _) (by simp only [zcW,hi,if_true])) ?_ (by rintro l2 b2 ⟨⟩)
     rintro es l0 ⟨⟩
     simp only [Store.set_set,Store.set_ne _ _ n4r,Store.set_ne _ _ h24,Store.set_ne _ _ n2r,s2,Store.set_same,ssS,zeQ,zeO,reduceIte,zeP]
     refine zbX (b := b2) (s := []) rfl (Store.set_same _ _ _) (zaU _) ?_
     exact ((((hES.rd _).loc hm4 _).rd _).loc hb2 _).ret (by rw [Store.set_ne _ _ h2,Store.set_same])
 rw [if_neg (by rw [i4]; decide)] at hp
 refine zak (zcp sr i4) ?_
 simp only [ssS,zeQ,zeO,reduceIte,zeP]
 cases i5 : isS [40] tk
 case true =>
  rw [if_pos i5] at hp
  refine zaK (zbP sr i5) ?_
  simp only [ssS,zeQ,zeO,reduceIte,zeP]
  rcases zck hp with ⟨e,l3,q1,q2⟩ | ⟨l3,q1,rfl⟩
  case inr =>
   refine zau (h n (by omega) 0 l (.st l3) _ rb (by omega) (hr2 _) trivial q1) (by rintro es l2 ⟨⟩) ?_
   rintro l2 b ⟨⟩ hb
   exact zbt (hES.rd _) (hr2 _) hb
  case inl =>
   refine zau (h n (by omega) 0 l (.ok [e] l3) _ rb (by omega) (hr2 _) ⟨e,rfl⟩ q1) ?_ (by rintro l2 b ⟨⟩)
   rintro es2 l4 ⟨⟩
   obtain ⟨k,s,nn,kids,ln⟩ := e
   simp only [hdV,exV,Store.set_set,Store.set_ne _ _ n4r,s4,Store.set_same,ssS,zeQ,zeO,reduceIte,zeP]
   cases l3 with
   | nil => cases q2
   | cons t3 l3 =>
    simp only [zcW] at q2
    have hr4 : ∀ x,((S.set rb (rdr (t3 :: l3))).set b4 x) rb = some (rdr (t3 :: l3)) := fun x => by rw [Store.set_ne _ _ h4,Store.set_same]
    cases hi : isS [41] t3
    ·simp only [hi,zeX,if_false,Option.some.injEq] at q2
     subst q2
     refine zau (zdv (s := [41]) (p := .st (t3 :: l3)) (hr4 _) (by simp only [zcW,hi,zeX,if_false])) (by rintro es l2 ⟨⟩) ?_
     rintro l2 b ⟨⟩ hb
     exact zbt ((hES.rd _).loc hm4 _) (hr4 _) hb
    ·simp only [hi,if_true,Option.some.injEq] at q2
     subst q2
     refine zau (zdv (s := [41]) (p := .ok [] l3) (hr4 _) (by simp only [zcW,hi,if_true])) ?_ (by rintro l2 b2 ⟨⟩)
     rintro es l0 ⟨⟩
     simp only [Store.set_set,Store.set_ne _ _ n4r,Store.set_ne _ _ h24,Store.set_ne _ _ n2r,s2,Store.set_same,ssS,zeQ,zeO,reduceIte,zeP]
     refine zbX (b := b2) rfl (Store.set_same _ _ _) (zaU _) ?_
     exact ((((hES.rd _).loc hm4 _).rd _).loc hb2 _).ret (by rw [Store.set_ne _ _ h2,Store.set_same])
 rw [if_neg (by rw [i5]; decide),Option.some.injEq] at hp
 subst hp
 refine zak (zcp sr i5) ?_
 simp only [ssS,zeQ,zeO,reduceIte,zeP]
 refine zau (stop_ok (val := hdV) sr) (by rintro es l2 ⟨⟩) ?_
 rintro l2 b ⟨⟩ hb
 exact zbt hES sr hb
theorem parser_ok {Γ : Glob} : ∀ (n : Nat),n ≤ 1099511627776 → ExH Γ n ∧ UnH Γ n ∧ SiH Γ n := by
 intro n
 induction n using Nat.strongRecOn with
 | ind n ih =>
  intro hn
  have hk : ∀ k < n,ExH Γ k ∧ UnH Γ k ∧ SiH Γ k := fun k hk => ih k hk (by omega)
  exact ⟨expr_ok fun k h => ⟨(hk k h).1,(hk k h).2.1⟩,unary_ok hk,single_ok hn fun k h => (hk k h).1⟩
end Go.Av.Fn
/- How deep an expression is. No condition. -/
namespace Go.Av
section
variable {P : Program} {Γ : Glob} {Kp : V → Store → Prop} {s : List (Tmp × Option (Tmp × Bool) × AOp)} {l : List Item} {K : St → Prop} {t : List V} {m : Store} {d : Option Tmp}
theorem q_mm {mx : Bool} {xs : List Operand} : zaW (.mm mx xs) = true := (rfl)
theorem eval_mm {mx : Bool} {xs : List Operand} : zao P (ev Γ t) m (.mm mx xs) = mmV mx (xs.map (ev Γ t)) := rfl
theorem mm_max {a b : Int} : mmV true [.val (.int .i64 a),.val (.int .i64 b)] = some (.val (.int .i64 (max a b))) := by
 simp only [mmV,mmF,if_true]
 congr 3
 split <;> omega
end
end Go.Av
namespace Go.Av.Fn
set_option linter.unusedSimpArgs false
set_option linter.unusedVariables false
set_option maxRecDepth 10000
open Go.Proofs
theorem depths_append : ∀ (a b : List Ex),depths (a ++ b) = max (depths a) (depths b)
 | [],b => by simp [depths]
 | e :: r,b => by
  rw [ze2,depths,depths,depths_append r b]
  omega
theorem idx_ex {es : List Ex} {i : Nat} {e : Ex} {k s n kids l} (he : e = .mk k s n kids l) (h : es[i]? = some e) : idxLV 5 (.sl (exVs es) [] .no) (it i) = some (.elt [it k,bs s,it n,.sl (exVs kids) [] .no,it l]) := by
 subst he
 have := idxLV_nat (size := 5) (k := .i64) (es := exVs es) (more := []) (tok := .no) (i := i) (e := exV (.mk k s n kids l)) (by rw [exVs_map,List.getElem?_map,h]; rfl) rfl
 exact this
theorem depth_ok {Γ : Glob} : ∀ (N : Nat) (e : Ex) (m : Store),zbr e ≤ N → N ≤ 1099511627776 → zab Tryz.prog Γ 187 [exV e] m fun o m' => o = .ret (it (depthE e)) ∧ m' = m
 | 0,e,m,h,_ => by
  obtain ⟨k,s,n,kids,l⟩ := e
  simp only [zbr] at h
  omega
 | N + 1,e,m,h,hN => by
  obtain ⟨k,s,n,kids,l⟩ := e
  simp only [zbr] at h
  have hle := length_sizes kids
  refine zab.less (A := fun o m' => o = .ret (it (depthE (.mk k s n kids l))) ∧ SubS m m') ?_ fun o m' h => ⟨m,h.2,h.1,rfl⟩
  refine zae mixed F187_ok (by rintro v m b x _ ⟨⟨⟩,_⟩) ?_
  simp only [F187,exV,ss0,zeW,zeQ]
  simp only [ssS,zeQ,zeO,reduceIte,zeP]
  refine zaq fun b1 hb1 => ?_
  simp only [Store.set_same,ssS,zeQ,zeO,reduceIte,zeP]
  refine awp_loop' (fun j st => ∃ (i : Nat),i ≤ kids.length ∧ j = kids.length - i ∧ SubS m st.m ∧ st.t.length = 20 ∧ tget st.t 3 = it (depths (kids.take i)) ∧ tget st.t 7 = .sl (exVs kids) [] .no ∧ tget st.t 8 = it kids.length ∧ tget st.t 9 = it i)
   kids.length ⟨0,Nat.zero_le _,rfl,(SubS.refl m).out hb1 _,rfl,?_,rfl,?_,rfl⟩ ?_
  ·rw [List.take_zero]; rfl
  ·show it _ = _
   rw [exVs_length]
  rintro j ⟨t,S⟩ J hJ ⟨i,hi,hj,hS,hlen,t3,t7,t8,t9⟩
  simp only at hS hlen t3 t7 t8 t9
  rw [t_eq hlen]
  simp only [zaE,zaY,zeQ,t3,t7,t8,t9]
  simp only [ssS,zeQ,zeO,reduceIte,zeP]
  refine zat (fun hc => ?_) (fun hc => ?_)
  ·have hlt : i < kids.length := by have := of_decide_eq_true hc; omega
   have hget : kids[i]? = some kids[i] := List.getElem?_eq_getElem hlt
   generalize hei : kids[i] = ei at hget
   obtain ⟨k2,s2,n2,kids2,l2⟩ := ei
   simp only [idx_ex rfl hget,ld5,ssS,zeQ,zeO,reduceIte,zeP]
   refine zaq fun b5 hb5 => ?_
   have hsz : zbr (.mk k2 s2 n2 kids2 l2) ≤ N := by
    have := size_mem (List.mem_of_getElem? hget)
    omega
   simp only [Store.set_same,Store.set_set,ssS,zeQ,zeO,reduceIte,zeP]
   refine zak (depth_ok N (.mk k2 s2 n2 kids2 l2) _ hsz (by omega)) ?_
   simp only [eval_mm,q_mm,mm_max,zax (show i < 4611686018427387904 by omega),ssS,zeQ,zeO,reduceIte,zeP]
   refine hJ (kids.length - (i + 1)) _ (by omega) ⟨i + 1,hlt,rfl,hS.out (hS.none hb5) _,rfl,?_,rfl,rfl,rfl⟩
   show it _ = it _
   congr 2
   rw [List.take_add_one,hget,depths_append]
   simp only [Option.toList,depths]
   omega
  ·have hge : i = kids.length := by have := of_decide_eq_false hc; omega
   have hd := depths_sizes kids
   simp only [ssS,zeQ,zeO,reduceIte,zeP]
   have hw : IntKind.i64.wrap ((depths (kids.take i) : Int) + 1) = ((depthE (.mk k s n kids l) : Nat) : Int) := by
    rw [hge,List.take_length,wrap_i64 (by omega) (by omega)]
    simp only [depthE]
    omega
   simp only [hw,ssS,zeQ,zeO,reduceIte,zeP]
   exact zai zah ⟨rfl,hS⟩
end Go.Av.Fn
