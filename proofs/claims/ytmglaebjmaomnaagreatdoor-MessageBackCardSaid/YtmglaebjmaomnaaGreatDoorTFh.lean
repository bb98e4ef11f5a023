/- The functions that may be gone through over blocks in turn. No condition. -/
import Derived.KernelRfl
import Derived.LaidEql
import Derived.Lib.AppendIntMem
import Derived.Lib.ItoaLen
import Derived.Lib.ParseIntBCases
import Derived.Lib.UnsafeStr
import Derived.RowKitTokens
import Derived.Shelf.LaysC
import Derived.Shelf.LaysM
import Derived.Shelf.RegionOpenPlain
import Derived.Shelf.Small.Strs
import Derived.Shelf.Strconv.Clone
import Derived.Shelf.Strconv.Itoa3
import Derived.Shelf.Strconv.ParseIntPublic10
import Derived.Shelf.Strings.Builder1
import Derived.Shelf.Strings.Search1
import Derived.Shelf.Strings.Search2
import Derived.Stop.Asserts
import Derived.Test.YtmglaebjmaomnaaGreatDoorProg
import Derived.WalkKit
import Derived.Test.YtmglaebjmaomnaaGreatDoorTAvX
open Array renaming getElem?_modify → zfI
open Bool renaming eq_iff_iff → zfz, not_true → ze5, and_eq_true → ze1, or_eq_true → zfA, false_eq_true → zeX, not_false → ze4
open Int renaming reduceBEq → zeS, reduceBNe → zeT
open List renaming map_append → zfu, getElem?_eq_getElem → zff, take_add_one → zfB, takeWhile_cons_of_pos → zfi, length_cons → zeV, length_drop → zfd, length_map → zfc, takeWhile_sublist → zfj, getD_eq_getElem?_getD → ze8, mem_cons_self → zfa, mem_cons_of_mem → zfb
open Nat renaming reduceSub → zeW, reduceAdd → zeQ, reduceLeDiff → zeO, reduceEqDiff → zeP, reduceLT → zeU
namespace Go.Av.Fn
set_option linter.unusedSimpArgs false
set_option linter.unusedVariables false
set_option maxRecDepth 100000
theorem F27_h : F27.body.okH [] = true := by kernel_rfl
theorem F35_h : F35.body.okH [] = true := by kernel_rfl
theorem F63_h : F63.body.okH [] = true := by kernel_rfl
theorem F71_h : F71.body.okH [] = true := by kernel_rfl
theorem F95_h : F95.body.okH [] = true := by kernel_rfl
theorem F99_h : F99.body.okH [] = true := by kernel_rfl
theorem F111_h : F111.body.okH [] = true := by kernel_rfl
theorem F119_h : F119.body.okH [] = true := by kernel_rfl
theorem F135_h : F135.body.okH [] = true := by kernel_rfl
theorem F36_h : F36.body.okH [] = true := by kernel_rfl
theorem F40_h : F40.body.okH [] = true := by kernel_rfl
theorem F48_h : F48.body.okH [] = true := by kernel_rfl
theorem F60_h : F60.body.okH [] = true := by kernel_rfl
theorem F68_h : F68.body.okH [] = true := by kernel_rfl
theorem F84_h : F84.body.okH [] = true := by kernel_rfl
theorem F116_h : F116.body.okH [] = true := by kernel_rfl
theorem F29_h : F29.body.okH [] = true := by kernel_rfl
theorem F33_h : F33.body.okH [] = true := by kernel_rfl
theorem F65_h : F65.body.okH [] = true := by kernel_rfl
theorem F69_h : F69.body.okH [] = true := by kernel_rfl
theorem F85_h : F85.body.okH [] = true := by kernel_rfl
theorem F89_h : F89.body.okH [] = true := by kernel_rfl
theorem F93_h : F93.body.okH [] = true := by kernel_rfl
theorem F101_h : F101.body.okH [] = true := by kernel_rfl
theorem F117_h : F117.body.okH [] = true := by kernel_rfl
theorem F133_h : F133.body.okH [] = true := by kernel_rfl
theorem F153_h : F153.body.okH [] = true := by kernel_rfl
theorem F166_h : F166.body.okH [] = true := by kernel_rfl
theorem F10_h : F10.body.okH [] = true := by kernel_rfl
theorem F42_h : F42.body.okH [] = true := by kernel_rfl
theorem F50_h : F50.body.okH [] = true := by kernel_rfl
theorem F54_h : F54.body.okH [] = true := by kernel_rfl
theorem F62_h : F62.body.okH [] = true := by kernel_rfl
theorem F70_h : F70.body.okH [] = true := by kernel_rfl
theorem F86_h : F86.body.okH [] = true := by kernel_rfl
theorem F94_h : F94.body.okH [] = true := by kernel_rfl
theorem F98_h : F98.body.okH [] = true := by kernel_rfl
theorem F110_h : F110.body.okH [] = true := by kernel_rfl
theorem F118_h : F118.body.okH [] = true := by kernel_rfl
theorem F142_h : F142.body.okH [] = true := by kernel_rfl
end Go.Av.Fn
/- Numbers and texts put behind bytes, as the program does. No condition. -/
namespace Go.Av.Fn
set_option linter.unusedSimpArgs false
set_option linter.unusedVariables false
set_option maxRecDepth 10000
open Go.Proofs Go.Lib
theorem conv_i64_u64 {n : Int} : convV Tryz.prog 3 150 (.val (.int .i64 n)) = some (.val (.int .u64 (IntKind.u64.wrap n))) := by kernel_rfl
theorem conv_u64_u8 {n : Int} : convV Tryz.prog 150 5 (.val (.int .u64 n)) = some (.val (.int .u8 (IntKind.u8.wrap n))) := by kernel_rfl
theorem fold_ok {Γ : Glob} {m : Store} {n : Int} (h : I64 n) : zab Tryz.prog Γ 109 [it n] m fun o m' => o = .ret (.val (.int .u64 (zigzag n))) ∧ m' = m := by
 refine zae mixed F109_ok (by rintro v m b x _ ⟨⟨⟩,_⟩) ?_
 simp only [F109,ss0,zeW,zeQ]
 simp only [zbN,conv_i64_u64,bin_shl (show (0 : Int) ≤ 1 by decide),bin_shr (show (0 : Int) ≤ 63 by decide),bin_xorb,fold_eq h,ssS,zeQ,zeO,reduceIte,zeP]
 exact zai zah ⟨rfl,rfl⟩
theorem zbj {Γ : Glob} {m m' : Store} {v : V} {l : List UInt8} (h : BufI 5 1 m m' v (l.map by8)) {n : Int} (hn : I64 n) (hl : l.length < 1099511627776) :
  zab Tryz.prog Γ 61 [v,it n] m' fun o m2 => ∃ v2,o = .ret v2 ∧ Buf 5 1 m m2 v2 ((l ++ uvarint (zigzag n)).map by8) := by
 refine zae mixed F61_ok (by rintro v m b x _ ⟨_,⟨⟩,_⟩) ?_
 simp only [F61,ss0,zeW,zeQ]
 simp only [ssS,zeQ,zeO,reduceIte,zeP]
 refine zak (fold_ok hn) ?_
 simp only [ssS,zeQ,zeO,reduceIte,zeP]
 have hlen10 := uvarint_length64 (zigzag_u64 hn)
 refine zdc (fun k st => ∃ (f : Nat) (l' : List UInt8) (v' : V),f = k ∧ f < 18446744073709551616 ∧ l' ++ uvarint f = l ++ uvarint (zigzag n) ∧ BufI 5 1 m st.m v' (l'.map by8) ∧ st.t.length = 23 ∧ tget st.t 0 = v' ∧ tget st.t 5 = .val (.int .u64 f)) (zigzag n) ⟨zigzag n,l,v,rfl,zigzag_u64 hn,rfl,h,rfl,rfl,rfl⟩ ?_
 rintro k ⟨t,m1⟩ ⟨f,l',v',hk,hf,he,hB,hlen,h0,h5⟩
 simp only at hB h0 h5 hlen
 subst hk
 have htot : l'.length + (uvarint f).length = l.length + (uvarint (zigzag n)).length := by
  have := congrArg List.length he
  simpa using this
 have hp := uvarint_pos f
 rw [t_eq hlen]
 simp only [zaE,zaY,zeQ,h0,h5]
 simp only [ssS,zeQ,zeO,reduceIte,zeP]
 refine zat (fun h => ?_) (fun h => ?_)
 ·have hb : 128 ≤ f := by have := of_decide_eq_true h; omega
  simp only [zbN,conv_u64_u8,bin_orb,or128,by8_big,eval_lit1,litV1_val,ssS,zeQ,zeO,reduceIte,zeP]
  refine appS_bufI hB rfl (by simp [V.cells,zdI]) (by simp; omega) fun m2 v2 hB2 => ?_
  simp only [bin_shr (show (0 : Int) ≤ 7 by decide),shr7,ssS,zeQ,zeO,reduceIte,zeP]
  exact ⟨f / 128,by omega,f / 128,l' ++ [(f % 128 + 128).toUInt8],v2,rfl,by omega,by rw [List.append_assoc,← he,uvarint_big hb]; rfl,by rw [zfu]; exact .inl hB2,rfl,rfl⟩
 ·have hb : f < 128 := by have := of_decide_eq_false h; omega
  simp only [zbN,conv_u64_u8,by8_small hb,eval_lit1,litV1_val,ssS,zeQ,zeO,reduceIte,zeP]
  refine appS_bufI hB rfl (by simp [V.cells,zdI]) (by simp; omega) fun m2 v2 hB2 => ?_
  simp only [ssS,zeQ,zeO,reduceIte,zeP]
  refine zai zah ⟨v2,rfl,?_⟩
  rw [← he,uvarint_small hb,zfu]
  exact hB2
theorem conv_u64_i64 {n : Int} : convV Tryz.prog 150 3 (.val (.int .u64 n)) = some (.val (.int .i64 (IntKind.i64.wrap n))) := by kernel_rfl
theorem conv_u8_u64 {n : Int} : convV Tryz.prog 5 150 (.val (.int .u8 n)) = some (.val (.int .u64 (IntKind.u64.wrap n))) := by kernel_rfl
theorem unfold_ok {Γ : Glob} {m : Store} {u : Nat} (h : u < 18446744073709551616) : zab Tryz.prog Γ 149 [.val (.int .u64 u)] m fun o m' => o = .ret (it (unzigzag u)) ∧ m' = m := by
 refine zae mixed F149_ok (by rintro v m b x _ ⟨⟨⟩,_⟩) ?_
 simp only [F149,ss0,zeW,zeQ]
 simp only [zbN,conv_u64_i64,bin_shr (show (0 : Int) ≤ 1 by decide),bin_andb,bin_xorb,unfold_eq h,ssT,zeQ,zeO,reduceIte,zeP]
 exact zai zah ⟨rfl,rfl⟩
theorem wnumber_ok {Γ : Glob} {m : Store} (s : List UInt8) (hl : s.length < 4611686018427387904) :
  zab Tryz.prog Γ 128 [bs s] m fun o m' => o = .ret (.tup [it (numL s).1,it (numL s).2.1,it (numL s).2.2]) ∧ m' = m := by
 refine zae mixed F128_ok (by rintro v m b x _ ⟨⟨⟩,_⟩) ?_
 simp only [F128,ss0,zeW,zeQ]
 simp only [ssS,zeQ,zeO,reduceIte,zeP]
 refine zdc (fun k st => ∃ (i f : Nat),k = 10 - i ∧ i ≤ 9 ∧ f < 2 ^ (7 * i) ∧ i ≤ s.length ∧ zcm i f (s.drop i) = numL s ∧ st.m = m ∧ st.t.length = 46 ∧ tget st.t 0 = bs s ∧ tget st.t 5 = .val (.int .u64 f) ∧ tget st.t 8 = it i) 10 ⟨0,0,rfl,by omega,by decide,Nat.zero_le _,rfl,rfl,rfl,rfl,rfl,rfl⟩ ?_
 rintro k ⟨t,m1⟩ ⟨i,f,hk,hi,hf,hil,hgo,hm,hlen,g0,g5,g8⟩
 simp only at hm g0 g5 g8 hlen
 subst hm
 rw [t_eq hlen]
 simp only [zaE,zaY,zeQ,g0,g5,g8]
 simp only [show decide ((i : Int) < 10) = true from decide_eq_true (by omega),ssS,zeQ,zeO,reduceIte,zeP]
 refine zat (fun h => ?_) (fun h => ?_)
 ·have he : i = s.length := by
   have : ((i : Int) == (s.length : Int)) = true := h
   have := eq_of_beq this
   omega
  simp only [ssS,zeQ,zeO,reduceIte,zeP]
  refine zai zaI ⟨?_,rfl⟩
  simp only [zac,zad]
  rw [← hgo,List.drop_eq_nil_of_le (by omega)]
  rfl
 ·have hlt : i < s.length := by
   have : ((i : Int) == (s.length : Int)) = false := h
   have : (i : Int) ≠ s.length := by simpa using this
   omega
  obtain ⟨c,hcs⟩ : ∃ c,s[i] = c := ⟨_,rfl⟩
  have hx : s[i]? = some c := by rw [zff hlt,hcs]
  have hdrop : s.drop i = c :: s.drop (i + 1) := by rw [List.drop_eq_getElem_cons hlt,hcs]
  have hc : c.toNat < 256 := c.toNat_lt
  have hw7 : IntKind.i64.wrap (7 * (i : Int)) = ((7 * i : Nat) : Int) := by
   rw [wrap_i64 (by omega) (by omega)]
   omega
  have hw127 : IntKind.u64.wrap ((c.toNat % 128 : Nat) : Int) = ((c.toNat % 128 : Nat) : Int) := by
   rw [IntKind.wrap_u64]
   omega
  simp only [idx_bs hx,ssS,zeQ,zeO,reduceIte,zeP]
  by_cases h9 : i = 9
  ·have e9 : ((i : Int) == 9) = true := by simpa using congrArg (Nat.cast (R := Int)) h9
   simp only [e9,ssS,zeQ,zeO,reduceIte,zeP]
   refine zat (fun h => ?_) (fun h => ?_)
   ·have hc1 : c.toNat ≠ 1 := by
     have : ((c.toNat : Int) != 1) = true := h
     intro e
     rw [e] at this
     simp at this
    simp only [ssS,zeQ,zeO,reduceIte,zeP]
    refine zai zaI ⟨?_,rfl⟩
    simp only [zac,zad]
    rw [← hgo,hdrop]
    simp only [zcm]
    rw [if_pos ⟨h9,hc1⟩]
    rfl
   have hc9 : i = 9 → c.toNat = 1 := by
    intro _
    have : ((c.toNat : Int) != 1) = false := h
    have : (c.toNat : Int) = 1 := by simpa using this
    omega
   simp only [bin_andb,and127 hc,zbN,conv_u8_u64,hw127,zeJ,hw7,bin_shl (show (0 : Int) ≤ ((7 * i : Nat) : Int) from Int.natCast_nonneg _),num_shl hi hc hc9,bin_orb,num_or hi hc hc9 hf,zeI,and128 hc,ssT,zeQ,zeO,reduceIte,zeP]
   refine zat (fun h => ?_) (fun h => ?_)
   ·have h128 : 128 ≤ c.toNat := of_decide_eq_true h
    simp only [zax (show i < 4611686018427387904 by omega),ssS,zeQ,zeO,reduceIte,zeP]
    refine ⟨10 - (i + 1),by omega,i + 1,f + c.toNat % 128 * 2 ^ (7 * i),rfl,by omega,(num_lt hi hc hc9 hf).2 (by omega),by omega,?_,rfl,rfl⟩
    rw [← hgo,hdrop]
    simp only [zcm]
    rw [if_neg (by omega),if_pos h128]
   ·have h128 : ¬ 128 ≤ c.toNat := of_decide_eq_false h
    simp only [zeK,ssS,zeQ,zeO,reduceIte,zeP]
    by_cases hc0 : c.toNat = 0
    ·have hb0 : ((c.toNat : Int) == 0) = true := by rw [hc0]; rfl
     simp only [hb0,ssS,zeQ,zeO,reduceIte,zeP]
     refine zat (fun h1 => ?_) (fun h1 => ?_)
     ·have hi0 : 0 < i := by have := of_decide_eq_true h1; omega
      simp only [ssS,zeQ,zeO,reduceIte,zeP]
      refine zai zaI ⟨?_,rfl⟩
      simp only [zac,zad]
      rw [← hgo,hdrop]
      simp only [zcm]
      rw [if_neg (by omega),if_neg h128,if_pos ⟨hc0,hi0⟩]
      rfl
     ·have hi0 : i = 0 := by have := of_decide_eq_false h1; omega
      simp only [ssS,zeQ,zeO,reduceIte,zeP]
      refine zak (unfold_ok (num_lt hi hc hc9 hf).1) ?_
      simp only [zax (show i < 4611686018427387904 by omega),ssS,zeQ,zeO,reduceIte,zeP]
      refine zai zaI ⟨?_,rfl⟩
      simp only [zac,zad]
      rw [← hgo,hdrop]
      simp only [zcm]
      rw [if_neg (by omega),if_neg h128,if_neg (by omega)]
    ·have hb0 : ((c.toNat : Int) == 0) = false := by
      have : (c.toNat : Int) ≠ 0 := by omega
      simpa using this
     simp only [hb0,ssS,zeQ,zeO,reduceIte,zeP]
     refine zak (unfold_ok (num_lt hi hc hc9 hf).1) ?_
     simp only [zax (show i < 4611686018427387904 by omega),ssS,zeQ,zeO,reduceIte,zeP]
     refine zai zaI ⟨?_,rfl⟩
     simp only [zac,zad]
     rw [← hgo,hdrop]
     simp only [zcm]
     rw [if_neg (by omega),if_neg h128,if_neg (by omega)]
  ·have e9 : ((i : Int) == 9) = false := by
    have : (i : Int) ≠ 9 := by omega
    simpa using this
   have hc9 : i = 9 → c.toNat = 1 := fun e => absurd e h9
   simp only [e9,bin_andb,and127 hc,zbN,conv_u8_u64,hw127,zeJ,hw7,bin_shl (show (0 : Int) ≤ ((7 * i : Nat) : Int) from Int.natCast_nonneg _),num_shl hi hc hc9,bin_orb,num_or hi hc hc9 hf,zeI,and128 hc,ssT,zeQ,zeO,reduceIte,zeP]
   refine zat (fun h => ?_) (fun h => ?_)
   ·have h128 : 128 ≤ c.toNat := of_decide_eq_true h
    simp only [zax (show i < 4611686018427387904 by omega),ssS,zeQ,zeO,reduceIte,zeP]
    refine ⟨10 - (i + 1),by omega,i + 1,f + c.toNat % 128 * 2 ^ (7 * i),rfl,by omega,(num_lt hi hc hc9 hf).2 (by omega),by omega,?_,rfl,rfl⟩
    rw [← hgo,hdrop]
    simp only [zcm]
    rw [if_neg (by omega),if_pos h128]
   ·have h128 : ¬ 128 ≤ c.toNat := of_decide_eq_false h
    simp only [zeK,ssS,zeQ,zeO,reduceIte,zeP]
    by_cases hc0 : c.toNat = 0
    ·have hb0 : ((c.toNat : Int) == 0) = true := by rw [hc0]; rfl
     simp only [hb0,ssS,zeQ,zeO,reduceIte,zeP]
     refine zat (fun h1 => ?_) (fun h1 => ?_)
     ·have hi0 : 0 < i := by have := of_decide_eq_true h1; omega
      simp only [ssS,zeQ,zeO,reduceIte,zeP]
      refine zai zaI ⟨?_,rfl⟩
      simp only [zac,zad]
      rw [← hgo,hdrop]
      simp only [zcm]
      rw [if_neg (by omega),if_neg h128,if_pos ⟨hc0,hi0⟩]
      rfl
     ·have hi0 : i = 0 := by have := of_decide_eq_false h1; omega
      simp only [ssS,zeQ,zeO,reduceIte,zeP]
      refine zak (unfold_ok (num_lt hi hc hc9 hf).1) ?_
      simp only [zax (show i < 4611686018427387904 by omega),ssS,zeQ,zeO,reduceIte,zeP]
      refine zai zaI ⟨?_,rfl⟩
      simp only [zac,zad]
      rw [← hgo,hdrop]
      simp only [zcm]
      rw [if_neg (by omega),if_neg h128,if_neg (by omega)]
    ·have hb0 : ((c.toNat : Int) == 0) = false := by
      have : (c.toNat : Int) ≠ 0 := by omega
      simpa using this
     simp only [hb0,ssS,zeQ,zeO,reduceIte,zeP]
     refine zak (unfold_ok (num_lt hi hc hc9 hf).1) ?_
     simp only [zax (show i < 4611686018427387904 by omega),ssS,zeQ,zeO,reduceIte,zeP]
     refine zai zaI ⟨?_,rfl⟩
     simp only [zac,zad]
     rw [← hgo,hdrop]
     simp only [zcm]
     rw [if_neg (by omega),if_neg h128,if_neg (by omega)]
end Go.Av.Fn
/- The small functions of the layer lex and of its reference: what they answer. No condition. -/
namespace Go.Av.Fn
set_option linter.unusedSimpArgs false
set_option linter.unusedVariables false
open Go.Proofs
def dig (b : UInt8) : Bool := decide (48 ≤ b.toNat) && decide (b.toNat ≤ 57)
def let8 (b : UInt8) : Bool := (decide (97 ≤ b.toNat) && decide (b.toNat ≤ 122)) || (decide (65 ≤ b.toNat) && decide (b.toNat ≤ 90)) || b.toNat == 95
def zdd (b : UInt8) : Bool := let8 b || dig b
theorem or32_nat : ∀ n : Nat,n < 256 → ((decide (IntKind.u8.wrap ((BitVec.ofInt IntKind.u8.bits (n : Int) ||| BitVec.ofInt IntKind.u8.bits 32).toNat : Int) ≥ 97) && decide (IntKind.u8.wrap ((BitVec.ofInt IntKind.u8.bits (n : Int) ||| BitVec.ofInt IntKind.u8.bits 32).toNat : Int) ≤ 122)) || (n : Int) == 95)
  = ((decide (97 ≤ n) && decide (n ≤ 122)) || (decide (65 ≤ n) && decide (n ≤ 90)) || n == 95) := by decide +kernel
section
variable {Γ : Glob} {m : Store}
theorem digit_ok (b : UInt8) : zab Tryz.prog Γ 164 [by8 b] m fun o m' => o = .ret (.val (.bool (dig b))) ∧ m' = m := by
 refine zae mixed F164_ok (by rintro v m b x _ ⟨⟨⟩,_⟩) ?_
 simp only [F164,ss0,zeW,zeQ]
 simp only [ssS,zeQ,zeO,reduceIte,zeP]
 refine zdb (fun h => ?_) (fun h => ?_) <;> simp only [h,ssS,zeQ,zeO,reduceIte,zeP]
 all_goals refine zai zah ⟨?_,rfl⟩
 all_goals simp only [zac,zad,dig]
 ·have h : 48 ≤ b.toNat := by have := of_decide_eq_true h; omega
  have e : decide ((b.toNat : Int) ≤ 57) = decide (b.toNat ≤ 57) := by rw [decide_eq_decide]; omega
  rw [e]
  simp [h]
 ·have h : ¬ 48 ≤ b.toNat := by have := of_decide_eq_false h; omega
  simp [h]
theorem letter_ok (b : UInt8) : zab Tryz.prog Γ 167 [by8 b] m fun o m' => o = .ret (.val (.bool (let8 b))) ∧ m' = m := by
 refine zae mixed F167_ok (by rintro v m b x _ ⟨⟨⟩,_⟩) ?_
 have key : let8 b = _ := (or32_nat b.toNat (by have := b.toNat_lt; omega)).symm
 simp only [F167,ss0,zeW,zeQ]
 simp only [ssS,zeQ,zeO,reduceIte,zeP]
 refine zdb (fun h => ?_) (fun h => ?_) <;> simp only [h,ssS,zeQ,zeO,reduceIte,zeP]
 ·refine zdb (fun h2 => ?_) (fun h2 => ?_) <;> simp only [h2,ssS,zeQ,zeO,reduceIte,zeP]
  all_goals refine zai zah ⟨?_,rfl⟩
  all_goals simp only [zac,zad]
  all_goals rw [key,h,h2]
  all_goals rfl
 ·refine zai zah ⟨?_,rfl⟩
  simp only [zac,zad]
  rw [key,h]
  rfl
theorem notNl_ok (b : UInt8) : zab Tryz.prog Γ 260 [by8 b] m fun o m' => o = .ret (.val (.bool (b.toNat != 10))) ∧ m' = m := by
 refine zae mixed F260_ok (by rintro v m b x _ ⟨⟨⟩,_⟩) ?_
 simp only [F260,ss0,zeW,zeQ]
 simp only [ssS,zeQ,zeO,reduceIte,zeP]
 refine zai zah ⟨?_,rfl⟩
 simp only [zac,zad]
 congr 3
 rw [zfz]
 simp
 omega
theorem alnum_ok (b : UInt8) : zab Tryz.prog Γ 261 [by8 b] m fun o m' => o = .ret (.val (.bool (zdd b))) ∧ m' = m := by
 refine zae mixed F261_ok (by rintro v m b x _ ⟨⟨⟩,_⟩) ?_
 simp only [F261,ss0,zeW,zeQ]
 simp only [ssS,zeQ,zeO,reduceIte,zeP]
 refine zak (letter_ok b) ?_
 simp only [ssS,zeQ,zeO,reduceIte,zeP]
 refine zdb (fun h => ?_) (fun h => ?_) <;> simp only [h,ssS,zeQ,zeO,reduceIte,zeP]
 ·refine zai zah ⟨?_,rfl⟩
  simp only [zac,zad,zdd,h,Bool.true_or]
 ·refine zak (digit_ok b) ?_
  simp only [ssS,zeQ,zeO,reduceIte,zeP]
  refine zai zah ⟨?_,rfl⟩
  simp only [zac,zad,zdd,h,Bool.false_or]
end
def za8 : List (List UInt8) := [[102,110],[114,101,99,111,114,100],[108,101,116],[105,102],[101,108,115,101],[119,104,105,108,101],[114,101,116,117,114,110],[110,101,119],[116,114,117,101],[102,97,108,115,101]]
def zbs : List (List UInt8) := [[61,61],[33,61],[60,61],[62,61],[38,38],[124,124],[40],[41],[123],[125],[91],[93],[44],[58],[59],[46],[61],[60],[62],[43],[45],[42],[47],[37],[33]]
theorem hasPrefix_ok {Γ : Glob} {m : Store} (s p : List UInt8) : zab Tryz.prog Γ 179 [bs s,bs p] m fun o m' => o = .ret (.val (.bool (p.isPrefixOf s))) ∧ m' = m := by
 refine zae mixed F179_ok (by rintro v m b x _ ⟨⟨⟩,_⟩) ?_
 simp only [F179,ss0,zeW,zeQ]
 simp only [ssS,zeQ,zeO,reduceIte,zeP]
 refine zdb (fun h => ?_) (fun h => ?_) <;> simp only [h,ssS,zeQ,zeO,reduceIte,zeP]
 ·have hl : p.length ≤ s.length := by have := of_decide_eq_true h; omega
  simp only [slice_upto hl,ssS,zeQ,zeO,reduceIte,zeP]
  refine zai zah ⟨?_,rfl⟩
  simp only [zac,zad]
  congr 3
  rw [zfz]
  simp only [beq_iff_eq,List.isPrefixOf_iff_prefix]
  rw [List.prefix_iff_eq_take,eq_comm]
 ·refine zai zah ⟨?_,rfl⟩
  simp only [zac,zad]
  have hl : ¬ p.length ≤ s.length := by have := of_decide_eq_false h; omega
  congr 3
  rw [zfz]
  simp only [List.isPrefixOf_iff_prefix]
  constructor
  ·intro h; cases h
  ·intro h; exact absurd h.length_le hl
theorem zbF {Γ : Glob} {m : Store} (s p : List UInt8) : zab Tryz.prog Γ 168 [bs s,bs p] m fun o m' => o = .ret (.val (.bool (p.isPrefixOf s))) ∧ m' = m := by
 refine zae mixed F168_ok (by rintro v m b x _ ⟨⟨⟩,_⟩) ?_
 simp only [F168,ss0,zeW,zeQ]
 simp only [ssS,zeQ,zeO,reduceIte,zeP]
 refine zak (hasPrefix_ok s p) ?_
 simp only [ssS,zeQ,zeO,reduceIte,zeP]
 refine zai zah ⟨?_,rfl⟩
 simp only [zac,zad]
theorem Word_ok {Γ : Glob} {m : Store} (hΓ : Γ 1 = some (za8.map bs)) (s : List UInt8) : zab Tryz.prog Γ 155 [bs s] m fun o m' => o = .ret (.val (.bool (za8.contains s))) ∧ m' = m := by
 refine zae mixed F155_ok (by rintro v m b x _ ⟨⟨⟩,_⟩) ?_
 simp only [F155,ss0,zeW,zeQ]
 simp only [ssS,zeQ,zeO,reduceIte,zeP]
 have hlen10 : za8.length = 10 := rfl
 refine zdc (fun n st => ∃ i : Nat,n = 10 - i ∧ i ≤ 10 ∧ (∀ x ∈ za8.take i,x ≠ s) ∧ st.m = m ∧ st.t.length = 13 ∧ tget st.t 0 = bs s ∧ tget st.t 4 = it i) 10 ⟨0,rfl,Nat.zero_le _,by simp,rfl,rfl,rfl,rfl⟩ ?_
 rintro n ⟨t,m1⟩ ⟨i,hn,hi,hpre,hm,hlen,h0,h4⟩
 simp only at hm h0 h4 hlen
 subst hm
 rw [t_eq hlen]
 simp only [zaE,zaY,zeQ,h0,h4]
 simp only [ssS,zeQ,zeO,reduceIte,zeP]
 refine zat (fun h => ?_) (fun h => ?_)
 ·have hlt : i < 10 := by have := of_decide_eq_true h; omega
  have hlt' : i < za8.length := hlt
  have hx : loadV m1 none (.elt ((za8.map bs).drop (i * 1))) = some (bs (za8[i]'hlt')) := by
   rw [loadV_drop]
   simp [hlt']
  simp only [ev_global hΓ,idxA_elt hlt,hx,zax (show i < 4611686018427387904 by omega),ssS,zeQ,zeO,reduceIte,zeP]
  refine zat (fun h => ?_) (fun h => ?_)
  ·simp only [ssS,zeQ,zeO,reduceIte,zeP]
   have : za8[i]'hlt' = s := by simpa using h
   refine zai zah ⟨?_,rfl⟩
   simp only [zac,zad]
   rw [List.contains_iff_mem.2 (by rw [← this]; exact List.getElem_mem _)]
  ·simp only [zax (show i < 4611686018427387904 by omega),ssS,zeQ,zeO,reduceIte,zeP]
   refine ⟨10 - (i + 1),by omega,i + 1,rfl,hlt,?_,rfl⟩
   intro x hx
   rw [zfB] at hx
   rcases List.mem_append.1 hx with hx | hx
   ·exact hpre x hx
   ·simp only [zff hlt',Option.toList_some,List.mem_singleton] at hx
    subst hx
    simpa using h
 ·have hge : i = 10 := by have := of_decide_eq_false h; omega
  simp only [ssS,zeQ,zeO,reduceIte,zeP]
  refine zai zah ⟨?_,rfl⟩
  simp only [zac,zad]
  rw [hge,show 10 = za8.length from rfl,List.take_length] at hpre
  have : za8.contains s = false := by
   simp only [List.contains_eq_mem,decide_eq_false_iff_not]
   exact fun hm => hpre s hm rfl
  rw [this]
def signOf (s : List UInt8) : List UInt8 := (zbs.find? fun p => p.isPrefixOf s).getD []
theorem sign_ok {Γ : Glob} {m : Store} (hΓ : Γ 0 = some (zbs.map bs)) (s : List UInt8) : zab Tryz.prog Γ 154 [bs s] m fun o m' => o = .ret (bs (signOf s)) ∧ m' = m := by
 refine zae mixed F154_ok (by rintro v m b x _ ⟨⟨⟩,_⟩) ?_
 simp only [F154,ss0,zeW,zeQ]
 simp only [ssS,zeQ,zeO,reduceIte,zeP]
 have hlen25 : zbs.length = 25 := rfl
 refine zdc (fun n st => ∃ i : Nat,n = 25 - i ∧ i ≤ 25 ∧ (∀ x ∈ zbs.take i,x.isPrefixOf s = false) ∧ st.m = m ∧ st.t.length = 16 ∧ tget st.t 0 = bs s ∧ tget st.t 4 = it i) 25 ⟨0,rfl,Nat.zero_le _,by simp,rfl,rfl,rfl,rfl⟩ ?_
 rintro n ⟨t,m1⟩ ⟨i,hn,hi,hpre,hm,hlen,h0,h4⟩
 simp only at hm h0 h4 hlen
 subst hm
 rw [t_eq hlen]
 simp only [zaE,zaY,zeQ,h0,h4]
 simp only [ssS,zeQ,zeO,reduceIte,zeP]
 refine zat (fun h => ?_) (fun h => ?_)
 ·have hlt : i < 25 := by have := of_decide_eq_true h; omega
  have hlt' : i < zbs.length := hlt
  have hx : loadV m1 none (.elt ((zbs.map bs).drop (i * 1))) = some (bs (zbs[i]'hlt')) := by
   rw [loadV_drop]
   simp [hlt']
  simp only [ev_global hΓ,idxA_elt hlt,hx,ssS,zeQ,zeO,reduceIte,zeP]
  refine zak (zbF _ _) ?_
  simp only [ssS,zeQ,zeO,reduceIte,zeP]
  refine zat (fun h => ?_) (fun h => ?_)
  ·simp only [ev_global hΓ,idxA_elt hlt,hx,ssS,zeQ,zeO,reduceIte,zeP]
   refine zai zah ⟨?_,rfl⟩
   simp only [zac,zad]
   unfold signOf
   have : zbs.find? (fun p => p.isPrefixOf s) = some (zbs[i]'hlt') := by
    rw [List.find?_eq_some_iff_getElem]
    refine ⟨h,i,hlt',rfl,fun j hj => ?_⟩
    have := hpre (zbs[j]'(by omega)) (List.mem_take_iff_getElem.2 ⟨j,by omega,rfl⟩)
    simp [this]
   rw [this]
   rfl
  ·simp only [zax (show i < 4611686018427387904 by omega),ssS,zeQ,zeO,reduceIte,zeP]
   refine ⟨25 - (i + 1),by omega,i + 1,rfl,hlt,?_,rfl⟩
   intro x hx
   rw [zfB] at hx
   rcases List.mem_append.1 hx with hx | hx
   ·exact hpre x hx
   ·simp only [zff hlt',Option.toList_some,List.mem_singleton] at hx
    subst hx
    exact h
 ·have hge : i = 25 := by have := of_decide_eq_false h; omega
  simp only [ssS,zeQ,zeO,reduceIte,zeP]
  refine zai zah ⟨?_,rfl⟩
  simp only [zac,zad]
  rw [hge,show 25 = zbs.length from rfl,List.take_length] at hpre
  unfold signOf
  have : zbs.find? (fun p => p.isPrefixOf s) = none := by
   rw [List.find?_eq_none]
   intro x hx
   simp [hpre x hx]
  rw [this]
  rfl
end Go.Av.Fn
/- Rows of the reference, runs of bytes: what the functions answer. No condition. -/
namespace Go.Av.Fn
set_option linter.unusedSimpArgs false
set_option linter.unusedVariables false
set_option maxRecDepth 10000
open Go.Proofs
theorem zev {p : UInt8 → Bool} : ∀ {s : List UInt8} {i : Nat},(∀ x ∈ s.take i,p x = true) → i ≤ s.length → (∀ b,s[i]? = some b → p b = false) → (s.takeWhile p).length = i
 | [],i,_,h,_ => by simp at h; simp [h]
 | a :: s,0,_,_,h => by
  have := h a rfl
  simp [List.takeWhile,this]
 | a :: s,i + 1,h1,h2,h3 => by
  have ha : p a = true := h1 a (by simp)
  rw [zfi ha,zeV,zev (i := i) (fun x hx => h1 x (by simp [hx])) (by simpa using h2) (fun b hb => h3 b (by simpa using hb))]
theorem row_ok {Γ : Glob} {m : Store} {g : FuncId} {caps : List V} {p : UInt8 → Bool} (s : List UInt8) (hs : s.length < 4611686018427387904) (hp : ∀ b,zab Tryz.prog Γ g ([] ++ [by8 b] ++ caps) m fun o m' => o = .ret (.val (.bool (p b))) ∧ m' = m) :
  zab Tryz.prog Γ 165 [bs s,.fn (.func g) [] caps] m fun o m' => o = .ret (it (s.takeWhile p).length) ∧ m' = m := by
 refine zae mixed F165_ok (by rintro v m b x _ ⟨⟨⟩,_⟩) ?_
 simp only [F165,ss0,zeW,zeQ]
 simp only [ssS,zeQ,zeO,reduceIte,zeP]
 refine zdc (fun n st => ∃ i : Nat,n = s.length - i ∧ i ≤ s.length ∧ (∀ x ∈ s.take i,p x = true) ∧ st.m = m ∧ st.t.length = 20 ∧ tget st.t 0 = bs s ∧ tget st.t 1 = .fn (.func g) [] caps ∧ tget st.t 5 = it i) s.length ⟨0,rfl,Nat.zero_le _,by simp,rfl,rfl,rfl,rfl,rfl⟩ ?_
 rintro n ⟨t,m1⟩ ⟨i,hn,hi,hpre,hm,hlen,h0,h1,h5⟩
 simp only at hm h0 h1 h5 hlen
 subst hm
 rw [t_eq hlen]
 simp only [zaE,zaY,zeQ,h0,h1,h5]
 simp only [ssS,zeQ,zeO,reduceIte,zeP]
 refine zdb (fun h => ?_) (fun h => ?_)
 ·have hlt : i < s.length := by have := of_decide_eq_true h; omega
  have hx : s[i]? = some s[i] := by simp [hlt]
  simp only [h,idx_bs hx,ssS,zeQ,zeO,reduceIte,zeP]
  refine zak (hp _) ?_
  simp only [ssS,zeQ,zeO,reduceIte,zeP]
  refine zat (fun h2 => ?_) (fun h2 => ?_)
  ·simp only [zax (show i < 4611686018427387904 by omega),ssS,zeQ,zeO,reduceIte,zeP]
   refine ⟨s.length - (i + 1),by omega,i + 1,rfl,hlt,?_,rfl⟩
   intro x hx
   rw [zfB] at hx
   rcases List.mem_append.1 hx with hx | hx
   ·exact hpre x hx
   ·simp only [zff hlt,Option.toList_some,List.mem_singleton] at hx
    subst hx
    exact h2
  ·simp only [ssS,zeQ,zeO,reduceIte,zeP]
   refine zai zah ⟨?_,rfl⟩
   simp only [zac,zad]
   rw [zev hpre hi (fun b hb => by rw [hx] at hb; cases hb; exact h2)]
 ·have hge : ¬ i < s.length := by have := of_decide_eq_false h; omega
  simp only [h,ssS,zeQ,zeO,reduceIte,zeP]
  refine zai zah ⟨?_,rfl⟩
  simp only [zac,zad]
  rw [zev hpre hi (fun b hb => by rw [List.getElem?_eq_none (by omega)] at hb; cases hb)]
def markOk (b : Nat) (p : V) : Prop := p = .val (.pointer none) ∨ p = .ptr b 0
def idxB (s : List UInt8) (c : UInt8) : Int := match s.findIdx? (· == c) with
 | some i => i
 | none => -1
structure LibOk (Γ : Glob) : Prop where
 clone : ∀ (m : Store) (s : List UInt8),s.length ≤ 281474976710656 → zab Tryz.prog Γ 163 [bs s] m fun o m' => o = .ret (bs s) ∧ m' = m
 copyCheck : ∀ (m : Store) (b : Nat) (p u : V),m b = some (.var 369 [p,u]) → markOk b p → zab Tryz.prog Γ 284 [.ptr b 0] m fun o m' => o = .ret (.tup []) ∧ m' = m.set b (.var 369 [.ptr b 0,u])
 string : ∀ (m : Store) (b : Nat) (p u : V) (l : List UInt8),m b = some (.var 369 [p,u]) → l.length ≤ 4096 → ((l = [] ∧ u = .sl [] [] .full) ∨ (l ≠ [] ∧ ∃ t k,m t = some (.tip 5 k) ∧ u = .sl (l.map by8) [] (.tip t k))) →
  zab Tryz.prog Γ 274 [.ptr b 0] m fun o m' => o = .ret (bs l) ∧ ∀ c x,m c = some x → (∀ l2 k,u ≠ .sl l2 [] (.tip c k)) → m' c = some x
 indexByte : ∀ (m : Store) (s : List UInt8) (c : UInt8),s.length ≤ 4096 → zab Tryz.prog Γ 275 [bs s,by8 c] m fun o m' => o = .ret (it (idxB s c)) ∧ m' = m
section
variable {Γ : Glob} {m : Store} (L : LibOk Γ)
include L
theorem clone_ok (s : List UInt8) (hs : s.length ≤ 281474976710656) : zab Tryz.prog Γ 147 [bs s] m fun o m' => o = .ret (bs s) ∧ m' = m := by
 refine zae mixed F147_ok (by rintro v m b x _ ⟨⟨⟩,_⟩) ?_
 simp only [F147,ss0,zeW,zeQ]
 simp only [ssS,zeQ,zeO,reduceIte,zeP]
 refine zak (L.clone _ s hs) ?_
 simp only [ssS,zeQ,zeO,reduceIte,zeP]
 exact zai zah ⟨rfl,rfl⟩
def wordTok (s : List UInt8) : List V := [it (if za8.contains s then 5 else 1),bs s,it 0,it 0,it 0]
def zbU (s : List UInt8) (e : Int) : Int := if za8.contains s then e else if s.length > 20 then 5 else e
theorem word_ok (hΓ : Γ 1 = some (za8.map bs)) {xb : Nat} {T : TypeId} {a0 a1 a2 : V} {e : Int} (s : List UInt8) (hs : s.length ≤ 281474976710656) (hx : m xb = some (.var T [a0,a1,a2,it e])) :
  zab Tryz.prog Γ 262 [.ptr xb 0,bs s] m fun o m' => o = .ret (.agg (wordTok s)) ∧ m' = m.set xb (.var T [a0,a1,a2,it (zbU s e)]) := by
 refine zae mixed F262_ok (by rintro v m b x _ ⟨⟨⟩,_⟩) ?_
 simp only [F262,ss0,zeW,zeQ]
 simp only [ssS,zeQ,zeO,reduceIte,zeP]
 refine zaq fun b hb => ?_
 have hne : xb ≠ b := by
  rintro rfl
  rw [hx] at hb
  cases hb
 have hn : ∀ m' x,(Store.set m' b x) xb = m' xb := fun m' x => Store.set_ne m' x hne
 have hn2 : ∀ m' x,(Store.set m' xb x) b = m' b := fun m' x => Store.set_ne m' x hne.symm
 simp only [ssS,zeQ,zeO,reduceIte,zeP]
 refine zak (Word_ok hΓ s) ?_
 simp only [ssS,zeQ,zeO,reduceIte,zeP]
 refine zat (fun h => ?_) (fun h => ?_)
 ·simp only [Store.set_same,ssS,zeQ,zeO,reduceIte,zeP]
  refine zbA (v := .agg (wordTok s)) (m' := m.set xb (.var T [a0,a1,a2,it (zbU s e)])) ?_ ?_ ⟨rfl,rfl⟩
  ·rw [zdq (b := b) rfl (Store.set_same _ _ _)]
   unfold wordTok
   rw [h]
   rfl
  ·refine drop_set (b := b) (by rw [hn2,hb]) (fun c hc => ?_)
   have : zbU s e = e := by simp only [zbU,h,if_true]
   rw [this,Store.set_eq m hx]
   simp [Store.set,hc]
 ·simp only [ssS,zeQ,zeO,reduceIte,zeP]
  refine zat (fun h2 => ?_) (fun h2 => ?_)
  ·have hl : s.length > 20 := by have := of_decide_eq_true h2; omega
   simp only [hn,hx,ssS,zeQ,zeO,reduceIte,zeP]
   refine zak (clone_ok L s hs) ?_
   simp only [Store.set_same,hn2,ssS,zeQ,zeO,reduceIte,zeP]
   refine zbA (v := .agg (wordTok s)) (m' := m.set xb (.var T [a0,a1,a2,it (zbU s e)])) ?_ ?_ ⟨rfl,rfl⟩
   ·rw [zdq (b := b) rfl (Store.set_same _ _ _)]
    unfold wordTok
    rw [h]
    rfl
   ·refine drop_set (b := b) (by rw [hn2,hb]) (fun c hc => ?_)
    have : zbU s e = 5 := by simp only [zbU,h,hl,if_true]; rfl
    rw [this]
    simp [Store.set,hc]
  ·have hl : ¬ s.length > 20 := by have := of_decide_eq_false h2; omega
   simp only [ssS,zeQ,zeO,reduceIte,zeP]
   refine zak (clone_ok L s hs) ?_
   simp only [Store.set_same,ssS,zeQ,zeO,reduceIte,zeP]
   refine zbA (v := .agg (wordTok s)) (m' := m.set xb (.var T [a0,a1,a2,it (zbU s e)])) ?_ ?_ ⟨rfl,rfl⟩
   ·rw [zdq (b := b) rfl (Store.set_same _ _ _)]
    unfold wordTok
    rw [h]
    rfl
   ·refine drop_set (b := b) (by rw [hn2,hb]) (fun c hc => ?_)
    have : zbU s e = e := by simp only [zbU,h,hl,if_false]; rfl
    rw [this,Store.set_eq m hx]
    simp [Store.set,hc]
end
def rdB (s : List UInt8) (a : Nat) (e : Int) : Blk := .var 169 [.val (.bool true),bs s,it a,it e]
theorem ptr_nn {xo yo : Operand} {b o : Nat} : binV Tryz.prog .eql 133 .pointer xo yo (.ptr b o) (.val (.pointer none)) = some (.val (.bool false)) := rfl
def rInt (s : List UInt8) (a : Nat) (e : Int) : Int × Nat × Int :=
 if e ≠ 0 then (0,a,e) else if (Av.numL (s.drop a)).2.2 ≠ 0 then (0,a,(Av.numL (s.drop a)).2.2) else ((Av.numL (s.drop a)).1,a + (Av.numL (s.drop a)).2.1,0)
def zaD (s : List UInt8) (most : Int) : Int × Nat × Int :=
 if (Av.numL s).2.2 ≠ 0 then (0,0,(Av.numL s).2.2) else if (Av.numL s).1 < 0 then (0,0,4) else if (Av.numL s).1 > max 0 most then (0,0,5) else ((Av.numL s).1,(Av.numL s).2.1,0)
def zcb (s : List UInt8) (a : Nat) (e : Int) (most : Int) : Int × Nat × Int :=
 if e ≠ 0 then (0,a,e) else if (zaD (s.drop a) most).2.2 ≠ 0 then (0,a,(zaD (s.drop a) most).2.2) else ((zaD (s.drop a) most).1,a + (zaD (s.drop a) most).2.1,0)
def textL (s : List UInt8) (most : Int) : List UInt8 × Nat × Int :=
 if (zaD s most).2.2 ≠ 0 then ([],0,(zaD s most).2.2) else if (zaD s most).1 > (s.length : Int) - ((zaD s most).2.1 : Int) then ([],0,3)
 else ((s.drop (zaD s most).2.1).take (zaD s most).1.toNat,(zaD s most).2.1 + (zaD s most).1.toNat,0)
def zcl (s : List UInt8) (a : Nat) (e : Int) (most : Int) : List UInt8 × Nat × Int :=
 if e ≠ 0 then ([],a,e) else if (textL (s.drop a) most).2.2 ≠ 0 then ([],a,(textL (s.drop a) most).2.2) else ((textL (s.drop a) most).1,a + (textL (s.drop a) most).2.1,0)
theorem countL_le (s : List UInt8) (most : Int) : (zaD s most).2.1 ≤ s.length ∧ 0 ≤ (zaD s most).1 ∧ (zaD s most).1 ≤ 9223372036854775807 := by
 have h := Av.numL_le s
 have h2 := Av.numL_i64 s
 unfold Av.I64 at h2
 unfold zaD
 split
 ·simp
 ·split
  ·simp
  ·split
   ·simp
   ·simp only
    omega
theorem textL_le (s : List UInt8) (most : Int) : (textL s most).2.1 ≤ s.length := by
 obtain ⟨h1,h2,h3⟩ := countL_le s most
 unfold textL
 split
 ·simp
 ·split
  ·simp
  ·simp only
   omega
theorem zaC {s : List UInt8} {a : Nat} {e : Int} (h : a ≤ s.length) : (rInt s a e).2.1 ≤ s.length := by
 have h1 := Av.numL_le (s.drop a)
 rw [zfd] at h1
 unfold rInt
 split
 ·exact h
 ·split
  ·exact h
  ·simp only
   omega
theorem rCount_le {s : List UInt8} {a : Nat} {e most : Int} (h : a ≤ s.length) : (zcb s a e most).2.1 ≤ s.length := by
 have h1 := (countL_le (s.drop a) most).1
 rw [zfd] at h1
 unfold zcb
 split
 ·exact h
 ·split
  ·exact h
  ·simp only
   omega
theorem zeA {s : List UInt8} {a : Nat} {e most : Int} (h : a ≤ s.length) : (zcl s a e most).2.1 ≤ s.length := by
 have h1 := textL_le (s.drop a) most
 rw [zfd] at h1
 unfold zcl
 split
 ·exact h
 ·split
  ·exact h
  ·simp only
   omega
section
variable {Γ : Glob} {m : Store} {rb a : Nat} {s : List UInt8} {e : Int}
theorem zdS (hr : m rb = some (rdB s a e)) : zab Tryz.prog Γ 82 [.ptr rb 0] m fun o m' => o = .ret (it e) ∧ m' = m := by
 refine zae mixed F82_ok (by rintro v m b x _ ⟨⟨⟩,_⟩) ?_
 simp only [F82,ss0,zeW,zeQ]
 simp only [ptr_nn,hr,rdB,ze5,ssS,zeQ,zeO,reduceIte,zeP]
 exact zai zah ⟨rfl,rfl⟩
theorem wAt_ok (hr : m rb = some (rdB s a e)) : zab Tryz.prog Γ 83 [.ptr rb 0] m fun o m' => o = .ret (it a) ∧ m' = m := by
 refine zae mixed F83_ok (by rintro v m b x _ ⟨⟨⟩,_⟩) ?_
 simp only [F83,ss0,zeW,zeQ]
 simp only [ptr_nn,hr,rdB,ssS,zeQ,zeO,reduceIte,zeP]
 exact zai zah ⟨rfl,rfl⟩
theorem wEnd_ok (hr : m rb = some (rdB s a e)) : zab Tryz.prog Γ 90 [.ptr rb 0] m fun o m' => o = .ret (it (if e ≠ 0 then e else if a < s.length then 5 else 0)) ∧ m' = m := by
 refine zae mixed F90_ok (by rintro v m b x _ ⟨⟨⟩,_⟩) ?_
 simp only [F90,ss0,zeW,zeQ]
 simp only [ssS,zeQ,zeO,reduceIte,zeP]
 refine zak (zdS hr) ?_
 cases he : (e != 0)
 ·have h0 : e = 0 := by simpa using he
  subst h0
  simp only [show ((0 : Int) != 0) = false from rfl,hr,rdB,zcY,ssS,zeQ,zeO,reduceIte,zeP]
  refine zat (fun h => ?_) (fun h => ?_)
  ·have : a < s.length := by have := of_decide_eq_true h; omega
   simp only [ssS,zeQ,zeO,reduceIte,zeP]
   exact zai zah ⟨by simp [this,zac,zad],rfl⟩
  ·have : ¬ a < s.length := by have := of_decide_eq_false h; omega
   simp only [ssS,zeQ,zeO,reduceIte,zeP]
   exact zai zah ⟨by simp [this,zac,zad],rfl⟩
 ·have h0 : e ≠ 0 := by simpa using he
  simp only [he,ssS,zeQ,zeO,reduceIte,zeP]
  exact zai zah ⟨by simp [h0,zac,zad],rfl⟩
theorem wNew_ok {l : List UInt8} {more : List V} {tok : Tok} : zab Tryz.prog Γ 80 [.sl (l.map by8) more tok] m fun o m' => ∃ rb,m rb = none ∧ o = .ret (.ptr rb 0) ∧ m' = m.set rb (rdB l 0 0) := by
 refine zae mixed F80_ok (by rintro v m b x _ ⟨_,_,⟨⟩,_⟩) ?_
 simp only [F80,ss0,zeW,zeQ]
 simp only [eval_b2s,b2s_bs,ssS,zeQ,zeO,reduceIte,zeP]
 refine zaq fun rb hrb => ?_
 simp only [ssS,zeQ,zeO,reduceIte,zeP]
 exact zai zah ⟨rb,hrb,rfl,rfl⟩
def pick3 {α : Type} (z : α) (a : Nat) (e : Int) (r : α × Nat × Int) : α × Nat × Int := if e ≠ 0 then (z,a,e) else if r.2.2 ≠ 0 then (z,a,r.2.2) else (r.1,a + r.2.1,0)
theorem readI_ok (hr : m rb = some (rdB s a e)) (ha : a ≤ s.length) (hs : s.length < 4611686018427387904) {f : FuncId} {caps : List V} (r : Int × Nat × Int) (hl : r.2.1 ≤ s.length - a)
  (hf : zab Tryz.prog Γ f ([] ++ [bs (s.drop a)] ++ caps) m fun o m' => o = .ret (.tup [it r.1,it r.2.1,it r.2.2]) ∧ m' = m) :
  zab Tryz.prog Γ 125 [.ptr rb 0,.fn (.func f) [] caps] m fun o m' => o = .ret (it (pick3 0 a e r).1) ∧ m' = m.set rb (rdB s (pick3 0 a e r).2.1 (pick3 0 a e r).2.2) := by
 refine zae mixed F125_ok (by rintro v m b x _ ⟨⟨⟩,_⟩) ?_
 simp only [F125,ss0,zeW,zeQ]
 simp only [ssS,zeQ,zeO,reduceIte,zeP]
 refine zak (zdS hr) ?_
 unfold pick3
 cases he : (e != 0)
 ·have h0 : e = 0 := by simpa using he
  subst h0
  simp only [show ((0 : Int) != 0) = false from rfl,hr,rdB,zd2 ha,ssS,zeQ,zeO,reduceIte,zeP]
  refine zak hf ?_
  cases h1 : (r.2.2 != 0)
  ·have h2 : r.2.2 = 0 := by simpa using h1
   have hw : IntKind.i64.wrap ((a : Int) + (r.2.1 : Int)) = ((a + r.2.1 : Nat) : Int) := by
    rw [wrap_i64 (by omega) (by omega)]
    omega
   simp only [hr,rdB,h1,hw,ssS,zeQ,zeO,reduceIte,zeP]
   refine zai zah ⟨?_,?_⟩
   ·simp only [zac,zad,h2,ne_eq,not_true_eq_false,if_false]
   ·simp only [h2,ne_eq,not_true_eq_false,if_false]
  ·have h2 : r.2.2 ≠ 0 := by simpa using h1
   simp only [hr,rdB,h1,ssS,zeQ,zeO,reduceIte,zeP]
   refine zai zah ⟨?_,?_⟩
   ·simp only [zac,zad,h2,ne_eq,not_true_eq_false,not_false_eq_true,if_true,if_false]
   ·simp only [h2,ne_eq,not_true_eq_false,not_false_eq_true,if_true,if_false]
 ·have h0 : e ≠ 0 := by simpa using he
  simp only [he,ssS,zeQ,zeO,reduceIte,zeP]
  refine zai zah ⟨?_,?_⟩
  ·simp only [zac,zad,h0,ne_eq,not_false_eq_true,if_true]
  ·simp only [h0,ne_eq,not_false_eq_true,if_true]
   exact (Store.set_eq m hr).symm
theorem zco (hr : m rb = some (rdB s a e)) (ha : a ≤ s.length) (hs : s.length < 4611686018427387904) : zab Tryz.prog Γ 87 [.ptr rb 0] m fun o m' => o = .ret (it (rInt s a e).1) ∧ m' = m.set rb (rdB s (rInt s a e).2.1 (rInt s a e).2.2) := by
 refine zae mixed F87_ok (by rintro v m b x _ ⟨⟨⟩,_⟩) ?_
 simp only [F87,ss0,zeW,zeQ]
 simp only [ssS,zeQ,zeO,reduceIte,zeP]
 have h1 := Av.numL_le (s.drop a)
 rw [zfd] at h1
 refine zaK (readI_ok hr ha hs (Av.numL (s.drop a)) h1 (wnumber_ok _ (by simp; omega))) ?_
 simp only [ssS,zeQ,zeO,reduceIte,zeP]
 exact zai zah ⟨rfl,rfl⟩
theorem wcount_ok (most : Int) (hs : s.length < 4611686018427387904) : zab Tryz.prog Γ 127 [bs s,it most] m fun o m' => o = .ret (.tup [it (zaD s most).1,it (zaD s most).2.1,it (zaD s most).2.2]) ∧ m' = m := by
 refine zae mixed F127_ok (by rintro v m b x _ ⟨⟨⟩,_⟩) ?_
 simp only [F127,ss0,zeW,zeQ]
 simp only [ssS,zeQ,zeO,reduceIte,zeP]
 refine zak (wnumber_ok _ hs) ?_
 unfold zaD
 generalize Av.numL s = r
 obtain ⟨n,u,e⟩ := r
 simp only
 simp only [ssS,zeQ,zeO,reduceIte,zeP]
 cases h1 : (e != 0)
 ·have h1' : e = 0 := by simpa using h1
  subst h1'
  simp only [show ((0 : Int) != 0) = false from rfl,ssS,zeQ,zeO,reduceIte,zeP]
  cases h2 : decide (n < 0)
  ·have h2' : ¬ n < 0 := of_decide_eq_false h2
   simp only [h2,eval_mm,q_mm,mm_max,ssS,zeQ,zeO,reduceIte,zeP]
   cases h3 : decide (n > max 0 most)
   ·have h3' : ¬ n > max 0 most := of_decide_eq_false h3
    simp only [h3,ssS,zeQ,zeO,reduceIte,zeP]
    refine zai zaI ⟨?_,rfl⟩
    simp only [zac,zad,ne_eq,not_true_eq_false,if_false,if_neg h2',if_neg h3']
   ·have h3' : n > max 0 most := of_decide_eq_true h3
    simp only [h3,ssS,zeQ,zeO,reduceIte,zeP]
    refine zai zaI ⟨?_,rfl⟩
    simp only [zac,zad,ne_eq,not_true_eq_false,if_false,if_neg h2',if_pos h3']
    rfl
  ·have h2' : n < 0 := of_decide_eq_true h2
   simp only [h2,ssS,zeQ,zeO,reduceIte,zeP]
   refine zai zaI ⟨?_,rfl⟩
   simp only [zac,zad,ne_eq,not_true_eq_false,if_false,if_pos h2']
   rfl
 ·have h1' : e ≠ 0 := by simpa using h1
  simp only [h1,ssS,zeQ,zeO,reduceIte,zeP]
  refine zai zaI ⟨?_,rfl⟩
  simp only [zac,zad,h1',ne_eq,not_false_eq_true,if_true]
  rfl
theorem wText1_ok (L : LibOk Γ) (most : Int) {b : Nat} (hb : m b = some (.var 3 [it most])) (hs : s.length ≤ 281474976710656) : zab Tryz.prog Γ 146 ([] ++ [bs s] ++ [.ptr b 0]) m fun o m' => o = .ret (.tup [bs (textL s most).1,it (textL s most).2.1,it (textL s most).2.2]) ∧ m' = m := by
 refine zae mixed F146_ok (by rintro v m b x _ ⟨⟨⟩,_⟩) ?_
 simp only [F146,ss0,zeW,zeQ]
 simp only [hb,ssS,zeQ,zeO,reduceIte,zeP]
 refine zak (wcount_ok most (by omega)) ?_
 obtain ⟨q1,q2,q3⟩ := countL_le s most
 unfold textL
 generalize zaD s most = r at q1 q2 q3
 obtain ⟨n,u,e⟩ := r
 simp only at q1 q2 q3
 simp only [ssS,zeQ,zeO,reduceIte,zeP]
 cases h1 : (e != 0)
 ·have h1' : e = 0 := by simpa using h1
  subst h1'
  have hw : IntKind.i64.wrap ((s.length : Int) - (u : Int)) = (s.length : Int) - (u : Int) := wrap_i64 (by omega) (by omega)
  simp only [show ((0 : Int) != 0) = false from rfl,zcY,hw,ssS,zeQ,zeO,reduceIte,zeP]
  cases h3 : decide (n > (s.length : Int) - (u : Int))
  ·have h3' : ¬ n > (s.length : Int) - (u : Int) := of_decide_eq_false h3
   obtain ⟨n,rfl⟩ : ∃ k : Nat,n = (k : Int) := ⟨n.toNat,by omega⟩
   have hw2 : IntKind.i64.wrap ((u : Int) + (n : Int)) = ((u + n : Nat) : Int) := by
    rw [wrap_i64 (by omega) (by omega)]
    omega
   simp only [h3,hw2,slice_bs (x := s) (a := u) (b := u + n) (by omega) (by omega),ssS,zeQ,zeO,reduceIte,zeP]
   refine zak (clone_ok L _ (by simp; omega)) ?_
   simp only [hw2,ssS,zeQ,zeO,reduceIte,zeP]
   refine zai zaI ⟨?_,rfl⟩
   simp only [zac,zad,ne_eq,not_true_eq_false,if_false,if_neg h3',Int.toNat_natCast]
   rw [List.drop_take,show u + n - u = n by omega]
  ·have h3' : n > (s.length : Int) - (u : Int) := of_decide_eq_true h3
   simp only [h3,ssS,zeQ,zeO,reduceIte,zeP]
   refine zai zaI ⟨?_,rfl⟩
   simp only [zac,zad,ne_eq,not_true_eq_false,if_false,if_pos h3']
   rfl
 ·have h1' : e ≠ 0 := by simpa using h1
  simp only [h1,ssS,zeQ,zeO,reduceIte,zeP]
  refine zai zaI ⟨?_,rfl⟩
  simp only [zac,zad,h1',ne_eq,not_false_eq_true,if_true]
  rfl
theorem readS_ok (hr : m rb = some (rdB s a e)) (ha : a ≤ s.length) (hs : s.length < 4611686018427387904) {f : FuncId} {caps : List V} (r : List UInt8 × Nat × Int) (hl : r.2.1 ≤ s.length - a)
  (hf : zab Tryz.prog Γ f ([] ++ [bs (s.drop a)] ++ caps) m fun o m' => o = .ret (.tup [bs r.1,it r.2.1,it r.2.2]) ∧ m' = m) :
  zab Tryz.prog Γ 145 [.ptr rb 0,.fn (.func f) [] caps] m fun o m' => o = .ret (bs (pick3 [] a e r).1) ∧ m' = m.set rb (rdB s (pick3 [] a e r).2.1 (pick3 [] a e r).2.2) := by
 refine zae mixed F145_ok (by rintro v m b x _ ⟨⟨⟩,_⟩) ?_
 simp only [F145,ss0,zeW,zeQ]
 simp only [ssS,zeQ,zeO,reduceIte,zeP]
 refine zak (zdS hr) ?_
 unfold pick3
 cases he : (e != 0)
 ·have h0 : e = 0 := by simpa using he
  subst h0
  simp only [show ((0 : Int) != 0) = false from rfl,hr,rdB,zd2 ha,ssS,zeQ,zeO,reduceIte,zeP]
  refine zak hf ?_
  cases h1 : (r.2.2 != 0)
  ·have h2 : r.2.2 = 0 := by simpa using h1
   have hw : IntKind.i64.wrap ((a : Int) + (r.2.1 : Int)) = ((a + r.2.1 : Nat) : Int) := by
    rw [wrap_i64 (by omega) (by omega)]
    omega
   simp only [hr,rdB,h1,hw,ssS,zeQ,zeO,reduceIte,zeP]
   refine zai zah ⟨?_,?_⟩
   ·simp only [zac,zad,h2,ne_eq,not_true_eq_false,if_false]
   ·simp only [h2,ne_eq,not_true_eq_false,if_false]
  ·have h2 : r.2.2 ≠ 0 := by simpa using h1
   simp only [hr,rdB,h1,ssS,zeQ,zeO,reduceIte,zeP]
   refine zai zah ⟨?_,?_⟩
   ·simp only [zac,zad,h2,ne_eq,not_true_eq_false,not_false_eq_true,if_true,if_false]
   ·simp only [h2,ne_eq,not_true_eq_false,not_false_eq_true,if_true,if_false]
 ·have h0 : e ≠ 0 := by simpa using he
  simp only [he,ssS,zeQ,zeO,reduceIte,zeP]
  refine zai zah ⟨?_,?_⟩
  ·simp only [zac,zad,h0,ne_eq,not_false_eq_true,if_true]
  ·simp only [h0,ne_eq,not_false_eq_true,if_true]
   exact (Store.set_eq m hr).symm
theorem wText_ok (L : LibOk Γ) (most : Int) (hr : m rb = some (rdB s a e)) (ha : a ≤ s.length) (hs : s.length ≤ 281474976710656) : zab Tryz.prog Γ 120 [.ptr rb 0,it most] m fun o m' => o = .ret (bs (zcl s a e most).1) ∧ m' = m.set rb (rdB s (zcl s a e most).2.1 (zcl s a e most).2.2) := by
 refine zab.less (A := fun o m' => o = .ret (bs (zcl s a e most).1) ∧ SubS (m.set rb (rdB s (zcl s a e most).2.1 (zcl s a e most).2.2)) m') ?_ fun o m' h => ⟨_,h.2,h.1,rfl⟩
 refine zae mixed F120_ok (by rintro v m b x _ ⟨⟨⟩,_⟩) ?_
 simp only [F120,ss0,zeW,zeQ]
 simp only [ssS,zeQ,zeO,reduceIte,zeP]
 refine zaq fun b hb => ?_
 have hn := zal hr hb
 have h1 := textL_le (s.drop a) most
 rw [zfd] at h1
 simp only [ssS,zeQ,zeO,reduceIte,zeP]
 refine zaK (readS_ok (a := a) (e := e) (by rw [Store.set_ne _ _ hn]; exact hr) ha (by omega) (textL (s.drop a) most) h1 (wText1_ok L most (Store.set_same _ _ _) (by simp; omega))) ?_
 simp only [ssS,zeQ,zeO,reduceIte,zeP]
 refine zai zah ⟨rfl,?_⟩
 rw [set_comm m _ _ hn.symm]
 refine (SubS.refl _).out ?_ _
 rw [Store.set_ne _ _ hn.symm]
 exact hb
theorem wCount_ok (most : Int) (hr : m rb = some (rdB s a e)) (ha : a ≤ s.length) (hs : s.length ≤ 281474976710656) : zab Tryz.prog Γ 81 [.ptr rb 0,it most] m fun o m' => o = .ret (it (zcb s a e most).1) ∧ m' = m.set rb (rdB s (zcb s a e most).2.1 (zcb s a e most).2.2) := by
 refine zab.less (A := fun o m' => o = .ret (it (zcb s a e most).1) ∧ SubS (m.set rb (rdB s (zcb s a e most).2.1 (zcb s a e most).2.2)) m') ?_ fun o m' h => ⟨_,h.2,h.1,rfl⟩
 refine zae mixed F81_ok (by rintro v m b x _ ⟨⟨⟩,_⟩) ?_
 simp only [F81,ss0,zeW,zeQ]
 simp only [ssS,zeQ,zeO,reduceIte,zeP]
 refine zaq fun b hb => ?_
 have hn := zal hr hb
 have h1 := (countL_le (s.drop a) most).1
 rw [zfd] at h1
 simp only [ssS,zeQ,zeO,reduceIte,zeP]
 refine zaK (readI_ok (a := a) (e := e) (f := 126) (caps := [.ptr b 0]) (by rw [Store.set_ne _ _ hn]; exact hr) ha (by omega) (zaD (s.drop a) most) h1 ?_) ?_
 ·refine zae mixed F126_ok (by rintro v m b x _ ⟨⟨⟩,_⟩) ?_
  simp only [F126,ss0,zeW,zeQ]
  simp only [Store.set_same,ssS,zeQ,zeO,reduceIte,zeP]
  refine zak (wcount_ok most (by simp; omega)) ?_
  simp only [ssS,zeQ,zeO,reduceIte,zeP]
  exact zai zaI ⟨rfl,rfl⟩
 simp only [ssS,zeQ,zeO,reduceIte,zeP]
 refine zai zah ⟨rfl,?_⟩
 rw [set_comm m _ _ hn.symm]
 refine (SubS.refl _).out ?_ _
 rw [Store.set_ne _ _ hn.symm]
 exact hb
/-! ### Texts put -/
theorem putText_ok {m' : Store} {v : V} {l t : List UInt8} (h : Buf 5 1 m m' v (l.map by8)) (hl : l.length + t.length + 10 ≤ 140737488355328) (hl2 : l.length < 1099511627776) :
  zab Tryz.prog Γ 64 [v,bs t] m' fun o m2 => ∃ v2,o = .ret v2 ∧ Buf 5 1 m m2 v2 ((l ++ Lib.uvarint (Lib.zigzag t.length) ++ t).map by8) := by
 refine zae mixed F64_ok (by rintro v m b x _ ⟨_,⟨⟩,_⟩) ?_
 simp only [F64,ss0,zeW,zeQ]
 simp only [zcY,ssS,zeQ,zeO,reduceIte,zeP]
 have hI : Av.I64 (t.length : Int) := ⟨by omega,by omega⟩
 have hlen10 := Lib.uvarint_length64 (Av.zigzag_u64 hI)
 refine zbT (zbj (.inl h) hI hl2) ?_ (by rintro v m' ⟨_,⟨⟩,_⟩)
 rintro v2 m2 ⟨_,⟨⟩,hB⟩
 simp only [ssS,zeQ,zeO,reduceIte,zeP]
 refine appS_bufs hB (extra_bs t) (elemsOk_by8 t) (by simp; omega) fun m3 v3 hB3 => ?_
 simp only [ssS,zeQ,zeO,reduceIte,zeP]
 refine zai zah ⟨v3,rfl,?_⟩
 rw [zfu]
 exact hB3
end
theorem bldLen_ok {Γ : Glob} {m : Store} {b : Nat} {T : TypeId} {p : V} {es more : List V} {tok : Tok} (h : m b = some (.var T [p,.sl es more tok])) : zab Tryz.prog Γ 276 [.ptr b 0] m fun o m' => o = .ret (it es.length) ∧ m' = m := by
 refine zae mixed F276_ok (by rintro v m b x _ ⟨⟨⟩,_⟩) ?_
 simp only [F276,ss0,zeW,zeQ]
 simp only [h,ssS,zeQ,zeO,reduceIte,zeP]
 exact zai zah ⟨rfl,rfl⟩
theorem bldWrite_ok {Γ : Glob} (L : LibOk Γ) {m : Store} {b : Nat} {p u : V} {l : List UInt8} (c : UInt8) (h : m b = some (.var 369 [p,u])) (hp : markOk b p) (hl : l.length ≤ 4096)
  (hu : (l = [] ∧ u = .sl [] [] .full) ∨ (l ≠ [] ∧ ∃ t k,m t = some (.tip 5 k) ∧ u = .sl (l.map by8) [] (.tip t k))) :
  zab Tryz.prog Γ 277 [.ptr b 0,by8 c] m fun o m' => o = .ret (.val .nilIface) ∧ ∃ t k,t ≠ b ∧ (m t = none ∨ ∃ k0,m t = some (.tip 5 k0) ∧ ∃ l0,u = .sl l0 [] (.tip t k0)) ∧ m' = (m.set t (.tip 5 k)).set b (.var 369 [.ptr b 0,.sl ((l ++ [c]).map by8) [] (.tip t k)]) := by
 refine zae mixed F277_ok (by rintro v m b x _ ⟨⟨⟩,_⟩) ?_
 simp only [F277,ss0,zeW,zeQ]
 simp only [ssS,zeQ,zeO,reduceIte,zeP]
 refine zaK (L.copyCheck m b p u h hp) ?_
 simp only [Store.set_same,eval_lit1,litV1_val,ssS,zeQ,zeO,reduceIte,zeP]
 have hel : zdz 1 [by8 c] := by
  intro y hy
  rw [List.mem_singleton] at hy
  subst hy
  exact ⟨rfl,by intro z hz; simp [V.cells] at hz; subst hz; rfl⟩
 have hst : ∀ {t : Nat} {A B C : Blk},t ≠ b → ((m.set b A).set t C).set b B = (m.set t C).set b B := by
  intro t A B C ht
  funext c
  simp only [Store.set]
  by_cases e : c = b
  ·simp [e]
  ·simp [e]
 rcases hu with ⟨rfl,rfl⟩ | ⟨hne,t,k,ht,rfl⟩
 ·refine appS_full (by simp) rfl hel (by simp) fun t ht => ?_
  have htb : t ≠ b := by
   rintro rfl
   rw [Store.set_same] at ht
   cases ht
  have hmt : m t = none := by rwa [Store.set_ne _ _ htb] at ht
  have hbt : ∀ m' x,(Store.set m' t x) b = m' b := fun m' x => Store.set_ne m' x htb.symm
  simp only [hbt,Store.set_same,ssS,zeQ,zeO,reduceIte,zeP]
  refine zai zah ⟨rfl,t,0,htb,.inl hmt,?_⟩
  rw [hst htb]
  rfl
 ·have htb : t ≠ b := by
   rintro rfl
   rw [h] at ht
   cases ht
  have hbt : ∀ m' x,(Store.set m' t x) b = m' b := fun m' x => Store.set_ne m' x htb.symm
  refine appS_tip (by simp) (by simpa using hne) (by rw [Store.set_ne _ _ htb,ht]) (zaR l) hel (by simp; omega) ?_
  simp only [hbt,Store.set_same,ssS,zeQ,zeO,reduceIte,zeP]
  refine zai zah ⟨rfl,t,k + 1,htb,.inr ⟨k,ht,_,rfl⟩,?_⟩
  rw [hst htb,zfu]
  rfl
def qL : List UInt8 → List UInt8 → Nat → Except Int (List UInt8 × Nat)
 | [],_,_ => .error 6
 | c :: r,acc,k =>
  if c.toNat = 34 then .ok (acc,k)
  else if c.toNat < 32 ∨ c.toNat > 126 then .error 6
  else if c.toNat = 92 then match r with
   | [] => .error 6
   | d :: r' => if d.toNat ≠ 92 ∧ d.toNat ≠ 34 ∧ d.toNat ≠ 110 then .error 6 else if acc.length = 255 then .error 5 else qL r' (acc ++ [if d.toNat = 110 then 10 else d]) (k + 2)
  else if acc.length = 255 then .error 5 else qL r (acc ++ [c]) (k + 1)
theorem idxB3 (d : UInt8) : idxB [92,34,110] d = if d.toNat = 92 then 0 else if d.toNat = 34 then 1 else if d.toNat = 110 then 2 else -1 := by
 have key : ∀ c : UInt8,(c == d) = decide (d.toNat = c.toNat) := by
  intro c
  rw [zfz]
  simp only [beq_iff_eq,decide_eq_true_eq]
  constructor
  ·rintro rfl; rfl
  ·intro h; exact UInt8.toNat_inj.1 h.symm
 unfold idxB
 simp only [List.findIdx?_cons,key,List.findIdx?_nil]
 by_cases d1 : d.toNat = 92
 ·simp [d1]
 ·by_cases d2 : d.toNat = 34
  ·simp [d2]
  ·by_cases d3 : d.toNat = 110
   ·simp [d3]
   ·simp [d1,d2,d3]
def Bld (m m' : Store) (b : Nat) (l : List UInt8) : Prop := ∃ p u,m' b = some (.var 369 [p,u]) ∧ markOk b p ∧ (∀ c x,m c = some x → m' c = some x) ∧
 ((l = [] ∧ u = .sl [] [] .full) ∨ (l ≠ [] ∧ ∃ t k,m' t = some (.tip 5 k) ∧ m t = none ∧ u = .sl (l.map by8) [] (.tip t k)))
def quotOut (T : TypeId) (a0 a1 a2 : V) (e0 : Int) (xb : Nat) (m : Store) (r : Except Int (List UInt8 × Nat)) (o : Out) (m' : Store) : Prop := match r with
 | .ok (l,k) => o = .ret (.tup [bs l,it ((k + 2 : Nat) : Int)]) ∧ m' = m
 | .error e => o = .ret (.tup [bs [],it 0]) ∧ m' = m.set xb (.var T [a0,a1,a2,it e])
theorem quoted_ok {Γ : Glob} (L : LibOk Γ) {m : Store} {xb : Nat} {T : TypeId} {a0 a1 a2 : V} {e : Int} (s : List UInt8) (hs : s.length ≤ 4096) (hx : m xb = some (.var T [a0,a1,a2,it e])) :
  zab Tryz.prog Γ 264 [.ptr xb 0,bs s] m fun o m' => quotOut T a0 a1 a2 e xb m (qL s [] 0) o m' := by
 refine zae mixed F264_ok (by
  rintro v m b x _ h
  exfalso
  unfold quotOut at h
  split at h
  ·cases h.1
  ·cases h.1) ?_
 simp only [F264,ss0,zeW,zeQ]
 simp only [ssS,zeQ,zeO,reduceIte,zeP]
 refine zaq fun b hb => ?_
 simp only [ssS,zeQ,zeO,reduceIte,zeP]
 generalize hres : qL s [] 0 = res
 have hxb : xb ≠ b := by
  rintro rfl
  rw [hx] at hb
  cases hb
 have fail : ∀ {t : List V} {m1 : Store} {l : List UInt8} {er : Int},Bld m m1 b l → res = .error er → resV [.tmp 4,.tmp 5] ⟨t,m1.set xb (.var T [a0,a1,a2,it er])⟩ = some (.tup [bs [],it 0]) →
   bodyA [.tmp 4,.tmp 5] (fun o m' => quotOut T a0 a1 a2 e xb m res o m') .ret ⟨t,m1.set xb (.var T [a0,a1,a2,it er])⟩ := by
  rintro t m1 l er ⟨p,u,h1,h2,h3,h4⟩ hr hv
  refine zbA (m' := m.set xb (.var T [a0,a1,a2,it er])) hv (fun c x hc => ?_) ?_
  ·by_cases e : c = xb
   ·subst e
    rw [Store.set_same] at hc ⊢
    exact hc
   ·rw [Store.set_ne _ _ e] at hc ⊢
    exact h3 c x hc
  ·rw [hr]
   exact ⟨rfl,rfl⟩
 have good : ∀ {t : List V} {m1 : Store} {l : List UInt8} {k : Nat},(∀ c x,m c = some x → m1 c = some x) → res = .ok (l,k) → resV [.tmp 4,.tmp 5] ⟨t,m1⟩ = some (.tup [bs l,it ((k + 2 : Nat) : Int)]) →
   bodyA [.tmp 4,.tmp 5] (fun o m' => quotOut T a0 a1 a2 e xb m res o m') .ret ⟨t,m1⟩ := by
  intro t m1 l k h3 hr hv
  refine zbA (m' := m) hv h3 ?_
  rw [hr]
  exact ⟨rfl,rfl⟩
 refine zbE (inBlockA_mono (zd1 (n := fun st => ∃ l,Bld m st.m b l ∧ res = .error 6 ∧ st.t.length = 59 ∧ tget st.t 0 = .ptr xb 0) ?_ (fun _ _ h => h))) ?_
 ·rintro ⟨t,m1⟩ ⟨l,hB,hr,hlen,h0⟩
  simp only at hB hlen h0
  have hx1 : m1 xb = some (.var T [a0,a1,a2,it e]) := by
   obtain ⟨_,_,_,_,h3,_⟩ := hB
   exact h3 _ _ hx
  rw [t_eq hlen]
  simp only [zaE,zaY,zeQ,h0]
  simp only [hx1,ssS,zeQ,zeO,reduceIte,zeP]
  exact fail hB hr rfl
 ·refine zdc (fun n st => ∃ (k : Nat) (acc : List UInt8),n = s.length - k ∧ k ≤ s.length ∧ acc.length ≤ 255 ∧ qL (s.drop k) acc k = res ∧ Bld m st.m b acc ∧ st.t.length = 59 ∧ tget st.t 0 = .ptr xb 0 ∧ tget st.t 1 = bs s ∧ tget st.t 6 = .ptr b 0 ∧ tget st.t 7 = it k) s.length
   ⟨0,[],rfl,by omega,by simp,hres,⟨.val (.pointer none),.sl [] [] .full,Store.set_same _ _ _,.inl rfl,sub_set hb (fun _ _ h => h),.inl ⟨rfl,rfl⟩⟩,rfl,rfl,rfl,rfl,rfl⟩ ?_
  rintro n ⟨t,m1⟩ ⟨k,acc,hn,hk,hacc,hq,hB,hlen,h0,h1,h6,h7⟩
  simp only at hB h0 h1 h6 h7 hlen
  rw [t_eq hlen]
  simp only [zaE,zaY,zeQ,h0,h1,h6,h7]
  simp only [ssS,zeQ,zeO,reduceIte,zeP]
  refine zat (fun h => ?_) (fun h => ?_)
  ·have hlt : k < s.length := by have := of_decide_eq_true h; omega
   have hx2 : s[k]? = some s[k] := by simp [hlt]
   have hdrop : s.drop k = s[k] :: s.drop (k + 1) := List.drop_eq_getElem_cons hlt
   generalize s[k] = c at hx2 hdrop
   rw [hdrop,qL.eq_def] at hq
   simp only at hq
   simp only [idx_bs hx2,ssS,zeQ,zeO,reduceIte,zeP]
   obtain ⟨p,u,hb1,hb2,hb3,hb4⟩ := id hB
   have hu : ∃ tok,u = .sl (acc.map by8) [] tok := by
    rcases hb4 with ⟨rfl,h⟩ | ⟨_,t,k,_,_,h⟩
    ·exact ⟨_,h⟩
    ·exact ⟨_,h⟩
   refine zat (fun h1 => ?_) (fun h1 => ?_)
   ·have e1 : c.toNat = 34 := by have := eq_of_beq h1; omega
    rw [if_pos e1] at hq
    have hw : IntKind.i64.wrap ((k : Int) + 2) = ((k + 2 : Nat) : Int) := by
     rw [wrap_i64 (by omega) (by omega)]
     rfl
    simp only [ssS,zeQ,zeO,reduceIte,zeP]
    refine zbT (L.string m1 b p u acc hb1 (by omega) (hb4.imp_right fun ⟨h,t,k,x,_,y⟩ => ⟨h,t,k,x,y⟩)) ?_ (by rintro v m' ⟨⟨⟩,_⟩)
    rintro v m' ⟨hv,hkeep⟩
    cases hv
    simp only [hw,ssS,zeQ,zeO,reduceIte,zeP]
    refine good (fun c x hc => hkeep c x (hb3 c x hc) ?_) hq.symm rfl
    rintro l2 k2 hu2
    rcases hb4 with ⟨_,h⟩ | ⟨_,t2,k3,_,h2,h3⟩
    ·rw [h] at hu2; cases hu2
    ·rw [h3] at hu2
     simp only [V.sl.injEq,Tok.tip.injEq] at hu2
     rw [← hu2.2.2.1,h2] at hc
     cases hc
   ·have e1 : ¬ c.toNat = 34 := by
     intro e
     rw [e] at h1
     cases h1
    rw [if_neg e1] at hq
    simp only [ssS,zeQ,zeO,reduceIte,zeP]
    refine zdb (fun h2 => ?_) (fun h2 => ?_)
    ·have e2 : c.toNat < 32 := by have := of_decide_eq_true h2; omega
     rw [if_pos (.inl e2)] at hq
     simp only [h2,ssS,zeQ,zeO,reduceIte,zeP]
     exact ⟨acc,hB,hq.symm⟩
    ·have e2 : ¬ c.toNat < 32 := by have := of_decide_eq_false h2; omega
     simp only [h2,ssS,zeQ,zeO,reduceIte,zeP]
     refine zat (fun h3 => ?_) (fun h3 => ?_)
     ·have e3 : c.toNat > 126 := by have := of_decide_eq_true h3; omega
      rw [if_pos (.inr e3)] at hq
      simp only [ssS,zeQ,zeO,reduceIte,zeP]
      exact ⟨acc,hB,hq.symm⟩
     ·have e3 : ¬ c.toNat > 126 := by have := of_decide_eq_false h3; omega
      rw [if_neg (by omega)] at hq
      simp only [ssS,zeQ,zeO,reduceIte,zeP]
      refine condS_then (M := fun st => ∃ (k' : Nat) (c' : UInt8),st.m = m1 ∧ k ≤ k' ∧ k' < s.length ∧ res = (if acc.length = 255 then .error 5 else qL (s.drop (k' + 1)) (acc ++ [c']) (k' + 1)) ∧ st.t.length = 59 ∧ tget st.t 0 = .ptr xb 0 ∧ tget st.t 1 = bs s ∧ tget st.t 6 = .ptr b 0 ∧ tget st.t 7 = it k' ∧ tget st.t 8 = by8 c') ?_ ?_
      ·rintro ⟨t,m2⟩ ⟨k',c',hm2,hkk,hlt',hres',hlen,h0,h1,h6,h7,h8⟩
       simp only at hm2 hlen h0 h1 h6 h7 h8
       subst hm2
       rw [t_eq hlen]
       simp only [zaE,zaY,zeQ,h0,h1,h6,h7,h8]
       simp only [ssS,zeQ,zeO,reduceIte,zeP]
       have hu' := hu
       obtain ⟨tok,rfl⟩ := hu'
       refine zak (bldLen_ok hb1) ?_
       simp only [zfc,ssS,zeQ,zeO,reduceIte,zeP]
       refine zat (fun h => ?_) (fun h => ?_)
       ·have h255 : acc.length = 255 := by have := eq_of_beq h; omega
        have hx1 := hb3 _ _ hx
        simp only [hx1,ssS,zeQ,zeO,reduceIte,zeP]
        exact fail (l := acc) hB (by rw [hres',if_pos h255]) rfl
       ·have h255 : ¬ acc.length = 255 := by
         intro e
         rw [e] at h
         cases h
        rw [if_neg h255] at hres'
        simp only [ssS,zeQ,zeO,reduceIte,zeP]
        refine zbT (bldWrite_ok L c' hb1 hb2 (by omega) (hb4.imp_right fun ⟨h,t,k,x,_,y⟩ => ⟨h,t,k,x,y⟩)) ?_ (by rintro v m' ⟨⟨⟩,_⟩)
        rintro v m' ⟨hv,t,j,htb,hmt,rfl⟩
        cases hv
        have hmt0 : m t = none := by
         rcases hmt with h | ⟨k0,h,l0,hl0⟩
         ·cases hm : m t with
          | none => rfl
          | some x => rw [hb3 _ _ hm] at h; cases h
         ·rcases hb4 with ⟨_,h2⟩ | ⟨_,t2,k2,q1,q2,q3⟩
          ·rw [h2] at hl0; cases hl0
          ·rw [q3] at hl0
           simp only [V.sl.injEq,Tok.tip.injEq] at hl0
           rw [← hl0.2.2.1]
           exact q2
        simp only [zax (show k' < 4611686018427387904 by omega),ssS,zeQ,zeO,reduceIte,zeP]
        refine ⟨s.length - (k' + 1),by omega,k' + 1,acc ++ [c'],rfl,by omega,by simp; omega,hres'.symm,⟨.ptr b 0,_,Store.set_same _ _ _,.inr rfl,?_,.inr ⟨by simp,t,j,?_,hmt0,rfl⟩⟩,rfl⟩
        ·intro c x hc
         have n1 : c ≠ b := by rintro rfl; rw [hb] at hc; cases hc
         have n2 : c ≠ t := by rintro rfl; rw [hmt0] at hc; cases hc
         rw [Store.set_ne _ _ n1,Store.set_ne _ _ n2]
         exact hb3 c x hc
        ·rw [Store.set_ne _ _ htb,Store.set_same]
      ·refine zat (fun h4 => ?_) (fun h4 => ?_)
       ·have e4 : c.toNat = 92 := by have := eq_of_beq h4; omega
        rw [if_pos e4] at hq
        simp only [zax (show k < 4611686018427387904 by omega),ssS,zeQ,zeO,reduceIte,zeP]
        refine zdb (fun h5 => ?_) (fun h5 => ?_)
        ·have e5 : k + 1 = s.length := by have := eq_of_beq h5; omega
         rw [e5,List.drop_length] at hq
         simp only [h5,ssS,zeQ,zeO,reduceIte,zeP]
         exact ⟨acc,hB,hq.symm⟩
        ·have e5 : k + 1 < s.length := by
          have : ¬ k + 1 = s.length := by
           intro e
           rw [e] at h5
           simp at h5
          omega
         have hx3 : s[k + 1]? = some s[k + 1] := by simp [e5]
         have hdrop2 : s.drop (k + 1) = s[k + 1] :: s.drop (k + 1 + 1) := List.drop_eq_getElem_cons e5
         generalize s[k + 1] = d at hx3 hdrop2
         rw [hdrop2] at hq
         simp only at hq
         simp only [h5,idx_bs hx3,ssS,zeQ,zeO,reduceIte,zeP]
         refine zak (L.indexByte m1 [92,34,110] d (by decide)) ?_
         have good2 : (d.toNat = 92 ∨ d.toNat = 34 ∨ d.toNat = 110) → res = (if acc.length = 255 then .error 5 else qL (s.drop (k + 1 + 1)) (acc ++ [if d.toNat = 110 then 10 else d]) (k + 1 + 1)) := by
          intro hd
          rw [if_neg (by omega)] at hq
          exact hq.symm
         have nq : ∀ {k : Nat},¬ d.toNat = k → ((d.toNat : Int) == (k : Int)) = false := by
          intro k hk
          simp only [beq_eq_false_iff_ne,ne_eq]
          omega
         have hi := idxB3 d
         by_cases d1 : d.toNat = 92
         ·rw [if_pos d1] at hi
          have f2 : ((d.toNat : Int) == 110) = false := nq (k := 110) (by omega)
          have hg := good2 (.inl d1)
          rw [if_neg (show ¬ d.toNat = 110 by omega)] at hg
          have f1 : decide (idxB [92,34,110] d < 0) = false := by rw [hi]; rfl
          simp only [f1,idx_bs hx3,f2,ssS,zeQ,zeO,reduceIte,zeP]
          exact ⟨k + 1,d,by omega,e5,hg,rfl,rfl⟩
         ·rw [if_neg d1] at hi
          by_cases d2 : d.toNat = 34
          ·rw [if_pos d2] at hi
           have f2 : ((d.toNat : Int) == 110) = false := nq (k := 110) (by omega)
           have hg := good2 (.inr (.inl d2))
           rw [if_neg (show ¬ d.toNat = 110 by omega)] at hg
           have f1 : decide (idxB [92,34,110] d < 0) = false := by rw [hi]; rfl
           simp only [f1,idx_bs hx3,f2,ssS,zeQ,zeO,reduceIte,zeP]
           exact ⟨k + 1,d,by omega,e5,hg,rfl,rfl⟩
          ·rw [if_neg d2] at hi
           by_cases d3 : d.toNat = 110
           ·rw [if_pos d3] at hi
            have f4 : ((d.toNat : Int) == 110) = true := by rw [d3]; rfl
            have hg := good2 (.inr (.inr d3))
            rw [if_pos d3] at hg
            have f1 : decide (idxB [92,34,110] d < 0) = false := by rw [hi]; rfl
            simp only [f1,idx_bs hx3,f4,ssS,zeQ,zeO,reduceIte,zeP]
            exact ⟨k + 1,10,by omega,e5,hg,rfl,rfl⟩
           ·rw [if_neg d3] at hi
            rw [if_pos ⟨d1,d2,d3⟩] at hq
            have f1 : decide (idxB [92,34,110] d < 0) = true := by rw [hi]; rfl
            simp only [f1,ssS,zeQ,zeO,reduceIte,zeP]
            exact ⟨acc,hB,hq.symm⟩
       ·have e4 : ¬ c.toNat = 92 := by
         intro e
         rw [e] at h4
         cases h4
        rw [if_neg e4] at hq
        simp only [ssS,zeQ,zeO,reduceIte,zeP]
        exact ⟨k,c,Nat.le_refl k,hlt,hq.symm,rfl,rfl⟩
  ·have hge : k = s.length := by have := of_decide_eq_false h; omega
   simp only [ssS,zeQ,zeO,reduceIte,zeP]
   exact ⟨acc,hB,by rw [← hq,hge,List.drop_length,qL]⟩
def notNl (b : UInt8) : Bool := b.toNat != 10
theorem zdr {p r : List UInt8} (h : p.isPrefixOf r = true) : p.length ≤ r.length := (List.isPrefixOf_iff_prefix.1 h).length_le
theorem slash_run {r : List UInt8} (h : [47,47].isPrefixOf r = true) : 0 < (r.takeWhile notNl).length := by
 cases r with
 | nil => cases h
 | cons b r =>
  simp only [List.isPrefixOf,ze1,beq_iff_eq] at h
  obtain ⟨rfl,_⟩ := h
  rw [zfi (by decide)]
  simp
def zcL (r : List UInt8) (a l : Nat) : Nat × Nat :=
 if h : [10].isPrefixOf r = true then zcL (r.drop 1) (a + 1) (l + 1)
 else if h2 : ([32].isPrefixOf r || [9].isPrefixOf r) = true then zcL (r.drop 1) (a + 1) l
 else if h3 : [47,47].isPrefixOf r = true then zcL (r.drop (r.takeWhile notNl).length) (a + (r.takeWhile notNl).length) l
 else (a,l)
termination_by r.length
decreasing_by
 ·have := zdr h
  simp at this ⊢
  omega
 ·have : 1 ≤ r.length := by
   rw [zfA] at h2
   rcases h2 with h2 | h2
   ·simpa using zdr h2
   ·simpa using zdr h2
  simp
  omega
 ·have h4 := slash_run h3
  have h5 := zdr h3
  simp at h5 ⊢
  omega
theorem skip_ok {Γ : Glob} {m : Store} {xb : Nat} {T : TypeId} {e : Int} (s : List UInt8) (a0 l0 : Nat) (ha : a0 ≤ s.length) (hl : l0 + s.length < 4611686018427387904) (hx : m xb = some (.var T [bs s,it a0,it l0,it e])) :
  zab Tryz.prog Γ 242 [.ptr xb 0] m fun o m' => o = .ret (.tup []) ∧ m' = m.set xb (.var T [bs s,it (zcL (s.drop a0) a0 l0).1,it (zcL (s.drop a0) a0 l0).2,it e]) := by
 refine zae mixed F242_ok (by rintro v m b x _ ⟨⟨⟩,_⟩) ?_
 simp only [F242,ss0,zeW,zeQ]
 simp only [ssS,zeQ,zeO,reduceIte,zeP]
 refine zdc (fun n st => ∃ a l : Nat,n = s.length - a ∧ a ≤ s.length ∧ l + (s.length - a) < 4611686018427387904 ∧ zcL (s.drop a) a l = zcL (s.drop a0) a0 l0 ∧ st.m = m.set xb (.var T [bs s,it a,it l,it e]) ∧ st.t.length = 55 ∧ tget st.t 0 = .ptr xb 0)
  (s.length - a0) ⟨a0,l0,rfl,ha,by omega,rfl,(Store.set_eq m hx).symm,rfl,rfl⟩ ?_
 rintro n ⟨t,m1⟩ ⟨a,l,hn,hal,hll,hres,hm,hlen,h0⟩
 simp only at hm h0 hlen
 subst hm
 rw [t_eq hlen]
 simp only [zaE,zaY,zeQ,h0]
 have hsl : zbV (bs s) (some (some (a : Int))) (some none) = some (bs (s.drop a)) := zd2 hal
 simp only [Store.set_same,hsl,ssS,zeQ,zeO,reduceIte,zeP]
 refine zak (zbF _ _) ?_
 simp only [ssS,zeQ,zeO,reduceIte,zeP]
 refine zat (fun h => ?_) (fun h => ?_)
 ·have hlt : a < s.length := by have := zdr h; simp at this; omega
  simp only [Store.set_same,Store.set_set,zax (show l < 4611686018427387904 by omega),zax (show a < 4611686018427387904 by omega),ssS,zeQ,zeO,reduceIte,zeP]
  refine ⟨s.length - (a + 1),by omega,a + 1,l + 1,rfl,hlt,by omega,?_,rfl⟩
  rw [← hres,zcL.eq_1 (s.drop a),dif_pos h,List.drop_drop]
 ·simp only [ssS,zeQ,zeO,reduceIte,zeP]
  refine zak (zbF _ _) ?_
  simp only [ssS,zeQ,zeO,reduceIte,zeP]
  have blank : ∀ k,([32].isPrefixOf (s.drop a) || [9].isPrefixOf (s.drop a)) = true → k = zcL (s.drop (a + 1)) (a + 1) l → k = zcL (s.drop a0) a0 l0 := by
   intro k h2 hk
   rw [← hres,zcL.eq_1 (s.drop a),dif_neg (by rw [h]; simp),dif_pos h2,List.drop_drop,hk]
  refine zdb (fun h2 => ?_) (fun h2 => ?_)
  ·have hlt : a < s.length := by have := zdr h2; simp at this; omega
   simp only [h2,Store.set_same,Store.set_set,zax (show a < 4611686018427387904 by omega),ssS,zeQ,zeO,reduceIte,zeP]
   refine ⟨s.length - (a + 1),by omega,a + 1,l,rfl,hlt,by omega,blank _ (by rw [h2]; rfl) rfl,rfl⟩
  ·simp only [h2,ssS,zeQ,zeO,reduceIte,zeP]
   refine zak (zbF _ _) ?_
   simp only [ssS,zeQ,zeO,reduceIte,zeP]
   refine zat (fun h3 => ?_) (fun h3 => ?_)
   ·have hlt : a < s.length := by have := zdr h3; simp at this; omega
    simp only [Store.set_same,Store.set_set,zax (show a < 4611686018427387904 by omega),ssS,zeQ,zeO,reduceIte,zeP]
    refine ⟨s.length - (a + 1),by omega,a + 1,l,rfl,hlt,by omega,blank _ (by rw [h3]; simp) rfl,rfl⟩
   ·simp only [ssS,zeQ,zeO,reduceIte,zeP]
    refine zak (zbF _ _) ?_
    simp only [ssS,zeQ,zeO,reduceIte,zeP]
    have hno : ¬ ([32].isPrefixOf (s.drop a) || [9].isPrefixOf (s.drop a)) = true := by rw [h2,h3]; simp
    have hno1 : ¬ [10].isPrefixOf (s.drop a) = true := by rw [h]; simp
    refine zat (fun h4 => ?_) (fun h4 => ?_)
    ·simp only [Store.set_same,ssS,zeQ,zeO,reduceIte,zeP]
     refine zak (row_ok (p := notNl) (s.drop a) (by simp; omega) (fun b => notNl_ok b)) ?_
     have hr0 := slash_run h4
     have hr1 : ((s.drop a).takeWhile notNl).length ≤ s.length - a := by
      have := (zfj notNl (l := s.drop a)).length_le
      simpa using this
     have hw : IntKind.i64.wrap ((a : Int) + (((s.drop a).takeWhile notNl).length : Int)) = ((a + ((s.drop a).takeWhile notNl).length : Nat) : Int) := by
      rw [wrap_i64 (by omega) (by omega)]
      rfl
     simp only [Store.set_same,Store.set_set,hw,ssS,zeQ,zeO,reduceIte,zeP]
     refine ⟨s.length - (a + ((s.drop a).takeWhile notNl).length),by omega,a + ((s.drop a).takeWhile notNl).length,l,rfl,by omega,by omega,?_,rfl⟩
     rw [← hres,zcL.eq_1 (s.drop a),dif_neg hno1,dif_neg hno,dif_pos h4,List.drop_drop]
    ·simp only [ssS,zeQ,zeO,reduceIte,zeP]
     refine zai (v := .tup []) rfl ⟨rfl,?_⟩
     have hno4 : ¬ [47,47].isPrefixOf (s.drop a) = true := by rw [h4]; simp
     rw [← hres,zcL.eq_1 (s.drop a),dif_neg hno1,dif_neg hno,dif_neg hno4]
def numL : Nat → List UInt8 → Option Nat
 | n,[] => some n
 | n,b :: r => if n > (9223372036854775807 - (b.toNat - 48)) / 10 then none else numL (10 * n + (b.toNat - 48)) r
end Go.Av.Fn
/- The reference's tokens. No condition. -/
namespace Go.Av.Fn
set_option linter.unusedSimpArgs false
set_option linter.unusedVariables false
set_option maxRecDepth 10000
open Go.Proofs
theorem qL_err {r acc : List UInt8} {k : Nat} {e : Int} (h : qL r acc k = .error e) : e ≠ 0 := by
 fun_induction qL r acc k <;> simp_all <;> (subst h; decide)
def tokL (r : List UInt8) : Except Int (Tk × Nat) := match r with
 | [] => .error 6
 | c :: _ =>
  if let8 c then
   if za8.contains (r.takeWhile zdd) then .ok (⟨5,r.takeWhile zdd,0,0,0⟩,(r.takeWhile zdd).length)
   else if (r.takeWhile zdd).length > 20 then .error 5 else .ok (⟨1,r.takeWhile zdd,0,0,0⟩,(r.takeWhile zdd).length)
  else if dig c then match numL 0 (r.takeWhile dig) with
   | none => .error 5
   | some n => .ok (⟨2,[],n,0,0⟩,(r.takeWhile dig).length)
  else if c.toNat = 34 then match qL (r.drop 1) [] 0 with
   | .error e => .error e
   | .ok (l,k) => .ok (⟨3,l,0,0,0⟩,k + 2)
  else match zbs.find? fun p => p.isPrefixOf r with
   | some p => .ok (⟨4,p,0,0,0⟩,p.length)
   | none => .error 6
theorem tw_all {p : UInt8 → Bool} : ∀ (r : List UInt8),∀ x ∈ r.takeWhile p,p x = true
 | [],x,hx => by cases hx
 | b :: r,x,hx => by
  cases hb : p b with
  | true =>
   rw [zfi hb] at hx
   rcases List.mem_cons.1 hx with rfl | hx
   ·exact hb
   ·exact tw_all r x hx
  | false =>
   rw [List.takeWhile_cons_of_neg (by simp [hb])] at hx
   cases hx
theorem takeWhile_take {p : UInt8 → Bool} (r : List UInt8) : r.take (r.takeWhile p).length = r.takeWhile p := by
 induction r with
 | nil => rfl
 | cons b r ih =>
  cases hb : p b with
  | true => rw [zfi hb,zeV,List.take_succ_cons,ih]
  | false => rw [List.takeWhile_cons_of_neg (by simp [hb])]; rfl
end Go.Av.Fn
/- A text's tokens, in plain terms. No condition. -/
namespace Go.Av.Fn
set_option linter.unusedSimpArgs false
set_option linter.unusedVariables false
theorem qL_len {r acc : List UInt8} {k : Nat} {l : List UInt8} {k' : Nat} (h : qL r acc k = .ok (l,k')) : k ≤ k' ∧ k' < k + r.length := by
 fun_induction qL r acc k <;> simp_all <;> omega
theorem tokL_len {r : List UInt8} {t : Tk} {n : Nat} (h : tokL r = .ok (t,n)) : 0 < n ∧ n ≤ r.length := by
 unfold tokL at h
 split at h
 ·cases h
 ·rename_i c r'
  split at h
  ·rename_i hc
   have h1 : 0 < ((c :: r').takeWhile zdd).length := by
    rw [zfi (by simp [zdd,hc])]
    simp
   have h2 := (zfj zdd (l := c :: r')).length_le
   split at h
   ·simp only [Except.ok.injEq,Prod.mk.injEq] at h
    omega
   ·split at h
    ·cases h
    ·simp only [Except.ok.injEq,Prod.mk.injEq] at h
     omega
  ·split at h
   ·rename_i hc
    have h1 : 0 < ((c :: r').takeWhile dig).length := by
     rw [zfi hc]
     simp
    have h2 := (zfj dig (l := c :: r')).length_le
    split at h
    ·cases h
    ·simp only [Except.ok.injEq,Prod.mk.injEq] at h
     omega
   ·split at h
    ·split at h
     ·cases h
     ·rename_i l k hq
      have := qL_len hq
      simp only [Except.ok.injEq,Prod.mk.injEq] at h
      simp at this ⊢
      omega
    ·split at h
     ·rename_i p hp
      simp only [Except.ok.injEq,Prod.mk.injEq] at h
      have h1 := List.mem_of_find?_eq_some hp
      have h2 := List.find?_some hp
      have h3 : ∀ p ∈ zbs,0 < p.length := by decide
      have h4 := h3 p h1
      have h5 := zdr h2
      omega
     ·cases h
def scanL (r : List UInt8) (a l : Nat) (acc : List Tk) : Except (Nat × Int) (List Tk) :=
 let x := zcL r a l
 let r' := r.drop (x.1 - a)
 match h : tokL r' with
 | .error e => if r' = [] then .ok (acc ++ [⟨0,[],0,x.2,x.1⟩]) else .error (x.1,e)
 | .ok (t,n) => scanL (r'.drop n) (x.1 + n) x.2 (acc ++ [{ t with l := x.2,a := x.1 }])
termination_by r.length
decreasing_by
 have h1 := tokL_len h
 have h2 : r'.length ≤ r.length := by
  show (r.drop _).length ≤ r.length
  rw [zfd]
  omega
 have h3 : r'.length = (r.drop ((zcL r a l).1 - a)).length := rfl
 rw [zfd]
 omega
end Go.Av.Fn
/- The program's tokens. No condition. -/
namespace Go.Av.Fn
set_option linter.unusedSimpArgs false
set_option linter.unusedVariables false
set_option maxRecDepth 10000
open Go.Proofs
def ParseOk (Γ : Glob) : Prop := ∀ (m : Store) (s : List UInt8),s ≠ [] → s.length ≤ 4096 → (∀ c ∈ s,dig c = true) →
 zab Tryz.prog Γ 263 [bs s,it 10,it 64] m fun o m' => (match numL 0 s with
  | some n => o = .ret (.tup [it n,.val .nilIface])
  | none => ∃ (v : Int) (T : TypeId) (u : V),o = .ret (.tup [it v,.ifc T u])) ∧ m' = m
def tokP (T : TypeId) (a0 a1 a2 : V) (xb : Nat) (m : Store) (r : Except Int (Tk × Nat)) (o : Out) (m' : Store) : Prop := match r with
 | .ok (t,n) => o = .ret (.tup [tkV t,it n]) ∧ m' = m
 | .error er => (∃ (t : Tk) (n : Int),o = .ret (.tup [tkV t,it n])) ∧ er ≠ 0 ∧ m' = m.set xb (.var T [a0,a1,a2,it er])
theorem neq_ifc {xo yo : Operand} {T : TypeId} {u : V} : binV Tryz.prog .neq 266 .iface xo yo (.ifc T u) (.val .nilIface) = some (.val (.bool true)) := rfl
theorem neq_nil : binV Tryz.prog .neq 266 .iface (.tmp 39) (.const .nilIface) (.val .nilIface) (.val .nilIface) = some (.val (.bool false)) := by kernel_rfl
theorem resV_tk2 {x y : Nat} {b o : Nat} {T : TypeId} {sz : Option Nat} {cs : List V} {u : V} {t : List V} {m : Store} (h1 : tget t x = .ptr b o) (h2 : m b = some (.var T cs)) (h3 : zbB cs o sz = some u) :
  resV [.cell x sz,.tmp y] ⟨t,m⟩ = some (.tup [u,tget t y]) := by
 simp only [resV,zcg,zcn,zbc,h1,h2,h3,Option.map_some]
theorem token_ok {Γ : Glob} (L : LibOk Γ) (L2 : ParseOk Γ) (h0 : Γ 1 = some (za8.map bs)) (h1 : Γ 0 = some (zbs.map bs)) {m : Store} {xb : Nat} {T : TypeId} {a0 a1 a2 : V} (s : List UInt8) (hs : s.length ≤ 4096) (hne : s ≠ []) (hx : m xb = some (.var T [a0,a1,a2,it 0])) :
  zab Tryz.prog Γ 243 [.ptr xb 0,bs s] m fun o m' => tokP T a0 a1 a2 xb m (tokL s) o m' := by
 refine zae mixed F243_ok (by
  rintro v m b x _ h
  exfalso
  unfold tokP at h
  split at h
  ·cases h.1
  ·obtain ⟨⟨_,_,h⟩,_⟩ := h
   cases h) ?_
 obtain ⟨c,r,hsc⟩ : ∃ c r,s = c :: r := by
  cases s with
  | nil => exact absurd rfl hne
  | cons c r => exact ⟨c,r,rfl⟩
 have hc0 : idxStrV (bs s) (.val (.int .i64 0)) = some (.val (.int .u8 c.toNat)) := idx_bs (i := 0) (by rw [hsc]; rfl)
 simp only [F243,ss0,zeW,zeQ]
 simp only [ssS,zeQ,zeO,reduceIte,zeP]
 refine zaq fun b hb => ?_
 have hxb : xb ≠ b := by
  rintro rfl
  rw [hx] at hb
  cases hb
 have hn : ∀ m' x,(Store.set m' b x) xb = m' xb := fun m' x => Store.set_ne m' x hxb
 have hn2 : ∀ m' x,(Store.set m' xb x) b = m' b := fun m' x => Store.set_ne m' x hxb.symm
 simp only [hc0,ssS,zeQ,zeO,reduceIte,zeP]
 refine zak (letter_ok c) ?_
 simp only [ssS,zeQ,zeO,reduceIte,zeP]
 have good : ∀ {t : List V} {m2 : Store} {k : Tk} {n : Nat},tget t 4 = .ptr b 0 → m2 b = some (.var 185 [it k.k,bs k.s,it k.n,it k.l,it k.a]) → tget t 5 = it n → (∀ c,c ≠ b → m2 c = m c) → tokL s = .ok (k,n) →
   bodyA [.cell 4 (some 5),.tmp 5] (fun o m' => tokP T a0 a1 a2 xb m (tokL s) o m') .ret ⟨t,m2⟩ := by
  intro t m2 k n h1 h2 h3 h4 h5
  refine zbA (resV_tk2 h1 h2 (u := tkV k) rfl) (drop_set hb h4) ?_
  rw [h5,h3]
  exact ⟨rfl,rfl⟩
 have fail : ∀ {t : List V} {m2 : Store} {k : Tk} {n : Int} {er : Int},tget t 4 = .ptr b 0 → m2 b = some (.var 185 [it k.k,bs k.s,it k.n,it k.l,it k.a]) → tget t 5 = it n → (∀ c,c ≠ b → m2 c = (m.set xb (.var T [a0,a1,a2,it er])) c) → er ≠ 0 → tokL s = .error er →
   bodyA [.cell 4 (some 5),.tmp 5] (fun o m' => tokP T a0 a1 a2 xb m (tokL s) o m') .ret ⟨t,m2⟩ := by
  intro t m2 k n er h1 h2 h3 h4 he h5
  refine zbA (m' := m.set xb (.var T [a0,a1,a2,it er])) (resV_tk2 h1 h2 (u := tkV k) rfl) (drop_set (by rw [hn2,hb]) h4) ?_
  rw [h5,h3]
  exact ⟨⟨_,_,rfl⟩,he,rfl⟩
 refine zat (fun hc => ?_) (fun hc => ?_)
 ·-- a name or a word
  have hspec : tokL s = if za8.contains (s.takeWhile zdd) then .ok (⟨5,s.takeWhile zdd,0,0,0⟩,(s.takeWhile zdd).length)
    else if (s.takeWhile zdd).length > 20 then .error 5 else .ok (⟨1,s.takeWhile zdd,0,0,0⟩,(s.takeWhile zdd).length) := by
   rw [hsc]
   simp only [tokL,hc,if_true]
  have hcut : zbV (bs s) (some none) (some (some ((s.takeWhile zdd).length : Int))) = some (bs (s.takeWhile zdd)) := by
   rw [slice_upto (zfj zdd).length_le,takeWhile_take]
  have hL := (zfj zdd (l := s)).length_le
  simp only [ssS,zeQ,zeO,reduceIte,zeP]
  refine zak (row_ok (p := zdd) s (by omega) (fun b => alnum_ok b)) ?_
  generalize s.takeWhile zdd = W at hspec hcut hL
  simp only [hcut,ssS,zeQ,zeO,reduceIte,zeP]
  refine zaK (word_ok L h0 W (by omega) (by rw [hn,hx])) ?_
  simp only [hn2,Store.set_same,wordTok,ssS,zeQ,zeO,reduceIte,zeP]
  by_cases hw : za8.contains W = true
  ·rw [if_pos hw] at hspec
   refine good (k := ⟨5,W,0,0,0⟩) rfl ?_ rfl ?_ hspec
   ·rw [Store.set_same,if_pos hw]
   ·intro c hc
    have : zbU W 0 = 0 := by simp only [zbU,hw,if_true]
    rw [this]
    rw [Store.set_ne _ _ hc]
    by_cases e : c = xb
    ·subst e; rw [Store.set_same,hx]
    ·rw [Store.set_ne _ _ e,Store.set_ne _ _ hc]
  ·rw [if_neg hw] at hspec
   by_cases h20 : W.length > 20
   ·rw [if_pos h20] at hspec
    refine fail (k := ⟨1,W,0,0,0⟩) rfl ?_ rfl ?_ (by decide) hspec
    ·rw [Store.set_same,if_neg hw]
    ·intro c hc
     have : zbU W 0 = 5 := by simp only [zbU,hw,h20,if_true]; rfl
     rw [this]
     rw [Store.set_ne _ _ hc]
     by_cases e : c = xb
     ·subst e; rw [Store.set_same,Store.set_same]
     ·rw [Store.set_ne _ _ e,Store.set_ne _ _ hc,Store.set_ne _ _ e]
   ·rw [if_neg h20] at hspec
    refine good (k := ⟨1,W,0,0,0⟩) rfl ?_ rfl ?_ hspec
    ·rw [Store.set_same,if_neg hw]
    ·intro c hc
     have : zbU W 0 = 0 := by simp only [zbU,hw,h20,if_false]; rfl
     rw [this]
     rw [Store.set_ne _ _ hc]
     by_cases e : c = xb
     ·subst e; rw [Store.set_same,hx]
     ·rw [Store.set_ne _ _ e,Store.set_ne _ _ hc]
 ·simp only [ssS,zeQ,zeO,reduceIte,zeP]
  refine zak (digit_ok c) ?_
  simp only [ssS,zeQ,zeO,reduceIte,zeP]
  refine zat (fun hc2 => ?_) (fun hc2 => ?_)
  ·-- a number
   have hspec : tokL s = match numL 0 (s.takeWhile dig) with
     | none => .error 5
     | some n => .ok (⟨2,[],n,0,0⟩,(s.takeWhile dig).length) := by
    rw [hsc]
    simp only [tokL,hc,hc2,if_true,zeX,if_false]
    all_goals rfl
   have hcut : zbV (bs s) (some none) (some (some ((s.takeWhile dig).length : Int))) = some (bs (s.takeWhile dig)) := by
    rw [slice_upto (zfj dig).length_le,takeWhile_take]
   have hL := (zfj dig (l := s)).length_le
   have hall : ∀ x ∈ s.takeWhile dig,dig x = true := tw_all _
   have hWne : s.takeWhile dig ≠ [] := by
    rw [hsc,zfi hc2]
    simp
   simp only [ssS,zeQ,zeO,reduceIte,zeP]
   refine zak (row_ok (p := dig) s (by omega) (fun b => digit_ok b)) ?_
   generalize s.takeWhile dig = W at hspec hcut hL hall hWne
   simp only [hcut,ssS,zeQ,zeO,reduceIte,zeP]
   refine zbT (L2 _ W hWne (by omega) hall) ?_ (by
    rintro v m' ⟨h,_⟩
    exfalso
    split at h
    ·cases h
    ·obtain ⟨_,_,_,h⟩ := h
     cases h)
   rintro v m' ⟨hv,rfl⟩
   cases hnum : numL 0 W with
   | none =>
    rw [hnum] at hv hspec
    simp only at hv hspec
    obtain ⟨v,T',u,hv⟩ := hv
    cases hv
    simp only [neq_ifc,hn,hx,hn2,Store.set_same,ssS,zeQ,zeO,reduceIte,zeP]
    refine fail (k := ⟨2,[],v,0,0⟩) rfl (Store.set_same _ _ _) rfl (fun c hc => ?_) (by decide) hspec
    rw [Store.set_ne _ _ hc]
    by_cases e : c = xb
    ·subst e; rw [Store.set_same,Store.set_same]
    ·rw [Store.set_ne _ _ e,Store.set_ne _ _ hc,Store.set_ne _ _ e]
   | some k =>
    rw [hnum] at hv hspec
    simp only at hv hspec
    cases hv
    simp only [neq_nil,hn,hx,hn2,Store.set_same,ssS,zeQ,zeO,reduceIte,zeP]
    refine good (k := ⟨2,[],k,0,0⟩) rfl (Store.set_same _ _ _) rfl (fun c hc => ?_) hspec
    rw [Store.set_ne _ _ hc,Store.set_ne _ _ hc]
  ·simp only [ssS,zeQ,zeO,reduceIte,zeP]
   refine zat (fun hc3 => ?_) (fun hc3 => ?_)
   ·have e3 : c.toNat = 34 := by have := eq_of_beq hc3; omega
    have hspec : tokL s = match qL (s.drop 1) [] 0 with
      | .error e => .error e
      | .ok (l,k) => .ok (⟨3,l,0,0,0⟩,k + 2) := by
     rw [hsc]
     simp only [tokL,hc,hc2,e3,if_true,zeX,if_false,List.drop_succ_cons,List.drop_zero]
     all_goals rfl
    have hcut : zbV (bs s) (some (some 1)) (some none) = some (bs (s.drop 1)) := zd2 (a := 1) (by rw [hsc]; simp)
    simp only [hcut,ssS,zeQ,zeO,reduceIte,zeP]
    refine zbT (quoted_ok L (s.drop 1) (by simp; omega) (by rw [hn,hx])) ?_ (by
     rintro v m' h
     exfalso
     unfold quotOut at h
     split at h
     ·cases h.1
     ·cases h.1)
    rintro v m' hv
    cases hq : qL (s.drop 1) [] 0 with
    | error e =>
     rw [hq] at hv hspec
     simp only at hspec
     obtain ⟨hv,rfl⟩ := hv
     cases hv
     simp only [hn,hn2,Store.set_same,ssS,zeQ,zeO,reduceIte,zeP]
     refine fail (k := ⟨3,[],0,0,0⟩) rfl (Store.set_same _ _ _) rfl (fun c hc => ?_) (qL_err hq) hspec
     rw [Store.set_ne _ _ hc]
     by_cases e : c = xb
     ·subst e; rw [Store.set_same,Store.set_same]
     ·rw [Store.set_ne _ _ e,Store.set_ne _ _ hc,Store.set_ne _ _ e]
    | ok x =>
     obtain ⟨l,k⟩ := x
     rw [hq] at hv hspec
     simp only at hspec
     obtain ⟨hv,rfl⟩ := hv
     cases hv
     simp only [hn,hn2,Store.set_same,ssS,zeQ,zeO,reduceIte,zeP]
     refine good (k := ⟨3,l,0,0,0⟩) rfl (Store.set_same _ _ _) rfl (fun c hc => ?_) hspec
     rw [Store.set_ne _ _ hc,Store.set_ne _ _ hc]
   ·have e3 : ¬ c.toNat = 34 := by
     intro e
     rw [e] at hc3
     cases hc3
    have hspec : tokL s = match zbs.find? fun p => p.isPrefixOf s with
      | some p => .ok (⟨4,p,0,0,0⟩,p.length)
      | none => .error 6 := by
     rw [hsc]
     simp only [tokL,hc,hc2,e3,zeX,if_false]
     all_goals rfl
    simp only [ssS,zeQ,zeO,reduceIte,zeP]
    refine zak (sign_ok h1 s) ?_
    have hsg : signOf s = (zbs.find? fun p => p.isPrefixOf s).getD [] := rfl
    cases hf : zbs.find? (fun p => p.isPrefixOf s) with
    | none =>
     rw [hf] at hspec hsg
     simp only [Option.getD_none] at hsg
     rw [hsg]
     have hnn : (([] : List UInt8) == []) = true := rfl
     simp only at hspec
     simp only [hnn,hn,hx,hn2,Store.set_same,ssS,zeQ,zeO,reduceIte,zeP]
     refine fail (k := ⟨4,[],0,0,0⟩) rfl (Store.set_same _ _ _) rfl (fun c hc => ?_) (by decide) hspec
     rw [Store.set_ne _ _ hc]
     by_cases e : c = xb
     ·subst e; rw [Store.set_same,Store.set_same]
     ·rw [Store.set_ne _ _ e,Store.set_ne _ _ hc,Store.set_ne _ _ e]
    | some p =>
     rw [hf] at hspec hsg
     simp only [Option.getD_some] at hsg
     have hpne : p ≠ [] := by
      have : ∀ q ∈ zbs,q ≠ [] := by decide
      exact this p (List.mem_of_find?_eq_some hf)
     rw [hsg]
     have hnn : (p == []) = false := by
      cases p with
      | nil => exact absurd rfl hpne
      | cons _ _ => rfl
     simp only at hspec
     simp only [hnn,hn,hx,hn2,Store.set_same,ssS,zeQ,zeO,reduceIte,zeP]
     refine good (k := ⟨4,p,0,0,0⟩) rfl (Store.set_same _ _ _) rfl (fun c hc => ?_) hspec
     rw [Store.set_ne _ _ hc,Store.set_ne _ _ hc]
end Go.Av.Fn
/- A text's tokens do not change by going behind a blank. No condition. -/
namespace Go.Av.Fn
set_option linter.unusedSimpArgs false
set_option linter.unusedVariables false
theorem skipL_ge {r : List UInt8} {a l : Nat} : a ≤ (zcL r a l).1 := by
 fun_induction zcL r a l <;> omega
def scanN (r : List UInt8) (x : Nat × Nat) (acc : List Tk) : Except (Nat × Int) (List Tk) := match tokL r with
 | .error e => if r = [] then .ok (acc ++ [⟨0,[],0,x.2,x.1⟩]) else .error (x.1,e)
 | .ok (t,n) => scanL (r.drop n) (x.1 + n) x.2 (acc ++ [{ t with l := x.2,a := x.1 }])
theorem scanL_eq (r : List UInt8) (a l : Nat) (acc : List Tk) : scanL r a l acc = scanN (r.drop ((zcL r a l).1 - a)) (zcL r a l) acc := by
 rw [scanL]
 unfold scanN
 split
 ·rename_i e h
  simp only [h]
 ·rename_i t n h
  simp only [h]
end Go.Av.Fn
/- The program's row of tokens, handed to whoever ranges over it. No condition. -/
namespace Go.Av.Fn
set_option linter.unusedSimpArgs false
set_option linter.unusedVariables false
set_option maxRecDepth 10000
open Go.Proofs
theorem ayields_sub {P : Program} {Γ : Glob} {l : Nat} {args : List V} {mC S : Store} {R : Out → Store → Prop} (h : zby P Γ l args mC R) (hs : ∀ b x,mC b = some x → S b = some x) :
  zby P Γ l args S fun o S' => ∃ m',R o m' ∧ (∀ b x,m' b = some x → S' b = some x) ∧ (∀ b x,S b = some x → mC b = none → S' b = some x ∧ m' b = none) := by
 obtain ⟨F,hF⟩ : ∃ F : Store,(fun b => match mC b with | some _ => none | none => S b) = F := ⟨_,rfl⟩
 have e1 : mC.or F = S := by
  funext b
  rw [← hF]
  simp only [Store.or]
  cases hb : mC b with
  | some x => exact (hs b x hb).symm
  | none => rfl
 have e2 : Disj mC F := by
  intro b
  rw [← hF]
  cases hb : mC b with
  | some x => exact .inr (by simp only [hb])
  | none => exact .inl rfl
 have := h.frame e2
 rw [e1] at this
 refine this.mono ?_
 rintro o m'' ⟨m',rfl,hD,hR⟩
 refine ⟨m',hR,fun b x hb => zbu hb,fun b x hb hn => ?_⟩
 have hFb : F b = some x := by rw [← hF]; simp only [hn]; exact hb
 have hm : m' b = none := by
  rcases hD b with k | k
  ·exact k
  ·rw [hFb] at k; cases k
 exact ⟨by simp only [Store.or,hm,hFb],hm⟩
theorem skipL_le {r : List UInt8} {a l : Nat} : (zcL r a l).1 ≤ a + r.length ∧ (zcL r a l).2 + a ≤ l + (zcL r a l).1 := by
 fun_induction zcL r a l with
 | case1 r a l h ih =>
  have := zdr h
  simp at this ih ⊢
  omega
 | case2 r a l h h2 ih =>
  have : 1 ≤ r.length := by
   rw [zfA] at h2
   rcases h2 with h2 | h2
   ·simpa using zdr h2
   ·simpa using zdr h2
  simp at ih ⊢
  omega
 | case3 r a l h h2 h3 ih =>
  have := (zfj notNl (l := r)).length_le
  simp at ih ⊢
  omega
 | case4 r a l h h2 h3 => omega
theorem tokens_ok {Γ : Glob} {m : Store} {xb : Nat} : zab Tryz.prog Γ 223 [.ptr xb 0] m fun o m' => ∃ pb,m pb = none ∧ o = .ret (.fn (.func 241) [] [.ptr pb 0]) ∧ m' = m.set pb (.var 296 [.ptr xb 0]) := by
 refine zae mixed F223_ok (by rintro v m b x _ ⟨_,_,⟨⟩,_⟩) ?_
 simp only [F223,ss0,zeW,zeQ]
 simp only [ssS,zeQ,zeO,reduceIte,zeP]
 refine zaq fun b hb => ?_
 simp only [ssS,zeQ,zeO,reduceIte,zeP]
 exact zai zah ⟨b,hb,rfl,rfl⟩
def resOut (acc : List Tk) (a : Nat) (e : Int) : Except (Nat × Int) (List Tk) → Prop
 | .ok l => acc = l ∧ e = 0
 | .error (a',e') => a' = a ∧ e' = e ∧ e ≠ 0
def rowOut (J : List Tk → Store → Prop) (xb pb : Nat) (s : List UInt8) (o : Out) (m' : Store) : Prop :=
 o = .ret (.tup []) ∧ ∃ (acc : List Tk) (mC : Store) (a l : Nat) (e : Int),J acc mC ∧ mC xb = none ∧ mC pb = none ∧ m' = (mC.set pb (.var 296 [.ptr xb 0])).set xb (.var 298 [bs s,it a,it l,it e]) ∧
  resOut acc a e (scanL s 0 1 [])
theorem tokens1_ok {Γ : Glob} (L : LibOk Γ) (L2 : ParseOk Γ) (h0 : Γ 1 = some (za8.map bs)) (h1 : Γ 0 = some (zbs.map bs)) {y : Nat} {J : List Tk → Store → Prop} {xb pb : Nat} (hxp : xb ≠ pb) (s : List UInt8) (hs : s.length ≤ 4096)
  (hy : ∀ acc t mC,acc.length ≤ 4096 → J acc mC → zby Tryz.prog Γ y [tkV t] mC fun o m' => o = .ret (.val (.bool true)) ∧ J (acc ++ [t]) m') {mC : Store} (hJ : J [] mC) (hx : mC xb = none) (hp : mC pb = none) :
  zab Tryz.prog Γ 241 [.fn (.yield y) [] [],.ptr pb 0] ((mC.set pb (.var 296 [.ptr xb 0])).set xb (.var 298 [bs s,it 0,it 1,it 0])) fun o m' => rowOut J xb pb s o m' := by
 refine zae mixed F241_ok (by
  rintro v m b x _ ⟨h,_⟩
  cases h) ?_
 simp only [F241,ss0,zeW,zeQ]
 simp only [ssS,zeQ,zeO,reduceIte,zeP]
 generalize hres : scanL s 0 1 [] = res
 -- the ends
 have fin : ∀ {t : List V} {S mC : Store} {acc : List Tk} {a l : Nat} {e : Int},J acc mC → mC xb = none → mC pb = none → (∀ b x,mC b = some x → S b = some x) → S xb = some (.var 298 [bs s,it a,it l,it e]) → S pb = some (.var 296 [.ptr xb 0]) →
   resOut acc a e res → bodyA [] (fun o m' => rowOut J xb pb s o m') .ret ⟨t,S⟩ := by
  intro t S mC acc a l e k1 k2 k3 k4 k5 k6 k7
  refine zbA (v := .tup []) (m' := (mC.set pb (.var 296 [.ptr xb 0])).set xb (.var 298 [bs s,it a,it l,it e])) rfl (fun c x hc => ?_) ⟨rfl,acc,mC,a,l,e,k1,k2,k3,rfl,by rw [hres]; exact k7⟩
  by_cases e1 : c = xb
  ·subst e1; rw [Store.set_same] at hc; rw [k5]; exact hc
  ·rw [Store.set_ne _ _ e1] at hc
   by_cases e2 : c = pb
   ·subst e2; rw [Store.set_same] at hc; rw [k6]; exact hc
   ·rw [Store.set_ne _ _ e2] at hc; exact k4 c x hc
 refine zdc (fun n st => ∃ (a l : Nat) (acc : List Tk) (mC : Store),n = s.length - a ∧ a ≤ s.length ∧ l ≤ a + 1 ∧ acc.length ≤ a ∧ scanL (s.drop a) a l acc = res ∧ J acc mC ∧ mC xb = none ∧ mC pb = none ∧ (∀ b x,mC b = some x → st.m b = some x) ∧ st.m xb = some (.var 298 [bs s,it a,it l,it 0]) ∧ st.m pb = some (.var 296 [.ptr xb 0]) ∧ st.t.length = 71 ∧ tget st.t 0 = .fn (.yield y) [] [] ∧ tget st.t 1 = .ptr pb 0)
  s.length ⟨0,1,[],mC,rfl,by omega,by omega,by simp,hres,hJ,hx,hp,?_,Store.set_same _ _ _,?_,rfl,rfl,rfl⟩ ?_
 ·intro b x hb
  have n1 : b ≠ xb := by rintro rfl; rw [hx] at hb; cases hb
  have n2 : b ≠ pb := by rintro rfl; rw [hp] at hb; cases hb
  show ((mC.set pb (.var 296 [.ptr xb 0])).set xb (.var 298 [bs s,it 0,it 1,it 0])) b = some x
  rw [Store.set_ne _ _ n1,Store.set_ne _ _ n2]
  exact hb
 ·show ((mC.set pb (.var 296 [.ptr xb 0])).set xb (.var 298 [bs s,it 0,it 1,it 0])) pb = _
  rw [Store.set_ne _ _ (fun e => hxp e.symm),Store.set_same]
 clear hJ hx hp mC
 rintro n ⟨t,S⟩ ⟨a,l,acc,mC,hn,ha,hl,hacc,hres2,hJ,hx,hp,hsub,hX,hP,hlen,ht0,ht1⟩
 simp only at hsub hX hP hlen ht0 ht1
 rw [t_eq hlen]
 simp only [zaE,zaY,zeQ,ht0,ht1]
 simp only [hP,ssS,zeQ,zeO,reduceIte,zeP]
 refine zaK (skip_ok s a l ha (by omega) hX) ?_
 obtain ⟨q1,q2⟩ := skipL_le (r := s.drop a) (a := a) (l := l)
 have q3 := skipL_ge (r := s.drop a) (a := a) (l := l)
 rw [zfd] at q1
 have hN : scanN (s.drop (zcL (s.drop a) a l).1) (zcL (s.drop a) a l) acc = res := by
  rw [← hres2,scanL_eq,List.drop_drop]
  congr 2
  omega
 generalize hsk : zcL (s.drop a) a l = sk at q1 q2 q3 hN
 obtain ⟨a1,l1⟩ := sk
 simp only at q1 q2 q3 hN
 obtain ⟨S1,hS1⟩ : ∃ S1,S.set xb (.var 298 [bs s,it a1,it l1,it 0]) = S1 := ⟨_,rfl⟩
 have hX1 : S1 xb = some (.var 298 [bs s,it a1,it l1,it 0]) := by rw [← hS1]; exact Store.set_same _ _ _
 have hP1 : S1 pb = some (.var 296 [.ptr xb 0]) := by rw [← hS1,Store.set_ne _ _ (fun e => hxp e.symm)]; exact hP
 have hsub1 : ∀ b x,mC b = some x → S1 b = some x := by
  intro b x hb
  rw [← hS1,Store.set_ne _ _ (by rintro rfl; rw [hx] at hb; cases hb)]
  exact hsub b x hb
 rw [hS1]
 simp only [hX1,hP1,zcY,ssS,zeQ,zeO,reduceIte,zeP]
 refine zat (fun h => ?_) (fun h => ?_)
 ·-- the end
  have he : a1 = s.length := by have := eq_of_beq h; omega
  simp only [hX1,hP1,ssS,zeQ,zeO,reduceIte,zeP]
  refine callS_yield (ayields_sub (hy acc ⟨0,[],0,l1,a1⟩ mC (by omega) hJ) hsub1) ?_ (by rintro v m' ⟨_,⟨⟨⟩,_⟩,_⟩)
  rintro v S2 ⟨mC2,⟨hv,hJ2⟩,hsub2,hkeep⟩
  cases hv
  simp only [ssS,zeQ,zeO,reduceIte,zeP]
  refine fin hJ2 (hkeep _ _ hX1 hx).2 (hkeep _ _ hP1 hp).2 hsub2 (hkeep _ _ hX1 hx).1 (hkeep _ _ hP1 hp).1 ?_
  rw [← hN,he,List.drop_length]
  exact ⟨rfl,rfl⟩
 ·have hlt : a1 < s.length := by
   have : ¬ a1 = s.length := by
    intro e
    rw [e] at h
    simp at h
   omega
  have hcut : zbV (bs s) (some (some (a1 : Int))) (some none) = some (bs (s.drop a1)) := zd2 (by omega)
  have hdne : s.drop a1 ≠ [] := by
   intro e
   have := congrArg List.length e
   simp at this
   omega
  simp only [hX1,hP1,hcut,ssS,zeQ,zeO,reduceIte,zeP]
  refine zbT (token_ok L L2 h0 h1 (s.drop a1) (by simp; omega) hdne hX1) ?_ (by
   rintro v m' h
   exfalso
   unfold tokP at h
   split at h
   ·cases h.1
   ·obtain ⟨⟨_,_,h⟩,_⟩ := h
    cases h)
  intro v S2 hv
  unfold scanN at hN
  cases htok : tokL (s.drop a1) with
  | error er =>
   rw [htok] at hv hN
   simp only [if_neg hdne] at hN
   obtain ⟨⟨tk,k,hv⟩,hne0,rfl⟩ := hv
   cases hv
   obtain ⟨S2,hS2⟩ : ∃ S2,S1.set xb (.var 298 [bs s,it a1,it l1,it er]) = S2 := ⟨_,rfl⟩
   have hX2 : S2 xb = some (.var 298 [bs s,it a1,it l1,it er]) := by rw [← hS2]; exact Store.set_same _ _ _
   have hP2 : S2 pb = some (.var 296 [.ptr xb 0]) := by rw [← hS2,Store.set_ne _ _ (fun e => hxp e.symm)]; exact hP1
   have hsub2 : ∀ b x,mC b = some x → S2 b = some x := by
    intro b x hb
    rw [← hS2,Store.set_ne _ _ (by rintro rfl; rw [hx] at hb; cases hb)]
    exact hsub1 b x hb
   rw [hS2]
   simp only [tkV,ssS,zeQ,zeO,reduceIte,zeP]
   refine zaq fun b hb => ?_
   have n1 : xb ≠ b := by rintro rfl; rw [hX2] at hb; cases hb
   have n2 : pb ≠ b := by rintro rfl; rw [hP2] at hb; cases hb
   have hbx : ∀ m' x,(Store.set m' b x) xb = m' xb := fun m' x => Store.set_ne m' x n1
   have hbp : ∀ m' x,(Store.set m' b x) pb = m' pb := fun m' x => Store.set_ne m' x n2
   have hne1 : ((er : Int) != 0) = true := by simpa using hne0
   simp only [Store.set_same,Store.set_set,hbx,hbp,hX2,hP2,hne1,ssS,zeQ,zeO,reduceIte,zeP]
   refine fin hJ hx hp (fun c x hc => ?_) (by rw [hbx]; exact hX2) (by rw [hbp]; exact hP2) (by rw [← hN]; exact ⟨rfl,rfl,hne0⟩)
   rw [Store.set_ne _ _ (by rintro rfl; rw [hsub2 _ _ hc] at hb; cases hb)]
   exact hsub2 c x hc
  | ok x =>
   obtain ⟨tk,k⟩ := x
   rw [htok] at hv hN
   simp only at hN
   obtain ⟨hv,rfl⟩ := hv
   cases hv
   simp only [tkV,ssS,zeQ,zeO,reduceIte,zeP]
   refine zaq fun b hb => ?_
   have n1 : xb ≠ b := by rintro rfl; rw [hX1] at hb; cases hb
   have n2 : pb ≠ b := by rintro rfl; rw [hP1] at hb; cases hb
   have hbx : ∀ m' x,(Store.set m' b x) xb = m' xb := fun m' x => Store.set_ne m' x n1
   have hbp : ∀ m' x,(Store.set m' b x) pb = m' pb := fun m' x => Store.set_ne m' x n2
   have hne1 : ((0 : Int) != 0) = false := rfl
   simp only [Store.set_same,Store.set_set,hbx,hbp,hX1,hP1,hne1,ssS,zeQ,zeO,reduceIte,zeP]
   have htl := tokL_len htok
   rw [zfd] at htl
   have hsub2 : ∀ c x,mC c = some x → (S2.set b (.var 185 [it tk.k,bs tk.s,it tk.n,it l1,it a1])) c = some x := by
    intro c x hc
    rw [Store.set_ne _ _ (by rintro rfl; rw [hsub1 _ _ hc] at hb; cases hb)]
    exact hsub1 c x hc
   refine callS_yield (ayields_sub (hy acc { tk with l := l1,a := a1 } mC (by omega) hJ) hsub2) ?_ (by rintro v m' ⟨_,⟨⟨⟩,_⟩,_⟩)
   rintro v S3 ⟨mC3,⟨hv,hJ3⟩,hsub3,hkeep⟩
   cases hv
   obtain ⟨hX3,hx3⟩ := hkeep xb _ (by rw [hbx]; exact hX1) hx
   obtain ⟨hP3,hp3⟩ := hkeep pb _ (by rw [hbp]; exact hP1) hp
   have hw : IntKind.i64.wrap ((a1 : Int) + (k : Int)) = ((a1 + k : Nat) : Int) := by
    rw [wrap_i64 (by omega) (by omega)]
    rfl
   simp only [hX3,hP3,hw,ze5,ssS,zeQ,zeO,reduceIte,zeP]
   rw [List.drop_drop] at hN
   refine ⟨s.length - (a1 + k),by omega,a1 + k,l1,_,mC3,rfl,by omega,by omega,by simp; omega,hN,hJ3,hx3,hp3,fun c x hc => ?_,Store.set_same _ _ _,?_⟩
   ·rw [Store.set_ne _ _ (by rintro rfl; rw [hx3] at hc; cases hc)]
    exact hsub3 c x hc
   ·rw [Store.set_ne _ _ (fun e => hxp e.symm)]
    exact hP3
def scanR (s : List UInt8) : Except (Nat × Int) (List Tk) := if s.length > 4096 then .error (0,5) else scanL s 0 1 []
def ScanOut (r : Except (Nat × Int) (List Tk)) (o : Out) : Prop := match r with
 | .ok l => ∃ tok,o = .ret (.tup [.sl (l.map tkV) [] tok,it 0,it 0])
 | .error (a,e) => o = .ret (.tup [.sl [] [] .full,it a,it e])
theorem cells_tk (t : Tk) : (tkV t).cells = [it t.k,bs t.s,it t.n,it t.l,it t.a] := rfl
def litV5 (z : List V) (v : V) : Option V := (zcX 5 [.agg z] [(0,v)]).map fun es => .sl es [] .full
theorem lit5 {P : Program} {Γ : Glob} {t : List V} {m : Store} {z : List V} {x : Nat} : zao P (ev Γ t) m (.lits 5 z 1 [(0,.tmp x)]) = litV5 z (ev Γ t (.tmp x)) := rfl
theorem litV5_agg {z : List V} {a b c d e : V} : litV5 z (.agg [a,b,c,d,e]) = some (.sl [.agg [a,b,c,d,e]] [] .full) := rfl
end Go.Av.Fn
/- The program's tokens of a text. No condition. -/
namespace Go.Av
section
variable {P : Program} {Γ : Glob} {Kp : V → Store → Prop}
theorem awp_range {f : Operand} {ps : List Tmp} {x y : za4} {Q : Ex → St → Prop} {t : List V} {m : Store} {g : FuncId} {first caps : List V} (hf : ev Γ t f = .fn (.func g) first caps)
  (h : ∀ H cx cy,comp P H cx = some x → comp P H cy = some y → ∀ fn l D,m l = none → zab P Γ g (first ++ [.fn (.yield l) [] []] ++ caps) (m.set l (.loop true fn t ps.toArray cx cy D)) fun o m' => (∃ v,o = .ret v) ∧ ∃ m₁,m' = m₁.set l (.loop true fn t ps.toArray cx cy D) ∧ m₁ l = none ∧ Q .normal ⟨t,m₁⟩) :
  awp P Γ Kp (.range f ps x y) Q ⟨t,m⟩ := by
 simp only [awp,hf]
 intro H cx cy h1 h2 fn l D hl
 refine (h H cx cy h1 h2 fn l D hl).mono fun o m' k => ?_
 obtain ⟨⟨v,rfl⟩,k⟩ := k
 exact k
theorem st_gen {Φ : List V → Prop} {t : List V} (h : ∀ T0,T0 = t → Φ T0) : Φ t := h t rfl
theorem tget_set_ne {t : List V} {i j : Nat} {v : V} (h : i ≠ j) : tget (t.set i v) j = tget t j := by
 rw [← zbc,← zbc,ze8,ze8,List.getElem?_set,if_neg h]
theorem tget_set_same {t : List V} {i : Nat} {v : V} (h : i < t.length) : tget (t.set i v) i = v := by
 rw [← zbc,ze8,List.getElem?_set]
 simp [h]
theorem Buf.del {e : TypeId} {size : Nat} {N m2 : Store} {v : V} {es : List V} {b : Nat} {x : Blk} (h : Buf e size (N.set b x) m2 v es) (hn : N b = none) :
  m2 b = some x ∧ ∃ M,Buf e size N M v es ∧ M b = none ∧ ∀ y,m2.set b y = M.set b y := by
 obtain ⟨h1,h2⟩ := h
 rcases h2 with ⟨h2,h3,rfl⟩ | ⟨h2,t,k,ht,rfl,h3⟩
 ·exact ⟨Store.set_same _ _ _,N,⟨h1,.inl ⟨h2,h3,rfl⟩⟩,hn,fun y => Store.set_set _ _ _ _⟩
 ·have hne : t ≠ b := by rintro rfl; rw [Store.set_same] at ht; cases ht
  rw [Store.set_ne _ _ hne] at ht
  refine ⟨by rw [Store.set_ne _ _ hne.symm,Store.set_same],N.set t (.tip e k),⟨h1,.inr ⟨h2,t,k,ht,rfl,h3⟩⟩,by rw [Store.set_ne _ _ hne.symm]; exact hn,fun y => ?_⟩
  funext c
  simp only [Store.set]
  by_cases e : c = b
  ·simp [e]
  ·simp [e]
end
end Go.Av
namespace Go.Av.Fn
set_option linter.unusedSimpArgs false
set_option linter.unusedVariables false
set_option maxRecDepth 10000
open Go.Proofs
def outSt (m : Store) (ob : Nat) (acc : List Tk) (m0 : Store) : Prop := ∃ N M v,(∀ b x,m b = some x → N b = some x) ∧ N ob = none ∧ Buf 185 5 N M v (acc.map tkV) ∧ M ob = none ∧ m0 = M.set ob (.var 221 [v])
theorem scan_ok {Γ : Glob} (L : LibOk Γ) (L2 : ParseOk Γ) (h0 : Γ 1 = some (za8.map bs)) (h1 : Γ 0 = some (zbs.map bs)) {m : Store} (s : List UInt8) : zab Tryz.prog Γ 198 [bs s] m fun o m' => ScanOut (scanR s) o ∧ m' = m := by
 refine zae mixed F198_ok (by
  rintro v m b x _ ⟨h,_⟩
  exfalso
  unfold ScanOut at h
  split at h
  ·obtain ⟨_,h⟩ := h
   cases h
  ·cases h) ?_
 simp only [F198,ss0,zeW,zeQ]
 simp only [ssS,zeQ,zeO,reduceIte,zeP]
 refine zat (fun h => ?_) (fun h => ?_)
 ·have hl : s.length > 4096 := by have := of_decide_eq_true h; omega
  simp only [ssS,zeQ,zeO,reduceIte,zeP]
  refine zai zaI ⟨?_,rfl⟩
  unfold scanR
  rw [if_pos hl]
  rfl
 ·have hl : ¬ s.length > 4096 := by have := of_decide_eq_false h; omega
  have hres0 : scanR s = scanL s 0 1 [] := by unfold scanR; rw [if_neg hl]
  rw [hres0]
  simp only [ssS,zeQ,zeO,reduceIte,zeP]
  refine zaq fun xb hxb => ?_
  simp only [ssS,zeQ,zeO,reduceIte,zeP]
  refine zaq fun ob hob => ?_
  have hxo : xb ≠ ob := by rintro rfl; rw [Store.set_same] at hob; cases hob
  have hob' : m ob = none := by rwa [Store.set_ne _ _ hxo.symm] at hob
  simp only [ssS,zeQ,zeO,reduceIte,zeP]
  refine zbT tokens_ok ?_ (by rintro v m' ⟨_,_,⟨⟩,_⟩)
  rintro v m' ⟨pb,hpb,hv,rfl⟩
  cases hv
  have hpo : pb ≠ ob := by rintro rfl; rw [Store.set_same] at hpb; cases hpb
  rw [Store.set_ne _ _ hpo] at hpb
  have hpx : pb ≠ xb := by rintro rfl; rw [Store.set_same] at hpb; cases hpb
  have hpb' : m pb = none := by rwa [Store.set_ne _ _ hpx] at hpb
  simp only [ssS,zeQ,zeO,reduceIte,zeP]
  refine st_gen (Φ := fun t => awp _ _ _ _ _ ⟨t,_⟩) fun T0 hT0 => ?_
  have hlen : T0.length = 35 := by rw [hT0]; rfl
  have t5 : tget T0 5 = .ptr xb 0 := by rw [hT0]; rfl
  have t6 : tget T0 6 = .ptr ob 0 := by rw [hT0]; rfl
  have t15 : tget T0 15 = .fn (.func 241) [] [.ptr pb 0] := by rw [hT0]; rfl
  clear hT0
  refine awp_range (g := 241) (first := []) (caps := [.ptr pb 0]) (by simp only [zel]; exact t15) ?_
  intro H cx cy hcx hcy fn l D hl0
  have hlp : l ≠ pb := by rintro rfl; rw [Store.set_same] at hl0; cases hl0
  rw [Store.set_ne _ _ hlp] at hl0
  have hlo : l ≠ ob := by rintro rfl; rw [Store.set_same] at hl0; cases hl0
  rw [Store.set_ne _ _ hlo] at hl0
  have hlx : l ≠ xb := by rintro rfl; rw [Store.set_same] at hl0; cases hl0
  rw [Store.set_ne _ _ hlx] at hl0
  have hst : ((((m.set xb (.var 298 [bs s,it 0,it 1,it 0])).set ob (.var 221 [.sl [] [] .full])).set pb (.var 296 [.ptr xb 0])).set l (.loop true fn T0 [16].toArray cx cy D))
    = ((((m.set ob (.var 221 [.sl [] [] .full])).set l (.loop true fn T0 [16].toArray cx cy D)).set pb (.var 296 [.ptr xb 0])).set xb (.var 298 [bs s,it 0,it 1,it 0])) := by
   funext c
   simp only [Store.set]
   by_cases e1 : c = l
   ·subst e1; simp [hlp,hlx]
   ·by_cases e2 : c = pb
    ·subst e2; simp [e1,hpx]
    ·by_cases e3 : c = ob
     ·subst e3; simp [e1,e2,hxo.symm]
     ·simp [e1,e2,e3]
  have hy : ∀ acc t mC,acc.length ≤ 4096 → (∃ m0,m0 l = none ∧ mC = m0.set l (.loop true fn T0 [16].toArray cx cy D) ∧ outSt m ob acc m0) →
    zby Tryz.prog Γ l [tkV t] mC fun o m' => o = .ret (.val (.bool true)) ∧ ∃ m0,m0 l = none ∧ m' = m0.set l (.loop true fn T0 [16].toArray cx cy D) ∧ outSt m ob (acc ++ [t]) m0 := by
   rintro acc tk mC hacc ⟨m0,hm0,rfl,N,M,v,k1,k2,k3,k4,rfl⟩
   refine (ayields_of_awp mixed hcx hcy rfl rfl (R := fun m1 => outSt m ob (acc ++ [tk]) m1) hm0 rfl ?_).mono ?_
   ·refine st_gen (Φ := fun t => awp _ _ _ _ _ ⟨t,_⟩) fun T1 hT1 => ?_
    have l1 : T1.length = 35 := by rw [hT1]; exact (List.length_set ..).trans hlen
    have u6 : tget T1 6 = .ptr ob 0 := by rw [hT1]; exact (tget_set_ne (by decide)).trans t6
    have u16 : tget T1 16 = tkV tk := by rw [hT1]; exact tget_set_same (by omega)
    clear hT1
    rw [t_eq l1]
    simp only [zaE,zaY,zeQ,u6,u16]
    simp only [ssS,zeQ,zeO,reduceIte,zeP]
    refine zaq fun b hb => ?_
    have hbo : b ≠ ob := by rintro rfl; rw [Store.set_same] at hb; cases hb
    have hMb : M b = none := by rwa [Store.set_ne _ _ hbo] at hb
    have hn : ∀ m' x,(Store.set m' b x) ob = m' ob := fun m' x => Store.set_ne m' x hbo.symm
    have hn2 : ∀ m' x,(Store.set m' ob x) b = m' b := fun m' x => Store.set_ne m' x hbo
    obtain ⟨tok,rfl⟩ := k3.val
    simp only [cells_tk,Store.set_same,Store.set_set,hn,hn2,lit5,litV5_agg,ssS,zeQ,zeO,reduceIte,zeP]
    have hNb : N b = none := by
     cases hc : N b with
     | none => rfl
     | some x => rw [k3.sub _ _ hc] at hMb; cases hMb
    have hbuf := (k3.add (x := .var 185 [it tk.k,bs tk.s,it tk.n,it tk.l,it tk.a]) hMb).add (b := ob) (x := .var 221 [.sl (acc.map tkV) [] tok]) (by rw [hn]; exact k4)
    rw [set_comm M _ _ hbo] at hbuf
    refine appS_buf hbuf rfl (by intro c hc; simp [V.cells] at hc; rcases hc with rfl | rfl | rfl | rfl | rfl <;> rfl) (by simp; omega) fun m3 v3 hb3 => ?_
    obtain ⟨d1,M',d2,d3,d4⟩ := hb3.del (b := ob) (by rw [hn]; exact k2)
    obtain ⟨tok3,rfl⟩ := hb3.val
    simp only [d1,ssS,zeQ,zeO,reduceIte,zeP]
    refine ⟨N.set b (.var 185 [it tk.k,bs tk.s,it tk.n,it tk.l,it tk.a]),M',_,fun c x hc => ?_,by rw [hn]; exact k2,by rw [zfu]; exact d2,d3,d4 _⟩
    rw [Store.set_ne _ _ (by rintro rfl; rw [k1 _ _ hc] at hNb; cases hNb)]
    exact k1 _ _ hc
   ·rintro o m' ⟨m₁,rfl,hn,rfl,hR⟩
    exact ⟨rfl,m₁,hn,rfl,hR⟩
  have key := tokens1_ok L L2 h0 h1 (y := l) (J := fun acc mC => ∃ m0,m0 l = none ∧ mC = m0.set l (.loop true fn T0 [16].toArray cx cy D) ∧ outSt m ob acc m0) (xb := xb) (pb := pb) (Ne.symm hpx) s (by omega) hy
   (mC := (m.set ob (.var 221 [.sl [] [] .full])).set l (.loop true fn T0 [16].toArray cx cy D)) ⟨m.set ob (.var 221 [.sl [] [] .full]),by rw [Store.set_ne _ _ hlo]; exact hl0,rfl,m,m,_,fun _ _ h => h,hob',Buf.start,hob',rfl⟩
   (by rw [Store.set_ne _ _ hlx.symm,Store.set_ne _ _ hxo]; exact hxb) (by rw [Store.set_ne _ _ hlp.symm,Store.set_ne _ _ hpo]; exact hpb')
  rw [← hst] at key
  refine zab.mono (R := fun o m' => rowOut _ xb pb s o m') key ?_
  rintro o m' ⟨rfl,acc,mC,a,ln,e,⟨m0,hm0,rfl,N,M,v,k1,k2,k3,k4,rfl⟩,g1,g2,rfl,hr⟩
  refine ⟨⟨_,rfl⟩,(((M.set ob (.var 221 [v])).set pb (.var 296 [.ptr xb 0])).set xb (.var 298 [bs s,it a,it ln,it e])),?_,?_,?_⟩
  ·funext c
   simp only [Store.set]
   by_cases e1 : c = l
   ·subst e1; simp [hlp,hlx]
   ·simp [e1]
  ·rw [Store.set_ne _ _ hlx,Store.set_ne _ _ hlp]; exact hm0
  ·have hxo2 : ∀ m' x,(Store.set m' xb x) ob = m' ob := fun m' x => Store.set_ne m' x hxo.symm
   have hpo2 : ∀ m' x,(Store.set m' pb x) ob = m' ob := fun m' x => Store.set_ne m' x hpo.symm
   have hsub : ∀ c x,m c = some x → (((M.set ob (.var 221 [v])).set pb (.var 296 [.ptr xb 0])).set xb (.var 298 [bs s,it a,it ln,it e])) c = some x := by
    intro c x hc
    rw [Store.set_ne _ _ (by rintro rfl; rw [hxb] at hc; cases hc),Store.set_ne _ _ (by rintro rfl; rw [hpb'] at hc; cases hc),Store.set_ne _ _ (by rintro rfl; rw [hob'] at hc; cases hc)]
    exact k3.sub _ _ (k1 _ _ hc)
   obtain ⟨tok,rfl⟩ := k3.val
   rw [t_eq hlen]
   simp only [zaE,zaY,zeQ,t5,t6,t15]
   cases hsc : scanL s 0 1 [] with
   | ok lx =>
    rw [hsc] at hr
    obtain ⟨rfl,rfl⟩ := hr
    have hz : ((0 : Int) != 0) = false := rfl
    simp only [hz,Store.set_same,hxo2,hpo2,ssS,zeQ,zeO,reduceIte,zeP]
    exact zbA (m' := m) zaI hsub ⟨⟨tok,rfl⟩,rfl⟩
   | error p =>
    rw [hsc] at hr
    obtain ⟨a',e'⟩ := p
    obtain ⟨rfl,rfl,hne⟩ := hr
    have hz : ((e' : Int) != 0) = true := by simpa using hne
    simp only [hz,Store.set_same,hxo2,hpo2,ssS,zeQ,zeO,reduceIte,zeP]
    exact zbA (m' := m) zaI hsub ⟨rfl,rfl⟩
end Go.Av.Fn
/- A text's expression, and whether a command is right, in plain terms. No condition. -/
namespace Go.Av.Fn
set_option linter.unusedSimpArgs false
set_option linter.unusedVariables false
def exO : Option Ex → V
 | some e => exV e
 | none => exV (.mk 0 [] 0 [] 0)
structure Form where
 w : List UInt8
 least : Int
 n : Bool
 s : Bool
 deriving DecidableEq
def zdu : Form := ⟨[],0,false,false⟩
def forms : List Form := [zdu,⟨[115,116,101,112],0,false,false⟩,⟨[110,101,120,116],0,false,false⟩,⟨[102,105,110,105,115,104],0,false,false⟩,⟨[99,111,110,116,105,110,117,101],0,false,false⟩,
 ⟨[98,97,99,107,45,115,116,101,112],0,false,false⟩,⟨[98,97,99,107,45,110,101,120,116],0,false,false⟩,⟨[98,97,99,107,45,102,105,110,105,115,104],0,false,false⟩,⟨[98,97,99,107,45,99,111,110,116,105,110,117,101],0,false,false⟩,
 ⟨[103,111,116,111],0,true,false⟩,⟨[98,114,101,97,107],1,true,true⟩,⟨[119,97,116,99,104],0,false,true⟩,⟨[100,101,108,101,116,101],1,true,false⟩,⟨[101,110,97,98,108,101],1,true,false⟩,⟨[100,105,115,97,98,108,101],1,true,false⟩,
 ⟨[117,112],0,false,false⟩,⟨[100,111,119,110],0,false,false⟩,⟨[112,114,105,110,116],0,false,true⟩]
def formOf (k : Int) : Form := if k < 0 then zdu else (forms[k.toNat]?).getD zdu
def formV (f : Form) : V := .agg [bs f.w,it f.least,.val (.bool f.n),.val (.bool f.s)]
def cmdV (k n : Int) (s : List UInt8) : V := .agg [it k,it n,bs s]
theorem Good.end_ : ∀ (l : List Tk) (t : Tk),t.k = 0 → Good (l ++ [t])
 | [],t,h => h
 | [a],t,h => h
 | a :: b :: l,t,h => Good.end_ (b :: l) t h
theorem scanL_good {r : List UInt8} {a l : Nat} {acc L : List Tk} (h : scanL r a l acc = .ok L) : Good L := by
 fun_induction scanL r a l acc with
 | case1 r a l acc x r' e h1 h2 => cases h; exact Good.end_ _ _ rfl
 | case2 r a l acc x r' e h1 h2 => cases h
 | case3 r a l acc x r' t n h1 ih => exact ih h
theorem scanR_good {s : List UInt8} {L : List Tk} (h : scanR s = .ok L) : Good L := by
 unfold scanR at h
 split at h
 ·cases h
 ·exact scanL_good h
theorem scanL_len {r : List UInt8} {a l : Nat} {acc L : List Tk} (h : scanL r a l acc = .ok L) : L.length ≤ acc.length + r.length + 1 := by
 fun_induction scanL r a l acc with
 | case1 r a l acc x r' e h1 h2 => cases h; simp
 | case2 r a l acc x r' e h1 h2 => cases h
 | case3 r a l acc x r' t n h1 ih =>
  have := ih h
  have h4 := tokL_len h1
  have h5 : r'.length ≤ r.length := by
   show (r.drop _).length ≤ r.length
   rw [zfd]; omega
  simp at this
  omega
theorem scanR_len {s : List UInt8} {L : List Tk} (h : scanR s = .ok L) : L.length ≤ 4097 := by
 unfold scanR at h
 split at h
 ·cases h
 ·have := scanL_len h
  simp at this
  omega
theorem run_expr {l : List Tk} (h : Good l) : ∃ p,run (10 * l.length + 9) (.ex 0) l = some p ∧ Sgl p ∧ Fit false 0 l p := by
 obtain ⟨p,h1,h2⟩ := run_fits (10 * l.length + 9) (.ex 0) l h (by simp [zdw]) (by simp [zc7])
 refine ⟨p,h1,?_,h2⟩
 cases p with
 | ok es l1 => exact h2.2.2 rfl
 | st l1 => trivial
end Go.Av.Fn
/- errors.As at a reader that is stuck: true, and the target is that reader. Condition: what errors.errorType holds. -/
namespace Go.Av.Fn
open Go.RowKit Go.Extern.Stop Go.Stop Go.Extern Go.Proofs
set_option linter.unusedSimpArgs false
set_option linter.unusedVariables false
theorem e_valueOfP (t : Addr) (w : World) : (ReflectliteValue.unpack (.iface 269 (.pointer (some t)))).run Tryz.prog w
  = .ok (.agg #[.pointer (some ⟨9,269,none⟩),.pointer (some ⟨w.heap.size,0,none⟩),.int .u64 150]) (w.alloc (.cells #[.pointer (some t)] 269)) := by kernel_rfl
theorem e_typeP (a : Addr) (w : World) : (ReflectliteValue.methodAny (ReflectliteValue.valueError "reflectlite.Value.Type" 0) (fun t _ _ _ => ReflectliteType.toType t) #[.agg #[.pointer (some ⟨9, 269, none⟩), .pointer (some a), .int .u64 150]]).run Tryz.prog w
  = .ok (.iface 333 (.agg #[.pointer (some ⟨9,269,none⟩)])) w := by kernel_rfl
theorem e_methodKind (h : Value) (w : World) : (Go.method 532 333 (.agg #[h]) "Kind").run Tryz.prog w = .ok (304, h) w := by kernel_rfl
theorem e_kindP (w : World) : ((ReflectliteType.abiMethod fun t => (fun a : Nat => Value.int IntKind.u8 (a : Int)) <$> Rtype.kind t) #[.pointer (some ⟨9,269,none⟩)]).run Tryz.prog w = .ok (.int .u8 22) w := by kernel_rfl
theorem e_kindT (w : World) : ((ReflectliteType.abiMethod fun t => (fun a : Nat => Value.int IntKind.u8 (a : Int)) <$> Rtype.kind t) #[.pointer (some ⟨9,264,none⟩)]).run Tryz.prog w = .ok (.int .u8 22) w := by kernel_rfl
theorem e_rlm (z : Sem Value) (f : TypeId → Addr → Nat → Nat → Sem Value) (v : Value) :
  ReflectliteValue.method z f #[v] = (do match ← ReflectliteValue.parts v with | none => z | some (t,a,fl) => f t a fl (fl % 32)) := rfl
theorem e_partsP (a : Addr) (w : World) : (ReflectliteValue.parts (.agg #[.pointer (some ⟨9,269,none⟩),.pointer (some a),.int .u64 150])).run Tryz.prog w = .ok (some (269,a,150)) w := by kernel_rfl
theorem e_isNilP (a p : Addr) (W : World) (ha : W.cell? a = some (.pointer (some p))) :
  (ReflectliteValue.method (ReflectliteValue.valueError "reflectlite.Value.IsNil" 0) ReflectliteValue.isNil #[.agg #[.pointer (some ⟨9, 269, none⟩), .pointer (some a), .int .u64 150]]).run Tryz.prog W = .ok (.bool false) W := by
 rw [e_rlm]
 simp only [Sem.run_bind,e_partsP,Result.andThen]
 simp [ReflectliteValue.isNil,loadVar,isAgg,underlying,Tryz.underlying269,ha,Result.andThen]
theorem e_methodElem (h : Value) (w : World) : (Go.method 532 333 (.agg #[h]) "Elem").run Tryz.prog w = .ok (338, .agg #[h]) w := by kernel_rfl
theorem e_methodImplements (h : Value) (w : World) : (Go.method 532 333 (.agg #[h]) "Implements").run Tryz.prog w = .ok (339, .agg #[h]) w := by kernel_rfl
theorem e_methodAssignableTo (h : Value) (w : World) : (Go.method 532 333 (.agg #[h]) "AssignableTo").run Tryz.prog w = .ok (336, .agg #[h]) w := by kernel_rfl
theorem e_elemP (w : World) : (ReflectliteType.method ReflectliteType.elem #[.agg #[.pointer (some ⟨9,269,none⟩)]]).run Tryz.prog w = .ok (.iface 333 (.agg #[.pointer (some ⟨9,264,none⟩)])) w := by kernel_rfl
theorem e_implementsT (w : World) : (ReflectliteType.relation "Implements" ReflectliteType.implements_ #[.agg #[.pointer (some ⟨9, 264, none⟩)], .iface 333 (.agg #[.pointer (some ⟨9, 266, none⟩)])]).run Tryz.prog w = .ok (.bool true) w := by kernel_rfl
theorem e_typeOfT (v : Value) (w : World) : (ReflectliteType.typeOf #[.iface 264 v]).run Tryz.prog w = .ok (.iface 333 (.agg #[.pointer (some ⟨9,264,none⟩)])) w := by kernel_rfl
theorem e_assignableT (w : World) : (ReflectliteType.relation "AssignableTo" ReflectliteType.assignableTo #[.agg #[.pointer (some ⟨9, 264, none⟩)], .iface 333 (.agg #[.pointer (some ⟨9, 264, none⟩)])]).run Tryz.prog w = .ok (.bool true) w := by kernel_rfl
theorem e_valueOfT (e : Addr) (w : World) : (ReflectliteValue.unpack (.iface 264 (.pointer (some e)))).run Tryz.prog w
  = .ok (.agg #[.pointer (some ⟨9,264,none⟩),.pointer (some ⟨w.heap.size,0,none⟩),.int .u64 150]) (w.alloc (.cells #[.pointer (some e)] 264)) := by kernel_rfl
theorem e_elemOfP (w : World) : (Rtype.elem? 269).run Tryz.prog w = .ok (some 264) w := by kernel_rfl
theorem e_mkT (p : Addr) (w : World) : (ReflectliteValue.mk 264 p ReflectliteValue.flagAddr).run Tryz.prog w = .ok (.agg #[.pointer (some ⟨9,264,none⟩),.pointer (some p),.int .u64 406]) w := by kernel_rfl
theorem e_elemVP (a p : Addr) (W : World) (ha : W.cell? a = some (.pointer (some p))) :
  (ReflectliteValue.method (ReflectliteValue.valueError "reflectlite.Value.Elem" 0) ReflectliteValue.elem #[.agg #[.pointer (some ⟨9, 269, none⟩), .pointer (some a), .int .u64 150]]).run Tryz.prog W
   = .ok (.agg #[.pointer (some ⟨9,264,none⟩),.pointer (some p),.int .u64 406]) W := by
 rw [e_rlm]
 simp only [Sem.run_bind,e_partsP,Result.andThen]
 simp [ReflectliteValue.elem,loadVar,isAgg,underlying,Tryz.underlying269,ha,Result.andThen,e_elemOfP,e_mkT]
theorem e_rls (v x : Value) : ReflectliteValue.set #[v,x] = (do
  let (some (dst,a,fl),some (src,b,_)) := (← ReflectliteValue.parts v,← ReflectliteValue.parts x)
   | unsupported (.noEntry "extern/(internal/reflectlite.Value).Set.zeroValue")
  if fl / ReflectliteValue.flagAddr % 2 == 0 then unsupported (.noEntry "extern/(internal/reflectlite.Value).Set.unaddressable")
  let val ← loadVar src b
  if ← Rtype.directlyAssignable dst src then storeVar dst a val
  else if ← Rtype.implements dst src then
   if (← Rtype.kind src) == 20 then
    match val with
    | .nilIface => unsupported (.noEntry "extern/reflectlite: a nil value of one interface type handed on as a value of another")
    | _ => storeVar dst a val
   else storeVar dst a (.iface src val)
  else panicString ("reflectlite.Set: value of type " ++ (← Rtype.spelt src) ++ " is not assignable to type " ++ (← Rtype.spelt dst))
  pure (.tuple #[])) := rfl
theorem e_partsTa (a : Addr) (w : World) : (ReflectliteValue.parts (.agg #[.pointer (some ⟨9,264,none⟩),.pointer (some a),.int .u64 406])).run Tryz.prog w = .ok (some (264,a,406)) w := by kernel_rfl
theorem e_partsT (a : Addr) (w : World) : (ReflectliteValue.parts (.agg #[.pointer (some ⟨9,264,none⟩),.pointer (some a),.int .u64 150])).run Tryz.prog w = .ok (some (264,a,150)) w := by kernel_rfl
theorem e_directT (w : World) : (Rtype.directlyAssignable 264 264).run Tryz.prog w = .ok true w := by kernel_rfl
theorem e_setT (ta b e : Addr) (old : Value) (W : World) (hb : W.cell? b = some (.pointer (some e))) (ht : W.cell? ta = some old) (hf : W.frozen? ta = false) :
  (ReflectliteValue.set #[.agg #[.pointer (some ⟨9,264,none⟩),.pointer (some ta),.int .u64 406],.agg #[.pointer (some ⟨9,264,none⟩),.pointer (some b),.int .u64 150]]).run Tryz.prog W
   = .ok (.tuple #[]) (W.setCell ta (.pointer (some e))) := by
 rw [e_rls]
 simp only [Sem.run_bind,e_partsTa,e_partsT,Result.andThen]
 simp [ReflectliteValue.flagAddr,loadVar,isAgg,underlying,Tryz.underlying264,hb,Result.andThen,e_directT,storeVar,Value.cells,storeCells,Addr.add]
 rw [run_store Tryz.prog W ta _ _ (by rfl)]
 simp [ht,hf]
def asWorld (w : World) (e t : Addr) : World := ((((w.alloc (.cells #[.pointer (some t)] 269)).alloc (.cells #[.pointer (some ⟨9,269,none⟩),.pointer (some ⟨w.heap.size,0,none⟩),.int .u64 150] 304)).alloc (.cells #[.pointer (some ⟨9,269,none⟩),.pointer (some ⟨w.heap.size,0,none⟩),.int .u64 150] 304)).alloc (.cells #[.pointer (some e)] 264)).setCell t (.pointer (some e))
set_option maxHeartbeats 8000000 in
theorem as_hit (e t : Addr) (old : Value) (w : World) (hg : w.cell? ⟨3,0,none⟩ = some (.iface 333 (.agg #[.pointer (some ⟨9,266,none⟩)]))) (ht0 : w.cell? t = some old) (hf0 : w.frozen? t = false) :
  Calls Tryz.prog 200 #[.iface 264 (.pointer (some e)),.iface 269 (.pointer (some t))] w fun ev w' => ev = .returned (.bool true) ∧ w' = asWorld w e t := by
 have h6 := @run_callFunc_extern Tryz.prog 224 _ (fun args => ReflectliteValue.unpack (args.getD 0 (.tuple #[]))) Tryz.func224 (by kernel_rfl) (by kernel_rfl) (by kernel_rfl) (by kernel_rfl)
 have h7 := @run_callFunc_extern Tryz.prog 225 _ (ReflectliteValue.methodAny (ReflectliteValue.valueError "reflectlite.Value.Type" 0) (fun t _ _ _ => ReflectliteType.toType t)) Tryz.func225 (by kernel_rfl) (by kernel_rfl) (by kernel_rfl) (by kernel_rfl)
 have h8 := @run_callFunc_extern Tryz.prog 226 _ (ReflectliteValue.method (ReflectliteValue.valueError "reflectlite.Value.IsNil" 0) ReflectliteValue.isNil) Tryz.func226 (by kernel_rfl) (by kernel_rfl) (by kernel_rfl) (by kernel_rfl)
 have h27 := @run_callFunc_extern Tryz.prog 304 _ (ReflectliteType.abiMethod fun t => do pure (.int .u8 (← Rtype.kind t))) Tryz.func304 (by kernel_rfl) (by kernel_rfl) (by kernel_rfl) (by kernel_rfl)
 have h37 := @run_callFunc_extern Tryz.prog 338 _ (ReflectliteType.method ReflectliteType.elem) Tryz.func338 (by kernel_rfl) (by kernel_rfl) (by kernel_rfl) (by kernel_rfl)
 have h38 := @run_callFunc_extern Tryz.prog 339 _ (ReflectliteType.relation "Implements" ReflectliteType.implements_) Tryz.func339 (by kernel_rfl) (by kernel_rfl) (by kernel_rfl) (by kernel_rfl)
 have h10 := @run_callFunc_extern Tryz.prog 244 _ ReflectliteType.typeOf Tryz.func244 (by kernel_rfl) (by kernel_rfl) (by kernel_rfl) (by kernel_rfl)
 have h35 := @run_callFunc_extern Tryz.prog 336 _ (ReflectliteType.relation "AssignableTo" ReflectliteType.assignableTo) Tryz.func336 (by kernel_rfl) (by kernel_rfl) (by kernel_rfl) (by kernel_rfl)
 have h11 := @run_callFunc_extern Tryz.prog 245 _ (ReflectliteValue.method (ReflectliteValue.valueError "reflectlite.Value.Elem" 0) ReflectliteValue.elem) Tryz.func245 (by kernel_rfl) (by kernel_rfl) (by kernel_rfl) (by kernel_rfl)
 have h12 := @run_callFunc_extern Tryz.prog 246 _ ReflectliteValue.set Tryz.func246 (by kernel_rfl) (by kernel_rfl) (by kernel_rfl) (by kernel_rfl)
 have tO := e_typeOfT
 have mA := e_methodAssignableTo
 have a25 := e_assignableT
 have v25 := e_valueOfT
 have f6 := e_valueOfP
 have f7 := e_typeP
 have mK := e_methodKind
 have mE := e_methodElem
 have mI := e_methodImplements
 have k27 := e_kindP
 have k25 := e_kindT
 have e27 := e_elemP
 have i25 := e_implementsT
 have n8 := e_isNilP ⟨w.heap.size,0,none⟩ t ((w.alloc (.cells #[.pointer (some t)] 269)).alloc (.cells #[.pointer (some ⟨9,269,none⟩),.pointer (some ⟨w.heap.size,0,none⟩),.int .u64 150] 304)) (by simp)
 have hlt : 3 < w.heap.size := by
  rcases Nat.lt_or_ge 3 w.heap.size with h | h
  ·exact h
  ·simp [World.cell?,Array.getElem?_eq_none h] at hg
 have hg2 : ((w.alloc (.cells #[.pointer (some t)] 269)).alloc (.cells #[.pointer (some ⟨9,269,none⟩),.pointer (some ⟨w.heap.size,0,none⟩),.int .u64 150] 304)).cell? ⟨3,0,none⟩ = some (.iface 333 (.agg #[.pointer (some ⟨9,266,none⟩)])) := by
  rw [World.cell?_alloc_lt _ _ ⟨3,0,none⟩ (by simp; omega),World.cell?_alloc_lt _ _ ⟨3,0,none⟩ hlt]; exact hg
 have htl : t.block < w.heap.size := by
  rcases Nat.lt_or_ge t.block w.heap.size with h | h
  ·exact h
  ·simp [World.cell?,Array.getElem?_eq_none h] at ht0
 have el := e_elemVP ⟨w.heap.size,0,none⟩ t (((w.alloc (.cells #[.pointer (some t)] 269)).alloc (.cells #[.pointer (some ⟨9,269,none⟩),.pointer (some ⟨w.heap.size,0,none⟩),.int .u64 150] 304)).alloc (.cells #[.pointer (some ⟨9,269,none⟩),.pointer (some ⟨w.heap.size,0,none⟩),.int .u64 150] 304)) (by rw [World.cell?_alloc_lt _ _ ⟨w.heap.size,0,none⟩ (by simp; omega)]; simp)
 have st := e_setT t ⟨w.heap.size + 1 + 1 + 1,0,none⟩ e old ((((w.alloc (.cells #[.pointer (some t)] 269)).alloc (.cells #[.pointer (some ⟨9,269,none⟩),.pointer (some ⟨w.heap.size,0,none⟩),.int .u64 150] 304)).alloc (.cells #[.pointer (some ⟨9,269,none⟩),.pointer (some ⟨w.heap.size,0,none⟩),.int .u64 150] 304)).alloc (.cells #[.pointer (some e)] 264))
  (by rw [World.cell?_alloc_at _ _ _ _ (by simp)]; rfl)
  (by rw [World.cell?_alloc_lt _ _ t (by simp; omega),World.cell?_alloc_lt _ _ t (by simp; omega),World.cell?_alloc_lt _ _ t (by simp; omega),World.cell?_alloc_lt _ _ t htl]; exact ht0)
  (by rw [World.frozen?_alloc_old _ _ t (by simp; omega),World.frozen?_alloc_old _ _ t (by simp; omega),World.frozen?_alloc_old _ _ t (by simp; omega),World.frozen?_alloc_old _ _ t (Nat.ne_of_lt htl)]; exact hf0)
 unfold asWorld
 go_enter Tryz.func200,Tryz.ntmps200
 go_wp2
 refine wp_loop_rounds 1 ?_
 rw [rounds_succ]
 go_wp2
 go_ret
 exact ⟨rfl,rfl⟩
end Go.Av.Fn
/- errors.As at a reader that is stuck, over abstract values. Condition: what errors.errorType holds. -/
namespace Go.Av.Fn
open Go.RowKit Go.Proofs
set_option linter.unusedSimpArgs false
set_option linter.unusedVariables false
theorem as_ok {Γ : Glob} (hΓ : Γ 3 = some [.ifc 333 (.agg [.ptr 9 266])]) {m : Store} {e eo t : Nat} {c : V} (ht : m t = some (.var 264 [c])) :
  zab Tryz.prog Γ 200 [.ifc 264 (.ptr e eo),.ifc 269 (.ptr t 0)] m fun o m' => o = .ret (.val (.bool true)) ∧ m' = m.set t (.var 264 [.ptr e eo]) := by
 refine ⟨by kernel_rfl,fun G B0 mF w cargs hD hR hL => ?_⟩
 obtain ⟨u1,us1,rfl,r1,hL⟩ := hL.cons_inv
 obtain ⟨u2,us2,rfl,r2,hL⟩ := hL.cons_inv
 obtain rfl := hL.nil_inv
 have hu1 : u1 = .iface 264 (.pointer (some ⟨e,eo,none⟩)) := by
  cases r1 with
  | ifc r1 => cases r1; rfl
 have hu2 : u2 = .iface 269 (.pointer (some ⟨t,0,none⟩)) := by
  cases r2 with
  | ifc r2 => cases r2; rfl
 subst hu1
 subst hu2
 have hM : (m.or mF) t = some (.var 264 [c]) := zbu ht
 obtain ⟨hB,⟨us,h2,h3⟩,h4⟩ := hR.var t _ _ hM
 obtain ⟨old,us',rfl,r3,r4⟩ := h3.cons_inv
 obtain rfl := r4.nil_inv
 obtain ⟨gs,g1,g2⟩ := hR.glob _ _ hΓ
 obtain ⟨gv,gs',rfl,g3,g4⟩ := g1.cons_inv
 have hgv : gv = .iface 333 (.agg #[.pointer (some ⟨9,266,none⟩)]) := by
  cases g3 with
  | ifc g3 =>
   cases g3 with
   | agg g5 =>
    obtain ⟨gp,gs'',rfl,g6,g7⟩ := g5.cons_inv
    obtain rfl := g7.nil_inv
    cases g6
    rfl
 subst hgv
 have hg := hR.K _ _ _ (g2.2 0 _ rfl)
 have ht0 : w.cell? ⟨t,0,none⟩ = some old := by simp [World.cell?,h2]
 have hf0 : w.frozen? ⟨t,0,none⟩ = false := by simp [World.frozen?,h2]
 refine (as_hit ⟨e,eo,none⟩ ⟨t,0,none⟩ old w hg ht0 hf0).mono ?_
 rintro ev w' ⟨rfl,rfl⟩
 refine ⟨G,m.set t (.var 264 [.ptr e eo]),.ret (.val (.bool true)),Gh.le.refl G,hD.set _ (hD.of_some ht),?_,?_,.ret (.val rfl),rfl,rfl⟩
 ·rw [or_set]
  exact ((((hR.alloc _).alloc _).alloc _).alloc _).store hM (o := 0) (.ptr e eo)
 ·refine Below.setCell (((((Below.refl B0 w).alloc hR.base _).alloc ?_ _).alloc ?_ _).alloc ?_ _) hB _
  all_goals (simp only [World.size_alloc]; have := hR.base; omega)
end Go.Av.Fn
/- A text read by the parser, and what it says when it can't go on. Condition: what errors.errorType holds. -/
namespace Go.Av
section
variable {P : Program} {Γ : Glob} {l : List Item} {t : List V} {m : Store} {d : Option Tmp}
theorem runP_cons {Kp : V → St → Prop} {K : St → Prop} {g : Option (Tmp × Bool)} {ao : AOp} : runP P Γ Kp (⟨d,g,ao,[]⟩ :: l) K ⟨t,m⟩ = runO P Γ (fun v m' => Kp v ⟨t,m'⟩) [⟨d,g,ao,[]⟩] (runP P Γ Kp l K) (some ⟨t,m⟩) := by
 apply propext
 simp only [runP,stepP,runO,runA,stepA,zaJ,List.not_mem_nil,false_implies,implies_true,true_and]
theorem runP_nil {Kp : V → St → Prop} {K : St → Prop} {st : St} : runP P Γ Kp [] K st = K st := rfl
theorem awpP_row {Kp : V → St → Prop} {Q : Ex → St → Prop} {st : St} : awpP P Γ Kp (.row l) Q st = runP P Γ Kp l (Q .normal) st := rfl
theorem awpP_seq {Kp : V → St → Prop} {Q : Ex → St → Prop} {a b : PCode} {st : St} : awpP P Γ Kp (.seq a b) Q st = awpP P Γ Kp a (thenA (awpP P Γ Kp b Q) Q) st := rfl
theorem awpP_code {Kp : V → St → Prop} {Q : Ex → St → Prop} {c : za4} {st : St} : awpP P Γ Kp (.code c) Q st = awp P Γ (fun _ _ => False) c Q st := rfl
def condP (v : V) (A B : Prop) : Prop := match v with
 | .val (.bool t) => (t = true → A) ∧ (t = false → B)
 | _ => False
theorem awpP_cond {Kp : V → St → Prop} {Q : Ex → St → Prop} {c : Operand} {a b : PCode} : awpP P Γ Kp (.cond c a b) Q ⟨t,m⟩ = condP (ev Γ t c) (awpP P Γ Kp a Q ⟨t,m⟩) (awpP P Γ Kp b Q ⟨t,m⟩) := (rfl)
theorem condP_true {A B : Prop} : condP (.val (.bool true)) A B = A := by simp [condP]
theorem condP_false {A B : Prop} : condP (.val (.bool false)) A B = B := by simp [condP]
theorem runA_O {Kp : V → Store → Prop} {K : St → Prop} {st : St} : runA P Γ Kp l K st = runO P Γ Kp l K (some st) := rfl
theorem put_none {st : St} {v : V} : st.put none v = st := rfl
theorem q_asrt {T : TypeId} {x : Operand} : zaW (.asrt T x) = true := (rfl)
theorem eval_asrt {T : TypeId} {x : Operand} : zao P (ev Γ t) m (.asrt T x) = asrtV P T (ev Γ t x) := rfl
end
end Go.Av
namespace Go.Av.Fn
set_option linter.unusedSimpArgs false
set_option linter.unusedVariables false
set_option maxRecDepth 10000
open Go.Proofs
def readT (l : List Tk) : Option Ex × Int × Int := match run (10 * l.length + 9) (.ex 0) l with
 | some (.ok [e] (t :: _)) => if t.k = 0 then (some e,0,0) else (none,t.a,6)
 | some (.st (t :: _)) => (none,t.a,6)
 | _ => (none,0,0)
def zdU (s : List UInt8) : Option Ex × Int × Int := match scanR s with
 | .error (a,e) => (none,a,e)
 | .ok l => readT l
def triV (r : Option Ex × Int × Int) : V := .tup [exO r.1,it r.2.1,it r.2.2]
theorem nil_is : binV Tryz.prog .eql 20 .iface (.tmp 9) (.const .nilIface) (.val .nilIface) (.val .nilIface) = some (.val (.bool true)) := by kernel_rfl
theorem asrt_st {b : Nat} : asrtV Tryz.prog 266 (.ifc 264 (.ptr b 0)) = some (.tup [.ifc 264 (.ptr b 0),.val (.bool true)]) := by kernel_rfl
section
variable {Γ : Glob} {m : Store} {xb ab eb : Nat}
theorem read1_none : zdD Tryz.prog Γ 199 [.ptr xb 0,.ptr ab 0,.ptr eb 0] m none (fun m' => m' = m) := by
 refine adcalls_of_awp mixed R199_ok ?_
 have hs : startR R199 [.ptr xb 0,.ptr ab 0,.ptr eb 0] m none = ⟨[.ptr xb 0,.ptr ab 0,.ptr eb 0,.val .nilIface,un,un,un,un,.val .nilIface,un,un,un,un,un,un,un,un,un,un,un,un,un,un,un,un,un,un,un],m⟩ := rfl
 rw [hs]
 simp only [R199]
 simp only [nil_is,ssS,zeQ,zeO,reduceIte,zeP]
 exact ⟨⟨_,rfl⟩,rfl⟩
theorem read1_some (hΓ : Γ 3 = some [.ifc 333 (.agg [.ptr 9 266])]) {b : Nat} {a : Int} {c1 : List V} {c2 c3 : V} (hb : m b = some (.var 271 [it a])) (hx : m xb = some (.var 206 c1)) (h1 : c1.length = 5) (ha : m ab = some (.var 3 [c2])) (he : m eb = some (.var 34 [c3])) (hxa : xb ≠ ab) (hxe : xb ≠ eb) (hae : ab ≠ eb) :
  zdD Tryz.prog Γ 199 [.ptr xb 0,.ptr ab 0,.ptr eb 0] m (some (stV b)) (fun m' => m' xb = some (.var 206 zE) ∧ m' ab = some (.var 3 [it a]) ∧ m' eb = some (.var 34 [it 6]) ∧ ∀ c x,c ≠ xb → c ≠ ab → c ≠ eb → m c = some x → m' c = some x) := by
 refine adcalls_of_awp mixed R199_ok ?_
 have hs : startR R199 [.ptr xb 0,.ptr ab 0,.ptr eb 0] m (some (stV b)) = ⟨[.ptr xb 0,.ptr ab 0,.ptr eb 0,stV b,un,un,un,un,stV b,un,un,un,un,un,un,un,un,un,un,un,un,un,un,un,un,un,un,un],m⟩ := rfl
 rw [hs]
 have hst : stV b = .ifc 264 (.ptr b 0) := rfl
 have hni : binV Tryz.prog .eql 20 .iface (.tmp 9) (.const .nilIface) (stV b) (.val .nilIface) = some (.val (.bool false)) := rfl
 simp only [R199]
 simp only [hni,ssS,zeQ,zeO,reduceIte,zeP]
 refine zaq fun b4 hb4 => ?_
 have n4 : ∀ {c x},m c = some x → c ≠ b4 := fun h => zal h hb4
 simp only [q_asrt,eval_asrt,asrt_st,hst,ssS,zeQ,zeO,reduceIte,zeP]
 refine zaK (as_ok hΓ (c := .val (.pointer none)) (Store.set_same _ _ _)) ?_
 simp only [Store.set_set,ssS,zeQ,zeO,reduceIte,zeP]
 refine zaq fun b7 hb7 => ?_
 have h47 : b4 ≠ b7 := zal (Store.set_same _ _ _) hb7
 have n7 : ∀ {c x},m c = some x → c ≠ b7 := fun {c x} h => zal (x := x) (by rw [Store.set_ne _ _ (n4 h)]; exact h) hb7
 obtain ⟨p1,p2,p3,p4,p5,rfl⟩ : ∃ p1 p2 p3 p4 p5,c1 = [p1,p2,p3,p4,p5] := by
  match c1,h1 with
  | [p1,p2,p3,p4,p5],_ => exact ⟨_,_,_,_,_,rfl⟩
 simp only [Store.set_same,Store.set_ne _ _ h47,Store.set_ne _ _ (n7 hb),Store.set_ne _ _ (n4 hb),hb,Store.set_ne _ _ (n7 hx),Store.set_ne _ _ (n4 hx),hx,ssS,zeQ,zeO,reduceIte,zeP]
 simp only [Store.set_ne _ _ hxa.symm,Store.set_ne _ _ (n7 ha),Store.set_ne _ _ (n4 ha),ha,ssS,zeQ,zeO,reduceIte,zeP]
 simp only [Store.set_ne _ _ hae.symm,Store.set_ne _ _ hxe.symm,Store.set_ne _ _ (n7 he),Store.set_ne _ _ (n4 he),he,ssS,zeQ,zeO,reduceIte,zeP]
 refine ⟨⟨_,rfl⟩,?_,?_,Store.set_same _ _ _,?_⟩
 ·show (Store.set _ _ _) _ = _
  rw [Store.set_ne _ _ hxe,Store.set_ne _ _ hxa,Store.set_same]
 ·show (Store.set _ _ _) _ = _
  rw [Store.set_ne _ _ hae,Store.set_same]
 ·intro c x h1 h2 h3 hc
  show (Store.set _ _ _) _ = _
  rw [Store.set_ne _ _ h3,Store.set_ne _ _ h2,Store.set_ne _ _ h1,Store.set_ne _ _ (n7 hc),Store.set_ne _ _ (n4 hc)]
  exact hc
end
end Go.Av.Fn
/- A text's expression: what the program's Expr tells. Conditions: the library's functions (LibOk, ParseOk), and what four variables hold. -/
namespace Go.Av
theorem zdD.mono {P : Program} {Γ : Glob} {g : FuncId} {caps : List V} {m : Store} {p : Option V} {R R' : Store → Prop} (h : zdD P Γ g caps m p R) (hr : ∀ m',R m' → R' m') : zdD P Γ g caps m p R' := by
 refine ⟨h.1,fun G B0 mF w ccaps u a b c d => ?_⟩
 have := h.2 G B0 mF w ccaps u a b c d
 refine this.mono ?_
 rintro e u' w' ⟨uv,G',m',h1,h2,h3,h4,h5,h6,h7⟩
 exact ⟨uv,G',m',h1,h2,h3,h4,h5,h6,hr _ h7⟩
theorem resV_cells3 {t : List V} {m : Store} {i j k a b c : Nat} {T1 T2 T3 : TypeId} {cs : List V} {u x y : V} (h1 : tget t i = .ptr a 0) (h2 : m a = some (.var T1 cs)) (h3 : zbB cs 0 (some 5) = some u) (h4 : tget t j = .ptr b 0) (h5 : m b = some (.var T2 [x])) (h6 : tget t k = .ptr c 0) (h7 : m c = some (.var T3 [y])) :
  resV [.cell i (some 5),.cell j none,.cell k none] ⟨t,m⟩ = some (.tup [u,x,y]) := by
 have e : ∀ z : V,zbB [z] 0 none = some z := fun _ => rfl
 simp only [resV,zcg,zcn,zbc,h1,h2,h3,h4,h5,h6,h7,e,Option.map_some]
end Go.Av
namespace Go.Av.Fn
set_option linter.unusedSimpArgs false
set_option linter.unusedVariables false
set_option maxRecDepth 10000
open Go.Proofs
structure Env (Γ : Glob) : Prop where
 lib : LibOk Γ
 parse : ParseOk Γ
 words : Γ 1 = some (za8.map bs)
 signs : Γ 0 = some (zbs.map bs)
 errT : Γ 3 = some [.ifc 333 (.agg [.ptr 9 266])]
theorem tokL_ne {r : List UInt8} {e : Int} (h : tokL r = .error e) : e ≠ 0 := by
 unfold tokL at h
 split at h
 ·cases h; decide
 ·split at h
  ·split at h
   ·cases h
   ·split at h
    ·cases h; decide
    ·cases h
  ·split at h
   ·split at h
    ·cases h; decide
    ·cases h
   ·split at h
    ·split at h
     ·rename_i hq
      cases h
      exact qL_err hq
     ·cases h
    ·split at h
     ·cases h
     ·cases h; decide
theorem scanL_ne {r : List UInt8} {a l : Nat} {acc : List Tk} {x : Nat × Int} (h : scanL r a l acc = .error x) : x.2 ≠ 0 := by
 fun_induction scanL r a l acc with
 | case1 r a l acc x r' e h1 h2 => cases h
 | case2 r a l acc x r' e h1 h2 => cases h; exact tokL_ne h1
 | case3 r a l acc x r' t n h1 ih => exact ih h
theorem scanR_ne {s : List UInt8} {a : Nat} {e : Int} (h : scanR s = .error (a,e)) : e ≠ 0 := by
 unfold scanR at h
 split at h
 ·cases h; decide
 ·exact scanL_ne h
def scanV : Except (Nat × Int) (List Tk) → V
 | .ok l => .tup [.sl (l.map tkV) [] .no,it 0,it 0]
 | .error (a,e) => .tup [.sl [] [] .no,it a,it e]
theorem weak_tk (t : Tk) : weak (tkV t) = tkV t := rfl
section
variable {Γ : Glob} {m : Store}
theorem scan_weak (E : Env Γ) (s : List UInt8) : zab Tryz.prog Γ 198 [bs s] m fun o m' => o = .ret (scanV (scanR s)) ∧ m' = m := by
 refine zab.weak (scan_ok E.lib E.parse E.words E.signs s) ?_ ?_
 ·rintro v m' ⟨h,rfl⟩
  refine ⟨?_,rfl⟩
  unfold ScanOut at h
  split at h
  ·rename_i l hl
   obtain ⟨tok,h⟩ := h
   cases h
   rw [hl]
   simp only [scanV,weak,za9,weaks_map weak_tk]
  ·rename_i a e hl
   cases h
   rw [hl]
   simp only [scanV,weak,za9]
 ·rintro v m' ⟨h,_⟩
  exfalso
  unfold ScanOut at h
  split at h
  ·obtain ⟨_,h⟩ := h
   cases h
  ·cases h
theorem Expr1_ok {rb n : Nat} {l : List Tk} {p : PR} (hn0 : n ≤ 1099511627776) (hr : m rb = some (rdr l)) (hs : Sgl p) (hp : run n (.ex 0) l = some p) : zab Tryz.prog Γ 185 [.ptr rb 0] m (PE m rb hdV p) := by
 refine zcH (zae mixed F185_ok zdV ?_)
 simp only [F185,ss0,zeW,zeQ]
 simp only [ssS,zeQ,zeO,reduceIte,zeP]
 refine zaq fun b hb => ?_
 have hn := zal hr hb
 have hE := (Ext.refl m rb).alloc hb (.var 206 zE)
 simp only [ssS,zeQ,zeO,reduceIte,zeP]
 refine zau ((parser_ok n hn0).1 0 l p _ rb (by omega) (by rw [Store.set_ne _ _ hn]; exact hr) hs hp) (fun es l1 e => ?_) (fun l1 b2 e hb2 => ?_)
 ·subst e
  obtain ⟨e,rfl⟩ := hs
  obtain ⟨k,s,n,kids,ln⟩ := e
  simp only [hdV,exV,Store.set_ne _ _ hn.symm,Store.set_same,ssS,zeQ,zeO,reduceIte,zeP]
  refine zbX (b := b) rfl (Store.set_same _ _ _) (zaU _) ?_
  exact ((hE.rd _).loc hb _).ret (by rw [Store.set_ne _ _ hn,Store.set_same])
 ·subst e
  exact zbt hE (by rw [Store.set_ne _ _ hn]; exact hr) hb2
theorem read_ok (E : Env Γ) (s : List UInt8) : zab Tryz.prog Γ 184 [bs s,.fn (.func 185) [] []] m fun o m' => o = .ret (triV (zdU s)) ∧ m' = m := by
 refine zab.weak (R := fun o m' => ∃ v,o = .ret v ∧ weak v = triV (zdU s) ∧ m' = m) (zab.less (A := fun o m' => ∃ v,o = .ret v ∧ weak v = triV (zdU s) ∧ SubS m m') ?_ (fun o m' ⟨v,h1,h2,h3⟩ => ⟨m,h3,v,h1,h2,rfl⟩)) ?_ ?_
 rotate_left
 ·rintro v m' ⟨_,⟨⟩,h,rfl⟩
  exact ⟨by rw [h],rfl⟩
 ·rintro v m' ⟨_,⟨⟩,_⟩
 refine acalls_of_defer mixed D184_ok (by rintro v m b x _ ⟨_,⟨⟩,_⟩) ?_
 simp only [D184,awpD,ss0,zeW,zeQ]
 simp only [ssS,zeQ,zeO,reduceIte,zeP]
 refine zaq fun xb hxb => ?_
 simp only [ssS,zeQ,zeO,reduceIte,zeP]
 refine zaq fun ab hab => ?_
 have n1 : xb ≠ ab := zal (Store.set_same _ _ _) hab
 simp only [ssS,zeQ,zeO,reduceIte,zeP]
 refine zaq fun eb heb => ?_
 have n2 : ab ≠ eb := zal (Store.set_same _ _ _) heb
 have n3 : xb ≠ eb := zal (x := .var 206 zE) (by rw [Store.set_ne _ _ n1,Store.set_same]) heb
 simp only [ssS,zeQ,zeO,reduceIte,zeP]
 refine zak (scan_weak E s) ?_
 -- the store
 have key : ∀ S : Store,SubS m S → S xb = some (.var 206 zE) → S ab = some (.var 3 [it 0]) → S eb = some (.var 34 [it 0]) → m xb = none ∧ m ab = none ∧ m eb = none := by
  intro S h1 h2 h3 h4
  refine ⟨hxb,?_,?_⟩
  ·rw [Store.set_ne _ _ n1.symm] at hab; exact hab
  ·rw [Store.set_ne _ _ n2.symm,Store.set_ne _ _ n3.symm] at heb; exact heb
 have hS0 : SubS m (((m.set xb (.var 206 zE)).set ab (.var 3 [it 0])).set eb (.var 34 [it 0])) := (((SubS.refl m).out hxb _).out (by rw [Store.set_ne _ _ n1.symm] at hab; exact hab) _).out (by rw [Store.set_ne _ _ n2.symm,Store.set_ne _ _ n3.symm] at heb; exact heb) _
 have hx0 : (((m.set xb (.var 206 zE)).set ab (.var 3 [it 0])).set eb (.var 34 [it 0])) xb = some (.var 206 zE) := by rw [Store.set_ne _ _ n3,Store.set_ne _ _ n1,Store.set_same]
 have ha0 : (((m.set xb (.var 206 zE)).set ab (.var 3 [it 0])).set eb (.var 34 [it 0])) ab = some (.var 3 [it 0]) := by rw [Store.set_ne _ _ n2,Store.set_same]
 have he0 : (((m.set xb (.var 206 zE)).set ab (.var 3 [it 0])).set eb (.var 34 [it 0])) eb = some (.var 34 [it 0]) := Store.set_same _ _ _
 generalize (((m.set xb (.var 206 zE)).set ab (.var 3 [it 0])).set eb (.var 34 [it 0])) = S at hS0 hx0 ha0 he0
 obtain ⟨mx,ma,me⟩ := key S hS0 hx0 ha0 he0
 clear key hab heb hxb
 cases hsc : scanR s with
 | error x =>
  obtain ⟨a,e⟩ := x
  have hne : ((e : Int) != 0) = true := by simpa using scanR_ne hsc
  simp only [scanV,ha0,he0,hx0,hne,Store.set_same,Store.set_set,Store.set_ne _ _ n1,Store.set_ne _ _ n2,Store.set_ne _ _ n3,Store.set_ne _ _ n1.symm,Store.set_ne _ _ n2.symm,Store.set_ne _ _ n3.symm,ssS,zeQ,zeO,reduceIte,zeP]
  refine zai (resV_cells3 (T1 := 206) (T2 := 3) (cs := zE) (u := .agg zE) (x := it a) (y := it e) (a := xb) (b := ab) (c := eb) rfl ?_ rfl rfl ?_ rfl (Store.set_same _ _ _)) ⟨_,rfl,?_,?_⟩
  ·show (Store.set _ _ _) _ = _
   rw [Store.set_ne _ _ n3,Store.set_ne _ _ n1,Store.set_same]
  ·show (Store.set _ _ _) _ = _
   rw [Store.set_ne _ _ n2,Store.set_same]
  ·simp only [zdU,hsc,triV,exO,exV,exVs,weak,za9]
   rfl
  ·exact ((((hS0.out ma _).out me _).out mx _).out ma _).out me _
 | ok l =>
  have hg := scanR_good hsc
  obtain ⟨p,hp,hsg,hfit⟩ := run_expr hg
  have hl := scanR_len hsc
  have hrd : zdU s = readT l := by unfold zdU; rw [hsc]
  simp only [scanV,ha0,he0,hx0,Store.set_same,Store.set_set,Store.set_ne _ _ n1,Store.set_ne _ _ n2,Store.set_ne _ _ n3,Store.set_ne _ _ n1.symm,Store.set_ne _ _ n2.symm,Store.set_ne _ _ n3.symm,show ((0 : Int) != 0) = false from rfl,runA_O,put_none,awpP_row,awpP_seq,runP_cons,runP_nil,ssS,zeQ,zeO,reduceIte,zeP]
  have e1 : S.set ab (.var 3 [V.val (Value.int IntKind.i64 0)]) = S := Store.set_eq S ha0
  have e2 : S.set eb (.var 34 [V.val (Value.int IntKind.i64 0)]) = S := Store.set_eq S he0
  rw [e1,e2]
  refine zaq fun rb hrb => ?_
  have hrr : (S.set rb (rdr l)) rb = some (rdr l) := Store.set_same _ _ _
  have mr := hS0.none hrb
  have nx := zal hx0 hrb
  have na := zal ha0 hrb
  have ne := zal he0 hrb
  have hst : ∀ (S1 : Store) (t : List V) (l0 l1 : List Tk) (b : Nat),(S.set rb (rdr l0)) b = none → Good l1 → readT l = (none,atOf l1,6) → tget t 4 = .ptr xb 0 → tget t 5 = .ptr ab 0 → tget t 6 = .ptr eb 0 →
    (∃ c1 c2 c3,S1 = (((S.set xb (.var 206 c1)).set ab (.var 3 [c2])).set eb (.var 34 [c3])).set rb (rdr l1) ∧ c1.length = 5) →
    zdD Tryz.prog Γ 199 [.ptr xb 0,.ptr ab 0,.ptr eb 0] (S1.set b (stk l1)) (some (stV b)) (endD [ARes.cell 4 (some 5),ARes.cell 5 none,ARes.cell 6 none] (fun o m' => ∃ v,o = .ret v ∧ weak v = triV (zdU s) ∧ SubS m m') t) := by
   rintro S1 t l0 l1 b hb hg1 hrt g1 g2 g3 ⟨c1,c2,c3,rfl,hc1⟩
   have hb' : S b = none := by
    rw [Store.set_ne _ _ (fun e => zal (Store.set_same S rb (rdr l0)) hb e.symm)] at hb
    exact hb
   have bx := zal hx0 hb'
   have ba := zal ha0 hb'
   have be := zal he0 hb'
   have br : rb ≠ b := zal (Store.set_same S rb (rdr l0)) hb
   refine (read1_some E.errT (b := b) (a := atOf l1) (c1 := c1) (c2 := c2) (c3 := c3) (Store.set_same _ _ _) ?_ hc1 ?_ ?_ n1 n3 n2).mono ?_
   ·rw [Store.set_ne _ _ bx,Store.set_ne _ _ nx,Store.set_ne _ _ n3,Store.set_ne _ _ n1,Store.set_same]
   ·rw [Store.set_ne _ _ ba,Store.set_ne _ _ na,Store.set_ne _ _ n2,Store.set_same]
   ·rw [Store.set_ne _ _ be,Store.set_ne _ _ ne,Store.set_same]
   ·rintro m' ⟨q1,q2,q3,q4⟩
    refine ⟨_,resV_cells3 (a := xb) (b := ab) (c := eb) (u := .agg zE) g1 q1 rfl g2 q2 g3 q3,m',fun _ _ h => h,_,rfl,?_,fun c x hc => ?_⟩
    ·simp only [hrd,hrt,triV,exO,exV,exVs,weak,za9]
     rfl
    ·have k1 : c ≠ xb := fun e => zal hc mx e
     have k2 : c ≠ ab := fun e => zal hc ma e
     have k3 : c ≠ eb := fun e => zal hc me e
     have k4 : c ≠ rb := fun e => zal hc mr e
     have k5 : c ≠ b := zal (hS0 c x hc) hb'
     refine q4 c x k1 k2 k3 ?_
     rw [Store.set_ne _ _ k5,Store.set_ne _ _ k4,Store.set_ne _ _ k3,Store.set_ne _ _ k2,Store.set_ne _ _ k1]
     exact hS0 c x hc
  simp only [runP_cons,runP_nil,awpP_row,awpP_seq,ssS,zeQ,zeO,reduceIte,zeP]
  refine zau (S := S.set rb (rdr l)) (Expr1_ok (by omega) hrr hsg hp) (fun es l1 e => ?_) (fun l1 b e hb => ?_)
  ·subst e
   obtain ⟨e,rfl⟩ := hsg
   have hg1 := hfit.1
   obtain ⟨tk,l2,rfl⟩ := hg1.ne
   obtain ⟨k,s',n',kids,ln⟩ := e
   simp only [hdV,exV,Store.set_set,Store.set_same,Store.set_ne _ _ nx,Store.set_ne _ _ nx.symm,hx0,rdr,idx_tk,ld5,runP_cons,runP_nil,awpP_row,awpP_seq,awpP_cond,awpP_code,ssS,zeQ,zeO,reduceIte,zeP]
   have hrun : readT l = if tk.k = 0 then (some (.mk k s' n' kids ln),0,0) else (none,tk.a,6) := by
    unfold readT
    rw [hp]
   cases hk : (tk.k != 0)
   ·have hk0 : tk.k = 0 := by simpa using hk
    rw [if_pos hk0] at hrun
    simp only [condP_false,leaveD,runP_cons,runP_nil,awpP_row,awpP_seq,awpP_code,Store.set_same,Store.set_set,Store.set_ne _ _ nx,Store.set_ne _ _ nx.symm,Store.set_ne _ _ na,Store.set_ne _ _ na.symm,Store.set_ne _ _ ne,Store.set_ne _ _ ne.symm,Store.set_ne _ _ n1,Store.set_ne _ _ n2,Store.set_ne _ _ n3,Store.set_ne _ _ n1.symm,Store.set_ne _ _ n2.symm,Store.set_ne _ _ n3.symm,hx0,ha0,he0,ssS,zeQ,zeO,reduceIte,zeP]
    refine read1_none.mono ?_
    rintro m' rfl
    refine ⟨_,resV_cells3 (T1 := 206) (T2 := 3) (cs := [it k,bs s',it n',.sl (exVs kids) [] .no,it ln]) (u := .agg [it k,bs s',it n',.sl (exVs kids) [] .no,it ln]) (x := it 0) (y := it 0) (a := xb) (b := ab) (c := eb) rfl ?_ rfl rfl ?_ rfl (Store.set_same _ _ _),_,fun _ _ h => h,_,rfl,?_,?_⟩
    ·show (Store.set _ _ _) _ = _
     rw [Store.set_ne _ _ n3,Store.set_ne _ _ n1,Store.set_same]
    ·show (Store.set _ _ _) _ = _
     rw [Store.set_ne _ _ n2,Store.set_same]
    ·rw [hrd,hrun]
     simp only [triV,exO,exV,weak,za9,zaU,bs]
    ·exact (((hS0.out mr _).out mx _).out ma _).out me _
   ·have hk0 : ¬ tk.k = 0 := by simpa using hk
    rw [if_neg hk0] at hrun
    simp only [condP_true]
    have hr2 : ((S.set rb (rdr (tk :: l2))).set xb (.var 206 [it k,bs s',it n',.sl (exVs kids) [] .no,it ln])) rb = some (rdr (tk :: l2)) := by
     rw [Store.set_ne _ _ nx.symm,Store.set_same]
    refine zau (stop_ok (val := hdV) hr2) (by rintro es l3 ⟨⟩) ?_
    rintro l3 b ⟨⟩ hb
    refine hst _ _ (tk :: l2) (tk :: l2) b ?_ hg1 hrun rfl rfl rfl ⟨[it k,bs s',it n',.sl (exVs kids) [] .no,it ln],it 0,it 0,?_,rfl⟩
    ·rw [Store.set_ne _ _ (fun e => zal (Store.set_same _ _ _) hb e.symm)] at hb
     exact hb
    ·rw [set_comm S _ _ nx.symm,Store.set_set,Store.set_eq (S.set xb _) (show (S.set xb _) ab = some (.var 3 [it 0]) by rw [Store.set_ne _ _ n1.symm]; exact ha0),Store.set_eq (S.set xb _) (show (S.set xb _) eb = some (.var 34 [it 0]) by rw [Store.set_ne _ _ n3.symm]; exact he0)]
  ·subst e
   have hrun : readT l = (none,atOf l1,6) := by
    obtain ⟨t,r,rfl⟩ := hfit.1.ne
    unfold readT
    rw [hp]
    rfl
   rw [Store.set_set]
   exact hst _ _ l l1 b hb hfit.1 hrun rfl rfl rfl ⟨zE,it 0,it 0,by rw [Store.set_eq S hx0,Store.set_eq S ha0,Store.set_eq S he0],rfl⟩
end
end Go.Av.Fn
/- Whether a text is an expression's, and a command right. Conditions: the library's functions (LibOk, ParseOk), and what three variables hold. -/
namespace Go.Av.Fn
set_option linter.unusedSimpArgs false
set_option linter.unusedVariables false
set_option maxRecDepth 10000
open Go.Proofs
def exprS (s : List UInt8) : Option Ex × Int × Int :=
 if (zdU s).2.2 = 0 then (match (zdU s).1 with
  | some e => if depthE e > 24 then (none,0,7) else (some e,0,0)
  | none => (none,0,0))
 else (none,(zdU s).2.1,(zdU s).2.2)
def zc2 (s : List UInt8) : Bool := (exprS s).2.2 == 0 && decide (s.length ≤ 255)
def zcM (k n : Int) (s : List UInt8) : Bool :=
 if (decide (formOf k = zdu) || (!(formOf k).n && n != 0) || (!(formOf k).s && !(s == [])) || decide (n < (formOf k).least) || decide (n > 4294967296)) = true then false
 else if (!(formOf k).s || ((formOf k).n && s == [])) = true then true
 else zc2 s
theorem readS_size {s : List UInt8} {e : Ex} {x : Int × Int} (h : zdU s = (some e,x)) : zbr e ≤ 4097 := by
 unfold zdU at h
 split at h
 ·cases h
 ·rename_i l hl
  obtain ⟨p,hp,hsg,hfit⟩ := run_expr (scanR_good hl)
  have hlen := scanR_len hl
  unfold readT at h
  rw [hp] at h
  cases p with
  | ok es l1 =>
   obtain ⟨e2,rfl⟩ := hsg
   obtain ⟨tk,l2,rfl⟩ := hfit.1.ne
   have h3 := hfit.2.1
   simp only [sizes] at h3
   simp only at h
   split at h
   ·cases h; omega
   ·cases h
  | st l1 =>
   obtain ⟨tk,l2,rfl⟩ := hfit.1.ne
   cases h
theorem resV_c5tt {t : List V} {m : Store} {i j k a : Nat} {T1 : TypeId} {cs : List V} {u : V} (h1 : tget t i = .ptr a 0) (h2 : m a = some (.var T1 cs)) (h3 : zbB cs 0 (some 5) = some u) :
  resV [.cell i (some 5),.tmp j,.tmp k] ⟨t,m⟩ = some (.tup [u,tget t j,tget t k]) := by
 simp only [resV,zcg,zcn,zbc,h1,h2,h3,Option.map_some]
theorem form_eq (xo yo : Operand) (x : Form) : binV Tryz.prog .eql 199 .other xo yo (.agg [bs x.w,it x.least,.val (.bool x.n),.val (.bool x.s)]) (.agg [.val (.string (ByteArray.mk #[])),.val (.int .i64 0),.val (.bool false),.val (.bool false)]) = some (.val (.bool (decide (x = zdu)))) := by
 have h := (struct_eq (P := Tryz.prog) (T := 199) (xo := xo) (yo := yo) (cs := [bs x.w,it x.least,.val (.bool x.n),.val (.bool x.s)]) (cs' := [bs [],it 0,.val (.bool false),.val (.bool false)])
  (xs := [.string ⟨x.w.toArray⟩,.int .i64 x.least,.bool x.n,.bool x.s]) (ys := [.string ⟨([] : List UInt8).toArray⟩,.int .i64 0,.bool false,.bool false])
  (r := ((ByteArray.mk x.w.toArray).toList == (ByteArray.mk ([] : List UInt8).toArray).toList && (x.least == 0 && (x.n == false && (x.s == false && true)))))
  (by kernel_rfl) (by kernel_rfl) (by kernel_rfl) rfl rfl (by kernel_rfl)).1
 have e : ((ByteArray.mk x.w.toArray).toList == (ByteArray.mk ([] : List UInt8).toArray).toList && (x.least == 0 && (x.n == false && (x.s == false && true)))) = decide (x = zdu) := by
  rw [zbO,zbO,zfz]
  obtain ⟨a,b,c,d⟩ := x
  simp [zdu]
 rw [e] at h
 exact h
section
variable {Γ : Glob} {m : Store}
theorem sExpr_ok (E : Env Γ) (s : List UInt8) : zab Tryz.prog Γ 174 [bs s] m fun o m' => o = .ret (triV (exprS s)) ∧ m' = m := by
 refine zab.weak (R := fun o m' => ∃ v,o = .ret v ∧ weak v = triV (exprS s) ∧ m' = m) (zab.less (A := fun o m' => ∃ v,o = .ret v ∧ weak v = triV (exprS s) ∧ SubS m m') ?_ (fun o m' ⟨v,h1,h2,h3⟩ => ⟨m,h3,v,h1,h2,rfl⟩)) ?_ ?_
 rotate_left
 ·rintro v m' ⟨_,⟨⟩,h,rfl⟩
  exact ⟨by rw [h],rfl⟩
 ·rintro v m' ⟨_,⟨⟩,_⟩
 refine zae mixed F174_ok (by rintro v m b x _ ⟨_,⟨⟩,_⟩) ?_
 simp only [F174,ss0,zeW,zeQ]
 simp only [ssS,zeQ,zeO,reduceIte,zeP]
 refine zaq fun b2 hb2 => ?_
 simp only [ssS,zeQ,zeO,reduceIte,zeP]
 refine zak (read_ok E s) ?_
 obtain ⟨k,s',n',kids,ln,hex,hsz,hO⟩ : ∃ k s' n' kids ln,exO (zdU s).1 = exV (.mk k s' n' kids ln) ∧ zbr (.mk k s' n' kids ln) ≤ 4097 ∧ ((zdU s).1 = some (.mk k s' n' kids ln) ∨ ((zdU s).1 = none ∧ Ex.mk k s' n' kids ln = .mk 0 [] 0 [] 0)) := by
  cases hr : (zdU s).1 with
  | none => exact ⟨0,[],0,[],0,rfl,by simp [zbr,sizes],.inr ⟨rfl,rfl⟩⟩
  | some e =>
   have hs := readS_size (s := s) (e := e) (x := (zdU s).2) (by rw [← hr])
   obtain ⟨k,s',n',kids,ln⟩ := e
   exact ⟨k,s',n',kids,ln,rfl,hs,.inl rfl⟩
 simp only [triV,hex,exV,ssS,zeQ,zeO,reduceIte,zeP]
 refine zaq fun b5 hb5 => ?_
 have h25 : b2 ≠ b5 := zal (Store.set_same _ _ _) hb5
 have hS : ∀ x y z,SubS m (((m.set b2 x).set b5 y).set b2 z) := fun x y z => (((SubS.refl m).out hb2 _).out (by rw [Store.set_ne _ _ h25.symm] at hb5; exact hb5) _).out hb2 _
 simp only [Store.set_same,Store.set_set,ssS,zeQ,zeO,reduceIte,zeP]
 cases hne : ((zdU s).2.2 != 0)
 ·have h0 : (zdU s).2.2 = 0 := by simpa using hne
  simp only [Store.set_same,ssS,zeQ,zeO,reduceIte,zeP]
  refine zak (depth_ok 4097 (.mk k s' n' kids ln) _ hsz (by omega)) ?_
  simp only [ssS,zeQ,zeO,reduceIte,zeP]
  refine zat (fun hc => ?_) (fun hc => ?_)
  ·have hd : depthE (.mk k s' n' kids ln) > 24 := by have := of_decide_eq_true hc; omega
   simp only [Store.set_ne _ _ h25,Store.set_same,ssS,zeQ,zeO,reduceIte,zeP]
   refine zai (resV_c5tt (T1 := 206) (a := b2) (cs := zE) (u := .agg zE) rfl (Store.set_same _ _ _) rfl) ⟨_,rfl,?_,hS _ _ _⟩
   rcases hO with h1 | ⟨h1,h2⟩
   ·simp only [exprS,h0,if_true,h1,if_pos hd,exO,exV,exVs,weak,za9]
    rfl
   ·rw [h2] at hd
    simp [depthE,depths] at hd
  ·have hd : ¬ depthE (.mk k s' n' kids ln) > 24 := by have := of_decide_eq_false hc; omega
   simp only [Store.set_ne _ _ h25,Store.set_same,ssS,zeQ,zeO,reduceIte,zeP]
   refine zai (resV_c5tt (T1 := 206) (a := b2) (cs := [it k,bs s',it n',.sl (exVs kids) [] .no,it ln]) (u := .agg [it k,bs s',it n',.sl (exVs kids) [] .no,it ln]) rfl (Store.set_same _ _ _) rfl) ⟨_,rfl,?_,hS _ _ _⟩
   rcases hO with h1 | ⟨h1,h2⟩
   ·simp only [exprS,h0,if_true,h1,if_neg hd,exO,exV,exVs,weak,za9,zaU,bs]
    rfl
   ·cases h2
    simp only [exprS,h0,if_true,h1,exO,exV,exVs,weak,za9,bs]
    rfl
 ·have h0 : ¬ (zdU s).2.2 = 0 := by simpa using hne
  simp only [Store.set_ne _ _ h25,Store.set_same,ssS,zeQ,zeO,reduceIte,zeP]
  refine zai (resV_c5tt (T1 := 206) (a := b2) (cs := zE) (u := .agg zE) rfl (Store.set_same _ _ _) rfl) ⟨_,rfl,?_,hS _ _ _⟩
  simp only [exprS,h0,if_false,exO,exV,exVs,weak,za9]
  rfl
theorem written_ok (E : Env Γ) (s : List UInt8) : zab Tryz.prog Γ 159 [bs s] m fun o m' => o = .ret (.val (.bool (zc2 s))) ∧ m' = m := by
 refine zab.less (A := fun o m' => o = .ret (.val (.bool (zc2 s))) ∧ SubS m m') ?_ fun o m' h => ⟨m,h.2,h.1,rfl⟩
 refine zae mixed F159_ok (by rintro v m b x _ ⟨⟨⟩,_⟩) ?_
 simp only [F159,ss0,zeW,zeQ]
 simp only [ssS,zeQ,zeO,reduceIte,zeP]
 refine zak (sExpr_ok E s) ?_
 obtain ⟨k,s',n',kids,ln,hex⟩ : ∃ k s' n' kids ln,exO (exprS s).1 = exV (.mk k s' n' kids ln) := by
  cases (exprS s).1 with
  | none => exact ⟨0,[],0,[],0,rfl⟩
  | some e => obtain ⟨k,s',n',kids,ln⟩ := e; exact ⟨k,s',n',kids,ln,rfl⟩
 simp only [triV,hex,exV,ssS,zeQ,zeO,reduceIte,zeP]
 refine zaq fun b3 hb3 => ?_
 simp only [Store.set_same,Store.set_set,ssS,zeQ,zeO,reduceIte,zeP]
 have hl : decide ((s.length : Int) ≤ 255) = decide (s.length ≤ 255) := by
  rw [decide_eq_decide]
  omega
 cases h0 : ((exprS s).2.2 == 0)
 ·simp only [zcY,ssS,zeQ,zeO,reduceIte,zeP]
  refine zai zah ⟨?_,(SubS.refl m).out hb3 _⟩
  simp only [zac,zad,zc2,h0]
  rfl
 ·simp only [zcY,hl,ssS,zeQ,zeO,reduceIte,zeP]
  refine zai zah ⟨?_,(SubS.refl m).out hb3 _⟩
  simp only [zac,zad,zc2,h0]
  rfl
end
end Go.Av.Fn
/- Whether a command is right: the program's. Conditions: the library's functions (LibOk, ParseOk), and what three variables hold. -/
namespace Go.Av
theorem fillV_4 {cells : List V} {off : Nat} {a b c d : V} {r : List (Nat × Nat × V)} : zbM cells ((off,4,.agg [a,b,c,d]) :: r) = if off + 4 ≤ cells.length then zbM (tset (tset (tset (tset cells off a) (off + 1) b) (off + 2) c) (off + 3) d) r else none := by
 simp only [zbM,V.cells,zeV,List.length_nil,zeQ,true_and,List.zipIdx_cons,List.zipIdx_nil,List.foldl_cons,List.foldl_nil,Nat.add_zero,zeu,Nat.zero_add]
end Go.Av
namespace Go.Av.Fn
set_option linter.unusedSimpArgs false
set_option linter.unusedVariables false
set_option maxRecDepth 100000
open Go.Proofs
def tabOf : List (Nat × AFn) := [(158,F158)]
def noG : Glob := fun _ => none
theorem tabOf_ok : TabOk Tryz.prog noG tabOf := .cons ⟨_,F158_ok⟩ (by kernel_rfl) .nil
section
variable {Γ : Glob} {m : Store}
theorem of_ok (k : Int) : zab Tryz.prog Γ 158 [it k] m fun o m' => o = .ret (formV (formOf k)) ∧ m' = m := by
 by_cases hk : 0 ≤ k ∧ k < 18
 ·obtain ⟨h0,h18⟩ := hk
  have hi : k = 0 ∨ k = 1 ∨ k = 2 ∨ k = 3 ∨ k = 4 ∨ k = 5 ∨ k = 6 ∨ k = 7 ∨ k = 8 ∨ k = 9 ∨ k = 10 ∨ k = 11 ∨ k = 12 ∨ k = 13 ∨ k = 14 ∨ k = 15 ∨ k = 16 ∨ k = 17 := by omega
  have hc : CallOk Tryz.prog Γ (callI Tryz.prog noG (fun _ _ _ => none) (look tabOf) 2000 40) := callI_ok mixed (fun _ _ h => by cases h) tabOf_ok 2000 40
  rcases hi with rfl | rfl | rfl | rfl | rfl | rfl | rfl | rfl | rfl | rfl | rfl | rfl | rfl | rfl | rfl | rfl | rfl | rfl
  all_goals exact acalls_plain hc (by kernel_rfl) (.cons (.val _) .nil) rfl
 ·have hf : formOf k = zdu := by
   unfold formOf
   by_cases h : k < 0
   ·rw [if_pos h]
   ·rw [if_neg h,List.getElem?_eq_none (by show 18 ≤ k.toNat; omega)]
    rfl
  rw [hf]
  refine zab.less (A := fun o m' => o = .ret (formV zdu) ∧ SubS m m') ?_ fun o m' h => ⟨m,h.2,h.1,rfl⟩
  refine zae mixed F158_ok (by rintro v m b x _ ⟨⟨⟩,_⟩) ?_
  simp only [F158,ss0,zeW,zeQ]
  simp only [ssS,zeQ,zeO,reduceIte,zeP]
  refine zaq fun b2 hb2 => ?_
  simp only [fillV_4,ssS,zeQ,zeO,reduceIte,zeP]
  refine zaq fun b3 hb3 => ?_
  have h23 : b2 ≠ b3 := zal (Store.set_same _ _ _) hb3
  have fin : ∀ (t : List V) (x y z : Blk),tget t 2 = .ptr b2 0 → z = .var 199 [bs [],it 0,.val (.bool false),.val (.bool false)] → bodyA [ARes.cell 2 (some 4)] (fun o m' => o = Out.ret (formV zdu) ∧ SubS m m') .ret ⟨t,((m.set b2 x).set b3 y).set b2 z⟩ := by
   rintro t x y z ht rfl
   refine zai ((zdq ht (Store.set_same _ _ _)).trans rfl) ⟨rfl,?_⟩
   exact ((((SubS.refl m).out hb2 _).out (by rw [Store.set_ne _ _ h23.symm] at hb3; exact hb3) _).out hb2 _)
  cases hn : decide (k < 0)
  ·have hg : decide (k ≥ 18) = true := by
    have := of_decide_eq_false hn
    exact decide_eq_true (by omega)
   simp only [Store.set_same,Store.set_set,hn,hg,Store.set_ne _ _ h23,ssS,zeQ,zeO,reduceIte,zeP]
   exact fin _ _ _ _ rfl rfl
  ·simp only [Store.set_same,Store.set_set,hn,Store.set_ne _ _ h23,ssS,zeQ,zeO,reduceIte,zeP]
   exact fin _ _ _ _ rfl rfl
theorem zaV {k n : Int} {s : List UInt8} {t : List V} {S : Store} (b : Bool) (h : zcM k n s = b) (h2 : tget t 2 = .val (.bool b)) (hs : SubS m S) : bodyA [ARes.tmp 2] (fun o m' => o = Out.ret (.val (.bool (zcM k n s))) ∧ SubS m m') .ret ⟨t,S⟩ :=
 zai zah ⟨by rw [h,h2],hs⟩
theorem right_ok (E : Env Γ) (k n : Int) (s : List UInt8) : zab Tryz.prog Γ 136 [cmdV k n s] m fun o m' => o = .ret (.val (.bool (zcM k n s))) ∧ m' = m := by
 refine zab.less (A := fun o m' => o = .ret (.val (.bool (zcM k n s))) ∧ SubS m m') ?_ fun o m' h => ⟨m,h.2,h.1,rfl⟩
 refine zae mixed F136_ok (by rintro v m b x _ ⟨⟨⟩,_⟩) ?_
 simp only [F136,cmdV,ss0,zeW,zeQ]
 simp only [ssS,zeQ,zeO,reduceIte,zeP]
 refine zaq fun b1 hb1 => ?_
 simp only [Store.set_same,ssS,zeQ,zeO,reduceIte,zeP]
 refine zak (of_ok k) ?_
 obtain ⟨w,le,fn,fs,hf⟩ : ∃ w le fn fs,formOf k = ⟨w,le,fn,fs⟩ := ⟨_,_,_,_,rfl⟩
 simp only [hf,formV,ssS,zeQ,zeO,reduceIte,zeP]
 refine zaq fun b3 hb3 => ?_
 have h13 : b1 ≠ b3 := zal (Store.set_same _ _ _) hb3
 have hS : ∀ x y,SubS m ((m.set b1 x).set b3 y) := fun x y => ((SubS.refl m).out hb1 _).out (by rw [Store.set_ne _ _ h13.symm] at hb3; exact hb3) _
 have hfe : ∀ xo yo,binV Tryz.prog .eql 199 .other xo yo (.agg [bs w,it le,.val (.bool fn),.val (.bool fs)]) (.agg [.val (.string (ByteArray.mk #[])),.val (.int .i64 0),.val (.bool false),.val (.bool false)]) = some (.val (.bool (decide (Form.mk w le fn fs = zdu)))) := fun xo yo => form_eq xo yo ⟨w,le,fn,fs⟩
 simp only [Store.set_same,Store.set_set,Store.set_ne _ _ h13,hfe,ssS,zeQ,zeO,reduceIte,zeP]
 have hF : (decide (Form.mk w le fn fs = zdu) || (!fn && n != 0) || (!fs && !(s == [])) || decide (n < le) || decide (n > 4294967296)) = true → zcM k n s = false := by
  intro h
  unfold zcM
  rw [hf,if_pos h]
 have hT : (decide (Form.mk w le fn fs = zdu) || (!fn && n != 0) || (!fs && !(s == [])) || decide (n < le) || decide (n > 4294967296)) = false → (!fs || (fn && s == [])) = true → zcM k n s = true := by
  intro h h2
  unfold zcM
  rw [hf,if_neg (by rw [h]; decide),if_pos h2]
 have hW : (decide (Form.mk w le fn fs = zdu) || (!fn && n != 0) || (!fs && !(s == [])) || decide (n < le) || decide (n > 4294967296)) = false → (!fs || (fn && s == [])) = false → zcM k n s = zc2 s := by
  intro h h2
  unfold zcM
  rw [hf,if_neg (by rw [h]; decide),if_neg (by rw [h2]; decide)]
 clear hf hfe
 generalize decide (Form.mk w le fn fs = zdu) = hz at hF hT hW ⊢
 generalize h1 : (n != 0) = a1 at hF hT hW ⊢
 generalize h2 : (s == ([] : List UInt8)) = a2 at hF hT hW ⊢
 generalize h3 : decide (n < le) = a3 at hF hT hW ⊢
 generalize h4 : decide (n > 4294967296) = a4 at hF hT hW ⊢
 cases hz
 case true =>
  simp only [h1,h2,h3,h4,Store.set_same,Store.set_ne _ _ h13,ze5,ze4,ssS,zeQ,zeO,reduceIte,zeP]
  exact zaV false (hF rfl) rfl (hS _ _)
 case false =>
  cases fn
  case true =>
   cases fs
   case true =>
    cases a3
    case true =>
     simp only [h1,h2,h3,h4,Store.set_same,Store.set_ne _ _ h13,ze5,ze4,ssS,zeQ,zeO,reduceIte,zeP]
     exact zaV false (hF rfl) rfl (hS _ _)
    case false =>
     cases a4
     case true =>
      simp only [h1,h2,h3,h4,Store.set_same,Store.set_ne _ _ h13,ze5,ze4,ssS,zeQ,zeO,reduceIte,zeP]
      exact zaV false (hF rfl) rfl (hS _ _)
     case false =>
      cases a2
      case true =>
       simp only [h1,h2,h3,h4,Store.set_same,Store.set_ne _ _ h13,ze5,ze4,ssS,zeQ,zeO,reduceIte,zeP]
       exact zaV true (hT rfl rfl) rfl (hS _ _)
      case false =>
       simp only [h1,h2,h3,h4,Store.set_same,Store.set_ne _ _ h13,ze5,ze4,ssS,zeQ,zeO,reduceIte,zeP]
       refine zak (written_ok E s) ?_
       simp only [ssS,zeQ,zeO,reduceIte,zeP]
       exact zaV (zc2 s) (hW rfl rfl) rfl (hS _ _)
   case false =>
    cases a2
    case true =>
     cases a3
     case true =>
      simp only [h1,h2,h3,h4,Store.set_same,Store.set_ne _ _ h13,ze5,ze4,ssS,zeQ,zeO,reduceIte,zeP]
      exact zaV false (hF rfl) rfl (hS _ _)
     case false =>
      cases a4
      case true =>
       simp only [h1,h2,h3,h4,Store.set_same,Store.set_ne _ _ h13,ze5,ze4,ssS,zeQ,zeO,reduceIte,zeP]
       exact zaV false (hF rfl) rfl (hS _ _)
      case false =>
       simp only [h1,h2,h3,h4,Store.set_same,Store.set_ne _ _ h13,ze5,ze4,ssS,zeQ,zeO,reduceIte,zeP]
       exact zaV true (hT rfl rfl) rfl (hS _ _)
    case false =>
     simp only [h1,h2,h3,h4,Store.set_same,Store.set_ne _ _ h13,ze5,ze4,ssS,zeQ,zeO,reduceIte,zeP]
     exact zaV false (hF rfl) rfl (hS _ _)
  case false =>
   cases a1
   case true =>
    simp only [h1,h2,h3,h4,Store.set_same,Store.set_ne _ _ h13,ze5,ze4,ssS,zeQ,zeO,reduceIte,zeP]
    exact zaV false (hF rfl) rfl (hS _ _)
   case false =>
    cases fs
    case true =>
     cases a3
     case true =>
      simp only [h1,h2,h3,h4,Store.set_same,Store.set_ne _ _ h13,ze5,ze4,ssS,zeQ,zeO,reduceIte,zeP]
      exact zaV false (hF rfl) rfl (hS _ _)
     case false =>
      cases a4
      case true =>
       simp only [h1,h2,h3,h4,Store.set_same,Store.set_ne _ _ h13,ze5,ze4,ssS,zeQ,zeO,reduceIte,zeP]
       exact zaV false (hF rfl) rfl (hS _ _)
      case false =>
       simp only [h1,h2,h3,h4,Store.set_same,Store.set_ne _ _ h13,ze5,ze4,ssS,zeQ,zeO,reduceIte,zeP]
       refine zak (written_ok E s) ?_
       simp only [ssS,zeQ,zeO,reduceIte,zeP]
       exact zaV (zc2 s) (hW rfl rfl) rfl (hS _ _)
    case false =>
     cases a2
     case true =>
      cases a3
      case true =>
       simp only [h1,h2,h3,h4,Store.set_same,Store.set_ne _ _ h13,ze5,ze4,ssS,zeQ,zeO,reduceIte,zeP]
       exact zaV false (hF rfl) rfl (hS _ _)
      case false =>
       cases a4
       case true =>
        simp only [h1,h2,h3,h4,Store.set_same,Store.set_ne _ _ h13,ze5,ze4,ssS,zeQ,zeO,reduceIte,zeP]
        exact zaV false (hF rfl) rfl (hS _ _)
       case false =>
        simp only [h1,h2,h3,h4,Store.set_same,Store.set_ne _ _ h13,ze5,ze4,ssS,zeQ,zeO,reduceIte,zeP]
        exact zaV true (hT rfl rfl) rfl (hS _ _)
     case false =>
      simp only [h1,h2,h3,h4,Store.set_same,Store.set_ne _ _ h13,ze5,ze4,ssS,zeQ,zeO,reduceIte,zeP]
      exact zaV false (hF rfl) rfl (hS _ _)
theorem cCheck_ok (E : Env Γ) (k n : Int) (s : List UInt8) : zab Tryz.prog Γ 100 [cmdV k n s] m fun o m' => o = .ret (it (if zcM k n s then 0 else 2)) ∧ m' = m := by
 refine zab.less (A := fun o m' => o = .ret (it (if zcM k n s then 0 else 2)) ∧ SubS m m') ?_ fun o m' h => ⟨m,h.2,h.1,rfl⟩
 refine zae mixed F100_ok (by rintro v m b x _ ⟨⟨⟩,_⟩) ?_
 simp only [F100,cmdV,ss0,zeW,zeQ]
 simp only [ssS,zeQ,zeO,reduceIte,zeP]
 refine zaq fun b1 hb1 => ?_
 simp only [Store.set_same,ssS,zeQ,zeO,reduceIte,zeP]
 refine zak (right_ok E k n s) ?_
 cases zcM k n s
 ·simp only [ze4,ssS,zeQ,zeO,reduceIte,zeP]
  exact zai zah ⟨rfl,(SubS.refl m).out hb1 _⟩
 ·simp only [ze5,ssS,zeQ,zeO,reduceIte,zeP]
  exact zai zah ⟨rfl,(SubS.refl m).out hb1 _⟩
end
end Go.Av.Fn
/-
 DERIVED: THE SHELF's CONTRACTS AT THIS DUMP,IN PLAIN WORDS (tools/lay-plain.mjs out of 'TryzShelf.lean',which tools/lay-shelf.mjs wrote): THE SAME DECLARATIONS UNDER THE SAME NAMES: 'import','namespace','open','def','theorem' AND NOTHING ELSE: no command of the shelf's: FOR A HAND-IN. Each laying: the table of numbers ('.._ren') and one theorem,a field a fact of the dump's own or the kernel's comparison; each contract: ONE APPLICATION.
-/
namespace Go.Proofs
open Go.Shelf
def Tryz.lays169_ren : Go.Shelf.Ren := ⟨fun | 169 => 274 | n => n,fun | 70 => 367 | 9 => 9 | 0 => 0 | 72 => 369 | 37 => 22 | 127 => 230 | 3 => 3 | 5 => 5 | n => n,fun | n => n⟩
theorem Tryz.lays169 : Go.Proofs.Lays.n169 Tryz.prog Tryz.lays169_ren := {
 mixed := by kernel_rfl
 f169 := Tryz.func274.trans (congrArg some (by kernel_rfl))
 t0 := Tryz.underlying0
 a0 := Tryz.isAgg0
 z0 := Tryz.sizeOf0
 v0 := Tryz.zeroValue0
 t3 := Tryz.underlying3
 a3 := Tryz.isAgg3
 z3 := Tryz.sizeOf3
 v3 := Tryz.zeroValue3
 t9 := Tryz.underlying9
 a9 := Tryz.isAgg9
 z9 := Tryz.sizeOf9
 v9 := Tryz.zeroValue9
 t37 := Tryz.underlying22
 a37 := Tryz.isAgg22
 z37 := Tryz.sizeOf22
 v37 := Tryz.zeroValue22
 t70 := Tryz.underlying367
 a70 := Tryz.isAgg367
 z70 := Tryz.sizeOf367
 v70 := Tryz.zeroValue367
 t72 := Tryz.underlying369
 a72 := Tryz.isAgg369
 z72 := Tryz.sizeOf369
 v72 := Tryz.zeroValue369
 t127 := Tryz.underlying230
 a127 := Tryz.isAgg230
 z127 := Tryz.sizeOf230
 v127 := Tryz.zeroValue230 }
theorem Tryz.Builder_Extra_169 : Builder.Extra Tryz.prog Tryz.lays169_ren := {
 sizeBuilder := by kernel_rfl
 liesBuilder := by kernel_rfl
 t5 := Tryz.underlying5
 a5 := Tryz.isAgg5
 z5 := Tryz.sizeOf5
 v5 := Tryz.zeroValue5
 infoByte := by kernel_rfl
 cellsByte := by kernel_rfl
 sizeByte := by kernel_rfl
 neB5 := by decide }
def Tryz.lays137_ren : Go.Shelf.Ren := ⟨fun | 137 => 275 | 217 => 283 | 266 => 288 | n => n,fun | 9 => 9 | 5 => 5 | 3 => 3 | n => n,fun | n => n⟩
theorem Tryz.lays137 : Go.Proofs.Lays.n137 Tryz.prog Tryz.lays137_ren := {
 mixed := by kernel_rfl
 f137 := Tryz.func275.trans (congrArg some (by kernel_rfl))
 f217 := Tryz.func283.trans (congrArg some (by kernel_rfl))
 f266 := Tryz.func288.trans (congrArg some (by kernel_rfl))
 t3 := Tryz.underlying3
 a3 := Tryz.isAgg3
 z3 := Tryz.sizeOf3
 v3 := Tryz.zeroValue3
 t5 := Tryz.underlying5
 a5 := Tryz.isAgg5
 z5 := Tryz.sizeOf5
 v5 := Tryz.zeroValue5
 t9 := Tryz.underlying9
 a9 := Tryz.isAgg9
 z9 := Tryz.sizeOf9
 v9 := Tryz.zeroValue9 }
open Go.RowKit in
theorem Tryz.strings_IndexByte (s : ByteArray) (c : Int) (w : World) :
  Calls Tryz.prog 275 #[.string s,.int .u8 c] w fun e w' => e = .returned (.int .i64 (Lib.indexByte s.data.toList c.toNat.toUInt8)) ∧ w' = w := Any.strings_IndexByte Tryz.lays137 s c w
def Tryz.laysM316_ren : Go.Shelf.Ren := ⟨fun | 316 => 163 | n => n,fun | 9 => 9 | 3 => 3 | 4 => 4 | 37 => 22 | 0 => 0 | 127 => 230 | 5 => 5 | n => n,fun | n => n⟩
theorem Tryz.laysM316 : Go.Proofs.LaysM.n316 Tryz.prog Tryz.laysM316_ren := {
 mixed := by kernel_rfl
 f316 := Tryz.func163.trans (congrArg some (by kernel_rfl))
 t0 := Tryz.underlying0
 a0 := Tryz.isAgg0
 z0 := Tryz.sizeOf0
 v0 := Tryz.zeroValue0
 t3 := Tryz.underlying3
 a3 := Tryz.isAgg3
 z3 := Tryz.sizeOf3
 v3 := Tryz.zeroValue3
 t4 := Tryz.underlying4
 a4 := Tryz.isAgg4
 z4 := Tryz.sizeOf4
 v4 := Tryz.zeroValue4
 t9 := Tryz.underlying9
 a9 := Tryz.isAgg9
 z9 := Tryz.sizeOf9
 v9 := Tryz.zeroValue9
 t37 := Tryz.underlying22
 a37 := Tryz.isAgg22
 z37 := Tryz.sizeOf22
 v37 := Tryz.zeroValue22
 t127 := Tryz.underlying230
 a127 := Tryz.isAgg230
 z127 := Tryz.sizeOf230
 v127 := Tryz.zeroValue230
 t5 := Tryz.underlying5
 a5 := Tryz.isAgg5
 z5 := Tryz.sizeOf5
 v5 := Tryz.zeroValue5
 i0 := by kernel_rfl
 i3 := by kernel_rfl
 i4 := by kernel_rfl
 i5 := by kernel_rfl
 i9 := by kernel_rfl
 i37 := by kernel_rfl
 i127 := by kernel_rfl }
open Go.RowKit in
theorem Tryz.stringslite_Clone (s : ByteArray) (w : World) (hlim : s.size ≤ 281474976710656) :
  Calls Tryz.prog 163 #[.string s] w fun e w' => e = .returned (.string s) ∧ Below w.heap.size w w' := Any.stringslite_Clone Tryz.laysM316 s w hlim
def Tryz.laysC174_ren : Go.Shelf.Ren := ⟨fun | 174 => 263 | 247 => 272 | 245 => 273 | 287 => 278 | 279 => 279 | 280 => 280 | 281 => 281 | 282 => 282 | 321 => 285 | 322 => 286 | 316 => 163 | 171 => 156 | 205 => 287 | 243 => 169 | 246 => 180 | 283 => 191 | 284 => 192 | 285 => 193 | 286 => 194 | 129 => 213 | 317 => 212 | 318 => 214 | 319 => 215 | 320 => 216 | 337 => 233 | 338 => 234 | n => n,fun | 9 => 9 | 3 => 3 | 2 => 2 | 75 => 266 | 85 => 361 | 4 => 4 | 167 => 372 | 5 => 5 | 53 => 150 | 175 => 373 | 46 => 60 | 168 => 375 | 37 => 22 | 0 => 0 | 210 => 380 | 21 => 21 | 127 => 230 | 145 => 385 | 143 => 383 | 171 => 256 | 173 => 258 | 212 => 278 | 51 => 140 | 20 => 20 | 213 => 279 | 232 => 348 | 233 => 349 | 80 => 275 | n => n,fun | 15 => 6 | 16 => 7 | 17 => 2 | 18 => 4 | 19 => 5 | n => n⟩
theorem Tryz.laysC174 : Go.Proofs.LaysC.n174 Tryz.prog Tryz.laysC174_ren := {
 mixed := by kernel_rfl
 f129 := Tryz.func213.trans (congrArg some (by kernel_rfl))
 f171 := Tryz.func156.trans (congrArg some (by kernel_rfl))
 f174 := Tryz.func263.trans (congrArg some (by kernel_rfl))
 f205 := Tryz.func287.trans (congrArg some (by kernel_rfl))
 f243 := Tryz.func169.trans (congrArg some (by kernel_rfl))
 f245 := Tryz.func273.trans (congrArg some (by kernel_rfl))
 f246 := Tryz.func180.trans (congrArg some (by kernel_rfl))
 f247 := Tryz.func272.trans (congrArg some (by kernel_rfl))
 f279 := Tryz.func279.trans (congrArg some (by kernel_rfl))
 f280 := Tryz.func280.trans (congrArg some (by kernel_rfl))
 f281 := Tryz.func281.trans (congrArg some (by kernel_rfl))
 f282 := Tryz.func282.trans (congrArg some (by kernel_rfl))
 f283 := Tryz.func191.trans (congrArg some (by kernel_rfl))
 f284 := Tryz.func192.trans (congrArg some (by kernel_rfl))
 f285 := Tryz.func193.trans (congrArg some (by kernel_rfl))
 f286 := Tryz.func194.trans (congrArg some (by kernel_rfl))
 f287 := Tryz.func278.trans (congrArg some (by kernel_rfl))
 f316 := Tryz.func163.trans (congrArg some (by kernel_rfl))
 f317 := Tryz.func212.trans (congrArg some (by kernel_rfl))
 f318 := Tryz.func214.trans (congrArg some (by kernel_rfl))
 f319 := Tryz.func215.trans (congrArg some (by kernel_rfl))
 f320 := Tryz.func216.trans (congrArg some (by kernel_rfl))
 f321 := Tryz.func285.trans (congrArg some (by kernel_rfl))
 f322 := Tryz.func286.trans (congrArg some (by kernel_rfl))
 f337 := Tryz.func233.trans (congrArg some (by kernel_rfl))
 f338 := Tryz.func234.trans (congrArg some (by kernel_rfl))
 t0 := Tryz.underlying0
 a0 := Tryz.isAgg0
 z0 := Tryz.sizeOf0
 v0 := Tryz.zeroValue0
 t2 := Tryz.underlying2
 a2 := Tryz.isAgg2
 z2 := Tryz.sizeOf2
 v2 := Tryz.zeroValue2
 t3 := Tryz.underlying3
 a3 := Tryz.isAgg3
 z3 := Tryz.sizeOf3
 v3 := Tryz.zeroValue3
 t4 := Tryz.underlying4
 a4 := Tryz.isAgg4
 z4 := Tryz.sizeOf4
 v4 := Tryz.zeroValue4
 t5 := Tryz.underlying5
 a5 := Tryz.isAgg5
 z5 := Tryz.sizeOf5
 v5 := Tryz.zeroValue5
 t9 := Tryz.underlying9
 a9 := Tryz.isAgg9
 z9 := Tryz.sizeOf9
 v9 := Tryz.zeroValue9
 t20 := Tryz.underlying20
 a20 := Tryz.isAgg20
 z20 := Tryz.sizeOf20
 v20 := Tryz.zeroValue20
 t21 := Tryz.underlying21
 a21 := Tryz.isAgg21
 z21 := Tryz.sizeOf21
 v21 := Tryz.zeroValue21
 t37 := Tryz.underlying22
 a37 := Tryz.isAgg22
 z37 := Tryz.sizeOf22
 v37 := Tryz.zeroValue22
 t46 := Tryz.underlying60
 a46 := Tryz.isAgg60
 z46 := Tryz.sizeOf60
 v46 := Tryz.zeroValue60
 t51 := Tryz.underlying140
 a51 := Tryz.isAgg140
 z51 := Tryz.sizeOf140
 v51 := Tryz.zeroValue140
 t53 := Tryz.underlying150
 a53 := Tryz.isAgg150
 z53 := Tryz.sizeOf150
 v53 := Tryz.zeroValue150
 t75 := Tryz.underlying266
 a75 := Tryz.isAgg266
 z75 := Tryz.sizeOf266
 v75 := Tryz.zeroValue266
 t85 := Tryz.underlying361
 a85 := Tryz.isAgg361
 z85 := Tryz.sizeOf361
 v85 := Tryz.zeroValue361
 t127 := Tryz.underlying230
 a127 := Tryz.isAgg230
 z127 := Tryz.sizeOf230
 v127 := Tryz.zeroValue230
 t143 := Tryz.underlying383
 a143 := Tryz.isAgg383
 z143 := Tryz.sizeOf383
 v143 := Tryz.zeroValue383
 t145 := Tryz.underlying385
 a145 := Tryz.isAgg385
 z145 := Tryz.sizeOf385
 v145 := Tryz.zeroValue385
 t167 := Tryz.underlying372
 a167 := Tryz.isAgg372
 z167 := Tryz.sizeOf372
 v167 := Tryz.zeroValue372
 t168 := Tryz.underlying375
 a168 := Tryz.isAgg375
 z168 := Tryz.sizeOf375
 v168 := Tryz.zeroValue375
 t171 := Tryz.underlying256
 a171 := Tryz.isAgg256
 z171 := Tryz.sizeOf256
 v171 := Tryz.zeroValue256
 t173 := Tryz.underlying258
 a173 := Tryz.isAgg258
 z173 := Tryz.sizeOf258
 v173 := Tryz.zeroValue258
 t175 := Tryz.underlying373
 a175 := Tryz.isAgg373
 z175 := Tryz.sizeOf373
 v175 := Tryz.zeroValue373
 t210 := Tryz.underlying380
 a210 := Tryz.isAgg380
 z210 := Tryz.sizeOf380
 v210 := Tryz.zeroValue380
 t212 := Tryz.underlying278
 a212 := Tryz.isAgg278
 z212 := Tryz.sizeOf278
 v212 := Tryz.zeroValue278
 t213 := Tryz.underlying279
 a213 := Tryz.isAgg279
 z213 := Tryz.sizeOf279
 t232 := Tryz.underlying348
 a232 := Tryz.isAgg348
 z232 := Tryz.sizeOf348
 v232 := Tryz.zeroValue348
 t233 := Tryz.underlying349
 a233 := Tryz.isAgg349
 z233 := Tryz.sizeOf349
 v233 := Tryz.zeroValue349
 g15 := by kernel_rfl
 g16 := by kernel_rfl
 g17 := by kernel_rfl
 g18 := by kernel_rfl
 g19 := by kernel_rfl
 t80 := Tryz.underlying275
 a80 := Tryz.isAgg275
 z80 := Tryz.sizeOf275
 v80 := Tryz.zeroValue275
 i0 := by kernel_rfl
 i2 := by kernel_rfl
 i3 := by kernel_rfl
 i4 := by kernel_rfl
 i5 := by kernel_rfl
 i9 := by kernel_rfl
 i20 := by kernel_rfl
 i21 := by kernel_rfl
 i37 := by kernel_rfl
 i46 := by kernel_rfl
 i51 := by kernel_rfl
 i53 := by kernel_rfl
 i75 := by kernel_rfl
 i80 := by kernel_rfl
 i85 := by kernel_rfl
 i127 := by kernel_rfl
 i143 := by kernel_rfl
 i145 := by kernel_rfl
 i167 := by kernel_rfl
 i168 := by kernel_rfl
 i171 := by kernel_rfl
 i173 := by kernel_rfl
 i175 := by kernel_rfl
 i210 := by kernel_rfl
 i212 := by kernel_rfl
 i232 := by kernel_rfl
 i233 := by kernel_rfl
 m15 := by kernel_rfl
 m16 := by kernel_rfl
 m17 := by kernel_rfl
 m18 := by kernel_rfl
 m19 := by kernel_rfl
 c0 := by kernel_rfl
 c2 := by kernel_rfl
 c3 := by kernel_rfl
 c4 := by kernel_rfl
 c5 := by kernel_rfl
 c9 := by kernel_rfl
 c20 := by kernel_rfl
 c21 := by kernel_rfl
 c37 := by kernel_rfl
 c46 := by kernel_rfl
 c51 := by kernel_rfl
 c53 := by kernel_rfl
 c75 := by kernel_rfl
 c80 := by kernel_rfl
 c85 := by kernel_rfl
 c127 := by kernel_rfl
 c143 := by kernel_rfl
 c145 := by kernel_rfl
 c167 := by kernel_rfl
 c168 := by kernel_rfl
 c171 := by kernel_rfl
 c173 := by kernel_rfl
 c175 := by kernel_rfl
 c210 := by kernel_rfl
 c212 := by kernel_rfl
 c213 := by kernel_rfl
 c232 := by kernel_rfl
 c233 := by kernel_rfl }
open Go.RowKit in
theorem Tryz.strconv_ParseInt_10_at64_ok (s : ByteArray) (hmax : s.size ≤ 9223372036854775806) (v : Int) (h : Lib.parseIntB 64 s.data.toList = .ok v) (w : World) :
  Calls Tryz.prog 263 #[.string s,.int .i64 10,.int .i64 64] w fun e w' => e = .returned (.tuple #[.int .i64 v,.nilIface]) ∧ (w' = w ∨ ∃ t,w' = Lib.bytesWorld w 5 t) := Any.strconv_ParseInt_10_at64_ok Tryz.laysC174 s hmax v h w
open Go.RowKit in
theorem Tryz.strconv_ParseInt_10_at64_range (s : ByteArray) (hlim : s.size ≤ 281474976710656) (h : Lib.parseIntB 64 s.data.toList = .range) (ev : Value) (w : World) (hv : w.cell? ⟨7,0,none⟩ = some ev) (hev : ev = .nilIface ∨ ∃ te pe,ev = .iface te pe) :
  Calls Tryz.prog 263 #[.string s,.int .i64 10,.int .i64 64] w fun e w' => ∃ N,e = .returned (.tuple #[.int .i64 (Lib.intSat 64 s.data.toList),.iface 375 (.pointer (some ⟨N,0,none⟩))]) ∧ w.heap.size ≤ N ∧ w'.heap[N]? = some (.cells #[.string ⟨#[80,97,114,115,101,73,110,116]⟩,.string s,ev] 380 (0,0)) ∧ Below w.heap.size w w' := Any.strconv_ParseInt_10_at64_range Tryz.laysC174 s hlim h ev w hv hev
def Tryz.lays240_ren : Go.Shelf.Ren := ⟨fun | 240 => 284 | 276 => 289 | n => n,fun | 0 => 0 | 4 => 4 | 9 => 9 | 20 => 20 | 37 => 22 | 70 => 367 | 72 => 369 | 164 => 301 | n => n,fun n => n⟩
theorem Tryz.lays240 : Go.Proofs.Lays.n240 Tryz.prog Tryz.lays240_ren := {
 mixed := by kernel_rfl
 f240 := Tryz.func284.trans (congrArg some (by kernel_rfl))
 f276 := Tryz.func289.trans (congrArg some (by kernel_rfl))
 t0 := Tryz.underlying0
 a0 := Tryz.isAgg0
 z0 := Tryz.sizeOf0
 v0 := Tryz.zeroValue0
 t4 := Tryz.underlying4
 a4 := Tryz.isAgg4
 z4 := Tryz.sizeOf4
 v4 := Tryz.zeroValue4
 t9 := Tryz.underlying9
 a9 := Tryz.isAgg9
 z9 := Tryz.sizeOf9
 v9 := Tryz.zeroValue9
 t20 := Tryz.underlying20
 a20 := Tryz.isAgg20
 z20 := Tryz.sizeOf20
 v20 := Tryz.zeroValue20
 t70 := Tryz.underlying367
 a70 := Tryz.isAgg367
 z70 := Tryz.sizeOf367
 v70 := Tryz.zeroValue367
 t72 := Tryz.underlying369
 a72 := Tryz.isAgg369
 z72 := Tryz.sizeOf369
 v72 := Tryz.zeroValue369
 t164 := Tryz.underlying301
 a164 := Tryz.isAgg301
 z164 := Tryz.sizeOf301
 v164 := Tryz.zeroValue301
}
theorem Tryz.Builder_X72_240 : Builder.X72 Tryz.prog Tryz.lays240_ren := {
 sizeBuilder := by kernel_rfl
 liesBuilder := by kernel_rfl
}
end Go.Proofs
/- The library's functions, told over abstract values. No condition. -/
namespace Go.Proofs
open Go.Shelf Go.RowKit
variable {P : Program} {ρ : Ren}
theorem liesAt_off {e : TypeId} (hc : P.cellsOf e = 1) (count off n : Nat) (hn : off + n ≤ count) : liesAt P P.depth e count off e n = true := by
 have hd : P.depth = (2 * (P.types.size + Made.depth) + 1) + 1 := rfl
 rw [hd]
 simp only [liesAt,zfA]
 left
 rw [hd]
 simp [rowAt,hc,hn,sameLayout,Nat.mod_one]
theorem unsafeString_at (w : World) (pt it ty e : TypeId) (hp : P.underlying pt = some (.pointer e)) (hc : P.cellsOf e = 1) (a : Addr) (cells : Nat) (hsh : w.shape? a.block = some (e,cells)) (l : List UInt8) (h0 : l ≠ []) (hn : a.off + l.length ≤ cells) (h63 : l.length ≤ 9223372036854775807)
  (hcell : ∀ j x,l[j]? = some x → w.cell? (a.add j) = some (.int .u8 x.toNat)) :
  (Builtin.unsafeString_ #[pt,it] ty #[.pointer (some a),.int .i64 l.length]).run P w = .ok (.string ⟨l.toArray⟩) (w.freeze a l.length) := by
 have hl : l.length ≠ 0 := by simpa using h0
 have hlb := Lib.run_loadBytes (P := P) w l a .empty hcell
 have hlies := liesAt_off (P := P) hc (cells / P.cellsOf e) a.off l.length (by rw [hc]; simpa using hn)
 have h63' : ¬ (9223372036854775807 : Int) < (l.length : Int) := by omega
 have hdef : Builtin.unsafeString_ #[pt,it] ty #[.pointer (some a),.int .i64 l.length] =
   (do
    let n ← asInt (.int .i64 l.length)
    if n < 0 then runtimePanic (.error "unsafe.String: len out of range")
    if n > IntKind.i64.max then unsupported (.unsafePointer "String: a length above the largest int")
    if n = 0 then pure (.string .empty)
    else if ← variablesAt a (← elemOf pt) n.toNat then do
     let s ← loadBytes a .empty n.toNat
     freeze a n.toNat
     pure (.string s)
    else unsupported (.unsafePointer "String: not so many bytes at ptr")) := rfl
 rw [hdef]
 have hmax : IntKind.i64.max = 9223372036854775807 := rfl
 have hneg : ¬ (l.length : Int) < 0 := by omega
 simp [asInt,asIntOf,hmax,h63',hneg,hl,variablesAt,hsh,elemOf,run_underlying hp,hlies,hlb]
set_option maxHeartbeats 1000000 in
set_option maxRecDepth 100000 in
theorem builderString_at (L : Lays.n169 P ρ) (X : Builder.Extra P ρ) (b : Nat) (p : Value) (a : Addr) (cap n : Nat) (l : List UInt8) (w : World) (hbk : w.heap[b]? = some (.cells #[p,.slice (some a) l.length cap] (ρ.t 72) (0,0))) (h0 : l ≠ []) (hcap : l.length ≤ cap) (h63 : l.length ≤ 9223372036854775807)
  (hsh : w.shape? a.block = some (ρ.t 5,n)) (hn : a.off + l.length ≤ n) (hcell : ∀ j x,l[j]? = some x → w.cell? (a.add j) = some (.int .u8 x.toNat)) :
  Calls P (ρ.f 169) #[.pointer (some ⟨b,0,none⟩)] w fun e w' => e = .returned (.string ⟨l.toArray⟩) ∧ w' = w.drew.freeze a l.length := by
 have hl0 : l.length ≠ 0 := by simpa using h0
 have c1 : w.drew.cell? ⟨b,1,none⟩ = some (.slice (some a) l.length cap) := by
  have : w.drew.heap[b]? = some (.cells #[p,.slice (some a) l.length cap] (ρ.t 72) (0,0)) := hbk
  rw [Lib.cell_of_heap this]; rfl
 have hSD : (Builtin.unsafeSliceData_ #[(ρ.t 37)] (ρ.t 127) #[.slice (some a) l.length cap]).run P w.drew = .ok (.pointer (some a)) w.drew :=
  Lib.run_unsafeSliceData_row _ _ _ _ _ _ (by omega)
 have hUS : (Builtin.unsafeString_ #[(ρ.t 127),(ρ.t 3)] (ρ.t 9) #[.pointer (some a),.int .i64 l.length]).run P w.drew = .ok (.string ⟨l.toArray⟩) (w.drew.freeze a l.length) :=
  unsafeString_at w.drew (ρ.t 127) (ρ.t 3) (ρ.t 9) (ρ.t 5) L.t127 X.cellsByte a n hsh l h0 hn h63 hcell
 have mixed := L.mixed
 have t72 := L.t72; have a72 := L.a72; have z72 := L.z72; have v72 := L.v72; have u72 := run_underlying L.t72
 have t70 := L.t70; have a70 := L.a70; have z70 := L.z70; have v70 := L.v70; have u70 := run_underlying L.t70
 have t37 := L.t37; have a37 := L.a37; have z37 := L.z37; have v37 := L.v37; have u37 := run_underlying L.t37
 have t127 := L.t127; have a127 := L.a127; have z127 := L.z127; have v127 := L.v127; have u127 := run_underlying L.t127
 have t3 := L.t3; have a3 := L.a3; have z3 := L.z3; have v3 := L.v3; have u3 := run_underlying L.t3
 have t9 := L.t9; have a9 := L.a9; have z9 := L.z9; have v9 := L.v9; have u9 := run_underlying L.t9
 have t5 := X.t5; have a5 := X.a5; have z5 := X.z5; have v5 := X.v5; have u5 := run_underlying X.t5
 go_enter L.f169,Body.n169_ntmps ρ
 go_wp2
 go_region_o
 all_goals (go_wp2; go_ret; exact ⟨rfl,rfl⟩)
end Go.Proofs
/- The library's functions hold what is asked of them. No condition but the variable that ParseInt looks at. -/
namespace Go.Av
open Go.RowKit
section
variable {P : Program} {Γ : Glob} {B0 : Nat} {G : Gh} {m : Store} {w : World}
theorem zbe {a : Addr} {n b : Nat} (h : b ≠ a.block) : (w.freeze a n).heap[b]? = w.heap[b]? := by
 unfold World.freeze
 split
 ·rfl
 ·simp only [zfI]
  rw [if_neg (fun e => h e.symm)]
theorem cell_freeze {a c : Addr} {n : Nat} : (w.freeze a n).cell? c = w.cell? c := by
 by_cases h : c.block = a.block
 ·unfold World.freeze
  split
  ·rfl
  ·simp only [World.cell?,zfI,h,if_true]
   cases hb : w.heap[a.block]? with
   | none => rfl
   | some o => cases o <;> rfl
 ·exact World.cell?_of_block (zbe h)
theorem zex {a : Addr} {n : Nat} : (w.freeze a n).heap.size = w.heap.size := by
 unfold World.freeze
 split
 ·rfl
 ·simp
theorem Rep.freeze (h : Rep Γ B0 G m w) {t : Nat} {T : TypeId} {k : Nat} (ht : m t = some (.tip T k)) {a : Addr} {E C n : Nat} (hH : G.H t k = some (a.block,E,C)) : Rep Γ B0 G (fun c => if c = t then none else m c) (w.freeze a n) := by
 obtain ⟨_,B,E',C',q1,q2,q3,q4,⟨cs0,fz0,q5⟩,_⟩ := h.tip t T k ht
 rw [hH] at q1
 simp only [Option.some.injEq,Prod.mk.injEq] at q1
 obtain ⟨rfl,rfl,rfl⟩ := q1
 have sub : ∀ b x,(if b = t then none else m b) = some x → b ≠ t ∧ m b = some x := by
  intro b x hb
  by_cases e : b = t
  ·simp [e] at hb
  ·exact ⟨e,by simpa [e] using hb⟩
 exact {
  K := fun b o u hu => by rw [cell_freeze]; exact h.K b o u hu
  base := by rw [zex]; exact h.base
  hist := fun t' v x hx => by rw [zex]; exact ⟨(h.hist t' v x hx).1,fun T' v' hv => (h.hist t' v x hx).2 T' v' (sub _ _ hv).2⟩
  var := fun b T' cs hb => by
   obtain ⟨h1,⟨us,h2,h3⟩,h4⟩ := h.var b T' cs (sub _ _ hb).2
   have hne : b ≠ a.block := by rintro rfl; exact q4 _ _ (sub _ _ hb).2
   exact ⟨h1,⟨us,by rw [zbe hne]; exact h2,h3⟩,h4⟩
  tip := fun t' T' v ht' => by
   rw [zex]
   obtain ⟨hne,ht''⟩ := sub _ _ ht'
   obtain ⟨p1,B',E',C',p2,p3,p4,p5,⟨y1,y2,y3⟩,p6⟩ := h.tip t' T' v ht''
   have hB : B' ≠ a.block := by
    rintro rfl
    exact h.apart t' T' v t T k a.block E' C' E C ht'' ht hne p2 hH
   refine ⟨p1,B',E',C',p2,p3,p4,fun T2 cs hc => p5 T2 cs (sub _ _ hc).2,⟨y1,y2,by rw [zbe hB]; exact y3⟩,fun o h1 h2 => ?_⟩
   obtain ⟨f1,f2,f3⟩ := p6 o h1 h2
   exact ⟨by rw [cell_freeze]; exact f1,by rw [World.frozen?_of_block (w := w) (zbe hB)]; exact f2,f3⟩
  own := fun t' v B E C k => by rw [zex]; exact ⟨(h.own t' v B E C k).1,(h.own t' v B E C k).2.1,fun T cs hc => (h.own t' v B E C k).2.2 T cs (sub _ _ hc).2⟩
  apart := fun t1 T1 v1 t2 T2 v2 B E C E' C' k1 k2 => h.apart t1 T1 v1 t2 T2 v2 B E C E' C' (sub _ _ k1).2 (sub _ _ k2).2
  glob := h.glob
  gsz := fun g cs hg h20 => by
   obtain ⟨a1,us',T',fz,b',c'⟩ := h.gsz g cs hg h20
   exact ⟨a1,us',T',fz,by rw [zbe (by omega)]; exact b',c'⟩
  loop := fun b r f t' ps x y D hb => by
   obtain ⟨h1,us,h2,h3⟩ := h.loop b r f t' ps x y D (sub _ _ hb).2
   have hne : b ≠ a.block := by rintro rfl; rw [q5.1] at h2; cases h2
   exact ⟨h1,us,by rw [zbe hne]; exact h2,h3⟩
  defer := fun b hb => by
   obtain ⟨h1,h2⟩ := h.defer b (sub _ _ hb).2
   have hne : b ≠ a.block := by rintro rfl; rw [q5.1] at h2; cases h2
   exact ⟨h1,by rw [zbe hne]; exact h2⟩ }
theorem by8s_inv : ∀ {l : List UInt8} {us : List Value},RelL G (l.map by8) us → us = l.map fun b => Value.int .u8 b.toNat
 | [],us,h => h.nil_inv
 | b :: l,us,h => by
  obtain ⟨y,ys,rfl,r1,r2⟩ := h.cons_inv
  cases r1
  rw [by8s_inv r2]
  rfl
end
end Go.Av
namespace Go.Av.Fn
set_option linter.unusedSimpArgs false
set_option linter.unusedVariables false
set_option maxRecDepth 10000
open Go.Proofs Go.RowKit
theorem idxB_eq (s : List UInt8) (c : UInt8) : Lib.indexByte s c = idxB s c := by
 unfold idxB
 induction s with
 | nil => rfl
 | cons b s ih =>
  rw [List.findIdx?_cons,Lib.indexByte]
  by_cases h : (b == c) = true
  ·simp [h]
  ·simp only [h,zeX,if_false]
   rw [ih]
   cases List.findIdx? (· == c) s with
   | none => rfl
   | some i =>
    simp only [Option.map_some]
    have : ¬ ((i : Int) == -1) = true := by
     intro k
     have := eq_of_beq k
     omega
    rw [if_neg this]
    rfl
theorem parse_ge : ∀ (l : List UInt8) (acc u : Nat),Lib.parseUintM (2 ^ 64 - 1) acc l = .ok u → acc ≤ u
 | [],acc,u,h => by
  simp only [Lib.parseUintM,Lib.NumEnd.ok.injEq] at h
  omega
 | c :: r,acc,u,h => by
  simp only [Lib.parseUintM] at h
  split at h
  ·split at h
   ·cases h
   ·split at h
    ·cases h
    ·have := parse_ge r _ u h
     omega
  ·cases h
theorem parse_no : ∀ (l : List UInt8) (acc : Nat),(∀ c ∈ l,dig c = true) → (∃ u,Lib.parseUintM (2 ^ 64 - 1) acc l = .ok u) ∨ Lib.parseUintM (2 ^ 64 - 1) acc l = .range
 | [],acc,_ => .inl ⟨acc,rfl⟩
 | c :: r,acc,hd => by
  have hc := hd c (zfa ..)
  simp only [dig,ze1,decide_eq_true_eq] at hc
  have hc' : 48 ≤ c.toNat ∧ c.toNat ≤ 57 := hc
  simp only [Lib.parseUintM,if_pos hc']
  split
  ·exact .inr rfl
  ·split
   ·exact .inr rfl
   ·exact parse_no r _ (fun c hc => hd c (zfb _ hc))
theorem parse_num : ∀ (l : List UInt8) (acc : Nat),(∀ c ∈ l,dig c = true) → acc < 9223372036854775808 →
  (∃ u,Lib.parseUintM (2 ^ 64 - 1) acc l = .ok u ∧ numL acc l = if u < 9223372036854775808 then some u else none) ∨ (Lib.parseUintM (2 ^ 64 - 1) acc l = .range ∧ numL acc l = none)
 | [],acc,_,ha => .inl ⟨acc,rfl,by simp only [numL]; rw [if_pos ha]⟩
 | c :: r,acc,hd,ha => by
  have hc := hd c (zfa ..)
  simp only [dig,ze1,decide_eq_true_eq] at hc
  have hc' : 48 ≤ c.toNat ∧ c.toNat ≤ 57 := hc
  simp only [Lib.parseUintM,numL,if_pos hc']
  have key : (acc > (9223372036854775807 - (c.toNat - 48)) / 10) ↔ 9223372036854775807 < 10 * acc + (c.toNat - 48) := by omega
  have e10 : acc * 10 + (c.toNat - 48) = 10 * acc + (c.toNat - 48) := by omega
  rw [e10]
  by_cases h1 : 1844674407370955162 ≤ acc
  ·rw [if_pos h1,if_pos (key.2 (by omega))]
   exact .inr ⟨rfl,rfl⟩
  ·rw [if_neg h1]
   by_cases h2 : 2 ^ 64 - 1 < 10 * acc + (c.toNat - 48)
   ·rw [if_pos h2,if_pos (key.2 (by omega))]
    exact .inr ⟨rfl,rfl⟩
   ·rw [if_neg h2]
    by_cases h3 : 9223372036854775807 < 10 * acc + (c.toNat - 48)
    ·rw [if_pos (key.2 h3)]
     rcases parse_no r (10 * acc + (c.toNat - 48)) (fun c hc => hd c (zfb _ hc)) with ⟨u,hp⟩ | hp
     ·have := parse_ge r _ u hp
      exact .inl ⟨u,hp,by rw [if_neg (by omega)]⟩
     ·exact .inr ⟨hp,rfl⟩
    ·rw [if_neg (fun k => h3 (key.1 k))]
     exact parse_num r _ (fun c hc => hd c (zfb _ hc)) (by omega)
theorem parseB {s : List UInt8} (hne : s ≠ []) (hd : ∀ c ∈ s,dig c = true) : match numL 0 s with
  | some n => Lib.parseIntB 64 s = .ok (n : Int)
  | none => Lib.parseIntB 64 s = .range := by
 obtain ⟨c,r,rfl⟩ : ∃ c r,s = c :: r := by
  cases s with
  | nil => exact absurd rfl hne
  | cons c r => exact ⟨c,r,rfl⟩
 have hc := hd c (zfa ..)
 simp only [dig,ze1,decide_eq_true_eq] at hc
 have h1 : ¬ (c.toNat = 43 ∨ c.toNat = 45) := by omega
 have h2 : ¬ c.toNat = 45 := by omega
 have hU : Lib.parseUintB 64 (c :: r) = Lib.parseUintM (2 ^ 64 - 1) 0 (c :: r) := by
  unfold Lib.parseUintB
  rw [if_neg (List.cons_ne_nil c r)]
 have hok : ∀ u,Lib.parseUintM (2 ^ 64 - 1) 0 (c :: r) = .ok u → Lib.parseIntB 64 (c :: r) = if 9223372036854775808 ≤ u then .range else .ok (u : Int) := by
  intro u hu
  unfold Lib.parseIntB
  simp only
  rw [if_neg h1,hU,hu]
  simp [h2]
 have hra : Lib.parseUintM (2 ^ 64 - 1) 0 (c :: r) = .range → Lib.parseIntB 64 (c :: r) = .range := by
  intro hu
  unfold Lib.parseIntB
  simp only
  rw [if_neg h1,hU,hu]
 rcases parse_num (c :: r) 0 hd (by omega) with ⟨u,e1,e2⟩ | ⟨e1,e2⟩
 ·rw [e2]
  by_cases hu : u < 9223372036854775808
  ·rw [if_pos hu]
   simp only
   rw [hok u e1,if_neg (by omega)]
  ·rw [if_neg hu]
   simp only
   rw [hok u e1,if_pos (by omega)]
 ·rw [e2]
  exact hra e1
theorem clone41 {Γ : Glob} (m : Store) (s : List UInt8) (hs : s.length ≤ 281474976710656) : zab Tryz.prog Γ 163 [bs s] m fun o m' => o = .ret (bs s) ∧ m' = m :=
 zab.of_vals (xs := [.string ⟨s.toArray⟩]) (u := .string ⟨s.toArray⟩) (by kernel_rfl) rfl (fun w => Tryz.stringslite_Clone ⟨s.toArray⟩ w (by simpa [ByteArray.size] using hs))
theorem index38 {Γ : Glob} (m : Store) (s : List UInt8) (c : UInt8) : zab Tryz.prog Γ 275 [bs s,by8 c] m fun o m' => o = .ret (it (idxB s c)) ∧ m' = m :=
 zab.of_vals (xs := [.string ⟨s.toArray⟩,.int .u8 c.toNat]) (u := .int .i64 (idxB s c)) (by kernel_rfl) rfl (fun w => (Tryz.strings_IndexByte ⟨s.toArray⟩ c.toNat w).mono (by
  rintro e w' ⟨rfl,rfl⟩
  refine ⟨?_,Below.refl _ _⟩
  have e1 : (c.toNat : Int).toNat.toUInt8 = c := by simp
  rw [e1,← idxB_eq]))
theorem parse28 {Γ : Glob} {T : TypeId} {v : V} (hΓ : Γ 7 = some [.ifc T v]) : ParseOk Γ := by
 intro m s hne hs hd
 have hp := parseB hne hd
 refine ⟨by kernel_rfl,fun G B0 mF w cargs hD hR hL => ?_⟩
 obtain ⟨c1,r1,rfl,h1,hL⟩ := hL.cons_inv
 obtain ⟨c2,r2,rfl,h2,hL⟩ := hL.cons_inv
 obtain ⟨c3,r3,rfl,h3,hL⟩ := hL.cons_inv
 obtain rfl := hL.nil_inv
 cases h1
 cases h2
 cases h3
 have hsz : (⟨s.toArray⟩ : ByteArray).data.toList = s := by simp
 have hsz2 : (⟨s.toArray⟩ : ByteArray).size = s.length := by simp [ByteArray.size]
 cases hn : numL 0 s with
 | some n =>
  rw [hn] at hp
  refine (Tryz.strconv_ParseInt_10_at64_ok ⟨s.toArray⟩ (by omega) n (by rw [hsz]; exact hp) w).mono ?_
  rintro e w' ⟨rfl,hw⟩
  have hB : Below w.heap.size w w' := by
   rcases hw with rfl | ⟨t,rfl⟩
   ·exact Below.refl _ _
   ·exact Lib.bytesWorld_below w 5 t
  exact ⟨G,m,.ret (.tup [it n,.val .nilIface]),Gh.le.refl G,hD,hR.below hB,hB.mono hR.base,.ret (.tup (.cons (.val rfl) (.cons (.val rfl) .nil))),rfl,rfl⟩
 | none =>
  rw [hn] at hp
  obtain ⟨us,g1,g2⟩ := hR.glob 7 _ hΓ
  obtain ⟨u,ys,rfl,g3,g4⟩ := g1.cons_inv
  obtain rfl := g4.nil_inv
  have hcell := hR.K 7 0 u (g2.2 0 u rfl)
  cases g3 with
  | ifc g3 =>
   refine (Tryz.strconv_ParseInt_10_at64_range ⟨s.toArray⟩ (by omega) (by rw [hsz]; exact hp) _ w hcell (.inr ⟨_,_,rfl⟩)).mono ?_
   rintro e w' ⟨N,rfl,_,_,hB⟩
   exact ⟨G,m,.ret (.tup [it (Lib.intSat 64 (ByteArray.mk s.toArray).data.toList),.ifc 375 (.ptr N 0)]),Gh.le.refl G,hD,hR.below hB,hB.mono hR.base,.ret (.tup (.cons (.val rfl) (.cons (.ifc (.ptr _ _)) .nil))),⟨_,_,_,rfl⟩,rfl⟩
theorem copy48 {Γ : Glob} (m : Store) (b : Nat) (p u : V) (h : m b = some (.var 369 [p,u])) (hp : markOk b p) : zab Tryz.prog Γ 284 [.ptr b 0] m fun o m' => o = .ret (.tup []) ∧ m' = m.set b (.var 369 [.ptr b 0,u]) := by
 refine ⟨by kernel_rfl,fun G B0 mF w cargs hD hR hL => ?_⟩
 obtain ⟨c1,r1,rfl,h1,hL⟩ := hL.cons_inv
 obtain rfl := hL.nil_inv
 cases h1
 have hb := zbu (f := mF) h
 obtain ⟨hB0,⟨us,hw,hu⟩,hK⟩ := hR.var b 369 _ hb
 obtain ⟨x,us1,rfl,r1,hu⟩ := hu.cons_inv
 obtain ⟨y,us2,rfl,r2,hu⟩ := hu.cons_inv
 obtain rfl := hu.nil_inv
 rcases hp with rfl | rfl
 ·cases r1
  refine (Any.Builder_copyCheck_fresh Tryz.lays240 Tryz.Builder_X72_240 b w (by simp [World.cell?,hw]) (by simp [World.shape?,hw]; rfl) (by simp [World.frozen?,hw])).mono ?_
  rintro e w' ⟨rfl,rfl⟩
  have hst := hR.store hb (o := 0) (RelV.ptr (G := G) b 0)
  rw [← or_set] at hst
  exact ⟨G,_,.ret (.tup []),Gh.le.refl G,hD.set _ (hD.of_some h),hst,(Below.refl B0 w).setCell (p := ⟨b,0,none⟩) hB0 _,.ret (.tup .nil),rfl,rfl⟩
 ·cases r1
  refine (Any.Builder_copyCheck_used Tryz.lays240 Tryz.Builder_X72_240 b w (by simp [World.cell?,hw])).mono ?_
  rintro e w' ⟨rfl,rfl⟩
  exact ⟨G,m,.ret (.tup []),Gh.le.refl G,hD,hR,Below.refl _ _,.ret (.tup .nil),rfl,(Store.set_eq m h).symm⟩
theorem string37 {Γ : Glob} (m : Store) (b : Nat) (p u : V) (l : List UInt8) (h : m b = some (.var 369 [p,u])) (hl : l.length ≤ 4096) (hu : (l = [] ∧ u = .sl [] [] .full) ∨ (l ≠ [] ∧ ∃ t k,m t = some (.tip 5 k) ∧ u = .sl (l.map by8) [] (.tip t k))) :
  zab Tryz.prog Γ 274 [.ptr b 0] m fun o m' => o = .ret (bs l) ∧ ∀ c x,m c = some x → (∀ l2 k,u ≠ .sl l2 [] (.tip c k)) → m' c = some x := by
 refine ⟨by kernel_rfl,fun G B0 mF w cargs hD hR hL => ?_⟩
 obtain ⟨c1,r1,rfl,h1,hL⟩ := hL.cons_inv
 obtain rfl := hL.nil_inv
 cases h1
 have hb := zbu (f := mF) h
 obtain ⟨hB0,⟨us,hw,hus⟩,hK⟩ := hR.var b 369 _ hb
 obtain ⟨x,us1,rfl,r1,hus⟩ := hus.cons_inv
 obtain ⟨y,us2,rfl,r2,hus⟩ := hus.cons_inv
 obtain rfl := hus.nil_inv
 rcases hu with ⟨rfl,rfl⟩ | ⟨hne,t,k,ht,rfl⟩
 ·have hy : y = .slice none 0 0 := by
   cases r2 with
   | nil _ => rfl
   | sl q1 q2 q3 q4 q5 q6 => exact absurd rfl q6.2
  subst hy
  refine (Any.Builder_String_nil Tryz.lays169 Tryz.Builder_Extra_169 w.heap.size b x w hw).mono ?_
  rintro e w' ⟨rfl,hB⟩
  exact ⟨G,m,.ret (bs []),Gh.le.refl G,hD,hR.below hB,hB.mono hR.base,.ret (.val rfl),rfl,fun c x hc _ => hc⟩
 ·have hy : ∃ (a : Addr) (cap : Nat),y = .slice (some a) l.length cap ∧ l.length ≤ cap ∧ G.has a (l.map fun b => Value.int .u8 b.toNat) ∧ G.H t k = some (a.block,a.off + l.length,a.off + cap) := by
   obtain ⟨c,r,rfl⟩ : ∃ c r,l = c :: r := by
    cases l with
    | nil => exact absurd rfl hne
    | cons c r => exact ⟨c,r,rfl⟩
   cases r2 with
   | @sl _ _ _ us a cap sz q1 q2 q3 q4 q5 q6 =>
    have hsz : sz = 1 := (q1 (by8 c) (by simp)).symm
    subst hsz
    have hfl : flat ((c :: r).map by8 ++ []) = (c :: r).map by8 := by
     have : ∀ l : List UInt8,flat (l.map by8) = l.map by8 := by
      intro l
      induction l with
      | nil => rfl
      | cons b l ih => rw [List.map_cons,zaN,ih]; rfl
     rw [List.append_nil,this]
    rw [hfl] at q2
    have hus := by8s_inv q2
    subst hus
    have q6' : G.H t k = some (a.block,a.off + ((c :: r).map by8).length * 1,a.off + cap * 1) := q6
    rw [zfc,Nat.mul_one,Nat.mul_one] at q6'
    exact ⟨a,cap,by rw [zfc],by simpa using q4,q3,q6'⟩
  obtain ⟨a,cap,rfl,hcap,hhas,hH⟩ := hy
  have htm := zbu (f := mF) ht
  obtain ⟨_,B,E,C,p1,p2,p3,p4,⟨cs,fz,p5⟩,p6⟩ := hR.tip t 5 k htm
  rw [hH] at p1
  simp only [Option.some.injEq,Prod.mk.injEq] at p1
  obtain ⟨rfl,rfl,rfl⟩ := p1
  have hcell : ∀ j x,l[j]? = some x → w.cell? (a.add j) = some (.int .u8 x.toNat) := by
   intro j x hx
   have hk := hhas.2 j (.int .u8 x.toNat) (by simp [hx])
   have := hR.K _ _ _ hk
   rw [add_plain hhas.1]
   exact this
  have hsz : a.off + l.length ≤ cs.size := by
   have hl0 : 0 < l.length := by cases l with | nil => exact absurd rfl hne | cons _ _ => simp
   have := hcell (l.length - 1) l[l.length - 1] (by simp [hl0])
   rw [add_plain hhas.1] at this
   simp only [World.cell?,p5] at this
   have h2 := (Array.getElem?_eq_some_iff.1 this).1
   omega
  refine (builderString_at Tryz.lays169 Tryz.Builder_Extra_169 b x a cap cs.size l w hw hne hcap (by omega) (by simp [World.shape?,p5]; rfl) hsz hcell).mono ?_
  rintro e w' ⟨rfl,rfl⟩
  have hfz := hR.drew.freeze htm (a := a) (n := l.length) hH
  have hor : (fun c => if c = t then none else (m.or mF) c) = Store.or (fun c => if c = t then none else m c) mF := by
   funext c
   by_cases e : c = t
   ·subst e
    have := hD.of_some ht
    simp [Store.or,this]
   ·simp [Store.or,e]
  rw [hor] at hfz
  refine ⟨G,_,.ret (bs l),Gh.le.refl G,fun c => ?_,hfz,Lib.below_freeze (Below.drew (Below.refl B0 w)) p2 _,.ret (.val rfl),rfl,fun c x hc hk => ?_⟩
  ·rcases hD c with h | h
   ·left
    by_cases e : c = t
    ·simp [e]
    ·simp [e,h]
   ·exact .inr h
  ·have : c ≠ t := by rintro rfl; exact hk _ _ rfl
   simp [this,hc]
theorem libOk {Γ : Glob} : LibOk Γ where
 clone := clone41
 copyCheck := copy48
 string := string37
 indexByte := fun m s c _ => index38 m s c
end Go.Av.Fn
/- Numerals read, written small ones; texts cut at a blank. Condition: what two variables hold. -/
namespace Go.Av.Fn
set_option linter.unusedSimpArgs false
set_option linter.unusedVariables false
set_option maxRecDepth 10000
open Go.Proofs Go.RowKit
def powV : List V := Lib.pow10Tab.map fun z => .val (.int .u64 z)
/-! ### Cut at a blank -/
section
variable {Γ : Glob} {m : Store}
theorem c1 : ((1 : Nat) : Int) = 1 := rfl
theorem c3 : ((3 : Nat) : Int) = 3 := rfl
end
end Go.Av.Fn
/- A command's text read, and written: what the program tells. Conditions: the library's functions; numbers are written (FmtAt) where they are. -/
namespace Go.Av.Fn
set_option linter.unusedSimpArgs false
set_option linter.unusedVariables false
set_option maxRecDepth 10000
open Go.Proofs
structure Env2 (Γ : Glob) : Prop where
 env : Env Γ
 range : ∃ T v,Γ 7 = some [.ifc T v]
 syn : ∃ T v,Γ 6 = some [.ifc T v]
section
variable {Γ : Glob} {m : Store}
end
end Go.Av.Fn
/- A command's text read: all of it. Conditions as ahead. -/
namespace Go.Av
end Go.Av
namespace Go.Av.Fn
set_option linter.unusedSimpArgs false
set_option linter.unusedVariables false
set_option maxRecDepth 10000
open Go.Proofs
section
variable {Γ : Glob} {m : Store}
end
end Go.Av.Fn
/- A command's text written; the document's examples. Conditions as ahead. -/
namespace Go.Av.Fn
set_option linter.unusedSimpArgs false
set_option linter.unusedVariables false
set_option maxRecDepth 100000
open Go.Proofs
theorem right_len {k n : Int} {s : List UInt8} (h : zcM k n s = true) : s.length ≤ 255 ∧ 0 ≤ n ∧ n ≤ 4294967296 := by
 unfold zcM at h
 split at h
 ·cases h
 ·rename_i h1
  simp only [zfA,not_or,ze1,Bool.not_eq_true',decide_eq_true_eq] at h1
  obtain ⟨⟨⟨⟨h1,h2⟩,h3⟩,h4⟩,h5⟩ := h1
  have hl : 0 ≤ (formOf k).least := by
   have hall : ∀ f ∈ forms,0 ≤ f.least := by decide
   unfold formOf
   split
   ·decide
   ·cases hg : forms[k.toNat]? with
    | none => decide
    | some f => exact hall f (List.mem_of_getElem? hg)
  refine ⟨?_,by omega,by omega⟩
  split at h
  ·rename_i h6
   simp only [zfA,ze1,Bool.not_eq_true'] at h6
   rcases h6 with h6 | ⟨_,h6⟩
   ·have : s = [] := by
     cases hs : (s == []) with
     | true => exact eq_of_beq hs
     | false => exact absurd ⟨h6,hs⟩ h3
    subst this
    simp
   ·rw [eq_of_beq h6]
    simp
  ·unfold zc2 at h
   simp only [ze1,decide_eq_true_eq] at h
   exact h.2
section
variable {Γ : Glob} {m : Store}
end
end Go.Av.Fn
/- The program tells the document's examples. No condition. -/
namespace Go.Av.Fn
set_option linter.unusedSimpArgs false
set_option linter.unusedVariables false
set_option maxRecDepth 10000
open Go.Proofs
end Go.Av.Fn
/- A command's text read, reckoned. No condition. -/
namespace Go.Av.Fn
set_option linter.unusedSimpArgs false
set_option linter.unusedVariables false
set_option maxRecDepth 100000
open Go.Proofs
section
variable {Γ : Glob} {m : Store}
end
def getC (s : List UInt8) (a : Nat) (e : Int) : (Int × Int × List UInt8) × Nat × Int :=
 let k := rInt s a e
 let n := rInt s k.2.1 k.2.2
 let t := zcl s n.2.1 n.2.2 255
 (if t.2.2 ≠ 0 then (0,0,[]) else (k.1,n.1,t.1),t.2.1,t.2.2)
def cmdT (c : Int × Int × List UInt8) : V := cmdV c.1 c.2.1 c.2.2
def putC (k n : Int) (s : List UInt8) : List UInt8 := Lib.uvarint (Lib.zigzag k) ++ Lib.uvarint (Lib.zigzag n) ++ (Lib.uvarint (Lib.zigzag s.length) ++ s)
section
variable {Γ : Glob} {m : Store} {rb a : Nat} {s : List UInt8} {e : Int}
theorem get_ok (L : LibOk Γ) (hr : m rb = some (rdB s a e)) (ha : a ≤ s.length) (hs : s.length ≤ 281474976710656) :
  zab Tryz.prog Γ 144 [.ptr rb 0] m fun o m' => o = .ret (cmdT (getC s a e).1) ∧ m' = m.set rb (rdB s (getC s a e).2.1 (getC s a e).2.2) := by
 refine zab.less (A := fun o m' => o = .ret (cmdT (getC s a e).1) ∧ SubS (m.set rb (rdB s (getC s a e).2.1 (getC s a e).2.2)) m') ?_ fun o m' h => ⟨_,h.2,h.1,rfl⟩
 refine zae mixed F144_ok (by rintro v m b x _ ⟨⟨⟩,_⟩) ?_
 unfold getC
 obtain ⟨k,a1,e1,h1⟩ : ∃ k a1 e1,rInt s a e = (k,a1,e1) := ⟨_,_,_,rfl⟩
 have l1 := zaC (e := e) ha
 rw [h1] at l1
 obtain ⟨n,a2,e2,h2⟩ : ∃ n a2 e2,rInt s a1 e1 = (n,a2,e2) := ⟨_,_,_,rfl⟩
 have l2 := zaC (e := e1) l1
 rw [h2] at l2
 obtain ⟨t,a3,e3,h3⟩ : ∃ t a3 e3,zcl s a2 e2 255 = (t,a3,e3) := ⟨_,_,_,rfl⟩
 simp only at l1 l2
 simp only [h1,h2,h3]
 simp only [F144,ss0,zeW,zeQ]
 simp only [ssS,zeQ,zeO,reduceIte,zeP]
 refine zaq fun b2 hb2 => ?_
 have hn2 := zal hr hb2
 simp only [ssS,zeQ,zeO,reduceIte,zeP]
 refine zaK (zco (a := a) (e := e) (s := s) (by rw [Store.set_ne _ _ hn2]; exact hr) ha (by omega)) ?_
 simp only [h1,ssS,zeQ,zeO,reduceIte,zeP]
 refine zaq fun b3 hb3 => ?_
 have hn3 : rb ≠ b3 := zal (Store.set_same _ _ _) hb3
 have h23 : b2 ≠ b3 := zal (by rw [Store.set_ne _ _ hn2.symm,Store.set_same]) hb3
 simp only [Store.set_same,Store.set_set,ssS,zeQ,zeO,reduceIte,zeP]
 refine zaK (zco (a := a1) (e := e1) (s := s) (by rw [Store.set_ne _ _ hn3,Store.set_same]) l1 (by omega)) ?_
 simp only [h2,Store.set_same,Store.set_set,Store.set_ne _ _ hn3.symm,ssS,zeQ,zeO,reduceIte,zeP]
 refine zaK (wText_ok L 255 (a := a2) (e := e2) (s := s) (by rw [Store.set_ne _ _ hn3,Store.set_same]) l2 hs) ?_
 simp only [h3,Store.set_same,Store.set_set,Store.set_ne _ _ hn3.symm,ssS,zeQ,zeO,reduceIte,zeP]
 refine zak (zdS (a := a3) (e := e3) (s := s) (by rw [Store.set_ne _ _ hn3,Store.set_same])) ?_
 have hfin : ∀ (M : Store),M rb = some (rdB s a3 e3) → (∀ c x,m c = some x → c ≠ rb → c ≠ b2 → c ≠ b3 → M c = some x) → ∀ x,SubS (m.set rb (rdB s a3 e3)) (M.set b2 x) := by
  intro M hM hs2 x c y hc
  by_cases h1 : c = rb
  ·subst h1
   rw [Store.set_same] at hc
   cases hc
   rw [Store.set_ne _ _ hn2]
   exact hM
  ·rw [Store.set_ne _ _ h1] at hc
   have h2 : c ≠ b2 := zal hc hb2
   rw [Store.set_ne _ _ h2]
   refine hs2 c y hc h1 h2 ?_
   rintro rfl
   rw [Store.set_ne _ _ hn3.symm,Store.set_ne _ _ h23.symm,hc] at hb3
   cases hb3
 cases he : (e3 != 0)
 ·have h0 : e3 = 0 := by simpa using he
  subst h0
  simp only [show ((0 : Int) != 0) = false from rfl,Store.set_same,Store.set_set,Store.set_ne _ _ hn3.symm,Store.set_ne _ _ h23,Store.set_ne _ _ hn2.symm,ssS,zeQ,zeO,reduceIte,zeP]
  refine zai ((zdq (b := b2) rfl (Store.set_same _ _ _)).trans rfl) ⟨?_,hfin _ ?_ ?_ _⟩
  ·simp only [ne_eq,not_true_eq_false,if_false,cmdT,cmdV]
   rfl
  ·first
    | exact Store.set_same _ _ _
    | (rw [Store.set_ne _ _ hn3,Store.set_same])
  ·intro c x hc k1 k2 k3
   simp only [Store.set_ne _ _ k1,Store.set_ne _ _ k2,Store.set_ne _ _ k3]
   exact hc
 ·have h0 : e3 ≠ 0 := by simpa using he
  simp only [he,Store.set_same,Store.set_set,Store.set_ne _ _ hn3.symm,Store.set_ne _ _ h23,Store.set_ne _ _ hn2.symm,ssS,zeQ,zeO,reduceIte,zeP]
  refine zai ((zdq (b := b2) rfl (Store.set_same _ _ _)).trans rfl) ⟨?_,hfin _ ?_ ?_ _⟩
  ·simp only [ne_eq,h0,not_false_eq_true,if_true,cmdT,cmdV]
   rfl
  ·first
    | exact Store.set_same _ _ _
    | (rw [Store.set_ne _ _ hn3,Store.set_same])
  ·intro c x hc k1 k2 k3
   simp only [Store.set_ne _ _ k1,Store.set_ne _ _ k2,Store.set_ne _ _ k3]
   exact hc
theorem put_ok {m' : Store} {v : V} {l t : List UInt8} {k n : Int} (h : BufI 5 1 m m' v (l.map by8)) (hk : Av.I64 k) (hn : Av.I64 n) (hl : l.length + t.length + 100 ≤ 140737488355328) (hl2 : l.length + 100 < 1099511627776) :
  zab Tryz.prog Γ 102 [v,cmdV k n t] m' fun o m2 => ∃ v2,o = .ret v2 ∧ Buf 5 1 m m2 v2 ((l ++ putC k n t).map by8) := by
 refine zab.less (A := fun o m2 => ∃ v2 M,o = .ret v2 ∧ SubS M m2 ∧ Buf 5 1 m M v2 ((l ++ putC k n t).map by8)) ?_ fun o m' ⟨v2,M,h1,h2,h3⟩ => ⟨M,h2,v2,h1,h3⟩
 refine zae mixed F102_ok (by rintro v m b x _ ⟨_,_,⟨⟩,_⟩) ?_
 simp only [F102,cmdV,ss0,zeW,zeQ]
 simp only [ssS,zeQ,zeO,reduceIte,zeP]
 refine zaq fun b3 hb3 => ?_
 have hm3 : m b3 = none := by
  cases hc : m b3 with
  | none => rfl
  | some x => rw [h.sub _ _ hc] at hb3; cases hb3
 have z1 := Lib.uvarint_length64 (Av.zigzag_u64 hk)
 have z2 := Lib.uvarint_length64 (Av.zigzag_u64 hn)
 simp only [Store.set_same,ssS,zeQ,zeO,reduceIte,zeP]
 refine zbT (zbj (h.add (x := .var 40 [it k,it n,bs t]) hb3) hk (by omega)) ?_ (by rintro v m' ⟨_,⟨⟩,_⟩)
 rintro v2 m2 ⟨_,⟨⟩,hB⟩
 have hb2 := hB.sub b3 _ (Store.set_same _ _ _)
 simp only [zde,zdf,zdK,hb2,ssS,zeQ,zeO,reduceIte,zeP]
 refine zbT (zbj (.inl hB) hn (by simp; omega)) ?_ (by rintro v m' ⟨_,⟨⟩,_⟩)
 rintro v3 m3 ⟨_,⟨⟩,hB3⟩
 have hb3' := hB3.sub b3 _ (Store.set_same _ _ _)
 simp only [zde,zdf,zdK,hb3',ssS,zeQ,zeO,reduceIte,zeP]
 refine zbT (putText_ok hB3 (by simp; omega) (by simp; omega)) ?_ (by rintro v m' ⟨_,⟨⟩,_⟩)
 rintro v4 m4 ⟨_,⟨⟩,hB4⟩
 simp only [ssS,zeQ,zeO,reduceIte,zeP]
 obtain ⟨q1,M,q2,q3,q4⟩ := hB4.del hm3
 refine zai zah ⟨v4,M,rfl,?_,?_⟩
 ·intro c x hc
  have hne : c ≠ b3 := by rintro rfl; rw [q3] at hc; cases hc
  have := congrArg (fun f : Store => f c) (q4 (.var 40 []))
  simp only [Store.set_ne _ _ hne] at this
  rw [this]
  exact hc
 ·simp only [putC,List.append_assoc] at q2 ⊢
  exact q2
end
end Go.Av.Fn
/- Commands put are got as they were: plain laws. No condition. -/
namespace Go.Av.Fn
set_option linter.unusedSimpArgs false
set_option linter.unusedVariables false
open Go.Lib
theorem drop_mid {α : Type} (a b : List α) : (a ++ b).drop a.length = b := by simp
theorem rInt_put {n : Int} (h : Av.I64 n) (a r : List UInt8) : rInt (a ++ (uvarint (zigzag n) ++ r)) a.length 0 = (n,a.length + (uvarint (zigzag n)).length,0) := by
 unfold rInt
 rw [drop_mid,Av.numL_put h r]
 simp
theorem countL_put {n : Nat} (h : Av.I64 n) (r : List UInt8) (most : Int) (hm : 0 ≤ most) : zaD (uvarint (zigzag n) ++ r) most = if (n : Int) > most then (0,0,5) else ((n : Int),(uvarint (zigzag n)).length,0) := by
 unfold zaD
 rw [Av.numL_put h r]
 simp only [ne_eq,not_true_eq_false,if_false]
 rw [if_neg (by omega),Int.max_eq_right hm]
theorem textL_put {s : List UInt8} (hs : s.length < 9223372036854775808) (r : List UInt8) (most : Nat) :
  textL (uvarint (zigzag s.length) ++ (s ++ r)) most = if s.length > most then ([],0,5) else (s,(uvarint (zigzag s.length)).length + s.length,0) := by
 have hi : Av.I64 (s.length : Int) := by unfold Av.I64; omega
 unfold textL
 rw [countL_put hi _ _ (by omega)]
 by_cases h : s.length > most
 ·have h' : (s.length : Int) > (most : Int) := by omega
  rw [if_pos h',if_pos h]
  simp
 ·have h' : ¬ (s.length : Int) > (most : Int) := by omega
  rw [if_neg h',if_neg h]
  simp only [ne_eq,not_true_eq_false,if_false]
  have hc : ¬ (s.length : Int) > ((uvarint (zigzag s.length) ++ (s ++ r)).length : Int) - ((uvarint (zigzag s.length)).length : Int) := by
   simp only [List.length_append]
   omega
  rw [if_neg hc]
  simp
theorem rText_put {s : List UInt8} (hs : s.length < 9223372036854775808) (a r : List UInt8) (most : Nat) :
  zcl (a ++ (uvarint (zigzag s.length) ++ (s ++ r))) a.length 0 most = if s.length > most then ([],a.length,5) else (s,a.length + ((uvarint (zigzag s.length)).length + s.length),0) := by
 unfold zcl
 rw [drop_mid,textL_put hs]
 by_cases h : s.length > most
 ·simp [h]
 ·simp [h]
theorem ite255 {α : Type} {n : Nat} (h : n ≤ 255) (x y : α) : (if n > 255 then x else y) = y := if_neg (by omega)
theorem getC_put {k n : Int} {s : List UInt8} (hk : Av.I64 k) (hn : Av.I64 n) (hs : s.length ≤ 255) (a r : List UInt8) : getC (a ++ (putC k n s ++ r)) a.length 0 = ((k,n,s),a.length + (putC k n s).length,0) := by
 unfold getC putC
 have e1 : a ++ (uvarint (zigzag k) ++ uvarint (zigzag n) ++ (uvarint (zigzag s.length) ++ s) ++ r) = a ++ (uvarint (zigzag k) ++ (uvarint (zigzag n) ++ (uvarint (zigzag s.length) ++ (s ++ r)))) := by simp
 rw [e1,rInt_put hk]
 have e2 : a ++ (uvarint (zigzag k) ++ (uvarint (zigzag n) ++ (uvarint (zigzag s.length) ++ (s ++ r)))) = (a ++ uvarint (zigzag k)) ++ (uvarint (zigzag n) ++ (uvarint (zigzag s.length) ++ (s ++ r))) := by simp
 have l2 : a.length + (uvarint (zigzag k)).length = (a ++ uvarint (zigzag k)).length := by simp
 simp only
 rw [e2,l2,rInt_put hn]
 have e3 : (a ++ uvarint (zigzag k)) ++ (uvarint (zigzag n) ++ (uvarint (zigzag s.length) ++ (s ++ r))) = (a ++ uvarint (zigzag k) ++ uvarint (zigzag n)) ++ (uvarint (zigzag s.length) ++ (s ++ r)) := by simp
 have l3 : (a ++ uvarint (zigzag k)).length + (uvarint (zigzag n)).length = (a ++ uvarint (zigzag k) ++ uvarint (zigzag n)).length := by simp [Nat.add_assoc]
 simp only
 rw [e3,l3]
 have := rText_put (s := s) (by omega) (a ++ uvarint (zigzag k) ++ uvarint (zigzag n)) r 255
 rw [show ((255 : Nat) : Int) = 255 from rfl] at this
 rw [this,ite255 hs]
 simp
 omega
end Go.Av.Fn
/- Commands that are put are got as they were: the statement's function. Conditions as ahead. -/
namespace Go.Av.Fn
set_option linter.unusedSimpArgs false
set_option linter.unusedVariables false
set_option maxRecDepth 10000
open Go.Proofs
theorem zay {k : Nat} {s : List UInt8} {a : Nat} {e : Int} : nbB k (rdB s a e) := by
 unfold rdB
 simp only [nbS]
theorem nb_cmdT {k : Nat} (c : Int × Int × List UInt8) : nb k (cmdT c) := by
 unfold cmdT cmdV
 simp only [nbS]
theorem nb_cmdV {k : Nat} (a b : Int) (c : List UInt8) : nb k (cmdV a b c) := by
 unfold cmdV
 simp only [nbS]
theorem nbs_cmd1 (a b : Int) (c : List UInt8) : nbs 0 [cmdV a b c] := by
 simp only [nbs_cons,nb_cmdV,nbs_nil,and_self]
theorem putC_len {k n : Int} {t : List UInt8} (hk : Av.I64 k) (hn : Av.I64 n) (ht : t.length < 9223372036854775808) : (putC k n t).length ≤ t.length + 30 := by
 have z1 := Lib.uvarint_length64 (Av.zigzag_u64 hk)
 have z2 := Lib.uvarint_length64 (Av.zigzag_u64 hn)
 have z3 := Lib.uvarint_length64 (Av.zigzag_u64 (n := (t.length : Int)) (by unfold Av.I64; omega))
 simp only [putC,List.length_append]
 omega
end Go.Av.Fn
/- What a rule leaves is an end of what it read; the document's reader of tokens, in plain terms. No condition. -/
namespace Go.Av.Fn
set_option linter.unusedSimpArgs false
set_option linter.unusedVariables false
def restP : PR → List Tk
 | .ok _ l => l
 | .st l => l
def Sfx (l : List Tk) (r : Option PR) : Prop := ∀ p,r = some p → restP p <:+ l
theorem Sfx.mono {l l' : List Tk} {r : Option PR} (h : Sfx l r) (hl : l <:+ l') : Sfx l' r := fun p hp => (h p hp).trans hl
/-! ### The document's reader -/
end Go.Av.Fn
/- The small steps of the document's reader: what they do. No condition. -/
namespace Go.Av
end Go.Av
namespace Go.Av.Fn
set_option linter.unusedSimpArgs false
set_option linter.unusedVariables false
set_option maxRecDepth 10000
open Go.Proofs
section
variable {Γ : Glob} {m : Store} {rb : Nat} {L l : List Tk} {t : Tk} {s : List UInt8} {b : Bool}
end
end Go.Av.Fn
/- Functions of a cell whose answer is told without its slices' ends. No condition. -/
namespace Go.Av
set_option linter.unusedSimpArgs false
set_option linter.unusedVariables false
section
variable {P : Program} {Γ : Glob} {H : Nat → List (Nat × List Nat) × List Nat} {f : FuncId} {F : AFn} {gs : List Nat} {m : Store}
end
end Go.Av
/- The document's table of signs. No condition. -/
namespace Go.Av.Fn
set_option linter.unusedSimpArgs false
set_option linter.unusedVariables false
set_option maxRecDepth 10000
open Go.Proofs
end Go.Av.Fn
/- The document's rule for what stands between signs. No condition. -/
namespace Go.Av.Fn
set_option linter.unusedSimpArgs false
set_option linter.unusedVariables false
set_option maxRecDepth 10000
open Go.Proofs
end Go.Av.Fn
/- The document's rule for rows of expressions. No condition. -/
namespace Go.Av.Fn
set_option linter.unusedSimpArgs false
set_option linter.unusedVariables false
set_option maxRecDepth 10000
open Go.Proofs
def Ne (r : Option PR) : Prop := ∀ l1,r = some (.st l1) → l1 ≠ []
/-! ### Rows -/
section
variable {Γ : Glob} {m : Store} {rb n : Nat} {L l : List Tk} {t : Tk} {s : List UInt8} {one : Bool} {p : PR}
end
end Go.Av.Fn
/- The document's rule for single expressions. No condition. -/
namespace Go.Av.Fn
set_option linter.unusedSimpArgs false
set_option linter.unusedVariables false
set_option maxRecDepth 10000
open Go.Proofs
section
variable {Γ : Glob} {m : Store} {rb n : Nat} {L l : List Tk} {t : Tk} {s : List UInt8} {one : Bool} {p : PR}
end
end Go.Av.Fn
/- The document's rules all; how deep an expression is. No condition. -/
namespace Go.Av
section
variable {P : Program} {Γ : Glob} {Kp : V → Hl → Prop} {t : List V} {h : Hl}
end
end Go.Av
namespace Go.Av.Fn
set_option linter.unusedSimpArgs false
set_option linter.unusedVariables false
set_option maxRecDepth 10000
open Go.Proofs
end Go.Av.Fn
/- A text's expression by the document. No condition. -/
namespace Go.Av
section
variable {P : Program} {Γ : Glob} {H : Nat → List (Nat × List Nat) × List Nat} {f : FuncId} {F : AFn} {gs : List Nat} {m : Store}
end
end Go.Av
namespace Go.Av.Fn
set_option linter.unusedSimpArgs false
set_option linter.unusedVariables false
set_option maxRecDepth 10000
open Go.Proofs
end Go.Av.Fn
/- Commands printed are parsed as they were; what is parsed is printed as it stood: plain laws. No condition. -/
namespace Go.Av.Fn
set_option linter.unusedSimpArgs false
set_option linter.unusedVariables false
open Go.Lib
/-! ### Cuts -/
/-! ### Forms -/
/-! ### What is parsed -/
end Go.Av.Fn
/- A command that is printed is parsed as it was; what is parsed is printed as it stood: the statement's function, walked. Conditions as ahead; numbers are written. -/
namespace Go.Av.Fn
set_option linter.unusedSimpArgs false
set_option linter.unusedVariables false
set_option maxRecDepth 10000
open Go.Proofs
theorem fin6 {t : List V} {h : Hl} {i : Nat} (ht : tget t i = .val (.bool true)) : bodyH [ARes.tmp i] (fun v _ => nb 0 v ∧ v = .val (.bool true)) .ret ⟨t,h⟩ :=
 zaa zah ⟨by rw [show (⟨t,lk h⟩ : St).t = t from rfl,ht]; exact .val _,ht⟩
theorem cmd_neq (xo yo : Operand) (k n k' n' : Int) (s s' : List UInt8) : binV Tryz.prog .neq 40 .other xo yo (.agg [it k,it n,bs s]) (.agg [it k',it n',bs s']) = some (.val (.bool (!decide (k = k' ∧ n = n' ∧ s = s')))) := by
 have h := (struct_eq (P := Tryz.prog) (T := 40) (xo := xo) (yo := yo) (cs := [it k,it n,bs s]) (cs' := [it k',it n',bs s'])
  (xs := [.int .i64 k,.int .i64 n,.string ⟨s.toArray⟩]) (ys := [.int .i64 k',.int .i64 n',.string ⟨s'.toArray⟩])
  (r := (k == k' && (n == n' && ((ByteArray.mk s.toArray).toList == (ByteArray.mk s'.toArray).toList && true))))
  (by kernel_rfl) (by kernel_rfl) (by kernel_rfl) rfl rfl (by kernel_rfl)).2
 have e : (k == k' && (n == n' && ((ByteArray.mk s.toArray).toList == (ByteArray.mk s'.toArray).toList && true))) = decide (k = k' ∧ n = n' ∧ s = s') := by
  rw [zbO,zbO,zfz]
  simp
 rw [e] at h
 exact h
theorem nbs_c1 (a b : Int) (c : List UInt8) : nbs 0 [.agg [it a,it b,bs c]] := nbs_cmd1 a b c
end Go.Av.Fn
/- Whether a command fits its kind, by the document. No condition. -/
namespace Go.Av.Fn
set_option linter.unusedSimpArgs false
set_option linter.unusedVariables false
set_option maxRecDepth 10000
open Go.Proofs
theorem bs_eq0 {P : Program} {T : TypeId} {xo yo : Operand} {s : List UInt8} : binV P .eql T .other xo yo (bs s) (.val (.string (ByteArray.mk #[]))) = some (.val (.bool (s == []))) := zeM (x := s) (y := [])
theorem bs_ne0 {P : Program} {T : TypeId} {xo yo : Operand} {s : List UInt8} : binV P .neq T .other xo yo (bs s) (.val (.string (ByteArray.mk #[]))) = some (.val (.bool (!(s == [])))) := zeL (x := s) (y := [])
section
variable {Γ : Glob} {m : Store}
end
end Go.Av.Fn
/- A number's digits by the document. No condition. -/
namespace Go.Av.Fn
set_option linter.unusedSimpArgs false
set_option linter.unusedVariables false
set_option maxRecDepth 10000
open Go.Proofs Go.Lib
end Go.Av.Fn
/- Whether a command is right by the document. No condition. -/
namespace Go.Av.Fn
set_option linter.unusedSimpArgs false
set_option linter.unusedVariables false
set_option maxRecDepth 10000
open Go.Proofs Go.Lib
section
variable {Γ : Glob} {m : Store}
end
section
variable {Γ : Glob} {m : Store}
end
end Go.Av.Fn
/- Any command is right or not, and has the text that the document says: the statement's function, walked. Conditions az ahead; numbers are written. -/
namespace Go.Av.Fn
set_option linter.unusedSimpArgs false
set_option linter.unusedVariables false
set_option maxRecDepth 10000
open Go.Proofs
end Go.Av.Fn
/- An entry's parts: clients, names. Conditions: az ahead. -/
namespace Go.Av.Fn
set_option linter.unusedSimpArgs false
set_option linter.unusedVariables false
set_option maxRecDepth 10000
open Go.Proofs
def zeH (n : Int) : Bool := decide (1 ≤ n) && decide (n ≤ 2147483647)
section
variable {Γ : Glob} {m : Store}
theorem client_ok (n : Int) : zab Tryz.prog Γ 98 [it n] m fun o m' => o = .ret (.val (.bool (zeH n))) ∧ m' = m := by
 refine zaG (zaL mixed F98_ok F98_h zaF (by first | exact LR.nil | simp only [nbS]) ?_)
 simp only [F98,ss0,zeW,zeQ]
 simp only [ge_iff_le,ssH,zeQ,zeO,reduceIte,zeP,zeU,zeS,zeT]
 cases h : decide (1 ≤ n)
 ·simp only [h,ssH,zeQ,zeO,reduceIte,zeP,zeU,zeS,zeT]
  exact zaa zah ⟨(by simp only [zac,zad,nbS]),by simp only [zeH,h]; rfl⟩
 ·simp only [h,ssH,zeQ,zeO,reduceIte,zeP,zeU,zeS,zeT]
  exact zaa zah ⟨(by simp only [zac,zad,nbS]),by simp only [zeH,h]; rfl⟩
def nameB (s : List UInt8) : Bool := !(s == []) && decide (s.length ≤ 20) && !(dig (s.headD 0)) && !(za8.contains s) && decide ((s.takeWhile fun b => let8 b || dig b).length = s.length)
theorem lname1_ok (b : UInt8) : zab Tryz.prog Γ 166 [by8 b] m fun o m' => o = .ret (.val (.bool (let8 b || dig b))) ∧ m' = m := by
 refine zaG (zaL mixed F166_ok F166_h zaF (by first | exact LR.nil | simp only [nbS]) ?_)
 simp only [F166,ss0,zeW,zeQ]
 simp only [ssH,zeQ,zeO,reduceIte,zeP,zeU,zeS,zeT]
 refine zam (by exact fun m => letter_ok b) (by first | exact LR.nil | simp only [nbS]) (by first | exact LR.nil | simp only [nbS]) ?_
 cases h : let8 b
 ·simp only [ssH,zeQ,zeO,reduceIte,zeP,zeU,zeS,zeT]
  refine zam (by exact fun m => digit_ok b) (by first | exact LR.nil | simp only [nbS]) (by first | exact LR.nil | simp only [nbS]) ?_
  simp only [ssH,zeQ,zeO,reduceIte,zeP,zeU,zeS,zeT]
  exact zaa zah ⟨(by simp only [zac,zad,nbS]),by simp [tget]⟩
 ·simp only [ssH,zeQ,zeO,reduceIte,zeP,zeU,zeS,zeT]
  exact zaa zah ⟨(by simp only [zac,zad,nbS]),by simp [tget]⟩
theorem lname_ok (hw : Γ 1 = some (za8.map bs)) (s : List UInt8) : zab Tryz.prog Γ 153 [bs s] m fun o m' => o = .ret (.val (.bool (nameB s))) ∧ m' = m := by
 refine zaG (zaL mixed F153_ok F153_h zaF (by first | exact LR.nil | simp only [nbS]) ?_)
 simp only [F153,ss0,zeW,zeQ]
 simp only [bs_ne0,ssH,zeQ,zeO,reduceIte,zeP,zeU,zeS,zeT]
 cases s with
 | nil =>
  have h0 : (([] : List UInt8) == []) = true := rfl
  have hn : nameB [] = false := rfl
  simp only [h0,ze5,hn,ssH,zeQ,zeO,reduceIte,zeP,zeU,zeS,zeT]
  exact zaa zah ⟨(by simp only [zac,zad,nbS]),rfl⟩
 | cons b r =>
  have h0 : ((b :: r) == []) = false := rfl
  have hx : idxStrV (bs (b :: r)) (.val (.int .i64 0)) = some (by8 b) := idx_bs (i := 0) rfl
  by_cases hl : (b :: r).length ≤ 20
  ·have hd : decide (((r.length + 1 : Nat) : Int) ≤ 20) = true := by
    simp only [zeV] at hl
    simp
    omega
   have hl2 : decide ((b :: r).length ≤ 20) = true := by simpa using hl
   simp only [h0,ze4,hd,hx,ssH,zeQ,zeO,reduceIte,zeP,zeU,zeS,zeT]
   refine zam (by exact fun m => digit_ok b) (by first | exact LR.nil | simp only [nbS]) (by first | exact LR.nil | simp only [nbS]) ?_
   cases h1 : dig b
   ·simp only [ssH,zeQ,zeO,reduceIte,zeP,zeU,zeS,zeT]
    refine zam (by exact fun m => Word_ok hw (b :: r)) (by first | exact LR.nil | simp only [nbS]) (by first | exact LR.nil | simp only [nbS]) ?_
    cases h2 : za8.contains (b :: r)
    ·simp only [ssH,zeQ,zeO,reduceIte,zeP,zeU,zeS,zeT]
     refine zam (by exact fun m => row_ok (b :: r) (by omega) (p := fun b => let8 b || dig b) (fun b => lname1_ok b)) (by first | exact LR.nil | simp only [nbS]) (by first | exact LR.nil | simp only [nbS]) ?_
     simp only [ssH,zeQ,zeO,reduceIte,zeP,zeU,zeS,zeT]
     refine zaa zah ⟨(by simp only [zac,zad,nbS]),?_⟩
     have e : (((((b :: r).takeWhile fun b => let8 b || dig b).length : Nat) : Int) == ((r.length + 1 : Nat) : Int)) = nameB (b :: r) := by
      simp only [nameB,h0,hl2,List.headD_cons,h1,h2,ze4,Bool.true_and]
      rw [zfz,beq_iff_eq,decide_eq_true_eq,zeV]
      omega
     exact congrArg (fun b => V.val (.bool b)) e
    ·simp only [ssH,zeQ,zeO,reduceIte,zeP,zeU,zeS,zeT]
     exact zaa zah ⟨(by simp only [zac,zad,nbS]),by simp only [zac,zad,nameB,h0,hl2,List.headD_cons,h1,h2]; rfl⟩
   ·simp only [ssH,zeQ,zeO,reduceIte,zeP,zeU,zeS,zeT]
    exact zaa zah ⟨(by simp only [zac,zad,nbS]),by simp only [zac,zad,nameB,h0,hl2,List.headD_cons,h1]; rfl⟩
  ·have hd : decide (((r.length + 1 : Nat) : Int) ≤ 20) = false := by
    simp only [zeV] at hl
    simp
    omega
   have hl2 : decide ((b :: r).length ≤ 20) = false := by simpa using hl
   simp only [h0,ze4,hd,ssH,zeQ,zeO,reduceIte,zeP,zeU,zeS,zeT]
   exact zaa zah ⟨(by simp only [zac,zad,nbS]),by simp only [zac,zad,nameB,h0,hl2]; rfl⟩
end
section
variable {Γ : Glob} {m : Store}
theorem lTextName_ok (hw : Γ 1 = some (za8.map bs)) (s : List UInt8) : zab Tryz.prog Γ 135 [.agg [it 1,bs s,it 0,it 0,it 0]] m fun o m' => o = .ret (.tup [bs (if nameB s = true then s else []),it (if nameB s = true then 0 else 2)]) ∧ m' = m := by
 refine zaG (zaL mixed F135_ok F135_h zaF (by first | exact LR.nil | simp only [nbS]) ?_)
 simp only [F135,ss0,zeW,zeQ]
 simp only [ssH,zeQ,zeO,reduceIte,zeP,zeU,zeS,zeT]
 refine zam (by exact fun m => lname_ok hw s) (by first | exact LR.nil | simp only [nbS]) (by first | exact LR.nil | simp only [nbS]) ?_
 cases h : nameB s
 ·simp only [zeX,if_false,ssH,zeQ,zeO,reduceIte,zeP,zeU,zeS,zeT]
  exact zaa resV_two ⟨(by simp only [zac,zad,nbS]),rfl⟩
 ·simp only [if_true,ssH,zeQ,zeO,reduceIte,zeP,zeU,zeS,zeT]
  exact zaa resV_two ⟨(by simp only [zac,zad,nbS]),rfl⟩
theorem oName_ok (hw : Γ 1 = some (za8.map bs)) (s : List UInt8) : zab Tryz.prog Γ 99 [bs s] m fun o m' => o = .ret (.val (.bool (nameB s))) ∧ m' = m := by
 refine zaG (zaL mixed F99_ok F99_h zaF (by first | exact LR.nil | simp only [nbS]) ?_)
 simp only [F99,ss0,zeW,zeQ]
 simp only [ssH,zeQ,zeO,reduceIte,zeP,zeU,zeS,zeT]
 refine zam (by exact fun m => lTextName_ok hw s) (by first | exact LR.nil | simp only [nbS]) (by first | exact LR.nil | simp only [nbS]) ?_
 cases h : nameB s
 ·simp only [zeX,if_false,ssH,zeQ,zeO,reduceIte,zeP,zeU,zeS,zeT]
  exact zaa zah ⟨(by simp only [zac,zad,nbS]),rfl⟩
 ·simp only [if_true,ssH,zeQ,zeO,reduceIte,zeP,zeU,zeS,zeT]
  exact zaa zah ⟨(by simp only [zac,zad,nbS]),rfl⟩
end
end Go.Av.Fn
