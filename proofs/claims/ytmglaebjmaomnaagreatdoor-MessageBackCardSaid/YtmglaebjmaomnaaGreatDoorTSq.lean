/- A message's numbers got, az the program does. Conditions: az ahead. -/
import Derived.Test.YtmglaebjmaomnaaGreatDoorTAvQ2
open Bool renaming false_eq_true → zeX, not_true → ze5, not_false → ze4, and_eq_true → ze1
open Int renaming reduceBEq → zeS, reduceBNe → zeT, toNat_natCast → zfv
open List renaming length_cons → zeV, length_nil → ze0, map → zfG, append_nil → ze9, append_assoc → ze3, length_drop → zfd, length_take → zfh, take_of_length_le → zft, nil_append → zeZ, range → zfe, cons_append → ze2, length_map → zfc, drop_zero → zfH, map_append → zfu, length_append → zeY
open Nat renaming reduceSub → zeW, reduceAdd → zeQ, reduceLeDiff → zeO, reduceEqDiff → zeP, reduceLT → zeU
open Option renaming bind_some → zfg
namespace Go.Av.Fn
set_option linter.unusedSimpArgs false
set_option linter.unusedVariables false
set_option maxRecDepth 10000
open Go.Proofs
def rpB (j : Nat) : Blk := .var 133 [.ptr j 0]
theorem ren_rdB {σ : Nat → Nat} {s : List UInt8} {a : Nat} {e : Int} : renB σ (rdB s a e) = rdB s a e := by
 have := zay (k := 0) (s := s) (a := a) (e := e)
 unfold rdB at this ⊢
 show Blk.var _ (rens σ _) = _
 rw [rens_nb this.2]
theorem ren_rpB {σ : Nat → Nat} {j : Nat} : renB σ (rpB j) = rpB (σ j) := (rfl)
theorem ren_varB {σ : Nat → Nat} {T : TypeId} {c : List V} (h : nbs 0 c) : renB σ (.var T c) = .var T c := by
 show Blk.var _ (rens σ _) = _
 rw [rens_nb h]
section
variable {Γ : Glob} {m : Store} {s : List UInt8}
def getH (c : List V) (s : List UInt8) (a : Nat) (e : Int) : Hl := [some (.var 68 c),some (rpB 2),some (rdB s a e)]
theorem nbH_getH {c : List V} (hc : nbs 0 c) (s : List UInt8) (a : Nat) (e : Int) : nbH 3 (getH c s a e) := by
 have : nbs 3 c := nbs_weaken hc
 simp only [getH,nbH_some,nbH_nil,zay,rpB,this,nbS]
 decide
theorem mread1_ok (c : List V) (hc : nbs 0 c) (o : Nat) (ho : o < c.length) (a : Nat) (e : Int) (ha : a ≤ s.length) (hs : s.length ≤ 281474976710656) :
  FC Tryz.prog Γ 118 [.ptr 0 o,.ptr 1 0] (getH c s a e) fun v h' => v = .tup [] ∧ h' = getH (tset c o (it (rInt s a e).1)) s (rInt s a e).2.1 (rInt s a e).2.2 := by
 refine fc mixed F118_ok F118_h zaF ?_
 simp only [F118,getH,rpB,zeV,ze0,ss0,zeW,zeQ]
 simp only [ssH,zeQ,zeO,reduceIte,zeP,zeU,zeS,zeT]
 refine zaH (b := 2) (X := rdB s a e) rfl rfl (fun m b' h => zco h ha (by omega)) zay zay (by first | exact LR.nil | simp only [nbS]) (by first | exact LR.nil | simp only [nbS]) ?_
 have h1 : (o + 1 ≤ c.length) = True := eq_true ho
 simp only [zar,zas,h1,ssH,zeQ,zeO,reduceIte,zeP,zeU,zeS,zeT]
 exact zav (v := .tup []) rfl ⟨rfl,rfl⟩
theorem za0 {c : List V} {a o : Nat} {e : Int} {FB : Blk} {Kp : V → Hl → Prop} {it1 : List Item} {K : HS → Prop} {t : List V} {d : Option Tmp} {st : List (Tmp × Option (Tmp × Bool) × AOp)}
  (hc : nbs 0 c) (ho : o < c.length) (ha : a ≤ s.length) (hs : s.length ≤ 281474976710656)
  (hk : hth Tryz.prog Γ Kp st it1 K (hput t [some (.var 68 (tset c o (it (rInt s a e).1))),some (rpB 2),some (rdB s (rInt s a e).2.1 (rInt s a e).2.2),some FB] d (some (.tup [])))) :
  zdx Tryz.prog Γ Kp (.fn (.func 118) [] [.ptr 1 0]) [.ptr 0 o] d st it1 K t [some (.var 68 c),some (rpB 2),some (rdB s a e),some FB] := by
 have hc2 : nbs 0 (tset c o (it (rInt s a e).1)) := by rw [← zeu]; exact hc.set o (.val _)
 refine hcall_f (args0 := [.ptr 0 o,.ptr 1 0]) (hs := getH c s a e) [0,1,2] (mread1_ok (Γ := Γ) c hc o ho a e ha hs) rfl (by simp only [getH,zeV,ze0,nbS]; decide) (nbH_getH hc s a e) rfl (by decide) (by simp) ?_ (by simp) ?_
 ·simp only [getH,zdB,zes,ren_varB hc,ren_rpB,ren_rdB,zb7,zb8,and_true]
  exact ⟨rfl,rfl,rfl⟩
 ·rintro v h' ⟨rfl,rfl⟩
  refine ⟨⟨by simp [getH],by simp only [getH,nbS],nbH_getH hc2 s _ _,by simp [getH,nnl]⟩,?_⟩
  simp only [getH,putB_cons,putB_nil,Option.map,zfG,ren_varB hc2,ren_rpB,ren_rdB,ren,rens,zb7,zb8,zar,zas,ze9]
  exact hk
def mg3 (k f t : Int) : Mg := ⟨k,f,t,0,0,0,0,0,e0,lg0,r0⟩
def mg8 (k f t v nr op cm sq : Int) : Mg := ⟨k,f,t,v,nr,op,cm,sq,e0,lg0,r0⟩
set_option maxHeartbeats 6400000 in
theorem mEachR_ok (k f t : Int) (a : Nat) (e : Int) (ha : a ≤ s.length) (hs : s.length ≤ 281474976710656) :
  FC Tryz.prog Γ 62 [.agg (flC k),.ptr 0 0,.fn (.func 118) [] [.ptr 1 0]] (getH (msgC false (mg3 k f t)) s a e) fun r h' => r = .tup [] ∧
   h' = (let v := oI (kV k) s (a,e); let nr := oI (kN k) s v.2; let op := oI (kO k) s nr.2; let cm := oI (kC k) s op.2; let sq := oI (kS k) s cm.2;
    [some (.var 68 (msgC false (mg8 k f t v.1 nr.1 op.1 cm.1 sq.1))),some (rpB 2),some (rdB s sq.2.1 sq.2.2),some (.var 108 (flC k))]) := by
 refine fc mixed F62_ok F62_h zaF ?_
 simp only [F62,getH,zeV,ze0,ss0,zeW,zeQ]
 rcases ten k with rfl | rfl | rfl | rfl | rfl | rfl | rfl | rfl | rfl | rfl | hno
 ·simp only [flC,bo,show kV 1 = false from rfl,show kN 1 = false from rfl,show kO 1 = false from rfl,show kC 1 = false from rfl,show kS 1 = false from rfl,show kE 1 = true from rfl,show kL 1 = false from rfl,show kR 1 = false from rfl,oI,if_true,zeX,if_false,zaj,msgC,mg3,mg8,ssH,zeQ,zeO,reduceIte,zeP,zeU,zeS,zeT]
  exact zav (v := .tup []) rfl ⟨rfl,rfl⟩
 ·simp only [flC,bo,show kV 2 = true from rfl,show kN 2 = false from rfl,show kO 2 = true from rfl,show kC 2 = true from rfl,show kS 2 = false from rfl,show kE 2 = true from rfl,show kL 2 = false from rfl,show kR 2 = false from rfl,oI,if_true,zeX,if_false,zaj,msgC,mg3,mg8,ssH,zeQ,zeO,reduceIte,zeP,zeU,zeS,zeT]
  refine za0 (o := 3) (by simp only [zaz,nbS]) (by simp) ha hs ?_
  simp only [ssH,zeQ,zeO,reduceIte,zeP,zeU,zeS,zeT]
  refine za0 (o := 5) (by simp only [zaz,nbS]) (by simp) (zaC ha) hs ?_
  simp only [ssH,zeQ,zeO,reduceIte,zeP,zeU,zeS,zeT]
  refine za0 (o := 6) (by simp only [zaz,nbS]) (by simp) (zaC (zaC ha)) hs ?_
  simp only [ssH,zeQ,zeO,reduceIte,zeP,zeU,zeS,zeT]
  exact zav (v := .tup []) rfl ⟨rfl,rfl⟩
 ·simp only [flC,bo,show kV 3 = true from rfl,show kN 3 = false from rfl,show kO 3 = true from rfl,show kC 3 = false from rfl,show kS 3 = false from rfl,show kE 3 = false from rfl,show kL 3 = false from rfl,show kR 3 = false from rfl,oI,if_true,zeX,if_false,zaj,msgC,mg3,mg8,ssH,zeQ,zeO,reduceIte,zeP,zeU,zeS,zeT]
  refine za0 (o := 3) (by simp only [zaz,nbS]) (by simp) ha hs ?_
  simp only [ssH,zeQ,zeO,reduceIte,zeP,zeU,zeS,zeT]
  refine za0 (o := 5) (by simp only [zaz,nbS]) (by simp) (zaC ha) hs ?_
  simp only [ssH,zeQ,zeO,reduceIte,zeP,zeU,zeS,zeT]
  exact zav (v := .tup []) rfl ⟨rfl,rfl⟩
 ·simp only [flC,bo,show kV 4 = true from rfl,show kN 4 = false from rfl,show kO 4 = false from rfl,show kC 4 = true from rfl,show kS 4 = false from rfl,show kE 4 = false from rfl,show kL 4 = false from rfl,show kR 4 = false from rfl,oI,if_true,zeX,if_false,zaj,msgC,mg3,mg8,ssH,zeQ,zeO,reduceIte,zeP,zeU,zeS,zeT]
  refine za0 (o := 3) (by simp only [zaz,nbS]) (by simp) ha hs ?_
  simp only [ssH,zeQ,zeO,reduceIte,zeP,zeU,zeS,zeT]
  refine za0 (o := 6) (by simp only [zaz,nbS]) (by simp) (zaC ha) hs ?_
  simp only [ssH,zeQ,zeO,reduceIte,zeP,zeU,zeS,zeT]
  exact zav (v := .tup []) rfl ⟨rfl,rfl⟩
 ·simp only [flC,bo,show kV 5 = true from rfl,show kN 5 = false from rfl,show kO 5 = false from rfl,show kC 5 = false from rfl,show kS 5 = false from rfl,show kE 5 = false from rfl,show kL 5 = false from rfl,show kR 5 = false from rfl,oI,if_true,zeX,if_false,zaj,msgC,mg3,mg8,ssH,zeQ,zeO,reduceIte,zeP,zeU,zeS,zeT]
  refine za0 (o := 3) (by simp only [zaz,nbS]) (by simp) ha hs ?_
  simp only [ssH,zeQ,zeO,reduceIte,zeP,zeU,zeS,zeT]
  exact zav (v := .tup []) rfl ⟨rfl,rfl⟩
 ·simp only [flC,bo,show kV 6 = true from rfl,show kN 6 = true from rfl,show kO 6 = false from rfl,show kC 6 = true from rfl,show kS 6 = false from rfl,show kE 6 = false from rfl,show kL 6 = true from rfl,show kR 6 = false from rfl,oI,if_true,zeX,if_false,zaj,msgC,mg3,mg8,ssH,zeQ,zeO,reduceIte,zeP,zeU,zeS,zeT]
  refine za0 (o := 3) (by simp only [zaz,nbS]) (by simp) ha hs ?_
  simp only [ssH,zeQ,zeO,reduceIte,zeP,zeU,zeS,zeT]
  refine za0 (o := 4) (by simp only [zaz,nbS]) (by simp) (zaC ha) hs ?_
  simp only [ssH,zeQ,zeO,reduceIte,zeP,zeU,zeS,zeT]
  refine za0 (o := 6) (by simp only [zaz,nbS]) (by simp) (zaC (zaC ha)) hs ?_
  simp only [ssH,zeQ,zeO,reduceIte,zeP,zeU,zeS,zeT]
  exact zav (v := .tup []) rfl ⟨rfl,rfl⟩
 ·simp only [flC,bo,show kV 7 = true from rfl,show kN 7 = false from rfl,show kO 7 = false from rfl,show kC 7 = true from rfl,show kS 7 = false from rfl,show kE 7 = false from rfl,show kL 7 = true from rfl,show kR 7 = false from rfl,oI,if_true,zeX,if_false,zaj,msgC,mg3,mg8,ssH,zeQ,zeO,reduceIte,zeP,zeU,zeS,zeT]
  refine za0 (o := 3) (by simp only [zaz,nbS]) (by simp) ha hs ?_
  simp only [ssH,zeQ,zeO,reduceIte,zeP,zeU,zeS,zeT]
  refine za0 (o := 6) (by simp only [zaz,nbS]) (by simp) (zaC ha) hs ?_
  simp only [ssH,zeQ,zeO,reduceIte,zeP,zeU,zeS,zeT]
  exact zav (v := .tup []) rfl ⟨rfl,rfl⟩
 ·simp only [flC,bo,show kV 8 = true from rfl,show kN 8 = false from rfl,show kO 8 = true from rfl,show kC 8 = false from rfl,show kS 8 = false from rfl,show kE 8 = false from rfl,show kL 8 = false from rfl,show kR 8 = false from rfl,oI,if_true,zeX,if_false,zaj,msgC,mg3,mg8,ssH,zeQ,zeO,reduceIte,zeP,zeU,zeS,zeT]
  refine za0 (o := 3) (by simp only [zaz,nbS]) (by simp) ha hs ?_
  simp only [ssH,zeQ,zeO,reduceIte,zeP,zeU,zeS,zeT]
  refine za0 (o := 5) (by simp only [zaz,nbS]) (by simp) (zaC ha) hs ?_
  simp only [ssH,zeQ,zeO,reduceIte,zeP,zeU,zeS,zeT]
  exact zav (v := .tup []) rfl ⟨rfl,rfl⟩
 ·simp only [flC,bo,show kV 9 = true from rfl,show kN 9 = false from rfl,show kO 9 = false from rfl,show kC 9 = true from rfl,show kS 9 = false from rfl,show kE 9 = false from rfl,show kL 9 = true from rfl,show kR 9 = false from rfl,oI,if_true,zeX,if_false,zaj,msgC,mg3,mg8,ssH,zeQ,zeO,reduceIte,zeP,zeU,zeS,zeT]
  refine za0 (o := 3) (by simp only [zaz,nbS]) (by simp) ha hs ?_
  simp only [ssH,zeQ,zeO,reduceIte,zeP,zeU,zeS,zeT]
  refine za0 (o := 6) (by simp only [zaz,nbS]) (by simp) (zaC ha) hs ?_
  simp only [ssH,zeQ,zeO,reduceIte,zeP,zeU,zeS,zeT]
  exact zav (v := .tup []) rfl ⟨rfl,rfl⟩
 ·simp only [flC,bo,show kV 10 = true from rfl,show kN 10 = false from rfl,show kO 10 = false from rfl,show kC 10 = false from rfl,show kS 10 = true from rfl,show kE 10 = false from rfl,show kL 10 = false from rfl,show kR 10 = true from rfl,oI,if_true,zeX,if_false,zaj,msgC,mg3,mg8,ssH,zeQ,zeO,reduceIte,zeP,zeU,zeS,zeT]
  refine za0 (o := 3) (by simp only [zaz,nbS]) (by simp) ha hs ?_
  simp only [ssH,zeQ,zeO,reduceIte,zeP,zeU,zeS,zeT]
  refine za0 (o := 7) (by simp only [zaz,nbS]) (by simp) (zaC ha) hs ?_
  simp only [ssH,zeQ,zeO,reduceIte,zeP,zeU,zeS,zeT]
  exact zav (v := .tup []) rfl ⟨rfl,rfl⟩
 ·obtain ⟨q1,q2,q3,q4,q5,q6,q7,q8,q9⟩ := flC_no hno
  simp only [flC,bo,q1,q2,q3,q4,q5,q6,q7,q8,oI,if_true,zeX,if_false,zaj,msgC,mg3,mg8,ssH,zeQ,zeO,reduceIte,zeP,zeU,zeS,zeT]
  exact zav (v := .tup []) rfl ⟨rfl,rfl⟩
end
structure Cn (s : List UInt8) (a : Nat) (e : Int) (b : Nat) (w : List UInt8) : Prop where
 e0 : e = 0
 le : b ≤ s.length
 eq : s.take b = s.take a ++ w
section
variable {s w w2 : List UInt8} {a b c : Nat} {e : Int}
theorem Cn.trans (h : Cn s a e b w) (k : Cn s b 0 c w2) : Cn s a e c (w ++ w2) := ⟨h.e0,k.le,by rw [k.eq,h.eq,ze3]⟩
theorem cn_of {u : Nat} (h1 : u ≤ (s.drop a).length) (ha : a ≤ s.length) (h2 : (s.drop a).take u = w) : Cn s a 0 (a + u) w := ⟨rfl,by rw [zfd] at h1; omega,by rw [List.take_add,h2]⟩
theorem cnI {n : Int} (ha : a ≤ s.length) (h : rInt s a e = (n,b,0)) : Cn s a e b (uz n) ∧ Av.I64 n := by
 unfold rInt at h
 split at h
 ·rename_i h1
  simp only [Prod.mk.injEq] at h
  exact absurd h.2.2 h1
 ·rename_i h1
  split at h
  ·rename_i h2
   simp only [Prod.mk.injEq] at h
   exact absurd h.2.2 h2
  ·rename_i h2
   simp only [Prod.mk.injEq,and_true] at h
   obtain ⟨rfl,rfl⟩ := h
   have : e = 0 := by simpa using h1
   subst this
   have h2' : (Av.numL (s.drop a)).2.2 = 0 := by simpa using h2
   obtain ⟨g1,g2,g3,g4⟩ := Av.numL_canon (s := s.drop a) (n := (Av.numL (s.drop a)).1) (u := (Av.numL (s.drop a)).2.1) (by rw [← h2'])
   exact ⟨cn_of g2 ha g3,g4⟩
theorem cnN {n most : Int} (ha : a ≤ s.length) (h : zcb s a e most = (n,b,0)) : Cn s a e b (uz n) ∧ 0 ≤ n ∧ n ≤ max 0 most := by
 unfold zcb at h
 split at h
 ·rename_i h1
  simp only [Prod.mk.injEq] at h
  exact absurd h.2.2 h1
 ·rename_i h1
  split at h
  ·rename_i h2
   simp only [Prod.mk.injEq] at h
   exact absurd h.2.2 h2
  ·rename_i h2
   simp only [Prod.mk.injEq,and_true] at h
   obtain ⟨rfl,rfl⟩ := h
   have : e = 0 := by simpa using h1
   subst this
   have h2' : (zaD (s.drop a) most).2.2 = 0 := by simpa using h2
   obtain ⟨g1,g2,g3,g4,g5,g6⟩ := zcQ (s := s.drop a) (most := most) (n := (zaD (s.drop a) most).1) (u := (zaD (s.drop a) most).2.1) (by rw [← h2'])
   exact ⟨cn_of g5 ha g6,g1,g2⟩
theorem cnT {t : List UInt8} {most : Int} (ha : a ≤ s.length) (h : zcl s a e most = (t,b,0)) : Cn s a e b (uz t.length ++ t) ∧ (t.length : Int) ≤ max 0 most := by
 unfold zcl at h
 split at h
 ·rename_i h1
  simp only [Prod.mk.injEq] at h
  exact absurd h.2.2 h1
 ·rename_i h1
  have : e = 0 := by simpa using h1
  subst this
  obtain ⟨t',u,e',ht⟩ : ∃ t' u e',textL (s.drop a) most = (t',u,e') := ⟨_,_,_,rfl⟩
  rw [ht] at h
  simp only at h
  split at h
  ·rename_i h2
   simp only [Prod.mk.injEq] at h
   exact absurd h.2.2 h2
  ·rename_i h2
   simp only [Prod.mk.injEq,and_true] at h
   obtain ⟨rfl,rfl⟩ := h
   have : e' = 0 := by simpa using h2
   subst this
   unfold textL at ht
   split at ht
   ·rename_i h3
    simp only [Prod.mk.injEq] at ht
    exact absurd ht.2.2 h3
   ·rename_i h3
    split at ht
    ·simp at ht
    ·rename_i h4
     simp only [Prod.mk.injEq,and_true] at ht
     obtain ⟨rfl,rfl⟩ := ht
     have h3' : (zaD (s.drop a) most).2.2 = 0 := by simpa using h3
     obtain ⟨g1,g2,g3,g4,g5,g6⟩ := zcQ (s := s.drop a) (most := most) (n := (zaD (s.drop a) most).1) (u := (zaD (s.drop a) most).2.1) (by rw [← h3'])
     have hl : (((s.drop a).drop (zaD (s.drop a) most).2.1).take (zaD (s.drop a) most).1.toNat).length = (zaD (s.drop a) most).1.toNat := by
      rw [zfh,zfd]
      omega
     refine ⟨cn_of (by omega) ha ?_,by rw [hl]; omega⟩
     rw [List.take_add,g6,hl,Int.toNat_of_nonneg g1]
theorem cnC {c : Int × Int × List UInt8} (ha : a ≤ s.length) (h : getC s a e = (c,b,0)) : Cn s a e b (putC c.1 c.2.1 c.2.2) ∧ Av.I64 c.1 ∧ Av.I64 c.2.1 := by
 obtain ⟨k,a1,e1,h1⟩ : ∃ x y z,rInt s a e = (x,y,z) := ⟨_,_,_,rfl⟩
 have l1 := zaC (e := e) ha
 rw [h1] at l1
 obtain ⟨n,a2,e2,h2⟩ : ∃ x y z,rInt s a1 e1 = (x,y,z) := ⟨_,_,_,rfl⟩
 have l2 := zaC (e := e1) l1
 rw [h2] at l2
 obtain ⟨t,a3,e3,h3⟩ : ∃ x y z,zcl s a2 e2 255 = (x,y,z) := ⟨_,_,_,rfl⟩
 simp only at l1 l2
 unfold getC at h
 simp only [h1,h2,h3,Prod.mk.injEq] at h
 obtain ⟨rfl,rfl,rfl⟩ := h
 obtain ⟨q3,_⟩ := cnT l2 h3
 obtain rfl := q3.e0
 obtain ⟨q2,i2⟩ := cnI l1 h2
 obtain rfl := q2.e0
 obtain ⟨q1,i1⟩ := cnI ha h1
 exact ⟨(q1.trans q2).trans q3,i1,i2⟩
theorem cnE {x : Ent} (ha : a ≤ s.length) (h : getE s a e = (x,b,0)) : Cn s a e b (putE x) ∧ EntN x := by
 obtain ⟨c,a1,e1,h1⟩ : ∃ x y z,rInt s a e = (x,y,z) := ⟨_,_,_,rfl⟩
 have l1 := zaC (e := e) ha
 rw [h1] at l1
 obtain ⟨q,a2,e2,h2⟩ : ∃ x y z,rInt s a1 e1 = (x,y,z) := ⟨_,_,_,rfl⟩
 have l2 := zaC (e := e1) l1
 rw [h2] at l2
 obtain ⟨k,a3,e3,h3⟩ : ∃ x y z,rInt s a2 e2 = (x,y,z) := ⟨_,_,_,rfl⟩
 have l3 := zaC (e := e2) l2
 rw [h3] at l3
 obtain ⟨n,a4,e4,h4⟩ : ∃ x y z,rInt s a3 e3 = (x,y,z) := ⟨_,_,_,rfl⟩
 have l4 := zaC (e := e3) l3
 rw [h4] at l4
 obtain ⟨t,a5,e5,h5⟩ : ∃ x y z,zcl s a4 e4 255 = (x,y,z) := ⟨_,_,_,rfl⟩
 have l5 := zeA (most := 255) (e := e4) l4
 rw [h5] at l5
 obtain ⟨d,a6,e6,h6⟩ : ∃ x y z,getC s a5 e5 = (x,y,z) := ⟨_,_,_,rfl⟩
 simp only at l1 l2 l3 l4 l5
 unfold getE at h
 simp only [h1,h2,h3,h4,h5,h6,Prod.mk.injEq] at h
 obtain ⟨rfl,rfl,rfl⟩ := h
 obtain ⟨q6,j1,j2⟩ := cnC l5 h6
 obtain rfl := q6.e0
 obtain ⟨q5,_⟩ := cnT l4 h5
 obtain rfl := q5.e0
 obtain ⟨q4,i4⟩ := cnI l3 h4
 obtain rfl := q4.e0
 obtain ⟨q3,i3⟩ := cnI l2 h3
 obtain rfl := q3.e0
 obtain ⟨q2,i2⟩ := cnI l1 h2
 obtain rfl := q2.e0
 obtain ⟨q1,i1⟩ := cnI ha h1
 have := (((((q1.trans q2).trans q3).trans q4).trans q5).trans q6)
 refine ⟨⟨this.e0,this.le,?_⟩,i1,i2,i3,i4,j1,j2⟩
 rw [this.eq]
 simp only [putE,zb2,ne_eq,not_true,if_false,ze3,ze9]
theorem cnEs : ∀ {n : Nat} {l : List Ent} {a b : Nat} {e : Int},a ≤ s.length → zdW n s a e = (l,b,0) → Cn s a e b (zb9 l) ∧ l.length = n ∧ ∀ x ∈ l,EntN x
 | 0,l,a,b,e,ha,h => by
  simp only [zdW,Prod.mk.injEq] at h
  obtain ⟨rfl,rfl,rfl⟩ := h
  exact ⟨⟨rfl,ha,by simp [zb9]⟩,rfl,by simp⟩
 | n + 1,l,a,b,e,ha,h => by
  rw [zdW] at h
  split at h
  ·obtain ⟨x,a1,e1,h1⟩ : ∃ x y z,getE s a e = (x,y,z) := ⟨_,_,_,rfl⟩
   have l1 := getE_le (e := e) ha
   rw [h1] at l1
   obtain ⟨l',a2,e2,h2⟩ : ∃ x y z,zdW n s a1 e1 = (x,y,z) := ⟨_,_,_,rfl⟩
   simp only [h1,h2,Prod.mk.injEq] at h l1
   obtain ⟨rfl,rfl,rfl⟩ := h
   obtain ⟨q2,g2,g3⟩ := cnEs l1 h2
   obtain rfl := q2.e0
   obtain ⟨q1,g1⟩ := cnE ha h1
   refine ⟨q1.trans q2,by simp [g2],?_⟩
   intro y hy
   rcases List.mem_cons.1 hy with rfl | hy
   ·exact g1
   ·exact g3 y hy
  ·rename_i h1
   simp only [Prod.mk.injEq] at h
   exact absurd h.2.2 h1
theorem cnL {x : Lg} (ha : a ≤ s.length) (h : getL s a e = (x,b,0)) : Cn s a e b (putL x) ∧ Av.I64 x.b ∧ ∀ y ∈ x.l,EntN y := by
 obtain ⟨n,a1,e1,h1⟩ : ∃ x y z,rInt s a e = (x,y,z) := ⟨_,_,_,rfl⟩
 have l1 := zaC (e := e) ha
 rw [h1] at l1
 obtain ⟨t,a2,e2,h2⟩ : ∃ x y z,zcl s a1 e1 65536 = (x,y,z) := ⟨_,_,_,rfl⟩
 have l2 := zeA (most := 65536) (e := e1) l1
 rw [h2] at l2
 obtain ⟨c,a3,e3,h3⟩ : ∃ x y z,zcb s a2 e2 1048576 = (x,y,z) := ⟨_,_,_,rfl⟩
 have l3 := rCount_le (most := 1048576) (e := e2) l2
 rw [h3] at l3
 obtain ⟨l,a4,e4,h4⟩ : ∃ x y z,zdW c.toNat s a3 e3 = (x,y,z) := ⟨_,_,_,rfl⟩
 simp only at l1 l2 l3
 unfold getL at h
 simp only [h1,h2,h3,h4,Prod.mk.injEq] at h
 obtain ⟨rfl,rfl,rfl⟩ := h
 obtain ⟨q4,g4,i4⟩ := cnEs l3 h4
 obtain rfl := q4.e0
 obtain ⟨q3,g3,_⟩ := cnN l2 h3
 obtain rfl := q3.e0
 obtain ⟨q2,_⟩ := cnT l1 h2
 obtain rfl := q2.e0
 obtain ⟨q1,i1⟩ := cnI ha h1
 have := ((q1.trans q2).trans q3).trans q4
 simp only [ne_eq,not_true,if_false]
 refine ⟨⟨this.e0,this.le,?_⟩,i1,i4⟩
 rw [this.eq]
 simp only [putL,g4,Int.toNat_of_nonneg g3,ze3]
theorem cnR {x : Rpl} (ha : a ≤ s.length) (h : getR s (a,e) = (x,b,0)) : Cn s a e b (putR x) ∧ Av.I64 x.n := by
 obtain ⟨k,a1,e1,h1⟩ : ∃ x y z,rInt s a e = (x,y,z) := ⟨_,_,_,rfl⟩
 have l1 := zaC (e := e) ha
 rw [h1] at l1
 obtain ⟨n,a2,e2,h2⟩ : ∃ x y z,rInt s a1 e1 = (x,y,z) := ⟨_,_,_,rfl⟩
 have l2 := zaC (e := e1) l1
 rw [h2] at l2
 obtain ⟨t,a3,e3,h3⟩ : ∃ x y z,zcl s a2 e2 255 = (x,y,z) := ⟨_,_,_,rfl⟩
 simp only at l1 l2
 unfold getR at h
 simp only [h1,h2,h3,Prod.mk.injEq] at h
 obtain ⟨rfl,rfl,rfl⟩ := h
 obtain ⟨q3,_⟩ := cnT l2 h3
 obtain rfl := q3.e0
 obtain ⟨q2,i2⟩ := cnI l1 h2
 obtain rfl := q2.e0
 obtain ⟨q1,i1⟩ := cnI ha h1
 exact ⟨(q1.trans q2).trans q3,i2⟩
theorem cnO0 (ha : a ≤ s.length) (h : e = 0) : Cn s a e a [] := ⟨h,ha,by simp⟩
theorem cnOI {p : Bool} {n : Int} (ha : a ≤ s.length) (h : oI p s (a,e) = (n,b,0)) : Cn s a e b (oB p (uz n)) ∧ Av.I64 n := by
 cases p with
 | true => exact cnI ha h
 | false =>
  simp only [oI,zeX,if_false,Prod.mk.injEq] at h
  obtain ⟨rfl,rfl,rfl⟩ := h
  exact ⟨cnO0 ha rfl,by decide,by decide⟩
theorem cnOE {p : Bool} {n : Ent} (ha : a ≤ s.length) (h : oE p s (a,e) = (n,b,0)) : Cn s a e b (oB p (putE n)) ∧ EntN n := by
 cases p with
 | true => exact cnE ha h
 | false =>
  simp only [oE,zeX,if_false,Prod.mk.injEq] at h
  obtain ⟨rfl,rfl,rfl⟩ := h
  refine ⟨cnO0 ha rfl,?_⟩
  unfold EntN e0 Av.I64
  decide
theorem cnOL {p : Bool} {n : Lg} (ha : a ≤ s.length) (h : oL p s (a,e) = (n,b,0)) : Cn s a e b (oB p (putL n)) ∧ Av.I64 n.b ∧ ∀ y ∈ n.l,EntN y := by
 cases p with
 | true => exact cnL ha h
 | false =>
  simp only [oL,zeX,if_false,Prod.mk.injEq] at h
  obtain ⟨rfl,rfl,rfl⟩ := h
  exact ⟨cnO0 ha rfl,by unfold lg0 Av.I64; decide,by simp [lg0]⟩
theorem cnOR {p : Bool} {n : Rpl} (ha : a ≤ s.length) (h : oR p s (a,e) = (n,b,0)) : Cn s a e b (oB p (putR n)) ∧ Av.I64 n.n := by
 cases p with
 | true => exact cnR ha h
 | false =>
  simp only [oR,zeX,if_false,Prod.mk.injEq] at h
  obtain ⟨rfl,rfl,rfl⟩ := h
  exact ⟨cnO0 ha rfl,by unfold r0 Av.I64; decide⟩
theorem oI_le {p : Bool} {x : Nat × Int} (ha : x.1 ≤ s.length) : (oI p s x).2.1 ≤ s.length := by
 cases p with
 | true => exact zaC ha
 | false => exact ha
theorem oE_le {p : Bool} {x : Nat × Int} (ha : x.1 ≤ s.length) : (oE p s x).2.1 ≤ s.length := by
 cases p with
 | true => exact getE_le ha
 | false => exact ha
end
theorem getEs_le {s : List UInt8} : ∀ {n a : Nat} {e : Int},a ≤ s.length → (zdW n s a e).2.1 ≤ s.length
 | 0,a,e,ha => ha
 | n + 1,a,e,ha => by
  rw [zdW]
  split
  ·exact getEs_le (getE_le ha)
  ·exact ha
theorem getL_le {s : List UInt8} {a : Nat} {e : Int} (ha : a ≤ s.length) : (getL s a e).2.1 ≤ s.length := by
 unfold getL
 exact getEs_le (rCount_le (zeA (zaC ha)))
theorem oL_le {s : List UInt8} {p : Bool} {x : Nat × Int} (ha : x.1 ≤ s.length) : (oL p s x).2.1 ≤ s.length := by
 cases p with
 | true => exact getL_le ha
 | false => exact ha
theorem msgS_canon {s : List UInt8} {m : Mg} (h : msgS s = (m,0)) : payB m = s ∧ MgN m := by
 obtain ⟨k,a1,e1,h1⟩ : ∃ x y z,rInt s 0 0 = (x,y,z) := ⟨_,_,_,rfl⟩
 have l1 := zaC (s := s) (a := 0) (e := 0) (Nat.zero_le _)
 rw [h1] at l1
 obtain ⟨f,a2,e2,h2⟩ : ∃ x y z,rInt s a1 e1 = (x,y,z) := ⟨_,_,_,rfl⟩
 have l2 := zaC (e := e1) l1
 rw [h2] at l2
 obtain ⟨t,a3,e3,h3⟩ : ∃ x y z,rInt s a2 e2 = (x,y,z) := ⟨_,_,_,rfl⟩
 have l3 := zaC (e := e2) l2
 rw [h3] at l3
 obtain ⟨v,a4,e4,h4⟩ : ∃ x y z,oI (kV k) s (a3,e3) = (x,y,z) := ⟨_,_,_,rfl⟩
 have l4 := oI_le (p := kV k) (x := (a3,e3)) l3
 rw [h4] at l4
 obtain ⟨nr,a5,e5,h5⟩ : ∃ x y z,oI (kN k) s (a4,e4) = (x,y,z) := ⟨_,_,_,rfl⟩
 have l5 := oI_le (p := kN k) (x := (a4,e4)) l4
 rw [h5] at l5
 obtain ⟨op,a6,e6,h6⟩ : ∃ x y z,oI (kO k) s (a5,e5) = (x,y,z) := ⟨_,_,_,rfl⟩
 have l6 := oI_le (p := kO k) (x := (a5,e5)) l5
 rw [h6] at l6
 obtain ⟨cm,a7,e7,h7⟩ : ∃ x y z,oI (kC k) s (a6,e6) = (x,y,z) := ⟨_,_,_,rfl⟩
 have l7 := oI_le (p := kC k) (x := (a6,e6)) l6
 rw [h7] at l7
 obtain ⟨sq,a8,e8,h8⟩ : ∃ x y z,oI (kS k) s (a7,e7) = (x,y,z) := ⟨_,_,_,rfl⟩
 have l8 := oI_le (p := kS k) (x := (a7,e7)) l7
 rw [h8] at l8
 obtain ⟨en,a9,e9,h9⟩ : ∃ x y z,oE (kE k) s (a8,e8) = (x,y,z) := ⟨_,_,_,rfl⟩
 have l9 := oE_le (p := kE k) (x := (a8,e8)) l8
 rw [h9] at l9
 obtain ⟨lo,a10,e10,h10⟩ : ∃ x y z,oL (kL k) s (a9,e9) = (x,y,z) := ⟨_,_,_,rfl⟩
 have l10 := oL_le (p := kL k) (x := (a9,e9)) l9
 rw [h10] at l10
 obtain ⟨re,a11,e11,h11⟩ : ∃ x y z,oR (kR k) s (a10,e10) = (x,y,z) := ⟨_,_,_,rfl⟩
 simp only at l1 l2 l3 l4 l5 l6 l7 l8 l9 l10
 have hM : getM s = (⟨k,f,t,v,nr,op,cm,sq,en,lo,re⟩,a11,e11) := by
  unfold getM
  simp only [h1,h2,h3,h4,h5,h6,h7,h8,h9,h10,h11]
 unfold msgS at h
 simp only [hM] at h
 split at h
 ·simp at h
 ·split at h
  ·rename_i q1 q2
   simp only [Prod.mk.injEq] at h
   exact absurd h.2 q2
  ·rename_i q1 q2
   simp only [Prod.mk.injEq,and_true] at h
   subst h
   have q2' : endS s (a11,e11) = 0 := by simpa using q2
   unfold endS at q2'
   simp only at q2'
   split at q2'
   ·rename_i q3
    exact absurd q2' q3
   ·rename_i q3
    have : e11 = 0 := by simpa using q3
    subst this
    split at q2'
    ·simp at q2'
    ·rename_i q4
     obtain ⟨c11,i11⟩ := cnOR l10 h11
     obtain rfl := c11.e0
     obtain ⟨c10,i10,j10⟩ := cnOL l9 h10
     obtain rfl := c10.e0
     obtain ⟨c9,i9⟩ := cnOE l8 h9
     obtain rfl := c9.e0
     obtain ⟨c8,i8⟩ := cnOI l7 h8
     obtain rfl := c8.e0
     obtain ⟨c7,i7⟩ := cnOI l6 h7
     obtain rfl := c7.e0
     obtain ⟨c6,i6⟩ := cnOI l5 h6
     obtain rfl := c6.e0
     obtain ⟨c5,i5⟩ := cnOI l4 h5
     obtain rfl := c5.e0
     obtain ⟨c4,i4⟩ := cnOI l3 h4
     obtain rfl := c4.e0
     obtain ⟨c3,i3⟩ := cnI l2 h3
     obtain rfl := c3.e0
     obtain ⟨c2,i2⟩ := cnI l1 h2
     obtain rfl := c2.e0
     obtain ⟨c1,i1⟩ := cnI (Nat.zero_le _) h1
     have := ((((((((((c1.trans c2).trans c3).trans c4).trans c5).trans c6).trans c7).trans c8).trans c9).trans c10).trans c11)
     have e := this.eq
     rw [zft (by omega),List.take_zero,zeZ] at e
     exact ⟨e.symm,i1,i2,i3,i9,i10,j10,i11⟩
end Go.Av.Fn
/- Sums of bytes, az the program and az the document reckons them. No condition. -/
namespace Go.Av
set_option linter.unusedVariables false
theorem RelV.no {G : Gh} {es more : List V} {tok : Tok} {u : Value} (h : RelV G (.sl es more tok) u) : RelV G (.sl es more .no) u := by
 cases h with
 | nil _ => exact .nil rfl
 | sl a b c d e f => exact .sl a b c d e trivial
theorem RelL.no {G : Gh} {es more : List V} {tok : Tok} : ∀ {a b : List V} {us : List Value},RelL G (a ++ .sl es more tok :: b) us → RelL G (a ++ .sl es more .no :: b) us
 | [],b,_,.cons h k => .cons h.no k
 | x :: a,b,_,.cons h k => .cons h (RelL.no (a := a) k)
theorem zab.tok {P : Program} {Γ : Glob} {f : FuncId} {es more : List V} {tok : Tok} {m : Store} {R : Out → Store → Prop} (a b : List V) (h : zab P Γ f (a ++ .sl es more .no :: b) m R) : zab P Γ f (a ++ .sl es more tok :: b) m R :=
 ⟨h.1,fun G B0 mF w cargs hD hR hL => h.2 G B0 mF w cargs hD hR hL.no⟩
end Go.Av
namespace Go.Av.Fn
set_option linter.unusedSimpArgs false
set_option linter.unusedVariables false
set_option maxRecDepth 10000
open Go.Proofs
theorem conv_u32_u8 {n : Int} : convV Tryz.prog 140 5 (.val (.int .u32 n)) = some (.val (.int .u8 (IntKind.u8.wrap n))) := by kernel_rfl
theorem conv_u8_u32 {n : Int} : convV Tryz.prog 5 140 (.val (.int .u8 n)) = some (.val (.int .u32 (IntKind.u32.wrap n))) := by kernel_rfl
theorem u32_byte (n : Nat) : convV Tryz.prog 140 5 (u32 n) = some (by8 n.toUInt8) := by rw [u32,conv_u32_u8,le4_b0]
theorem byte_u32 (b : UInt8) : convV Tryz.prog 5 140 (by8 b) = some (u32 b.toNat) := by
 have := b.toNat_lt
 rw [by8,conv_u8_u32,wrap32,u32]
 congr 3
 omega
theorem u32_shr {P : Program} {T : TypeId} {xo yo : Operand} {yk : IntKind} {a : Nat} (b q : Nat) (hb : b ≤ 31) (hq : 2 ^ b = q) : binV P .shr T .other xo yo (u32 a) (.val (.int yk (b : Int))) = some (u32 (a / q)) := by
 subst hq
 rw [u32,bin_shr (by omega),zfv,show min b IntKind.u32.bits = b by show min b 32 = b; omega]
 rw [Int.fdiv_eq_ediv_of_nonneg _ (by exact Int.le_of_lt (by exact_mod_cast Nat.two_pow_pos b))]
 norm_cast
theorem u32_and1 {P : Program} {T : TypeId} {xo yo : Operand} {a : Nat} (ha : a < 4294967296) : binV P .and T .other xo yo (u32 a) (.val (.int .u32 1)) = some (u32 (a &&& 1)) := u32_and ha (by decide)
theorem u32_andK {P : Program} {T : TypeId} {xo yo : Operand} {a : Nat} (ha : a < 4294967296) : binV P .and T .other xo yo (u32 a) (.val (.int .u32 3988292384)) = some (u32 (a &&& 3988292384)) := u32_and ha (by decide)
theorem mask_lt (a : Nat) : (if a % 2 = 1 then 4294967295 else 0) < 4294967296 := by split <;> decide
def lowS (n : Nat) : Nat → List V
 | 0 => [.val (.int .u8 0),.val (.int .u8 0),.val (.int .u8 0),.val (.int .u8 0)]
 | 1 => [by8 n.toUInt8,.val (.int .u8 0),.val (.int .u8 0),.val (.int .u8 0)]
 | 2 => [by8 n.toUInt8,by8 (n / 256).toUInt8,.val (.int .u8 0),.val (.int .u8 0)]
 | 3 => [by8 n.toUInt8,by8 (n / 256).toUInt8,by8 (n / 65536).toUInt8,.val (.int .u8 0)]
 | _ => [by8 n.toUInt8,by8 (n / 256).toUInt8,by8 (n / 65536).toUInt8,by8 (n / 16777216).toUInt8]
theorem nb_lowS (k n i : Nat) : nbs k (lowS n i) := by
 unfold lowS
 split <;> simp only [nbS]
theorem idxA_ptr {n size i b o : Nat} {k : IntKind} (h : i < n) : idxAV n size (.ptr b o) (.val (.int k (i : Int))) = some (.ptr b (o + i * size)) := by
 simp only [idxAV]
 rw [if_pos (by omega)]
 rfl
theorem low_blk {n : Nat} (i : Nat) : ∀ a < 2,∀ x,lk [some (.var 138 (lowS n 0)),some (.var 138 (lowS n i))] a = some x → nbB 2 x := by
 intro a ha x hx
 have : a = 0 ∨ a = 1 := by omega
 rcases this with rfl | rfl <;> cases hx <;> simp only [nb_lowS,nbS]
section
variable {Γ : Glob} {m : Store}
theorem low_ok (n : Nat) : zab Tryz.prog Γ 84 [u32 n] m fun o m' => o = .ret (.agg ((le4 n).map by8)) ∧ m' = m := by
 refine zaG (zaL mixed F84_ok F84_h zaF (by simp only [u32,nbS]) ?_)
 simp only [F84,ss0,zeW,zeQ]
 simp only [ssH,zeQ,zeO,reduceIte,zeP,zeU,zeS,zeT]
 refine h_loop [0,2,3,5] 17 (fun k vs h => ∃ i : Nat,vs = [u32 n,.ptr 0 0,.ptr 1 0,it i] ∧ i + k = 5 ∧ i ≤ 4 ∧ h = [some (.var 138 (lowS n 0)),some (.var 138 (lowS n i))]) 5 (by decide) (by decide) (zfe 2) (zaQ rfl (by decide) (by decide) (by simp) (by show nbs 2 [u32 n,.ptr 0 0,.ptr 1 0,it 0]; simp only [u32,nbS]; decide) (low_blk (n := n) 0) ⟨0,rfl,rfl,by omega,rfl⟩) ?_
 rintro k t h J hJ hl ⟨i,hv,hk,hi,rfl⟩
 simp only [zfG,List.cons.injEq,and_true] at hv
 obtain ⟨h0,h2,h3,h5⟩ := hv
 rw [t_eq hl]
 simp only [zaE,upTo,h0,h2,h3,h5,ssH,zeQ,zeO,reduceIte,zeP,zeU,zeS,zeT]
 have : i = 0 ∨ i = 1 ∨ i = 2 ∨ i = 3 ∨ i = 4 := by omega
 rcases this with rfl | rfl | rfl | rfl | rfl
 ·simp only [lowS,show decide (((0 : Nat) : Int) < 4) = true from rfl,show IntKind.i64.wrap (8 * ((0 : Nat) : Int)) = ((0 : Nat) : Int) from rfl,u32_shr 0 1 (by decide) rfl,Nat.div_one,u32_byte,zbN,zb5,idxA_ptr (show 0 < 4 by decide),Nat.zero_add,Nat.reduceMul,zax (show 0 < 4611686018427387904 by decide),by8,ssH,zeQ,zeO,reduceIte,zeP,zeU,zeS,zeT]
  exact ⟨_,hJ (k - 1) (zfe 2) _ (by omega) (zaQ rfl (by decide) (by decide) (by simp) (by show nbs 2 [u32 n,.ptr 0 0,.ptr 1 0,it (1 : Int)]; simp only [u32,nbS]; decide) (low_blk (n := n) 1) ⟨1,rfl,by omega,by omega,rfl⟩)⟩
 ·simp only [lowS,show decide (((1 : Nat) : Int) < 4) = true from rfl,show IntKind.i64.wrap (8 * ((1 : Nat) : Int)) = ((8 : Nat) : Int) from rfl,u32_shr 8 256 (by decide) rfl,Nat.div_one,u32_byte,zbN,zb5,idxA_ptr (show 1 < 4 by decide),Nat.zero_add,Nat.reduceMul,zax (show 1 < 4611686018427387904 by decide),by8,ssH,zeQ,zeO,reduceIte,zeP,zeU,zeS,zeT]
  exact ⟨_,hJ (k - 1) (zfe 2) _ (by omega) (zaQ rfl (by decide) (by decide) (by simp) (by show nbs 2 [u32 n,.ptr 0 0,.ptr 1 0,it (2 : Int)]; simp only [u32,nbS]; decide) (low_blk (n := n) 2) ⟨2,rfl,by omega,by omega,rfl⟩)⟩
 ·simp only [lowS,show decide (((2 : Nat) : Int) < 4) = true from rfl,show IntKind.i64.wrap (8 * ((2 : Nat) : Int)) = ((16 : Nat) : Int) from rfl,u32_shr 16 65536 (by decide) rfl,Nat.div_one,u32_byte,zbN,zb5,idxA_ptr (show 2 < 4 by decide),Nat.zero_add,Nat.reduceMul,zax (show 2 < 4611686018427387904 by decide),by8,ssH,zeQ,zeO,reduceIte,zeP,zeU,zeS,zeT]
  exact ⟨_,hJ (k - 1) (zfe 2) _ (by omega) (zaQ rfl (by decide) (by decide) (by simp) (by show nbs 2 [u32 n,.ptr 0 0,.ptr 1 0,it (3 : Int)]; simp only [u32,nbS]; decide) (low_blk (n := n) 3) ⟨3,rfl,by omega,by omega,rfl⟩)⟩
 ·simp only [lowS,show decide (((3 : Nat) : Int) < 4) = true from rfl,show IntKind.i64.wrap (8 * ((3 : Nat) : Int)) = ((24 : Nat) : Int) from rfl,u32_shr 24 16777216 (by decide) rfl,Nat.div_one,u32_byte,zbN,zb5,idxA_ptr (show 3 < 4 by decide),Nat.zero_add,Nat.reduceMul,zax (show 3 < 4611686018427387904 by decide),by8,ssH,zeQ,zeO,reduceIte,zeP,zeU,zeS,zeT]
  exact ⟨_,hJ (k - 1) (zfe 2) _ (by omega) (zaQ rfl (by decide) (by decide) (by simp) (by show nbs 2 [u32 n,.ptr 0 0,.ptr 1 0,it (4 : Int)]; simp only [u32,nbS]; decide) (low_blk (n := n) 4) ⟨4,rfl,by omega,by omega,rfl⟩)⟩
 ·simp only [lowS,show decide (((4 : Nat) : Int) < 4) = false from rfl,ssH,zeQ,zeO,reduceIte,zeP,zeU,zeS,zeT]
  exact zaa (v := .agg ((le4 n).map by8)) rfl ⟨by simp only [zaS,nbS],rfl⟩
theorem more_ok (c : Nat) (hc : c < 4294967296) (l : List UInt8) {more : List V} (hm : nbs 0 more) (tok : Tok) (hl : l.length < 4611686018427387904) :
  zab Tryz.prog Γ 110 [u32 c,.sl (l.map by8) more tok] m fun o m' => o = .ret (u32 (moreN c l)) ∧ m' = m := by
 have hm2 : ∀ k,nbs k more := fun k => nbs_weaken hm
 refine zab.tok [u32 c] [] ?_
 refine zaG (zaL mixed F110_ok F110_h zaF (by simp only [ze2,zeZ,u32,zaS,hm,nbS]) ?_)
 simp only [F110,ze2,zeZ,ss0,zeW,zeQ]
 simp only [zdX,u32_not hc,zfc,ssH,zeQ,zeO,reduceIte,zeP,zeU,zeS,zeT]
 refine h_loop [5,10,11,12] 33 (fun n vs h => ∃ i : Nat,vs = [u32 (sumN (4294967295 - c) (l.take i)),.sl (l.map by8) more .no,it l.length,it i] ∧ i + n = l.length + 1 ∧ i ≤ l.length ∧ h = []) (l.length + 1) (by decide) (by decide) (zfe 0) (zaQ rfl (by decide) (by decide) (by simp) (by show nbs 0 [u32 (4294967295 - c),.sl (l.map by8) more .no,it l.length,it 0]; simp only [u32,zaS,hm,nbS]) (fun a ha => by omega) ⟨0,rfl,by omega,by omega,rfl⟩) ?_
 rintro k t h J hJ hlt ⟨i,hv,hk,hi,rfl⟩
 simp only [zfG,List.cons.injEq,and_true] at hv
 obtain ⟨h5,h10,h11,h12⟩ := hv
 have hs := sumN_lt (c := 4294967295 - c) (by omega) (l.take i)
 rw [t_eq hlt]
 simp only [zaE,upTo,h5,h10,h11,h12,ssH,zeQ,zeO,reduceIte,zeP,zeU,zeS,zeT]
 by_cases hil : i < l.length
 ·have hx : l[i]? = some l[i] := List.getElem?_eq_getElem hil
  have hst : sumN (4294967295 - c) (l.take (i + 1)) = byteN (sumN (4294967295 - c) (l.take i)) l[i] := by
   rw [List.take_add_one,hx,sumN_app]
   rfl
  generalize l[i] = b at hx hst
  generalize sumN (4294967295 - c) (l.take i) = z at hs hst
  have hb := b.toNat_lt
  have hi2 : idxLV 1 (.sl (l.map by8) more .no) (it i) = some (.elt [by8 b]) := idxLV_nat (e := by8 b) (by rw [List.getElem?_map,hx]; rfl) rfl
  simp only [show decide ((i : Int) < (l.length : Int)) = true from decide_eq_true (by omega),hi2,u32_xor hs (show b.toNat < 4294967296 by omega),zbN,byte_u32,ssH,zeQ,zeO,reduceIte,zeP,zeU,zeS,zeT]
  have hx0 : z ^^^ b.toNat < 4294967296 := Nat.xor_lt_two_pow (n := 32) (by omega) (by omega)
  refine h_loop [5,10,11,12,20] 33 (fun n vs h => ∃ j : Nat,vs = [u32 (bitsN j (z ^^^ b.toNat)),.sl (l.map by8) more .no,it l.length,it i,it j] ∧ j + n = 9 ∧ j ≤ 8 ∧ h = []) 9 (by decide) (by decide) (zfe 0) (zaQ rfl (by decide) (by decide) (by simp) (by show nbs 0 [u32 (z ^^^ b.toNat),.sl (l.map by8) more .no,it l.length,it i,it 0]; simp only [u32,zaS,hm,nbS]) (fun a ha => by omega) ⟨0,rfl,by omega,by omega,rfl⟩) ?_
  rintro k2 t2 h2 J2 hJ2 hlt2 ⟨j,hv2,hk2,hj,rfl⟩
  simp only [zfG,List.cons.injEq,and_true] at hv2
  obtain ⟨g5,g10,g11,g12,g20⟩ := hv2
  have hbj := bitsN_lt hx0 j
  rw [t_eq hlt2]
  simp only [zaE,upTo,g5,g10,g11,g12,g20,ssH,zeQ,zeO,reduceIte,zeP,zeU,zeS,zeT]
  by_cases hj8 : j < 8
  ·have ha1 : bitsN j (z ^^^ b.toNat) / 2 < 4294967296 := by omega
   have hm1 := mask_lt (bitsN j (z ^^^ b.toNat))
   have hm2 : (if bitsN j (z ^^^ b.toNat) % 2 = 1 then 4294967295 else 0) &&& 3988292384 < 4294967296 := Nat.and_lt_two_pow (n := 32) _ (by decide)
   simp only [show decide ((j : Int) < 8) = true from decide_eq_true (by omega),u32_shr1,u32_and1 hbj,zdX,u32_neg1,u32_andK hm1,u32_xor ha1 hm2,bitN_eq,zax (show j < 4611686018427387904 by omega),ssH,zeQ,zeO,reduceIte,zeP,zeU,zeS,zeT]
   exact ⟨_,hJ2 (k2 - 1) (zfe 0) _ (by omega) (zaQ rfl (by decide) (by decide) (by simp) (by show nbs 0 [u32 (bitN (bitsN j (z ^^^ b.toNat))),.sl (l.map by8) more .no,it l.length,it i,it (j + 1 : Nat)]; simp only [u32,zaS,hm,nbS]) (fun a ha => by omega) ⟨j + 1,rfl,by omega,by omega,rfl⟩)⟩
  ·have : j = 8 := by omega
   subst this
   simp only [show decide (((8 : Nat) : Int) < 8) = false from rfl,zax (show i < 4611686018427387904 by omega),ssH,zeQ,zeO,reduceIte,zeP,zeU,zeS,zeT]
   exact ⟨_,hJ (k - 1) (zfe 0) _ (by omega) (zaQ rfl (by decide) (by decide) (by simp) (by show nbs 0 [u32 (bitsN 8 (z ^^^ b.toNat)),.sl (l.map by8) more .no,it l.length,it (i + 1 : Nat)]; simp only [u32,zaS,hm,nbS]) (fun a ha => by omega) ⟨i + 1,by rw [hst]; rfl,by omega,by omega,rfl⟩)⟩
 ·have : i = l.length := by omega
  subst this
  rw [List.take_length] at hs
  simp only [show decide ((l.length : Int) < (l.length : Int)) = false from decide_eq_false (by omega),List.take_length,zdX,u32_not hs,ssH,zeQ,zeO,reduceIte,zeP,zeU,zeS,zeT]
  exact zaa (v := u32 (moreN c l)) rfl ⟨by simp only [u32,nbS],rfl⟩
theorem sum_ok (l : List UInt8) {more : List V} (hm : nbs 0 more) (tok : Tok) (hl : l.length < 4611686018427387904) : zab Tryz.prog Γ 85 [.sl (l.map by8) more tok] m fun o m' => o = .ret (u32 (crcN l)) ∧ m' = m := by
 refine zab.tok [] [] ?_
 refine zaG (zaL mixed F85_ok F85_h zaF (by simp only [zeZ,zaS,hm,nbS]) ?_)
 simp only [F85,zeZ,ss0,zeW,zeQ]
 simp only [ssH,zeQ,zeO,reduceIte,zeP,zeU,zeS,zeT]
 refine zam (v := u32 (crcN l)) (by exact fun m => more_ok 0 (by decide) l hm .no hl) (by simp only [zeZ,ze9,ze2,zaS,hm,nbS]) (by simp only [u32,nbS]) ?_
 simp only [ssH,zeQ,zeO,reduceIte,zeP,zeU,zeS,zeT]
 exact zaa (v := u32 (crcN l)) rfl ⟨by simp only [u32,nbS],rfl⟩
/-! ### The document's -/
end
end Go.Av.Fn
/- Frames put and got, az the program does. Conditions: az ahead. -/
namespace Go.Av
set_option linter.unusedVariables false
theorem RelV.notNil {G : Gh} {es more : List V} {u : Value} (h : RelV G (.sl es more .no) u) (hn : es ≠ [] ∨ more ≠ []) : RelV G (.sl es more .non) u := by
 cases h with
 | nil _ => rcases hn with h | h <;> exact absurd rfl h
 | sl a b c d e f => exact .sl a b c d e trivial
theorem zab.notNil {P : Program} {Γ : Glob} {f : FuncId} {es more b : List V} {m : Store} {R : Out → Store → Prop} (hn : es ≠ [] ∨ more ≠ []) (h : zab P Γ f (.sl es more .non :: b) m R) : zab P Γ f (.sl es more .no :: b) m R :=
 ⟨h.1,fun G B0 mF w cargs hD hR hL => h.2 G B0 mF w cargs hD hR (match hL with | .cons h k => .cons (h.notNil hn) k)⟩
section
variable {P : Program} {Γ : Glob} {Kp : V → Hl → Prop} {l : List Item} {K : HS → Prop} {t : List V} {h : Hl} {d : Option Tmp} {s : List (Tmp × Option (Tmp × Bool) × AOp)}
theorem happ_tipz {e : TypeId} {bytes size j k : Nat} {ys : List V} {x : V} (hx : extra (lk h) size x = some ys) (hne : ys ≠ []) (hj : lk h j = some (.tip e k)) (h2 : elemsB size ys = true) (h3 : roomB ys.length bytes)
  (hr : hth P Γ Kp s l K (hput t (hset h j (some (.tip e (k + 1)))) d (some (.sl ys [] (.tip j (k + 1)))))) : happS P Γ Kp e bytes size (.sl [] [] (.tipz j k size)) x d s l K t h := by
 unfold happS
 simp only [hopE,hx]
 exact ⟨fun q => absurd q hne,fun _ => ⟨rfl,h2,by simpa using h3,trivial,trivial,hj,hr⟩⟩
theorem nbT_tipz {k j v z : Nat} : nbT k (.tipz j v z) = (j < k) := propext ⟨fun h => h.1.2,fun h => ⟨⟨rfl,h⟩,rfl,rfl⟩⟩
theorem q_capS {x : Operand} : zaW (.capS x) = true := (rfl)
def capV : V → Option V
 | .sl es [] .full => some (.val (.int .i64 es.length))
 | .sl [] [] (.zero _) => some (.val (.int .i64 0))
 | .arr _ _ _ c => some (.val (.int .i64 c))
 | _ => none
theorem eval_capS {m : Store} {x : Operand} : zao P (ev Γ t) m (.capS x) = capV (ev Γ t x) := (rfl)
theorem capV_nil : capV (.sl [] [] .full) = some (.val (.int .i64 0)) := (rfl)
theorem q_sliceP {n z : Nat} {x : Operand} {lo hi mx : Option Operand} : zaW (.sliceP n z x lo hi mx) = true := (rfl)
theorem q_s2ap {n : Nat} {x : Operand} : zaW (.s2ap n x) = true := (rfl)
theorem hO_appz {e : TypeId} {bytes size : Nat} {z n : Operand} {i : Nat} (h1 : ev Γ t z = .sl [] [] .full) (h2 : ev Γ t n = .val (.int .i64 (i : Int))) (hi : 0 < i) (hb : i * bytes ≤ 140737488355328) (hl : h.length < 1000000)
  (hr : hth P Γ Kp s l K (hput t (h ++ [some (.tip e 0)]) d (some (.res h.length 0 size i)))) : hO P Γ Kp (⟨d,none,.appz e bytes size z n,s⟩ :: l) K (some ⟨t,h⟩) := by
 rw [hO_eff]
 simp only [hopE,h1,h2,zfv]
 refine ⟨by omega,hb,hl,?_⟩
 cases d <;> exact hr
end
end Go.Av
namespace Go.Av.Fn
set_option linter.unusedSimpArgs false
set_option linter.unusedVariables false
set_option maxRecDepth 10000
open Go.Proofs
theorem eq_nil8 {xo yo : Operand} {T : TypeId} {l : List UInt8} {more : List V} : binV Tryz.prog .eql T .slice xo yo (.sl (l.map by8) more .non) (.sl [] [] .full) = some (.val (.bool false)) := by
 have hs : zbZ .slice (.sl (l.map by8) more .non) = true := by cases l <;> rfl
 unfold binV
 rw [hs]
 rfl
section
variable {Γ : Glob} {m : Store}
def slN (l : List UInt8) : V := .sl (l.map by8) [] .non
theorem zcO {k : Nat} {l : List UInt8} : nb k (slN l) := by simp only [slN,zaS,nbS]
theorem fClone_ok (l mo : List UInt8) (hl : l.length ≤ 100000000) (h : l ≠ [] ∨ mo ≠ []) (tok : Tok) : zab Tryz.prog Γ 86 [.sl (l.map by8) (mo.map by8) tok] m fun o m' => (∃ v,o = .ret v ∧ v = slN l) ∧ m' = m := by
 refine zab.tok [] [] ?_
 refine zab.notNil (h.imp zaO zaO) ?_
 refine acalls_pn mixed F86_ok F86_h zaF (by simp only [zaS,nbS]) ?_
 simp only [F86,ss0,zeW,zeQ]
 simp only [eq_nil8,lits_zero,ssH,zeQ,zeO,reduceIte,zeP,zeU,zeS,zeT]
 by_cases h0 : l = []
 ·subst h0
  refine happ_none rfl ?_
  simp only [ssH,zeQ,zeO,reduceIte,zeP,zeU,zeS,zeT]
  exact zaa zah ⟨zcO (l := []),rfl⟩
 ·refine happ_zero (ys := l.map by8) rfl (zaO h0) (by simp only [zeV,ze0,zeQ,zeU]) rfl (elemsB_by8 _) (by simp only [zfc,ze0]; omega) ?_
  simp only [ssH,zeQ,zeO,reduceIte,zeP,zeU,zeS,zeT]
  have e : ∀ k,wN (.sl (l.map by8) [] (.tip k 0)) = slN l := fun k => by
   have : wNs (l.map by8) = l.map by8 := wNs_map (fun _ => rfl) l
   simp only [wN,this,wNs,slN]
   cases l with
   | nil => exact absurd rfl h0
   | cons b l => rfl
  exact zaa zah ⟨by simp only [zac,zad,e,zcO],by simp only [zac,zad,e]⟩
theorem fGrow_ok (n : Nat) (h0 : 0 < n) (hn : n ≤ 100000000) : FC Tryz.prog Γ 142 [.sl [] [] .full,it n] [] fun v h' => v = .sl [] [] (.tipz 0 0 1) ∧ h' = [some (.tip 5 0)] := by
 refine fc mixed F142_ok F142_h zaF ?_
 simp only [F142,ze0,ss0,zeW,zeQ]
 have w1 : IntKind.i64.wrap ((n : Int) - IntKind.i64.wrap (0 - ((0 : Nat) : Int))) = (n : Int) := by
  rw [show IntKind.i64.wrap (0 - ((0 : Nat) : Int)) = 0 from rfl,wrap_i64 (by omega) (by omega)]
  omega
 simp only [show decide ((n : Int) < 0) = false from decide_eq_false (by omega),q_capS,eval_capS,capV_nil,w1,gt_iff_lt,show decide ((0 : Int) < (n : Int)) = true from decide_eq_true (by omega),zbw,show zew 1 (V.sl [] [] Tok.full) (some none) (some (some 0)) (some none) = some (.sl [] [] .full) from rfl,ssH,zeQ,zeO,reduceIte,zeP,zeU,zeS,zeT]
 refine hO_appz (i := n) rfl rfl h0 (by omega) (by decide) ?_
 simp only [zbw,show ∀ k,zew 1 (.res k 0 1 n) (some none) (some (some ((0 : Nat) : Int))) (some none) = some (.sl [] [] (.tipz k 0 1)) from fun k => rfl,ssH,zeQ,zeO,reduceIte,zeP,zeU,zeS,zeT]
 exact zaa zah ⟨rfl,rfl⟩
def catV (lg x mo : List UInt8) (k : Nat) : V := .sl [.sl [] [] .full,.sl (lg.map by8) [] (.tip 0 k),.sl (x.map by8) (mo.map by8) .no,.arr 1 0 4 4] [] .full
theorem nb_catV {n : Nat} (hn : 2 ≤ n) (lg x mo : List UInt8) (k : Nat) : nb n (catV lg x mo k) := by
 simp only [catV,zaS,nbS]
 refine ⟨?_,?_⟩ <;> omega
theorem lenV_arr {b o n c : Nat} : lenV false (.arr b o n c) = some (it n) := (rfl)
def szC (lg x : List UInt8) : Nat → Nat
 | 0 => 0
 | 1 => 0
 | 2 => lg.length
 | 3 => lg.length + x.length
 | _ => lg.length + x.length + 4
def wB (w : List UInt8) : Blk := .var 138 (w.map by8)
theorem two_w {w : List UInt8} {n : Nat} : ∀ a < 2,∀ x,lk [none,some (wB w)] a = some x → nbB n x := by
 intro a ha x hx
 have : a = 0 ∨ a = 1 := by omega
 rcases this with rfl | rfl
 ·cases hx
 ·cases hx; simp only [wB,zaS,nbS]
theorem ex_w {w : List UInt8} (hw : w.length = 4) {x z : Option Blk} : extra (lk [x,some (wB w),z]) 1 (.arr 1 0 4 4) = some (w.map by8) := by
 have h1 : ((w.map by8).drop 0).take 4 = w.map by8 := by rw [zfH,zft (by simp [hw])]
 have h2 : (w.map by8).all oneV = true := List.all_eq_true.2 fun v hv => by
  obtain ⟨b,_,rfl⟩ := List.mem_map.1 hv
  rfl
 show (if 1 = 1 ∧ 0 + 4 ≤ (w.map by8).length ∧ (((w.map by8).drop 0).take 4).all oneV = true then some (((w.map by8).drop 0).take 4) else none) = _
 rw [h1,if_pos ⟨rfl,by simp [hw],h2⟩]
def accC (lg x w : List UInt8) : Nat → List UInt8
 | 2 => lg
 | 3 => lg ++ x
 | _ => lg ++ x ++ w
def OutC (lg x w : List UInt8) (i v : Nat) (out : V) : Prop := (i ≤ 1 ∧ v = 0 ∧ out = .sl [] [] (.tipz 2 0 1)) ∨ (2 ≤ i ∧ out = .sl ((accC lg x w i).map by8) [] (.tip 2 v))
theorem outC_nb {lg x w : List UInt8} {i v : Nat} {out : V} (h : OutC lg x w i v out) : nb 3 out := by
 rcases h with ⟨_,_,rfl⟩ | ⟨_,rfl⟩
 ·simp only [nbT_tipz,nbS]; decide
 ·simp only [zaS,nbS]; decide
theorem fConcat_ok (lg x w mo : List UInt8) (k : Nat) (hlg : lg ≠ []) (hw : w.length = 4) (h1 : lg.length ≤ 10000000) (h2 : x.length ≤ 10000000) :
  FC Tryz.prog Γ 111 [catV lg x mo k] [none,some (wB w)] fun v h' => ∃ j,v = .sl ((lg ++ x ++ w).map by8) [] (.tip 2 j) ∧ h' = [none,some (wB w),some (.tip 5 j)] := by
 have e0 : idxLV 1 (catV lg x mo k) (it ((0 : Nat) : Int)) = some (.elt [.sl [] [] .full]) := rfl
 have e1 : idxLV 1 (catV lg x mo k) (it ((1 : Nat) : Int)) = some (.elt [.sl (lg.map by8) [] (.tip 0 k)]) := rfl
 have e2 : idxLV 1 (catV lg x mo k) (it ((2 : Nat) : Int)) = some (.elt [.sl (x.map by8) (mo.map by8) .no]) := rfl
 have e3 : idxLV 1 (catV lg x mo k) (it ((3 : Nat) : Int)) = some (.elt [.arr 1 0 4 4]) := rfl
 have el : lenV false (catV lg x mo k) = some (it ((4 : Nat) : Int)) := rfl
 have hnb := nb_catV (n := 2) (by decide) lg x mo k
 refine fc mixed F111_ok F111_h zaF ?_
 simp only [F111,zeV,ze0,ss0,zeW,zeQ]
 simp only [el,ssH,zeQ,zeO,reduceIte,zeP,zeU,zeS,zeT]
 refine h_loop [0,3,9,10,11] 36 (fun n vs h => ∃ i : Nat,vs = [catV lg x mo k,it (szC lg x i : Nat),catV lg x mo k,it ((4 : Nat) : Int),it (i : Int)] ∧ i + n = 5 ∧ i ≤ 4 ∧ h = [none,some (wB w)]) 5 (by decide) (by decide) (zfe 2) (zaQ rfl (by decide) (by decide) (by simp) (by show nbs 2 [catV lg x mo k,it 0,catV lg x mo k,it 4,it 0]; simp only [hnb,nbS]) two_w ⟨0,rfl,rfl,by omega,rfl⟩) ?_
 rintro n t h J hJ hlt ⟨i,hv,hk,hi,rfl⟩
 simp only [zfG,List.cons.injEq,and_true] at hv
 obtain ⟨g0,g3,g9,g10,g11⟩ := hv
 rw [t_eq hlt]
 simp only [zaE,upTo,g0,g3,g9,g10,g11,ssH,zeQ,zeO,reduceIte,zeP,zeU,zeS,zeT]
 have hback : ∀ (i : Nat),i ≤ 4 → 5 - i < n → ∀ t3 : List V,t3.length = 36 → [0,3,9,10,11].map (tget t3) = [catV lg x mo k,it (szC lg x i : Nat),catV lg x mo k,it ((4 : Nat) : Int),it (i : Int)] → J (zfe 2) ⟨t3,[none,some (wB w)]⟩ := by
  intro i hi4 hn t3 ht3 hm3
  refine hJ (5 - i) (zfe 2) _ hn (zaQ ht3 (by decide) (by decide) (by simp) ?_ two_w ⟨i,hm3,by omega,hi4,rfl⟩)
  rw [hm3]
  simp only [hnb,nbS]
 have A : ∀ (a b c : Nat),a + b = c → c < 1000000000 → IntKind.i64.wrap ((a : Int) + (b : Int)) = (c : Int) := fun a b c h1 h2 => by rw [wrap_i64 (by omega) (by omega)]; omega
 have A0 : ∀ c : Nat,decide ((c : Int) < 0) = false := fun c => decide_eq_false (by omega)
 have n4 : ∀ i : Nat,i < 4 → decide ((i : Int) < ((4 : Nat) : Int)) = true := fun i h => decide_eq_true (by omega)
 have : i = 0 ∨ i = 1 ∨ i = 2 ∨ i = 3 ∨ i = 4 := by omega
 rcases this with rfl | rfl | rfl | rfl | rfl
 ·simp only [szC,n4 0 (by decide),e0,zaX,lenV_arr,zfc,ze0,A 0 0 0 (by omega) (by omega),A0,zax (show 0 < 4611686018427387904 by decide),ssH,zeQ,zeO,reduceIte,zeP,zeU,zeS,zeT]
  exact ⟨_,hback 1 (by omega) (by omega) _ rfl rfl⟩
 ·simp only [szC,n4 1 (by decide),e1,zaX,lenV_arr,zfc,ze0,A 0 lg.length lg.length (by omega) (by omega),A0,zax (show 1 < 4611686018427387904 by decide),ssH,zeQ,zeO,reduceIte,zeP,zeU,zeS,zeT]
  exact ⟨_,hback 2 (by omega) (by omega) _ rfl rfl⟩
 ·simp only [szC,n4 2 (by decide),e2,zaX,lenV_arr,zfc,ze0,A lg.length x.length (lg.length + x.length) (by omega) (by omega),A0,zax (show 2 < 4611686018427387904 by decide),ssH,zeQ,zeO,reduceIte,zeP,zeU,zeS,zeT]
  exact ⟨_,hback 3 (by omega) (by omega) _ rfl rfl⟩
 ·simp only [szC,n4 3 (by decide),e3,zaX,lenV_arr,zfc,ze0,A (lg.length + x.length) 4 (lg.length + x.length + 4) (by omega) (by omega),A0,zax (show 3 < 4611686018427387904 by decide),ssH,zeQ,zeO,reduceIte,zeP,zeU,zeS,zeT]
  exact ⟨_,hback 4 (by omega) (by omega) _ rfl rfl⟩
 ·simp only [szC,show decide (((4 : Nat) : Int) < ((4 : Nat) : Int)) = false from rfl,ssH,zeQ,zeO,reduceIte,zeP,zeU,zeS,zeT]
  refine hcall_f (args0 := [.sl [] [] .full,it ((lg.length + x.length + 4 : Nat) : Int)]) (hs := []) [] (fGrow_ok (Γ := Γ) (lg.length + x.length + 4) (by omega) (by omega)) rfl (by first | exact LR.nil | simp only [nbS]) trivial rfl (by decide) (by simp) (by trivial) (by simp) ?_
  rintro v h' ⟨rfl,rfl⟩
  refine ⟨⟨by decide,by simp only [nbT_tipz,nbS]; decide,by simp only [nbH_some,nbH_nil,nbS],trivial⟩,?_⟩
  simp only [ren,rens,renT,renB,nmf_nil,putB_nil,zfG,Option.map,el,ssH,zeQ,zeO,reduceIte,zeP,zeU,zeS,zeT]
  clear hback hJ
  have blk3 : ∀ v,∀ a < 3,∀ y,lk [none,some (wB w),some (.tip 5 v)] a = some y → nbB 3 y := by
   intro v a ha y hy
   have : a = 0 ∨ a = 1 ∨ a = 2 := by omega
   rcases this with rfl | rfl | rfl
   ·cases hy
   ·cases hy; simp only [wB,zaS,nbS]
   ·cases hy; simp only [nbS]
  have hnb3 := nb_catV (n := 3) (by decide) lg x mo k
  refine h_loop [6,25,26,27] 36 (fun n vs h => ∃ (i v : Nat) (out : V),vs = [out,catV lg x mo k,it ((4 : Nat) : Int),it (i : Int)] ∧ i + n = 5 ∧ i ≤ 4 ∧ OutC lg x w i v out ∧ h = [none,some (wB w),some (.tip 5 v)]) 5 (by decide) (by decide) (zfe 3) (zaQ rfl (by decide) (by decide) (by simp) (by show nbs 3 [.sl [] [] (.tipz 2 0 1),catV lg x mo k,it 4,it 0]; simp only [hnb3,nbT_tipz,nbS]; decide) (blk3 0) ⟨0,0,_,rfl,rfl,by omega,.inl ⟨by omega,rfl,rfl⟩,rfl⟩) ?_
  clear hlt g0 g3 g9 g10 g11
  rintro n t h J hJ hlt ⟨i,v,out,hv,hk,hi,hO,rfl⟩
  simp only [zfG,List.cons.injEq,and_true] at hv
  obtain ⟨g6,g25,g26,g27⟩ := hv
  rw [t_eq hlt]
  simp only [zaE,upTo,g6,g25,g26,g27,ssH,zeQ,zeO,reduceIte,zeP,zeU,zeS,zeT]
  have hback : ∀ (i v : Nat) (out : V),i ≤ 4 → 5 - i < n → OutC lg x w i v out → ∀ t3 : List V,t3.length = 36 → [6,25,26,27].map (tget t3) = [out,catV lg x mo k,it ((4 : Nat) : Int),it (i : Int)] → J (zfe 3) ⟨t3,[none,some (wB w),some (.tip 5 v)]⟩ := by
   intro i v out hi4 hn hO t3 ht3 hm3
   have hob := outC_nb hO
   refine hJ (5 - i) (zfe 3) _ hn (zaQ ht3 (by decide) (by decide) (by simp) ?_ (blk3 v) ⟨i,v,out,hm3,by omega,hi4,hO,rfl⟩)
   rw [hm3]
   simp only [hnb3,hob,nbS]
  have : i = 0 ∨ i = 1 ∨ i = 2 ∨ i = 3 ∨ i = 4 := by omega
  rcases this with rfl | rfl | rfl | rfl | rfl
  ·rcases hO with ⟨_,rfl,rfl⟩ | ⟨q,_⟩
   ·simp only [n4 0 (by decide),e0,ssH,zeQ,zeO,reduceIte,zeP,zeU,zeS,zeT]
    refine happ_none rfl ?_
    simp only [zax (show 0 < 4611686018427387904 by decide),ssH,zeQ,zeO,reduceIte,zeP,zeU,zeS,zeT]
    exact ⟨_,hback 1 0 _ (by omega) (by omega) (.inl ⟨by omega,rfl,rfl⟩) _ rfl rfl⟩
   ·omega
  ·rcases hO with ⟨_,rfl,rfl⟩ | ⟨q,_⟩
   ·simp only [n4 1 (by decide),e1,ssH,zeQ,zeO,reduceIte,zeP,zeU,zeS,zeT]
    refine happ_tipz (j := 2) (k := 0) (ys := lg.map by8) rfl (zaO hlg) rfl (elemsB_by8 _) (.inl (by simp only [zfc]; omega)) ?_
    simp only [zax (show 1 < 4611686018427387904 by decide),ssH,zeQ,zeO,reduceIte,zeP,zeU,zeS,zeT]
    exact ⟨_,hback 2 1 _ (by omega) (by omega) (.inr ⟨by omega,rfl⟩) _ rfl rfl⟩
   ·omega
  ·rcases hO with ⟨q,_⟩ | ⟨_,rfl⟩
   ·omega
   ·simp only [n4 2 (by decide),e2,accC,ssH,zeQ,zeO,reduceIte,zeP,zeU,zeS,zeT]
    by_cases hx : x = []
    ·subst hx
     refine happ_none rfl ?_
     simp only [zax (show 2 < 4611686018427387904 by decide),ssH,zeQ,zeO,reduceIte,zeP,zeU,zeS,zeT]
     exact ⟨_,hback 3 v _ (by omega) (by omega) (.inr ⟨by omega,by rw [accC,ze9]; rfl⟩) _ rfl rfl⟩
    ·refine happ_tip (j := 2) (k := v) (ys := x.map by8) rfl (zaO hx) (zaO hlg) rfl (zaR _) (elemsB_by8 _) (by simp only [zfc]; omega) ?_
     simp only [zax (show 2 < 4611686018427387904 by decide),ssH,zeQ,zeO,reduceIte,zeP,zeU,zeS,zeT]
     exact ⟨_,hback 3 (v + 1) _ (by omega) (by omega) (.inr ⟨by omega,by rw [accC,zfu]; rfl⟩) _ rfl rfl⟩
  ·rcases hO with ⟨q,_⟩ | ⟨_,rfl⟩
   ·omega
   ·simp only [n4 3 (by decide),e3,accC,ssH,zeQ,zeO,reduceIte,zeP,zeU,zeS,zeT]
    refine happ_tip (j := 2) (k := v) (ys := w.map by8) (ex_w hw) (zaO (by intro h; rw [h] at hw; simp at hw)) (zaO (by simp [hlg])) rfl (zaR _) (elemsB_by8 _) (by simp only [zfc,zeY]; omega) ?_
    simp only [zax (show 3 < 4611686018427387904 by decide),ssH,zeQ,zeO,reduceIte,zeP,zeU,zeS,zeT]
    exact ⟨_,hback 4 (v + 1) _ (by omega) (by omega) (.inr ⟨by omega,by show _ = V.sl (((lg ++ x) ++ w).map by8) [] (.tip 2 (v + 1)); rw [zfu (l₁ := lg ++ x)]; rfl⟩) _ rfl rfl⟩
  ·rcases hO with ⟨q,_⟩ | ⟨_,rfl⟩
   ·omega
   ·simp only [show decide (((4 : Nat) : Int) < ((4 : Nat) : Int)) = false from rfl,accC,ssH,zeQ,zeO,reduceIte,zeP,zeU,zeS,zeT]
    exact zaa zah ⟨v,rfl,rfl⟩
theorem rens_by8 {σ : Nat → Nat} {l : List UInt8} : rens σ (l.map by8) = l.map by8 := rens_nb (zaf l)
theorem eval_sliceP {P : Program} {t : List V} {m : Store} {n z b o : Nat} {x : Operand} (h : ev Γ t x = .ptr b o) : zao P (ev Γ t) m (.sliceP n z x none none none) = some (.arr b o n n) := by
 simp only [zao,h,zbd,bounds,Option.getD_none]
 rw [if_pos ⟨by decide,by omega,by omega,by omega,fun h => by cases h⟩]
 simp
theorem lit4_sl {P : Program} {t : List V} {m : Store} {a b c d : Tmp} {x y z w : V} (h1 : ev Γ t (.tmp a) = x) (h2 : ev Γ t (.tmp b) = y) (h3 : ev Γ t (.tmp c) = z) (h4 : ev Γ t (.tmp d) = w) (k1 : x.cells.length = 1) (k2 : y.cells.length = 1) (k3 : z.cells.length = 1) (k4 : w.cells.length = 1) :
  zao P (ev Γ t) m (.lits 1 [.sl [] [] .full] 4 [(0,.tmp a),(1,.tmp b),(2,.tmp c),(3,.tmp d)]) = some (.sl [x,y,z,w] [] .full) := by
 show (zcX 1 [.sl [] [] .full,.sl [] [] .full,.sl [] [] .full,.sl [] [] .full] [(0,ev Γ t (.tmp a)),(1,ev Γ t (.tmp b)),(2,ev Γ t (.tmp c)),(3,ev Γ t (.tmp d))]).map (fun es => V.sl es [] .full) = _
 rw [h1,h2,h3,h4]
 simp [zcX,k1,k2,k3,k4]
theorem wN_bytes {l : List UInt8} {j v : Nat} (h : l ≠ []) : wN (.sl (l.map by8) [] (.tip j v)) = slN l := by
 have e : wNs (l.map by8) = l.map by8 := wNs_map (fun _ => rfl) l
 simp only [wN,e,wNs,slN]
 cases l with
 | nil => exact absurd rfl h
 | cons b l => rfl
theorem le4_fits (n : Nat) : (((le4 n).map by8).length = 4 ∧ ((le4 n).map by8).all oneV = true) = True := eq_true ⟨rfl,rfl⟩
theorem le4_set (n : Nat) : setV [V.val (.int .u8 0),V.val (.int .u8 0),V.val (.int .u8 0),V.val (.int .u8 0)] 0 ((le4 n).map by8) = (le4 n).map by8 := rfl
theorem fPut_ok (x mo : List UInt8) (tok : Tok) (hx : x.length ≤ 1048576) : zab Tryz.prog Γ 65 [.sl [] [] .full,.sl (x.map by8) (mo.map by8) tok] m fun o m' => (∃ v,o = .ret v ∧ v = .tup [slN (frB x),it 0]) ∧ m' = m := by
 refine zab.tok [.sl [] [] .full] [] ?_
 have z1 := zaT (n := (x.length : Int)) ⟨by omega,by omega⟩
 refine acalls_pn mixed F65_ok F65_h zaF (by simp only [ze2,zeZ,zaS,nbS]) ?_
 simp only [F65,ze2,zeZ,ss0,zeW,zeQ]
 simp only [zfc,gt_iff_lt,show decide ((1048576 : Int) < (x.length : Int)) = false from decide_eq_false (by omega),ssH,zeQ,zeO,reduceIte,zeP,zeU,zeS,zeT]
 refine hcall_buf0 (e := 5) (size := 1) (az := [it x.length]) (es2 := (uz x.length).map by8) (by simp) rfl (zaO (zet _)) (fun m => zbj (Γ := Γ) (l := []) (.inr ⟨rfl,rfl,rfl⟩) (n := (x.length : Int)) ⟨by omega,by omega⟩ (by simp)) (by first | exact LR.nil | simp only [nbS]) (zaf _) fun k => ?_
 simp only [ssH,zeQ,zeO,reduceIte,zeP,zeU,zeS,zeT]
 have hc : crcN (uz x.length) < 4294967296 := moreN_lt _
 refine hcall_sl (v := u32 (crcN (uz x.length))) rfl (fun m tok' => sum_ok (uz x.length) .nil tok' (by omega)) (zaf _) .nil .nil (by simp only [u32,nbS]) ?_
 simp only [ssH,zeQ,zeO,reduceIte,zeP,zeU,zeS,zeT]
 refine zam (v := u32 (crcN (hdB x))) (fun m => by have := more_ok (Γ := Γ) (m := m) (crcN (uz x.length)) hc x (more := mo.map by8) (zaf _) .no (by omega); rw [show moreN (crcN (uz x.length)) x = crcN (hdB x) from moreN_app 0 _ _] at this; exact this) (by simp only [zeZ,ze9,ze2,u32,zaS,nbS]) (by simp only [u32,nbS]) ?_
 simp only [ssH,zeQ,zeO,reduceIte,zeP,zeU,zeS,zeT]
 refine zam (v := .agg ((le4 (crcN (hdB x))).map by8)) (fun m => low_ok _) (by simp only [zeZ,ze9,ze2,u32,nbS]) (by simp only [zaS,nbS]) ?_
 simp only [zaj,le4_fits,if_true,le4_set,q_sliceP,ssH,zeQ,zeO,reduceIte,zeP,zeU,zeS,zeT]
 rw [eval_sliceP (b := 1) (o := 0) rfl]
 simp only [ssH,zeQ,zeO,reduceIte,zeP,zeU,zeS,zeT]
 rw [lit4_sl rfl rfl rfl rfl rfl rfl rfl rfl]
 simp only [ssH,zeQ,zeO,reduceIte,zeP,zeU,zeS,zeT]
 refine hcall_f (args0 := [catV (uz x.length) x mo k]) (hs := [none,some (wB (le4 (crcN (hdB x))))]) [0,1] (fConcat_ok (Γ := Γ) (uz x.length) x (le4 (crcN (hdB x))) mo k (zet _) rfl (by omega) (by omega)) (by simp only [catV,rens,ren,renT,zb7,zb8,rens_by8]; rfl) (by simp only [zeV,ze0,nbs_cons,nb_catV (show 2 ≤ 2 by decide),nbs_nil,and_self]) (by simp only [nbH_none,nbH_some,nbH_nil,wB,zaS,nbS]) rfl (by decide) (by simp) (by simp only [cellsH_none,zdB,zes,wB,renB,rens_by8]; exact ⟨rfl,trivial⟩) (by simp) ?_
 rintro v h' ⟨j,rfl,rfl⟩
 refine ⟨⟨by simp,by simp only [zaS,nbS]; simp,by simp only [nbH_none,nbH_some,nbH_nil,wB,zaS,nbS],by simp [nnl]⟩,?_⟩
 simp only [ren,rens,renT,renB,wB,rens_by8,zb7,zb8,nmf_nil,putB_nil,putB_cons,zfG,Option.map,ssH,zeQ,zeO,reduceIte,zeP,zeU,zeS,zeT]
 have hne : frB x ≠ [] := by intro h; have := frB_len x; rw [h] at this; simp at this
 have e2 : wN (.tup [.sl ((frB x).map by8) [] (.tip 2 j),it 0]) = .tup [slN (frB x),it 0] := by
  rw [wN,wNs,wNs,wNs,wN_bytes hne]
  rfl
 exact zaa (v := .tup [.sl ((frB x).map by8) [] (.tip 2 j),it 0]) rfl ⟨by rw [e2]; simp only [zcO,nbS],e2⟩
theorem u8_eq (a b : Int) (d : Nat) : zaw Tryz.prog (Op.equalIn (d + 1) 5 (.int .u8 a) (.int .u8 b)) = some (a == b) := zeF (P := Tryz.prog) (T := 5) (a := .int .u8 a) (b := .int .u8 b) (by kernel_rfl)
theorem part4 (a b c d : Value) : zaw Tryz.prog (part 5 #[a,b,c,d] 0) = some a ∧ zaw Tryz.prog (part 5 #[a,b,c,d] 1) = some b ∧ zaw Tryz.prog (part 5 #[a,b,c,d] 2) = some c ∧ zaw Tryz.prog (part 5 #[a,b,c,d] 3) = some d := by
 refine ⟨?_,?_,?_,?_⟩ <;> kernel_rfl
theorem word_eq (a b c d a' b' c' d' : Int) : zaw Tryz.prog (Op.equal 138 (.agg #[.int .u8 a,.int .u8 b,.int .u8 c,.int .u8 d]) (.agg #[.int .u8 a',.int .u8 b',.int .u8 c',.int .u8 d'])) = some ((a == a') && ((b == b') && ((c == c') && ((d == d') && true)))) := by
 have hu : Program.underlying Tryz.prog 138 = some (.array 4 5) := by kernel_rfl
 have hs : zaw Tryz.prog (sizeOf 5) = some 1 := by kernel_rfl
 obtain ⟨p0,p1,p2,p3⟩ := part4 (.int .u8 a) (.int .u8 b) (.int .u8 c) (.int .u8 d)
 obtain ⟨q0,q1,q2,q3⟩ := part4 (.int .u8 a') (.int .u8 b') (.int .u8 c') (.int .u8 d')
 show zaw Tryz.prog (Op.equalIn (9998 + 1 + 1) 138 _ _) = _
 rw [Op.equalIn]
 simp only [zaA,zbk hu,zfg,hs]
 simp only [Std.Legacy.Range.forIn_eq_forIn_range',Std.Legacy.Range.size,Nat.sub_zero,Nat.add_one_sub_one,Nat.div_one]
 simp only [show List.range' 0 4 1 = [0,1,2,3] from rfl,List.forIn_cons,List.forIn_nil,Nat.zero_mul,Nat.mul_one]
 cases h0 : a == a' <;> cases h1 : b == b' <;> cases h2 : c == c' <;> cases h3 : d == d' <;>
  simp only [zaA,zaP,p0,p1,p2,p3,q0,q1,q2,q3,zfg,u8_eq,h0,h1,h2,h3,ze5,ze4,if_true,zeX,if_false] <;> rfl
theorem arr_cmp (xo yo : Operand) (x y : List UInt8) (hx : x.length = 4) (hy : y.length = 4) : binV Tryz.prog .neq 138 .other xo yo (.agg (x.map by8)) (.agg (y.map by8)) = some (.val (.bool (!decide (x = y)))) := by
 obtain ⟨a,b,c,d,rfl⟩ : ∃ a b c d,x = [a,b,c,d] := by
  match x,hx with
  | [a,b,c,d],_ => exact ⟨a,b,c,d,rfl⟩
 obtain ⟨a',b',c',d',rfl⟩ : ∃ a b c d,y = [a,b,c,d] := by
  match y,hy with
  | [a,b,c,d],_ => exact ⟨a,b,c,d,rfl⟩
 have e0 := word_eq a.toNat b.toNat c.toNat d.toNat a'.toNat b'.toNat c'.toNat d'.toNat
 have hg : Program.eqGuardType Tryz.prog (Program.depth Tryz.prog) 138 = false := by kernel_rfl
 have g : zaw Tryz.prog (eqGuard .neq 138 xo yo (.agg #[.int .u8 a.toNat,.int .u8 b.toNat,.int .u8 c.toNat,.int .u8 d.toNat]) (.agg #[.int .u8 a'.toNat,.int .u8 b'.toNat,.int .u8 c'.toNat,.int .u8 d'.toNat])) = some () := by
  unfold eqGuard
  simp only [ze5,ze4,zeX,if_false,if_true,zaA,zb0,zfg,hg,zaP]
 have r1 : raw (.agg ([a,b,c,d].map by8)) = some (.agg #[.int .u8 a.toNat,.int .u8 b.toNat,.int .u8 c.toNat,.int .u8 d.toNat]) := rfl
 have r2 : raw (.agg ([a',b',c',d'].map by8)) = some (.agg #[.int .u8 a'.toNat,.int .u8 b'.toNat,.int .u8 c'.toNat,.int .u8 d'.toNat]) := rfl
 have e : ((a.toNat : Int) == (a'.toNat : Int) && ((b.toNat : Int) == (b'.toNat : Int) && ((c.toNat : Int) == (c'.toNat : Int) && ((d.toNat : Int) == (d'.toNat : Int) && true)))) = decide ([a,b,c,d] = [a',b',c',d']) := by
  have k : ∀ u v : UInt8,((u.toNat : Int) == (v.toNat : Int)) = decide (u = v) := by
   intro u v
   rw [Bool.eq_iff_iff,beq_iff_eq,decide_eq_true_eq]
   constructor
   ·intro h; exact UInt8.toNat_inj.1 (by omega)
   ·rintro rfl; rfl
  simp only [k]
  simp [List.cons.injEq]
 rw [e] at e0
 simp only [binV,zbZ,zaM,zeE,Bool.false_and,Bool.or_self,zeX,if_false,r1,r2,zaA,g,zfg,binOp,e0,zaP,zbn,if_true]
end
theorem lgB_iff {x : Lg} : lgB x = true ↔ 0 ≤ x.b ∧ x.b ≤ 2147483647 ∧ x.c.length ≤ 65536 ∧ (x.c = [] ↔ x.b = 0) ∧ x.l.length ≤ 64 ∧ (x.l.length : Int) ≤ 2147483647 - x.b ∧ ∀ e ∈ x.l,entB e = true := by
 simp only [lgB,ze1,decide_eq_true_eq,List.all_eq_true,beq_iff_eq,and_assoc]
 have : ((x.c == []) = (x.b == 0)) ↔ (x.c = [] ↔ x.b = 0) := by
  rw [Bool.eq_iff_iff]
  simp
 rw [this]
structure Inv (nn : Bool) (x : Lg) (L : List Ent) : Prop where
 nil : nn = true ∨ x.l = []
 right : lgB x = true
 len : x.b + x.l.length = L.length
 ent : x.l = L.drop x.b.toNat
 nums : ∀ e ∈ x.l,EntN e
theorem Inv.base {nn : Bool} {x : Lg} {L : List Ent} (h : Inv nn x L) : 0 ≤ x.b ∧ x.b ≤ L.length ∧ x.l.length ≤ 64 ∧ x.b ≤ 2147483647 := by
 have h1 := lgB_iff.1 h.right
 have h2 := h.len
 omega
theorem Inv.cut {nn : Bool} {x : Lg} {L : List Ent} (h : Inv nn x L) {n : Nat} (hn : n ≤ x.l.length) : Inv nn ⟨x.b,x.c,x.l.take n⟩ (L.take (x.b + n).toNat) := by
 have hb := h.base
 have hr := lgB_iff.1 h.right
 have hl := h.len
 refine ⟨h.nil.imp id fun q => by simp [q],lgB_iff.2 ⟨hr.1,hr.2.1,hr.2.2.1,hr.2.2.2.1,?_,?_,?_⟩,?_,?_,?_⟩
 ·simp only [zfh]; omega
 ·simp only [zfh]; omega
 ·exact fun e he => hr.2.2.2.2.2.2 e (List.mem_of_mem_take he)
 ·show x.b + ((x.l.take n).length : Int) = ((L.take (x.b + n).toNat).length : Int)
  simp only [zfh]
  omega
 ·show x.l.take n = (L.take (x.b + n).toNat).drop x.b.toNat
  rw [h.ent,List.drop_take,show (x.b + (n : Int)).toNat - x.b.toNat = n by omega]
 ·exact fun e he => h.nums e (List.mem_of_mem_take he)
theorem Inv.comp {nn : Bool} {x : Lg} {L : List Ent} (h : Inv nn x L) {n : Nat} (hn : n ≤ x.l.length) (h0 : 0 < n) : Inv nn ⟨x.b + n,[99],x.l.drop n⟩ L := by
 have hb := h.base
 have hr := lgB_iff.1 h.right
 have hl := h.len
 refine ⟨h.nil.imp id fun q => by simp [q],lgB_iff.2 ⟨?_,?_,?_,?_,?_,?_,?_⟩,?_,?_,?_⟩
 ·simp only; omega
 ·simp only; omega
 ·simp
 ·simp only [List.cons_ne_nil,false_iff]; omega
 ·simp; omega
 ·simp; omega
 ·exact fun e he => hr.2.2.2.2.2.2 e (List.mem_of_mem_drop he)
 ·simp; omega
 ·show x.l.drop n = L.drop (x.b + n).toNat
  rw [h.ent,List.drop_drop]
  congr 1
  omega
 ·exact fun e he => h.nums e (List.mem_of_mem_drop he)
theorem Inv.app {nn : Bool} {x : Lg} {L : List Ent} (h : Inv nn x L) {e : Ent} (he : entB e = true) (hn : EntN e) (h1 : x.l.length < 64) (h2 : x.b + x.l.length < 2147483647) : Inv true ⟨x.b,x.c,x.l ++ [e]⟩ (L ++ [e]) := by
 have hb := h.base
 have hr := lgB_iff.1 h.right
 have hl := h.len
 refine ⟨.inl rfl,lgB_iff.2 ⟨hr.1,hr.2.1,hr.2.2.1,hr.2.2.2.1,?_,?_,?_⟩,?_,?_,?_⟩
 ·simp; omega
 ·simp; omega
 ·intro y hy
  rcases List.mem_append.1 hy with q | q
  ·exact hr.2.2.2.2.2.2 y q
  ·rw [List.mem_singleton.1 q]; exact he
 ·simp; omega
 ·show x.l ++ [e] = (L ++ [e]).drop x.b.toNat
  rw [List.drop_append_of_le_length (by omega),← h.ent]
 ·intro y hy
  rcases List.mem_append.1 hy with q | q
  ·exact h.nums y q
  ·rw [List.mem_singleton.1 q]; exact hn
theorem Inv.again {nn : Bool} {x : Lg} {L : List Ent} (h : Inv nn x L) : Inv (!x.l.isEmpty) x L := ⟨entsN_nil,h.right,h.len,h.ent,h.nums⟩
end Go.Av.Fn
/- A log az a list of all entries: slices that are cut and put behind. No condition. -/
namespace Go.Av
def TokC (k : Tok) : Prop := TokR (fun _ _ => False) k k
def TokA (k : Tok) : Prop := TokC k ∨ ∃ j v,k = .tip j v ∧ 1 ≤ j
def Tok1 (k : Tok) : Prop := TokC k ∨ ∃ v,k = .tip 1 v
theorem Tok1.a {k : Tok} (h : Tok1 k) : TokA k := h.imp id fun ⟨v,e⟩ => ⟨1,v,e,Nat.le_refl _⟩
section
variable {t : List V} {h : Hl}
end
end Go.Av
namespace Go.Av.Fn
set_option linter.unusedSimpArgs false
set_option linter.unusedVariables false
set_option maxRecDepth 10000
open Go.Proofs
structure Act where
 k : Int
 op : Int
 e : Ent
section
variable {Γ : Glob} {m : Store}
end
section
variable {Γ : Glob} {m : Store} {rb a : Nat} {s : List UInt8} {e : Int}
end
section
variable {Γ : Glob} {m : Store}
end
section
variable {Γ : Glob} {m : Store}
theorem rCount0 (s : List UInt8) (n : Int) (u : Nat) (e : Int) (h : zaD s 1048576 = (n,u,e)) : zcb s 0 0 1048576 = if e = 0 then (n,u,0) else (0,0,e) := by
 unfold zcb
 simp only [zfH,h]
 by_cases he : e = 0
 ·simp [he]
 ·simp [he]
end
theorem mm_min {a b : Int} : mmV false [.val (.int .i64 a),.val (.int .i64 b)] = some (.val (.int .i64 (min a b))) := by
 simp only [mmV,mmF,zeX,if_false]
 congr 3
 split <;> omega
theorem cut8 {b mo : List UInt8} {l h : Nat} (h1 : l ≤ h) (h2 : h ≤ b.length) : zew 1 (.sl (b.map by8) (mo.map by8) .no) (some (some (l : Int))) (some (some (h : Int))) (some none) = some (.sl (((b.take h).drop l).map by8) (((b ++ mo).drop h).map by8) .no) := by
 have hz : szOk 1 (b.map by8 ++ mo.map by8) = true := by rw [← zfu]; exact zaR _
 show (if szOk 1 (b.map by8 ++ mo.map by8) = true then cutV (b.map by8) (mo.map by8) .no (some (l : Int)) (some (h : Int)) none else none) = _
 rw [if_pos hz]
 unfold cutV
 simp only [Option.getD_some,zfv,zfc]
 rw [if_pos ⟨by omega,h1,by omega⟩]
 by_cases hh : h = b.length
 ·subst hh
  rw [if_pos rfl,List.take_length,List.drop_left,List.map_drop]
  rfl
 ·rw [if_neg hh,if_pos (by omega)]
  simp only [List.map_drop,List.map_take,zfu]
  rw [List.take_append_of_le_length (by simp; omega)]
theorem eval_s2ap {P : Program} {Γ : Glob} {t : List V} {m : Store} {n : Nat} {x : Operand} : zao P (ev Γ t) m (.s2ap n x) = s2apF n (ev Γ t x) := by
 simp only [zao,s2apF]
 generalize ev Γ t x = a
 cases a <;> rfl
theorem s2ap8 {x mo : List UInt8} (hx : x.length = 4) : s2apF 4 (.sl (x.map by8) (mo.map by8) .no) = some (.elt ((x ++ mo).map by8)) := by
 have e : ∀ l : List UInt8,flat (l.map by8) = l.map by8 := by
  intro l
  induction l with
  | nil => rfl
  | cons b l ih => rw [List.map_cons,zaN,ih]; rfl
 show (if 4 ≤ (x.map by8).length then some (V.elt (flat (x.map by8 ++ mo.map by8))) else none) = _
 rw [if_pos (by simp [hx]),← zfu,e]
theorem ld4 {x mo : List UInt8} {m : Store} (hx : x.length = 4) : loadV m (some 4) (.elt ((x ++ mo).map by8)) = some (.agg (x.map by8)) := by
 show zbB ((x ++ mo).map by8) 0 (some 4) = _
 unfold zbB
 simp only
 rw [if_pos (by simp [hx]),zfH,zfu,List.take_append_of_le_length (by simp [hx]),zft (by simp [hx])]
section
variable {Γ : Glob} {m : Store}
theorem fGet_ok (b mo : List UInt8) (tok : Tok) (at_ : Nat) (ha : at_ ≤ b.length) (hb : b.length ≤ 100000000) :
  zab Tryz.prog Γ 36 [.sl (b.map by8) (mo.map by8) tok,it at_] m fun o m' => (∃ v,o = .ret v ∧ v = .tup [if (frG (b.drop at_)).2.2 = 0 then slN (frG (b.drop at_)).1 else .sl [] [] .full,it (if (frG (b.drop at_)).2.2 = 0 then at_ + (frG (b.drop at_)).2.1 else 0 : Nat),it (frG (b.drop at_)).2.2]) ∧ m' = m := by
 refine zab.tok [] [it at_] ?_
 have hbl : b.length = at_ + (b.drop at_).length := by rw [zfd]; omega
 refine acalls_pn mixed F36_ok F36_h zaF (by simp only [zeZ,zaS,nbS]) ?_
 simp only [F36,zeZ,ss0,zeW,zeQ]
 have w0 : IntKind.i64.wrap ((at_ : Int) + 11) = ((at_ + 11 : Nat) : Int) := by rw [wrap_i64 (by omega) (by omega)]; omega
 have wm : min (b.length : Int) ((at_ + 11 : Nat) : Int) = ((min b.length (at_ + 11) : Nat) : Int) := by omega
 simp only [show decide ((at_ : Int) < 0) = false from decide_eq_false (by omega),gt_iff_lt,zfc,show decide ((b.length : Int) < (at_ : Int)) = false from decide_eq_false (by omega),w0,q_mm,eval_mm,mm_min,wm,zbw,zbd,cut8 (b := b) (mo := mo) (show at_ ≤ min b.length (at_ + 11) by omega) (show min b.length (at_ + 11) ≤ b.length by omega),ssH,zeQ,zeO,reduceIte,zeP,zeU,zeS,zeT]
 have ht : (b.take (min b.length (at_ + 11))).drop at_ = (b.drop at_).take 11 := by
  rw [List.drop_take]
  by_cases h : b.length ≤ at_ + 11
  ·rw [Nat.min_eq_left h,zft (by rw [zfd]; omega),zft (by rw [zfd]; omega)]
  ·rw [Nat.min_eq_right (by omega),Nat.add_sub_cancel_left]
 rw [ht]
 have hcu : ∀ i j,i ≤ j → at_ + j ≤ b.length → zew 1 (.sl (b.map by8) (mo.map by8) .no) (some (some ((at_ + i : Nat) : Int))) (some (some ((at_ + j : Nat) : Int))) (some none) = some (.sl ((((b.drop at_).take j).drop i).map by8) (((b ++ mo).drop (at_ + j)).map by8) .no) := by
  intro i j h1 h2
  rw [cut8 (by omega) h2,List.take_drop,List.drop_drop]
 clear ht
 generalize b.drop at_ = s at hbl hcu
 obtain ⟨n,u,e,hc⟩ : ∃ n u e,zaD s 1048576 = (n,u,e) := ⟨_,_,_,rfl⟩
 have hr := rCount0 (s.take 11) n u e (by rw [countL_take s _ (by decide)]; exact hc)
 have hl11 : (s.take 11).length ≤ 281474976710656 := by rw [zfh]; omega
 refine hcall_newsl (Y := rdB (s.take 11) 0 0) (by simp only [zeV,ze0,zeQ,zeU]) rfl (fun m tok' => wNew_ok) (zaf _) (zaf _) .nil zay ?_
 simp only [ssH,zeQ,zeO,reduceIte,zeP,zeU,zeS,zeT]
 refine zaH (b := 0) (az := [it 1048576]) (X := rdB (s.take 11) 0 0) rfl rfl (fun m b' h => wCount_ok 1048576 h (Nat.zero_le _) hl11) zay zay (by first | exact LR.nil | simp only [nbS]) (by first | exact LR.nil | simp only [nbS]) ?_
 rw [hr]
 by_cases he : e = 0
 ·subst he
  obtain ⟨g1,g2,g3,g4,g5,g6⟩ := zcQ hc
  obtain ⟨n,rfl⟩ := Int.eq_ofNat_of_zero_le g1
  simp only [if_true,ssH,zeQ,zeO,reduceIte,zeP,zeU,zeS,zeT]
  refine zbo (b := 0) rfl rfl (fun m b' h => zdS h) zay (by first | exact LR.nil | simp only [nbS]) (by first | exact LR.nil | simp only [nbS]) ?_
  simp only [show ((0 : Int) != 0) = false from rfl,ssH,zeQ,zeO,reduceIte,zeP,zeU,zeS,zeT]
  refine zbo (b := 0) rfl rfl (fun m b' h => wAt_ok h) zay (by first | exact LR.nil | simp only [nbS]) (by first | exact LR.nil | simp only [nbS]) ?_
  have w1 : IntKind.i64.wrap ((at_ : Int) + (u : Int)) = ((at_ + u : Nat) : Int) := by rw [wrap_i64 (by omega) (by omega)]; omega
  have w2 : IntKind.i64.wrap ((b.length : Int) - ((at_ + u : Nat) : Int)) = ((s.length - u : Nat) : Int) := by rw [wrap_i64 (by omega) (by omega)]; omega
  have w3 : IntKind.i64.wrap ((n : Int) + 4) = ((n + 4 : Nat) : Int) := by rw [wrap_i64 (by omega) (by omega)]; omega
  have w4 : IntKind.i64.wrap (((at_ + u : Nat) : Int) + (n : Int)) = ((at_ + (u + n) : Nat) : Int) := by rw [wrap_i64 (by omega) (by omega)]; omega
  have w5 : IntKind.i64.wrap (((at_ + (u + n) : Nat) : Int) + 4) = ((at_ + (u + n + 4) : Nat) : Int) := by rw [wrap_i64 (by omega) (by omega)]; omega
  simp only [w1,w2,w3,zfc,ssH,zeQ,zeO,reduceIte,zeP,zeU,zeS,zeT]
  by_cases hl : s.length < u + n + 4
  ·simp only [show decide (((s.length - u : Nat) : Int) < ((n + 4 : Nat) : Int)) = true from decide_eq_true (by omega),ssH,zeQ,zeO,reduceIte,zeP,zeU,zeS,zeT]
   have : frG s = ([],0,3) := by
    unfold frG
    simp only [hc,zfv]
    rw [if_neg (by decide),if_pos hl]
   rw [this]
   exact zaa (v := .tup [.sl [] [] .full,it 0,it 3]) rfl ⟨by simp only [wN,wNs,tokN,nbS],rfl⟩
  ·have hz : zew 1 (.sl (b.map by8) (mo.map by8) .no) (some (some (at_ : Int))) (some (some ((at_ + (u + n) : Nat) : Int))) (some none) = some (.sl ((s.take (u + n)).map by8) (((b ++ mo).drop (at_ + (u + n))).map by8) .no) := by
    have := hcu 0 (u + n) (by omega) (by omega)
    rw [zfH] at this
    exact this
   have hq4 : ((s.take (u + n + 4)).drop (u + n)).length = 4 := by rw [zfd,zfh]; omega
   simp only [show decide (((s.length - u : Nat) : Int) < ((n + 4 : Nat) : Int)) = false from decide_eq_false (by omega),w4,w5,zbw,zbd,hcu (u + n) (u + n + 4) (by omega) (by omega),q_s2ap,eval_s2ap,s2ap8 hq4,zb4,ld4 hq4,hz,ssH,zeQ,zeO,reduceIte,zeP,zeU,zeS,zeT]
   have hlt : (s.take (u + n)).length ≤ 100000000 := by rw [zfh]; omega
   refine hcall_sl (v := u32 (crcN (s.take (u + n)))) rfl (fun m tok' => sum_ok (s.take (u + n)) (zaf _) tok' (by omega)) (zaf _) (zaf _) .nil (by simp only [u32,nbS]) ?_
   simp only [zb4,ld4 hq4,ssH,zeQ,zeO,reduceIte,zeP,zeU,zeS,zeT]
   refine zam (v := .agg ((le4 (crcN (s.take (u + n)))).map by8)) (fun m => low_ok _) (by simp only [zeZ,ze9,ze2,u32,nbS]) (by simp only [zaS,nbS]) ?_
   have hqe : (s.take (u + n + 4)).drop (u + n) = (s.drop (u + n)).take 4 := by
    rw [List.drop_take,Nat.add_sub_cancel_left]
   have hiff := frG_eq (s := s) hc (by omega)
   rw [← hqe] at hiff
   simp only [zb4,ld4 hq4,arr_cmp _ _ _ _ hq4 (le4_len _),ssH,zeQ,zeO,reduceIte,zeP,zeU,zeS,zeT]
   have hxe : (s.take (u + n)).drop u = (s.drop u).take n := by
    rw [List.drop_take,Nat.add_sub_cancel_left]
   by_cases hq : s.take (u + n + 4) = frB ((s.drop u).take n)
   ·have hfr : frG s = ((s.drop u).take n,u + n + 4,0) := by
     unfold frG
     simp only [hc,zfv]
     rw [if_neg (by decide),if_neg hl,if_pos hq]
    simp only [decide_eq_true (hiff.1 hq),ze5,w4,w5,zbw,zbd,hcu u (u + n) (by omega) (by omega),hxe,ssH,zeQ,zeO,reduceIte,zeP,zeU,zeS,zeT]
    have hne : (b ++ mo).drop (at_ + (u + n)) ≠ [] := by
     intro h
     have := congrArg List.length h
     rw [zfd,zeY,ze0] at this
     omega
    refine hcall_some (Qv := fun v => v = slN ((s.drop u).take n)) (by exact fun m => fClone_ok ((s.drop u).take n) ((b ++ mo).drop (at_ + (u + n))) (by rw [zfh]; omega) (.inr hne) .no) (by simp only [zeZ,ze9,zaS,nbS]) (by rintro v rfl; exact zcO) ?_
    rintro v rfl
    simp only [hfr,if_true,w4,w5,ssH,zeQ,zeO,reduceIte,zeP,zeU,zeS,zeT]
    have e2 : wN (.tup [slN ((s.drop u).take n),it ((at_ + (u + n + 4) : Nat) : Int),it 0]) = .tup [slN ((s.drop u).take n),it ((at_ + (u + n + 4) : Nat) : Int),it 0] := by
     rw [wN,wNs,wNs,wNs,wNs]
     have : wN (slN ((s.drop u).take n)) = slN ((s.drop u).take n) := by
      have e : ∀ l : List UInt8,wNs (l.map by8) = l.map by8 := wNs_map (fun _ => rfl)
      simp only [slN,wN,e,wNs]
      cases (s.drop u).take n <;> rfl
     rw [this]
     rfl
    exact zaa (v := .tup [slN ((s.drop u).take n),it ((at_ + (u + n + 4) : Nat) : Int),it 0]) rfl ⟨by rw [e2]; simp only [zcO,nbS],e2⟩
   ·have hfr : frG s = ([],0,4) := by
     unfold frG
     simp only [hc,zfv]
     rw [if_neg (by decide),if_neg hl,if_neg hq]
    simp only [decide_eq_false (fun h => hq (hiff.2 h)),ze4,hfr,ssH,zeQ,zeO,reduceIte,zeP,zeU,zeS,zeT]
    exact zaa (v := .tup [.sl [] [] .full,it 0,it 4]) rfl ⟨by simp only [wN,wNs,tokN,nbS],rfl⟩
 ·simp only [if_neg he,ssH,zeQ,zeO,reduceIte,zeP,zeU,zeS,zeT]
  refine zbo (b := 0) rfl rfl (fun m b' h => zdS h) zay (by first | exact LR.nil | simp only [nbS]) (by first | exact LR.nil | simp only [nbS]) ?_
  have : frG s = ([],0,e) := by
   unfold frG
   simp only [hc]
   rw [if_pos he]
  simp only [bne_iff_ne.2 he,this,if_neg he,ssH,zeQ,zeO,reduceIte,zeP,zeU,zeS,zeT]
  exact zaa (v := .tup [.sl [] [] .full,it 0,it e]) rfl ⟨by simp only [wN,wNs,tokN,nbS],rfl⟩
end
end Go.Av.Fn
/- A message's numbers put, az the program does. Conditions: az ahead. -/
namespace Go.Av
set_option linter.unusedVariables false
theorem as_tip {X0 : Blk} {T e : TypeId} {es : List V} {h : Hl} {j k : Nat} (hj : 2 ≤ j) (h0 : lk h 0 = some X0) (hX : nbB 0 X0) (h1 : lk h 1 = some (.var T [.sl es [] (.tip j k)])) (he : nbs 0 es) (h2 : lk h j = some (.tip e k)) :
  As 2 [0,1,j] (.tup []) [some X0,some (.var T [.sl es [] (.tip 2 k)]),some (.tip e k)] (.tup []) h := by
 refine ⟨?_,?_,.tup .nil,rfl,?_⟩
 ·intro a ha
  have : a = 0 ∨ a = 1 := by omega
  rcases this with rfl | rfl <;> rfl
 ·simp only [List.nodup_cons,List.mem_cons,List.not_mem_nil,or_false,not_or,List.nodup_nil,and_true,not_false_eq_true]
  omega
 ·intro a b hab
  have hl := (List.getElem?_eq_some_iff.1 hab).1
  simp at hl
  have : a = 0 ∨ a = 1 ∨ a = 2 := by omega
  rcases this with rfl | rfl | rfl
  ·cases hab
   rw [h0]
   exact hX.up _
  ·cases hab
   rw [h1]
   exact ⟨rfl,.cons (.sl (k := .tip 2 k) (k' := .tip j k) (he.up _) .nil ⟨rfl,rfl⟩) .nil⟩
  ·cases hab
   rw [h2]
   exact ⟨rfl,rfl⟩
end Go.Av
namespace Go.Av.Fn
set_option linter.unusedSimpArgs false
set_option linter.unusedVariables false
set_option maxRecDepth 10000
open Go.Proofs
def mgB (nn : Bool) (x : Mg) : Blk := .var 68 (msgC nn x)
def btB (l : List UInt8) (j k : Nat) : Blk := .var 22 [.sl (l.map by8) [] (.tip j k)]
theorem nb_mgB (k : Nat) (nn : Bool) (x : Mg) : nbB k (mgB nn x) := by simp only [mgB,zcV,nbS]
theorem renB_tip {σ : Nat → Nat} {T : TypeId} {v : Nat} : renB σ (.tip T v) = .tip T v := (rfl)
theorem ren_mgB {σ : Nat → Nat} {nn : Bool} {x : Mg} : renB σ (mgB nn x) = mgB nn x := by
 show Blk.var _ (rens σ (msgC nn x)) = _
 rw [rens_nb (zcV 0 nn x)]
 rfl
theorem ren_btB {σ : Nat → Nat} {l : List UInt8} {j k : Nat} : renB σ (btB l j k) = btB l (σ j) k := by
 simp only [btB,renB,rens,ren,renT,rens_by8]
section
variable {Γ : Glob} {m : Store}
def putH (nn : Bool) (x : Mg) (l : List UInt8) (k : Nat) : Hl := [some (mgB nn x),some (btB l 2 k),some (.tip 5 k)]
theorem nbH_putH (nn : Bool) (x : Mg) (l : List UInt8) (k : Nat) : nbH 3 (putH nn x l k) := by
 simp only [putH,nbH_some,nbH_nil,nb_mgB,btB,zaS,nbS]
 decide
theorem mBytes1_ok (nn : Bool) (x : Mg) (l : List UInt8) (k o : Nat) (n : Int) (ho : (msgC nn x)[o]? = some (it n)) (hn : Av.I64 n) (hl : l ≠ []) (hb : l.length < 1000000000) :
  FN Tryz.prog Γ 63 [.ptr 0 o,.ptr 1 0] (putH nn x l k) 2 fun v h' => v = .tup [] ∧ ∃ k',h' = putH nn x (l ++ uz n) k' := by
 refine fn_of mixed F63_ok F63_h zaF 2 ?_
 simp only [F63,putH,mgB,btB,ss0,zeW,zeQ]
 simp only [zb4,loadV,lk_zero,zds,ho,ssH,zeQ,zeO,reduceIte,zeP,zeU,zeS,zeT]
 refine za3 (e := 5) (size := 1) (j := 2) (k := k) (az := [it n]) (es := l.map by8) (es2 := (l ++ uz n).map by8) (by simp) rfl rfl (zaR _) (zaO hl) (zaO (by simp [hl])) (fun m m' v h => zbj (Γ := Γ) (.inl h) hn (by omega)) (zaf _) (by first | exact LR.nil | simp only [nbS]) (zaf _) fun k' => ?_
 simp only [zar,zas,ze2,zeZ,zeV,ze0,zbh,zbW,ssH,zeQ,zeO,reduceIte,zeP,zeU,zeS,zeT]
 exact zav (v := .tup []) rfl ⟨[0,1,3],.tup [],_,as_tip (by decide) rfl (nb_mgB 0 nn x) rfl (zaf _) rfl,rfl,k',rfl⟩
def fldsB (x : Mg) : List UInt8 := oB (kV x.k) (uz x.v) ++ oB (kN x.k) (uz x.nr) ++ oB (kO x.k) (uz x.op) ++ oB (kC x.k) (uz x.cm) ++ oB (kS x.k) (uz x.sq)
def MgI (x : Mg) : Prop := Av.I64 x.v ∧ Av.I64 x.nr ∧ Av.I64 x.op ∧ Av.I64 x.cm ∧ Av.I64 x.sq
theorem zaZ {nn : Bool} {x : Mg} {l : List UInt8} {k j o : Nat} {n : Int} {r : Hl} {Kp : V → Hl → Prop} {it1 : List Item} {K : HS → Prop} {t : List V} {d : Option Tmp} {s : List (Tmp × Option (Tmp × Bool) × AOp)}
  (ho : (msgC nn x)[o]? = some (it n)) (hn : Av.I64 n) (hl : l ≠ []) (hb : l.length < 1000000000) (hj : 2 ≤ j) (hr : r.length ≤ 100) (hjl : j < r.length + 2) (htip : lk (some (mgB nn x) :: some (btB l j k) :: r) j = some (.tip 5 k))
  (hk : ∀ k',hth Tryz.prog Γ Kp s it1 K (hput t (some (mgB nn x) :: some (btB (l ++ uz n) (r.length + 2) k') :: (hset r (j - 2) none ++ [some (.tip 5 k')])) d (some (.tup [])))) :
  zdx Tryz.prog Γ Kp (.fn (.func 63) [] [.ptr 1 0]) [.ptr 0 o] d s it1 K t (some (mgB nn x) :: some (btB l j k) :: r) := by
 obtain ⟨j,rfl⟩ : ∃ i,j = i + 2 := ⟨j - 2,by omega⟩
 refine hcall_n (args0 := [.ptr 0 o,.ptr 1 0]) (hs := putH nn x l k) [0,1] [j + 2] (mBytes1_ok (Γ := Γ) nn x l k o n ho hn hl hb) rfl (by simp only [putH,zeV,ze0,nbS]; decide) (nbH_putH nn x l k) rfl (by simp) (by intro b hb; simp at hb; simp only [zeV]; omega) ?_ (by simp only [zeV]; omega) ?_
 ·simp only [putH,ze2,zeZ,zdB,zes,ren_mgB,ren_btB,zb7,zb8,and_true]
  exact ⟨rfl,rfl,htip⟩
 ·rintro v h' ⟨rfl,k',rfl⟩
  refine ⟨⟨by simp [putH],by simp only [putH,nbS],nbH_putH nn x _ k',by simp [putH]⟩,?_⟩
  have := hk k'
  simp only [Nat.add_sub_cancel] at this
  simp only [hnone_cons,hnone_nil,putH,putB_cons,putB_nil,Option.map,zfG,ren_mgB,ren_btB,ren,rens,renB_tip,zb7,zb8,nmf_nil,zar,zas,zeV,ze2,Nat.add_zero]
  exact this
set_option maxHeartbeats 6400000 in
theorem mEach_ok (nn : Bool) (x : Mg) (l : List UInt8) (k : Nat) (hI : MgI x) (hl : l ≠ []) (hb : l.length < 100000000) :
  FN Tryz.prog Γ 62 [.agg (flC x.k),.ptr 0 0,.fn (.func 63) [] [.ptr 1 0]] (putH nn x l k) 2 fun v h' => v = .tup [] ∧ ∃ k',h' = putH nn x (l ++ fldsB x) k' := by
 obtain ⟨i1,i2,i3,i4,i5⟩ := hI
 have z1 := zaT i1
 have z2 := zaT i2
 have z3 := zaT i3
 have z4 := zaT i4
 have z5 := zaT i5
 have hm := nb_mgB 0 nn x
 have ln : ∀ a b : List UInt8,a ≠ [] → a ++ b ≠ [] := fun a b h => by simp [h]
 refine fn_of mixed F62_ok F62_h zaF 2 ?_
 obtain ⟨kk,hkk⟩ : ∃ z,z = x.k := ⟨_,rfl⟩
 have hF : fldsB x = oB (kV kk) (uz x.v) ++ oB (kN kk) (uz x.nr) ++ oB (kO kk) (uz x.op) ++ oB (kC kk) (uz x.cm) ++ oB (kS kk) (uz x.sq) := by rw [hkk]; rfl
 rw [hF,← hkk]
 clear hF hkk
 simp only [F62,putH,ss0,zeW,zeQ]
 rcases ten kk with rfl | rfl | rfl | rfl | rfl | rfl | rfl | rfl | rfl | rfl | hno
 ·simp only [flC,bo,show kV 1 = false from rfl,show kN 1 = false from rfl,show kO 1 = false from rfl,show kC 1 = false from rfl,show kS 1 = false from rfl,show kE 1 = true from rfl,show kL 1 = false from rfl,show kR 1 = false from rfl,oB,if_true,zeX,if_false,ze9,zeZ,zaj,ssH,zeQ,zeO,reduceIte,zeP,zeU,zeS,zeT]
  exact zav (v := .tup []) rfl ⟨[0,1,2],.tup [],_,as_tip (by decide) rfl hm rfl (zaf _) rfl,rfl,k,by first | (simp only [ze3]; rfl) | rfl⟩
 ·simp only [flC,bo,show kV 2 = true from rfl,show kN 2 = false from rfl,show kO 2 = true from rfl,show kC 2 = true from rfl,show kS 2 = false from rfl,show kE 2 = true from rfl,show kL 2 = false from rfl,show kR 2 = false from rfl,oB,if_true,zeX,if_false,ze9,zeZ,zaj,ssH,zeQ,zeO,reduceIte,zeP,zeU,zeS,zeT]
  refine zaZ (j := 2) (o := 3) (l := l) rfl i1 hl (by first | omega | (simp only [zeY]; omega)) (by decide) (by simp) (by simp) rfl fun k0 => ?_
  simp only [zar,zas,zeW,ze2,zeZ,zeV,ze0,ssH,zeQ,zeO,reduceIte,zeP,zeU,zeS,zeT]
  refine zaZ (j := 4) (o := 5) (l := (l ++ uz x.v)) rfl i3 (by simp [hl]) (by first | omega | (simp only [zeY]; omega)) (by decide) (by simp) (by simp) rfl fun k1 => ?_
  simp only [zar,zas,zeW,ze2,zeZ,zeV,ze0,ssH,zeQ,zeO,reduceIte,zeP,zeU,zeS,zeT]
  refine zaZ (j := 5) (o := 6) (l := ((l ++ uz x.v) ++ uz x.op)) rfl i4 (by simp [hl]) (by first | omega | (simp only [zeY]; omega)) (by decide) (by simp) (by simp) rfl fun k2 => ?_
  simp only [zar,zas,zeW,ze2,zeZ,zeV,ze0,ssH,zeQ,zeO,reduceIte,zeP,zeU,zeS,zeT]
  exact zav (v := .tup []) rfl ⟨[0,1,6],.tup [],_,as_tip (by decide) rfl hm rfl (zaf _) rfl,rfl,k2,by first | (simp only [ze3]; rfl) | rfl⟩
 ·simp only [flC,bo,show kV 3 = true from rfl,show kN 3 = false from rfl,show kO 3 = true from rfl,show kC 3 = false from rfl,show kS 3 = false from rfl,show kE 3 = false from rfl,show kL 3 = false from rfl,show kR 3 = false from rfl,oB,if_true,zeX,if_false,ze9,zeZ,zaj,ssH,zeQ,zeO,reduceIte,zeP,zeU,zeS,zeT]
  refine zaZ (j := 2) (o := 3) (l := l) rfl i1 hl (by first | omega | (simp only [zeY]; omega)) (by decide) (by simp) (by simp) rfl fun k0 => ?_
  simp only [zar,zas,zeW,ze2,zeZ,zeV,ze0,ssH,zeQ,zeO,reduceIte,zeP,zeU,zeS,zeT]
  refine zaZ (j := 4) (o := 5) (l := (l ++ uz x.v)) rfl i3 (by simp [hl]) (by first | omega | (simp only [zeY]; omega)) (by decide) (by simp) (by simp) rfl fun k1 => ?_
  simp only [zar,zas,zeW,ze2,zeZ,zeV,ze0,ssH,zeQ,zeO,reduceIte,zeP,zeU,zeS,zeT]
  exact zav (v := .tup []) rfl ⟨[0,1,5],.tup [],_,as_tip (by decide) rfl hm rfl (zaf _) rfl,rfl,k1,by first | (simp only [ze3]; rfl) | rfl⟩
 ·simp only [flC,bo,show kV 4 = true from rfl,show kN 4 = false from rfl,show kO 4 = false from rfl,show kC 4 = true from rfl,show kS 4 = false from rfl,show kE 4 = false from rfl,show kL 4 = false from rfl,show kR 4 = false from rfl,oB,if_true,zeX,if_false,ze9,zeZ,zaj,ssH,zeQ,zeO,reduceIte,zeP,zeU,zeS,zeT]
  refine zaZ (j := 2) (o := 3) (l := l) rfl i1 hl (by first | omega | (simp only [zeY]; omega)) (by decide) (by simp) (by simp) rfl fun k0 => ?_
  simp only [zar,zas,zeW,ze2,zeZ,zeV,ze0,ssH,zeQ,zeO,reduceIte,zeP,zeU,zeS,zeT]
  refine zaZ (j := 4) (o := 6) (l := (l ++ uz x.v)) rfl i4 (by simp [hl]) (by first | omega | (simp only [zeY]; omega)) (by decide) (by simp) (by simp) rfl fun k1 => ?_
  simp only [zar,zas,zeW,ze2,zeZ,zeV,ze0,ssH,zeQ,zeO,reduceIte,zeP,zeU,zeS,zeT]
  exact zav (v := .tup []) rfl ⟨[0,1,5],.tup [],_,as_tip (by decide) rfl hm rfl (zaf _) rfl,rfl,k1,by first | (simp only [ze3]; rfl) | rfl⟩
 ·simp only [flC,bo,show kV 5 = true from rfl,show kN 5 = false from rfl,show kO 5 = false from rfl,show kC 5 = false from rfl,show kS 5 = false from rfl,show kE 5 = false from rfl,show kL 5 = false from rfl,show kR 5 = false from rfl,oB,if_true,zeX,if_false,ze9,zeZ,zaj,ssH,zeQ,zeO,reduceIte,zeP,zeU,zeS,zeT]
  refine zaZ (j := 2) (o := 3) (l := l) rfl i1 hl (by first | omega | (simp only [zeY]; omega)) (by decide) (by simp) (by simp) rfl fun k0 => ?_
  simp only [zar,zas,zeW,ze2,zeZ,zeV,ze0,ssH,zeQ,zeO,reduceIte,zeP,zeU,zeS,zeT]
  exact zav (v := .tup []) rfl ⟨[0,1,4],.tup [],_,as_tip (by decide) rfl hm rfl (zaf _) rfl,rfl,k0,by first | (simp only [ze3]; rfl) | rfl⟩
 ·simp only [flC,bo,show kV 6 = true from rfl,show kN 6 = true from rfl,show kO 6 = false from rfl,show kC 6 = true from rfl,show kS 6 = false from rfl,show kE 6 = false from rfl,show kL 6 = true from rfl,show kR 6 = false from rfl,oB,if_true,zeX,if_false,ze9,zeZ,zaj,ssH,zeQ,zeO,reduceIte,zeP,zeU,zeS,zeT]
  refine zaZ (j := 2) (o := 3) (l := l) rfl i1 hl (by first | omega | (simp only [zeY]; omega)) (by decide) (by simp) (by simp) rfl fun k0 => ?_
  simp only [zar,zas,zeW,ze2,zeZ,zeV,ze0,ssH,zeQ,zeO,reduceIte,zeP,zeU,zeS,zeT]
  refine zaZ (j := 4) (o := 4) (l := (l ++ uz x.v)) rfl i2 (by simp [hl]) (by first | omega | (simp only [zeY]; omega)) (by decide) (by simp) (by simp) rfl fun k1 => ?_
  simp only [zar,zas,zeW,ze2,zeZ,zeV,ze0,ssH,zeQ,zeO,reduceIte,zeP,zeU,zeS,zeT]
  refine zaZ (j := 5) (o := 6) (l := ((l ++ uz x.v) ++ uz x.nr)) rfl i4 (by simp [hl]) (by first | omega | (simp only [zeY]; omega)) (by decide) (by simp) (by simp) rfl fun k2 => ?_
  simp only [zar,zas,zeW,ze2,zeZ,zeV,ze0,ssH,zeQ,zeO,reduceIte,zeP,zeU,zeS,zeT]
  exact zav (v := .tup []) rfl ⟨[0,1,6],.tup [],_,as_tip (by decide) rfl hm rfl (zaf _) rfl,rfl,k2,by first | (simp only [ze3]; rfl) | rfl⟩
 ·simp only [flC,bo,show kV 7 = true from rfl,show kN 7 = false from rfl,show kO 7 = false from rfl,show kC 7 = true from rfl,show kS 7 = false from rfl,show kE 7 = false from rfl,show kL 7 = true from rfl,show kR 7 = false from rfl,oB,if_true,zeX,if_false,ze9,zeZ,zaj,ssH,zeQ,zeO,reduceIte,zeP,zeU,zeS,zeT]
  refine zaZ (j := 2) (o := 3) (l := l) rfl i1 hl (by first | omega | (simp only [zeY]; omega)) (by decide) (by simp) (by simp) rfl fun k0 => ?_
  simp only [zar,zas,zeW,ze2,zeZ,zeV,ze0,ssH,zeQ,zeO,reduceIte,zeP,zeU,zeS,zeT]
  refine zaZ (j := 4) (o := 6) (l := (l ++ uz x.v)) rfl i4 (by simp [hl]) (by first | omega | (simp only [zeY]; omega)) (by decide) (by simp) (by simp) rfl fun k1 => ?_
  simp only [zar,zas,zeW,ze2,zeZ,zeV,ze0,ssH,zeQ,zeO,reduceIte,zeP,zeU,zeS,zeT]
  exact zav (v := .tup []) rfl ⟨[0,1,5],.tup [],_,as_tip (by decide) rfl hm rfl (zaf _) rfl,rfl,k1,by first | (simp only [ze3]; rfl) | rfl⟩
 ·simp only [flC,bo,show kV 8 = true from rfl,show kN 8 = false from rfl,show kO 8 = true from rfl,show kC 8 = false from rfl,show kS 8 = false from rfl,show kE 8 = false from rfl,show kL 8 = false from rfl,show kR 8 = false from rfl,oB,if_true,zeX,if_false,ze9,zeZ,zaj,ssH,zeQ,zeO,reduceIte,zeP,zeU,zeS,zeT]
  refine zaZ (j := 2) (o := 3) (l := l) rfl i1 hl (by first | omega | (simp only [zeY]; omega)) (by decide) (by simp) (by simp) rfl fun k0 => ?_
  simp only [zar,zas,zeW,ze2,zeZ,zeV,ze0,ssH,zeQ,zeO,reduceIte,zeP,zeU,zeS,zeT]
  refine zaZ (j := 4) (o := 5) (l := (l ++ uz x.v)) rfl i3 (by simp [hl]) (by first | omega | (simp only [zeY]; omega)) (by decide) (by simp) (by simp) rfl fun k1 => ?_
  simp only [zar,zas,zeW,ze2,zeZ,zeV,ze0,ssH,zeQ,zeO,reduceIte,zeP,zeU,zeS,zeT]
  exact zav (v := .tup []) rfl ⟨[0,1,5],.tup [],_,as_tip (by decide) rfl hm rfl (zaf _) rfl,rfl,k1,by first | (simp only [ze3]; rfl) | rfl⟩
 ·simp only [flC,bo,show kV 9 = true from rfl,show kN 9 = false from rfl,show kO 9 = false from rfl,show kC 9 = true from rfl,show kS 9 = false from rfl,show kE 9 = false from rfl,show kL 9 = true from rfl,show kR 9 = false from rfl,oB,if_true,zeX,if_false,ze9,zeZ,zaj,ssH,zeQ,zeO,reduceIte,zeP,zeU,zeS,zeT]
  refine zaZ (j := 2) (o := 3) (l := l) rfl i1 hl (by first | omega | (simp only [zeY]; omega)) (by decide) (by simp) (by simp) rfl fun k0 => ?_
  simp only [zar,zas,zeW,ze2,zeZ,zeV,ze0,ssH,zeQ,zeO,reduceIte,zeP,zeU,zeS,zeT]
  refine zaZ (j := 4) (o := 6) (l := (l ++ uz x.v)) rfl i4 (by simp [hl]) (by first | omega | (simp only [zeY]; omega)) (by decide) (by simp) (by simp) rfl fun k1 => ?_
  simp only [zar,zas,zeW,ze2,zeZ,zeV,ze0,ssH,zeQ,zeO,reduceIte,zeP,zeU,zeS,zeT]
  exact zav (v := .tup []) rfl ⟨[0,1,5],.tup [],_,as_tip (by decide) rfl hm rfl (zaf _) rfl,rfl,k1,by first | (simp only [ze3]; rfl) | rfl⟩
 ·simp only [flC,bo,show kV 10 = true from rfl,show kN 10 = false from rfl,show kO 10 = false from rfl,show kC 10 = false from rfl,show kS 10 = true from rfl,show kE 10 = false from rfl,show kL 10 = false from rfl,show kR 10 = true from rfl,oB,if_true,zeX,if_false,ze9,zeZ,zaj,ssH,zeQ,zeO,reduceIte,zeP,zeU,zeS,zeT]
  refine zaZ (j := 2) (o := 3) (l := l) rfl i1 hl (by first | omega | (simp only [zeY]; omega)) (by decide) (by simp) (by simp) rfl fun k0 => ?_
  simp only [zar,zas,zeW,ze2,zeZ,zeV,ze0,ssH,zeQ,zeO,reduceIte,zeP,zeU,zeS,zeT]
  refine zaZ (j := 4) (o := 7) (l := (l ++ uz x.v)) rfl i5 (by simp [hl]) (by first | omega | (simp only [zeY]; omega)) (by decide) (by simp) (by simp) rfl fun k1 => ?_
  simp only [zar,zas,zeW,ze2,zeZ,zeV,ze0,ssH,zeQ,zeO,reduceIte,zeP,zeU,zeS,zeT]
  exact zav (v := .tup []) rfl ⟨[0,1,5],.tup [],_,as_tip (by decide) rfl hm rfl (zaf _) rfl,rfl,k1,by first | (simp only [ze3]; rfl) | rfl⟩
 ·obtain ⟨q1,q2,q3,q4,q5,q6,q7,q8,q9⟩ := flC_no hno
  simp only [flC,bo,q1,q2,q3,q4,q5,q6,q7,q8,oB,if_true,zeX,if_false,ze9,zeZ,zaj,ssH,zeQ,zeO,reduceIte,zeP,zeU,zeS,zeT]
  exact zav (v := .tup []) rfl ⟨[0,1,2],.tup [],_,as_tip (by decide) rfl hm rfl (zaf _) rfl,rfl,k,by first | (simp only [ze3]; rfl) | rfl⟩
end
theorem oB_len (b : Bool) (l : List UInt8) : (oB b l).length ≤ l.length := by unfold oB; split <;> simp
theorem mgI_of {x : Mg} (h : msgB x = true) : MgI x := by
 simp only [msgB,ze1] at h
 obtain ⟨⟨⟨⟨⟨⟨⟨⟨h1,h2⟩,h3⟩,h4⟩,h5⟩,h6⟩,h7⟩,h8⟩,h9⟩ := h
 exact ⟨zcI h2 (by decide),zcI h3 (by decide),zcI h5 (by split <;> decide),zcI h6 (by decide),zcI h7 (by decide)⟩
theorem parts_of {x : Mg} (h : msgB x = true) (hN : MgN x) : (kE x.k = true → EntS x.e) ∧ LogS x.l ∧ (kR x.k = true → Av.I64 x.r.e ∧ Av.I64 x.r.n ∧ x.r.s.length ≤ 200) := by
 obtain ⟨i1,i2,i3,i4,i5,i6,i7⟩ := hN
 simp only [msgB,ze1] at h
 have h9 := h.2
 simp only [partsB,ze1] at h9
 obtain ⟨⟨⟨p1,p2⟩,p3⟩,p4⟩ := h9
 refine ⟨fun hk => ?_,logS_of p2 i5 i6,fun hk => ?_⟩
 ·rw [if_pos hk] at p1
  exact ⟨i4,entB_len p1⟩
 ·rw [if_pos hk] at p4
  simp only [repB,ze1,decide_eq_true_eq] at p4
  exact ⟨⟨by omega,by omega⟩,i7,by omega⟩
theorem one_part {k : Int} : (kE k = true → kL k = false ∧ kR k = false) ∧ (kL k = true → kR k = false) := by
 simp only [kE,kL,kR,Bool.or_eq_true,beq_iff_eq,Bool.or_eq_false_iff,beq_eq_false_iff_ne]
 omega
theorem flC_len (k : Int) : (8 ≤ (flC k).length) = True := eq_true (Nat.le_refl 8)
theorem flC_take (k : Int) : (flC k).take 8 = flC k := rfl
section
variable {Γ : Glob} {m : Store}
set_option maxHeartbeats 3200000 in
theorem mBytes_ok (E : Env Γ) (nn : Bool) (x : Mg) (hN : MgN x) : zab Tryz.prog Γ 27 [msgV nn x] m fun o m' => (∃ v,o = .ret v ∧ v = .tup [if msgB x = true then slN (frB (payB x)) else .sl [] [] .full,it (if msgB x = true then 0 else 2)]) ∧ m' = m := by
 have hnm := nb_msgV 0 nn x
 have hnc := zcV 0 nn x
 refine acalls_pn mixed F27_ok F27_h zaF (by simp only [hnm,nbS]) ?_
 simp only [F27,msgV,ss0,zeW,zeQ]
 simp only [zaj,msgC,ssH,zeQ,zeO,reduceIte,zeP,zeU,zeS,zeT]
 refine zam (by exact fun m => mCheck_ok E nn x) (by have := zaz (k := 0) nn x.l.l; simp only [this,nbS]) (by first | exact LR.nil | simp only [nbS]) ?_
 cases h : msgB x
 ·simp only [zeX,if_false,show ((2 : Int) != 0) = true from rfl,ssH,zeQ,zeO,reduceIte,zeP,zeU,zeS,zeT]
  exact zaa (v := .tup [.sl [] [] .full,it 2]) rfl ⟨by simp only [wN,wNs,tokN,nbS],rfl⟩
 ·simp only [if_true,show ((0 : Int) != 0) = false from rfl,ssH,zeQ,zeO,reduceIte,zeP,zeU,zeS,zeT]
  refine zam (by exact fun m => mOf_ok x.k) (by first | exact LR.nil | simp only [nbS]) (nb_fl _) ?_
  simp only [zaj,flC_fits,if_true,flC_set,ssH,zeQ,zeO,reduceIte,zeP,zeU,zeS,zeT]
  obtain ⟨i1,i2,i3,i4,i5,i6,i7⟩ := id hN
  obtain ⟨pE,pL,pR⟩ := parts_of h hN
  obtain ⟨o1,o2⟩ := @one_part x.k
  have hI := mgI_of h
  have z1 := zaT i1
  have z2 := zaT i2
  have z3 := zaT i3
  have hfl : (fldsB x).length ≤ 50 := by
   obtain ⟨j1,j2,j3,j4,j5⟩ := hI
   have := oB_len (kV x.k) (uz x.v)
   have := oB_len (kN x.k) (uz x.nr)
   have := oB_len (kO x.k) (uz x.op)
   have := oB_len (kC x.k) (uz x.cm)
   have := oB_len (kS x.k) (uz x.sq)
   have := zaT j1
   have := zaT j2
   have := zaT j3
   have := zaT j4
   have := zaT j5
   simp only [fldsB,zeY]
   omega
  refine hcall_buf0 (e := 5) (size := 1) (az := [it x.k]) (es2 := (uz x.k).map by8) (by simp) rfl (zaO (zet _)) (fun m => zbj (Γ := Γ) (l := []) (.inr ⟨rfl,rfl,rfl⟩) i1 (by simp)) (by first | exact LR.nil | simp only [nbS]) (zaf _) fun k1 => ?_
  simp only [zar,zas,ze2,zeZ,zeV,ze0,zbh,zbW,ssH,zeQ,zeO,reduceIte,zeP,zeU,zeS,zeT]
  refine za3 (e := 5) (size := 1) (j := 2) (k := k1) (az := [it x.f]) (es := (uz x.k).map by8) (es2 := (uz x.k ++ uz x.f).map by8) (by simp) rfl rfl (zaR _) (zaO (by simp [zet])) (zaO (by simp [zet])) (fun m m' v h => zbj (Γ := Γ) (.inl h) i2 (by omega)) (zaf _) (by first | exact LR.nil | simp only [nbS]) (zaf _) fun k2 => ?_
  simp only [zar,zas,ze2,zeZ,zeV,ze0,zbh,zbW,ssH,zeQ,zeO,reduceIte,zeP,zeU,zeS,zeT]
  refine za3 (e := 5) (size := 1) (j := 3) (k := k2) (az := [it x.t]) (es := ((uz x.k ++ uz x.f)).map by8) (es2 := ((uz x.k ++ uz x.f) ++ uz x.t).map by8) (by simp) rfl rfl (zaR _) (zaO (by simp [zet])) (zaO (by simp [zet])) (fun m m' v h => zbj (Γ := Γ) (.inl h) i3 (by simp only [zeY]; omega)) (zaf _) (by first | exact LR.nil | simp only [nbS]) (zaf _) fun k3 => ?_
  simp only [zar,zas,ze2,zeZ,zeV,ze0,zbh,zbW,ssH,zeQ,zeO,reduceIte,zeP,zeU,zeS,zeT]
  have hpre : (uz x.k ++ uz x.f ++ uz x.t).length ≤ 30 := by simp only [zeY]; omega
  have hpne : uz x.k ++ uz x.f ++ uz x.t ≠ [] := by simp [zet]
  obtain ⟨pre,hpr⟩ : ∃ z,z = uz x.k ++ uz x.f ++ uz x.t := ⟨_,rfl⟩
  simp only [flC_len,if_true,flC_take,ssH,zeQ,zeO,reduceIte,zeP,zeU,zeS,zeT]
  rw [← hpr] at hpre hpne ⊢
  refine hcall_n (args0 := [.agg (flC x.k),.ptr 0 0,.fn (.func 63) [] [.ptr 1 0]]) (hs := putH nn x pre k3) [0,5] [4] (mEach_ok (Γ := Γ) nn x pre k3 hI hpne (by omega)) (by simp only [rens,ren,rens_nb (nb_flC 0 _),zb7,zb8]; rfl) (by simp only [putH,zeV,ze0,nb_flC,nbS]; decide) (nbH_putH nn x pre k3) rfl (by decide) (by simp) ?_ (by simp) ?_
  ·simp only [putH,ze2,zeZ,zdB,zes,ren_mgB,ren_btB,zb7,zb8,and_true]
   exact ⟨rfl,rfl,rfl⟩
  rintro v h' ⟨rfl,k4,rfl⟩
  refine ⟨⟨by simp [putH],by simp only [putH,nbS],nbH_putH nn x _ k4,by simp [putH]⟩,?_⟩
  simp only [hnone_cons,hnone_nil,putH,putB_cons,putB_nil,Option.map,zfG,ren_mgB,ren_btB,ren,rens,renB_tip,zb7,zb8,nmf_nil,zar,zas,zeV,ze0,ze2,zeZ,Nat.add_zero]
  simp only [flC,mgB,btB,msgC,ssH,zeQ,zeO,reduceIte,zeP,zeU,zeS,zeT]
  obtain ⟨L,hLe⟩ : ∃ z,z = pre ++ fldsB x := ⟨_,rfl⟩
  have hLl : L.length ≤ 80 := by rw [hLe,zeY]; omega
  have hLn : L ≠ [] := by rw [hLe]; simp [hpne]
  have hpay : payB x = L ++ oB (kE x.k) (putE x.e) ++ oB (kL x.k) (putL x.l) ++ oB (kR x.k) (putR x.r) := by
   rw [hLe,hpr,payB,fldsB]
   simp only [ze3]
  rw [← hLe]
  clear hLe hpr hfl hpre
  have last : ∀ (P : List UInt8),payB x = P → P.length ≤ 1048576 → wN (.tup [slN (frB P),it 0]) = .tup [slN (frB (payB x)),it 0] := by
   intro P hP _
   have e : ∀ l : List UInt8,wNs (l.map by8) = l.map by8 := wNs_map (fun _ => rfl)
   have : wN (slN (frB P)) = slN (frB P) := by
    simp only [slN,wN,e,wNs]
    cases frB P <;> rfl
   rw [wN,wNs,wNs,wNs,this,hP]
   rfl
  cases hE : kE x.k
  case' true =>
   obtain ⟨oL,oR⟩ := o1 hE
   obtain ⟨q1,q2,q3⟩ := pE hE
   have zE := putE_len q1 (by omega) (by omega)
   rw [oL,oR,hE] at hpay
   simp only [oB,if_true,zeX,if_false,ze9] at hpay
   simp only [oL,oR,ssH,zeQ,zeO,reduceIte,zeP,zeU,zeS,zeT]
   refine za3 (e := 5) (size := 1) (j := 6) (k := k4) (az := [entV x.e]) (es := (L).map by8) (es2 := (L ++ putE x.e).map by8) (by simp) rfl rfl (zaR _) (zaO (by simp [hLn])) (zaO (by simp [hLn])) (fun m m' v h => sPut_ok (Γ := Γ) (.inl h) x.e q1 (by omega)) (zaf _) (by have := zct (k := 0) x.e; simp only [this,nbS]) (zaf _) fun k5 => ?_
   simp only [zar,zas,ze2,zeZ,zeV,ze0,zbh,zbW,ssH,zeQ,zeO,reduceIte,zeP,zeU,zeS,zeT]
   refine hcall_sl2 (v := .tup [slN (frB (L ++ putE x.e)),it 0]) (x := .sl [] [] .full) (es := (L ++ putE x.e).map by8) (more := []) rfl (fun m tok' => zaG (fPut_ok (L ++ putE x.e) [] tok' (by simp only [zeY]; omega))) (by first | exact LR.nil | simp only [nbS]) (zaf _) .nil .nil (by simp only [zcO,nbS]) ?_
   simp only [ssH,zeQ,zeO,reduceIte,zeP,zeU,zeS,zeT]
   exact zaa (v := .tup [slN (frB (L ++ putE x.e)),it 0]) rfl ⟨by rw [last (L ++ putE x.e) hpay (by simp only [zeY]; omega)]; simp only [zcO,nbS],last (L ++ putE x.e) hpay (by simp only [zeY]; omega)⟩
  case' false =>
   simp only [ssH,zeQ,zeO,reduceIte,zeP,zeU,zeS,zeT]
   cases hL : kL x.k
   case' true =>
    have oR := o2 hL
    have zL := putL_len pL
    rw [hL,oR,hE] at hpay
    simp only [oB,if_true,zeX,if_false,ze9] at hpay
    simp only [oR,ssH,zeQ,zeO,reduceIte,zeP,zeU,zeS,zeT]
    refine za3 (e := 5) (size := 1) (j := 6) (k := k4) (az := [lgV nn x.l]) (es := (L).map by8) (es2 := (L ++ putL x.l).map by8) (by simp) rfl rfl (zaR _) (zaO (by simp [hLn])) (zaO (by simp [hLn])) (fun m m' v h => oPut_ok (Γ := Γ) (.inl h) nn x.l pL.w (by omega)) (zaf _) (by have := nb_lgV (k := 0) nn x.l; simp only [this,nbS]) (zaf _) fun k5 => ?_
    simp only [zar,zas,ze2,zeZ,zeV,ze0,zbh,zbW,ssH,zeQ,zeO,reduceIte,zeP,zeU,zeS,zeT]
    refine hcall_sl2 (v := .tup [slN (frB (L ++ putL x.l)),it 0]) (x := .sl [] [] .full) (es := (L ++ putL x.l).map by8) (more := []) rfl (fun m tok' => zaG (fPut_ok (L ++ putL x.l) [] tok' (by simp only [zeY]; omega))) (by first | exact LR.nil | simp only [nbS]) (zaf _) .nil .nil (by simp only [zcO,nbS]) ?_
    simp only [ssH,zeQ,zeO,reduceIte,zeP,zeU,zeS,zeT]
    exact zaa (v := .tup [slN (frB (L ++ putL x.l)),it 0]) rfl ⟨by rw [last (L ++ putL x.l) hpay (by simp only [zeY]; omega)]; simp only [zcO,nbS],last (L ++ putL x.l) hpay (by simp only [zeY]; omega)⟩
   case' false =>
    simp only [ssH,zeQ,zeO,reduceIte,zeP,zeU,zeS,zeT]
    cases hR : kR x.k
    case' true =>
     obtain ⟨r1,r2,r3⟩ := pR hR
     have y1 := zaT r1
     have y2 := zaT r2
     have y3 := zaT (n := (x.r.s.length : Int)) ⟨by omega,by omega⟩
     rw [hL,hR,hE] at hpay
     simp only [oB,if_true,zeX,if_false,ze9,putR,← ze3] at hpay
     rw [ze3 (L ++ uz x.r.e ++ uz x.r.n)] at hpay
     simp only [ssH,zeQ,zeO,reduceIte,zeP,zeU,zeS,zeT]
     refine za3 (e := 5) (size := 1) (j := 6) (k := k4) (az := [it x.r.e]) (es := (L).map by8) (es2 := (L ++ uz x.r.e).map by8) (by simp) rfl rfl (zaR _) (zaO (by simp [hLn])) (zaO (by simp [hLn])) (fun m m' v h => zbj (Γ := Γ) (.inl h) r1 (by omega)) (zaf _) (by first | exact LR.nil | simp only [nbS]) (zaf _) fun k5 => ?_
     simp only [zar,zas,ze2,zeZ,zeV,ze0,zbh,zbW,ssH,zeQ,zeO,reduceIte,zeP,zeU,zeS,zeT]
     refine za3 (e := 5) (size := 1) (j := 7) (k := k5) (az := [it x.r.n]) (es := ((L ++ uz x.r.e)).map by8) (es2 := ((L ++ uz x.r.e) ++ uz x.r.n).map by8) (by simp) rfl rfl (zaR _) (zaO (by simp [hLn])) (zaO (by simp [hLn])) (fun m m' v h => zbj (Γ := Γ) (.inl h) r2 (by simp only [zeY]; omega)) (zaf _) (by first | exact LR.nil | simp only [nbS]) (zaf _) fun k6 => ?_
     simp only [zar,zas,ze2,zeZ,zeV,ze0,zbh,zbW,ssH,zeQ,zeO,reduceIte,zeP,zeU,zeS,zeT]
     refine za3 (e := 5) (size := 1) (j := 8) (k := k6) (az := [bs x.r.s]) (es := ((L ++ uz x.r.e ++ uz x.r.n)).map by8) (es2 := ((L ++ uz x.r.e ++ uz x.r.n) ++ (uz x.r.s.length ++ x.r.s)).map by8) (by simp) rfl rfl (zaR _) (zaO (by simp [hLn])) (zaO (by simp [hLn])) (fun m m' v h => by have := putText_ok (Γ := Γ) h (t := x.r.s) (by simp only [zeY]; omega) (by simp only [zeY]; omega); rw [ze3] at this; exact this) (zaf _) (by first | exact LR.nil | simp only [nbS]) (zaf _) fun k7 => ?_
     simp only [zar,zas,ze2,zeZ,zeV,ze0,zbh,zbW,ssH,zeQ,zeO,reduceIte,zeP,zeU,zeS,zeT]
     refine hcall_sl2 (v := .tup [slN (frB (L ++ uz x.r.e ++ uz x.r.n ++ (uz x.r.s.length ++ x.r.s))),it 0]) (x := .sl [] [] .full) (es := (L ++ uz x.r.e ++ uz x.r.n ++ (uz x.r.s.length ++ x.r.s)).map by8) (more := []) rfl (fun m tok' => zaG (fPut_ok (L ++ uz x.r.e ++ uz x.r.n ++ (uz x.r.s.length ++ x.r.s)) [] tok' (by simp only [zeY]; omega))) (by first | exact LR.nil | simp only [nbS]) (zaf _) .nil .nil (by simp only [zcO,nbS]) ?_
     simp only [ssH,zeQ,zeO,reduceIte,zeP,zeU,zeS,zeT]
     exact zaa (v := .tup [slN (frB (L ++ uz x.r.e ++ uz x.r.n ++ (uz x.r.s.length ++ x.r.s))),it 0]) rfl ⟨by rw [last (L ++ uz x.r.e ++ uz x.r.n ++ (uz x.r.s.length ++ x.r.s)) hpay (by simp only [zeY]; omega)]; simp only [zcO,nbS],last (L ++ uz x.r.e ++ uz x.r.n ++ (uz x.r.s.length ++ x.r.s)) hpay (by simp only [zeY]; omega)⟩
    case' false =>
     rw [hL,hR,hE] at hpay
     simp only [oB,zeX,if_false,ze9] at hpay
     simp only [ssH,zeQ,zeO,reduceIte,zeP,zeU,zeS,zeT]
     refine hcall_sl2 (v := .tup [slN (frB (L)),it 0]) (x := .sl [] [] .full) (es := (L).map by8) (more := []) rfl (fun m tok' => zaG (fPut_ok (L) [] tok' (by omega))) (by first | exact LR.nil | simp only [nbS]) (zaf _) .nil .nil (by simp only [zcO,nbS]) ?_
     simp only [ssH,zeQ,zeO,reduceIte,zeP,zeU,zeS,zeT]
     exact zaa (v := .tup [slN (frB (L)),it 0]) rfl ⟨by rw [last (L) hpay (by omega)]; simp only [zcO,nbS],last (L) hpay (by omega)⟩
end
def msgN (m : Mg) : V := msgV (!m.l.l.isEmpty) m
theorem zbL (k : Nat) (m : Mg) : nb k (msgN m) := nb_msgV k _ m
section
variable {Γ : Glob} {m : Store}
set_option maxHeartbeats 6400000 in
theorem mread_ok (E : Env Γ) (s mo : List UInt8) (tok : Tok) (hs : s.length ≤ 281474976710656) : zab Tryz.prog Γ 71 [.sl (s.map by8) (mo.map by8) tok] m fun o m' => o = .ret (.tup [msgN (msgS s).1,it (msgS s).2]) ∧ m' = m := by
 refine zab.tok [] [] ?_
 refine zaG (zaL mixed F71_ok F71_h zaF (by simp only [zeZ,zaS,nbS]) ?_)
 simp only [F71,zeZ,ss0,zeW,zeQ]
 simp only [ssH,zeQ,zeO,reduceIte,zeP,zeU,zeS,zeT]
 refine hcall_newsl (Y := rdB s 0 0) (by simp) rfl (fun m tok' => wNew_ok) (zaf _) (zaf _) .nil zay ?_
 simp only [ze2,zeZ,zeV,ze0,ssH,zeQ,zeO,reduceIte,zeP,zeU,zeS,zeT]
 obtain ⟨k,a1,e1,h1⟩ : ∃ x y z,rInt s 0 0 = (x,y,z) := ⟨_,_,_,rfl⟩
 have l1 := zaC (s := s) (a := 0) (e := 0) (Nat.zero_le _)
 rw [h1] at l1
 obtain ⟨f,a2,e2,h2⟩ : ∃ x y z,rInt s a1 e1 = (x,y,z) := ⟨_,_,_,rfl⟩
 have l2 := zaC (e := e1) l1
 rw [h2] at l2
 obtain ⟨t,a3,e3,h3⟩ : ∃ x y z,rInt s a2 e2 = (x,y,z) := ⟨_,_,_,rfl⟩
 have l3 := zaC (e := e2) l2
 rw [h3] at l3
 simp only at l1 l2 l3
 refine zaH (b := 1) (X := rdB s 0 0) rfl rfl (fun m b' h => zco h (Nat.zero_le _) (by omega)) zay zay (by first | exact LR.nil | simp only [nbS]) (by first | exact LR.nil | simp only [nbS]) ?_
 simp only [h1,zar,zas,ssH,zeQ,zeO,reduceIte,zeP,zeU,zeS,zeT]
 refine zaH (b := 1) (X := rdB s a1 e1) rfl rfl (fun m b' h => zco h l1 (by omega)) zay zay (by first | exact LR.nil | simp only [nbS]) (by first | exact LR.nil | simp only [nbS]) ?_
 simp only [h2,zar,zas,ssH,zeQ,zeO,reduceIte,zeP,zeU,zeS,zeT]
 refine zaH (b := 1) (X := rdB s a2 e2) rfl rfl (fun m b' h => zco h l2 (by omega)) zay zay (by first | exact LR.nil | simp only [nbS]) (by first | exact LR.nil | simp only [nbS]) ?_
 simp only [h3,zar,zas,zaj,ze2,zeZ,zeV,ze0,ssH,zeQ,zeO,reduceIte,zeP,zeU,zeS,zeT]
 refine zam (by exact fun m => mOf_ok k) (by first | exact LR.nil | simp only [nbS]) (nb_fl _) ?_
 simp only [zaj,flC_fits,if_true,flC_set,ze2,zeZ,zeV,ze0,ssH,zeQ,zeO,reduceIte,zeP,zeU,zeS,zeT]
 refine zbo (b := 1) (X := rdB s a3 e3) rfl rfl (fun m b' h => zdS h) zay (by first | exact LR.nil | simp only [nbS]) (by first | exact LR.nil | simp only [nbS]) ?_
 obtain ⟨v,a4,e4,h4⟩ : ∃ x y z,oI (kV k) s (a3,e3) = (x,y,z) := ⟨_,_,_,rfl⟩
 have l4 := oI_le (p := kV k) (x := (a3,e3)) l3
 rw [h4] at l4
 obtain ⟨nr,a5,e5,h5⟩ : ∃ x y z,oI (kN k) s (a4,e4) = (x,y,z) := ⟨_,_,_,rfl⟩
 have l5 := oI_le (p := kN k) (x := (a4,e4)) l4
 rw [h5] at l5
 obtain ⟨op,a6,e6,h6⟩ : ∃ x y z,oI (kO k) s (a5,e5) = (x,y,z) := ⟨_,_,_,rfl⟩
 have l6 := oI_le (p := kO k) (x := (a5,e5)) l5
 rw [h6] at l6
 obtain ⟨cm,a7,e7,h7⟩ : ∃ x y z,oI (kC k) s (a6,e6) = (x,y,z) := ⟨_,_,_,rfl⟩
 have l7 := oI_le (p := kC k) (x := (a6,e6)) l6
 rw [h7] at l7
 obtain ⟨sq,a8,e8,h8⟩ : ∃ x y z,oI (kS k) s (a7,e7) = (x,y,z) := ⟨_,_,_,rfl⟩
 have l8 := oI_le (p := kS k) (x := (a7,e7)) l7
 rw [h8] at l8
 simp only at l4 l5 l6 l7 l8
 have hM := mEachR_ok (Γ := Γ) (s := s) k f t a3 e3 l3 hs
 simp only [h4,h5,h6,h7,h8] at hM
 have hG : ∀ (en : Ent) (lo : Lg) (re : Rpl) (a9 a10 a11 : Nat) (e9 e10 e11 : Int),oE (kE k) s (a8,e8) = (en,a9,e9) → oL (kL k) s (a9,e9) = (lo,a10,e10) → oR (kR k) s (a10,e10) = (re,a11,e11) → getM s = (⟨k,f,t,v,nr,op,cm,sq,en,lo,re⟩,a11,e11) := by
  intro en lo re a9 a10 a11 e9 e10 e11 q1 q2 q3
  unfold getM
  simp only [h1,h2,h3,h4,h5,h6,h7,h8,q1,q2,q3]
 have hnb8 : nbs 0 (msgC false (mg8 k f t v nr op cm sq)) := zcV 0 false _
 have hnb3 : nbs 0 (msgC false (mg3 k f t)) := zcV 0 false _
 obtain ⟨o1,o2⟩ := @one_part k
 by_cases hbad : e3 = 0 ∧ kK k = false
 ·obtain ⟨rfl,hk⟩ := hbad
  have : msgS s = (mg0,4) := by
   unfold msgS
   simp only [h1,h2,h3]
   rw [if_pos ⟨trivial,hk⟩]
  simp only [show ((0 : Int) == 0) = true from rfl,hk,ze4,zaj,this,ssH,zeQ,zeO,reduceIte,zeP,zeU,zeS,zeT]
  exact zaa (v := .tup [msgN mg0,it 4]) rfl ⟨by simp only [zbL,nbS],rfl⟩
 have hS : ∀ (x : Mg) (a : Nat) (e : Int),getM s = (x,a,e) → msgS s = if endS s (a,e) ≠ 0 then (mg0,endS s (a,e)) else (x,0) := by
  intro x a e hg
  unfold msgS
  simp only [h1,h2,h3,hg]
  rw [if_neg hbad]
 have hgo : ((e3 == 0) = true ∧ kK k = true) ∨ (e3 == 0) = false := by
  cases h : (e3 == 0)
  ·exact .inr rfl
  ·refine .inl ⟨rfl,?_⟩
   cases hk : kK k
   ·exact absurd ⟨by simpa using h,hk⟩ hbad
   ·rfl
 rcases hgo with ⟨g1,g2⟩ | g1
 case' inl => simp only [g1,g2,ze5,flC_len,if_true,flC_take,ssH,zeQ,zeO,reduceIte,zeP,zeU,zeS,zeT]
 case' inr => simp only [g1,flC_len,if_true,flC_take,ssH,zeQ,zeO,reduceIte,zeP,zeU,zeS,zeT]
 all_goals
  refine hcall_f (args0 := [.agg (flC k),.ptr 0 0,.fn (.func 118) [] [.ptr 1 0]]) (hs := getH (msgC false (mg3 k f t)) s a3 e3) [3,2,1] hM (by simp only [rens,ren,rens_nb (nb_flC 0 _),zb7,zb8]; rfl) (by simp only [getH,zeV,ze0,nb_flC,nbS]; decide) (nbH_getH hnb3 s a3 e3) rfl (by decide) (by simp) ?_ (by simp) ?_
  ·simp only [getH,zdB,zes,ren_varB hnb3,ren_rpB,ren_rdB,zb7,zb8,and_true]
   exact ⟨rfl,rfl,rfl⟩
  rintro r h' ⟨rfl,rfl⟩
  refine ⟨⟨by simp,by simp only [nbS],by have : ∀ n,nbs n (msgC false (mg8 k f t v nr op cm sq)) := fun n => nbs_weaken hnb8; simp only [nbH_some,nbH_nil,this,zay,nb_flC,rpB,nbS]; show 2 < 4; decide,by simp [getH,nnl]⟩,?_⟩
  simp only [putB_cons,putB_nil,Option.map,zfG,ren_varB hnb8,ren_varB (nb_flC 0 k),ren_rpB,ren_rdB,ren,rens,zb7,zb8,zar,zas,ze2,zeZ]
  simp only [flC,msgC,mg8,rpB,ssH,zeQ,zeO,reduceIte,zeP,zeU,zeS,zeT]
  cases hE : kE k
  case true =>
   obtain ⟨oL_,oR_⟩ := o1 hE
   obtain ⟨en,a9,e9,h9⟩ : ∃ x y z,getE s a8 e8 = (x,y,z) := ⟨_,_,_,rfl⟩
   simp only [oL_,oR_,ssH,zeQ,zeO,reduceIte,zeP,zeU,zeS,zeT]
   refine zaH (b := 1) (X := rdB s a8 e8) rfl rfl (fun m b' h => sGet_ok E.lib h l8 hs) zay zay (by first | exact LR.nil | simp only [nbS]) (zct _) ?_
   simp only [h9,entV,zar,zas,zaj,ssH,zeQ,zeO,reduceIte,zeP,zeU,zeS,zeT]
   refine zbo (b := 1) (X := rdB s a9 e9) rfl rfl (fun m b' h => wEnd_ok h) zay (by first | exact LR.nil | simp only [nbS]) (by first | exact LR.nil | simp only [nbS]) ?_
   rw [show (if e9 ≠ 0 then e9 else if a9 < s.length then 5 else 0) = endS s (a9,e9) from rfl,hS _ _ _ (hG en lg0 r0 a9 a9 a9 e9 e9 e9 (by rw [hE]; exact h9) (by rw [oL_]; rfl) (by rw [oR_]; rfl))]
   by_cases hz : endS s (a9,e9) = 0
   ·rw [if_neg (by simp [hz])]
    simp only [hz,show ((0 : Int) != 0) = false from rfl,zaj,zci,ssH,zeQ,zeO,reduceIte,zeP,zeU,zeS,zeT]
    exact zaa (v := .tup [msgN ⟨k,f,t,v,nr,op,cm,sq,en,lg0,r0⟩,it 0]) rfl ⟨by simp only [zbL,nbS],rfl⟩
   ·rw [if_pos hz]
    simp only [bne_iff_ne.2 hz,zaj,ssH,zeQ,zeO,reduceIte,zeP,zeU,zeS,zeT]
    exact zaa (v := .tup [msgN mg0,it (endS s (a9,e9))]) rfl ⟨by simp only [zbL,nbS],rfl⟩
  simp only [ssH,zeQ,zeO,reduceIte,zeP,zeU,zeS,zeT]
  cases hL : kL k
  case true =>
   have oR_ := o2 hL
   obtain ⟨lo,a9,e9,h9⟩ : ∃ x y z,getL s a8 e8 = (x,y,z) := ⟨_,_,_,rfl⟩
   simp only [oR_,ssH,zeQ,zeO,reduceIte,zeP,zeU,zeS,zeT]
   refine zaH (b := 1) (X := rdB s a8 e8) rfl rfl (fun m b' h => oGet_ok E.lib h l8 hs) zay zay (by first | exact LR.nil | simp only [nbS]) (nb_lgV _ _) ?_
   simp only [h9,lgN,lgV,zci,zar,zas,zaj,ssH,zeQ,zeO,reduceIte,zeP,zeU,zeS,zeT]
   refine zbo (b := 1) (X := rdB s a9 e9) rfl rfl (fun m b' h => wEnd_ok h) zay (by first | exact LR.nil | simp only [nbS]) (by first | exact LR.nil | simp only [nbS]) ?_
   rw [show (if e9 ≠ 0 then e9 else if a9 < s.length then 5 else 0) = endS s (a9,e9) from rfl,hS _ _ _ (hG e0 lo r0 a8 a9 a9 e8 e9 e9 (by rw [hE]; rfl) (by rw [hL]; exact h9) (by rw [oR_]; rfl))]
   by_cases hz : endS s (a9,e9) = 0
   ·rw [if_neg (by simp [hz])]
    simp only [hz,show ((0 : Int) != 0) = false from rfl,zaj,zci,ssH,zeQ,zeO,reduceIte,zeP,zeU,zeS,zeT]
    exact zaa (v := .tup [msgN ⟨k,f,t,v,nr,op,cm,sq,e0,lo,r0⟩,it 0]) rfl ⟨by simp only [zbL,nbS],rfl⟩
   ·rw [if_pos hz]
    simp only [bne_iff_ne.2 hz,zaj,ssH,zeQ,zeO,reduceIte,zeP,zeU,zeS,zeT]
    exact zaa (v := .tup [msgN mg0,it (endS s (a9,e9))]) rfl ⟨by simp only [zbL,nbS],rfl⟩
  simp only [ssH,zeQ,zeO,reduceIte,zeP,zeU,zeS,zeT]
  cases hR : kR k
  case true =>
   obtain ⟨r1,a9,e9,h9⟩ : ∃ x y z,rInt s a8 e8 = (x,y,z) := ⟨_,_,_,rfl⟩
   have l9 := zaC (e := e8) l8
   rw [h9] at l9
   obtain ⟨r2,a10,e10,h10⟩ : ∃ x y z,rInt s a9 e9 = (x,y,z) := ⟨_,_,_,rfl⟩
   have l10 := zaC (e := e9) l9
   rw [h10] at l10
   obtain ⟨r3,a11,e11,h11⟩ : ∃ x y z,zcl s a10 e10 255 = (x,y,z) := ⟨_,_,_,rfl⟩
   simp only at l9 l10
   simp only [ssH,zeQ,zeO,reduceIte,zeP,zeU,zeS,zeT]
   refine zaH (b := 1) (X := rdB s a8 e8) rfl rfl (fun m b' h => zco h l8 (by omega)) zay zay (by first | exact LR.nil | simp only [nbS]) (by first | exact LR.nil | simp only [nbS]) ?_
   simp only [h9,zar,zas,ssH,zeQ,zeO,reduceIte,zeP,zeU,zeS,zeT]
   refine zaH (b := 1) (X := rdB s a9 e9) rfl rfl (fun m b' h => zco h l9 (by omega)) zay zay (by first | exact LR.nil | simp only [nbS]) (by first | exact LR.nil | simp only [nbS]) ?_
   simp only [h10,zar,zas,ssH,zeQ,zeO,reduceIte,zeP,zeU,zeS,zeT]
   refine zaH (b := 1) (az := [it 255]) (X := rdB s a10 e10) rfl rfl (fun m b' h => wText_ok E.lib 255 h l10 hs) zay zay (by first | exact LR.nil | simp only [nbS]) (by first | exact LR.nil | simp only [nbS]) ?_
   simp only [h11,zar,zas,zaj,ssH,zeQ,zeO,reduceIte,zeP,zeU,zeS,zeT]
   refine zbo (b := 1) (X := rdB s a11 e11) rfl rfl (fun m b' h => wEnd_ok h) zay (by first | exact LR.nil | simp only [nbS]) (by first | exact LR.nil | simp only [nbS]) ?_
   rw [show (if e11 ≠ 0 then e11 else if a11 < s.length then 5 else 0) = endS s (a11,e11) from rfl,hS _ _ _ (hG e0 lg0 ⟨r1,r2,r3⟩ a8 a8 a11 e8 e8 e11 (by rw [hE]; rfl) (by rw [hL]; rfl) (by rw [hR]; show getR s (a8,e8) = _; unfold getR; simp only [h9,h10,h11]))]
   by_cases hz : endS s (a11,e11) = 0
   ·rw [if_neg (by simp [hz])]
    simp only [hz,show ((0 : Int) != 0) = false from rfl,zaj,zci,ssH,zeQ,zeO,reduceIte,zeP,zeU,zeS,zeT]
    exact zaa (v := .tup [msgN ⟨k,f,t,v,nr,op,cm,sq,e0,lg0,⟨r1,r2,r3⟩⟩,it 0]) rfl ⟨by simp only [zbL,nbS],rfl⟩
   ·rw [if_pos hz]
    simp only [bne_iff_ne.2 hz,zaj,ssH,zeQ,zeO,reduceIte,zeP,zeU,zeS,zeT]
    exact zaa (v := .tup [msgN mg0,it (endS s (a11,e11))]) rfl ⟨by simp only [zbL,nbS],rfl⟩
  simp only [ssH,zeQ,zeO,reduceIte,zeP,zeU,zeS,zeT]
  refine zbo (b := 1) (X := rdB s a8 e8) rfl rfl (fun m b' h => wEnd_ok h) zay (by first | exact LR.nil | simp only [nbS]) (by first | exact LR.nil | simp only [nbS]) ?_
  rw [show (if e8 ≠ 0 then e8 else if a8 < s.length then 5 else 0) = endS s (a8,e8) from rfl,hS _ _ _ (hG e0 lg0 r0 a8 a8 a8 e8 e8 e8 (by rw [hE]; rfl) (by rw [hL]; rfl) (by rw [hR]; rfl))]
  by_cases hz : endS s (a8,e8) = 0
  ·rw [if_neg (by simp [hz])]
   simp only [hz,show ((0 : Int) != 0) = false from rfl,zaj,zci,ssH,zeQ,zeO,reduceIte,zeP,zeU,zeS,zeT]
   exact zaa (v := .tup [msgN ⟨k,f,t,v,nr,op,cm,sq,e0,lg0,r0⟩,it 0]) rfl ⟨by simp only [zbL,nbS],rfl⟩
  ·rw [if_pos hz]
   simp only [bne_iff_ne.2 hz,zaj,ssH,zeQ,zeO,reduceIte,zeP,zeU,zeS,zeT]
   exact zaa (v := .tup [msgN mg0,it (endS s (a8,e8))]) rfl ⟨by simp only [zbL,nbS],rfl⟩
end
section
variable {Γ : Glob} {m : Store}
theorem msgR_bad {b : List UInt8} (h : (frG b).2.2 ≠ 0) : msgR b = (mg0,(frG b).2.2) := by unfold msgR; rw [if_pos h]
theorem mRead_ok (E : Env Γ) (b mo : List UInt8) (tok : Tok) (hb : b.length ≤ 100000000) : zab Tryz.prog Γ 33 [.sl (b.map by8) (mo.map by8) tok] m fun o m' => o = .ret (.tup [msgN (msgR b).1,it (msgR b).2]) ∧ m' = m := by
 refine zab.tok [] [] ?_
 refine zaG (zaL mixed F33_ok F33_h zaF (by simp only [zeZ,zaS,nbS]) ?_)
 simp only [F33,zeZ,ss0,zeW,zeQ]
 simp only [ssH,zeQ,zeO,reduceIte,zeP,zeU,zeS,zeT]
 obtain ⟨x,n,e,hg⟩ : ∃ x n e,frG b = (x,n,e) := ⟨_,_,_,rfl⟩
 have hG : ∀ m,zab Tryz.prog Γ 36 [.sl (b.map by8) (mo.map by8) .no,it 0] m fun o m' => o = .ret (.tup [if e = 0 then slN x else .sl [] [] .full,it (if e = 0 then n else 0 : Nat),it e]) ∧ m' = m := by
  intro m
  have := zaG (fGet_ok (Γ := Γ) (m := m) b mo .no 0 (Nat.zero_le _) hb)
  rw [zfH,hg,Nat.zero_add] at this
  exact this
 refine zam (by exact hG) (by simp only [zaS,nbS]) (by split <;> simp only [zcO,nbS]) ?_
 by_cases he : e = 0
 case neg =>
  have hR : msgR b = (mg0,e) := by rw [msgR_bad (by rw [hg]; exact he),hg]
  simp only [if_neg he,bne_iff_ne.2 he,hR,zaj,ssH,zeQ,zeO,reduceIte,zeP,zeU,zeS,zeT]
  exact zaa (v := .tup [msgN mg0,it e]) rfl ⟨by simp only [zbL,nbS],rfl⟩
 subst he
 obtain ⟨f1,f2,f3,f4⟩ := frG_ok hg
 obtain ⟨y,e2,hr⟩ : ∃ y e2,msgS x = (y,e2) := ⟨_,_,rfl⟩
 have hN : ∀ k,nb k (slN x) := fun k => zcO
 simp only [if_true,show ((0 : Int) != 0) = false from rfl,ssH,zeQ,zeO,reduceIte,zeP,zeU,zeS,zeT]
 refine zam (v := .tup [msgN y,it e2]) (by intro m; have := mread_ok (Γ := Γ) (m := m) E x [] .non (by omega); rw [hr] at this; exact this) (by simp only [hN,nbS]) (by simp only [zbL,nbS]) ?_
 have hme : ∀ z,msgN z = .agg (msgC (!z.l.l.isEmpty) z) := fun z => rfl
 simp only [hme,msgC,zci,zaj,ssH,zeQ,zeO,reduceIte,zeP,zeU,zeS,zeT]
 by_cases he2 : e2 = 0
 case neg =>
  have hR : msgR b = (mg0,e2) := by
   unfold msgR
   simp only [hg,hr]
   rw [if_neg (by simp),if_pos he2]
  simp only [bne_iff_ne.2 he2,hR,zaj,ssH,zeQ,zeO,reduceIte,zeP,zeU,zeS,zeT]
  exact zaa (v := .tup [msgN mg0,it e2]) rfl ⟨by simp only [zbL,nbS],rfl⟩
 subst he2
 simp only [show ((0 : Int) != 0) = false from rfl,zfc,ssH,zeQ,zeO,reduceIte,zeP,zeU,zeS,zeT]
 by_cases hl : n < b.length
 case pos =>
  have hR : msgR b = (mg0,5) := by
   unfold msgR
   simp only [hg,hr]
   rw [if_neg (by simp),if_neg (by simp),if_pos hl]
  simp only [show decide ((n : Int) < (b.length : Int)) = true from decide_eq_true (by omega),hR,zaj,ssH,zeQ,zeO,reduceIte,zeP,zeU,zeS,zeT]
  exact zaa (v := .tup [msgN mg0,it 5]) rfl ⟨by simp only [zbL,nbS],rfl⟩
 simp only [show decide ((n : Int) < (b.length : Int)) = false from decide_eq_false (by omega),ssH,zeQ,zeO,reduceIte,zeP,zeU,zeS,zeT]
 refine zam (by exact fun m => mCheck_ok E (!y.l.l.isEmpty) y) (by have := zcV 0 (!y.l.l.isEmpty) y; simp only [msgC] at this; simp only [this,nbS]) (by first | exact LR.nil | simp only [nbS]) ?_
 cases hm : msgB y
 ·have hR : msgR b = (mg0,2) := by
   unfold msgR
   simp only [hg,hr,hm]
   rw [if_neg (by simp),if_neg (by simp),if_neg hl,if_neg (by decide)]
  simp only [zeX,if_false,show ((2 : Int) != 0) = true from rfl,hR,zaj,ssH,zeQ,zeO,reduceIte,zeP,zeU,zeS,zeT]
  exact zaa (v := .tup [msgN mg0,it 2]) rfl ⟨by simp only [zbL,nbS],rfl⟩
 ·have hR : msgR b = (y,0) := by
   unfold msgR
   simp only [hg,hr,hm]
   rw [if_neg (by simp),if_neg (by simp),if_neg hl,if_pos trivial]
  simp only [if_true,show ((0 : Int) != 0) = false from rfl,hR,zci,zaj,ssH,zeQ,zeO,reduceIte,zeP,zeU,zeS,zeT]
  exact zaa (v := .tup [msgN y,it 0]) rfl ⟨by simp only [zbL,nbS],rfl⟩
end
end Go.Av.Fn
/- The document's examples, reckoned. No condition. -/
namespace Go.Av.Fn
set_option linter.unusedSimpArgs false
set_option linter.unusedVariables false
set_option maxRecDepth 100000
open Go.Proofs
def Gl23 : Glob := fun _ => none
def tab23 : List (Nat × AFn) := [(26,F26),(27,F27),(29,F29),(31,F31),(33,F33),(35,F35),(59,F59),(50,F50),(54,F54),(60,F60),(61,F61),(62,F62),(63,F63),(64,F64),(65,F65),(68,F68),(69,F69),(70,F70),(36,F36),(71,F71),(40,F40),(101,F101),(102,F102),(109,F109),(84,F84),(85,F85),(110,F110),(111,F111),(116,F116),(117,F117),(42,F42),(48,F48),(80,F80),(81,F81),(82,F82),(83,F83),(86,F86),(87,F87),(89,F89),(90,F90),(118,F118),(119,F119),(120,F120),(93,F93),(142,F142),(94,F94),(95,F95),(98,F98),(99,F99),(100,F100),(125,F125),(126,F126),(128,F128),(144,F144),(145,F145),(146,F146),(133,F133),(135,F135),(136,F136),(127,F127),(149,F149),(147,F147),(153,F153),(156,F156),(157,F157),(158,F158),(159,F159),(164,F164),(165,F165),(166,F166),(169,F169),(170,F170),(174,F174),(167,F167),(180,F180),(185,F185),(187,F187),(191,F191),(193,F193),(194,F194),(186,F186),(202,F202),(203,F203),(204,F204),(228,F228),(229,F229),(230,F230),(201,F201),(247,F247),(248,F248),(249,F249),(250,F250)]
theorem tab23_ok : TabOk Tryz.prog Gl23 tab23 :=
 (.cons ⟨_,F26_ok⟩ (by kernel_rfl) (.cons ⟨_,F27_ok⟩ (by kernel_rfl) (.cons ⟨_,F29_ok⟩ (by kernel_rfl) (.cons ⟨_,F31_ok⟩ (by kernel_rfl) (.cons ⟨_,F33_ok⟩ (by kernel_rfl) (.cons ⟨_,F35_ok⟩ (by kernel_rfl) (.cons ⟨_,F59_ok⟩ (by kernel_rfl) (.cons ⟨_,F50_ok⟩ (by kernel_rfl) (.cons ⟨_,F54_ok⟩ (by kernel_rfl) (.cons ⟨_,F60_ok⟩ (by kernel_rfl) (.cons ⟨_,F61_ok⟩ (by kernel_rfl) (.cons ⟨_,F62_ok⟩ (by kernel_rfl) (.cons ⟨_,F63_ok⟩ (by kernel_rfl) (.cons ⟨_,F64_ok⟩ (by kernel_rfl) (.cons ⟨_,F65_ok⟩ (by kernel_rfl) (.cons ⟨_,F68_ok⟩ (by kernel_rfl) (.cons ⟨_,F69_ok⟩ (by kernel_rfl) (.cons ⟨_,F70_ok⟩ (by kernel_rfl) (.cons ⟨_,F36_ok⟩ (by kernel_rfl) (.cons ⟨_,F71_ok⟩ (by kernel_rfl) (.cons ⟨_,F40_ok⟩ (by kernel_rfl) (.cons ⟨_,F101_ok⟩ (by kernel_rfl) (.cons ⟨_,F102_ok⟩ (by kernel_rfl) (.cons ⟨_,F109_ok⟩ (by kernel_rfl) (.cons ⟨_,F84_ok⟩ (by kernel_rfl) (.cons ⟨_,F85_ok⟩ (by kernel_rfl) (.cons ⟨_,F110_ok⟩ (by kernel_rfl) (.cons ⟨_,F111_ok⟩ (by kernel_rfl) (.cons ⟨_,F116_ok⟩ (by kernel_rfl) (.cons ⟨_,F117_ok⟩ (by kernel_rfl) (.cons ⟨_,F42_ok⟩ (by kernel_rfl) (.cons ⟨_,F48_ok⟩ (by kernel_rfl) (.cons ⟨_,F80_ok⟩ (by kernel_rfl) (.cons ⟨_,F81_ok⟩ (by kernel_rfl) (.cons ⟨_,F82_ok⟩ (by kernel_rfl) (.cons ⟨_,F83_ok⟩ (by kernel_rfl) (.cons ⟨_,F86_ok⟩ (by kernel_rfl) (.cons ⟨_,F87_ok⟩ (by kernel_rfl) (.cons ⟨_,F89_ok⟩ (by kernel_rfl) (.cons ⟨_,F90_ok⟩ (by kernel_rfl) (.cons ⟨_,F118_ok⟩ (by kernel_rfl) (.cons ⟨_,F119_ok⟩ (by kernel_rfl) (.cons ⟨_,F120_ok⟩ (by kernel_rfl) (.cons ⟨_,F93_ok⟩ (by kernel_rfl) (.cons ⟨_,F142_ok⟩ (by kernel_rfl) (.cons ⟨_,F94_ok⟩ (by kernel_rfl) (.cons ⟨_,F95_ok⟩ (by kernel_rfl) (.cons ⟨_,F98_ok⟩ (by kernel_rfl) (.cons ⟨_,F99_ok⟩ (by kernel_rfl) (.cons ⟨_,F100_ok⟩ (by kernel_rfl) (.cons ⟨_,F125_ok⟩ (by kernel_rfl) (.cons ⟨_,F126_ok⟩ (by kernel_rfl) (.cons ⟨_,F128_ok⟩ (by kernel_rfl) (.cons ⟨_,F144_ok⟩ (by kernel_rfl) (.cons ⟨_,F145_ok⟩ (by kernel_rfl) (.cons ⟨_,F146_ok⟩ (by kernel_rfl) (.cons ⟨_,F133_ok⟩ (by kernel_rfl) (.cons ⟨_,F135_ok⟩ (by kernel_rfl) (.cons ⟨_,F136_ok⟩ (by kernel_rfl) (.cons ⟨_,F127_ok⟩ (by kernel_rfl) (.cons ⟨_,F149_ok⟩ (by kernel_rfl) (.cons ⟨_,F147_ok⟩ (by kernel_rfl) (.cons ⟨_,F153_ok⟩ (by kernel_rfl) (.cons ⟨_,F156_ok⟩ (by kernel_rfl) (.cons ⟨_,F157_ok⟩ (by kernel_rfl) (.cons ⟨_,F158_ok⟩ (by kernel_rfl) (.cons ⟨_,F159_ok⟩ (by kernel_rfl) (.cons ⟨_,F164_ok⟩ (by kernel_rfl) (.cons ⟨_,F165_ok⟩ (by kernel_rfl) (.cons ⟨_,F166_ok⟩ (by kernel_rfl) (.cons ⟨_,F169_ok⟩ (by kernel_rfl) (.cons ⟨_,F170_ok⟩ (by kernel_rfl) (.cons ⟨_,F174_ok⟩ (by kernel_rfl) (.cons ⟨_,F167_ok⟩ (by kernel_rfl) (.cons ⟨_,F180_ok⟩ (by kernel_rfl) (.cons ⟨_,F185_ok⟩ (by kernel_rfl) (.cons ⟨_,F187_ok⟩ (by kernel_rfl) (.cons ⟨_,F191_ok⟩ (by kernel_rfl) (.cons ⟨_,F193_ok⟩ (by kernel_rfl) (.cons ⟨_,F194_ok⟩ (by kernel_rfl) (.cons ⟨_,F186_ok⟩ (by kernel_rfl) (.cons ⟨_,F202_ok⟩ (by kernel_rfl) (.cons ⟨_,F203_ok⟩ (by kernel_rfl) (.cons ⟨_,F204_ok⟩ (by kernel_rfl) (.cons ⟨_,F228_ok⟩ (by kernel_rfl) (.cons ⟨_,F229_ok⟩ (by kernel_rfl) (.cons ⟨_,F230_ok⟩ (by kernel_rfl) (.cons ⟨_,F201_ok⟩ (by kernel_rfl) (.cons ⟨_,F247_ok⟩ (by kernel_rfl) (.cons ⟨_,F248_ok⟩ (by kernel_rfl) (.cons ⟨_,F249_ok⟩ (by kernel_rfl) (.cons ⟨_,F250_ok⟩ (by kernel_rfl) TabOk.nil))))))))))))))))))))))))))))))))))))))))))))))))))))))))))))))))))))))))))))))))))))))))))))
theorem lives23_ok {Γ : Glob} {m : Store} : zab Tryz.prog Γ 26 [] m fun o m' => o = .ret (.val (.bool true)) ∧ m' = m :=
 acalls_true (Γ0 := Gl23) (N := 5000) (n := 60) mixed (by intro g cs h; cases h) tab23_ok .nil (by kernel_rfl)
end Go.Av.Fn
/- Of a message's bytes whose end is missing, or behind which more stands, there is none: the law walked. Conditions: az ahead. -/
namespace Go.Av.Fn
set_option linter.unusedSimpArgs false
set_option linter.unusedVariables false
set_option maxRecDepth 10000
open Go.Proofs
section
variable {Γ : Glob} {m : Store}
set_option maxHeartbeats 3200000 in
theorem qSame_ok (a b : Bool) (x : Mg) (hl : x.l.l.length ≤ 2000000) : zab Tryz.prog Γ 35 [msgV a x,msgV b x] m fun o m' => o = .ret (bo true) ∧ m' = m := by
 have ha := nb_msgV 0 a x
 have hb := nb_msgV 0 b x
 have hla := zaz (k := 0) a x.l.l
 have hlb := zaz (k := 0) b x.l.l
 have hE : ∀ xo yo,binV Tryz.prog .eql 42 .other xo yo (.agg [it x.e.c,it x.e.q,it x.e.k,it x.e.n,bs x.e.s,it x.e.ck,it x.e.cn,bs x.e.cs]) (.agg [it x.e.c,it x.e.q,it x.e.k,it x.e.n,bs x.e.s,it x.e.ck,it x.e.cn,bs x.e.cs]) = some (bo true) := fun xo yo => by
  have := (ent_cmp xo yo x.e x.e).1
  rw [decide_eq_true rfl] at this
  exact this
 have hR : ∀ xo yo,binV Tryz.prog .eql 66 .other xo yo (.agg [it x.r.e,it x.r.n,bs x.r.s]) (.agg [it x.r.e,it x.r.n,bs x.r.s]) = some (bo true) := fun xo yo => by
  have := (rep_cmp xo yo x.r x.r).1
  rw [decide_eq_true rfl] at this
  exact this
 refine zaG (zaL mixed F35_ok F35_h zaF (by simp only [ha,hb,nbS]) ?_)
 simp only [F35,msgV,ss0,zeW,zeQ]
 simp only [zaj,msgC,beq_self_eq_true,hE,ssH,zeQ,zeO,reduceIte,zeP,zeU,zeS,zeT]
 refine zam (v := bo true) (by exact fun m => rSame_ok a b x.l hl) (by simp only [hla,hlb,nbS]) (by simp only [bo,nbS]) ?_
 simp only [bo,hR,ssH,zeQ,zeO,reduceIte,zeP,zeU,zeS,zeT]
 exact zaa (v := bo true) rfl ⟨by simp only [bo,nbS],rfl⟩
end
theorem pay_len {x : Mg} (h : msgB x = true) (hN : MgN x) : (payB x).length ≤ 200000 := by
 obtain ⟨pE,pL,pR⟩ := parts_of h hN
 obtain ⟨i1,i2,i3,i4,i5,i6,i7⟩ := hN
 obtain ⟨j1,j2,j3,j4,j5⟩ := mgI_of h
 have a1 := zaT i1
 have a2 := zaT i2
 have a3 := zaT i3
 have b1 := oB_len (kV x.k) (uz x.v)
 have b2 := oB_len (kN x.k) (uz x.nr)
 have b3 := oB_len (kO x.k) (uz x.op)
 have b4 := oB_len (kC x.k) (uz x.cm)
 have b5 := oB_len (kS x.k) (uz x.sq)
 have c1 := zaT j1
 have c2 := zaT j2
 have c3 := zaT j3
 have c4 := zaT j4
 have c5 := zaT j5
 have d1 : (oB (kE x.k) (putE x.e)).length ≤ 1000 := by
  cases hE : kE x.k
  ·simp [oB]
  ·obtain ⟨q1,q2,q3⟩ := pE hE
   have := putE_len q1 (by omega) (by omega)
   simp only [oB,if_true]
   omega
 have d2 : (oB (kL x.k) (putL x.l)).length ≤ 110000 := Nat.le_trans (oB_len _ _) (putL_len pL)
 have d3 : (oB (kR x.k) (putR x.r)).length ≤ 1000 := by
  cases hR : kR x.k
  ·simp [oB]
  ·obtain ⟨r1,r2,r3⟩ := pR hR
   have y1 := zaT r1
   have y2 := zaT r2
   have y3 := zaT (n := (x.r.s.length : Int)) ⟨by omega,by omega⟩
   simp only [oB,putR,if_true,zeY]
   omega
 simp only [payB,zeY]
 omega
section
variable {Γ : Glob} {m : Store}
end
end Go.Av.Fn
