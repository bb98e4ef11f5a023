/- An entry is right or not: the session's check. Conditions: az ahead. -/
import Derived.Test.YtmglaebjmaomnaaGreatDoorTFh
open Bool renaming not_true → ze5, not_false → ze4, false_eq_true → zeX, and_eq_true → ze1, false_and → zfx, and_false → zfr
open Int renaming reduceBEq → zeS, reduceBNe → zeT, toNat_natCast → zfv
open List renaming length_map → zfc, range → zfe, map → zfG, getElem?_eq_getElem → zff, take_add_one → zfB, take_of_length_le → zft, cons_append → ze2, length_cons → zeV, mem_cons_self → zfa, mem_cons_of_mem → zfb, append_assoc → ze3, length_append → zeY, length_take → zfh, length_nil → ze0, append_nil → ze9
open Nat renaming reduceSub → zeW, reduceAdd → zeQ, reduceLeDiff → zeO, reduceEqDiff → zeP, reduceLT → zeU, le_refl → zfq
open Option renaming bind_some → zfg
namespace Go.Av.Fn
set_option linter.unusedSimpArgs false
set_option linter.unusedVariables false
set_option maxRecDepth 10000
open Go.Proofs
theorem cmd_ne00 (xo yo : Operand) (k n : Int) (s : List UInt8) : binV Tryz.prog .neq 40 .other xo yo (.agg [it k,it n,bs s]) (.agg [.val (.int .i64 0),.val (.int .i64 0),.val (.string (ByteArray.mk #[]))]) = some (.val (.bool (!decide (k = 0 ∧ n = 0 ∧ s = [])))) := cmd_neq xo yo k n 0 0 s []
structure Ent where
 c : Int
 q : Int
 k : Int
 n : Int
 s : List UInt8
 ck : Int
 cn : Int
 cs : List UInt8
 deriving DecidableEq
def entV (e : Ent) : V := .agg [it e.c,it e.q,it e.k,it e.n,bs e.s,it e.ck,it e.cn,bs e.cs]
def noCmd (e : Ent) : Bool := decide (e.ck = 0 ∧ e.cn = 0 ∧ e.cs = [])
def entB (e : Ent) : Bool := zeH e.c && zeH e.q &&
 (if e.k = 1 then nameB e.s && (e.n == 0 || e.n == 1) && noCmd e
 else if e.k = 4 then e.s == [] && zeH e.n && noCmd e
 else if e.k = 2 ∨ e.k = 3 ∨ e.k = 5 ∨ e.k = 6 then e.s == [] && e.n == 0 && noCmd e
 else if e.k = 7 then e.s == [] && e.n == 0 && zcM e.ck e.cn e.cs
 else false)
section
variable {Γ : Glob} {m : Store}
set_option maxHeartbeats 3200000 in
theorem oCheckE_ok (E : Env Γ) (e : Ent) : zab Tryz.prog Γ 48 [entV e] m fun o m' => o = .ret (it (if entB e = true then 0 else 2)) ∧ m' = m := by
 obtain ⟨c,q,k,n,s,ck,cn,cs⟩ := e
 refine zaG (zaL mixed F48_ok F48_h zaF (by simp only [entV,nbS]) ?_)
 simp only [F48,entV,ss0,zeW,zeQ]
 simp only [ssH,zeQ,zeO,reduceIte,zeP,zeU,zeS,zeT]
 refine zam (by exact fun m => client_ok c) (by first | exact LR.nil | simp only [nbS]) (by first | exact LR.nil | simp only [nbS]) ?_
 have hk : k = 1 ∨ k = 4 ∨ k = 2 ∨ k = 3 ∨ k = 5 ∨ k = 6 ∨ k = 7 ∨ (k ≠ 1 ∧ k ≠ 4 ∧ k ≠ 2 ∧ k ≠ 3 ∧ k ≠ 5 ∧ k ≠ 6 ∧ k ≠ 7) := by omega
 cases h1 : zeH c
 ·simp only [ssH,zeQ,zeO,reduceIte,zeP,zeU,zeS,zeT]
  rcases hk with rfl | rfl | rfl | rfl | rfl | rfl | rfl | ⟨n1,n4,n2,n3,n5,n6,n7⟩
  case inr.inr.inr.inr.inr.inr.inr =>
   simp only [show (k == 1) = false by simpa using n1,show (k == 4) = false by simpa using n4,show (k == 2) = false by simpa using n2,show (k == 3) = false by simpa using n3,show (k == 5) = false by simpa using n5,show (k == 6) = false by simpa using n6,show (k == 7) = false by simpa using n7,ssH,zeQ,zeO,reduceIte,zeP,zeU,zeS,zeT]
   exact zaa zah ⟨(by simp only [zac,zad,nbS]),by simp [tget,entB,h1]⟩
  all_goals
   simp only [ssH,zeQ,zeO,reduceIte,zeP,zeU,zeS,zeT]
   exact zaa zah ⟨(by simp only [zac,zad,nbS]),by simp [tget,entB,h1]⟩
 ·simp only [ssH,zeQ,zeO,reduceIte,zeP,zeU,zeS,zeT]
  refine zam (by exact fun m => client_ok q) (by first | exact LR.nil | simp only [nbS]) (by first | exact LR.nil | simp only [nbS]) ?_
  simp only [ssH,zeQ,zeO,reduceIte,zeP,zeU,zeS,zeT]
  cases h2 : zeH q
  ·rcases hk with rfl | rfl | rfl | rfl | rfl | rfl | rfl | ⟨n1,n4,n2,n3,n5,n6,n7⟩
   case inr.inr.inr.inr.inr.inr.inr =>
    simp only [show (k == 1) = false by simpa using n1,show (k == 4) = false by simpa using n4,show (k == 2) = false by simpa using n2,show (k == 3) = false by simpa using n3,show (k == 5) = false by simpa using n5,show (k == 6) = false by simpa using n6,show (k == 7) = false by simpa using n7,ssH,zeQ,zeO,reduceIte,zeP,zeU,zeS,zeT]
    exact zaa zah ⟨(by simp only [zac,zad,nbS]),by simp [tget,entB,h2]⟩
   all_goals
    simp only [ssH,zeQ,zeO,reduceIte,zeP,zeU,zeS,zeT]
    exact zaa zah ⟨(by simp only [zac,zad,nbS]),by simp [tget,entB,h2]⟩
  ·rcases hk with rfl | rfl | rfl | rfl | rfl | rfl | rfl | ⟨n1,n4,n2,n3,n5,n6,n7⟩
   case inr.inr.inr.inr.inr.inr.inr =>
    simp only [show (k == 1) = false by simpa using n1,show (k == 4) = false by simpa using n4,show (k == 2) = false by simpa using n2,show (k == 3) = false by simpa using n3,show (k == 5) = false by simpa using n5,show (k == 6) = false by simpa using n6,show (k == 7) = false by simpa using n7,ssH,zeQ,zeO,reduceIte,zeP,zeU,zeS,zeT]
    exact zaa zah ⟨(by simp only [zac,zad,nbS]),by simp [tget,entB,n1,n2,n3,n4,n5,n6,n7]⟩
   case inr.inr.inr.inr.inr.inr.inl =>
    cases h3 : (s == []) <;> cases h4 : (n == 0) <;> simp only [bs_ne0,bne,h3,h4,ze5,ze4,ssH,zeQ,zeO,reduceIte,zeP,zeU,zeS,zeT]
    case true.true =>
     refine zam (by exact fun m => cCheck_ok E ck cn cs) (nbs_c1 _ _ _) (by first | exact LR.nil | simp only [nbS]) ?_
     simp only [ssH,zeQ,zeO,reduceIte,zeP,zeU,zeS,zeT]
     refine zaa zah ⟨(by simp only [zac,zad,nbS]),?_⟩
     simp only [zac,zad,entB,h1,h2,h3,h4]
     cases zcM ck cn cs <;> rfl
    all_goals exact zaa zah ⟨(by simp only [zac,zad,nbS]),by simp only [zac,zad,entB,h1,h2,h3,h4]; rfl⟩
   case inl =>
    simp only [ssH,zeQ,zeO,reduceIte,zeP,zeU,zeS,zeT]
    refine zam (by exact fun m => oName_ok E.words s) (by first | exact LR.nil | simp only [nbS]) (by first | exact LR.nil | simp only [nbS]) ?_
    cases h3 : nameB s <;> cases h4 : (n == 0) <;> cases h6 : (n == 1) <;> cases h5 : decide (ck = 0 ∧ cn = 0 ∧ cs = []) <;> simp only [h4,h6,cmd_ne00,h5,ze5,ze4,ssH,zeQ,zeO,reduceIte,zeP,zeU,zeS,zeT] <;> exact zaa zah ⟨(by simp only [zac,zad,nbS]),by simp only [zac,zad,entB,noCmd,h1,h2,h3,h4,h5,h6]; rfl⟩
   case inr.inl =>
    cases h3 : (s == [])
    ·simp only [bs_eq0,h3,ssH,zeQ,zeO,reduceIte,zeP,zeU,zeS,zeT]
     exact zaa zah ⟨(by simp only [zac,zad,nbS]),by simp only [zac,zad,entB,h1,h2,h3]; rfl⟩
    ·simp only [bs_eq0,h3,ssH,zeQ,zeO,reduceIte,zeP,zeU,zeS,zeT]
     refine zam (by exact fun m => client_ok n) (by first | exact LR.nil | simp only [nbS]) (by first | exact LR.nil | simp only [nbS]) ?_
     cases h4 : zeH n <;> cases h5 : decide (ck = 0 ∧ cn = 0 ∧ cs = []) <;> simp only [cmd_ne00,h5,ze5,ze4,ssH,zeQ,zeO,reduceIte,zeP,zeU,zeS,zeT] <;> exact zaa zah ⟨(by simp only [zac,zad,nbS]),by simp only [zac,zad,entB,noCmd,h1,h2,h3,h4,h5]; rfl⟩
   all_goals
    cases h3 : (s == []) <;> cases h4 : (n == 0) <;> cases h5 : decide (ck = 0 ∧ cn = 0 ∧ cs = []) <;> simp only [bs_eq0,h3,h4,cmd_ne00,h5,ze5,ze4,ssH,zeQ,zeO,reduceIte,zeP,zeU,zeS,zeT] <;> exact zaa zah ⟨(by simp only [zac,zad,nbS]),by simp only [zac,zad,entB,noCmd,h1,h2,h3,h4,h5]; rfl⟩
end
structure Lg where
 b : Int
 c : List UInt8
 l : List Ent
def zbC (nn : Bool) (l : List Ent) : V := .sl (l.map entV) [] (if nn then .non else .full)
def lgV (nn : Bool) (x : Lg) : V := .agg [it x.b,bs x.c,zbC nn x.l]
def lgB (x : Lg) : Bool := decide (0 ≤ x.b) && decide (x.b ≤ 2147483647) && decide (x.c.length ≤ 65536) && ((x.c == []) == (x.b == 0)) && decide (x.l.length ≤ 64) && decide ((x.l.length : Int) ≤ 2147483647 - x.b) && x.l.all entB
theorem zct {k : Nat} (e : Ent) : nb k (entV e) := by simp only [entV,nbS]
theorem zaz {k : Nat} (nn : Bool) (l : List Ent) : nb k (zbC nn l) := by
 cases nn <;> simp only [zbC,zeX,if_false,if_true,nbS] <;> exact nbs_map zct l
theorem nb_lgV {k : Nat} (nn : Bool) (x : Lg) : nb k (lgV nn x) := by
 have := zaz (k := k) nn x.l
 simp only [lgV,this,nbS]
theorem idx_ent {l : List Ent} {more : List V} {tok : Tok} {i : Nat} {e : Ent} (h : l[i]? = some e) : idxLV 8 (.sl (l.map entV) more tok) (it i) = some (.elt [it e.c,it e.q,it e.k,it e.n,bs e.s,it e.ck,it e.cn,bs e.cs]) := idxLV_nat (e := entV e) (by rw [List.getElem?_map,h]; rfl) rfl
section
variable {Γ : Glob} {m : Store}
theorem pIndexF_ok {g : FuncId} {p : Ent → Bool} (hp : ∀ e m,zab Tryz.prog Γ g ([] ++ [entV e] ++ []) m fun o m' => o = .ret (.val (.bool (p e))) ∧ m' = m) (nn : Bool) (l : List Ent) (hl : l.length < 4611686018427387904) :
  zab Tryz.prog Γ 133 [zbC nn l,.fn (.func g) [] []] m fun o m' => (∃ v,o = .ret v ∧ ∃ i : Int,v = it i ∧ decide (0 ≤ i) = l.any p) ∧ m' = m := by
 have hnb := zaz (k := 0) nn l
 refine zaL mixed F133_ok F133_h zaF (by simp only [hnb,nbS]) ?_
 simp only [F133,ss0,zeW,zeQ]
 simp only [zbC,zfc,ssH,zeQ,zeO,reduceIte,zeP,zeU,zeS,zeT]
 refine h_loop [0,1,7,8] 19 (fun n vs h => ∃ i : Nat,vs = [zbC nn l,.fn (.func g) [] [],it l.length,it i] ∧ i + n = l.length + 1 ∧ i ≤ l.length ∧ (l.take i).any p = false) (l.length + 1) (by decide) (by decide) (zfe 0) (zaQ rfl (zfq _) (by decide) (by simp) (by show nbs 0 [zbC nn l,.fn (.func g) [] [],it l.length,it 0]; simp only [hnb,nbS]) (fun a ha => by omega) ⟨0,rfl,by omega,by omega,by simp⟩) ?_
 rintro n t h J hJ hlt ⟨i,hv,hn,hi,hpre⟩
 simp only [zfG,List.cons.injEq,and_true] at hv
 obtain ⟨h0,h1,h7,h8⟩ := hv
 rw [t_eq hlt]
 simp only [zaE,upTo,h0,h1,h7,h8,zbC,ssH,zeQ,zeO,reduceIte,zeP,zeU,zeS,zeT]
 by_cases hil : i < l.length
 ·rw [show decide ((i : Int) < (l.length : Int)) = true by simp; omega]
  have hx : l[i]? = some l[i] := zff hil
  generalize l[i] = e at hx
  simp only [idx_ent hx,ssH,zeQ,zeO,reduceIte,zeP,zeU,zeS,zeT]
  refine zam (by exact fun m => hp e m) (by have := zct (k := 0) e; simp only [entV] at this; simp only [this,nbS]) (by first | exact LR.nil | simp only [nbS]) ?_
  have hany : (l.take (i + 1)).any p = p e := by
   rw [zfB,hx,List.any_append,hpre]
   simp
  cases he : p e
  ·simp only [zax (show i < 4611686018427387904 by omega),ssH,zeQ,zeO,reduceIte,zeP,zeU,zeS,zeT]
   refine ⟨_,hJ (n - 1) (zfe 0) _ (by omega) (zaQ rfl (zfq _) (by decide) (by simp) (by show nbs 0 [zbC nn l,.fn (.func g) [] [],it l.length,it (i + 1 : Nat)]; simp only [hnb,nbS]) (fun a ha => by omega) ⟨i + 1,rfl,by omega,by omega,by rw [hany,he]⟩)⟩
  ·simp only [ssH,zeQ,zeO,reduceIte,zeP,zeU,zeS,zeT]
   refine zaa zah ⟨(by simp only [zac,zad,nbS]),i,rfl,?_⟩
   rw [decide_eq_true (by omega)]
   symm
   rw [List.any_eq_true]
   exact ⟨e,List.mem_of_getElem? hx,he⟩
 ·rw [show decide ((i : Int) < (l.length : Int)) = false by simp; omega]
  simp only [ssH,zeQ,zeO,reduceIte,zeP,zeU,zeS,zeT]
  refine zaa zah ⟨(by simp only [zac,zad,nbS]),-1,rfl,?_⟩
  rw [show l.take i = l from zft (by omega)] at hpre
  rw [hpre]
  rfl
theorem pContains_ok {g : FuncId} {p : Ent → Bool} (hp : ∀ e m,zab Tryz.prog Γ g ([] ++ [entV e] ++ []) m fun o m' => o = .ret (.val (.bool (p e))) ∧ m' = m) (nn : Bool) (l : List Ent) (hl : l.length < 4611686018427387904) :
  zab Tryz.prog Γ 94 [zbC nn l,.fn (.func g) [] []] m fun o m' => o = .ret (.val (.bool (l.any p))) ∧ m' = m := by
 have hnb := zaz (k := 0) nn l
 refine zaG (zaL mixed F94_ok F94_h zaF (by simp only [hnb,nbS]) ?_)
 simp only [F94,ss0,zeW,zeQ]
 simp only [ssH,zeQ,zeO,reduceIte,zeP,zeU,zeS,zeT]
 refine hcall_some (by exact fun m => pIndexF_ok hp nn l hl) (by simp only [hnb,nbS]) (by rintro v ⟨i,rfl,_⟩; exact .val _) ?_
 rintro v ⟨i,rfl,hi⟩
 simp only [ge_iff_le,ssH,zeQ,zeO,reduceIte,zeP,zeU,zeS,zeT]
 exact zaa zah ⟨(by simp only [zac,zad,nbS]),by rw [← hi]; rfl⟩
theorem pCheck1_ok (E : Env Γ) (e : Ent) : zab Tryz.prog Γ 95 [entV e] m fun o m' => o = .ret (.val (.bool (!entB e))) ∧ m' = m := by
 have hnb := zct (k := 0) e
 refine zaG (zaL mixed F95_ok F95_h zaF (by simp only [hnb,nbS]) ?_)
 simp only [F95,ss0,zeW,zeQ]
 simp only [entV,ssH,zeQ,zeO,reduceIte,zeP,zeU,zeS,zeT]
 refine zam (by exact fun m => oCheckE_ok E e) (by simp only [entV] at hnb; simp only [hnb,nbS]) (by first | exact LR.nil | simp only [nbS]) ?_
 cases h : entB e
 ·simp only [zeX,if_false,ssH,zeQ,zeO,reduceIte,zeP,zeU,zeS,zeT]
  exact zaa zah ⟨(by simp only [zac,zad,nbS]),rfl⟩
 ·simp only [if_true,ssH,zeQ,zeO,reduceIte,zeP,zeU,zeS,zeT]
  exact zaa zah ⟨(by simp only [zac,zad,nbS]),rfl⟩
end
section
variable {Γ : Glob} {m : Store}
theorem neq_bool (xo yo : Operand) (a b : Bool) : binV Tryz.prog .neq 4 .other xo yo (.val (.bool a)) (.val (.bool b)) = some (.val (.bool (a != b))) := by cases a <;> cases b <;> kernel_rfl
theorem pCheck_ok (E : Env Γ) (nn : Bool) (x : Lg) : zab Tryz.prog Γ 42 [lgV nn x] m fun o m' => o = .ret (it (if lgB x = true then 0 else 4)) ∧ m' = m := by
 obtain ⟨b,c,l⟩ := x
 have hnb := nb_lgV (k := 0) nn ⟨b,c,l⟩
 have hnl := zaz (k := 0) nn l
 have hno : lgB ⟨b,c,l⟩ ≠ true → it 4 = it (if lgB ⟨b,c,l⟩ = true then 0 else 4) := fun h => by rw [if_neg h]
 refine zaG (zaL mixed F42_ok F42_h zaF (by simp only [hnb,nbS]) ?_)
 simp only [F42,lgV,ss0,zeW,zeQ]
 simp only [zbC,zfc,gt_iff_lt,bs_eq0,ssH,zeQ,zeO,reduceIte,zeP,zeU,zeS,zeT]
 by_cases h1 : b < 0
 ·simp only [decide_eq_true h1,ssH,zeQ,zeO,reduceIte,zeP,zeU,zeS,zeT]
  exact zaa zah ⟨(by simp only [zac,zad,nbS]),hno fun h => by simp only [lgB,ze1,decide_eq_true_eq] at h; omega⟩
 simp only [decide_eq_false h1,ssH,zeQ,zeO,reduceIte,zeP,zeU,zeS,zeT]
 by_cases h2 : 2147483647 < b
 ·simp only [decide_eq_true h2,ssH,zeQ,zeO,reduceIte,zeP,zeU,zeS,zeT]
  exact zaa zah ⟨(by simp only [zac,zad,nbS]),hno fun h => by simp only [lgB,ze1,decide_eq_true_eq] at h; omega⟩
 simp only [decide_eq_false h2,ssH,zeQ,zeO,reduceIte,zeP,zeU,zeS,zeT]
 by_cases h3 : (65536 : Int) < (c.length : Int)
 ·simp only [decide_eq_true h3,ssH,zeQ,zeO,reduceIte,zeP,zeU,zeS,zeT]
  exact zaa zah ⟨(by simp only [zac,zad,nbS]),hno fun h => by simp only [lgB,ze1,decide_eq_true_eq] at h; omega⟩
 simp only [decide_eq_false h3,neq_bool,ssH,zeQ,zeO,reduceIte,zeP,zeU,zeS,zeT]
 cases h4 : ((c == []) != (b == 0))
 case true =>
  simp only [ssH,zeQ,zeO,reduceIte,zeP,zeU,zeS,zeT]
  refine zaa zah ⟨(by simp only [zac,zad,nbS]),hno fun h => ?_⟩
  simp only [lgB,ze1,beq_iff_eq] at h
  rw [h.1.1.1.2] at h4
  simp at h4
 simp only [ssH,zeQ,zeO,reduceIte,zeP,zeU,zeS,zeT]
 by_cases h5 : (64 : Int) < (l.length : Int)
 ·simp only [decide_eq_true h5,ssH,zeQ,zeO,reduceIte,zeP,zeU,zeS,zeT]
  exact zaa zah ⟨(by simp only [zac,zad,nbS]),hno fun h => by simp only [lgB,ze1,decide_eq_true_eq] at h; omega⟩
 have hw : IntKind.i64.wrap (2147483647 - b) = 2147483647 - b := wrap_i64 (by omega) (by omega)
 simp only [decide_eq_false h5,hw,ssH,zeQ,zeO,reduceIte,zeP,zeU,zeS,zeT]
 by_cases h6 : 2147483647 - b < (l.length : Int)
 ·simp only [decide_eq_true h6,ssH,zeQ,zeO,reduceIte,zeP,zeU,zeS,zeT]
  exact zaa zah ⟨(by simp only [zac,zad,nbS]),hno fun h => by simp only [lgB,ze1,decide_eq_true_eq] at h; omega⟩
 simp only [decide_eq_false h6,ssH,zeQ,zeO,reduceIte,zeP,zeU,zeS,zeT]
 refine zam (by exact fun m => pContains_ok (p := fun e => !entB e) (fun e m => pCheck1_ok E e) nn l (by omega)) (by simp only [zbC] at hnl; simp only [hnl,nbS]) (by first | exact LR.nil | simp only [nbS]) ?_
 have hb : lgB ⟨b,c,l⟩ = l.all entB := by
  have h4' : ((c == []) == (b == 0)) = true := by
   revert h4
   cases (c == []) <;> cases (b == 0) <;> simp
  simp only [lgB,h4',decide_eq_true (show (0 : Int) ≤ b by omega),decide_eq_true (show b ≤ 2147483647 by omega),decide_eq_true (show c.length ≤ 65536 by omega),decide_eq_true (show l.length ≤ 64 by omega),decide_eq_true (show (l.length : Int) ≤ 2147483647 - b by omega),Bool.true_and]
 have ha : l.any (fun e => !entB e) = !l.all entB := by
  rw [List.all_eq_not_any_not]; simp
 cases h7 : l.any fun e => !entB e
 ·simp only [ssH,zeQ,zeO,reduceIte,zeP,zeU,zeS,zeT]
  have hy : lgB ⟨b,c,l⟩ = true := by rw [hb]; rw [h7] at ha; simpa using ha.symm
  have h0 : it 0 = it (if lgB ⟨b,c,l⟩ = true then 0 else 4) := by rw [if_pos hy]
  exact zaa zah ⟨(by simp only [zac,zad,nbS]),h0⟩
 ·simp only [ssH,zeQ,zeO,reduceIte,zeP,zeU,zeS,zeT]
  refine zaa zah ⟨(by simp only [zac,zad,nbS]),hno ?_⟩
  rw [hb]
  rw [h7] at ha
  simpa using ha.symm
end
end Go.Av.Fn
/- Functions that are handed a closure that holds variables' pointers. No condition. -/
namespace Go.Av
set_option linter.unusedSimpArgs false
set_option linter.unusedVariables false
def tokN : List V → Tok → Tok
 | [],.full => .full
 | [],t => if zdJ t then .no else .non
 | _ :: _,_ => .non
mutual
def wN : V → V
 | .agg cs => .agg (wNs cs)
 | .tup cs => .tup (wNs cs)
 | .sl es more t => .sl (wNs es) (wNs more) (tokN es t)
 | v => v
def wNs : List V → List V
 | [] => []
 | v :: l => wN v :: wNs l
end
theorem wNs_append : ∀ (a b : List V),wNs (a ++ b) = wNs a ++ wNs b
 | [],b => rfl
 | v :: l,b => by rw [ze2,wNs,wNs_append l b]; rfl
theorem zdY : ∀ l : List V,(wNs l).length = l.length
 | [] => rfl
 | v :: l => by rw [wNs,zeV,zdY l]; rfl
theorem wNs_map {α : Type} {f : α → V} (h : ∀ x,wN (f x) = f x) : ∀ l : List α,wNs (l.map f) = l.map f
 | [] => rfl
 | x :: l => by rw [List.map_cons,wNs,h,wNs_map h l]
theorem wN_cells (v : V) : (wN v).cells = wNs v.cells := by
 cases v <;> rfl
theorem flat_wNs : ∀ l : List V,flat (wNs l) = wNs (flat l)
 | [] => rfl
 | v :: l => by rw [wNs,zaN,zaN,wNs_append,wN_cells,flat_wNs l]
theorem wNs_mem : ∀ {l : List V} {e : V},e ∈ wNs l → ∃ x ∈ l,e = wN x
 | v :: l,e,h => by
  rw [wNs] at h
  rcases List.mem_cons.1 h with rfl | h
  ·exact ⟨v,zfa ..,rfl⟩
  ·obtain ⟨x,hx,rfl⟩ := wNs_mem h
   exact ⟨x,zfb _ hx,rfl⟩
theorem tokN_ok {G : Gh} {es : List V} {t : Tok} {a : Addr} {cap s : Nat} (h : G.tokOk t a es.length cap s) : G.tokOk (tokN es t) a es.length cap s := by
 cases es with
 | cons x l => trivial
 | nil =>
  cases t with
  | full => exact absurd rfl h.2
  | _ => simp only [tokN]; split <;> trivial
theorem tokN_nil {t : Tok} (h : zdJ t = true) : zdJ (tokN [] t) = true := by
 cases t <;> first | rfl | cases h | (simp only [tokN,h,if_true]; rfl)
mutual
theorem RelV.wN {G : Gh} : ∀ {v : V} {u : Value},RelV G v u → RelV G (wN v) u
 | _,_,.val h => .val h
 | _,_,.ptr b o => .ptr b o
 | _,_,.elt h k => .elt h k
 | _,_,.nil h => by
  simp only [Av.wN,wNs]
  exact .nil (tokN_nil h)
 | _,_,.arr a b c d => .arr a b c d
 | _,_,.res a b c => .res a b c
 | _,_,.sl (es := es) (more := more) a b c d e f => by
  simp only [Av.wN]
  have hb := RelL.wN b
  rw [← flat_wNs,wNs_append] at hb
  have h8 := tokN_ok f
  rw [← zdY es] at h8 ⊢
  refine .sl (fun x hx => ?_) hb c (by rw [zdY,zdY]; exact d) e h8
  rw [← wNs_append] at hx
  obtain ⟨y,hy,rfl⟩ := wNs_mem hx
  rw [wN_cells,zdY]
  exact a y hy
 | _,_,.fn h k => .fn h k
 | _,_,.ifc h => .ifc h
 | _,_,.agg h => by
  simp only [Av.wN]
  exact .agg (RelL.wN h)
 | _,_,.tup h => by
  simp only [Av.wN]
  exact .tup (RelL.wN h)
theorem RelL.wN {G : Gh} : ∀ {v : List V} {u : List Value},RelL G v u → RelL G (wNs v) u
 | _,_,.nil => .nil
 | _,_,.cons a b => .cons (RelV.wN a) (RelL.wN b)
end
theorem tokN_vr {R : Ren} {es es' : List V} {k k' : Tok} (a : LR R es es') (c : TokR R k k') : TokR R (tokN es k) (tokN es' k') := by
 cases a with
 | cons _ _ => trivial
 | nil =>
  have hn := nilTok_vr c
  cases k <;> cases k' <;> first | exact c.elim | trivial | (simp only [tokN,hn]; split <;> trivial)
mutual
theorem VR.wN {R : Ren} : ∀ {v v' : V},VR R v v' → VR R (wN v) (wN v')
 | _,_,.val v => .val v
 | _,_,.ptr o r => .ptr o r
 | _,_,.elt r => .elt r
 | _,_,.sl a b c => by
  simp only [Av.wN]
  exact .sl (LR.wN a) (LR.wN b) (tokN_vr a c)
 | _,_,.fn h a b => .fn h a b
 | _,_,.ifc r => .ifc r
 | _,_,.agg r => by
  simp only [Av.wN]
  exact .agg (LR.wN r)
 | _,_,.tup r => by
  simp only [Av.wN]
  exact .tup (LR.wN r)
 | _,_,.arr o l c r => .arr o l c r
 | _,_,.res v z n r => .res v z n r
theorem LR.wN {R : Ren} : ∀ {v v' : List V},LR R v v' → LR R (wNs v) (wNs v')
 | _,_,.nil => .nil
 | _,_,.cons a b => .cons (VR.wN a) (LR.wN b)
end
theorem zab.wnd {P : Program} {Γ : Glob} {f : FuncId} {args : List V} {m : Store} {R R' : Out → Store → Prop} (h : zab P Γ f args m R) (hr : ∀ v m',R (.ret v) m' → R' (.ret (Av.wN v)) m') (hp : ∀ v m',R (.pan v) m' → R' (.pan v) m') : zab P Γ f args m R' := by
 refine ⟨h.1,fun G B0 mF w cargs hD hR hL => (h.2 G B0 mF w cargs hD hR hL).mono ?_⟩
 rintro e w' ⟨G',m',o,a,b,c,d,r,s⟩
 cases o with
 | ret v =>
  cases r with
  | ret r => exact ⟨G',m',.ret (Av.wN v),a,b,c,d,.ret r.wN,hr _ _ s⟩
 | pan v => exact ⟨G',m',.pan v,a,b,c,d,r,hp _ _ s⟩
def closA (pre : List V) (w : Option FuncId) (bs : List Nat) : List V := pre ++ match w with
 | some f => [.fn (.func f) [] (bs.map fun b => .ptr b 0)]
 | none => bs.map fun b => .ptr b 0
structure CellsOk (Xs : List Blk) (cs : List Nat) (m : Store) : Prop where
 len : cs.length = Xs.length
 nodup : ∀ (i j c : Nat),cs[i]? = some c → cs[j]? = some c → i = j
 cell : ∀ (i c : Nat) (X : Blk),cs[i]? = some c → Xs[i]? = some X → m c = some X
def delL (m : Store) (cs : List Nat) : Store := fun c => if c ∈ cs then none else m c
def KCalls (P : Program) (Γ : Glob) (g : FuncId) (pre : List V) (w : Option FuncId) (Xs : List Blk) (Qv : V → Prop) : Prop :=
 ∀ m cs,CellsOk Xs cs m → zab P Γ g (closA pre w cs) m fun o m' => (∃ v,o = .ret v ∧ Qv v) ∧ m' = delL m cs
section
variable {P : Program} {Γ : Glob} {H : Nat → List (Nat × List Nat) × List Nat} {f : FuncId} {F : AFn} {gs : List Nat}
theorem lr_ptrs {R : Ren} : ∀ {bs cs : List Nat},bs.length = cs.length → (∀ (i b c : Nat),bs[i]? = some b → cs[i]? = some c → R b c) → LR R (bs.map fun b => .ptr b 0) (cs.map fun b => .ptr b 0)
 | [],[],_,_ => .nil
 | b :: bs,c :: cs,hl,h => .cons (.ptr 0 (h 0 b c rfl rfl)) (lr_ptrs (by simpa using hl) fun i => h (i + 1))
theorem closA_lr {R : Ren} {pre : List V} {w : Option FuncId} {bs cs : List Nat} (hp : nbs 0 pre) (hl : bs.length = cs.length) (h : ∀ (i b c : Nat),bs[i]? = some b → cs[i]? = some c → R b c) : LR R (closA pre w bs) (closA pre w cs) := by
 refine (hp.up R).append ?_
 cases w with
 | none => exact lr_ptrs hl h
 | some f => exact .cons (.fn rfl .nil (lr_ptrs hl h)) .nil
theorem get_map_some {Xs : List Blk} : ∀ {a : Nat} {x : Blk},lk (Xs.map some) a = some x → Xs[a]? = some x := by
 induction Xs with
 | nil => intro a x h; cases a <;> cases h
 | cons X Xs ih =>
  intro a x h
  cases a with
  | zero => simpa [lk] using h
  | succ a => simpa using ih (a := a) h
theorem range_get {n i b : Nat} (h : (zfe n)[i]? = some b) : b = i ∧ i < n := by
 obtain ⟨h1,rfl⟩ := List.getElem?_eq_some_iff.1 h
 simp at h1 ⊢
 exact h1
theorem kcalls (hm : P.follows .mixedOrders = true) (hF : zan P H f = some F) (hok : F.body.okH gs = true) (hG : GOk Γ gs) {pre : List V} {w : Option FuncId} {Xs : List Blk} (ha : nbs 0 pre) (hX : ∀ X ∈ Xs,nbB 0 X) {Qv : V → Prop}
  (h : hawp P Γ (fun _ _ => False) Xs.length F.body (bodyH F.res fun v _ => nb 0 (wN v) ∧ Qv (wN v)) ⟨start F.ntmps (closA pre w (zfe Xs.length)),Xs.map some⟩) : KCalls P Γ f pre w Xs Qv := by
 intro m cs hc
 have hH : HH (fun a c => cs[a]? = some c) (Xs.map some) (fun c => if c ∈ cs then m c else none) := {
  blk := by
   intro a c x r hx
   refine ⟨x,?_,(hX x ?_).up _⟩
   ·show (if c ∈ cs then m c else none) = some x
    rw [if_pos (List.mem_of_getElem? r)]
    exact hc.cell a c x r (get_map_some hx)
   ·exact List.mem_of_getElem? (get_map_some hx)
  left := by
   intro a c c' r r'
   rw [r] at r'
   exact Option.some.inj r'
  right := by
   intro a b c x y r r' _ _
   exact hc.nodup a b c r r'
  dom := by
   intro a c r
   left
   have := (List.getElem?_eq_some_iff.1 r).1
   rw [hc.len] at this
   simpa using this }
 have h1 := zeN (P := P) (Γ := Γ) (R0 := fun a c => cs[a]? = some c) (N := Xs.length) (m := fun c => if c ∈ cs then m c else none) hm hF hok hG (args0 := closA pre w (zfe Xs.length)) (args := closA pre w cs)
  (closA_lr ha (by simp [hc.len]) fun i b c hb hc' => by rw [(range_get hb).1]; exact hc') hH (fun b b' r => by have := (List.getElem?_eq_some_iff.1 r).1; rw [hc.len] at this; exact this) (Q := fun o h' => match o with | .ret v => nb 0 (wN v) ∧ Qv (wN v) | .pan _ => False) h
 have hD : Disj (fun c => if c ∈ cs then m c else none) (delL m cs) := by
  intro c
  unfold delL
  by_cases e : c ∈ cs
  ·exact .inr (by simp [e])
  ·exact .inl (by simp [e])
 have e : Store.or (fun c => if c ∈ cs then m c else none) (delL m cs) = m := by
  funext c
  unfold Store.or delL
  by_cases e : c ∈ cs
  ·simp only [if_pos e]
   cases m c <;> rfl
  ·simp only [if_neg e]
 have h2 := h1.frame hD
 rw [e] at h2
 refine zab.wnd (R := fun o m' => (∃ v,o = .ret v ∧ Qv (wN v)) ∧ m' = delL m cs) (zab.less h2 ?_) ?_ ?_
 ·rintro o m'' ⟨m',rfl,d,S,o0,h',s1,s2,s3,s4⟩
  refine ⟨delL m cs,?_,?_,rfl⟩
  ·intro b x hb
   rcases d b with q | q
   ·simp only [Store.or,q]; exact hb
   ·rw [q] at hb; cases hb
  ·cases o0 with
   | ret v =>
    cases o with
    | ret v' =>
     have e3 : wN v' = wN v := nb_eq s4.1 (VR.wN s3)
     exact ⟨v',rfl,by rw [e3]; exact s4.2⟩
    | pan v' => exact s3.elim
   | pan v => exact s4.elim
 ·rintro v m' ⟨⟨v',e9,q⟩,h9⟩
  cases e9
  exact ⟨⟨_,rfl,q⟩,h9⟩
 ·rintro v m' ⟨⟨v',e9,q⟩,_⟩
  cases e9
theorem acalls_pn (hm : P.follows .mixedOrders = true) (hF : zan P H f = some F) (hok : F.body.okH gs = true) (hG : GOk Γ gs) {args : List V} {m : Store} (ha : nbs 0 args) {Qv : V → Prop}
  (h : hawp P Γ (fun _ _ => False) 0 F.body (bodyH F.res fun v _ => nb 0 (wN v) ∧ Qv (wN v)) ⟨start F.ntmps args,[]⟩) : zab P Γ f args m fun o m' => (∃ v,o = .ret v ∧ Qv v) ∧ m' = m := by
 have := kcalls (pre := args) (w := none) (Xs := []) hm hF hok hG ha (fun _ h => by cases h) (Qv := Qv) (by simpa [closA] using h) m [] ⟨rfl,fun i j c h => by simp at h,fun i c X h => by simp at h⟩
 have e : delL m [] = m := by funext c; simp [delL]
 rw [e] at this
 simpa [closA] using this
def hdrop (h : Hl) : List Nat → Hl
 | [] => h
 | b :: bs => hdrop (hset h b none) bs
section
variable {Γ : Glob} {Kp : V → Hl → Prop} {l : List Item} {K : HS → Prop} {t : List V} {h : Hl} {d : Option Tmp} {s : List (Tmp × Option (Tmp × Bool) × AOp)} {g : FuncId} {first args caps : List V}
end
end
end Go.Av
/- Entries copied; what is done with a right log. Conditions: az ahead. -/
namespace Go.Av.Fn
set_option linter.unusedSimpArgs false
set_option linter.unusedVariables false
set_option maxRecDepth 10000
open Go.Proofs
theorem wN_entV (e : Ent) : wN (entV e) = entV e := by simp only [entV,wN,wNs]; rfl
theorem wNs_ents (l : List Ent) : wNs (l.map entV) = l.map entV := wNs_map wN_entV l
theorem wN_some {l : List Ent} {t : Tok} (h : l ≠ [] ∨ zdJ t = false) : wN (.sl (l.map entV) [] t) = zbC true l := by
 simp only [wN,wNs_ents,zbC,if_true]
 cases l with
 | nil =>
  have ht : zdJ t = false := by simpa using h
  have e2 : tokN [] t = .non := by
   cases t with
   | no => cases ht
   | full => cases ht
   | zero b => cases b <;> first | rfl | cases ht
   | _ => rfl
  simp only [List.map_nil,wNs,e2]
 | cons e l => rfl
theorem szOk_ents (l : List Ent) : szOk 8 (l.map entV) = true := by
 simp only [szOk,List.all_map,List.all_eq_true]
 intro x _
 rfl
section
variable {Γ : Glob} {m : Store}
end
def logB (nn : Bool) (x : Lg) : Blk := .var 26 [it x.b,bs x.c,zbC nn x.l]
theorem zci {nn : Bool} {l : List Ent} : oneV (zbC nn l) = true := (rfl)
section
variable {Γ : Glob} {m : Store}
end
section
variable {Γ : Glob} {m : Store}
end
def lg0 : Lg := ⟨0,[],[]⟩
section
variable {Γ : Glob} {m : Store}
end
section
variable {Γ : Glob} {m : Store}
end
end Go.Av.Fn
/- Entries compared; rows of them. Conditions: az ahead. -/
namespace Go.Av
set_option linter.unusedSimpArgs false
set_option linter.unusedVariables false
section
variable {P : Program}
def eqF2 (P : Program) (T0 : TypeId) (xs ys : Array Value) : List Field → Option Bool
 | [] => some true
 | f :: fs => if f.name = "_" then eqF2 P T0 xs ys fs else match zaw P (part f.type xs f.offset), zaw P (part f.type ys f.offset) with
  | some a,some b => match (match a,b with | .agg az',.agg bs' => if f.type = T0 then eqF P az' bs' (P.fieldsOf T0).toList else none | a,b => eqField P f.type a b),eqF2 P T0 xs ys fs with
   | some r,some q => some (r && q)
   | _,_ => none
  | _,_ => none
theorem eqF2_sound {T0 : TypeId} (ht : P.underlying T0 = some (.struct (P.fieldsOf T0))) (hp : P.stoodInHeld T0 = false) {xs ys : Array Value} {d : Nat} : ∀ {fs : List Field} {r : Bool},eqF2 P T0 xs ys fs = some r → zaw P (Op.eqFields (d + 1 + 1) xs ys fs) = some r
 | [],r,h => by
  simp only [eqF2,Option.some.injEq] at h
  subst h
  rfl
 | f :: fs,r,h => by
  simp only [eqF2] at h
  split at h
  ·rename_i hn
   simp only [Op.eqFields,hn,ne_eq,not_true_eq_false,if_false]
   exact eqF2_sound ht hp h
  ·rename_i hn
   split at h
   ·rename_i a b ha hb
    split at h
    ·rename_i q1 q2 h1 h2
     simp only [Option.some.injEq] at h
     subst h
     have key : zaw P (Op.equalIn (d + 1 + 1) f.type a b) = some q1 := by
      split at h1
      ·split at h1
       ·rename_i e
        rw [e,zbJ _ _ _ _ ht hp]
        exact eqF_sound h1
       ·cases h1
      ·exact zeF h1
     simp only [Op.eqFields,ne_eq,hn,not_false_eq_true,if_true,zaA,ha,hb,zfg,key]
     cases q1
     ·rfl
     ·simpa using eqF2_sound ht hp h2
    ·cases h
   ·cases h
theorem struct_eq2 {T T0 : TypeId} {xo yo : Operand} {cs cs' : List V} {xs ys : List Value} {r : Bool} (ht : P.underlying T = some (.struct (P.fieldsOf T))) (hp : P.stoodInHeld T = false) (hg : P.eqGuardType P.depth T = false)
  (ht0 : P.underlying T0 = some (.struct (P.fieldsOf T0))) (hp0 : P.stoodInHeld T0 = false)
  (h1 : raws cs = some xs) (h2 : raws cs' = some ys) (he : eqF2 P T0 xs.toArray ys.toArray (P.fieldsOf T).toList = some r) :
  binV P .eql T .other xo yo (.agg cs) (.agg cs') = some (.val (.bool r)) ∧ binV P .neq T .other xo yo (.agg cs) (.agg cs') = some (.val (.bool !r)) := by
 have e0 : zaw P (Op.equal T (.agg xs.toArray) (.agg ys.toArray)) = some r := by
  show zaw P (Op.equalIn (9997 + 1 + 1 + 1) T _ _) = some r
  rw [zbJ _ _ _ _ ht hp]
  exact eqF2_sound ht0 hp0 he
 have g : ∀ op,zaw P (eqGuard op T xo yo (.agg xs.toArray) (.agg ys.toArray)) = some () := by
  intro op
  unfold eqGuard
  split <;> simp only [ze5,ze4,zeX,if_false,if_true,zaA,zb0,zfg,hg,zaP]
 have r1 : raw (.agg cs) = some (.agg xs.toArray) := by simp only [raw,h1,Option.map_some]
 have r2 : raw (.agg cs') = some (.agg ys.toArray) := by simp only [raw,h2,Option.map_some]
 refine ⟨?_,?_⟩
 ·simp only [binV,zbZ,zaM,zfx,zfr,Bool.or_false,zeX,if_false,r1,r2,zeE,binOp,zaA,g,zfg,e0,zaP]
  rfl
 ·simp only [binV,zbZ,zaM,zfx,zfr,Bool.or_false,zeX,if_false,r1,r2,zeE,binOp,zaA,g,zfg,e0,zaP]
  rfl
end
end Go.Av
namespace Go.Av.Fn
set_option linter.unusedSimpArgs false
set_option linter.unusedVariables false
set_option maxRecDepth 10000
open Go.Proofs
theorem ent_cmp (xo yo : Operand) (a b : Ent) : binV Tryz.prog .eql 42 .other xo yo (entV a) (entV b) = some (.val (.bool (decide (a = b)))) ∧ binV Tryz.prog .neq 42 .other xo yo (entV a) (entV b) = some (.val (.bool (!decide (a = b)))) := by
 obtain ⟨c,q,k,n,s,ck,cn,cs⟩ := a
 obtain ⟨c',q',k',n',s',ck',cn',cs'⟩ := b
 have h := struct_eq2 (P := Tryz.prog) (T := 42) (T0 := 40) (xo := xo) (yo := yo) (cs := [it c,it q,it k,it n,bs s,it ck,it cn,bs cs]) (cs' := [it c',it q',it k',it n',bs s',it ck',it cn',bs cs'])
  (xs := [.int .i64 c,.int .i64 q,.int .i64 k,.int .i64 n,.string ⟨s.toArray⟩,.int .i64 ck,.int .i64 cn,.string ⟨cs.toArray⟩]) (ys := [.int .i64 c',.int .i64 q',.int .i64 k',.int .i64 n',.string ⟨s'.toArray⟩,.int .i64 ck',.int .i64 cn',.string ⟨cs'.toArray⟩])
  (r := (c == c' && (q == q' && (k == k' && (n == n' && ((ByteArray.mk s.toArray).toList == (ByteArray.mk s'.toArray).toList && ((ck == ck' && (cn == cn' && ((ByteArray.mk cs.toArray).toList == (ByteArray.mk cs'.toArray).toList && true))) && true)))))))
  (by kernel_rfl) (by kernel_rfl) (by kernel_rfl) (by kernel_rfl) (by kernel_rfl) rfl rfl (by kernel_rfl)
 have e : (c == c' && (q == q' && (k == k' && (n == n' && ((ByteArray.mk s.toArray).toList == (ByteArray.mk s'.toArray).toList && ((ck == ck' && (cn == cn' && ((ByteArray.mk cs.toArray).toList == (ByteArray.mk cs'.toArray).toList && true))) && true)))))) = decide ((⟨c,q,k,n,s,ck,cn,cs⟩ : Ent) = ⟨c',q',k',n',s',ck',cn',cs'⟩) := by
  simp only [zbO]
  rw [Bool.eq_iff_iff]
  simp [and_assoc]
 rw [e] at h
 exact h
theorem relNo {G : Gh} {es more : List V} {tok : Tok} {u : Value} (h : RelV G (.sl es more tok) u) : RelV G (.sl es more .no) u := by
 cases h with
 | nil h => exact .nil rfl
 | sl a b c d e f => exact .sl a b c d e trivial
theorem acalls_weak {P : Program} {Γ : Glob} {f : FuncId} {args args' : List V} {m : Store} {R : Out → Store → Prop} (h : ∀ G cargs,RelL G args cargs → RelL G args' cargs) (hc : zab P Γ f args' m R) : zab P Γ f args m R :=
 ⟨hc.1,fun G B0 mF w cargs hD hR hL => hc.2 G B0 mF w cargs hD hR (h G cargs hL)⟩
section
variable {Γ : Glob} {m : Store}
theorem pSameE_ok (nn : Bool) {t : Tok} (la lb : List Ent) (ht : nbT 0 t) (hl : la.length < 4611686018427387904) :
  zab Tryz.prog Γ 93 [.sl (la.map entV) [] t,zbC nn lb] m fun o m' => o = .ret (.val (.bool (decide (la = lb)))) ∧ m' = m := by
 have hnb := zaz (k := 0) nn lb
 have hna := nbs_map (k := 0) zct la
 refine zaG (zaL mixed F93_ok F93_h zaF (by simp only [hnb,hna,ht,nbS]) ?_)
 simp only [F93,ss0,zeW,zeQ]
 simp only [zbC,zfc,ssH,zeQ,zeO,reduceIte,zeP,zeU,zeS,zeT]
 by_cases h0 : la.length = lb.length
 case neg =>
  have hb : ((la.length : Int) != (lb.length : Int)) = true := by simp; omega
  simp only [hb,ssH,zeQ,zeO,reduceIte,zeP,zeU,zeS,zeT]
  exact zaa zah ⟨(by simp only [zac,zad,nbS]),by rw [decide_eq_false (by rintro rfl; exact h0 rfl)]; rfl⟩
 have hb : ((la.length : Int) != (lb.length : Int)) = false := by simp; omega
 simp only [hb,ssH,zeQ,zeO,reduceIte,zeP,zeU,zeS,zeT]
 refine h_loop [0,1,5] 26 (fun n vs h => ∃ i : Nat,vs = [.sl (la.map entV) [] t,zbC nn lb,it i] ∧ i + n = la.length + 1 ∧ i ≤ la.length ∧ la.take i = lb.take i) (la.length + 1) (by decide) (by decide) (zfe 0) (zaQ rfl (zfq _) (by decide) (by simp) (by show nbs 0 [.sl (la.map entV) [] t,zbC nn lb,it 0]; simp only [hnb,hna,ht,nbS]) (fun a ha => by omega) ⟨0,rfl,by omega,by omega,by simp⟩) ?_
 rintro n t1 h J hJ hlt ⟨i,hv,hn,hi,hpre⟩
 simp only [zfG,List.cons.injEq,and_true] at hv
 obtain ⟨h0',h1,h5⟩ := hv
 rw [t_eq hlt]
 simp only [zaE,upTo,h0',h1,h5,zbC,zfc,ssH,zeQ,zeO,reduceIte,zeP,zeU,zeS,zeT]
 by_cases hil : i < la.length
 ·rw [show decide ((i : Int) < (la.length : Int)) = true by simp; omega]
  have hx : la[i]? = some la[i] := zff hil
  have hy : lb[i]? = some (lb[i]'(by omega)) := zff (by omega)
  generalize la[i] = a at hx
  generalize (lb[i]'(by omega)) = b at hy
  have hc := (ent_cmp (.tmp 20) (.tmp 24) a b).2
  simp only [entV] at hc
  simp only [idx_ent hx,idx_ent hy,hc,ssH,zeQ,zeO,reduceIte,zeP,zeU,zeS,zeT]
  by_cases he : a = b
  ·simp only [decide_eq_true he,ze5,zax (show i < 4611686018427387904 by omega),ssH,zeQ,zeO,reduceIte,zeP,zeU,zeS,zeT]
   refine ⟨_,hJ (n - 1) (zfe 0) _ (by omega) (zaQ rfl (zfq _) (by decide) (by simp) (by show nbs 0 [.sl (la.map entV) [] t,zbC nn lb,it (i + 1 : Nat)]; simp only [hnb,hna,ht,nbS]) (fun a ha => by omega) ⟨i + 1,rfl,by omega,by omega,by rw [zfB,zfB,hx,hy,hpre,he]⟩)⟩
  ·simp only [decide_eq_false he,ze4,ssH,zeQ,zeO,reduceIte,zeP,zeU,zeS,zeT]
   refine zaa zah ⟨(by simp only [zac,zad,nbS]),?_⟩
   rw [decide_eq_false]
   ·rfl
   ·rintro rfl
    rw [hx] at hy
    exact he (Option.some.inj hy)
 ·rw [show decide ((i : Int) < (la.length : Int)) = false by simp; omega]
  simp only [ssH,zeQ,zeO,reduceIte,zeP,zeU,zeS,zeT]
  refine zaa zah ⟨(by simp only [zac,zad,nbS]),?_⟩
  rw [zft (by omega),zft (by omega)] at hpre
  rw [decide_eq_true hpre]
  rfl
theorem pSameE_any (nn : Bool) {t : Tok} (la lb : List Ent) (hl : la.length < 4611686018427387904) :
  zab Tryz.prog Γ 93 [.sl (la.map entV) [] t,zbC nn lb] m fun o m' => o = .ret (.val (.bool (decide (la = lb)))) ∧ m' = m := by
 refine acalls_weak (fun G cargs h => ?_) (pSameE_ok nn (t := .no) la lb trivial hl)
 cases h with
 | cons a b => exact .cons (relNo a) b
end
/-! ### Entries between two numbers -/
def entsN (l : List Ent) : V := zbC (!l.isEmpty) l
theorem entsN_nil {l : List Ent} : (!l.isEmpty) = true ∨ l = [] := by cases l <;> simp
def zEnt : List V := [.val (.int .i64 0),.val (.int .i64 0),.val (.int .i64 0),.val (.int .i64 0),.val (.string (ByteArray.mk #[])),.val (.int .i64 0),.val (.int .i64 0),.val (.string (ByteArray.mk #[]))]
def litE (v : V) : Option V := (zcX 8 [.agg zEnt] [(0,v)]).map fun es => .sl es [] .full
theorem litE_eq {Γ : Glob} {t : List V} {m : Store} {x : Nat} : zao Tryz.prog (ev Γ t) m (.lits 8 [.val (.int .i64 0),.val (.int .i64 0),.val (.int .i64 0),.val (.int .i64 0),.val (.string (ByteArray.mk #[])),.val (.int .i64 0),.val (.int .i64 0),.val (.string (ByteArray.mk #[]))] 1 [(0,.tmp x)]) = litE (tget t x) := by
 rw [← zel (Γ := Γ)]
 rfl
theorem litE_ent (e : Ent) : litE (.agg [it e.c,it e.q,it e.k,it e.n,bs e.s,it e.ck,it e.cn,bs e.cs]) = some (.sl [entV e] [] .full) := rfl
section
variable {Γ : Glob} {m : Store}
end
end Go.Av.Fn
/- What is asked of logs: the program's answers, and the document's. Conditions: az ahead. -/
namespace Go.Av
end Go.Av
namespace Go.Av.Fn
set_option linter.unusedSimpArgs false
set_option linter.unusedVariables false
set_option maxRecDepth 10000
open Go.Proofs
def e0 : Ent := ⟨0,0,0,0,[],0,0,[]⟩
section
variable {Γ : Glob} {m : Store}
theorem rSame_ok (a b : Bool) (x : Lg) (hl : x.l.length ≤ 2000000) : zab Tryz.prog Γ 40 [lgV a x,lgV b x] m fun o m' => o = .ret (.val (.bool true)) ∧ m' = m := by
 have hna := nb_lgV (k := 0) a x
 have hnb := nb_lgV (k := 0) b x
 have hla := zaz (k := 0) a x.l
 have hlb := zaz (k := 0) b x.l
 refine zaG (zaL mixed F40_ok F40_h zaF (by simp only [hna,hnb,nbS]) ?_)
 simp only [F40,lgV,ss0,zeW,zeQ]
 simp only [zaj,beq_self_eq_true,ssH,zeQ,zeO,reduceIte,zeP,zeU,zeS,zeT]
 refine zam (v := .val (.bool true)) (by intro m; have := pSameE_any (Γ := Γ) (m := m) b (t := if a then .non else .full) x.l x.l (by omega); rw [decide_eq_true rfl] at this; exact this) (by simp only [hla,hlb,nbS]) (by first | exact LR.nil | simp only [nbS]) ?_
 simp only [ssH,zeQ,zeO,reduceIte,zeP,zeU,zeS,zeT]
 exact fin6 rfl
end
end Go.Av.Fn
/- The document's examples of logs, reckoned. No condition. -/
namespace Go.Av.Fn
set_option linter.unusedSimpArgs false
set_option linter.unusedVariables false
set_option maxRecDepth 100000
open Go.Proofs
end Go.Av.Fn
/- What is above a number, and what is up to it, are together all entries: the law. Conditions: az ahead. -/
namespace Go.Av.Fn
set_option linter.unusedSimpArgs false
set_option linter.unusedVariables false
set_option maxRecDepth 10000
open Go.Proofs
theorem len_ents {nn : Bool} {l : List Ent} : lenV false (zbC nn l) = some (it l.length) := by
 simp only [zbC,zaX,zfc]
section
variable {Γ : Glob} {m : Store}
end
end Go.Av.Fn
/- Whatever is asked of any log, it is answered az the document says: the law. Conditions: az ahead. -/
namespace Go.Av.Fn
set_option linter.unusedSimpArgs false
set_option linter.unusedVariables false
set_option maxRecDepth 10000
open Go.Proofs
section
variable {Γ : Glob} {m : Store}
end
section
variable {Γ : Glob} {m : Store}
end
def lgN (x : Lg) : V := lgV (!x.l.isEmpty) x
theorem nb_lgN {k : Nat} {x : Lg} : nb k (lgN x) := nb_lgV _ _
section
variable {Γ : Glob} {m : Store}
end
end Go.Av.Fn
/- A log appended to: the document. Conditions: az ahead. -/
namespace Go.Av
section
variable {P : Program} {Γ : Glob} {H : Nat → List (Nat × List Nat) × List Nat} {f : FuncId} {F : AFn} {gs : List Nat} {m : Store}
end
section
variable {P : Program} {Γ : Glob} {Kp : V → Hl → Prop} {N : Nat} {l : List Item} {K : HS → Prop} {t : List V} {h : Hl} {d : Option Tmp} {s : List (Tmp × Option (Tmp × Bool) × AOp)} {g : FuncId} {first args caps : List V}
end
end Go.Av
namespace Go.Av.Fn
set_option linter.unusedSimpArgs false
set_option linter.unusedVariables false
set_option maxRecDepth 10000
open Go.Proofs
section
variable {Γ : Glob} {m : Store}
end
section
variable {Γ : Glob} {m : Store}
end
end Go.Av.Fn
/- Numbers and texts az bytes, by the document. No condition. -/
namespace Go.Av.Fn
set_option linter.unusedSimpArgs false
set_option linter.unusedVariables false
set_option maxRecDepth 10000
open Go.Proofs Go.Lib
section
variable {Γ : Glob} {m : Store}
end
section
variable {Γ : Glob} {m : Store}
end
section
variable {Γ : Glob} {m : Store}
end
end Go.Av.Fn
/- Commands that are put are got as they were: the statement's function, walked. Conditions as ahead. -/
namespace Go.Av.Fn
set_option linter.unusedSimpArgs false
set_option linter.unusedVariables false
set_option maxRecDepth 10000
open Go.Proofs
end Go.Av.Fn
/- Any command has the bytes, and any bytes are the command, that the document says: the law. Conditions: az ahead. -/
namespace Go.Av
section
variable {P : Program} {Γ : Glob} {Kp : V → Hl → Prop} {l : List Item} {K : HS → Prop} {t : List V} {h : Hl} {d : Option Tmp} {s : List (Tmp × Option (Tmp × Bool) × AOp)} {g : FuncId} {first args caps : List V}
end
end Go.Av
namespace Go.Av.Fn
set_option linter.unusedSimpArgs false
set_option linter.unusedVariables false
set_option maxRecDepth 10000
open Go.Proofs
theorem getC_le {s : List UInt8} {a : Nat} {e : Int} (ha : a ≤ s.length) : (getC s a e).2.1 ≤ s.length := by
 unfold getC
 exact zeA (zaC (zaC ha))
end Go.Av.Fn
/- Functions that put behind a slice, over blocks. No condition. -/
namespace Go.Av
set_option linter.unusedSimpArgs false
set_option linter.unusedVariables false
def BH (e : TypeId) (x0 : Option Blk) (tok : Tok) (es : List V) : Prop := (x0 = none ∧ tok = .full) ∨ ∃ k,x0 = some (.tip e k) ∧ tok = .tip 0 k ∧ es ≠ []
section
variable {P : Program} {Γ : Glob} {H : Nat → List (Nat × List Nat) × List Nat} {f : FuncId} {F : AFn} {gs : List Nat} {m m' : Store}
theorem acalls_bu (hm : P.follows .mixedOrders = true) (hF : zan P H f = some F) (hok : F.body.okH gs = true) (hG : GOk Γ gs) {e : TypeId} {size : Nat} {es es2 az : List V} {v : V} (hB : BufI e size m m' v es) (hes : nbs 0 es) (ha : nbs 0 az) (h2 : nbs 0 es2) (hz : szOk size es2 = true) (hne : es2 ≠ [])
  (h : ∀ x0 tok,BH e x0 tok es → hawp P Γ (fun _ _ => False) 1 F.body (bodyH F.res fun v h' => ∃ j k,v = .sl es2 [] (.tip j k) ∧ lk h' j = some (.tip e k)) ⟨start F.ntmps (.sl es [] tok :: az),[x0]⟩) :
  zab P Γ f (v :: az) m' fun o m2 => ∃ v2,o = .ret v2 ∧ Buf e size m m2 v2 es2 := by
 have full : ∀ M : Store,szOk size es = true → zab P Γ f (.sl es [] .full :: az) M fun o m2 => ∃ v2,o = .ret v2 ∧ Buf e size M m2 v2 es2 := by
  intro M hs
  have h1 := zeN (P := P) (Γ := Γ) (R0 := fun _ _ => False) (N := 1) (m := fun _ => none) (h0 := [none]) hm hF hok hG (args0 := .sl es [] .full :: az) (args := .sl es [] .full :: az) (.cons (VR.sl (k := .full) (k' := .full) (hes.up _) .nil trivial) (ha.up _)) ⟨fun a c x r hx => r.elim,fun a b c r _ => r.elim,fun a b c x y r _ _ _ => r.elim,fun a b r => r.elim⟩ (fun _ _ q => q.elim) (Q := fun o h' => match o with | .ret v => ∃ j k,v = .sl es2 [] (.tip j k) ∧ lk h' j = some (.tip e k) | .pan _ => False) (h none .full (.inl ⟨rfl,rfl⟩))
  have hD : Disj (fun _ => none) M := fun b => .inl rfl
  have e0 : Store.or (fun _ => none) M = M := by funext b; rfl
  have h3 := h1.frame hD
  rw [e0] at h3
  refine zab.less h3 ?_
  rintro o m'' ⟨m1,rfl,d,S,o0,h',s1,s2,s3,s4⟩
  cases o0 with
  | pan v => exact s4.elim
  | ret v =>
   cases o with
   | pan v' => exact s3.elim
   | ret v' =>
    obtain ⟨j,k,rfl,hj⟩ := s4
    obtain ⟨es',mr,k',rfl,ra,rb,rc⟩ := VR.sl_inv s3
    obtain rfl := zb3 h2 ra
    obtain rfl := rb.nil_inv
    cases k' with
    | tip b k' =>
     obtain ⟨r0,rfl⟩ := rc
     obtain ⟨Y',g1,g2⟩ := s2.blk _ _ _ r0 hj
     cases Y' with
     | tip e' k' =>
      obtain ⟨rfl,rfl⟩ := g2
      have hmb : M b = none := by
       rcases d b with q | q
       ·rw [g1] at q; cases q
       ·exact q
      refine ⟨M.set b (.tip e k),?_,_,rfl,hz,.inr ⟨hne,b,k,hmb,rfl,rfl⟩⟩
      intro c x hx
      by_cases e : c = b
      ·subst e
       rw [Store.set_same] at hx
       cases hx
       simp only [Store.or,g1]
      ·rw [Store.set_ne _ _ e] at hx
       rcases d c with q | q
       ·simp only [Store.or,q]; exact hx
       ·rw [q] at hx
        cases hx
     | _ => exact g2.elim
    | _ => exact rc.elim
 rcases hB with ⟨hs,(⟨rfl,rfl,rfl⟩ | ⟨hne0,b,k,hb,rfl,rfl⟩)⟩ | ⟨hs,rfl,rfl⟩
 ·exact full _ hs
 ·have hmb : (m.set b (.tip e k)) b = some (.tip e k) := Store.set_same _ _ _
  have h1 := zeN (P := P) (Γ := Γ) (R0 := fun a c => a = 0 ∧ c = b) (N := 1) (m := one b (.tip e k)) hm hF hok hG (args0 := .sl es [] (.tip 0 k) :: az) (args := .sl es [] (.tip b k) :: az) (.cons (VR.sl (k := .tip 0 k) (k' := .tip b k) (hes.up _) .nil ⟨⟨rfl,rfl⟩,rfl⟩) (ha.up _)) (hh_one (X := .tip e k) ⟨rfl,rfl⟩) (fun _ _ q => by omega) (Q := fun o h' => match o with | .ret v => ∃ j k,v = .sl es2 [] (.tip j k) ∧ lk h' j = some (.tip e k) | .pan _ => False) (h _ _ (.inr ⟨k,rfl,rfl,hne0⟩))
  have h3 := h1.frame (one_disj b (.tip e k) (m := m.set b (.tip e k)))
  rw [one_del hmb] at h3
  refine zab.less h3 ?_
  rintro o m'' ⟨m1,rfl,d,S,o0,h',s1,s2,s3,s4⟩
  cases o0 with
  | pan v => exact s4.elim
  | ret v =>
   cases o with
   | pan v' => exact s3.elim
   | ret v' =>
    obtain ⟨j,k2,rfl,hj⟩ := s4
    obtain ⟨es',mr,k',rfl,ra,rb,rc⟩ := VR.sl_inv s3
    obtain rfl := zb3 h2 ra
    obtain rfl := rb.nil_inv
    cases k' with
    | tip b2 k' =>
     obtain ⟨r0,rfl⟩ := rc
     obtain ⟨Y',g1,g2⟩ := s2.blk _ _ _ r0 hj
     cases Y' with
     | tip e' k' =>
      obtain ⟨rfl,rfl⟩ := g2
      have hmb2 : m b2 = none := by
       by_cases e : b2 = b
       ·rw [e]; exact hb
       ·rcases d b2 with q | q
        ·rw [g1] at q; cases q
        ·simp only [del,if_neg e,Store.set_ne _ _ e] at q
         exact q
      refine ⟨m.set b2 (.tip e k2),?_,_,rfl,hz,.inr ⟨hne,b2,k2,hmb2,rfl,rfl⟩⟩
      intro c x hx
      by_cases e : c = b2
      ·subst e
       rw [Store.set_same] at hx
       cases hx
       simp only [Store.or,g1]
      ·rw [Store.set_ne _ _ e] at hx
       have hcb : c ≠ b := by rintro rfl; rw [hb] at hx; cases hx
       rcases d c with q | q
       ·simp only [Store.or,q,del,if_neg hcb,Store.set_ne _ _ hcb]; exact hx
       ·simp only [del,if_neg hcb,Store.set_ne _ _ hcb] at q
        rw [q] at hx
        cases hx
     | _ => exact g2.elim
    | _ => exact rc.elim
 ·exact full _ hs
end
section
variable {P : Program} {Γ : Glob} {Kp : V → Hl → Prop} {N : Nat} {l : List Item} {K : HS → Prop} {t : List V} {r : Hl} {d : Option Tmp} {s : List (Tmp × Option (Tmp × Bool) × AOp)} {g : FuncId} {first args caps : List V}
theorem hcall_bh {e : TypeId} {size : Nat} {az es es2 : List V} {x0 : Option Blk} {tok : Tok} (hl : r.length < 999999) (he : first ++ args ++ caps = .sl es [] tok :: az) (hB : BH e x0 tok es) (hz : szOk size es = true) (hne : es2 ≠ [])
  (hA : ∀ m m' v,BufI e size m m' v es → zab P Γ g (v :: az) m' fun o m2 => ∃ v2,o = .ret v2 ∧ Buf e size m m2 v2 es2) (h1 : nbs 0 es) (ha : nbs 0 az) (h2 : nbs 0 es2)
  (hr : ∀ k,hth P Γ Kp s l K (hput t (none :: (r ++ [some (.tip e k)])) d (some (.sl es2 [] (.tip (r.length + 1) k))))) : zdx P Γ Kp (.fn (.func g) first caps) args d s l K t (x0 :: r) := by
 rcases hB with ⟨rfl,rfl⟩ | ⟨k0,rfl,rfl,hne0⟩
 ·intro R args' m' rl H
  rw [he] at rl
  obtain ⟨y,ys,rfl,r1,r2⟩ := rl.cons_inv
  obtain rfl := zb3 ha r2
  have : y = .sl es [] .full := nb_eq (v := .sl es [] .full) (VR.sl (k := .full) (k' := .full) h1 .nil trivial) r1
  subst this
  refine (hA m' m' _ (.inr ⟨hz,rfl,rfl⟩)).mono ?_
  rintro o m2 ⟨v2,rfl,hb,(⟨q,_⟩ | ⟨_,b,k,q1,rfl,rfl⟩)⟩
  ·exact absurd q hne
  ·have hlen : ((none : Option Blk) :: r).length = r.length + 1 := rfl
   exact ⟨R.add (r.length + 1) b,.ret _,_,R.le_add _ _,H.push (x := .tip e k) (x' := .tip e k) q1 (by rw [hlen]; omega) ⟨rfl,rfl⟩,VR.sl (k := .tip (r.length + 1) k) (k' := .tip b k) (h2.up _) .nil ⟨.inr ⟨rfl,rfl⟩,rfl⟩,hr k⟩
 ·refine za3 (j := 0) (k := k0) (e := e) (size := size) (es := es) (es2 := es2) (by simp only [zeV]; omega) he rfl hz hne0 hne (fun m m' v h => hA m m' v (.inl h)) h1 ha h2 fun k => ?_
  have := hr k
  simpa only [hset,ze2,zeV] using this
end
end Go.Av
/- Entries and logs put behind bytes, az the program does. Conditions: az ahead. -/
namespace Go.Av
section
variable {P : Program} {Γ : Glob} {t : List V} {h : Hl} {N : Nat}
theorem lk_apps {hs r : Hl} {a : Nat} : lk (hs ++ r) a = if a < hs.length then lk hs a else lk r (a - hs.length) := by
 induction hs generalizing a with
 | nil => simp
 | cons x hs ih =>
  cases a with
  | zero => simp [lk]
  | succ a =>
   simp only [ze2,lk,ih,zeV,Nat.add_lt_add_iff_right,Nat.add_sub_add_right]
theorem back_tip {S : List Nat} {c L : Nat} {J : List V → Hl → Prop} {e : TypeId} {j k : Nat} {es more : List V} (hs : Hl) (h1 : t.length = L) (hN : N ≤ c) (hcj : c ≤ j) (hc2 : c < 1000000) (hj : lk h j = some (.tip e k)) (hlen : hs.length = c) (hS : S.map (tget t) = .sl es [] (.tip j k) :: more) (hes : nbs 0 es) (hm : nbs c more)
  (hB : ∀ a < c,∀ x,lk hs a = some x → lk h a = some x ∧ nbB c x) (hJ : J (.sl es [] (.tip c k) :: more) (hs ++ [some (.tip e k)])) : Back S (zfe c ++ [j]) N L J ⟨t,h⟩ := by
 have g1 : ∀ a < c,(zfe c ++ [j])[a]? = some a := by
  intro a ha
  rw [List.getElem?_append_left (by simpa using ha)]
  exact nm_range ha
 have g2 : (zfe c ++ [j])[c]? = some j := by
  rw [List.getElem?_append_right (by simp)]
  simp
 have hm' : (NB c).le (Nm (zfe c ++ [j])) := fun a b ⟨e,l⟩ => by subst e; exact g1 _ l
 refine ⟨h1,fun a ha => g1 a (by omega),?_,by simp; omega,_,hs ++ [some (.tip e k)],?_,by simp [hlen],?_,hJ⟩
 ·rw [List.nodup_append]
  refine ⟨List.nodup_range,by simp,?_⟩
  intro a ha b hb
  simp only [List.mem_range] at ha
  simp only [List.mem_singleton] at hb
  omega
 ·rw [hS]
  exact .cons (VR.sl (k := .tip c k) (k' := .tip j k) (hes.up _) .nil ⟨g2,rfl⟩) (LR.mono hm' hm)
 ·intro a b hab
  by_cases ha : a < c
  ·rw [g1 a ha] at hab
   cases hab
   simp only
   rw [lk_apps,if_pos (by omega)]
   cases hx : lk hs a with
   | none => trivial
   | some x =>
    obtain ⟨q1,q2⟩ := hB a ha x hx
    rw [q1]
    exact BR.mono hm' q2
  ·have hac : a = c := by
    have := (List.getElem?_eq_some_iff.1 hab).1
    simp at this
    omega
   subst hac
   rw [g2] at hab
   cases hab
   simp only
   rw [lk_apps,if_neg (by omega),hlen,Nat.sub_self,hj]
   exact ⟨rfl,rfl⟩
end
end Go.Av
namespace Go.Av.Fn
set_option linter.unusedSimpArgs false
set_option linter.unusedVariables false
set_option maxRecDepth 10000
open Go.Proofs
def uz (n : Int) : List UInt8 := Lib.uvarint (Lib.zigzag n)
def zb2 : List Int → List UInt8
 | [] => []
 | n :: l => uz n ++ zb2 l
theorem numsB_app (a b : List Int) : zb2 (a ++ b) = zb2 a ++ zb2 b := by
 induction a with
 | nil => rfl
 | cons n a ih => simp only [ze2,zb2,ih,ze3]
theorem zaT {n : Int} (h : Av.I64 n) : (uz n).length ≤ 10 := Lib.uvarint_length64 (Av.zigzag_u64 h)
theorem zet (n : Int) : uz n ≠ [] := by
 unfold uz
 rw [Lib.uvarint]
 split <;> simp
theorem numsB_len {l : List Int} (h : ∀ n ∈ l,Av.I64 n) : (zb2 l).length ≤ 10 * l.length := by
 induction l with
 | nil => exact zfq _
 | cons n l ih =>
  have h1 := zaT (h n (zfa ..))
  have h2 := ih fun x hx => h x (zfb _ hx)
  simp only [zb2,zeY,zeV]
  omega
theorem nbs_its {k : Nat} (l : List Int) : nbs k (l.map it) := nbs_map (fun n => by simp only [nbS]) l
theorem zaO {l : List UInt8} (h : l ≠ []) : l.map by8 ≠ [] := by simpa using h
section
variable {Γ : Glob} {m m' : Store}
theorem nums_ok {v : V} {l : List UInt8} (hB : BufI 5 1 m m' v (l.map by8)) (ns : List Int) (hn : ∀ n ∈ ns,Av.I64 n) (hne : ns ≠ []) (hl : l.length + 10 * ns.length < 1099511627776) (hc : ns.length < 1000000) :
  zab Tryz.prog Γ 101 [v,.sl (ns.map it) [] .full] m' fun o m2 => ∃ v2,o = .ret v2 ∧ Buf 5 1 m m2 v2 ((l ++ zb2 ns).map by8) := by
 have hne2 : zb2 ns ≠ [] := by
  cases ns with
  | nil => exact absurd rfl hne
  | cons n ns => simp only [zb2]; intro h; exact zet n (List.append_eq_nil_iff.1 h).1
 refine acalls_bu mixed F101_ok F101_h zaF hB (zaf _) (by simp only [nbs_its,nbS]) (zaf _) (zaR _) (zaO (by simp [hne2])) fun x0 tok hx => ?_
 simp only [F101,ss0,zeW,zeQ]
 simp only [ssH,zeQ,zeO,reduceIte,zeP,zeU,zeS,zeT]
 refine h_loop [0,7,8,9] 18 (fun n vs h => ∃ (i : Nat) (tk : Tok),vs = [.sl ((l ++ zb2 (ns.take i)).map by8) [] tk,.sl (ns.map it) [] .full,it ns.length,it i] ∧ i + n = ns.length + 1 ∧ i ≤ ns.length ∧ ((i = 0 ∧ h = [x0] ∧ tk = tok) ∨ (0 < i ∧ ∃ k,h = [none,some (.tip 5 k)] ∧ tk = .tip 1 k))) (ns.length + 1) (by decide) (by decide) (zfe 1) ?_ ?_
 ·have e0 : [0,7,8,9].map (tget [.sl (l.map by8) [] tok,.sl (ns.map it) [] .full,un,un,.sl [] [] .full,un,un,.sl (ns.map it) [] .full,it (ns.map it).length,it 0,un,un,un,un,un,un,un,un]) = [.sl ((l ++ zb2 (ns.take 0)).map by8) [] tok,.sl (ns.map it) [] .full,it ns.length,it ((0 : Nat) : Int)] := by
   rw [show l ++ zb2 (ns.take 0) = l by simp [zb2],zfc]
   rfl
  refine zaQ rfl (by decide) (by decide) (by simp) ?_ ?_ ⟨0,tok,e0,by omega,by omega,.inl ⟨rfl,rfl,rfl⟩⟩
  ·show nbs 1 [.sl (l.map by8) [] tok,.sl (ns.map it) [] .full,it (ns.map it).length,it 0]
   rcases hx with ⟨rfl,rfl⟩ | ⟨k,rfl,rfl,_⟩
   ·simp only [nbs_its,nbS]
   ·simp only [nbs_its,nbS]; decide
  ·intro a ha x hx'
   have : a = 0 := by omega
   subst this
   rcases hx with ⟨rfl,rfl⟩ | ⟨k,rfl,rfl,_⟩
   ·cases hx'
   ·cases hx'; simp only [nbS]
 rintro n t h J hJ hlt ⟨i,tk,hv,hi1,hi2,hh⟩
 simp only [zfG,List.cons.injEq,and_true] at hv
 obtain ⟨g0,g7,g8,g9⟩ := hv
 have hlen : (l ++ zb2 (ns.take i)).length ≤ l.length + 10 * ns.length := by
  have := numsB_len (l := ns.take i) fun x hx => hn x (List.mem_of_mem_take hx)
  rw [zfh] at this
  simp only [zeY]
  omega
 obtain ⟨pr,hpr⟩ : ∃ z,z = l ++ zb2 (ns.take i) := ⟨_,rfl⟩
 rw [← hpr] at g0 hlen
 rw [t_eq hlt]
 simp only [zaE,upTo,g0,g7,g8,g9,zfc,ssH,zeQ,zeO,reduceIte,zeP,zeU,zeS,zeT]
 by_cases hil : i < ns.length
 ·have hx2 : ns[i]? = some ns[i] := zff hil
  have hni : Av.I64 ns[i] := hn _ (List.getElem_mem _)
  have hst : zb2 (ns.take (i + 1)) = zb2 (ns.take i) ++ uz ns[i] := by rw [zfB,hx2,numsB_app]; simp [zb2]
  generalize ns[i] = a at hx2 hni hst
  have hnb := nbs_its (k := 0) ns
  have hnb1 := nbs_its (k := 1) ns
  obtain ⟨nx,hnx⟩ : ∃ z,z = l ++ zb2 (ns.take (i + 1)) := ⟨_,rfl⟩
  have hp : nx = pr ++ uz a := by rw [hnx,hpr,hst,ze3]
  have hcall : ∀ (mm mm' : Store) (w : V),BufI 5 1 mm mm' w (pr.map by8) → zab Tryz.prog Γ 61 [w,it a] mm' fun o m2 => ∃ v2,o = .ret v2 ∧ Buf 5 1 mm m2 v2 (nx.map by8) := by
   intro mm mm' w hw
   rw [hp]
   exact zbj (Γ := Γ) hw hni (by omega)
  have hi9 : idxLV 1 (.sl (ns.map it) [] .full) (it i) = some (.elt [it a]) := idxLV_nat (e := it a) (by rw [List.getElem?_map,hx2]; rfl) rfl
  have hne3 : nx.map by8 ≠ [] := zaO (by rw [hp]; simp [zet])
  have fin : ∀ {t' : List V} {h' : Hl} (j k : Nat),t'.length = 18 → tget t' 0 = .sl (nx.map by8) [] (.tip j k) → tget t' 7 = .sl (ns.map it) [] .full → tget t' 8 = it ns.length → tget t' 9 = it (i + 1 : Nat) → lk h' j = some (.tip 5 k) → 1 ≤ j → ∃ names,J names ⟨t',h'⟩ := by
   intro t' h' j k q q0 q7 q8 q9 qj hj
   refine ⟨_,hJ (n - 1) _ _ (by omega) (back_tip (c := 1) (j := j) (k := k) (es := nx.map by8) (more := [.sl (ns.map it) [] .full,it ns.length,it (i + 1 : Nat)]) [none] q (zfq _) hj (by decide) qj rfl (by simp only [zfG,q0,q7,q8,q9]) (zaf _) (by simp only [hnb1,nbS]) ?_ ⟨i + 1,.tip 1 k,by rw [← hnx],by omega,by omega,.inr ⟨by omega,k,rfl,rfl⟩⟩)⟩
   intro a ha x hx
   have : a = 0 := by omega
   subst this
   cases hx
  simp only [show decide ((i : Int) < (ns.length : Int)) = true from decide_eq_true (by omega),hi9,ssH,zeQ,zeO,reduceIte,zeP,zeU,zeS,zeT]
  rcases hh with ⟨hi0,rfl,rfl⟩ | ⟨hi0,k,rfl,rfl⟩
  ·have hB0 : BH 5 x0 tk (pr.map by8) := by rw [hpr,hi0]; simpa [zb2] using hx
   refine hcall_bh (size := 1) (az := [it a]) (by simp) rfl hB0 (zaR _) hne3 hcall (zaf _) (by first | exact LR.nil | simp only [nbS]) (zaf _) fun k => ?_
   simp only [ze0,zax (show i < 4611686018427387904 by omega),ssH,zeQ,zeO,reduceIte,zeP,zeU,zeS,zeT]
   exact fin 1 k rfl rfl rfl rfl rfl rfl (by decide)
  ·refine za3 (j := 1) (size := 1) (az := [it a]) (by simp) rfl rfl (zaR _) ?_ hne3 (fun mm mm' w hw => hcall mm mm' w (.inl hw)) (zaf _) (by first | exact LR.nil | simp only [nbS]) (zaf _) fun k => ?_
   ·refine zaO ?_
    rw [hpr]
    cases ns with
    | nil => simp at hil
    | cons n ns =>
     cases i with
     | zero => omega
     | succ i => simp [zb2,zet]
   simp only [zeV,ze0,zax (show i < 4611686018427387904 by omega),ssH,zeQ,zeO,reduceIte,zeP,zeU,zeS,zeT]
   exact fin 2 k rfl rfl rfl rfl rfl rfl (by decide)
 ·simp only [show decide ((i : Int) < (ns.length : Int)) = false from decide_eq_false (by omega),ssH,zeQ,zeO,reduceIte,zeP,zeU,zeS,zeT]
  have hie : i = ns.length := by omega
  rw [hie,List.take_length] at hpr
  subst hpr
  rcases hh with ⟨hi0,rfl,rfl⟩ | ⟨hi0,k,rfl,rfl⟩
  ·have : ns = [] := List.length_eq_zero_iff.1 (by omega)
   exact absurd this hne
  ·exact zaa rfl ⟨1,k,rfl,rfl⟩
def putE (e : Ent) : List UInt8 := zb2 [e.c,e.q,e.k,e.n] ++ (uz e.s.length ++ e.s) ++ putC e.ck e.cn e.cs
def EntN (e : Ent) : Prop := Av.I64 e.c ∧ Av.I64 e.q ∧ Av.I64 e.k ∧ Av.I64 e.n ∧ Av.I64 e.ck ∧ Av.I64 e.cn
def litF (a b c d : V) : Option V := (zcX 1 [.val (.int .i64 0),.val (.int .i64 0),.val (.int .i64 0),.val (.int .i64 0)] [(0,a),(1,b),(2,c),(3,d)]).map fun es => .sl es [] .full
theorem litF_eq {t : List V} {a b c d : Nat} : zao Tryz.prog (ev Γ t) m (.lits 1 [.val (.int .i64 0)] 4 [(0,.tmp a),(1,.tmp b),(2,.tmp c),(3,.tmp d)]) = litF (tget t a) (tget t b) (tget t c) (tget t d) := by
 rw [← zel (Γ := Γ),← zel (Γ := Γ),← zel (Γ := Γ),← zel (Γ := Γ)]
 rfl
theorem litF_it (a b c d : Int) : litF (it a) (it b) (it c) (it d) = some (.sl ([a,b,c,d].map it) [] .full) := rfl
theorem putE_len {e : Ent} (h : EntN e) (hs : e.cs.length ≤ 1099511627776) (hs2 : e.s.length ≤ 1099511627776) : (putE e).length ≤ 80 + e.s.length + e.cs.length := by
 obtain ⟨h1,h2,h3,h4,h5,h6⟩ := h
 have a := numsB_len (l := [e.c,e.q,e.k,e.n]) (by intro n hn; simp only [List.mem_cons,List.not_mem_nil,or_false] at hn; rcases hn with rfl | rfl | rfl | rfl <;> assumption)
 have b := zaT (n := (e.s.length : Int)) ⟨by omega,by omega⟩
 have c := putC_len (k := e.ck) (n := e.cn) h5 h6 (t := e.cs) (by omega)
 simp only [putE,zeY,zeV,ze0] at a ⊢
 omega
theorem sPut_ok {v : V} {l : List UInt8} (hB : BufI 5 1 m m' v (l.map by8)) (e : Ent) (he : EntN e) (hl : l.length + e.s.length + e.cs.length + 1000 < 1099511627776) :
  zab Tryz.prog Γ 50 [v,entV e] m' fun o m2 => ∃ v2,o = .ret v2 ∧ Buf 5 1 m m2 v2 ((l ++ putE e).map by8) := by
 have hne := zct (k := 0) e
 have hn4 : ∀ n ∈ [e.c,e.q,e.k,e.n],Av.I64 n := by
  obtain ⟨h1,h2,h3,h4,h5,h6⟩ := he
  intro n hn
  simp only [List.mem_cons,List.not_mem_nil,or_false] at hn
  rcases hn with rfl | rfl | rfl | rfl <;> assumption
 have hlen := numsB_len hn4
 simp only [zeV,ze0] at hlen
 have hz : zb2 [e.c,e.q,e.k,e.n] ≠ [] := by simp [zb2,zet]
 refine acalls_bu mixed F50_ok F50_h zaF hB (zaf _) (by simp only [hne,nbS]) (zaf _) (zaR _) (zaO (by simp [putE,hz])) fun x0 tok hx => ?_
 simp only [F50,entV,ss0,zeW,zeQ]
 simp only [litF_eq,litF_it,zaj,ssH,zeQ,zeO,reduceIte,zeP,zeU,zeS,zeT]
 have hni := nbs_its (k := 0) [e.c,e.q,e.k,e.n]
 have hb2 := zaT (n := (e.s.length : Int)) ⟨by omega,by omega⟩
 refine hcall_bh (size := 1) (az := [.sl ([e.c,e.q,e.k,e.n].map it) [] .full]) (by simp) rfl hx (zaR _) (es2 := (l ++ zb2 [e.c,e.q,e.k,e.n]).map by8) (zaO (by simp [hz])) (fun mm mm' w hw => nums_ok hw _ hn4 (by simp) (by simp; omega) (by simp)) (zaf _) (by simp only [hni,nbS]) (zaf _) fun k => ?_
 simp only [zeV,ze0,List.map_cons,List.map_nil,ssH,zeQ,zeO,reduceIte,zeP,zeU,zeS,zeT]
 refine za3 (e := 5) (j := 2) (size := 1) (az := [bs e.s]) (by simp) rfl rfl (zaR _) (es2 := (l ++ zb2 [e.c,e.q,e.k,e.n] ++ uz e.s.length ++ e.s).map by8) (zaO (by simp [hz])) (zaO (by simp [hz])) (fun mm mm' w hw => putText_ok hw (by simp; omega) (by simp; omega)) (zaf _) (by first | exact LR.nil | simp only [nbS]) (zaf _) fun k2 => ?_
 simp only [zeV,ze0,ssH,zeQ,zeO,reduceIte,zeP,zeU,zeS,zeT]
 have e2 : l ++ putE e = l ++ zb2 [e.c,e.q,e.k,e.n] ++ uz e.s.length ++ e.s ++ putC e.ck e.cn e.cs := by simp only [putE,ze3]
 rw [e2]
 refine za3 (e := 5) (j := 3) (size := 1) (az := [cmdV e.ck e.cn e.cs]) (by simp) rfl rfl (zaR _) (es2 := (l ++ zb2 [e.c,e.q,e.k,e.n] ++ uz e.s.length ++ e.s ++ putC e.ck e.cn e.cs).map by8) (zaO (by simp [hz])) (zaO (by simp [hz])) (fun mm mm' w hw => put_ok (.inl hw) he.2.2.2.2.1 he.2.2.2.2.2 (by simp; omega) (by simp; omega)) (zaf _) (by simp only [cmdV,nbS]) (zaf _) fun k3 => ?_
 simp only [zeV,ze0,ssH,zeQ,zeO,reduceIte,zeP,zeU,zeS,zeT]
 exact zaa rfl ⟨4,k3,rfl,rfl⟩
def zb9 : List Ent → List UInt8
 | [] => []
 | e :: l => putE e ++ zb9 l
theorem putEs_app (a b : List Ent) : zb9 (a ++ b) = zb9 a ++ zb9 b := by
 induction a with
 | nil => rfl
 | cons e a ih => simp only [ze2,zb9,ih,ze3]
def putL (x : Lg) : List UInt8 := uz x.b ++ (uz x.c.length ++ x.c) ++ uz x.l.length ++ zb9 x.l
def EntS (e : Ent) : Prop := EntN e ∧ e.s.length ≤ 255 ∧ e.cs.length ≤ 255
theorem putEs_len {l : List Ent} (h : ∀ e ∈ l,EntS e) : (zb9 l).length ≤ 600 * l.length := by
 induction l with
 | nil => exact zfq _
 | cons e l ih =>
  obtain ⟨h1,h2,h3⟩ := h e (zfa ..)
  have h4 := ih fun x hx => h x (zfb _ hx)
  have h5 := putE_len h1 (by omega) (by omega)
  simp only [zb9,zeY,zeV]
  omega
def LogS (x : Lg) : Prop := Av.I64 x.b ∧ x.c.length ≤ 65536 ∧ x.l.length ≤ 64 ∧ ∀ e ∈ x.l,EntS e
theorem putL_len {x : Lg} (h : LogS x) : (putL x).length ≤ 110000 := by
 obtain ⟨h1,h2,h3,h4⟩ := h
 have a := zaT h1
 have b := zaT (n := (x.c.length : Int)) ⟨by omega,by omega⟩
 have c := zaT (n := (x.l.length : Int)) ⟨by omega,by omega⟩
 have d := putEs_len h4
 simp only [putL,zeY]
 omega
def EntW (e : Ent) : Prop := EntN e ∧ e.s.length ≤ 2000000 ∧ e.cs.length ≤ 2000000
theorem putEs_lenW {l : List Ent} (h : ∀ e ∈ l,EntW e) : (zb9 l).length ≤ 4000100 * l.length := by
 induction l with
 | nil => exact zfq _
 | cons e l ih =>
  obtain ⟨h1,h2,h3⟩ := h e (zfa ..)
  have h4 := ih fun x hx => h x (zfb _ hx)
  have h5 := putE_len h1 (by omega) (by omega)
  simp only [zb9,zeY,zeV]
  omega
def LogW (x : Lg) : Prop := Av.I64 x.b ∧ x.c.length ≤ 2000000 ∧ x.l.length ≤ 1000 ∧ ∀ e ∈ x.l,EntW e
theorem LogS.w {x : Lg} (h : LogS x) : LogW x := ⟨h.1,by have := h.2.1; omega,by have := h.2.2.1; omega,fun e he => by have := h.2.2.2 e he; exact ⟨this.1,by have := this.2.1; omega,by have := this.2.2; omega⟩⟩
theorem oPut_ok {v : V} {l : List UInt8} (hB : BufI 5 1 m m' v (l.map by8)) (nn : Bool) (x : Lg) (hx : LogW x) (hl : l.length ≤ 1000000) :
  zab Tryz.prog Γ 54 [v,lgV nn x] m' fun o m2 => ∃ v2,o = .ret v2 ∧ Buf 5 1 m m2 v2 ((l ++ putL x).map by8) := by
 have hnb := nb_lgV (k := 0) nn x
 have hnl := zaz (k := 0) nn x.l
 obtain ⟨h1,h2,h3,h4⟩ := id hx
 have hb2 := zaT h1
 have hc2 := zaT (n := (x.c.length : Int)) ⟨by omega,by omega⟩
 have hd2 := zaT (n := (x.l.length : Int)) ⟨by omega,by omega⟩
 refine acalls_bu mixed F54_ok F54_h zaF hB (zaf _) (by simp only [hnb,nbS]) (zaf _) (zaR _) (zaO (by simp [putL,zet])) fun x0 tok hx0 => ?_
 simp only [F54,lgV,ss0,zeW,zeQ]
 simp only [len_ents,zaj,ssH,zeQ,zeO,reduceIte,zeP,zeU,zeS,zeT]
 refine hcall_bh (e := 5) (size := 1) (az := [it x.b]) (by simp) rfl hx0 (zaR _) (es2 := (l ++ uz x.b).map by8) (zaO (by simp [zet])) (fun mm mm' w hw => zbj hw h1 (by omega)) (zaf _) (by first | exact LR.nil | simp only [nbS]) (zaf _) fun k => ?_
 simp only [zeV,ze0,ssH,zeQ,zeO,reduceIte,zeP,zeU,zeS,zeT]
 refine za3 (e := 5) (j := 2) (size := 1) (az := [bs x.c]) (by simp) rfl rfl (zaR _) (es2 := (l ++ uz x.b ++ uz x.c.length ++ x.c).map by8) (zaO (by simp [zet])) (zaO (by simp [zet])) (fun mm mm' w hw => putText_ok hw (by simp; omega) (by simp; omega)) (zaf _) (by first | exact LR.nil | simp only [nbS]) (zaf _) fun k2 => ?_
 simp only [zeV,ze0,ssH,zeQ,zeO,reduceIte,zeP,zeU,zeS,zeT]
 refine za3 (e := 5) (j := 3) (size := 1) (az := [it x.l.length]) (by simp) rfl rfl (zaR _) (es2 := (l ++ uz x.b ++ uz x.c.length ++ x.c ++ uz x.l.length).map by8) (zaO (by simp [zet])) (zaO (by simp [zet])) (fun mm mm' w hw => zbj (.inl hw) ⟨by omega,by omega⟩ (by simp; omega)) (zaf _) (by first | exact LR.nil | simp only [nbS]) (zaf _) fun k3 => ?_
 obtain ⟨pl,hpl⟩ : ∃ z,z = l ++ uz x.b ++ uz x.c.length ++ x.c ++ uz x.l.length := ⟨_,rfl⟩
 rw [← hpl]
 simp only [zeV,ze0,len_ents,ssH,zeQ,zeO,reduceIte,zeP,zeU,zeS,zeT]
 have hpe : l ++ putL x = pl ++ zb9 x.l := by rw [hpl]; simp only [putL,ze3]
 have hpn : pl ≠ [] := by rw [hpl]; simp [zet]
 have hpo : pl.length ≤ 3100000 := by rw [hpl]; simp only [zeY]; omega
 rw [hpe]
 clear hpl hpe
 have hnl2 := zaz (k := 2) nn x.l
 have back : ∀ {t' : List V} {h' : Hl} (n' i' j k : Nat),t'.length = 30 → tget t' 0 = .sl ((pl ++ zb9 (x.l.take i')).map by8) [] (.tip j k) → tget t' 3 = .ptr 1 0 → tget t' 19 = zbC nn x.l → tget t' 20 = it x.l.length → tget t' 21 = it i' → lk h' 1 = some (logB nn x) → lk h' j = some (.tip 5 k) → 2 ≤ j → i' + n' = x.l.length + 1 → i' ≤ x.l.length →
   Back [0,3,19,20,21] (zfe 2 ++ [j]) 1 30 (fun vs h => ∃ (i k : Nat),vs = [.sl ((pl ++ zb9 (x.l.take i)).map by8) [] (.tip 2 k),.ptr 1 0,zbC nn x.l,it x.l.length,it i] ∧ i + n' = x.l.length + 1 ∧ i ≤ x.l.length ∧ h = [none,some (logB nn x),some (.tip 5 k)]) ⟨t',h'⟩ := by
  intro t' h' n' i' j k q q0 q3 q19 q20 q21 qb qj hj hn' hi'
  refine back_tip (c := 2) (j := j) (k := k) (es := (pl ++ zb9 (x.l.take i')).map by8) (more := [.ptr 1 0,zbC nn x.l,it x.l.length,it i']) [none,some (logB nn x)] q (by decide) hj (by decide) qj rfl (by simp only [zfG,q0,q3,q19,q20,q21]) (zaf _) (by simp only [hnl2,nbS]; decide) ?_ ⟨i',k,rfl,hn',hi',rfl⟩
  intro a ha y hy
  have : a = 0 ∨ a = 1 := by omega
  rcases this with rfl | rfl
  ·cases hy
  ·cases hy
   exact ⟨qb,by simp only [logB,hnl2,nbS]⟩
 refine h_loop [0,3,19,20,21] 30 (fun n vs h => ∃ (i k : Nat),vs = [.sl ((pl ++ zb9 (x.l.take i)).map by8) [] (.tip 2 k),.ptr 1 0,zbC nn x.l,it x.l.length,it i] ∧ i + n = x.l.length + 1 ∧ i ≤ x.l.length ∧ h = [none,some (logB nn x),some (.tip 5 k)]) (x.l.length + 1) (by decide) (by decide) (zfe 2 ++ [4]) (back (x.l.length + 1) 0 4 k3 rfl (by simp only [List.take_zero,zb9,ze9]; rfl) rfl rfl rfl rfl rfl rfl (by decide) (by omega) (by omega)) ?_
 rintro n t h J hJ hlt ⟨i,k,hv,hi1,hi2,rfl⟩
 simp only [zfG,List.cons.injEq,and_true] at hv
 obtain ⟨g0,g3,g19,g20,g21⟩ := hv
 have hlen : (zb9 (x.l.take i)).length ≤ 4000100 * 1000 := by
  have := putEs_lenW (l := x.l.take i) fun e he => h4 e (List.mem_of_mem_take he)
  rw [zfh] at this
  omega
 obtain ⟨pr,hpr⟩ : ∃ z,z = pl ++ zb9 (x.l.take i) := ⟨_,rfl⟩
 have hprl : pr.length ≤ 5000000000 := by rw [hpr,zeY]; omega
 have hpr0 : pr ≠ [] := by rw [hpr]; simp [hpn]
 rw [← hpr] at g0
 rw [t_eq hlt]
 simp only [zaE,upTo,g0,g3,g19,g20,g21,logB,ssH,zeQ,zeO,reduceIte,zeP,zeU,zeS,zeT]
 by_cases hil : i < x.l.length
 ·have hx2 : x.l[i]? = some x.l[i] := zff hil
  have hei : EntW x.l[i] := h4 _ (List.getElem_mem _)
  have hst : pl ++ zb9 (x.l.take (i + 1)) = pr ++ putE x.l[i] := by
   rw [zfB,hx2,putEs_app,hpr]
   simp [zb9]
  generalize x.l[i] = e at hx2 hei hst
  simp only [show decide ((i : Int) < (x.l.length : Int)) = true from decide_eq_true (by omega),zbC,idx_ent hx2,zaj,ssH,zeQ,zeO,reduceIte,zeP,zeU,zeS,zeT]
  refine za3 (e := 5) (j := 2) (size := 1) (az := [entV e]) (by simp) rfl rfl (zaR _) (es2 := (pr ++ putE e).map by8) (zaO hpr0) (zaO (by simp [hpr0])) (fun mm mm' w hw => sPut_ok (.inl hw) e hei.1 (by have := hei.2; omega)) (zaf _) (by simp only [zct,nbS]) (zaf _) fun k2 => ?_
  simp only [zeV,ze0,zax (show i < 4611686018427387904 by omega),ssH,zeQ,zeO,reduceIte,zeP,zeU,zeS,zeT]
  exact ⟨_,hJ (n - 1) _ _ (by omega) (back (n - 1) (i + 1) 4 k2 rfl (by rw [hst]; rfl) rfl rfl rfl rfl rfl rfl (by decide) (by omega) (by omega))⟩
 ·simp only [show decide ((i : Int) < (x.l.length : Int)) = false from decide_eq_false (by omega),ssH,zeQ,zeO,reduceIte,zeP,zeU,zeS,zeT]
  have hie : i = x.l.length := by omega
  rw [hie,List.take_length] at hpr
  subst hpr
  exact zaa rfl ⟨2,k,rfl,rfl⟩
end
def hdB (x : List UInt8) : List UInt8 := uz x.length ++ x
def frB (x : List UInt8) : List UInt8 := hdB x ++ le4 (crcN (hdB x))
theorem le4_len (n : Nat) : (le4 n).length = 4 := rfl
theorem frB_len (x : List UInt8) : (frB x).length = (uz x.length).length + x.length + 4 := by simp only [frB,hdB,le4_len,zeY]
def frG (s : List UInt8) : List UInt8 × Nat × Int :=
 if (zaD s 1048576).2.2 ≠ 0 then ([],0,(zaD s 1048576).2.2)
 else if s.length < (zaD s 1048576).2.1 + (zaD s 1048576).1.toNat + 4 then ([],0,3)
 else if s.take ((zaD s 1048576).2.1 + (zaD s 1048576).1.toNat + 4) = frB ((s.drop (zaD s 1048576).2.1).take (zaD s 1048576).1.toNat) then ((s.drop (zaD s 1048576).2.1).take (zaD s 1048576).1.toNat,(zaD s 1048576).2.1 + (zaD s 1048576).1.toNat + 4,0)
 else ([],0,4)
theorem countL_take (s : List UInt8) (most : Int) {k : Nat} (h : 10 ≤ k) : zaD (s.take k) most = zaD s most := by unfold zaD; rw [Av.numL_take s h]
theorem zcQ {s : List UInt8} {n most : Int} {u : Nat} (h : zaD s most = (n,u,0)) : 0 ≤ n ∧ n ≤ max 0 most ∧ 0 < u ∧ u ≤ 10 ∧ u ≤ s.length ∧ s.take u = uz n := by
 unfold zaD at h
 split at h
 ·rename_i h1
  simp only [Prod.mk.injEq] at h
  exact absurd h.2.2 h1
 ·rename_i h1
  split at h
  ·simp at h
  ·split at h
   ·simp at h
   ·rename_i h2 h3
    simp only [Prod.mk.injEq,and_true] at h
    obtain ⟨rfl,rfl⟩ := h
    have h1' : (Av.numL s).2.2 = 0 := by simpa using h1
    obtain ⟨g1,g2,g3,g4⟩ := Av.numL_canon (s := s) (n := (Av.numL s).1) (u := (Av.numL s).2.1) (by rw [← h1'])
    have := zaT g4
    refine ⟨by omega,by omega,g1,?_,g2,g3⟩
    have e := congrArg List.length g3
    rw [zfh] at e
    unfold uz at this
    omega
theorem frG_eq {s : List UInt8} {n u : Nat} (h : zaD s 1048576 = ((n : Int),u,0)) (hl : u + n + 4 ≤ s.length) :
  (s.take (u + n + 4) = frB ((s.drop u).take n)) ↔ (s.drop (u + n)).take 4 = le4 (crcN (s.take (u + n))) := by
 obtain ⟨_,_,_,_,h1,h2⟩ := zcQ h
 have hx : ((s.drop u).take n).length = n := by rw [zfh,List.length_drop]; omega
 have e1 : hdB ((s.drop u).take n) = s.take (u + n) := by
  rw [hdB,hx,← h2,List.take_add]
 rw [frB,e1,List.take_add,List.append_cancel_left_eq]
theorem countL_frame {x : List UInt8} (h : x.length ≤ 1048576) (r : List UInt8) : zaD (uz x.length ++ r) 1048576 = ((x.length : Int),(uz x.length).length,0) := by
 have hi : Av.I64 (x.length : Int) := ⟨by omega,by omega⟩
 have := countL_put hi r 1048576 (by decide)
 rw [if_neg (by omega)] at this
 exact this
theorem frG_put {x : List UInt8} (h : x.length ≤ 1048576) (r : List UInt8) : frG (frB x ++ r) = (x,(frB x).length,0) := by
 have e : frB x ++ r = uz x.length ++ (x ++ (le4 (crcN (hdB x)) ++ r)) := by simp only [frB,hdB,ze3]
 have hc : zaD (frB x ++ r) 1048576 = ((x.length : Int),(uz x.length).length,0) := by rw [e]; exact countL_frame h _
 have hd : (frB x ++ r).drop (uz x.length).length = x ++ (le4 (crcN (hdB x)) ++ r) := by rw [e,List.drop_left]
 have ht : (frB x ++ r).take ((uz x.length).length + x.length + 4) = frB x := by
  rw [← frB_len,List.take_left]
 unfold frG
 simp only [hc,zfv,hd,List.take_left,ht]
 rw [if_neg (by simp),if_neg (by rw [zeY,frB_len]; omega),if_pos trivial,frB_len]
theorem frG_ok {s x : List UInt8} {n : Nat} (h : frG s = (x,n,0)) : n ≤ s.length ∧ s.take n = frB x ∧ x.length ≤ 1048576 ∧ (frB x).length = n := by
 obtain ⟨k,u,e,hc⟩ : ∃ k u e,zaD s 1048576 = (k,u,e) := ⟨_,_,_,rfl⟩
 unfold frG at h
 rw [hc] at h
 simp only at h
 split at h
 ·rename_i h1
  simp only [Prod.mk.injEq] at h
  exact absurd h.2.2 h1
 ·rename_i h1
  have : e = 0 := by simpa using h1
  subst this
  obtain ⟨g1,g2,g3,g4,g5,g6⟩ := zcQ hc
  obtain ⟨k,rfl⟩ := Int.eq_ofNat_of_zero_le g1
  simp only [zfv] at h
  split at h
  ·simp at h
  ·rename_i h2
   split at h
   ·rename_i h3
    simp only [Prod.mk.injEq,and_true] at h
    obtain ⟨rfl,rfl⟩ := h
    refine ⟨by omega,h3,by rw [zfh]; omega,?_⟩
    rw [← h3,zfh]
    omega
   ·simp at h
end Go.Av.Fn
/- Entries and logs got, az the program does. Conditions: az ahead. -/
namespace Go.Av
section
variable {P : Program} {Γ : Glob} {H : Nat → List (Nat × List Nat) × List Nat} {f : FuncId} {F : AFn} {gs : List Nat} {m : Store}
theorem acalls_cn (hm : P.follows .mixedOrders = true) (hF : zan P H f = some F) (hok : F.body.okH gs = true) (hG : GOk Γ gs) {rb o : Nat} {az : List V} {X : Blk} (hb : m rb = some X) (hX : nbB 0 X) (ha : nbs 0 az) {Q : V → Blk → Prop}
  (h : hawp P Γ (fun _ _ => False) 1 F.body (bodyH F.res fun v h' => nb 0 (wN v) ∧ ∃ Y,lk h' 0 = some Y ∧ nbB 0 Y ∧ Q (wN v) Y) ⟨start F.ntmps (.ptr 0 o :: az),[some X]⟩) :
  zab P Γ f (.ptr rb o :: az) m fun o m' => ∃ v Y,o = .ret v ∧ m' = m.set rb Y ∧ Q v Y := by
 have h1 := zeN (P := P) (Γ := Γ) (R0 := fun a c => a = 0 ∧ c = rb) (N := 1) (m := one rb X) hm hF hok hG (args0 := .ptr 0 o :: az) (args := .ptr rb o :: az) (.cons (.ptr o ⟨rfl,rfl⟩) (ha.up _)) (hh_one hX) (fun _ _ q => by omega) (Q := fun o h' => match o with | .ret v => nb 0 (wN v) ∧ ∃ Y,lk h' 0 = some Y ∧ nbB 0 Y ∧ Q (wN v) Y | .pan _ => False) h
 have h2 := h1.frame (one_disj rb X (m := m))
 rw [one_del hb] at h2
 refine zab.wnd (R := fun o m' => ∃ v Y,o = .ret v ∧ m' = m.set rb Y ∧ Q (wN v) Y) (zab.less h2 ?_) ?_ ?_
 ·rintro o m'' ⟨m',rfl,d,S,o0,h',s1,s2,s3,s4⟩
  cases o0 with
  | pan v => exact s4.elim
  | ret v =>
   cases o with
   | pan v' => exact s3.elim
   | ret v' =>
    obtain ⟨q1,Y,q2,q3,q4⟩ := s4
    obtain ⟨Y',g1,g2⟩ := s2.blk _ _ _ (s1 _ _ ⟨rfl,rfl⟩) q2
    obtain rfl := nbB_eq q3 g2
    have e3 : wN v' = wN v := nb_eq q1 (VR.wN s3)
    refine ⟨m.set rb Y',?_,v',Y',rfl,rfl,by rw [e3]; exact q4⟩
    intro b x hx
    by_cases e : b = rb
    ·subst e
     rw [Store.set_same] at hx
     cases hx
     simp only [Store.or,g1]
    ·rw [Store.set_ne _ _ e] at hx
     rcases d b with q | q
     ·simp only [Store.or,q,del,if_neg e]; exact hx
     ·simp only [del,if_neg e] at q
      rw [q] at hx
      cases hx
 ·rintro v m' ⟨v',Y,e,e2,q⟩
  cases e
  exact ⟨_,Y,rfl,e2,q⟩
 ·rintro v m' ⟨v',Y,e,_⟩
  cases e
end
end Go.Av
namespace Go.Av.Fn
set_option linter.unusedSimpArgs false
set_option linter.unusedVariables false
set_option maxRecDepth 10000
open Go.Proofs
def getE (s : List UInt8) (a : Nat) (e : Int) : Ent × Nat × Int :=
 let c := rInt s a e
 let q := rInt s c.2.1 c.2.2
 let k := rInt s q.2.1 q.2.2
 let n := rInt s k.2.1 k.2.2
 let t := zcl s n.2.1 n.2.2 255
 let d := getC s t.2.1 t.2.2
 (if d.2.2 ≠ 0 then e0 else ⟨c.1,q.1,k.1,n.1,t.1,d.1.1,d.1.2.1,d.1.2.2⟩,d.2.1,d.2.2)
theorem getE_le {s : List UInt8} {a : Nat} {e : Int} (ha : a ≤ s.length) : (getE s a e).2.1 ≤ s.length := by
 unfold getE
 exact getC_le (zeA (zaC (zaC (zaC (zaC ha)))))
section
variable {Γ : Glob} {m : Store} {rb a : Nat} {s : List UInt8} {e : Int}
set_option maxHeartbeats 1600000 in
theorem sGet_ok (L : LibOk Γ) (hr : m rb = some (rdB s a e)) (ha : a ≤ s.length) (hs : s.length ≤ 281474976710656) :
  zab Tryz.prog Γ 119 [.ptr rb 0] m fun o m' => o = .ret (entV (getE s a e).1) ∧ m' = m.set rb (rdB s (getE s a e).2.1 (getE s a e).2.2) := by
 unfold getE
 obtain ⟨c,a1,e1,h1⟩ : ∃ x y z,rInt s a e = (x,y,z) := ⟨_,_,_,rfl⟩
 have l1 := zaC (e := e) ha
 rw [h1] at l1
 obtain ⟨q,a2,e2,h2⟩ : ∃ x y z,rInt s a1 e1 = (x,y,z) := ⟨_,_,_,rfl⟩
 have l2 := zaC (e := e1) l1
 rw [h2] at l2
 obtain ⟨k,a3,e3,h3⟩ : ∃ x y z,rInt s a2 e2 = (x,y,z) := ⟨_,_,_,rfl⟩
 have l3 := zaC (e := e2) l2
 rw [h3] at l3
 obtain ⟨n,a4,e4,h4⟩ : ∃ x y z,rInt s a3 e3 = (x,y,z) := ⟨_,_,_,rfl⟩
 have l4 := zaC (e := e3) l3
 rw [h4] at l4
 obtain ⟨t,a5,e5,h5⟩ : ∃ x y z,zcl s a4 e4 255 = (x,y,z) := ⟨_,_,_,rfl⟩
 have l5 := zeA (most := 255) (e := e4) l4
 rw [h5] at l5
 obtain ⟨⟨dk,dn,dt⟩,a6,e6,h6⟩ : ∃ x y z,getC s a5 e5 = (x,y,z) := ⟨_,_,_,rfl⟩
 simp only at l1 l2 l3 l4 l5
 simp only [h1,h2,h3,h4,h5,h6]
 refine acalls_cv (acalls_c mixed F119_ok F119_h zaF hr zay (by first | exact LR.nil | simp only [nbS]) ?_)
 simp only [F119,ss0,zeW,zeQ]
 simp only [ssH,zeQ,zeO,reduceIte,zeP,zeU,zeS,zeT]
 refine zaH (b := 0) (X := rdB s a e) rfl rfl (fun m b' h => zco h ha (by omega)) zay zay (by first | exact LR.nil | simp only [nbS]) (by first | exact LR.nil | simp only [nbS]) ?_
 simp only [h1,ssH,zeQ,zeO,reduceIte,zeP,zeU,zeS,zeT]
 refine zaH (b := 0) (X := rdB s a1 e1) rfl rfl (fun m b' h => zco h l1 (by omega)) zay zay (by first | exact LR.nil | simp only [nbS]) (by first | exact LR.nil | simp only [nbS]) ?_
 simp only [h2,ssH,zeQ,zeO,reduceIte,zeP,zeU,zeS,zeT]
 refine zaH (b := 0) (X := rdB s a2 e2) rfl rfl (fun m b' h => zco h l2 (by omega)) zay zay (by first | exact LR.nil | simp only [nbS]) (by first | exact LR.nil | simp only [nbS]) ?_
 simp only [h3,ssH,zeQ,zeO,reduceIte,zeP,zeU,zeS,zeT]
 refine zaH (b := 0) (X := rdB s a3 e3) rfl rfl (fun m b' h => zco h l3 (by omega)) zay zay (by first | exact LR.nil | simp only [nbS]) (by first | exact LR.nil | simp only [nbS]) ?_
 simp only [h4,ssH,zeQ,zeO,reduceIte,zeP,zeU,zeS,zeT]
 refine zaH (b := 0) (az := [it 255]) (X := rdB s a4 e4) rfl rfl (fun m b' h => wText_ok L 255 h l4 hs) zay zay (by first | exact LR.nil | simp only [nbS]) (by first | exact LR.nil | simp only [nbS]) ?_
 simp only [h5,ssH,zeQ,zeO,reduceIte,zeP,zeU,zeS,zeT]
 refine zaH (b := 0) (X := rdB s a5 e5) rfl rfl (fun m b' h => get_ok L h l5 hs) zay zay (by first | exact LR.nil | simp only [nbS]) (nb_cmdT _) ?_
 simp only [h6,cmdT,cmdV,zaj,ssH,zeQ,zeO,reduceIte,zeP,zeU,zeS,zeT]
 refine zbo (b := 0) rfl rfl (fun m b' h => zdS h) zay (by first | exact LR.nil | simp only [nbS]) (by first | exact LR.nil | simp only [nbS]) ?_
 cases he : (e6 != 0)
 ·have h0 : e6 = 0 := by simpa using he
  subst h0
  simp only [he,zaj,ssH,zeQ,zeO,reduceIte,zeP,zeU,zeS,zeT]
  exact zaa (v := entV ⟨c,q,k,n,t,dk,dn,dt⟩) rfl ⟨zct _,_,rfl,zay,by simp,rfl⟩
 ·have h0 : e6 ≠ 0 := by simpa using he
  simp only [he,zaj,ssH,zeQ,zeO,reduceIte,zeP,zeU,zeS,zeT]
  exact zaa (v := entV e0) rfl ⟨zct _,_,rfl,zay,by rw [if_pos h0],rfl⟩
def zdW : Nat → List UInt8 → Nat → Int → List Ent × Nat × Int
 | 0,_,a,e => ([],a,e)
 | n + 1,s,a,e => if e = 0 then ((getE s a e).1 :: (zdW n s (getE s a e).2.1 (getE s a e).2.2).1,(zdW n s (getE s a e).2.1 (getE s a e).2.2).2) else ([],a,e)
theorem getEs_bad {n : Nat} {s : List UInt8} {a : Nat} {e : Int} (h : e ≠ 0) : zdW n s a e = ([],a,e) := by
 cases n with
 | zero => rfl
 | succ n => rw [zdW,if_neg h]
def getL (s : List UInt8) (a : Nat) (e : Int) : Lg × Nat × Int :=
 let b := rInt s a e
 let c := zcl s b.2.1 b.2.2 65536
 let n := zcb s c.2.1 c.2.2 1048576
 let r := zdW n.1.toNat s n.2.1 n.2.2
 (if r.2.2 ≠ 0 then lg0 else ⟨b.1,c.1,r.1⟩,r.2.1,r.2.2)
theorem rCount_rng {s : List UInt8} {a : Nat} {e : Int} : 0 ≤ (zcb s a e 1048576).1 ∧ (zcb s a e 1048576).1 ≤ 1048576 := by
 have hc : (zaD (s.drop a) 1048576).1 ≤ 1048576 := by
  unfold zaD
  (repeat' split) <;> simp <;> omega
 have := (countL_le (s.drop a) 1048576).2.1
 unfold zcb
 (repeat' split) <;> simp <;> omega
def Bo (out : List Ent) (tok : Tok) (r : Hl) : Prop := tok = .full ∧ out = [] ∧ r = [] ∨ ∃ k,tok = .tip 3 k ∧ out ≠ [] ∧ r = [some (.tip 42 k)]
theorem bo_app {Kp : V → Hl → Prop} {s : List (Tmp × Option (Tmp × Bool) × AOp)} {l : List Item} {K : HS → Prop} {t : List V} {d : Option Tmp} {X0 X1 X2 : Option Blk} {out : List Ent} {tok : Tok} {r : Hl} {e : Ent} (h : Bo out tok r) (hb : out.length ≤ 1500000)
  (hr : ∀ k,hth Tryz.prog Γ Kp s l K (hput t [X0,X1,X2,some (.tip 42 k)] d (some (.sl ((out ++ [e]).map entV) [] (.tip 3 k))))) : happS Tryz.prog Γ Kp 42 80 8 (.sl (out.map entV) [] tok) (.sl [entV e] [] .full) d s l K t (X0 :: X1 :: X2 :: r) := by
 have he : elemsB 8 [entV e] = true := rfl
 rw [List.map_append] at hr
 rcases h with ⟨rfl,rfl,rfl⟩ | ⟨k,rfl,h0,rfl⟩
 ·exact happ_full (ys := [entV e]) rfl (by simp) (by simp) rfl he (by simp) (hr 0)
 ·exact happ_tip (j := 3) (k := k) (x := .sl [entV e] [] .full) (ys := [entV e]) rfl (by simp) (by simpa using h0) rfl (szOk_ents out) he (by simp; omega) (hr (k + 1))
theorem bo_wN {out : List Ent} {tok : Tok} {r : Hl} (h : Bo out tok r) : wN (.sl (out.map entV) [] tok) = entsN out := by
 rcases h with ⟨rfl,rfl,rfl⟩ | ⟨k,rfl,h0,rfl⟩
 ·rfl
 ·rw [wN_some (.inl h0),entsN]
  cases out with
  | nil => exact absurd rfl h0
  | cons e l => rfl
theorem bo_nb {out : List Ent} {tok : Tok} {r : Hl} (h : Bo out tok r) : nb (3 + r.length) (.sl (out.map entV) [] tok) := by
 rcases h with ⟨rfl,rfl,rfl⟩ | ⟨k,rfl,_,rfl⟩
 ·simp only [List.map_nil,nbS]
 ·have := nbs_map (k := 4) zct out
  simp only [zeV,ze0,this,nbS]
  decide
theorem bo_len {out : List Ent} {tok : Tok} {r : Hl} (h : Bo out tok r) : r.length ≤ 1 := by
 rcases h with ⟨rfl,rfl,rfl⟩ | ⟨k,rfl,_,rfl⟩ <;> simp
def lgZ : Blk := .var 26 [it 0,bs [],.sl [] [] .full]
def lgT (b : Int) (c : List UInt8) (out : List Ent) (tok : Tok) : Blk := .var 26 [it b,bs c,.sl (out.map entV) [] tok]
theorem bo_blk {b : Int} {c : List UInt8} {out : List Ent} {tok : Tok} {r : Hl} (h : Bo out tok r) : ∀ i < 3 + r.length,∀ x,lk (some (rdB s a e) :: some lgZ :: some (lgT b c out tok) :: r) i = some x → nbB (3 + r.length) x := by
 intro i hi x hx
 have hv := bo_nb h
 have : i = 0 ∨ i = 1 ∨ i = 2 ∨ i = 3 := by have := bo_len h; omega
 rcases this with rfl | rfl | rfl | rfl
 ·cases hx; exact zay
 ·cases hx; simp only [lgZ,nbS]
 ·cases hx; simp only [lgT,hv,nbS]
 ·rcases h with ⟨rfl,rfl,rfl⟩ | ⟨k,rfl,_,rfl⟩
  ·cases hx
  ·cases hx; simp only [nbS]
set_option maxHeartbeats 1600000 in
theorem oGet_ok (L : LibOk Γ) (hr : m rb = some (rdB s a e)) (ha : a ≤ s.length) (hs : s.length ≤ 281474976710656) :
  zab Tryz.prog Γ 89 [.ptr rb 0] m fun o m' => o = .ret (lgN (getL s a e).1) ∧ m' = m.set rb (rdB s (getL s a e).2.1 (getL s a e).2.2) := by
 unfold getL
 obtain ⟨b,a1,e1,h1⟩ : ∃ x y z,rInt s a e = (x,y,z) := ⟨_,_,_,rfl⟩
 have l1 := zaC (e := e) ha
 rw [h1] at l1
 obtain ⟨c,a2,e2,h2⟩ : ∃ x y z,zcl s a1 e1 65536 = (x,y,z) := ⟨_,_,_,rfl⟩
 have l2 := zeA (most := 65536) (e := e1) l1
 rw [h2] at l2
 have hcr := rCount_rng (s := s) (a := a2) (e := e2)
 obtain ⟨n0,a3,e3,h3⟩ : ∃ x y z,zcb s a2 e2 1048576 = (x,y,z) := ⟨_,_,_,rfl⟩
 have l3 := rCount_le (most := 1048576) (e := e2) l2
 rw [h3] at l3 hcr
 simp only at l1 l2 l3 hcr
 obtain ⟨n1,rfl⟩ := Int.eq_ofNat_of_zero_le hcr.1
 simp only [h1,h2,h3,zfv]
 have hn1 : n1 ≤ 1048576 := by omega
 refine acalls_cv (acalls_cn mixed F89_ok F89_h zaF hr zay (by first | exact LR.nil | simp only [nbS]) ?_)
 simp only [F89,ss0,zeW,zeQ]
 simp only [ssH,zeQ,zeO,reduceIte,zeP,zeU,zeS,zeT]
 refine zaH (b := 0) (X := rdB s a e) rfl rfl (fun m b' h => zco h ha (by omega)) zay zay (by first | exact LR.nil | simp only [nbS]) (by first | exact LR.nil | simp only [nbS]) ?_
 simp only [h1,ssH,zeQ,zeO,reduceIte,zeP,zeU,zeS,zeT]
 refine zaH (b := 0) (az := [it 65536]) (X := rdB s a1 e1) rfl rfl (fun m b' h => wText_ok L 65536 h l1 hs) zay zay (by first | exact LR.nil | simp only [nbS]) (by first | exact LR.nil | simp only [nbS]) ?_
 simp only [h2,zaj,ssH,zeQ,zeO,reduceIte,zeP,zeU,zeS,zeT]
 refine zaH (b := 0) (az := [it 1048576]) (X := rdB s a2 e2) rfl rfl (fun m b' h => wCount_ok 1048576 h l2 hs) zay zay (by first | exact LR.nil | simp only [nbS]) (by first | exact LR.nil | simp only [nbS]) ?_
 simp only [h3,ssH,zeQ,zeO,reduceIte,zeP,zeU,zeS,zeT]
 generalize hQ : zc8 0 _ = Q
 have tail : ∀ {t' : List V} {a : Nat} {e : Int} {out : List Ent} {tok : Tok} {r : Hl},t'.length = 33 → tget t' 0 = .ptr 0 0 → tget t' 2 = .ptr 1 0 → tget t' 3 = .ptr 2 0 → Bo out tok r → zdW n1 s a3 e3 = (out,a,e) →
   Q (.exit 0) ⟨t',some (rdB s a e) :: some lgZ :: some (lgT b c out tok) :: r⟩ := by
  intro t' a e out tok r hlt q0 q2 q3 hB hg
  rw [← hQ,t_eq hlt]
  simp only [zaE,upTo,q0,q2,q3,hg,lgZ,lgT,ssH,zeQ,zeO,reduceIte,zeP,zeU,zeS,zeT]
  refine zbo (b := 0) (X := rdB s a e) rfl rfl (fun m b' h => zdS h) zay (by first | exact LR.nil | simp only [nbS]) (by first | exact LR.nil | simp only [nbS]) ?_
  cases he : (e != 0)
  ·have h0 : e = 0 := by simpa using he
   subst h0
   have hw : wN (.agg [it b,bs c,.sl (out.map entV) [] tok]) = lgN ⟨b,c,out⟩ := by
    have := bo_wN hB
    simp only [wN,wNs] at this ⊢
    rw [this]
    rfl
   simp only [he,zaj,ssH,zeQ,zeO,reduceIte,zeP,zeU,zeS,zeT]
   exact zaa (v := .agg [it b,bs c,.sl (out.map entV) [] tok]) rfl ⟨by rw [hw]; exact nb_lgN,_,rfl,zay,by rw [hw,if_neg (by simp)],rfl⟩
  ·have h0 : e ≠ 0 := by simpa using he
   simp only [he,zaj,ssH,zeQ,zeO,reduceIte,zeP,zeU,zeS,zeT]
   exact zaa (v := .agg [it 0,bs [],.sl [] [] .full]) rfl ⟨nb_lgN (x := lg0),_,rfl,zay,by rw [if_pos h0]; rfl,rfl⟩
 refine h_loop [0,2,3,4] 33 (fun n vs h => ∃ (j a : Nat) (e : Int) (out : List Ent) (tok : Tok) (r : Hl),vs = [.ptr 0 0,.ptr 1 0,.ptr 2 0,it j] ∧ h = some (rdB s a e) :: some lgZ :: some (lgT b c out tok) :: r ∧ Bo out tok r ∧ a ≤ s.length ∧ n = j + 1 ∧ j + out.length ≤ n1 ∧ zdW n1 s a3 e3 = (out ++ (zdW j s a e).1,(zdW j s a e).2)) (n1 + 1) (by decide) (by decide) (zfe 3) (zaQ rfl (by decide) (by decide) (by simp) ?_ ?_ ⟨n1,a3,e3,[],.full,[],rfl,rfl,.inl ⟨rfl,rfl,rfl⟩,l3,rfl,by simp,rfl⟩) ?_
 ·show nbs 3 [.ptr 0 0,.ptr 1 0,.ptr 2 0,it n1]
  simp only [nbS]
  decide
 ·exact bo_blk (r := []) (.inl ⟨rfl,rfl,rfl⟩)
 rintro n t h J hJ hlt ⟨j,a,e,out,tok,r,hv,rfl,hB,hle,hn,hjo,hg⟩
 simp only [zfG,List.cons.injEq,and_true] at hv
 obtain ⟨g0,g2,g3,g4⟩ := hv
 rw [t_eq hlt]
 simp only [zaE,upTo,g0,g2,g3,g4,gt_iff_lt,ssH,zeQ,zeO,reduceIte,zeP,zeU,zeS,zeT]
 by_cases hj : 0 < j
 ·simp only [show decide ((0 : Int) < (j : Int)) = true from decide_eq_true (by omega),ssH,zeQ,zeO,reduceIte,zeP,zeU,zeS,zeT]
  refine zbo (b := 0) (X := rdB s a e) rfl rfl (fun m b' h => zdS h) zay (by first | exact LR.nil | simp only [nbS]) (by first | exact LR.nil | simp only [nbS]) ?_
  cases he : (e == 0)
  ·have h0 : e ≠ 0 := by simpa using he
   rw [getEs_bad h0] at hg
   simp only [he,ssH,zeQ,zeO,reduceIte,zeP,zeU,zeS,zeT]
   exact tail rfl rfl rfl rfl hB (by rw [hg,ze9])
  ·have h0 : e = 0 := by simpa using he
   subst h0
   obtain ⟨j,rfl⟩ : ∃ i,j = i + 1 := ⟨j - 1,by omega⟩
   have l4 := getE_le (e := 0) hle
   obtain ⟨x,a4,e4,h4⟩ : ∃ x y z,getE s a 0 = (x,y,z) := ⟨_,_,_,rfl⟩
   rw [zdW,if_pos rfl,h4] at hg
   rw [h4] at l4
   have hw : IntKind.i64.wrap (((j + 1 : Nat) : Int) - 1) = (j : Int) := by rw [wrap_i64 (by omega) (by omega)]; omega
   simp only [he,lgT,ssH,zeQ,zeO,reduceIte,zeP,zeU,zeS,zeT]
   refine zaH (b := 0) (X := rdB s a 0) rfl rfl (fun m b' h => sGet_ok L h hle hs) zay zay (by first | exact LR.nil | simp only [nbS]) (zct _) ?_
   simp only [h4,entV,litE_eq,litE_ent,ssH,zeQ,zeO,reduceIte,zeP,zeU,zeS,zeT]
   refine bo_app hB (by omega) fun k => ?_
   simp only [zbh,zbW,hw,ssH,zeQ,zeO,reduceIte,zeP,zeU,zeS,zeT]
   have hB2 : Bo (out ++ [x]) (.tip 3 k) [some (.tip 42 k)] := .inr ⟨k,rfl,by simp,rfl⟩
   refine ⟨_,hJ (j + 1) (zfe 4) _ (by omega) (zaQ rfl (by decide) (by decide) (by simp) ?_ (bo_blk hB2 (s := s) (a := a4) (e := e4) (b := b) (c := c)) ⟨j,a4,e4,out ++ [x],.tip 3 k,_,rfl,rfl,hB2,l4,rfl,by simp; omega,by rw [hg]; simp⟩)⟩
   show nbs 4 [.ptr 0 0,.ptr 1 0,.ptr 2 0,it j]
   simp only [nbS]
   decide
 ·have hj0 : j = 0 := by omega
  subst hj0
  simp only [show decide ((0 : Int) < ((0 : Nat) : Int)) = false from rfl,ssH,zeQ,zeO,reduceIte,zeP,zeU,zeS,zeT]
  rw [zdW] at hg
  exact tail rfl rfl rfl rfl hB (by rw [hg,ze9])
end
theorem gI {s p r : List UInt8} {n : Int} (hn : Av.I64 n) (h : s = p ++ (uz n ++ r)) : rInt s p.length 0 = (n,(p ++ uz n).length,0) ∧ s = (p ++ uz n) ++ r := by
 refine ⟨?_,by rw [h,ze3]⟩
 rw [h,zeY]
 exact rInt_put hn p r
theorem gT {s p r x : List UInt8} (most : Nat) (hx : x.length ≤ most) (hm : most < 9223372036854775808) (h : s = p ++ (uz x.length ++ (x ++ r))) : zcl s p.length 0 most = (x,(p ++ uz x.length ++ x).length,0) ∧ s = (p ++ uz x.length ++ x) ++ r := by
 refine ⟨?_,by rw [h]; simp only [ze3]⟩
 have := rText_put (s := x) (by omega) p r most
 rw [if_neg (by omega)] at this
 rw [h,show (p ++ uz x.length ++ x).length = p.length + ((uz x.length).length + x.length) by simp only [zeY]; omega]
 exact this
theorem gN {s p r : List UInt8} {n : Nat} (hn : n ≤ 1048576) (h : s = p ++ (uz n ++ r)) : zcb s p.length 0 1048576 = ((n : Int),(p ++ uz n).length,0) ∧ s = (p ++ uz n) ++ r := by
 refine ⟨?_,by rw [h,ze3]⟩
 have hi : Av.I64 (n : Int) := ⟨by omega,by omega⟩
 have := countL_put hi r 1048576 (by decide)
 rw [if_neg (by omega)] at this
 have e : s.drop p.length = Lib.uvarint (Lib.zigzag n) ++ r := by rw [h,drop_mid]; rfl
 unfold zcb
 simp only [e,this]
 simp [uz]
theorem gC {s p r x : List UInt8} {k n : Int} (hk : Av.I64 k) (hn : Av.I64 n) (hx : x.length ≤ 255) (h : s = p ++ (putC k n x ++ r)) : getC s p.length 0 = ((k,n,x),(p ++ putC k n x).length,0) ∧ s = (p ++ putC k n x) ++ r := by
 refine ⟨?_,by rw [h,ze3]⟩
 rw [h,zeY]
 exact getC_put hk hn hx p r
theorem gE {s p r : List UInt8} {e : Ent} (he : EntS e) (h : s = p ++ (putE e ++ r)) : getE s p.length 0 = (e,(p ++ putE e).length,0) ∧ s = (p ++ putE e) ++ r := by
 refine ⟨?_,by rw [h,ze3]⟩
 obtain ⟨⟨h1,h2,h3,h4,h5,h6⟩,hs,hc⟩ := he
 have e0 : s = p ++ (uz e.c ++ (uz e.q ++ (uz e.k ++ (uz e.n ++ (uz e.s.length ++ (e.s ++ (putC e.ck e.cn e.cs ++ r))))))) := by
  rw [h]
  simp only [putE,zb2,ze3,ze9]
 obtain ⟨a1,b1⟩ := gI h1 e0
 obtain ⟨a2,b2⟩ := gI h2 b1
 obtain ⟨a3,b3⟩ := gI h3 b2
 obtain ⟨a4,b4⟩ := gI h4 b3
 obtain ⟨a5,b5⟩ := gT 255 hs (by decide) b4
 obtain ⟨a6,b6⟩ := gC h5 h6 hc b5
 unfold getE
 simp only [a1,a2,a3,a4,show zcl s (p ++ uz e.c ++ uz e.q ++ uz e.k ++ uz e.n).length 0 255 = _ from a5,a6]
 refine Prod.ext (by simp) (Prod.ext ?_ rfl)
 simp only [putE,zb2,zeY,ze0]
 omega
theorem gEs : ∀ {l : List Ent} {s p r : List UInt8},(∀ e ∈ l,EntS e) → s = p ++ (zb9 l ++ r) → zdW l.length s p.length 0 = (l,(p ++ zb9 l).length,0) ∧ s = (p ++ zb9 l) ++ r
 | [],s,p,r,_,h => ⟨by simp [zdW,zb9],by rw [h]; simp [zb9]⟩
 | e :: l,s,p,r,he,h => by
  refine ⟨?_,by rw [h,ze3]⟩
  obtain ⟨a1,b1⟩ := gE (he e (zfa ..)) (h.trans (by rw [zb9,ze3]) : s = p ++ (putE e ++ (zb9 l ++ r)))
  obtain ⟨a2,b2⟩ := gEs (fun x hx => he x (zfb _ hx)) b1
  rw [zeV,zdW,if_pos rfl,a1]
  simp only
  rw [a2]
  simp only [zb9,ze3]
theorem gL {s p r : List UInt8} {x : Lg} (hx : LogS x) (h : s = p ++ (putL x ++ r)) : getL s p.length 0 = (x,(p ++ putL x).length,0) := by
 obtain ⟨h1,h2,h3,h4⟩ := hx
 have e0 : s = p ++ (uz x.b ++ (uz x.c.length ++ (x.c ++ (uz x.l.length ++ (zb9 x.l ++ r))))) := by
  rw [h]
  simp only [putL,ze3]
 obtain ⟨a1,b1⟩ := gI h1 e0
 obtain ⟨a2,b2⟩ := gT 65536 h2 (by decide) b1
 obtain ⟨a3,b3⟩ := gN (by omega) b2
 obtain ⟨a4,b4⟩ := gEs h4 b3
 unfold getL
 simp only [a1,show zcl s (p ++ uz x.b).length 0 65536 = _ from a2,a3,zfv,a4]
 refine Prod.ext (by simp) (Prod.ext ?_ rfl)
 simp only [putL,zeY]
 omega
theorem entB_len {e : Ent} (h : entB e = true) : e.s.length ≤ 255 ∧ e.cs.length ≤ 255 := by
 unfold entB at h
 rw [ze1] at h
 have hno : ∀ e : Ent,noCmd e = true → e.cs.length ≤ 255 := by
  intro e h
  simp only [noCmd,decide_eq_true_eq] at h
  rw [h.2.2]
  decide
 have hs0 : ∀ s : List UInt8,(s == []) = true → s.length ≤ 255 := by
  intro s h
  have : s = [] := by simpa using h
  rw [this]
  decide
 have h2 := h.2
 split at h2
 ·simp only [ze1] at h2
  exact ⟨by have := h2.1.1; unfold nameB at this; simp only [ze1,decide_eq_true_eq] at this; omega,hno e h2.2⟩
 ·split at h2
  ·simp only [ze1] at h2
   exact ⟨hs0 _ h2.1.1,hno e h2.2⟩
  ·split at h2
   ·simp only [ze1] at h2
    exact ⟨hs0 _ h2.1.1,hno e h2.2⟩
   ·split at h2
    ·simp only [ze1] at h2
     exact ⟨hs0 _ h2.1.1,(right_len h2.2).1⟩
    ·exact absurd h2 (by decide)
theorem logS_of {x : Lg} (h : lgB x = true) (hb : Av.I64 x.b) (he : ∀ e ∈ x.l,EntN e) : LogS x := by
 simp only [lgB,ze1,decide_eq_true_eq] at h
 refine ⟨hb,by omega,by omega,fun e hx => ⟨he e hx,?_⟩⟩
 exact entB_len (List.all_eq_true.1 h.2 e hx)
structure Rpl where
 e : Int
 n : Int
 s : List UInt8
 deriving DecidableEq
structure Mg where
 k : Int
 f : Int
 t : Int
 v : Int
 nr : Int
 op : Int
 cm : Int
 sq : Int
 e : Ent
 l : Lg
 r : Rpl
def r0 : Rpl := ⟨0,0,[]⟩
def mg0 : Mg := ⟨0,0,0,0,0,0,0,0,e0,lg0,r0⟩
def kE (k : Int) : Bool := k == 1 || k == 2
def kL (k : Int) : Bool := k == 6 || k == 7 || k == 9
def kR (k : Int) : Bool := k == 10
def kV (k : Int) : Bool := decide (2 ≤ k) && decide (k ≤ 10)
def kN (k : Int) : Bool := k == 6
def kO (k : Int) : Bool := k == 2 || k == 3 || k == 8
def kC (k : Int) : Bool := k == 2 || k == 4 || k == 6 || k == 7 || k == 9
def kS (k : Int) : Bool := k == 10
def kK (k : Int) : Bool := decide (1 ≤ k) && decide (k ≤ 10)
def fldB (b : Bool) (n least : Int) : Bool := !b && n == 0 || b && decide (least ≤ n) && decide (n ≤ 2147483647)
def nodeB (a : Int) : Bool := decide (0 ≤ a) && decide (a < 15)
def cliB (a : Int) : Bool := decide (a < 0) && decide (-2147483647 ≤ a)
def endsB (m : Mg) : Bool := if m.k = 1 then cliB m.f && nodeB m.t && m.e.c == -m.f else if m.k = 10 then nodeB m.f && cliB m.t else nodeB m.f && nodeB m.t && !(m.f == m.t)
def repB (r : Rpl) : Bool := decide (0 ≤ r.e) && decide (r.e ≤ 18) && decide (0 ≤ r.n) && decide (r.s.length ≤ 200)
def partsB (m : Mg) : Bool := (if kE m.k then entB m.e else decide (m.e = e0)) && lgB m.l && (kL m.k || decide (m.l.b ≤ 0) && m.l.l.isEmpty) && (if kR m.k then repB m.r else decide (m.r = r0))
def msgB (m : Mg) : Bool := kK m.k && fldB (kV m.k) m.v 0 && fldB (kN m.k) m.nr 0 && decide (m.nr ≤ m.v) && fldB (kO m.k) m.op (if m.k = 2 then 1 else 0) && fldB (kC m.k) m.cm 0 && fldB (kS m.k) m.sq 1 && endsB m && partsB m
def oB (b : Bool) (l : List UInt8) : List UInt8 := if b then l else []
def putR (r : Rpl) : List UInt8 := uz r.e ++ uz r.n ++ (uz r.s.length ++ r.s)
def payB (m : Mg) : List UInt8 :=
 uz m.k ++ uz m.f ++ uz m.t ++ oB (kV m.k) (uz m.v) ++ oB (kN m.k) (uz m.nr) ++ oB (kO m.k) (uz m.op) ++ oB (kC m.k) (uz m.cm) ++ oB (kS m.k) (uz m.sq) ++ oB (kE m.k) (putE m.e) ++ oB (kL m.k) (putL m.l) ++ oB (kR m.k) (putR m.r)
/-! ### Reading -/
def oI (b : Bool) (s : List UInt8) (x : Nat × Int) : Int × Nat × Int := if b then rInt s x.1 x.2 else (0,x)
def oE (b : Bool) (s : List UInt8) (x : Nat × Int) : Ent × Nat × Int := if b then getE s x.1 x.2 else (e0,x)
def oL (b : Bool) (s : List UInt8) (x : Nat × Int) : Lg × Nat × Int := if b then getL s x.1 x.2 else (lg0,x)
def getR (s : List UInt8) (x : Nat × Int) : Rpl × Nat × Int :=
 let a := rInt s x.1 x.2
 let n := rInt s a.2.1 a.2.2
 let t := zcl s n.2.1 n.2.2 255
 (⟨a.1,n.1,t.1⟩,t.2)
def oR (b : Bool) (s : List UInt8) (x : Nat × Int) : Rpl × Nat × Int := if b then getR s x else (r0,x)
def getM (s : List UInt8) : Mg × Nat × Int :=
 let k := rInt s 0 0
 let f := rInt s k.2.1 k.2.2
 let t := rInt s f.2.1 f.2.2
 let v := oI (kV k.1) s t.2
 let nr := oI (kN k.1) s v.2
 let op := oI (kO k.1) s nr.2
 let cm := oI (kC k.1) s op.2
 let sq := oI (kS k.1) s cm.2
 let e := oE (kE k.1) s sq.2
 let l := oL (kL k.1) s e.2
 let r := oR (kR k.1) s l.2
 (⟨k.1,f.1,t.1,v.1,nr.1,op.1,cm.1,sq.1,e.1,l.1,r.1⟩,r.2)
def endS (s : List UInt8) (x : Nat × Int) : Int := if x.2 ≠ 0 then x.2 else if x.1 < s.length then 5 else 0
def msgS (s : List UInt8) : Mg × Int :=
 let k := rInt s 0 0
 let f := rInt s k.2.1 k.2.2
 let t := rInt s f.2.1 f.2.2
 if t.2.2 = 0 ∧ kK k.1 = false then (mg0,4) else if endS s (getM s).2 ≠ 0 then (mg0,endS s (getM s).2) else ((getM s).1,0)
def msgR (b : List UInt8) : Mg × Int :=
 if (frG b).2.2 ≠ 0 then (mg0,(frG b).2.2) else if (msgS (frG b).1).2 ≠ 0 then (mg0,(msgS (frG b).1).2)
 else if (frG b).2.1 < b.length then (mg0,5) else if msgB (msgS (frG b).1).1 = true then ((msgS (frG b).1).1,0) else (mg0,2)
/-! ### What is put is read -/
theorem gOI {b : Bool} {s p r : List UInt8} {n : Int} (hn : Av.I64 n) (hb : b = false → n = 0) (h : s = p ++ (oB b (uz n) ++ r)) : oI b s (p.length,0) = (n,(p ++ oB b (uz n)).length,0) ∧ s = (p ++ oB b (uz n)) ++ r := by
 cases b with
 | true => exact gI hn h
 | false => obtain rfl := hb rfl; exact ⟨by simp [oI,oB],by rw [h,ze3]⟩
theorem gOE {b : Bool} {s p r : List UInt8} {e : Ent} (hn : b = true → EntS e) (hb : b = false → e = e0) (h : s = p ++ (oB b (putE e) ++ r)) : oE b s (p.length,0) = (e,(p ++ oB b (putE e)).length,0) ∧ s = (p ++ oB b (putE e)) ++ r := by
 cases b with
 | true => exact gE (hn rfl) h
 | false => obtain rfl := hb rfl; exact ⟨by simp [oE,oB],by rw [h,ze3]⟩
theorem gOL {b : Bool} {s p r : List UInt8} {x : Lg} (hn : b = true → LogS x) (hb : b = false → x = lg0) (h : s = p ++ (oB b (putL x) ++ r)) : oL b s (p.length,0) = (x,(p ++ oB b (putL x)).length,0) ∧ s = (p ++ oB b (putL x)) ++ r := by
 cases b with
 | true => exact ⟨gL (hn rfl) h,by rw [h,ze3]⟩
 | false => obtain rfl := hb rfl; exact ⟨by simp [oL,oB],by rw [h,ze3]⟩
theorem gOR {b : Bool} {s p r : List UInt8} {x : Rpl} (hn : b = true → Av.I64 x.e ∧ Av.I64 x.n ∧ x.s.length ≤ 255) (hb : b = false → x = r0) (h : s = p ++ (oB b (putR x) ++ r)) : oR b s (p.length,0) = (x,(p ++ oB b (putR x)).length,0) ∧ s = (p ++ oB b (putR x)) ++ r := by
 cases b with
 | true =>
  refine ⟨?_,by rw [h,ze3]⟩
  obtain ⟨h1,h2,h3⟩ := hn rfl
  have e0 : s = p ++ (uz x.e ++ (uz x.n ++ (uz x.s.length ++ (x.s ++ r)))) := by
   rw [h]
   simp only [oB,putR,ze3,if_true]
  obtain ⟨a1,b1⟩ := gI h1 e0
  obtain ⟨a2,b2⟩ := gI h2 b1
  obtain ⟨a3,b3⟩ := gT 255 h3 (by decide) b2
  show getR s (p.length,0) = _
  unfold getR
  simp only [a1,a2,show zcl s (p ++ uz x.e ++ uz x.n).length 0 255 = _ from a3]
  refine Prod.ext rfl (Prod.ext ?_ rfl)
  simp only [oB,putR,zeY,if_true]
  omega
 | false => obtain rfl := hb rfl; exact ⟨by simp [oR,oB],by rw [h,ze3]⟩
theorem fldB_no {b : Bool} {n least : Int} (h : fldB b n least = true) (hb : b = false) : n = 0 := by
 subst hb
 simpa [fldB] using h
theorem zcI {b : Bool} {n least : Int} (h : fldB b n least = true) (hl : 0 ≤ least) : Av.I64 n := by
 unfold fldB at h
 unfold Av.I64
 cases b
 ·simp at h; omega
 ·simp at h; omega
def MgN (m : Mg) : Prop := Av.I64 m.k ∧ Av.I64 m.f ∧ Av.I64 m.t ∧ EntN m.e ∧ Av.I64 m.l.b ∧ (∀ e ∈ m.l.l,EntN e) ∧ Av.I64 m.r.n
theorem getM_put {m : Mg} (h : msgB m = true) (hN : MgN m) : getM (payB m) = (m,(payB m).length,0) ∧ kK m.k = true := by
 obtain ⟨i1,i2,i3,i4,i5,i6,i7⟩ := hN
 simp only [msgB,ze1] at h
 obtain ⟨⟨⟨⟨⟨⟨⟨⟨h1,h2⟩,h3⟩,h4⟩,h5⟩,h6⟩,h7⟩,h8⟩,h9⟩ := h
 refine ⟨?_,h1⟩
 simp only [partsB,ze1] at h9
 obtain ⟨⟨⟨p1,p2⟩,p3⟩,p4⟩ := h9
 have hE1 : kE m.k = true → EntS m.e := fun hk => by
  rw [if_pos hk] at p1
  exact ⟨i4,entB_len p1⟩
 have hE2 : kE m.k = false → m.e = e0 := fun hk => by
  rw [if_neg (by simp [hk])] at p1
  exact of_decide_eq_true p1
 have hL1 : kL m.k = true → LogS m.l := fun _ => logS_of p2 i5 i6
 have hL2 : kL m.k = false → m.l = lg0 := fun hk => by
  rw [hk,Bool.false_or,ze1,decide_eq_true_eq,List.isEmpty_iff] at p3
  simp only [lgB,ze1,decide_eq_true_eq,beq_iff_eq] at p2
  obtain ⟨_,_,_,_,_,_,_,_,_,⟨b,c,l⟩,_⟩ := m
  simp only at p2 p3 ⊢
  have hb : b = 0 := by omega
  subst hb
  have hc : (c == []) = true := by rw [p2.1.1.1.2]; rfl
  have hc : c = [] := by simpa using hc
  rw [hc,p3.2]
  rfl
 have hR1 : kR m.k = true → Av.I64 m.r.e ∧ Av.I64 m.r.n ∧ m.r.s.length ≤ 255 := fun hk => by
  rw [if_pos hk] at p4
  simp only [repB,ze1,decide_eq_true_eq] at p4
  exact ⟨⟨by omega,by omega⟩,i7,by omega⟩
 have hR2 : kR m.k = false → m.r = r0 := fun hk => by
  rw [if_neg (by simp [hk])] at p4
  exact of_decide_eq_true p4
 have q0 : payB m = [] ++ (uz m.k ++ (uz m.f ++ (uz m.t ++ (oB (kV m.k) (uz m.v) ++ (oB (kN m.k) (uz m.nr) ++ (oB (kO m.k) (uz m.op) ++ (oB (kC m.k) (uz m.cm) ++ (oB (kS m.k) (uz m.sq) ++ (oB (kE m.k) (putE m.e) ++ (oB (kL m.k) (putL m.l) ++ (oB (kR m.k) (putR m.r) ++ []))))))))))) := by
  simp only [payB,ze3,List.nil_append,ze9]
 obtain ⟨a1,b1⟩ := gI i1 q0
 obtain ⟨a2,b2⟩ := gI i2 b1
 obtain ⟨a3,b3⟩ := gI i3 b2
 obtain ⟨a4,b4⟩ := gOI (zcI h2 (by decide)) (fldB_no h2) b3
 obtain ⟨a5,b5⟩ := gOI (zcI h3 (by decide)) (fldB_no h3) b4
 obtain ⟨a6,b6⟩ := gOI (zcI h5 (by split <;> decide)) (fldB_no h5) b5
 obtain ⟨a7,b7⟩ := gOI (zcI h6 (by decide)) (fldB_no h6) b6
 obtain ⟨a8,b8⟩ := gOI (zcI h7 (by decide)) (fldB_no h7) b7
 obtain ⟨a9,b9⟩ := gOE hE1 hE2 b8
 obtain ⟨a10,b10⟩ := gOL hL1 hL2 b9
 obtain ⟨a11,b11⟩ := gOR hR1 hR2 b10
 unfold getM
 simp only [show rInt (payB m) 0 0 = _ from a1,a2,a3,a4,a5,a6,a7,a8,a9,a10,a11]
 rfl
theorem msgS_put {m : Mg} (h : msgB m = true) (hN : MgN m) : msgS (payB m) = (m,0) := by
 obtain ⟨h1,h2⟩ := getM_put h hN
 have hk : (getM (payB m)).1.k = (rInt (payB m) 0 0).1 := rfl
 rw [h1] at hk
 unfold msgS
 simp only [h1,← hk,h2,endS]
 rw [if_neg (by simp),if_neg (by simp)]
def msgC (nn : Bool) (m : Mg) : List V := [it m.k,it m.f,it m.t,it m.v,it m.nr,it m.op,it m.cm,it m.sq,it m.e.c,it m.e.q,it m.e.k,it m.e.n,bs m.e.s,it m.e.ck,it m.e.cn,bs m.e.cs,it m.l.b,bs m.l.c,zbC nn m.l.l,it m.r.e,it m.r.n,bs m.r.s]
def msgV (nn : Bool) (m : Mg) : V := .agg (msgC nn m)
def repV (r : Rpl) : V := .agg [it r.e,it r.n,bs r.s]
abbrev bo (b : Bool) : V := .val (.bool b)
def flC (k : Int) : List V := [bo (kV k),bo (kN k),bo (kO k),bo (kC k),bo (kS k),bo (kE k),bo (kL k),bo (kR k)]
theorem zcV (k : Nat) (nn : Bool) (m : Mg) : nbs k (msgC nn m) := by
 have := zaz (k := k) nn m.l.l
 simp only [msgC,this,nbS]
theorem nb_msgV (k : Nat) (nn : Bool) (m : Mg) : nb k (msgV nn m) := by simp only [msgV,zcV,nbS]
theorem nb_flC (k : Nat) (n : Int) : nbs k (flC n) := by simp only [flC,bo,nbS]
theorem nb_fl (n : Int) : nb 0 (.tup [.agg (flC n),bo (kK n)]) := by simp only [nb_flC,bo,nbS]
theorem ten (k : Int) : k = 1 ∨ k = 2 ∨ k = 3 ∨ k = 4 ∨ k = 5 ∨ k = 6 ∨ k = 7 ∨ k = 8 ∨ k = 9 ∨ k = 10 ∨ (k ≠ 1 ∧ k ≠ 2 ∧ k ≠ 3 ∧ k ≠ 4 ∧ k ≠ 5 ∧ k ≠ 6 ∧ k ≠ 7 ∧ k ≠ 8 ∧ k ≠ 9 ∧ k ≠ 10) := by omega
theorem flC_no {k : Int} (h : k ≠ 1 ∧ k ≠ 2 ∧ k ≠ 3 ∧ k ≠ 4 ∧ k ≠ 5 ∧ k ≠ 6 ∧ k ≠ 7 ∧ k ≠ 8 ∧ k ≠ 9 ∧ k ≠ 10) : kV k = false ∧ kN k = false ∧ kO k = false ∧ kC k = false ∧ kS k = false ∧ kE k = false ∧ kL k = false ∧ kR k = false ∧ kK k = false := by
 obtain ⟨n1,n2,n3,n4,n5,n6,n7,n8,n9,n10⟩ := h
 refine ⟨?_,?_,?_,?_,?_,?_,?_,?_,?_⟩
 ·simp only [kV,Bool.and_eq_false_iff,decide_eq_false_iff_not]; omega
 all_goals first | (simp only [kK,Bool.and_eq_false_iff,decide_eq_false_iff_not]; omega) | simp [kN,kO,kC,kS,kE,kL,kR,n1,n2,n3,n4,n5,n6,n7,n8,n9,n10]
section
variable {Γ : Glob} {m : Store}
theorem mNode_ok (a : Int) : zab Tryz.prog Γ 117 [it a] m fun o m' => o = .ret (bo (nodeB a)) ∧ m' = m := by
 refine zaG (zaL mixed F117_ok F117_h zaF (by first | exact LR.nil | simp only [nbS]) ?_)
 simp only [F117,ss0,zeW,zeQ]
 simp only [ge_iff_le,ssH,zeQ,zeO,reduceIte,zeP,zeU,zeS,zeT]
 cases h : decide (0 ≤ a) <;> simp only [h,ssH,zeQ,zeO,reduceIte,zeP,zeU,zeS,zeT] <;> exact zaa zah ⟨(by simp only [zac,zad,nbS]),by simp only [nodeB,h]; rfl⟩
theorem mClient_ok (a : Int) : zab Tryz.prog Γ 116 [it a] m fun o m' => o = .ret (bo (cliB a)) ∧ m' = m := by
 refine zaG (zaL mixed F116_ok F116_h zaF (by first | exact LR.nil | simp only [nbS]) ?_)
 simp only [F116,ss0,zeW,zeQ]
 simp only [ge_iff_le,ssH,zeQ,zeO,reduceIte,zeP,zeU,zeS,zeT]
 cases h : decide (a < 0) <;> simp only [h,ssH,zeQ,zeO,reduceIte,zeP,zeU,zeS,zeT] <;> exact zaa zah ⟨(by simp only [zac,zad,nbS]),by simp only [cliB,h]; rfl⟩
theorem zd9 (b : Bool) (n l : Int) : zab Tryz.prog Γ 68 [bo b,it n,it l] m fun o m' => o = .ret (bo (fldB b n l)) ∧ m' = m := by
 refine zaG (zaL mixed F68_ok F68_h zaF (by simp only [bo,nbS]) ?_)
 simp only [F68,bo,ss0,zeW,zeQ]
 cases b
 ·simp only [ze4,ssH,zeQ,zeO,reduceIte,zeP,zeU,zeS,zeT]
  cases h : n == 0 <;> simp only [h,ssH,zeQ,zeO,reduceIte,zeP,zeU,zeS,zeT] <;> exact zaa zah ⟨(by simp only [zac,zad,nbS]),by simp only [fldB,h]; rfl⟩
 ·simp only [ze5,ge_iff_le,ssH,zeQ,zeO,reduceIte,zeP,zeU,zeS,zeT]
  cases h : decide (l ≤ n) <;> simp only [h,ssH,zeQ,zeO,reduceIte,zeP,zeU,zeS,zeT] <;> exact zaa zah ⟨(by simp only [zac,zad,nbS]),by simp only [fldB,h]; rfl⟩
set_option maxHeartbeats 3200000 in
theorem mOf_ok (k : Int) : zab Tryz.prog Γ 60 [it k] m fun o m' => o = .ret (.tup [.agg (flC k),bo (kK k)]) ∧ m' = m := by
 refine zaG (zaL mixed F60_ok F60_h zaF (by first | exact LR.nil | simp only [nbS]) ?_)
 simp only [F60,ss0,zeW,zeQ]
 rcases ten k with rfl | rfl | rfl | rfl | rfl | rfl | rfl | rfl | rfl | rfl | ⟨n1,n2,n3,n4,n5,n6,n7,n8,n9,n10⟩
 case inr.inr.inr.inr.inr.inr.inr.inr.inr.inr =>
  have e : ∀ j : Int,k ≠ j → (k == j) = false := fun j h => beq_eq_false_iff_ne.2 h
  simp only [e 1 n1,e 2 n2,e 3 n3,e 4 n4,e 5 n5,e 6 n6,e 7 n7,e 8 n8,e 9 n9,e 10 n10,ssH,zeQ,zeO,reduceIte,zeP,zeU,zeS,zeT]
  obtain ⟨q1,q2,q3,q4,q5,q6,q7,q8,q9⟩ := flC_no ⟨n1,n2,n3,n4,n5,n6,n7,n8,n9,n10⟩
  refine zaa (v := .tup [.agg [bo false,bo false,bo false,bo false,bo false,bo false,bo false,bo false],bo false]) rfl ⟨by simp only [bo,nbS],?_⟩
  simp only [flC,q1,q2,q3,q4,q5,q6,q7,q8,q9]
 ·simp only [zaj,ssH,zeQ,zeO,reduceIte,zeP,zeU,zeS,zeT]
  exact zaa (v := .tup [.agg (flC 1),bo (kK 1)]) rfl ⟨nb_fl 1,rfl⟩
 ·simp only [zaj,ssH,zeQ,zeO,reduceIte,zeP,zeU,zeS,zeT]
  exact zaa (v := .tup [.agg (flC 2),bo (kK 2)]) rfl ⟨nb_fl 2,rfl⟩
 ·simp only [zaj,ssH,zeQ,zeO,reduceIte,zeP,zeU,zeS,zeT]
  exact zaa (v := .tup [.agg (flC 3),bo (kK 3)]) rfl ⟨nb_fl 3,rfl⟩
 ·simp only [zaj,ssH,zeQ,zeO,reduceIte,zeP,zeU,zeS,zeT]
  exact zaa (v := .tup [.agg (flC 4),bo (kK 4)]) rfl ⟨nb_fl 4,rfl⟩
 ·simp only [zaj,ssH,zeQ,zeO,reduceIte,zeP,zeU,zeS,zeT]
  exact zaa (v := .tup [.agg (flC 5),bo (kK 5)]) rfl ⟨nb_fl 5,rfl⟩
 ·simp only [zaj,ssH,zeQ,zeO,reduceIte,zeP,zeU,zeS,zeT]
  exact zaa (v := .tup [.agg (flC 6),bo (kK 6)]) rfl ⟨nb_fl 6,rfl⟩
 ·simp only [zaj,ssH,zeQ,zeO,reduceIte,zeP,zeU,zeS,zeT]
  exact zaa (v := .tup [.agg (flC 7),bo (kK 7)]) rfl ⟨nb_fl 7,rfl⟩
 ·simp only [zaj,ssH,zeQ,zeO,reduceIte,zeP,zeU,zeS,zeT]
  exact zaa (v := .tup [.agg (flC 8),bo (kK 8)]) rfl ⟨nb_fl 8,rfl⟩
 ·simp only [zaj,ssH,zeQ,zeO,reduceIte,zeP,zeU,zeS,zeT]
  exact zaa (v := .tup [.agg (flC 9),bo (kK 9)]) rfl ⟨nb_fl 9,rfl⟩
 ·simp only [zaj,ssH,zeQ,zeO,reduceIte,zeP,zeU,zeS,zeT]
  exact zaa (v := .tup [.agg (flC 10),bo (kK 10)]) rfl ⟨nb_fl 10,rfl⟩
end
section
variable {Γ : Glob} {m : Store}
/-! ### Addresses and parts -/
theorem mEnds_ok (nn : Bool) (x : Mg) : zab Tryz.prog Γ 69 [msgV nn x] m fun o m' => o = .ret (bo (endsB x)) ∧ m' = m := by
 have hnb := zcV 0 nn x
 refine zaG (zaL mixed F69_ok F69_h zaF (by simp only [msgV,hnb,nbS]) ?_)
 simp only [F69,msgV,ss0,zeW,zeQ]
 simp only [zaj,msgC,ssH,zeQ,zeO,reduceIte,zeP,zeU,zeS,zeT]
 by_cases h1 : x.k = 1
 ·simp only [h1,ssH,zeQ,zeO,reduceIte,zeP,zeU,zeS,zeT]
  refine zam (v := bo (cliB x.f)) (fun m => mClient_ok _) (by first | exact LR.nil | simp only [nbS]) (by simp only [bo,nbS]) ?_
  cases h2 : cliB x.f
  ·simp only [bo,ssH,zeQ,zeO,reduceIte,zeP,zeU,zeS,zeT]
   exact zaa (v := bo false) rfl ⟨by simp only [bo,nbS],by simp [bo,endsB,h1,h2]⟩
  ·simp only [bo,ssH,zeQ,zeO,reduceIte,zeP,zeU,zeS,zeT]
   refine zam (v := bo (nodeB x.t)) (fun m => mNode_ok _) (by first | exact LR.nil | simp only [nbS]) (by simp only [bo,nbS]) ?_
   cases h3 : nodeB x.t
   ·simp only [bo,ssH,zeQ,zeO,reduceIte,zeP,zeU,zeS,zeT]
    exact zaa (v := bo false) rfl ⟨by simp only [bo,nbS],by simp [bo,endsB,h1,h2,h3]⟩
   ·have hf : IntKind.i64.wrap (0 - x.f) = -x.f := by
     simp only [cliB,ze1,decide_eq_true_eq] at h2
     rw [wrap_i64 (by omega) (by omega)]
     omega
    simp only [bo,zdX,unV_neg,hf,ssH,zeQ,zeO,reduceIte,zeP,zeU,zeS,zeT]
    exact zaa (v := bo (x.e.c == -x.f)) rfl ⟨by simp only [bo,nbS],by simp [bo,endsB,h1,h2,h3]⟩
 ·by_cases h10 : x.k = 10
  ·simp only [h10,ssH,zeQ,zeO,reduceIte,zeP,zeU,zeS,zeT]
   refine zam (v := bo (nodeB x.f)) (fun m => mNode_ok _) (by first | exact LR.nil | simp only [nbS]) (by simp only [bo,nbS]) ?_
   cases h2 : nodeB x.f
   ·simp only [bo,ssH,zeQ,zeO,reduceIte,zeP,zeU,zeS,zeT]
    exact zaa (v := bo false) rfl ⟨by simp only [bo,nbS],by simp [bo,endsB,h10,h2]⟩
   ·simp only [bo,ssH,zeQ,zeO,reduceIte,zeP,zeU,zeS,zeT]
    refine zam (v := bo (cliB x.t)) (fun m => mClient_ok _) (by first | exact LR.nil | simp only [nbS]) (by simp only [bo,nbS]) ?_
    simp only [bo,ssH,zeQ,zeO,reduceIte,zeP,zeU,zeS,zeT]
    exact zaa (v := bo (cliB x.t)) rfl ⟨by simp only [bo,nbS],by simp [bo,endsB,h10,h2]⟩
  ·simp only [beq_eq_false_iff_ne.2 h1,beq_eq_false_iff_ne.2 h10,ssH,zeQ,zeO,reduceIte,zeP,zeU,zeS,zeT]
   refine zam (v := bo (nodeB x.f)) (fun m => mNode_ok _) (by first | exact LR.nil | simp only [nbS]) (by simp only [bo,nbS]) ?_
   cases h2 : nodeB x.f
   ·simp only [bo,ssH,zeQ,zeO,reduceIte,zeP,zeU,zeS,zeT]
    exact zaa (v := bo false) rfl ⟨by simp only [bo,nbS],by simp [bo,endsB,h1,h10,h2]⟩
   ·simp only [bo,ssH,zeQ,zeO,reduceIte,zeP,zeU,zeS,zeT]
    refine zam (v := bo (nodeB x.t)) (fun m => mNode_ok _) (by first | exact LR.nil | simp only [nbS]) (by simp only [bo,nbS]) ?_
    cases h3 : nodeB x.t
    ·simp only [bo,ssH,zeQ,zeO,reduceIte,zeP,zeU,zeS,zeT]
     exact zaa (v := bo false) rfl ⟨by simp only [bo,nbS],by simp [bo,endsB,h1,h10,h2,h3]⟩
    ·simp only [bo,ssH,zeQ,zeO,reduceIte,zeP,zeU,zeS,zeT]
     exact zaa (v := bo (x.f != x.t)) rfl ⟨by simp only [bo,nbS],by simp [bo,endsB,h1,h10,h2,h3,bne]⟩
end
theorem rep_cmp (xo yo : Operand) (a b : Rpl) : binV Tryz.prog .eql 66 .other xo yo (repV a) (repV b) = some (.val (.bool (decide (a = b)))) ∧ binV Tryz.prog .neq 66 .other xo yo (repV a) (repV b) = some (.val (.bool (!decide (a = b)))) := by
 obtain ⟨c,n,s⟩ := a
 obtain ⟨c',n',s'⟩ := b
 have h := struct_eq (P := Tryz.prog) (T := 66) (xo := xo) (yo := yo) (cs := [it c,it n,bs s]) (cs' := [it c',it n',bs s']) (xs := [.int .i64 c,.int .i64 n,.string ⟨s.toArray⟩]) (ys := [.int .i64 c',.int .i64 n',.string ⟨s'.toArray⟩])
  (r := (c == c' && (n == n' && ((ByteArray.mk s.toArray).toList == (ByteArray.mk s'.toArray).toList && true)))) (by kernel_rfl) (by kernel_rfl) (by kernel_rfl) rfl rfl (by kernel_rfl)
 have e : (c == c' && (n == n' && ((ByteArray.mk s.toArray).toList == (ByteArray.mk s'.toArray).toList && true))) = decide ((⟨c,n,s⟩ : Rpl) = ⟨c',n',s'⟩) := by
  simp only [zbO]
  rw [Bool.eq_iff_iff]
  simp [and_assoc]
 rw [e] at h
 exact h
theorem ent_ne0 (xo yo : Operand) (e : Ent) : binV Tryz.prog .neq 42 .other xo yo (.agg [it e.c,it e.q,it e.k,it e.n,bs e.s,it e.ck,it e.cn,bs e.cs]) (.agg [.val (.int .i64 0),.val (.int .i64 0),.val (.int .i64 0),.val (.int .i64 0),.val (.string (ByteArray.mk #[])),.val (.int .i64 0),.val (.int .i64 0),.val (.string (ByteArray.mk #[]))]) = some (bo (!decide (e = e0))) := (ent_cmp xo yo e e0).2
theorem rep_eq0 (xo yo : Operand) (r : Rpl) : binV Tryz.prog .eql 66 .other xo yo (.agg [it r.e,it r.n,bs r.s]) (.agg [.val (.int .i64 0),.val (.int .i64 0),.val (.string (ByteArray.mk #[]))]) = some (bo (decide (r = r0))) := (rep_cmp xo yo r r0).1
theorem len_entsM (nn : Bool) (l : List Ent) : lenV false (zbC nn l) = some (it l.length) := by rw [zbC,zaX,zfc]
section
variable {Γ : Glob} {m : Store}
set_option maxHeartbeats 6400000 in
theorem mParts_ok (E : Env Γ) (nn : Bool) (x : Mg) : zab Tryz.prog Γ 70 [msgV nn x,.agg (flC x.k)] m fun o m' => o = .ret (bo (partsB x)) ∧ m' = m := by
 have hnb := zcV 0 nn x
 have hne := zct (k := 0) x.e
 have hnl := zaz (k := 0) nn x.l.l
 refine zaG (zaL mixed F70_ok F70_h zaF (by simp only [msgV,hnb,nb_flC,nbS]) ?_)
 simp only [F70,msgV,ss0,zeW,zeQ]
 simp only [zaj,msgC,flC,ssH,zeQ,zeO,reduceIte,zeP,zeU,zeS,zeT]
 obtain ⟨p1,hp1⟩ : ∃ p,p = (if kE x.k then entB x.e else decide (x.e = e0)) := ⟨_,rfl⟩
 obtain ⟨p2,hp2⟩ : ∃ p,p = (lgB x.l && (kL x.k || decide (x.l.b ≤ 0) && x.l.l.isEmpty)) := ⟨_,rfl⟩
 have hP : partsB x = (p1 && p2 && (if kR x.k then repB x.r else decide (x.r = r0))) := by
  rw [hp1,hp2,partsB]
  simp only [Bool.and_assoc]
 rw [hP]
 clear hP
 have fin : ∀ {b c : Bool},b = false → bo false = bo (b && c) := fun h => by rw [h]; rfl
 cases hE : kE x.k
 case' true =>
  simp only [hE,ssH,zeQ,zeO,reduceIte,zeP,zeU,zeS,zeT]
  refine zam (by exact fun m => oCheckE_ok E x.e) (by simp only [nbS]) (by first | exact LR.nil | simp only [nbS]) ?_
  cases hB : entB x.e
  case false =>
   simp only [zeX,if_false,ssH,zeQ,zeO,reduceIte,zeP,zeU,zeS,zeT]
   exact zaa (v := bo false) rfl ⟨by simp only [bo,nbS],fin (by rw [hp1,hE,if_pos rfl,hB]; rfl)⟩
  have q1 : p1 = true := by rw [hp1,hE,if_pos rfl,hB]
  simp only [if_true,ssH,zeQ,zeO,reduceIte,zeP,zeU,zeS,zeT]
 case' false =>
  simp only [hE,ent_ne0,ssH,zeQ,zeO,reduceIte,zeP,zeU,zeS,zeT]
  cases hB : decide (x.e = e0)
  case false =>
   simp only [hB,ze4,ssH,zeQ,zeO,reduceIte,zeP,zeU,zeS,zeT]
   exact zaa (v := bo false) rfl ⟨by simp only [bo,nbS],fin (by rw [hp1,hE,if_neg (by decide),hB]; rfl)⟩
  have q1 : p1 = true := by rw [hp1,hE,if_neg (by decide),hB]
  simp only [hB,ze5,ssH,zeQ,zeO,reduceIte,zeP,zeU,zeS,zeT]
 all_goals
  rw [q1]
  clear hB fin
  have fin : ∀ {c : Bool},p2 = false → bo false = bo (true && p2 && c) := fun h => by rw [h]; rfl
  refine zam (by exact fun m => pCheck_ok E nn x.l) (by simp only [hnl,nbS]) (by first | exact LR.nil | simp only [nbS]) ?_
  cases hL : lgB x.l
  case false =>
   simp only [zeX,if_false,show ((4 : Int) != 0) = true from rfl,ssH,zeQ,zeO,reduceIte,zeP,zeU,zeS,zeT]
   exact zaa (v := bo false) rfl ⟨by simp only [bo,nbS],fin (by rw [hp2,hL]; rfl)⟩
  simp only [if_true,show ((0 : Int) != 0) = false from rfl,ssH,zeQ,zeO,reduceIte,zeP,zeU,zeS,zeT]
  cases hK : kL x.k
  case' true =>
   have q2 : p2 = true := by rw [hp2,hL,hK]; rfl
   simp only [ze5,ssH,zeQ,zeO,reduceIte,zeP,zeU,zeS,zeT]
  case' false =>
   simp only [ze4,gt_iff_lt,ssH,zeQ,zeO,reduceIte,zeP,zeU,zeS,zeT]
   by_cases hb : 0 < x.l.b
   case pos =>
    simp only [decide_eq_true hb,ssH,zeQ,zeO,reduceIte,zeP,zeU,zeS,zeT]
    exact zaa (v := bo false) rfl ⟨by simp only [bo,nbS],fin (by rw [hp2,hL,hK,decide_eq_false (show ¬ x.l.b ≤ 0 by omega)]; rfl)⟩
   simp only [decide_eq_false hb,len_entsM,gt_iff_lt,ssH,zeQ,zeO,reduceIte,zeP,zeU,zeS,zeT]
   cases hl : x.l.l.isEmpty
   case false =>
    have : 0 < x.l.l.length := by
     rcases hx : x.l.l with _ | ⟨a,l⟩
     ·rw [hx] at hl; cases hl
     ·simp
    simp only [show decide ((0 : Int) < (x.l.l.length : Int)) = true from decide_eq_true (by omega),ssH,zeQ,zeO,reduceIte,zeP,zeU,zeS,zeT]
    exact zaa (v := bo false) rfl ⟨by simp only [bo,nbS],fin (by rw [hp2,hL,hK,hl,zfr]; rfl)⟩
   have q2 : p2 = true := by rw [hp2,hL,hK,hl,decide_eq_true (show x.l.b ≤ 0 by omega)]; rfl
   have : x.l.l.length = 0 := by rw [List.isEmpty_iff.1 hl]; rfl
   simp only [show decide ((0 : Int) < (x.l.l.length : Int)) = false from decide_eq_false (by omega),ssH,zeQ,zeO,reduceIte,zeP,zeU,zeS,zeT]
  all_goals
   rw [q2]
   clear fin
   cases hR : kR x.k
   case true =>
    simp only [ge_iff_le,ssH,zeQ,zeO,reduceIte,zeP,zeU,zeS,zeT]
    by_cases g1 : 0 ≤ x.r.e
    case neg =>
     simp only [decide_eq_false g1,ze5,ssH,zeQ,zeO,reduceIte,zeP,zeU,zeS,zeT]
     exact zaa (v := bo false) rfl ⟨by simp only [bo,nbS],by simp [repB,g1]⟩
    simp only [decide_eq_true g1,ssH,zeQ,zeO,reduceIte,zeP,zeU,zeS,zeT]
    by_cases g2 : x.r.e ≤ 18
    case neg =>
     simp only [decide_eq_false g2,ze5,ssH,zeQ,zeO,reduceIte,zeP,zeU,zeS,zeT]
     exact zaa (v := bo false) rfl ⟨by simp only [bo,nbS],by simp [repB,g2]⟩
    simp only [decide_eq_true g2,ssH,zeQ,zeO,reduceIte,zeP,zeU,zeS,zeT]
    by_cases g3 : 0 ≤ x.r.n
    case neg =>
     simp only [decide_eq_false g3,ze5,ssH,zeQ,zeO,reduceIte,zeP,zeU,zeS,zeT]
     exact zaa (v := bo false) rfl ⟨by simp only [bo,nbS],by simp [repB,g3]⟩
    simp only [decide_eq_true g3,ssH,zeQ,zeO,reduceIte,zeP,zeU,zeS,zeT]
    by_cases g4 : (x.r.s.length : Int) ≤ 200
    case neg =>
     simp only [decide_eq_false g4,ze5,ssH,zeQ,zeO,reduceIte,zeP,zeU,zeS,zeT]
     exact zaa (v := bo false) rfl ⟨by simp only [bo,nbS],by simp [repB,show ¬ x.r.s.length ≤ 200 by omega]⟩
    simp only [decide_eq_true g4,ssH,zeQ,zeO,reduceIte,zeP,zeU,zeS,zeT]
    exact zaa (v := bo true) rfl ⟨by simp only [bo,nbS],by simp [repB,g1,g2,g3,show x.r.s.length ≤ 200 by omega]⟩
   case false =>
    simp only [ze4,rep_eq0,ssH,zeQ,zeO,reduceIte,zeP,zeU,zeS,zeT]
    exact zaa (v := bo (decide (x.r = r0))) rfl ⟨by simp only [bo,nbS],by simp⟩
end
section
variable {Γ : Glob} {m : Store}
theorem flC_fits (k : Int) : ((flC k).length = 8 ∧ (flC k).all oneV = true) = True := eq_true ⟨rfl,rfl⟩
theorem flC_set (k : Int) {a b c d e f g h : V} : setV [a,b,c,d,e,f,g,h] 0 (flC k) = flC k := rfl
set_option maxHeartbeats 6400000 in
theorem mCheck_ok (E : Env Γ) (nn : Bool) (x : Mg) : zab Tryz.prog Γ 29 [msgV nn x] m fun o m' => o = .ret (it (if msgB x = true then 0 else 2)) ∧ m' = m := by
 have hnb := zcV 0 nn x
 have hnm := nb_msgV 0 nn x
 have hnl := zaz (k := 0) nn x.l.l
 have hno : msgB x = false → it 2 = it (if msgB x = true then 0 else 2) := fun h => by rw [h]; rfl
 refine zaG (zaL mixed F29_ok F29_h zaF (by simp only [hnm,nbS]) ?_)
 simp only [F29,msgV,ss0,zeW,zeQ]
 simp only [zaj,msgC,ssH,zeQ,zeO,reduceIte,zeP,zeU,zeS,zeT]
 refine zam (by exact fun m => mOf_ok x.k) (by first | exact LR.nil | simp only [nbS]) (nb_fl _) ?_
 simp only [zaj,flC_fits,if_true,flC_set,ssH,zeQ,zeO,reduceIte,zeP,zeU,zeS,zeT]
 have hlst : (x.k == 2) = true ∨ (x.k == 2) = false := by cases (x.k == 2) <;> simp
 obtain ⟨lst,hls⟩ : ∃ l : Int,l = (if x.k = 2 then 1 else 0) := ⟨_,rfl⟩
 obtain ⟨q,hq⟩ : ∃ q,q = fldB (kO x.k) x.op lst := ⟨_,rfl⟩
 have hmb : msgB x = (kK x.k && fldB (kV x.k) x.v 0 && fldB (kN x.k) x.nr 0 && decide (x.nr ≤ x.v) && q && fldB (kC x.k) x.cm 0 && fldB (kS x.k) x.sq 1 && endsB x && partsB x) := by rw [hq,hls]; rfl
 cases h2 : (x.k == 2)
 case' true =>
  have : lst = 1 := by rw [hls,if_pos (by simpa using h2)]
  subst this
  simp only [ssH,zeQ,zeO,reduceIte,zeP,zeU,zeS,zeT]
 case' false =>
  have : lst = 0 := by rw [hls,if_neg (by simpa using h2)]
  subst this
  simp only [ssH,zeQ,zeO,reduceIte,zeP,zeU,zeS,zeT]
 all_goals
  clear hlst hls
  cases hk : kK x.k
  case false =>
   simp only [ze4,ssH,zeQ,zeO,reduceIte,zeP,zeU,zeS,zeT]
   exact zaa (v := it 2) rfl ⟨(by first | exact LR.nil | simp only [nbS]),hno (by rw [hmb,hk]; rfl)⟩
  simp only [flC,bo,ze5,ssH,zeQ,zeO,reduceIte,zeP,zeU,zeS,zeT]
  refine zam (v := bo (fldB (kV x.k) x.v 0)) (by exact fun m => zd9 (kV x.k) x.v 0) (by simp only [bo,hnb,nbS]) (by simp only [bo,nbS]) ?_
  cases h3 : fldB (kV x.k) x.v 0
  case false =>
   simp only [bo,ze4,ssH,zeQ,zeO,reduceIte,zeP,zeU,zeS,zeT]
   exact zaa (v := it 2) rfl ⟨(by first | exact LR.nil | simp only [nbS]),hno (by simp only [hmb,h3,zfr,zfx])⟩
  simp only [bo,ze5,gt_iff_lt,ssH,zeQ,zeO,reduceIte,zeP,zeU,zeS,zeT]
  refine zam (v := bo (fldB (kN x.k) x.nr 0)) (by exact fun m => zd9 (kN x.k) x.nr 0) (by simp only [bo,hnb,nbS]) (by simp only [bo,nbS]) ?_
  cases h4 : fldB (kN x.k) x.nr 0
  case false =>
   simp only [bo,ze4,ssH,zeQ,zeO,reduceIte,zeP,zeU,zeS,zeT]
   exact zaa (v := it 2) rfl ⟨(by first | exact LR.nil | simp only [nbS]),hno (by simp only [hmb,h4,zfr,zfx])⟩
  simp only [bo,ze5,gt_iff_lt,ssH,zeQ,zeO,reduceIte,zeP,zeU,zeS,zeT]
  by_cases h5 : x.nr ≤ x.v
  case neg =>
   simp only [show decide (x.v < x.nr) = true from decide_eq_true (by omega),ssH,zeQ,zeO,reduceIte,zeP,zeU,zeS,zeT]
   exact zaa (v := it 2) rfl ⟨(by first | exact LR.nil | simp only [nbS]),hno (by simp only [hmb,decide_eq_false h5,zfr,zfx])⟩
  simp only [show decide (x.v < x.nr) = false from decide_eq_false (by omega),ssH,zeQ,zeO,reduceIte,zeP,zeU,zeS,zeT]
  refine zam (by exact fun m => zd9 (kO x.k) x.op _) (by simp only [bo,nbS]) (by simp only [bo,nbS]) ?_
  rw [← hq]
  cases h6 : q
  case false =>
   simp only [bo,ze4,ssH,zeQ,zeO,reduceIte,zeP,zeU,zeS,zeT]
   exact zaa (v := it 2) rfl ⟨(by first | exact LR.nil | simp only [nbS]),hno (by simp only [hmb,h6,zfr,zfx])⟩
  simp only [bo,ze5,gt_iff_lt,ssH,zeQ,zeO,reduceIte,zeP,zeU,zeS,zeT]
  refine zam (v := bo (fldB (kC x.k) x.cm 0)) (by exact fun m => zd9 (kC x.k) x.cm 0) (by simp only [bo,hnb,nbS]) (by simp only [bo,nbS]) ?_
  cases h7 : fldB (kC x.k) x.cm 0
  case false =>
   simp only [bo,ze4,ssH,zeQ,zeO,reduceIte,zeP,zeU,zeS,zeT]
   exact zaa (v := it 2) rfl ⟨(by first | exact LR.nil | simp only [nbS]),hno (by simp only [hmb,h7,zfr,zfx])⟩
  simp only [bo,ze5,gt_iff_lt,ssH,zeQ,zeO,reduceIte,zeP,zeU,zeS,zeT]
  refine zam (v := bo (fldB (kS x.k) x.sq 1)) (by exact fun m => zd9 (kS x.k) x.sq 1) (by simp only [bo,hnb,nbS]) (by simp only [bo,nbS]) ?_
  cases h8 : fldB (kS x.k) x.sq 1
  case false =>
   simp only [bo,ze4,ssH,zeQ,zeO,reduceIte,zeP,zeU,zeS,zeT]
   exact zaa (v := it 2) rfl ⟨(by first | exact LR.nil | simp only [nbS]),hno (by simp only [hmb,h8,zfr,zfx])⟩
  simp only [bo,ze5,gt_iff_lt,ssH,zeQ,zeO,reduceIte,zeP,zeU,zeS,zeT]
  refine zam (v := bo (endsB x)) (by exact fun m => mEnds_ok nn x) (by simp only [bo,hnl,nbS]) (by simp only [bo,nbS]) ?_
  cases h9 : endsB x
  case false =>
   simp only [bo,ze4,ssH,zeQ,zeO,reduceIte,zeP,zeU,zeS,zeT]
   exact zaa (v := it 2) rfl ⟨(by first | exact LR.nil | simp only [nbS]),hno (by simp only [hmb,h9,zfr,zfx])⟩
  simp only [bo,ze5,gt_iff_lt,ssH,zeQ,zeO,reduceIte,zeP,zeU,zeS,zeT]
  refine zam (v := bo (partsB x)) (by exact fun m => mParts_ok E nn x) (by simp only [bo,hnl,nbS]) (by simp only [bo,nbS]) ?_
  cases h10 : partsB x
  case false =>
   simp only [bo,ze4,ssH,zeQ,zeO,reduceIte,zeP,zeU,zeS,zeT]
   exact zaa (v := it 2) rfl ⟨(by first | exact LR.nil | simp only [nbS]),hno (by simp only [hmb,h10,zfr])⟩
  simp only [bo,ze5,ssH,zeQ,zeO,reduceIte,zeP,zeU,zeS,zeT]
  exact zaa (v := it 0) rfl ⟨(by first | exact LR.nil | simp only [nbS]),by rw [if_pos (by simp only [hmb,hk,h3,h4,decide_eq_true h5,h6,h7,h8,h9,h10,Bool.and_self])]⟩
end
end Go.Av.Fn
