/- Entries compared; rows of them. Conditions: az ahead. -/
import Derived.Test.YtfanfdflpakjeaaGreatDoorTPk
open Bool renaming false_eq_true → ze3, and_eq_true → ze2
open Int renaming reduceBEq → zeX, reduceBNe → zeY
open List renaming length_map → zfk, range → zfd, map → zfx, getElem?_eq_getElem → ze8, take_add_one → zfh, length_cons → ze1, append_assoc → zfe, mem_cons_self → ze9, mem_cons_of_mem → zfa, length_append → zfc, length_take → zfE, length_nil → zfb
open Nat renaming reduceSub → ze0, reduceAdd → zeV, reduceLeDiff → zeT, reduceEqDiff → zeU, reduceLT → zeZ, le_refl → zfj
open Option renaming bind_some → zfm
namespace Go.Av
set_option linter.unusedSimpArgs false
set_option linter.unusedVariables false
section
variable {P : Program}
def eqF2 (P : Program) (T0 : TypeId) (xs ys : Array Value) : List Field → Option Bool
 | [] => some true
 | f :: fs => if f.name = "_" then eqF2 P T0 xs ys fs else match zay P (part f.type xs f.offset), zay P (part f.type ys f.offset) with
  | some a, some b => match (match a, b with | .agg az', .agg bs' => if f.type = T0 then eqF P az' bs' (P.fieldsOf T0).toList else none | a, b => eqField P f.type a b), eqF2 P T0 xs ys fs with
   | some r, some q => some (r && q)
   | _, _ => none
  | _, _ => none
theorem eqF2_sound {T0 : TypeId} (ht : P.underlying T0 = some (.struct (P.fieldsOf T0))) (hp : P.stoodInHeld T0 = false) {xs ys : Array Value} {d : Nat} : ∀ {fs : List Field} {r : Bool}, eqF2 P T0 xs ys fs = some r → zay P (Op.eqFields (d + 1 + 1) xs ys fs) = some r
 | [], r, h => by
  simp only [eqF2, Option.some.injEq] at h
  subst h
  rfl
 | f :: fs, r, h => by
  simp only [eqF2] at h
  split at h
  ·rename_i hn
   simp only [Op.eqFields, hn, ne_eq, not_true_eq_false, if_false]
   exact eqF2_sound ht hp h
  ·rename_i hn
   split at h
   ·rename_i a b ha hb
    split at h
    ·rename_i q1 q2 h1 h2
     simp only [Option.some.injEq] at h
     subst h
     have key : zay P (Op.equalIn (d + 1 + 1) f.type a b) = some q1 := by
      split at h1
      ·split at h1
       ·rename_i e
        rw [e, zbM _ _ _ _ ht hp]
        exact eqF_sound h1
       ·cases h1
      ·exact eqField_sound h1
     simp only [Op.eqFields, ne_eq, hn, not_false_eq_true, if_true, zaD, ha, hb, zfm, key]
     cases q1
     ·rfl
     ·simpa using eqF2_sound ht hp h2
    ·cases h
   ·cases h
theorem struct_eq2 {T T0 : TypeId} {xo yo : Operand} {cs cs' : List V} {xs ys : List Value} {r : Bool} (ht : P.underlying T = some (.struct (P.fieldsOf T))) (hp : P.stoodInHeld T = false) (hg : P.eqGuardType P.depth T = false)
  (ht0 : P.underlying T0 = some (.struct (P.fieldsOf T0))) (hp0 : P.stoodInHeld T0 = false)
  (h1 : raws cs = some xs) (h2 : raws cs' = some ys) (he : eqF2 P T0 xs.toArray ys.toArray (P.fieldsOf T).toList = some r) :
  binV P .eql T .other xo yo (.agg cs) (.agg cs') = some (.val (.bool r)) ∧ binV P .neq T .other xo yo (.agg cs) (.agg cs') = some (.val (.bool !r)) := by
 have e0 : zay P (Op.equal T (.agg xs.toArray) (.agg ys.toArray)) = some r := by
  show zay P (Op.equalIn (9997 + 1 + 1 + 1) T _ _) = some r
  rw [zbM _ _ _ _ ht hp]
  exact eqF2_sound ht0 hp0 he
 have g : ∀ op, zay P (eqGuard op T xo yo (.agg xs.toArray) (.agg ys.toArray)) = some () := by
  intro op
  unfold eqGuard
  split <;> simp only [Bool.not_true, Bool.not_false, ze3, if_false, if_true, zaD, zcF, zfm, hg, zaW]
 have r1 : raw (.agg cs) = some (.agg xs.toArray) := by simp only [raw, h1, Option.map_some]
 have r2 : raw (.agg cs') = some (.agg ys.toArray) := by simp only [raw, h2, Option.map_some]
 refine ⟨?_, ?_⟩
 ·simp only [binV, zb4, zaJ, Bool.false_and, Bool.and_false, Bool.or_false, ze3, if_false, r1, r2, isSliceC, binOp, zaD, g, zfm, e0, zaW]
  rfl
 ·simp only [binV, zb4, zaJ, Bool.false_and, Bool.and_false, Bool.or_false, ze3, if_false, r1, r2, isSliceC, binOp, zaD, g, zfm, e0, zaW]
  rfl
end
end Go.Av
namespace Go.Av.Fn
set_option linter.unusedSimpArgs false
set_option linter.unusedVariables false
set_option maxRecDepth 10000
open Go.Proofs
theorem ent_cmp (xo yo : Operand) (a b : Ent) : binV Tryz.prog .eql 60 .other xo yo (entV a) (entV b) = some (.val (.bool (decide (a = b)))) ∧ binV Tryz.prog .neq 60 .other xo yo (entV a) (entV b) = some (.val (.bool (!decide (a = b)))) := by
 obtain ⟨c, q, k, n, s, ck, cn, cs⟩ := a
 obtain ⟨c', q', k', n', s', ck', cn', cs'⟩ := b
 have h := struct_eq2 (P := Tryz.prog) (T := 60) (T0 := 24) (xo := xo) (yo := yo) (cs := [it c, it q, it k, it n, bs s, it ck, it cn, bs cs]) (cs' := [it c', it q', it k', it n', bs s', it ck', it cn', bs cs'])
  (xs := [.int .i64 c, .int .i64 q, .int .i64 k, .int .i64 n, .string ⟨s.toArray⟩, .int .i64 ck, .int .i64 cn, .string ⟨cs.toArray⟩]) (ys := [.int .i64 c', .int .i64 q', .int .i64 k', .int .i64 n', .string ⟨s'.toArray⟩, .int .i64 ck', .int .i64 cn', .string ⟨cs'.toArray⟩])
  (r := (c == c' && (q == q' && (k == k' && (n == n' && ((ByteArray.mk s.toArray).toList == (ByteArray.mk s'.toArray).toList && ((ck == ck' && (cn == cn' && ((ByteArray.mk cs.toArray).toList == (ByteArray.mk cs'.toArray).toList && true))) && true)))))))
  (by kernel_rfl) (by kernel_rfl) (by kernel_rfl) (by kernel_rfl) (by kernel_rfl) rfl rfl (by kernel_rfl)
 have e : (c == c' && (q == q' && (k == k' && (n == n' && ((ByteArray.mk s.toArray).toList == (ByteArray.mk s'.toArray).toList && ((ck == ck' && (cn == cn' && ((ByteArray.mk cs.toArray).toList == (ByteArray.mk cs'.toArray).toList && true))) && true)))))) = decide ((⟨c, q, k, n, s, ck, cn, cs⟩ : Ent) = ⟨c', q', k', n', s', ck', cn', cs'⟩) := by
  simp only [zb3]
  rw [Bool.eq_iff_iff]
  simp [and_assoc]
 rw [e] at h
 exact h
theorem relNo {G : Gh} {es more : List V} {tok : Tok} {u : Value} (h : RelV G (.sl es more tok) u) : RelV G (.sl es more .no) u := by
 cases h with
 | nil h => exact .nil rfl
 | sl a b c d e f => exact .sl a b c d e trivial
theorem acalls_weak {P : Program} {Γ : Glob} {f : FuncId} {args args' : List V} {m : Store} {R : Out → Store → Prop} (h : ∀ G cargs, RelL G args cargs → RelL G args' cargs) (hc : zae P Γ f args' m R) : zae P Γ f args m R :=
 ⟨hc.1, fun G B0 mF w cargs hD hR hL => hc.2 G B0 mF w cargs hD hR (h G cargs hL)⟩
section
variable {Γ : Glob} {m : Store}
theorem pSameE_ok (nn : Bool) {t : Tok} (la lb : List Ent) (ht : nbT 0 t) (hl : la.length < 4611686018427387904) :
  zae Tryz.prog Γ 40 [.sl (la.map entV) [] t, zbH nn lb] m fun o m' => o = .ret (.val (.bool (decide (la = lb)))) ∧ m' = m := by
 have hnb := zbi (k := 0) nn lb
 have hna := nbs_map (k := 0) zdp la
 refine zaO (zaP mixed F40_ok F40_h zaB (by simp only [hnb, hna, ht, nbS]) ?_)
 simp only [F40, ss0, ze0, zeV]
 simp only [zbH, zfk, ssH, zeV, zeT, reduceIte, zeU, zeZ, zeX, zeY]
 by_cases h0 : la.length = lb.length
 case neg =>
  have hb : ((la.length : Int) != (lb.length : Int)) = true := by simp; omega
  simp only [hb, ssH, zeV, zeT, reduceIte, zeU, zeZ, zeX, zeY]
  exact zaf zac ⟨(by simp only [zaa, zab, nbS]), by rw [decide_eq_false (by rintro rfl; exact h0 rfl)]; rfl⟩
 have hb : ((la.length : Int) != (lb.length : Int)) = false := by simp; omega
 simp only [hb, ssH, zeV, zeT, reduceIte, zeU, zeZ, zeX, zeY]
 refine zdv [0, 1, 5] 26 (fun n vs h => ∃ i : Nat, vs = [.sl (la.map entV) [] t, zbH nn lb, it i] ∧ i + n = la.length + 1 ∧ i ≤ la.length ∧ la.take i = lb.take i) (la.length + 1) (by decide) (by decide) (zfd 0) (zaC rfl (zfj _) (by decide) (by simp) (by show nbs 0 [.sl (la.map entV) [] t, zbH nn lb, it 0]; simp only [hnb, hna, ht, nbS]) (fun a ha => by omega) ⟨0, rfl, by omega, by omega, by simp⟩) ?_
 rintro n t1 h J hJ hlt ⟨i, hv, hn, hi, hpre⟩
 simp only [zfx, List.cons.injEq, and_true] at hv
 obtain ⟨h0', h1, h5⟩ := hv
 rw [t_eq hlt]
 simp only [zat, upTo, h0', h1, h5, zbH, zfk, ssH, zeV, zeT, reduceIte, zeU, zeZ, zeX, zeY]
 by_cases hil : i < la.length
 ·rw [show decide ((i : Int) < (la.length : Int)) = true by simp; omega]
  have hx : la[i]? = some la[i] := ze8 hil
  have hy : lb[i]? = some (lb[i]'(by omega)) := ze8 (by omega)
  generalize la[i] = a at hx
  generalize (lb[i]'(by omega)) = b at hy
  have hc := (ent_cmp (.tmp 20) (.tmp 24) a b).2
  simp only [entV] at hc
  simp only [idx_ent hx, idx_ent hy, hc, ssH, zeV, zeT, reduceIte, zeU, zeZ, zeX, zeY]
  by_cases he : a = b
  ·simp only [decide_eq_true he, Bool.not_true, zaq (show i < 4611686018427387904 by omega), ssH, zeV, zeT, reduceIte, zeU, zeZ, zeX, zeY]
   refine ⟨_, hJ (n - 1) (zfd 0) _ (by omega) (zaC rfl (zfj _) (by decide) (by simp) (by show nbs 0 [.sl (la.map entV) [] t, zbH nn lb, it (i + 1 : Nat)]; simp only [hnb, hna, ht, nbS]) (fun a ha => by omega) ⟨i + 1, rfl, by omega, by omega, by rw [zfh, zfh, hx, hy, hpre, he]⟩)⟩
  ·simp only [decide_eq_false he, Bool.not_false, ssH, zeV, zeT, reduceIte, zeU, zeZ, zeX, zeY]
   refine zaf zac ⟨(by simp only [zaa, zab, nbS]), ?_⟩
   rw [decide_eq_false]
   ·rfl
   ·rintro rfl
    rw [hx] at hy
    exact he (Option.some.inj hy)
 ·rw [show decide ((i : Int) < (la.length : Int)) = false by simp; omega]
  simp only [ssH, zeV, zeT, reduceIte, zeU, zeZ, zeX, zeY]
  refine zaf zac ⟨(by simp only [zaa, zab, nbS]), ?_⟩
  rw [List.take_of_length_le (by omega), List.take_of_length_le (by omega)] at hpre
  rw [decide_eq_true hpre]
  rfl
theorem pSameE_any (nn : Bool) {t : Tok} (la lb : List Ent) (hl : la.length < 4611686018427387904) :
  zae Tryz.prog Γ 40 [.sl (la.map entV) [] t, zbH nn lb] m fun o m' => o = .ret (.val (.bool (decide (la = lb)))) ∧ m' = m := by
 refine acalls_weak (fun G cargs h => ?_) (pSameE_ok nn (t := .no) la lb trivial hl)
 cases h with
 | cons a b => exact .cons (relNo a) b
end
/-! ### Entries between two numbers -/
def entsN (l : List Ent) : V := zbH (!l.isEmpty) l
theorem entsN_nil {l : List Ent} : (!l.isEmpty) = true ∨ l = [] := by cases l <;> simp
def zEnt : List V := [.val (.int .i64 0), .val (.int .i64 0), .val (.int .i64 0), .val (.int .i64 0), .val (.string (ByteArray.mk #[])), .val (.int .i64 0), .val (.int .i64 0), .val (.string (ByteArray.mk #[]))]
def litE (v : V) : Option V := (zc2 8 [.agg zEnt] [(0, v)]).map fun es => .sl es [] .full
theorem litE_eq {Γ : Glob} {t : List V} {m : Store} {x : Nat} : zan Tryz.prog (ev Γ t) m (.lits 8 [.val (.int .i64 0), .val (.int .i64 0), .val (.int .i64 0), .val (.int .i64 0), .val (.string (ByteArray.mk #[])), .val (.int .i64 0), .val (.int .i64 0), .val (.string (ByteArray.mk #[]))] 1 [(0, .tmp x)]) = litE (tget t x) := by
 rw [← zdU (Γ := Γ)]
 rfl
theorem litE_ent (e : Ent) : litE (.agg [it e.c, it e.q, it e.k, it e.n, bs e.s, it e.ck, it e.cn, bs e.cs]) = some (.sl [entV e] [] .full) := rfl
section
variable {Γ : Glob} {m : Store}
end
end Go.Av.Fn
/- What is asked of logs: the program's answers, and the document's. Conditions: az ahead. -/
namespace Go.Av
end Go.Av
namespace Go.Av.Fn
set_option linter.unusedSimpArgs false
set_option linter.unusedVariables false
set_option maxRecDepth 10000
open Go.Proofs
def e0 : Ent := ⟨0, 0, 0, 0, [], 0, 0, []⟩
section
variable {Γ : Glob} {m : Store}
theorem rSame_ok (a b : Bool) (x : Lg) (hl : x.l.length ≤ 2000000) : zae Tryz.prog Γ 41 [lgV a x, lgV b x] m fun o m' => o = .ret (.val (.bool true)) ∧ m' = m := by
 have hna := nb_lgV (k := 0) a x
 have hnb := nb_lgV (k := 0) b x
 have hla := zbi (k := 0) a x.l
 have hlb := zbi (k := 0) b x.l
 refine zaO (zaP mixed F41_ok F41_h zaB (by simp only [hna, hnb, nbS]) ?_)
 simp only [F41, lgV, ss0, ze0, zeV]
 simp only [zaE, beq_self_eq_true, ssH, zeV, zeT, reduceIte, zeU, zeZ, zeX, zeY]
 refine zar (v := .val (.bool true)) (by intro m; have := pSameE_any (Γ := Γ) (m := m) b (t := if a then .non else .full) x.l x.l (by omega); rw [decide_eq_true rfl] at this; exact this) (by simp only [hla, hlb, nbS]) (by first | exact LR.nil | simp only [nbS]) ?_
 simp only [ssH, zeV, zeT, reduceIte, zeU, zeZ, zeX, zeY]
 exact fin6 rfl
end
end Go.Av.Fn
/- The document's examples of logs, reckoned. No condition. -/
namespace Go.Av.Fn
set_option linter.unusedSimpArgs false
set_option linter.unusedVariables false
set_option maxRecDepth 100000
open Go.Proofs
def G20 : Glob := fun _ => none
def tab20 : List (Nat × AFn) := [(30, F30), (32, F32), (34, F34), (36, F36), (38, F38), (42, F42), (44, F44), (46, F46), (74, F74), (75, F75), (76, F76), (77, F77), (78, F78), (79, F79), (82, F82), (83, F83), (85, F85), (86, F86), (88, F88), (89, F89), (117, F117), (84, F84), (118, F118), (48, F48)]
theorem tab20_ok : TabOk Tryz.prog G20 tab20 :=
 (.cons ⟨_, F30_ok⟩ (by kernel_rfl) (.cons ⟨_, F32_ok⟩ (by kernel_rfl) (.cons ⟨_, F34_ok⟩ (by kernel_rfl) (.cons ⟨_, F36_ok⟩ (by kernel_rfl) (.cons ⟨_, F38_ok⟩ (by kernel_rfl) (.cons ⟨_, F42_ok⟩ (by kernel_rfl) (.cons ⟨_, F44_ok⟩ (by kernel_rfl) (.cons ⟨_, F46_ok⟩ (by kernel_rfl) (.cons ⟨_, F74_ok⟩ (by kernel_rfl) (.cons ⟨_, F75_ok⟩ (by kernel_rfl) (.cons ⟨_, F76_ok⟩ (by kernel_rfl) (.cons ⟨_, F77_ok⟩ (by kernel_rfl) (.cons ⟨_, F78_ok⟩ (by kernel_rfl) (.cons ⟨_, F79_ok⟩ (by kernel_rfl) (.cons ⟨_, F82_ok⟩ (by kernel_rfl) (.cons ⟨_, F83_ok⟩ (by kernel_rfl) (.cons ⟨_, F85_ok⟩ (by kernel_rfl) (.cons ⟨_, F86_ok⟩ (by kernel_rfl) (.cons ⟨_, F88_ok⟩ (by kernel_rfl) (.cons ⟨_, F89_ok⟩ (by kernel_rfl) (.cons ⟨_, F117_ok⟩ (by kernel_rfl) (.cons ⟨_, F84_ok⟩ (by kernel_rfl) (.cons ⟨_, F118_ok⟩ (by kernel_rfl) (.cons ⟨_, F48_ok⟩ (by kernel_rfl) TabOk.nil))))))))))))))))))))))))
theorem lives20_ok {Γ : Glob} {m : Store} : zae Tryz.prog Γ 30 [] m fun o m' => o = .ret (.val (.bool true)) ∧ m' = m :=
 acalls_true (Γ0 := G20) (N := 1000) (n := 30) mixed (by intro g cs h; cases h) tab20_ok .nil (by kernel_rfl)
end Go.Av.Fn
/- What is above a number, and what is up to it, are together all entries: the law. Conditions: az ahead. -/
namespace Go.Av.Fn
set_option linter.unusedSimpArgs false
set_option linter.unusedVariables false
set_option maxRecDepth 10000
open Go.Proofs
theorem len_ents {nn : Bool} {l : List Ent} : lenV false (zbH nn l) = some (it l.length) := by
 simp only [zbH, zcb, zfk]
section
variable {Γ : Glob} {m : Store}
end
section
variable {Γ : Glob} {m : Store}
end
section
variable {Γ : Glob} {m : Store}
end
def lgN (x : Lg) : V := lgV (!x.l.isEmpty) x
theorem nb_lgN {k : Nat} {x : Lg} : nb k (lgN x) := nb_lgV _ _
section
variable {Γ : Glob} {m : Store}
end
end Go.Av.Fn
/- A log appended to: the document. Conditions: az ahead. -/
namespace Go.Av
section
variable {P : Program} {Γ : Glob} {H : Nat → List (Nat × List Nat) × List Nat} {f : FuncId} {F : AFn} {gs : List Nat} {m : Store}
end
section
variable {P : Program} {Γ : Glob} {Kp : V → Hl → Prop} {N : Nat} {l : List Item} {K : HS → Prop} {t : List V} {h : Hl} {d : Option Tmp} {s : List (Tmp × Option (Tmp × Bool) × AOp)} {g : FuncId} {first args caps : List V}
end
end Go.Av
namespace Go.Av.Fn
set_option linter.unusedSimpArgs false
set_option linter.unusedVariables false
set_option maxRecDepth 10000
open Go.Proofs
section
variable {Γ : Glob} {m : Store}
end
section
variable {Γ : Glob} {m : Store}
end
end Go.Av.Fn
/- Numbers and texts az bytes, by the document. No condition. -/
namespace Go.Av.Fn
set_option linter.unusedSimpArgs false
set_option linter.unusedVariables false
set_option maxRecDepth 10000
open Go.Proofs Go.Lib
section
variable {Γ : Glob} {m : Store}
end
section
variable {Γ : Glob} {m : Store}
end
section
variable {Γ : Glob} {m : Store}
end
end Go.Av.Fn
/- Commands that are put are got as they were: the statement's function, walked. Conditions as ahead. -/
namespace Go.Av.Fn
set_option linter.unusedSimpArgs false
set_option linter.unusedVariables false
set_option maxRecDepth 10000
open Go.Proofs
end Go.Av.Fn
/- Any command has the bytes, and any bytes are the command, that the document says: the law. Conditions: az ahead. -/
namespace Go.Av
section
variable {P : Program} {Γ : Glob} {Kp : V → Hl → Prop} {l : List Item} {K : HS → Prop} {t : List V} {h : Hl} {d : Option Tmp} {s : List (Tmp × Option (Tmp × Bool) × AOp)} {g : FuncId} {first args caps : List V}
end
end Go.Av
namespace Go.Av.Fn
set_option linter.unusedSimpArgs false
set_option linter.unusedVariables false
set_option maxRecDepth 10000
open Go.Proofs
theorem getC_le {s : List UInt8} {a : Nat} {e : Int} (ha : a ≤ s.length) : (getC s a e).2.1 ≤ s.length := by
 unfold getC
 exact rText_le (zcm (zcm ha))
end Go.Av.Fn
/- Functions that put behind a slice, over blocks. No condition. -/
namespace Go.Av
def BH (e : TypeId) (x0 : Option Blk) (tok : Tok) (es : List V) : Prop := (x0 = none ∧ tok = .full) ∨ ∃ k, x0 = some (.tip e k) ∧ tok = .tip 0 k ∧ es ≠ []
section
variable {P : Program} {Γ : Glob} {H : Nat → List (Nat × List Nat) × List Nat} {f : FuncId} {F : AFn} {gs : List Nat} {m m' : Store}
theorem acalls_bu (hm : P.follows .mixedOrders = true) (hF : zam P H f = some F) (hok : F.body.okH gs = true) (hG : GOk Γ gs) {e : TypeId} {size : Nat} {es es2 az : List V} {v : V} (hB : BufI e size m m' v es) (hes : nbs 0 es) (ha : nbs 0 az) (h2 : nbs 0 es2) (hz : szOk size es2 = true) (hne : es2 ≠ [])
  (h : ∀ x0 tok, BH e x0 tok es → hawp P Γ (fun _ _ => False) 1 F.body (bodyH F.res fun v h' => ∃ j k, v = .sl es2 [] (.tip j k) ∧ lk h' j = some (.tip e k)) ⟨start F.ntmps (.sl es [] tok :: az), [x0]⟩) :
  zae P Γ f (v :: az) m' fun o m2 => ∃ v2, o = .ret v2 ∧ Buf e size m m2 v2 es2 := by
 have full : ∀ M : Store, szOk size es = true → zae P Γ f (.sl es [] .full :: az) M fun o m2 => ∃ v2, o = .ret v2 ∧ Buf e size M m2 v2 es2 := by
  intro M hs
  have h1 := zeS (P := P) (Γ := Γ) (R0 := fun _ _ => False) (N := 1) (m := fun _ => none) (h0 := [none]) hm hF hok hG (args0 := .sl es [] .full :: az) (args := .sl es [] .full :: az) (.cons (VR.sl (k := .full) (k' := .full) (hes.up _) .nil trivial) (ha.up _)) ⟨fun a c x r hx => r.elim, fun a b c r _ => r.elim, fun a b c x y r _ _ _ => r.elim, fun a b r => r.elim⟩ (fun _ _ q => q.elim) (Q := fun o h' => match o with | .ret v => ∃ j k, v = .sl es2 [] (.tip j k) ∧ lk h' j = some (.tip e k) | .pan _ => False) (h none .full (.inl ⟨rfl, rfl⟩))
  have hD : Disj (fun _ => none) M := fun b => .inl rfl
  have e0 : Store.or (fun _ => none) M = M := by funext b; rfl
  have h3 := h1.frame hD
  rw [e0] at h3
  refine zae.less h3 ?_
  rintro o m'' ⟨m1, rfl, d, S, o0, h', s1, s2, s3, s4⟩
  cases o0 with
  | pan v => exact s4.elim
  | ret v =>
   cases o with
   | pan v' => exact s3.elim
   | ret v' =>
    obtain ⟨j, k, rfl, hj⟩ := s4
    obtain ⟨es', mr, k', rfl, ra, rb, rc⟩ := VR.sl_inv s3
    obtain rfl := zdo h2 ra
    obtain rfl := rb.nil_inv
    cases k' with
    | tip b k' =>
     obtain ⟨r0, rfl⟩ := rc
     obtain ⟨Y', g1, g2⟩ := s2.blk _ _ _ r0 hj
     cases Y' with
     | tip e' k' =>
      obtain ⟨rfl, rfl⟩ := g2
      have hmb : M b = none := by
       rcases d b with q | q
       ·rw [g1] at q; cases q
       ·exact q
      refine ⟨M.set b (.tip e k), ?_, _, rfl, hz, .inr ⟨hne, b, k, hmb, rfl, rfl⟩⟩
      intro c x hx
      by_cases e : c = b
      ·subst e
       rw [Store.set_same] at hx
       cases hx
       simp only [Store.or, g1]
      ·rw [Store.set_ne _ _ e] at hx
       rcases d c with q | q
       ·simp only [Store.or, q]; exact hx
       ·rw [q] at hx
        cases hx
     | _ => exact g2.elim
    | _ => exact rc.elim
 rcases hB with ⟨hs, (⟨rfl, rfl, rfl⟩ | ⟨hne0, b, k, hb, rfl, rfl⟩)⟩ | ⟨hs, rfl, rfl⟩
 ·exact full _ hs
 ·have hmb : (m.set b (.tip e k)) b = some (.tip e k) := Store.set_same _ _ _
  have h1 := zeS (P := P) (Γ := Γ) (R0 := fun a c => a = 0 ∧ c = b) (N := 1) (m := one b (.tip e k)) hm hF hok hG (args0 := .sl es [] (.tip 0 k) :: az) (args := .sl es [] (.tip b k) :: az) (.cons (VR.sl (k := .tip 0 k) (k' := .tip b k) (hes.up _) .nil ⟨⟨rfl, rfl⟩, rfl⟩) (ha.up _)) (hh_one (X := .tip e k) ⟨rfl, rfl⟩) (fun _ _ q => by omega) (Q := fun o h' => match o with | .ret v => ∃ j k, v = .sl es2 [] (.tip j k) ∧ lk h' j = some (.tip e k) | .pan _ => False) (h _ _ (.inr ⟨k, rfl, rfl, hne0⟩))
  have h3 := h1.frame (one_disj b (.tip e k) (m := m.set b (.tip e k)))
  rw [one_del hmb] at h3
  refine zae.less h3 ?_
  rintro o m'' ⟨m1, rfl, d, S, o0, h', s1, s2, s3, s4⟩
  cases o0 with
  | pan v => exact s4.elim
  | ret v =>
   cases o with
   | pan v' => exact s3.elim
   | ret v' =>
    obtain ⟨j, k2, rfl, hj⟩ := s4
    obtain ⟨es', mr, k', rfl, ra, rb, rc⟩ := VR.sl_inv s3
    obtain rfl := zdo h2 ra
    obtain rfl := rb.nil_inv
    cases k' with
    | tip b2 k' =>
     obtain ⟨r0, rfl⟩ := rc
     obtain ⟨Y', g1, g2⟩ := s2.blk _ _ _ r0 hj
     cases Y' with
     | tip e' k' =>
      obtain ⟨rfl, rfl⟩ := g2
      have hmb2 : m b2 = none := by
       by_cases e : b2 = b
       ·rw [e]; exact hb
       ·rcases d b2 with q | q
        ·rw [g1] at q; cases q
        ·simp only [del, if_neg e, Store.set_ne _ _ e] at q
         exact q
      refine ⟨m.set b2 (.tip e k2), ?_, _, rfl, hz, .inr ⟨hne, b2, k2, hmb2, rfl, rfl⟩⟩
      intro c x hx
      by_cases e : c = b2
      ·subst e
       rw [Store.set_same] at hx
       cases hx
       simp only [Store.or, g1]
      ·rw [Store.set_ne _ _ e] at hx
       have hcb : c ≠ b := by rintro rfl; rw [hb] at hx; cases hx
       rcases d c with q | q
       ·simp only [Store.or, q, del, if_neg hcb, Store.set_ne _ _ hcb]; exact hx
       ·simp only [del, if_neg hcb, Store.set_ne _ _ hcb] at q
        rw [q] at hx
        cases hx
     | _ => exact g2.elim
    | _ => exact rc.elim
 ·exact full _ hs
end
section
variable {P : Program} {Γ : Glob} {Kp : V → Hl → Prop} {N : Nat} {l : List Item} {K : HS → Prop} {t : List V} {r : Hl} {d : Option Tmp} {s : List (Tmp × Option (Tmp × Bool) × AOp)} {g : FuncId} {first args caps : List V}
theorem hcall_bh {e : TypeId} {size : Nat} {az es es2 : List V} {x0 : Option Blk} {tok : Tok} (hl : r.length < 999999) (he : first ++ args ++ caps = .sl es [] tok :: az) (hB : BH e x0 tok es) (hz : szOk size es = true) (hne : es2 ≠ [])
  (hA : ∀ m m' v, BufI e size m m' v es → zae P Γ g (v :: az) m' fun o m2 => ∃ v2, o = .ret v2 ∧ Buf e size m m2 v2 es2) (h1 : nbs 0 es) (ha : nbs 0 az) (h2 : nbs 0 es2)
  (hr : ∀ k, hth P Γ Kp s l K (hput t (none :: (r ++ [some (.tip e k)])) d (some (.sl es2 [] (.tip (r.length + 1) k))))) : hcallS P Γ Kp (.fn (.func g) first caps) args d s l K t (x0 :: r) := by
 rcases hB with ⟨rfl, rfl⟩ | ⟨k0, rfl, rfl, hne0⟩
 ·intro R args' m' rl H
  rw [he] at rl
  obtain ⟨y, ys, rfl, r1, r2⟩ := rl.cons_inv
  obtain rfl := zdo ha r2
  have : y = .sl es [] .full := nb_eq (v := .sl es [] .full) (VR.sl (k := .full) (k' := .full) h1 .nil trivial) r1
  subst this
  refine (hA m' m' _ (.inr ⟨hz, rfl, rfl⟩)).mono ?_
  rintro o m2 ⟨v2, rfl, hb, (⟨q, _⟩ | ⟨_, b, k, q1, rfl, rfl⟩)⟩
  ·exact absurd q hne
  ·have hlen : ((none : Option Blk) :: r).length = r.length + 1 := rfl
   exact ⟨R.add (r.length + 1) b, .ret _, _, R.le_add _ _, H.push (x := .tip e k) (x' := .tip e k) q1 (by rw [hlen]; omega) ⟨rfl, rfl⟩, VR.sl (k := .tip (r.length + 1) k) (k' := .tip b k) (h2.up _) .nil ⟨.inr ⟨rfl, rfl⟩, rfl⟩, hr k⟩
 ·refine zdu (j := 0) (k := k0) (e := e) (size := size) (es := es) (es2 := es2) (by simp only [ze1]; omega) he rfl hz hne0 hne (fun m m' v h => hA m m' v (.inl h)) h1 ha h2 fun k => ?_
  have := hr k
  simpa only [hset, List.cons_append, ze1] using this
end
end Go.Av
/- Entries and logs put behind bytes, az the program does. Conditions: az ahead. -/
namespace Go.Av
section
variable {P : Program} {Γ : Glob} {t : List V} {h : Hl} {N : Nat}
theorem lk_apps {hs r : Hl} {a : Nat} : lk (hs ++ r) a = if a < hs.length then lk hs a else lk r (a - hs.length) := by
 induction hs generalizing a with
 | nil => simp
 | cons x hs ih =>
  cases a with
  | zero => simp [lk]
  | succ a =>
   simp only [List.cons_append, lk, ih, ze1, Nat.add_lt_add_iff_right, Nat.add_sub_add_right]
theorem back_tip {S : List Nat} {c L : Nat} {J : List V → Hl → Prop} {e : TypeId} {j k : Nat} {es more : List V} (hs : Hl) (h1 : t.length = L) (hN : N ≤ c) (hcj : c ≤ j) (hc2 : c < 1000000) (hj : lk h j = some (.tip e k)) (hlen : hs.length = c) (hS : S.map (tget t) = .sl es [] (.tip j k) :: more) (hes : nbs 0 es) (hm : nbs c more)
  (hB : ∀ a < c, ∀ x, lk hs a = some x → lk h a = some x ∧ nbB c x) (hJ : J (.sl es [] (.tip c k) :: more) (hs ++ [some (.tip e k)])) : Back S (zfd c ++ [j]) N L J ⟨t, h⟩ := by
 have g1 : ∀ a < c, (zfd c ++ [j])[a]? = some a := by
  intro a ha
  rw [List.getElem?_append_left (by simpa using ha)]
  exact nm_range ha
 have g2 : (zfd c ++ [j])[c]? = some j := by
  rw [List.getElem?_append_right (by simp)]
  simp
 have hm' : (NB c).le (Nm (zfd c ++ [j])) := fun a b ⟨e, l⟩ => by subst e; exact g1 _ l
 refine ⟨h1, fun a ha => g1 a (by omega), ?_, by simp; omega, _, hs ++ [some (.tip e k)], ?_, by simp [hlen], ?_, hJ⟩
 ·rw [List.nodup_append]
  refine ⟨List.nodup_range, by simp, ?_⟩
  intro a ha b hb
  simp only [List.mem_range] at ha
  simp only [List.mem_singleton] at hb
  omega
 ·rw [hS]
  exact .cons (VR.sl (k := .tip c k) (k' := .tip j k) (hes.up _) .nil ⟨g2, rfl⟩) (LR.mono hm' hm)
 ·intro a b hab
  by_cases ha : a < c
  ·rw [g1 a ha] at hab
   cases hab
   simp only
   rw [lk_apps, if_pos (by omega)]
   cases hx : lk hs a with
   | none => trivial
   | some x =>
    obtain ⟨q1, q2⟩ := hB a ha x hx
    rw [q1]
    exact BR.mono hm' q2
  ·have hac : a = c := by
    have := (List.getElem?_eq_some_iff.1 hab).1
    simp at this
    omega
   subst hac
   rw [g2] at hab
   cases hab
   simp only
   rw [lk_apps, if_neg (by omega), hlen, Nat.sub_self, hj]
   exact ⟨rfl, rfl⟩
end
end Go.Av
namespace Go.Av.Fn
set_option linter.unusedSimpArgs false
set_option linter.unusedVariables false
set_option maxRecDepth 10000
open Go.Proofs
def uz (n : Int) : List UInt8 := Lib.uvarint (Lib.zigzag n)
def zb5 : List Int → List UInt8
 | [] => []
 | n :: l => uz n ++ zb5 l
theorem numsB_app (a b : List Int) : zb5 (a ++ b) = zb5 a ++ zb5 b := by
 induction a with
 | nil => rfl
 | cons n a ih => simp only [List.cons_append, zb5, ih, zfe]
theorem uz_len {n : Int} (h : Av.I64 n) : (uz n).length ≤ 10 := Lib.uvarint_length64 (Av.zigzag_u64 h)
theorem uz_ne (n : Int) : uz n ≠ [] := by
 unfold uz
 rw [Lib.uvarint]
 split <;> simp
theorem numsB_len {l : List Int} (h : ∀ n ∈ l, Av.I64 n) : (zb5 l).length ≤ 10 * l.length := by
 induction l with
 | nil => exact zfj _
 | cons n l ih =>
  have h1 := uz_len (h n (ze9 ..))
  have h2 := ih fun x hx => h x (zfa _ hx)
  simp only [zb5, zfc, ze1]
  omega
theorem nbs_its {k : Nat} (l : List Int) : nbs k (l.map it) := nbs_map (fun n => by simp only [nbS]) l
theorem zce {l : List UInt8} (h : l ≠ []) : l.map by8 ≠ [] := by simpa using h
section
variable {Γ : Glob} {m m' : Store}
theorem nums_ok {v : V} {l : List UInt8} (hB : BufI 5 1 m m' v (l.map by8)) (ns : List Int) (hn : ∀ n ∈ ns, Av.I64 n) (hne : ns ≠ []) (hl : l.length + 10 * ns.length < 1099511627776) (hc : ns.length < 1000000) :
  zae Tryz.prog Γ 123 [v, .sl (ns.map it) [] .full] m' fun o m2 => ∃ v2, o = .ret v2 ∧ Buf 5 1 m m2 v2 ((l ++ zb5 ns).map by8) := by
 have hne2 : zb5 ns ≠ [] := by
  cases ns with
  | nil => exact absurd rfl hne
  | cons n ns => simp only [zb5]; intro h; exact uz_ne n (List.append_eq_nil_iff.1 h).1
 refine acalls_bu mixed F123_ok F123_h zaB hB (zaw _) (by simp only [nbs_its, nbS]) (zaw _) (zbE _) (zce (by simp [hne2])) fun x0 tok hx => ?_
 simp only [F123, ss0, ze0, zeV]
 simp only [ssH, zeV, zeT, reduceIte, zeU, zeZ, zeX, zeY]
 refine zdv [0, 7, 8, 9] 18 (fun n vs h => ∃ (i : Nat) (tk : Tok), vs = [.sl ((l ++ zb5 (ns.take i)).map by8) [] tk, .sl (ns.map it) [] .full, it ns.length, it i] ∧ i + n = ns.length + 1 ∧ i ≤ ns.length ∧ ((i = 0 ∧ h = [x0] ∧ tk = tok) ∨ (0 < i ∧ ∃ k, h = [none, some (.tip 5 k)] ∧ tk = .tip 1 k))) (ns.length + 1) (by decide) (by decide) (zfd 1) ?_ ?_
 ·have e0 : [0, 7, 8, 9].map (tget [.sl (l.map by8) [] tok, .sl (ns.map it) [] .full, un, un, .sl [] [] .full, un, un, .sl (ns.map it) [] .full, it (ns.map it).length, it 0, un, un, un, un, un, un, un, un]) = [.sl ((l ++ zb5 (ns.take 0)).map by8) [] tok, .sl (ns.map it) [] .full, it ns.length, it ((0 : Nat) : Int)] := by
   rw [show l ++ zb5 (ns.take 0) = l by simp [zb5], zfk]
   rfl
  refine zaC rfl (by decide) (by decide) (by simp) ?_ ?_ ⟨0, tok, e0, by omega, by omega, .inl ⟨rfl, rfl, rfl⟩⟩
  ·show nbs 1 [.sl (l.map by8) [] tok, .sl (ns.map it) [] .full, it (ns.map it).length, it 0]
   rcases hx with ⟨rfl, rfl⟩ | ⟨k, rfl, rfl, _⟩
   ·simp only [nbs_its, nbS]
   ·simp only [nbs_its, nbS]; decide
  ·intro a ha x hx'
   have : a = 0 := by omega
   subst this
   rcases hx with ⟨rfl, rfl⟩ | ⟨k, rfl, rfl, _⟩
   ·cases hx'
   ·cases hx'; simp only [nbS]
 rintro n t h J hJ hlt ⟨i, tk, hv, hi1, hi2, hh⟩
 simp only [zfx, List.cons.injEq, and_true] at hv
 obtain ⟨g0, g7, g8, g9⟩ := hv
 have hlen : (l ++ zb5 (ns.take i)).length ≤ l.length + 10 * ns.length := by
  have := numsB_len (l := ns.take i) fun x hx => hn x (List.mem_of_mem_take hx)
  rw [zfE] at this
  simp only [zfc]
  omega
 obtain ⟨pr, hpr⟩ : ∃ z, z = l ++ zb5 (ns.take i) := ⟨_, rfl⟩
 rw [← hpr] at g0 hlen
 rw [t_eq hlt]
 simp only [zat, upTo, g0, g7, g8, g9, zfk, ssH, zeV, zeT, reduceIte, zeU, zeZ, zeX, zeY]
 by_cases hil : i < ns.length
 ·have hx2 : ns[i]? = some ns[i] := ze8 hil
  have hni : Av.I64 ns[i] := hn _ (List.getElem_mem _)
  have hst : zb5 (ns.take (i + 1)) = zb5 (ns.take i) ++ uz ns[i] := by rw [zfh, hx2, numsB_app]; simp [zb5]
  generalize ns[i] = a at hx2 hni hst
  have hnb := nbs_its (k := 0) ns
  have hnb1 := nbs_its (k := 1) ns
  obtain ⟨nx, hnx⟩ : ∃ z, z = l ++ zb5 (ns.take (i + 1)) := ⟨_, rfl⟩
  have hp : nx = pr ++ uz a := by rw [hnx, hpr, hst, zfe]
  have hcall : ∀ (mm mm' : Store) (w : V), BufI 5 1 mm mm' w (pr.map by8) → zae Tryz.prog Γ 69 [w, it a] mm' fun o m2 => ∃ v2, o = .ret v2 ∧ Buf 5 1 mm m2 v2 (nx.map by8) := by
   intro mm mm' w hw
   rw [hp]
   exact zea (Γ := Γ) hw hni (by omega)
  have hi9 : idxLV 1 (.sl (ns.map it) [] .full) (it i) = some (.elt [it a]) := zbP (e := it a) (by rw [List.getElem?_map, hx2]; rfl) rfl
  have hne3 : nx.map by8 ≠ [] := zce (by rw [hp]; simp [uz_ne])
  have fin : ∀ {t' : List V} {h' : Hl} (j k : Nat), t'.length = 18 → tget t' 0 = .sl (nx.map by8) [] (.tip j k) → tget t' 7 = .sl (ns.map it) [] .full → tget t' 8 = it ns.length → tget t' 9 = it (i + 1 : Nat) → lk h' j = some (.tip 5 k) → 1 ≤ j → ∃ names, J names ⟨t', h'⟩ := by
   intro t' h' j k q q0 q7 q8 q9 qj hj
   refine ⟨_, hJ (n - 1) _ _ (by omega) (back_tip (c := 1) (j := j) (k := k) (es := nx.map by8) (more := [.sl (ns.map it) [] .full, it ns.length, it (i + 1 : Nat)]) [none] q (zfj _) hj (by decide) qj rfl (by simp only [zfx, q0, q7, q8, q9]) (zaw _) (by simp only [hnb1, nbS]) ?_ ⟨i + 1, .tip 1 k, by rw [← hnx], by omega, by omega, .inr ⟨by omega, k, rfl, rfl⟩⟩)⟩
   intro a ha x hx
   have : a = 0 := by omega
   subst this
   cases hx
  simp only [show decide ((i : Int) < (ns.length : Int)) = true from decide_eq_true (by omega), hi9, ssH, zeV, zeT, reduceIte, zeU, zeZ, zeX, zeY]
  rcases hh with ⟨hi0, rfl, rfl⟩ | ⟨hi0, k, rfl, rfl⟩
  ·have hB0 : BH 5 x0 tk (pr.map by8) := by rw [hpr, hi0]; simpa [zb5] using hx
   refine hcall_bh (size := 1) (az := [it a]) (by simp) rfl hB0 (zbE _) hne3 hcall (zaw _) (by first | exact LR.nil | simp only [nbS]) (zaw _) fun k => ?_
   simp only [zfb, zaq (show i < 4611686018427387904 by omega), ssH, zeV, zeT, reduceIte, zeU, zeZ, zeX, zeY]
   exact fin 1 k rfl rfl rfl rfl rfl rfl (by decide)
  ·refine zdu (j := 1) (size := 1) (az := [it a]) (by simp) rfl rfl (zbE _) ?_ hne3 (fun mm mm' w hw => hcall mm mm' w (.inl hw)) (zaw _) (by first | exact LR.nil | simp only [nbS]) (zaw _) fun k => ?_
   ·refine zce ?_
    rw [hpr]
    cases ns with
    | nil => simp at hil
    | cons n ns =>
     cases i with
     | zero => omega
     | succ i => simp [zb5, uz_ne]
   simp only [ze1, zfb, zaq (show i < 4611686018427387904 by omega), ssH, zeV, zeT, reduceIte, zeU, zeZ, zeX, zeY]
   exact fin 2 k rfl rfl rfl rfl rfl rfl (by decide)
 ·simp only [show decide ((i : Int) < (ns.length : Int)) = false from decide_eq_false (by omega), ssH, zeV, zeT, reduceIte, zeU, zeZ, zeX, zeY]
  have hie : i = ns.length := by omega
  rw [hie, List.take_length] at hpr
  subst hpr
  rcases hh with ⟨hi0, rfl, rfl⟩ | ⟨hi0, k, rfl, rfl⟩
  ·have : ns = [] := List.length_eq_zero_iff.1 (by omega)
   exact absurd this hne
  ·exact zaf rfl ⟨1, k, rfl, rfl⟩
def putE (e : Ent) : List UInt8 := zb5 [e.c, e.q, e.k, e.n] ++ (uz e.s.length ++ e.s) ++ putC e.ck e.cn e.cs
def EntN (e : Ent) : Prop := Av.I64 e.c ∧ Av.I64 e.q ∧ Av.I64 e.k ∧ Av.I64 e.n ∧ Av.I64 e.ck ∧ Av.I64 e.cn
def litF (a b c d : V) : Option V := (zc2 1 [.val (.int .i64 0), .val (.int .i64 0), .val (.int .i64 0), .val (.int .i64 0)] [(0, a), (1, b), (2, c), (3, d)]).map fun es => .sl es [] .full
theorem litF_eq {t : List V} {a b c d : Nat} : zan Tryz.prog (ev Γ t) m (.lits 1 [.val (.int .i64 0)] 4 [(0, .tmp a), (1, .tmp b), (2, .tmp c), (3, .tmp d)]) = litF (tget t a) (tget t b) (tget t c) (tget t d) := by
 rw [← zdU (Γ := Γ), ← zdU (Γ := Γ), ← zdU (Γ := Γ), ← zdU (Γ := Γ)]
 rfl
theorem litF_it (a b c d : Int) : litF (it a) (it b) (it c) (it d) = some (.sl ([a, b, c, d].map it) [] .full) := rfl
theorem putE_len {e : Ent} (h : EntN e) (hs : e.cs.length ≤ 1099511627776) (hs2 : e.s.length ≤ 1099511627776) : (putE e).length ≤ 80 + e.s.length + e.cs.length := by
 obtain ⟨h1, h2, h3, h4, h5, h6⟩ := h
 have a := numsB_len (l := [e.c, e.q, e.k, e.n]) (by intro n hn; simp only [List.mem_cons, List.not_mem_nil, or_false] at hn; rcases hn with rfl | rfl | rfl | rfl <;> assumption)
 have b := uz_len (n := (e.s.length : Int)) ⟨by omega, by omega⟩
 have c := putC_len (k := e.ck) (n := e.cn) h5 h6 (t := e.cs) (by omega)
 simp only [putE, zfc, ze1, zfb] at a ⊢
 omega
theorem sPut_ok {v : V} {l : List UInt8} (hB : BufI 5 1 m m' v (l.map by8)) (e : Ent) (he : EntN e) (hl : l.length + e.s.length + e.cs.length + 1000 < 1099511627776) :
  zae Tryz.prog Γ 97 [v, entV e] m' fun o m2 => ∃ v2, o = .ret v2 ∧ Buf 5 1 m m2 v2 ((l ++ putE e).map by8) := by
 have hne := zdp (k := 0) e
 have hn4 : ∀ n ∈ [e.c, e.q, e.k, e.n], Av.I64 n := by
  obtain ⟨h1, h2, h3, h4, h5, h6⟩ := he
  intro n hn
  simp only [List.mem_cons, List.not_mem_nil, or_false] at hn
  rcases hn with rfl | rfl | rfl | rfl <;> assumption
 have hlen := numsB_len hn4
 simp only [ze1, zfb] at hlen
 have hz : zb5 [e.c, e.q, e.k, e.n] ≠ [] := by simp [zb5, uz_ne]
 refine acalls_bu mixed F97_ok F97_h zaB hB (zaw _) (by simp only [hne, nbS]) (zaw _) (zbE _) (zce (by simp [putE, hz])) fun x0 tok hx => ?_
 simp only [F97, entV, ss0, ze0, zeV]
 simp only [litF_eq, litF_it, zaE, ssH, zeV, zeT, reduceIte, zeU, zeZ, zeX, zeY]
 have hni := nbs_its (k := 0) [e.c, e.q, e.k, e.n]
 have hb2 := uz_len (n := (e.s.length : Int)) ⟨by omega, by omega⟩
 refine hcall_bh (size := 1) (az := [.sl ([e.c, e.q, e.k, e.n].map it) [] .full]) (by simp) rfl hx (zbE _) (es2 := (l ++ zb5 [e.c, e.q, e.k, e.n]).map by8) (zce (by simp [hz])) (fun mm mm' w hw => nums_ok hw _ hn4 (by simp) (by simp; omega) (by simp)) (zaw _) (by simp only [hni, nbS]) (zaw _) fun k => ?_
 simp only [ze1, zfb, List.map_cons, List.map_nil, ssH, zeV, zeT, reduceIte, zeU, zeZ, zeX, zeY]
 refine zdu (e := 5) (j := 2) (size := 1) (az := [bs e.s]) (by simp) rfl rfl (zbE _) (es2 := (l ++ zb5 [e.c, e.q, e.k, e.n] ++ uz e.s.length ++ e.s).map by8) (zce (by simp [hz])) (zce (by simp [hz])) (fun mm mm' w hw => putText_ok hw (by simp; omega) (by simp; omega)) (zaw _) (by first | exact LR.nil | simp only [nbS]) (zaw _) fun k2 => ?_
 simp only [ze1, zfb, ssH, zeV, zeT, reduceIte, zeU, zeZ, zeX, zeY]
 have e2 : l ++ putE e = l ++ zb5 [e.c, e.q, e.k, e.n] ++ uz e.s.length ++ e.s ++ putC e.ck e.cn e.cs := by simp only [putE, zfe]
 rw [e2]
 refine zdu (e := 5) (j := 3) (size := 1) (az := [cmdV e.ck e.cn e.cs]) (by simp) rfl rfl (zbE _) (es2 := (l ++ zb5 [e.c, e.q, e.k, e.n] ++ uz e.s.length ++ e.s ++ putC e.ck e.cn e.cs).map by8) (zce (by simp [hz])) (zce (by simp [hz])) (fun mm mm' w hw => put_ok (.inl hw) he.2.2.2.2.1 he.2.2.2.2.2 (by simp; omega) (by simp; omega)) (zaw _) (by simp only [cmdV, nbS]) (zaw _) fun k3 => ?_
 simp only [ze1, zfb, ssH, zeV, zeT, reduceIte, zeU, zeZ, zeX, zeY]
 exact zaf rfl ⟨4, k3, rfl, rfl⟩
def zcg : List Ent → List UInt8
 | [] => []
 | e :: l => putE e ++ zcg l
theorem putEs_app (a b : List Ent) : zcg (a ++ b) = zcg a ++ zcg b := by
 induction a with
 | nil => rfl
 | cons e a ih => simp only [List.cons_append, zcg, ih, zfe]
def putL (x : Lg) : List UInt8 := uz x.b ++ (uz x.c.length ++ x.c) ++ uz x.l.length ++ zcg x.l
def EntS (e : Ent) : Prop := EntN e ∧ e.s.length ≤ 255 ∧ e.cs.length ≤ 255
theorem putEs_len {l : List Ent} (h : ∀ e ∈ l, EntS e) : (zcg l).length ≤ 600 * l.length := by
 induction l with
 | nil => exact zfj _
 | cons e l ih =>
  obtain ⟨h1, h2, h3⟩ := h e (ze9 ..)
  have h4 := ih fun x hx => h x (zfa _ hx)
  have h5 := putE_len h1 (by omega) (by omega)
  simp only [zcg, zfc, ze1]
  omega
def LogS (x : Lg) : Prop := Av.I64 x.b ∧ x.c.length ≤ 65536 ∧ x.l.length ≤ 64 ∧ ∀ e ∈ x.l, EntS e
theorem putL_len {x : Lg} (h : LogS x) : (putL x).length ≤ 110000 := by
 obtain ⟨h1, h2, h3, h4⟩ := h
 have a := uz_len h1
 have b := uz_len (n := (x.c.length : Int)) ⟨by omega, by omega⟩
 have c := uz_len (n := (x.l.length : Int)) ⟨by omega, by omega⟩
 have d := putEs_len h4
 simp only [putL, zfc]
 omega
def EntW (e : Ent) : Prop := EntN e ∧ e.s.length ≤ 2000000 ∧ e.cs.length ≤ 2000000
theorem putEs_lenW {l : List Ent} (h : ∀ e ∈ l, EntW e) : (zcg l).length ≤ 4000100 * l.length := by
 induction l with
 | nil => exact zfj _
 | cons e l ih =>
  obtain ⟨h1, h2, h3⟩ := h e (ze9 ..)
  have h4 := ih fun x hx => h x (zfa _ hx)
  have h5 := putE_len h1 (by omega) (by omega)
  simp only [zcg, zfc, ze1]
  omega
def LogW (x : Lg) : Prop := Av.I64 x.b ∧ x.c.length ≤ 2000000 ∧ x.l.length ≤ 1000 ∧ ∀ e ∈ x.l, EntW e
theorem LogS.w {x : Lg} (h : LogS x) : LogW x := ⟨h.1, by have := h.2.1; omega, by have := h.2.2.1; omega, fun e he => by have := h.2.2.2 e he; exact ⟨this.1, by have := this.2.1; omega, by have := this.2.2; omega⟩⟩
theorem oPut_ok {v : V} {l : List UInt8} (hB : BufI 5 1 m m' v (l.map by8)) (nn : Bool) (x : Lg) (hx : LogW x) (hl : l.length ≤ 1000000) :
  zae Tryz.prog Γ 51 [v, lgV nn x] m' fun o m2 => ∃ v2, o = .ret v2 ∧ Buf 5 1 m m2 v2 ((l ++ putL x).map by8) := by
 have hnb := nb_lgV (k := 0) nn x
 have hnl := zbi (k := 0) nn x.l
 obtain ⟨h1, h2, h3, h4⟩ := id hx
 have hb2 := uz_len h1
 have hc2 := uz_len (n := (x.c.length : Int)) ⟨by omega, by omega⟩
 have hd2 := uz_len (n := (x.l.length : Int)) ⟨by omega, by omega⟩
 refine acalls_bu mixed F51_ok F51_h zaB hB (zaw _) (by simp only [hnb, nbS]) (zaw _) (zbE _) (zce (by simp [putL, uz_ne])) fun x0 tok hx0 => ?_
 simp only [F51, lgV, ss0, ze0, zeV]
 simp only [len_ents, zaE, ssH, zeV, zeT, reduceIte, zeU, zeZ, zeX, zeY]
 refine hcall_bh (e := 5) (size := 1) (az := [it x.b]) (by simp) rfl hx0 (zbE _) (es2 := (l ++ uz x.b).map by8) (zce (by simp [uz_ne])) (fun mm mm' w hw => zea hw h1 (by omega)) (zaw _) (by first | exact LR.nil | simp only [nbS]) (zaw _) fun k => ?_
 simp only [ze1, zfb, ssH, zeV, zeT, reduceIte, zeU, zeZ, zeX, zeY]
 refine zdu (e := 5) (j := 2) (size := 1) (az := [bs x.c]) (by simp) rfl rfl (zbE _) (es2 := (l ++ uz x.b ++ uz x.c.length ++ x.c).map by8) (zce (by simp [uz_ne])) (zce (by simp [uz_ne])) (fun mm mm' w hw => putText_ok hw (by simp; omega) (by simp; omega)) (zaw _) (by first | exact LR.nil | simp only [nbS]) (zaw _) fun k2 => ?_
 simp only [ze1, zfb, ssH, zeV, zeT, reduceIte, zeU, zeZ, zeX, zeY]
 refine zdu (e := 5) (j := 3) (size := 1) (az := [it x.l.length]) (by simp) rfl rfl (zbE _) (es2 := (l ++ uz x.b ++ uz x.c.length ++ x.c ++ uz x.l.length).map by8) (zce (by simp [uz_ne])) (zce (by simp [uz_ne])) (fun mm mm' w hw => zea (.inl hw) ⟨by omega, by omega⟩ (by simp; omega)) (zaw _) (by first | exact LR.nil | simp only [nbS]) (zaw _) fun k3 => ?_
 obtain ⟨pl, hpl⟩ : ∃ z, z = l ++ uz x.b ++ uz x.c.length ++ x.c ++ uz x.l.length := ⟨_, rfl⟩
 rw [← hpl]
 simp only [ze1, zfb, len_ents, ssH, zeV, zeT, reduceIte, zeU, zeZ, zeX, zeY]
 have hpe : l ++ putL x = pl ++ zcg x.l := by rw [hpl]; simp only [putL, zfe]
 have hpn : pl ≠ [] := by rw [hpl]; simp [uz_ne]
 have hpo : pl.length ≤ 3100000 := by rw [hpl]; simp only [zfc]; omega
 rw [hpe]
 clear hpl hpe
 have hnl2 := zbi (k := 2) nn x.l
 have back : ∀ {t' : List V} {h' : Hl} (n' i' j k : Nat), t'.length = 30 → tget t' 0 = .sl ((pl ++ zcg (x.l.take i')).map by8) [] (.tip j k) → tget t' 3 = .ptr 1 0 → tget t' 19 = zbH nn x.l → tget t' 20 = it x.l.length → tget t' 21 = it i' → lk h' 1 = some (logB nn x) → lk h' j = some (.tip 5 k) → 2 ≤ j → i' + n' = x.l.length + 1 → i' ≤ x.l.length →
   Back [0, 3, 19, 20, 21] (zfd 2 ++ [j]) 1 30 (fun vs h => ∃ (i k : Nat), vs = [.sl ((pl ++ zcg (x.l.take i)).map by8) [] (.tip 2 k), .ptr 1 0, zbH nn x.l, it x.l.length, it i] ∧ i + n' = x.l.length + 1 ∧ i ≤ x.l.length ∧ h = [none, some (logB nn x), some (.tip 5 k)]) ⟨t', h'⟩ := by
  intro t' h' n' i' j k q q0 q3 q19 q20 q21 qb qj hj hn' hi'
  refine back_tip (c := 2) (j := j) (k := k) (es := (pl ++ zcg (x.l.take i')).map by8) (more := [.ptr 1 0, zbH nn x.l, it x.l.length, it i']) [none, some (logB nn x)] q (by decide) hj (by decide) qj rfl (by simp only [zfx, q0, q3, q19, q20, q21]) (zaw _) (by simp only [hnl2, nbS]; decide) ?_ ⟨i', k, rfl, hn', hi', rfl⟩
  intro a ha y hy
  have : a = 0 ∨ a = 1 := by omega
  rcases this with rfl | rfl
  ·cases hy
  ·cases hy
   exact ⟨qb, by simp only [logB, hnl2, nbS]⟩
 refine zdv [0, 3, 19, 20, 21] 30 (fun n vs h => ∃ (i k : Nat), vs = [.sl ((pl ++ zcg (x.l.take i)).map by8) [] (.tip 2 k), .ptr 1 0, zbH nn x.l, it x.l.length, it i] ∧ i + n = x.l.length + 1 ∧ i ≤ x.l.length ∧ h = [none, some (logB nn x), some (.tip 5 k)]) (x.l.length + 1) (by decide) (by decide) (zfd 2 ++ [4]) (back (x.l.length + 1) 0 4 k3 rfl (by simp only [List.take_zero, zcg, List.append_nil]; rfl) rfl rfl rfl rfl rfl rfl (by decide) (by omega) (by omega)) ?_
 rintro n t h J hJ hlt ⟨i, k, hv, hi1, hi2, rfl⟩
 simp only [zfx, List.cons.injEq, and_true] at hv
 obtain ⟨g0, g3, g19, g20, g21⟩ := hv
 have hlen : (zcg (x.l.take i)).length ≤ 4000100 * 1000 := by
  have := putEs_lenW (l := x.l.take i) fun e he => h4 e (List.mem_of_mem_take he)
  rw [zfE] at this
  omega
 obtain ⟨pr, hpr⟩ : ∃ z, z = pl ++ zcg (x.l.take i) := ⟨_, rfl⟩
 have hprl : pr.length ≤ 5000000000 := by rw [hpr, zfc]; omega
 have hpr0 : pr ≠ [] := by rw [hpr]; simp [hpn]
 rw [← hpr] at g0
 rw [t_eq hlt]
 simp only [zat, upTo, g0, g3, g19, g20, g21, logB, ssH, zeV, zeT, reduceIte, zeU, zeZ, zeX, zeY]
 by_cases hil : i < x.l.length
 ·have hx2 : x.l[i]? = some x.l[i] := ze8 hil
  have hei : EntW x.l[i] := h4 _ (List.getElem_mem _)
  have hst : pl ++ zcg (x.l.take (i + 1)) = pr ++ putE x.l[i] := by
   rw [zfh, hx2, putEs_app, hpr]
   simp [zcg]
  generalize x.l[i] = e at hx2 hei hst
  simp only [show decide ((i : Int) < (x.l.length : Int)) = true from decide_eq_true (by omega), zbH, idx_ent hx2, zaE, ssH, zeV, zeT, reduceIte, zeU, zeZ, zeX, zeY]
  refine zdu (e := 5) (j := 2) (size := 1) (az := [entV e]) (by simp) rfl rfl (zbE _) (es2 := (pr ++ putE e).map by8) (zce hpr0) (zce (by simp [hpr0])) (fun mm mm' w hw => sPut_ok (.inl hw) e hei.1 (by have := hei.2; omega)) (zaw _) (by simp only [zdp, nbS]) (zaw _) fun k2 => ?_
  simp only [ze1, zfb, zaq (show i < 4611686018427387904 by omega), ssH, zeV, zeT, reduceIte, zeU, zeZ, zeX, zeY]
  exact ⟨_, hJ (n - 1) _ _ (by omega) (back (n - 1) (i + 1) 4 k2 rfl (by rw [hst]; rfl) rfl rfl rfl rfl rfl rfl (by decide) (by omega) (by omega))⟩
 ·simp only [show decide ((i : Int) < (x.l.length : Int)) = false from decide_eq_false (by omega), ssH, zeV, zeT, reduceIte, zeU, zeZ, zeX, zeY]
  have hie : i = x.l.length := by omega
  rw [hie, List.take_length] at hpr
  subst hpr
  exact zaf rfl ⟨2, k, rfl, rfl⟩
end
end Go.Av.Fn
/- Entries and logs got, az the program does. Conditions: az ahead. -/
namespace Go.Av
section
variable {P : Program} {Γ : Glob} {H : Nat → List (Nat × List Nat) × List Nat} {f : FuncId} {F : AFn} {gs : List Nat} {m : Store}
theorem acalls_cn (hm : P.follows .mixedOrders = true) (hF : zam P H f = some F) (hok : F.body.okH gs = true) (hG : GOk Γ gs) {rb o : Nat} {az : List V} {X : Blk} (hb : m rb = some X) (hX : nbB 0 X) (ha : nbs 0 az) {Q : V → Blk → Prop}
  (h : hawp P Γ (fun _ _ => False) 1 F.body (bodyH F.res fun v h' => nb 0 (wN v) ∧ ∃ Y, lk h' 0 = some Y ∧ nbB 0 Y ∧ Q (wN v) Y) ⟨start F.ntmps (.ptr 0 o :: az), [some X]⟩) :
  zae P Γ f (.ptr rb o :: az) m fun o m' => ∃ v Y, o = .ret v ∧ m' = m.set rb Y ∧ Q v Y := by
 have h1 := zeS (P := P) (Γ := Γ) (R0 := fun a c => a = 0 ∧ c = rb) (N := 1) (m := one rb X) hm hF hok hG (args0 := .ptr 0 o :: az) (args := .ptr rb o :: az) (.cons (.ptr o ⟨rfl, rfl⟩) (ha.up _)) (hh_one hX) (fun _ _ q => by omega) (Q := fun o h' => match o with | .ret v => nb 0 (wN v) ∧ ∃ Y, lk h' 0 = some Y ∧ nbB 0 Y ∧ Q (wN v) Y | .pan _ => False) h
 have h2 := h1.frame (one_disj rb X (m := m))
 rw [one_del hb] at h2
 refine zae.wnd (R := fun o m' => ∃ v Y, o = .ret v ∧ m' = m.set rb Y ∧ Q (wN v) Y) (zae.less h2 ?_) ?_ ?_
 ·rintro o m'' ⟨m', rfl, d, S, o0, h', s1, s2, s3, s4⟩
  cases o0 with
  | pan v => exact s4.elim
  | ret v =>
   cases o with
   | pan v' => exact s3.elim
   | ret v' =>
    obtain ⟨q1, Y, q2, q3, q4⟩ := s4
    obtain ⟨Y', g1, g2⟩ := s2.blk _ _ _ (s1 _ _ ⟨rfl, rfl⟩) q2
    obtain rfl := nbB_eq q3 g2
    have e3 : wN v' = wN v := nb_eq q1 (VR.wN s3)
    refine ⟨m.set rb Y', ?_, v', Y', rfl, rfl, by rw [e3]; exact q4⟩
    intro b x hx
    by_cases e : b = rb
    ·subst e
     rw [Store.set_same] at hx
     cases hx
     simp only [Store.or, g1]
    ·rw [Store.set_ne _ _ e] at hx
     rcases d b with q | q
     ·simp only [Store.or, q, del, if_neg e]; exact hx
     ·simp only [del, if_neg e] at q
      rw [q] at hx
      cases hx
 ·rintro v m' ⟨v', Y, e, e2, q⟩
  cases e
  exact ⟨_, Y, rfl, e2, q⟩
 ·rintro v m' ⟨v', Y, e, _⟩
  cases e
end
end Go.Av
namespace Go.Av.Fn
set_option linter.unusedSimpArgs false
set_option linter.unusedVariables false
set_option maxRecDepth 10000
open Go.Proofs
def getE (s : List UInt8) (a : Nat) (e : Int) : Ent × Nat × Int :=
 let c := rInt s a e
 let q := rInt s c.2.1 c.2.2
 let k := rInt s q.2.1 q.2.2
 let n := rInt s k.2.1 k.2.2
 let t := zeG s n.2.1 n.2.2 255
 let d := getC s t.2.1 t.2.2
 (if d.2.2 ≠ 0 then e0 else ⟨c.1, q.1, k.1, n.1, t.1, d.1.1, d.1.2.1, d.1.2.2⟩, d.2.1, d.2.2)
theorem getE_le {s : List UInt8} {a : Nat} {e : Int} (ha : a ≤ s.length) : (getE s a e).2.1 ≤ s.length := by
 unfold getE
 exact getC_le (rText_le (zcm (zcm (zcm (zcm ha)))))
section
variable {Γ : Glob} {m : Store} {rb a : Nat} {s : List UInt8} {e : Int}
set_option maxHeartbeats 1600000 in
theorem sGet_ok (L : LibOk Γ) (hr : m rb = some (rdB s a e)) (ha : a ≤ s.length) (hs : s.length ≤ 281474976710656) :
  zae Tryz.prog Γ 91 [.ptr rb 0] m fun o m' => o = .ret (entV (getE s a e).1) ∧ m' = m.set rb (rdB s (getE s a e).2.1 (getE s a e).2.2) := by
 unfold getE
 obtain ⟨c, a1, e1, h1⟩ : ∃ x y z, rInt s a e = (x, y, z) := ⟨_, _, _, rfl⟩
 have l1 := zcm (e := e) ha
 rw [h1] at l1
 obtain ⟨q, a2, e2, h2⟩ : ∃ x y z, rInt s a1 e1 = (x, y, z) := ⟨_, _, _, rfl⟩
 have l2 := zcm (e := e1) l1
 rw [h2] at l2
 obtain ⟨k, a3, e3, h3⟩ : ∃ x y z, rInt s a2 e2 = (x, y, z) := ⟨_, _, _, rfl⟩
 have l3 := zcm (e := e2) l2
 rw [h3] at l3
 obtain ⟨n, a4, e4, h4⟩ : ∃ x y z, rInt s a3 e3 = (x, y, z) := ⟨_, _, _, rfl⟩
 have l4 := zcm (e := e3) l3
 rw [h4] at l4
 obtain ⟨t, a5, e5, h5⟩ : ∃ x y z, zeG s a4 e4 255 = (x, y, z) := ⟨_, _, _, rfl⟩
 have l5 := rText_le (most := 255) (e := e4) l4
 rw [h5] at l5
 obtain ⟨⟨dk, dn, dt⟩, a6, e6, h6⟩ : ∃ x y z, getC s a5 e5 = (x, y, z) := ⟨_, _, _, rfl⟩
 simp only at l1 l2 l3 l4 l5
 simp only [h1, h2, h3, h4, h5, h6]
 refine zdB (zc7 mixed F91_ok F91_h zaB hr zaU (by first | exact LR.nil | simp only [nbS]) ?_)
 simp only [F91, ss0, ze0, zeV]
 simp only [ssH, zeV, zeT, reduceIte, zeU, zeZ, zeX, zeY]
 refine zas (b := 0) (X := rdB s a e) rfl rfl (fun m b' h => wInt_ok h ha (by omega)) zaU zaU (by first | exact LR.nil | simp only [nbS]) (by first | exact LR.nil | simp only [nbS]) ?_
 simp only [h1, ssH, zeV, zeT, reduceIte, zeU, zeZ, zeX, zeY]
 refine zas (b := 0) (X := rdB s a1 e1) rfl rfl (fun m b' h => wInt_ok h l1 (by omega)) zaU zaU (by first | exact LR.nil | simp only [nbS]) (by first | exact LR.nil | simp only [nbS]) ?_
 simp only [h2, ssH, zeV, zeT, reduceIte, zeU, zeZ, zeX, zeY]
 refine zas (b := 0) (X := rdB s a2 e2) rfl rfl (fun m b' h => wInt_ok h l2 (by omega)) zaU zaU (by first | exact LR.nil | simp only [nbS]) (by first | exact LR.nil | simp only [nbS]) ?_
 simp only [h3, ssH, zeV, zeT, reduceIte, zeU, zeZ, zeX, zeY]
 refine zas (b := 0) (X := rdB s a3 e3) rfl rfl (fun m b' h => wInt_ok h l3 (by omega)) zaU zaU (by first | exact LR.nil | simp only [nbS]) (by first | exact LR.nil | simp only [nbS]) ?_
 simp only [h4, ssH, zeV, zeT, reduceIte, zeU, zeZ, zeX, zeY]
 refine zas (b := 0) (az := [it 255]) (X := rdB s a4 e4) rfl rfl (fun m b' h => wText_ok L 255 h l4 hs) zaU zaU (by first | exact LR.nil | simp only [nbS]) (by first | exact LR.nil | simp only [nbS]) ?_
 simp only [h5, ssH, zeV, zeT, reduceIte, zeU, zeZ, zeX, zeY]
 refine zas (b := 0) (X := rdB s a5 e5) rfl rfl (fun m b' h => get_ok L h l5 hs) zaU zaU (by first | exact LR.nil | simp only [nbS]) (nb_cmdT _) ?_
 simp only [h6, cmdT, cmdV, zaE, ssH, zeV, zeT, reduceIte, zeU, zeZ, zeX, zeY]
 refine zau (b := 0) rfl rfl (fun m b' h => wErr_ok h) zaU (by first | exact LR.nil | simp only [nbS]) (by first | exact LR.nil | simp only [nbS]) ?_
 cases he : (e6 != 0)
 ·have h0 : e6 = 0 := by simpa using he
  subst h0
  simp only [he, zaE, ssH, zeV, zeT, reduceIte, zeU, zeZ, zeX, zeY]
  exact zaf (v := entV ⟨c, q, k, n, t, dk, dn, dt⟩) rfl ⟨zdp _, _, rfl, zaU, by simp, rfl⟩
 ·have h0 : e6 ≠ 0 := by simpa using he
  simp only [he, zaE, ssH, zeV, zeT, reduceIte, zeU, zeZ, zeX, zeY]
  exact zaf (v := entV e0) rfl ⟨zdp _, _, rfl, zaU, by rw [if_pos h0], rfl⟩
def getEs : Nat → List UInt8 → Nat → Int → List Ent × Nat × Int
 | 0, _, a, e => ([], a, e)
 | n + 1, s, a, e => if e = 0 then ((getE s a e).1 :: (getEs n s (getE s a e).2.1 (getE s a e).2.2).1, (getEs n s (getE s a e).2.1 (getE s a e).2.2).2) else ([], a, e)
theorem getEs_bad {n : Nat} {s : List UInt8} {a : Nat} {e : Int} (h : e ≠ 0) : getEs n s a e = ([], a, e) := by
 cases n with
 | zero => rfl
 | succ n => rw [getEs, if_neg h]
def getL (s : List UInt8) (a : Nat) (e : Int) : Lg × Nat × Int :=
 let b := rInt s a e
 let c := zeG s b.2.1 b.2.2 65536
 let n := zdm s c.2.1 c.2.2 1048576
 let r := getEs n.1.toNat s n.2.1 n.2.2
 (if r.2.2 ≠ 0 then lg0 else ⟨b.1, c.1, r.1⟩, r.2.1, r.2.2)
theorem rCount_rng {s : List UInt8} {a : Nat} {e : Int} : 0 ≤ (zdm s a e 1048576).1 ∧ (zdm s a e 1048576).1 ≤ 1048576 := by
 have hc : (zbr (s.drop a) 1048576).1 ≤ 1048576 := by
  unfold zbr
  (repeat' split) <;> simp <;> omega
 have := (countL_le (s.drop a) 1048576).2.1
 unfold zdm
 (repeat' split) <;> simp <;> omega
def Bo (out : List Ent) (tok : Tok) (r : Hl) : Prop := tok = .full ∧ out = [] ∧ r = [] ∨ ∃ k, tok = .tip 3 k ∧ out ≠ [] ∧ r = [some (.tip 60 k)]
theorem bo_app {Kp : V → Hl → Prop} {s : List (Tmp × Option (Tmp × Bool) × AOp)} {l : List Item} {K : HS → Prop} {t : List V} {d : Option Tmp} {X0 X1 X2 : Option Blk} {out : List Ent} {tok : Tok} {r : Hl} {e : Ent} (h : Bo out tok r) (hb : out.length ≤ 1500000)
  (hr : ∀ k, hth Tryz.prog Γ Kp s l K (hput t [X0, X1, X2, some (.tip 60 k)] d (some (.sl ((out ++ [e]).map entV) [] (.tip 3 k))))) : happS Tryz.prog Γ Kp 60 80 8 (.sl (out.map entV) [] tok) (.sl [entV e] [] .full) d s l K t (X0 :: X1 :: X2 :: r) := by
 have he : zev 8 [entV e] = true := rfl
 rw [List.map_append] at hr
 rcases h with ⟨rfl, rfl, rfl⟩ | ⟨k, rfl, h0, rfl⟩
 ·exact happ_full (ys := [entV e]) rfl (by simp) (by simp) rfl he (by simp) (hr 0)
 ·exact happ_tip (j := 3) (k := k) (x := .sl [entV e] [] .full) (ys := [entV e]) rfl (by simp) (by simpa using h0) rfl (szOk_ents out) he (by simp; omega) (hr (k + 1))
theorem bo_wN {out : List Ent} {tok : Tok} {r : Hl} (h : Bo out tok r) : wN (.sl (out.map entV) [] tok) = entsN out := by
 rcases h with ⟨rfl, rfl, rfl⟩ | ⟨k, rfl, h0, rfl⟩
 ·rfl
 ·rw [wN_some (.inl h0), entsN]
  cases out with
  | nil => exact absurd rfl h0
  | cons e l => rfl
theorem bo_nb {out : List Ent} {tok : Tok} {r : Hl} (h : Bo out tok r) : nb (3 + r.length) (.sl (out.map entV) [] tok) := by
 rcases h with ⟨rfl, rfl, rfl⟩ | ⟨k, rfl, _, rfl⟩
 ·simp only [List.map_nil, nbS]
 ·have := nbs_map (k := 4) zdp out
  simp only [ze1, zfb, this, nbS]
  decide
theorem bo_len {out : List Ent} {tok : Tok} {r : Hl} (h : Bo out tok r) : r.length ≤ 1 := by
 rcases h with ⟨rfl, rfl, rfl⟩ | ⟨k, rfl, _, rfl⟩ <;> simp
def lgZ : Blk := .var 56 [it 0, bs [], .sl [] [] .full]
def lgT (b : Int) (c : List UInt8) (out : List Ent) (tok : Tok) : Blk := .var 56 [it b, bs c, .sl (out.map entV) [] tok]
theorem bo_blk {b : Int} {c : List UInt8} {out : List Ent} {tok : Tok} {r : Hl} (h : Bo out tok r) : ∀ i < 3 + r.length, ∀ x, lk (some (rdB s a e) :: some lgZ :: some (lgT b c out tok) :: r) i = some x → nbB (3 + r.length) x := by
 intro i hi x hx
 have hv := bo_nb h
 have : i = 0 ∨ i = 1 ∨ i = 2 ∨ i = 3 := by have := bo_len h; omega
 rcases this with rfl | rfl | rfl | rfl
 ·cases hx; exact zaU
 ·cases hx; simp only [lgZ, nbS]
 ·cases hx; simp only [lgT, hv, nbS]
 ·rcases h with ⟨rfl, rfl, rfl⟩ | ⟨k, rfl, _, rfl⟩
  ·cases hx
  ·cases hx; simp only [nbS]
set_option maxHeartbeats 1600000 in
theorem oGet_ok (L : LibOk Γ) (hr : m rb = some (rdB s a e)) (ha : a ≤ s.length) (hs : s.length ≤ 281474976710656) :
  zae Tryz.prog Γ 49 [.ptr rb 0] m fun o m' => o = .ret (lgN (getL s a e).1) ∧ m' = m.set rb (rdB s (getL s a e).2.1 (getL s a e).2.2) := by
 unfold getL
 obtain ⟨b, a1, e1, h1⟩ : ∃ x y z, rInt s a e = (x, y, z) := ⟨_, _, _, rfl⟩
 have l1 := zcm (e := e) ha
 rw [h1] at l1
 obtain ⟨c, a2, e2, h2⟩ : ∃ x y z, zeG s a1 e1 65536 = (x, y, z) := ⟨_, _, _, rfl⟩
 have l2 := rText_le (most := 65536) (e := e1) l1
 rw [h2] at l2
 have hcr := rCount_rng (s := s) (a := a2) (e := e2)
 obtain ⟨n0, a3, e3, h3⟩ : ∃ x y z, zdm s a2 e2 1048576 = (x, y, z) := ⟨_, _, _, rfl⟩
 have l3 := rCount_le (most := 1048576) (e := e2) l2
 rw [h3] at l3 hcr
 simp only at l1 l2 l3 hcr
 obtain ⟨n1, rfl⟩ := Int.eq_ofNat_of_zero_le hcr.1
 simp only [h1, h2, h3, Int.toNat_natCast]
 have hn1 : n1 ≤ 1048576 := by omega
 refine zdB (acalls_cn mixed F49_ok F49_h zaB hr zaU (by first | exact LR.nil | simp only [nbS]) ?_)
 simp only [F49, ss0, ze0, zeV]
 simp only [ssH, zeV, zeT, reduceIte, zeU, zeZ, zeX, zeY]
 refine zas (b := 0) (X := rdB s a e) rfl rfl (fun m b' h => wInt_ok h ha (by omega)) zaU zaU (by first | exact LR.nil | simp only [nbS]) (by first | exact LR.nil | simp only [nbS]) ?_
 simp only [h1, ssH, zeV, zeT, reduceIte, zeU, zeZ, zeX, zeY]
 refine zas (b := 0) (az := [it 65536]) (X := rdB s a1 e1) rfl rfl (fun m b' h => wText_ok L 65536 h l1 hs) zaU zaU (by first | exact LR.nil | simp only [nbS]) (by first | exact LR.nil | simp only [nbS]) ?_
 simp only [h2, zaE, ssH, zeV, zeT, reduceIte, zeU, zeZ, zeX, zeY]
 refine zas (b := 0) (az := [it 1048576]) (X := rdB s a2 e2) rfl rfl (fun m b' h => wCount_ok 1048576 h l2 hs) zaU zaU (by first | exact LR.nil | simp only [nbS]) (by first | exact LR.nil | simp only [nbS]) ?_
 simp only [h3, ssH, zeV, zeT, reduceIte, zeU, zeZ, zeX, zeY]
 generalize hQ : zc4 0 _ = Q
 have tail : ∀ {t' : List V} {a : Nat} {e : Int} {out : List Ent} {tok : Tok} {r : Hl}, t'.length = 33 → tget t' 0 = .ptr 0 0 → tget t' 2 = .ptr 1 0 → tget t' 3 = .ptr 2 0 → Bo out tok r → getEs n1 s a3 e3 = (out, a, e) →
   Q (.exit 0) ⟨t', some (rdB s a e) :: some lgZ :: some (lgT b c out tok) :: r⟩ := by
  intro t' a e out tok r hlt q0 q2 q3 hB hg
  rw [← hQ, t_eq hlt]
  simp only [zat, upTo, q0, q2, q3, hg, lgZ, lgT, ssH, zeV, zeT, reduceIte, zeU, zeZ, zeX, zeY]
  refine zau (b := 0) (X := rdB s a e) rfl rfl (fun m b' h => wErr_ok h) zaU (by first | exact LR.nil | simp only [nbS]) (by first | exact LR.nil | simp only [nbS]) ?_
  cases he : (e != 0)
  ·have h0 : e = 0 := by simpa using he
   subst h0
   have hw : wN (.agg [it b, bs c, .sl (out.map entV) [] tok]) = lgN ⟨b, c, out⟩ := by
    have := bo_wN hB
    simp only [wN, wNs] at this ⊢
    rw [this]
    rfl
   simp only [he, zaE, ssH, zeV, zeT, reduceIte, zeU, zeZ, zeX, zeY]
   exact zaf (v := .agg [it b, bs c, .sl (out.map entV) [] tok]) rfl ⟨by rw [hw]; exact nb_lgN, _, rfl, zaU, by rw [hw, if_neg (by simp)], rfl⟩
  ·have h0 : e ≠ 0 := by simpa using he
   simp only [he, zaE, ssH, zeV, zeT, reduceIte, zeU, zeZ, zeX, zeY]
   exact zaf (v := .agg [it 0, bs [], .sl [] [] .full]) rfl ⟨nb_lgN (x := lg0), _, rfl, zaU, by rw [if_pos h0]; rfl, rfl⟩
 refine zdv [0, 2, 3, 4] 33 (fun n vs h => ∃ (j a : Nat) (e : Int) (out : List Ent) (tok : Tok) (r : Hl), vs = [.ptr 0 0, .ptr 1 0, .ptr 2 0, it j] ∧ h = some (rdB s a e) :: some lgZ :: some (lgT b c out tok) :: r ∧ Bo out tok r ∧ a ≤ s.length ∧ n = j + 1 ∧ j + out.length ≤ n1 ∧ getEs n1 s a3 e3 = (out ++ (getEs j s a e).1, (getEs j s a e).2)) (n1 + 1) (by decide) (by decide) (zfd 3) (zaC rfl (by decide) (by decide) (by simp) ?_ ?_ ⟨n1, a3, e3, [], .full, [], rfl, rfl, .inl ⟨rfl, rfl, rfl⟩, l3, rfl, by simp, rfl⟩) ?_
 ·show nbs 3 [.ptr 0 0, .ptr 1 0, .ptr 2 0, it n1]
  simp only [nbS]
  decide
 ·exact bo_blk (r := []) (.inl ⟨rfl, rfl, rfl⟩)
 rintro n t h J hJ hlt ⟨j, a, e, out, tok, r, hv, rfl, hB, hle, hn, hjo, hg⟩
 simp only [zfx, List.cons.injEq, and_true] at hv
 obtain ⟨g0, g2, g3, g4⟩ := hv
 rw [t_eq hlt]
 simp only [zat, upTo, g0, g2, g3, g4, gt_iff_lt, ssH, zeV, zeT, reduceIte, zeU, zeZ, zeX, zeY]
 by_cases hj : 0 < j
 ·simp only [show decide ((0 : Int) < (j : Int)) = true from decide_eq_true (by omega), ssH, zeV, zeT, reduceIte, zeU, zeZ, zeX, zeY]
  refine zau (b := 0) (X := rdB s a e) rfl rfl (fun m b' h => wErr_ok h) zaU (by first | exact LR.nil | simp only [nbS]) (by first | exact LR.nil | simp only [nbS]) ?_
  cases he : (e == 0)
  ·have h0 : e ≠ 0 := by simpa using he
   rw [getEs_bad h0] at hg
   simp only [he, ssH, zeV, zeT, reduceIte, zeU, zeZ, zeX, zeY]
   exact tail rfl rfl rfl rfl hB (by rw [hg, List.append_nil])
  ·have h0 : e = 0 := by simpa using he
   subst h0
   obtain ⟨j, rfl⟩ : ∃ i, j = i + 1 := ⟨j - 1, by omega⟩
   have l4 := getE_le (e := 0) hle
   obtain ⟨x, a4, e4, h4⟩ : ∃ x y z, getE s a 0 = (x, y, z) := ⟨_, _, _, rfl⟩
   rw [getEs, if_pos rfl, h4] at hg
   rw [h4] at l4
   have hw : IntKind.i64.wrap (((j + 1 : Nat) : Int) - 1) = (j : Int) := by rw [wrap_i64 (by omega) (by omega)]; omega
   simp only [he, lgT, ssH, zeV, zeT, reduceIte, zeU, zeZ, zeX, zeY]
   refine zas (b := 0) (X := rdB s a 0) rfl rfl (fun m b' h => sGet_ok L h hle hs) zaU zaU (by first | exact LR.nil | simp only [nbS]) (zdp _) ?_
   simp only [h4, entV, litE_eq, litE_ent, ssH, zeV, zeT, reduceIte, zeU, zeZ, zeX, zeY]
   refine bo_app hB (by omega) fun k => ?_
   simp only [zeM, oneV_sl, hw, ssH, zeV, zeT, reduceIte, zeU, zeZ, zeX, zeY]
   have hB2 : Bo (out ++ [x]) (.tip 3 k) [some (.tip 60 k)] := .inr ⟨k, rfl, by simp, rfl⟩
   refine ⟨_, hJ (j + 1) (zfd 4) _ (by omega) (zaC rfl (by decide) (by decide) (by simp) ?_ (bo_blk hB2 (s := s) (a := a4) (e := e4) (b := b) (c := c)) ⟨j, a4, e4, out ++ [x], .tip 3 k, _, rfl, rfl, hB2, l4, rfl, by simp; omega, by rw [hg]; simp⟩)⟩
   show nbs 4 [.ptr 0 0, .ptr 1 0, .ptr 2 0, it j]
   simp only [nbS]
   decide
 ·have hj0 : j = 0 := by omega
  subst hj0
  simp only [show decide ((0 : Int) < ((0 : Nat) : Int)) = false from rfl, ssH, zeV, zeT, reduceIte, zeU, zeZ, zeX, zeY]
  rw [getEs] at hg
  exact tail rfl rfl rfl rfl hB (by rw [hg, List.append_nil])
end
theorem gI {s p r : List UInt8} {n : Int} (hn : Av.I64 n) (h : s = p ++ (uz n ++ r)) : rInt s p.length 0 = (n, (p ++ uz n).length, 0) ∧ s = (p ++ uz n) ++ r := by
 refine ⟨?_, by rw [h, zfe]⟩
 rw [h, zfc]
 exact rInt_put hn p r
theorem gT {s p r x : List UInt8} (most : Nat) (hx : x.length ≤ most) (hm : most < 9223372036854775808) (h : s = p ++ (uz x.length ++ (x ++ r))) : zeG s p.length 0 most = (x, (p ++ uz x.length ++ x).length, 0) ∧ s = (p ++ uz x.length ++ x) ++ r := by
 refine ⟨?_, by rw [h]; simp only [zfe]⟩
 have := rText_put (s := x) (by omega) p r most
 rw [if_neg (by omega)] at this
 rw [h, show (p ++ uz x.length ++ x).length = p.length + ((uz x.length).length + x.length) by simp only [zfc]; omega]
 exact this
theorem gN {s p r : List UInt8} {n : Nat} (hn : n ≤ 1048576) (h : s = p ++ (uz n ++ r)) : zdm s p.length 0 1048576 = ((n : Int), (p ++ uz n).length, 0) ∧ s = (p ++ uz n) ++ r := by
 refine ⟨?_, by rw [h, zfe]⟩
 have hi : Av.I64 (n : Int) := ⟨by omega, by omega⟩
 have := countL_put hi r 1048576 (by decide)
 rw [if_neg (by omega)] at this
 have e : s.drop p.length = Lib.uvarint (Lib.zigzag n) ++ r := by rw [h, drop_mid]; rfl
 unfold zdm
 simp only [e, this]
 simp [uz]
theorem gC {s p r x : List UInt8} {k n : Int} (hk : Av.I64 k) (hn : Av.I64 n) (hx : x.length ≤ 255) (h : s = p ++ (putC k n x ++ r)) : getC s p.length 0 = ((k, n, x), (p ++ putC k n x).length, 0) ∧ s = (p ++ putC k n x) ++ r := by
 refine ⟨?_, by rw [h, zfe]⟩
 rw [h, zfc]
 exact getC_put hk hn hx p r
theorem gE {s p r : List UInt8} {e : Ent} (he : EntS e) (h : s = p ++ (putE e ++ r)) : getE s p.length 0 = (e, (p ++ putE e).length, 0) ∧ s = (p ++ putE e) ++ r := by
 refine ⟨?_, by rw [h, zfe]⟩
 obtain ⟨⟨h1, h2, h3, h4, h5, h6⟩, hs, hc⟩ := he
 have e0 : s = p ++ (uz e.c ++ (uz e.q ++ (uz e.k ++ (uz e.n ++ (uz e.s.length ++ (e.s ++ (putC e.ck e.cn e.cs ++ r))))))) := by
  rw [h]
  simp only [putE, zb5, zfe, List.append_nil]
 obtain ⟨a1, b1⟩ := gI h1 e0
 obtain ⟨a2, b2⟩ := gI h2 b1
 obtain ⟨a3, b3⟩ := gI h3 b2
 obtain ⟨a4, b4⟩ := gI h4 b3
 obtain ⟨a5, b5⟩ := gT 255 hs (by decide) b4
 obtain ⟨a6, b6⟩ := gC h5 h6 hc b5
 unfold getE
 simp only [a1, a2, a3, a4, show zeG s (p ++ uz e.c ++ uz e.q ++ uz e.k ++ uz e.n).length 0 255 = _ from a5, a6]
 refine Prod.ext (by simp) (Prod.ext ?_ rfl)
 simp only [putE, zb5, zfc, zfb]
 omega
theorem gEs : ∀ {l : List Ent} {s p r : List UInt8}, (∀ e ∈ l, EntS e) → s = p ++ (zcg l ++ r) → getEs l.length s p.length 0 = (l, (p ++ zcg l).length, 0) ∧ s = (p ++ zcg l) ++ r
 | [], s, p, r, _, h => ⟨by simp [getEs, zcg], by rw [h]; simp [zcg]⟩
 | e :: l, s, p, r, he, h => by
  refine ⟨?_, by rw [h, zfe]⟩
  obtain ⟨a1, b1⟩ := gE (he e (ze9 ..)) (h.trans (by rw [zcg, zfe]) : s = p ++ (putE e ++ (zcg l ++ r)))
  obtain ⟨a2, b2⟩ := gEs (fun x hx => he x (zfa _ hx)) b1
  rw [ze1, getEs, if_pos rfl, a1]
  simp only
  rw [a2]
  simp only [zcg, zfe]
theorem gL {s p r : List UInt8} {x : Lg} (hx : LogS x) (h : s = p ++ (putL x ++ r)) : getL s p.length 0 = (x, (p ++ putL x).length, 0) := by
 obtain ⟨h1, h2, h3, h4⟩ := hx
 have e0 : s = p ++ (uz x.b ++ (uz x.c.length ++ (x.c ++ (uz x.l.length ++ (zcg x.l ++ r))))) := by
  rw [h]
  simp only [putL, zfe]
 obtain ⟨a1, b1⟩ := gI h1 e0
 obtain ⟨a2, b2⟩ := gT 65536 h2 (by decide) b1
 obtain ⟨a3, b3⟩ := gN (by omega) b2
 obtain ⟨a4, b4⟩ := gEs h4 b3
 unfold getL
 simp only [a1, show zeG s (p ++ uz x.b).length 0 65536 = _ from a2, a3, Int.toNat_natCast, a4]
 refine Prod.ext (by simp) (Prod.ext ?_ rfl)
 simp only [putL, zfc]
 omega
theorem entB_len {e : Ent} (h : entB e = true) : e.s.length ≤ 255 ∧ e.cs.length ≤ 255 := by
 unfold entB at h
 rw [ze2] at h
 have hno : ∀ e : Ent, noCmd e = true → e.cs.length ≤ 255 := by
  intro e h
  simp only [noCmd, decide_eq_true_eq] at h
  rw [h.2.2]
  decide
 have hs0 : ∀ s : List UInt8, (s == []) = true → s.length ≤ 255 := by
  intro s h
  have : s = [] := by simpa using h
  rw [this]
  decide
 have h2 := h.2
 split at h2
 ·simp only [ze2] at h2
  exact ⟨by have := h2.1.1; unfold nameB at this; simp only [ze2, decide_eq_true_eq] at this; omega, hno e h2.2⟩
 ·split at h2
  ·simp only [ze2] at h2
   exact ⟨hs0 _ h2.1.1, hno e h2.2⟩
  ·split at h2
   ·simp only [ze2] at h2
    exact ⟨hs0 _ h2.1.1, hno e h2.2⟩
   ·split at h2
    ·simp only [ze2] at h2
     exact ⟨hs0 _ h2.1.1, (right_len h2.2).1⟩
    ·exact absurd h2 (by decide)
theorem logS_of {x : Lg} (h : lgB x = true) (hb : Av.I64 x.b) (he : ∀ e ∈ x.l, EntN e) : LogS x := by
 simp only [lgB, ze2, decide_eq_true_eq] at h
 refine ⟨hb, by omega, by omega, fun e hx => ⟨he e hx, ?_⟩⟩
 exact entB_len (List.all_eq_true.1 h.2 e hx)
theorem lgB_iff {x : Lg} : lgB x = true ↔ 0 ≤ x.b ∧ x.b ≤ 2147483647 ∧ x.c.length ≤ 65536 ∧ (x.c = [] ↔ x.b = 0) ∧ x.l.length ≤ 64 ∧ (x.l.length : Int) ≤ 2147483647 - x.b ∧ ∀ e ∈ x.l, entB e = true := by
 simp only [lgB, ze2, decide_eq_true_eq, List.all_eq_true, beq_iff_eq, and_assoc]
 have : ((x.c == []) = (x.b == 0)) ↔ (x.c = [] ↔ x.b = 0) := by
  rw [Bool.eq_iff_iff]
  simp
 rw [this]
structure Inv (nn : Bool) (x : Lg) (L : List Ent) : Prop where
 nil : nn = true ∨ x.l = []
 right : lgB x = true
 len : x.b + x.l.length = L.length
 ent : x.l = L.drop x.b.toNat
 nums : ∀ e ∈ x.l, EntN e
theorem Inv.base {nn : Bool} {x : Lg} {L : List Ent} (h : Inv nn x L) : 0 ≤ x.b ∧ x.b ≤ L.length ∧ x.l.length ≤ 64 ∧ x.b ≤ 2147483647 := by
 have h1 := lgB_iff.1 h.right
 have h2 := h.len
 omega
theorem Inv.cut {nn : Bool} {x : Lg} {L : List Ent} (h : Inv nn x L) {n : Nat} (hn : n ≤ x.l.length) : Inv nn ⟨x.b, x.c, x.l.take n⟩ (L.take (x.b + n).toNat) := by
 have hb := h.base
 have hr := lgB_iff.1 h.right
 have hl := h.len
 refine ⟨h.nil.imp id fun q => by simp [q], lgB_iff.2 ⟨hr.1, hr.2.1, hr.2.2.1, hr.2.2.2.1, ?_, ?_, ?_⟩, ?_, ?_, ?_⟩
 ·simp only [zfE]; omega
 ·simp only [zfE]; omega
 ·exact fun e he => hr.2.2.2.2.2.2 e (List.mem_of_mem_take he)
 ·show x.b + ((x.l.take n).length : Int) = ((L.take (x.b + n).toNat).length : Int)
  simp only [zfE]
  omega
 ·show x.l.take n = (L.take (x.b + n).toNat).drop x.b.toNat
  rw [h.ent, List.drop_take, show (x.b + (n : Int)).toNat - x.b.toNat = n by omega]
 ·exact fun e he => h.nums e (List.mem_of_mem_take he)
theorem Inv.comp {nn : Bool} {x : Lg} {L : List Ent} (h : Inv nn x L) {n : Nat} (hn : n ≤ x.l.length) (h0 : 0 < n) : Inv nn ⟨x.b + n, [99], x.l.drop n⟩ L := by
 have hb := h.base
 have hr := lgB_iff.1 h.right
 have hl := h.len
 refine ⟨h.nil.imp id fun q => by simp [q], lgB_iff.2 ⟨?_, ?_, ?_, ?_, ?_, ?_, ?_⟩, ?_, ?_, ?_⟩
 ·simp only; omega
 ·simp only; omega
 ·simp
 ·simp only [List.cons_ne_nil, false_iff]; omega
 ·simp; omega
 ·simp; omega
 ·exact fun e he => hr.2.2.2.2.2.2 e (List.mem_of_mem_drop he)
 ·simp; omega
 ·show x.l.drop n = L.drop (x.b + n).toNat
  rw [h.ent, List.drop_drop]
  congr 1
  omega
 ·exact fun e he => h.nums e (List.mem_of_mem_drop he)
theorem Inv.app {nn : Bool} {x : Lg} {L : List Ent} (h : Inv nn x L) {e : Ent} (he : entB e = true) (hn : EntN e) (h1 : x.l.length < 64) (h2 : x.b + x.l.length < 2147483647) : Inv true ⟨x.b, x.c, x.l ++ [e]⟩ (L ++ [e]) := by
 have hb := h.base
 have hr := lgB_iff.1 h.right
 have hl := h.len
 refine ⟨.inl rfl, lgB_iff.2 ⟨hr.1, hr.2.1, hr.2.2.1, hr.2.2.2.1, ?_, ?_, ?_⟩, ?_, ?_, ?_⟩
 ·simp; omega
 ·simp; omega
 ·intro y hy
  rcases List.mem_append.1 hy with q | q
  ·exact hr.2.2.2.2.2.2 y q
  ·rw [List.mem_singleton.1 q]; exact he
 ·simp; omega
 ·show x.l ++ [e] = (L ++ [e]).drop x.b.toNat
  rw [List.drop_append_of_le_length (by omega), ← h.ent]
 ·intro y hy
  rcases List.mem_append.1 hy with q | q
  ·exact h.nums y q
  ·rw [List.mem_singleton.1 q]; exact hn
theorem Inv.again {nn : Bool} {x : Lg} {L : List Ent} (h : Inv nn x L) : Inv (!x.l.isEmpty) x L := ⟨entsN_nil, h.right, h.len, h.ent, h.nums⟩
end Go.Av.Fn
/- A log az a list of all entries: slices that are cut and put behind. No condition. -/
namespace Go.Av
def TokC (k : Tok) : Prop := TokR (fun _ _ => False) k k
def TokA (k : Tok) : Prop := TokC k ∨ ∃ j v, k = .tip j v ∧ 1 ≤ j
def Tok1 (k : Tok) : Prop := TokC k ∨ ∃ v, k = .tip 1 v
theorem Tok1.a {k : Tok} (h : Tok1 k) : TokA k := h.imp id fun ⟨v, e⟩ => ⟨1, v, e, zfj _⟩
section
variable {t : List V} {h : Hl}
end
end Go.Av
namespace Go.Av.Fn
set_option linter.unusedSimpArgs false
set_option linter.unusedVariables false
set_option maxRecDepth 10000
open Go.Proofs
structure Act where
 k : Int
 op : Int
 e : Ent
section
variable {Γ : Glob} {m : Store}
end
section
variable {Γ : Glob} {m : Store}
set_option maxHeartbeats 3200000 in
theorem oplogBack_ok (E : Env Γ) (nn : Bool) (x : Lg) (l : List UInt8) (hb : Av.I64 x.b) (he : ∀ e ∈ x.l, EntN e) (hl : l.length ≤ 140737488351232) : zae Tryz.prog Γ 13 [lgV nn x, .sl (l.map by8) [] .no] m fun o m' => o = .ret (.val (.bool true)) ∧ m' = m := by
 have hnb := nb_lgV (k := 0) nn x
 have hnl := zbi (k := 0) nn x.l
 refine zaO (zaP mixed F13_ok F13_h zaB (by simp only [hnb, nbS]) ?_)
 simp only [F13, lgV, ss0, ze0, zeV]
 simp only [zaE, ssH, zeV, zeT, reduceIte, zeU, zeZ, zeX, zeY]
 refine zar (by exact fun m => pCheck_ok E nn x) (by simp only [hnl, nbS]) (by first | exact LR.nil | simp only [nbS]) ?_
 cases hx : lgB x
 ·simp only [ze3, if_false, zaE, ssH, zeV, zeT, reduceIte, zeU, zeZ, zeX, zeY]
  refine zar (by exact fun m => rRight20_ok nn x) (by simp only [hnl, nbS]) (by first | exact LR.nil | simp only [nbS]) ?_
  simp only [hx, ssH, zeV, zeT, reduceIte, zeU, zeZ, zeX, zeY]
  refine zar (v := .val (.bool true)) (by exact fun m => lives20_ok) (by first | exact LR.nil | simp only [nbS]) (by first | exact LR.nil | simp only [nbS]) ?_
  simp only [ssH, zeV, zeT, reduceIte, zeU, zeZ, zeX, zeY]
  exact fin6 rfl
 have hS := logS_of hx hb he
 have hpl := putL_len hS
 have hpn : putL x ≠ [] := by simp [putL, uz_ne]
 have hg := gL (s := putL x ++ l) (p := []) (r := l) hS rfl
 simp only [zfb, List.nil_append] at hg
 have hput : ∀ m, zae Tryz.prog Γ 51 [.sl [] [] .full, lgV nn x] m fun o m2 => ∃ v2, o = .ret v2 ∧ Buf 5 1 m m2 v2 ((putL x).map by8) := by
  intro m
  have := oPut_ok (Γ := Γ) (m := m) (l := []) (.inl Buf.start) nn x hS.w (by simp)
  simpa only [List.nil_append] using this
 simp only [if_true, zaE, ssH, zeV, zeT, reduceIte, zeU, zeZ, zeX, zeY]
 refine hcall_buf0 (e := 5) (size := 1) (az := [lgV nn x]) (by simp only [ze1, zfb, zeV, zeZ]) rfl (zce hpn) hput (by simp only [nb_lgV, nbS]) (zaw _) fun k => ?_
 simp only [lits_zero, ssH, zeV, zeT, reduceIte, zeU, zeZ, zeX, zeY]
 refine happ_zero (ys := (putL x).map by8) rfl (zce hpn) (by simp only [ze1, zfb, zeV, zeZ]) rfl (elemsB_by8 _) (by simp; omega) ?_
 simp only [ssH, zeV, zeT, reduceIte, zeU, zeZ, zeX, zeY]
 refine happ_tipsB (ys := l.map by8) rfl (zce hpn) rfl (zbE _) (elemsB_by8 _) (.inr ⟨rfl, by simp; omega⟩) (fun j2 _ => ?_)
 rw [← List.map_append]
 simp only [ssH, zeV, zeT, reduceIte, zeU, zeZ, zeX, zeY]
 refine hcall_newsl (Y := rdB (putL x ++ l) 0 0) (by simp only [ze1, zfb, zeV, zeZ]) rfl (fun m tok => wNew_ok) (zaw _) (by first | exact LR.nil | simp only [nbS]) (by first | exact LR.nil | simp only [nbS]) zaU ?_
 simp only [ptr_nn, ssH, zeV, zeT, reduceIte, zeU, zeZ, zeX, zeY]
 refine zas (b := 3) (X := rdB (putL x ++ l) 0 0) rfl rfl (fun m b' h => oGet_ok E.lib h (Nat.zero_le _) (by simp; omega)) zaU zaU (by first | exact LR.nil | simp only [nbS]) nb_lgN ?_
 simp only [hg, lgN, lgV, zaE, oneV_ents, ssH, zeV, zeT, reduceIte, zeU, zeZ, zeX, zeY]
 refine zar (v := .val (.bool true)) (by exact fun m => rSame_ok _ _ x (by have := hS.2.2.1; omega)) (by simp only [zbi, nbS]) (by first | exact LR.nil | simp only [nbS]) ?_
 simp only [ssH, zeV, zeT, reduceIte, zeU, zeZ, zeX, zeY]
 refine zau (b := 3) (X := rdB (putL x ++ l) (putL x).length 0) rfl rfl (fun m b' h => wAt_ok h) zaU (by first | exact LR.nil | simp only [nbS]) (by first | exact LR.nil | simp only [nbS]) ?_
 simp only [zcb, zfk, beq_self_eq_true, ssH, zeV, zeT, reduceIte, zeU, zeZ, zeX, zeY]
 refine zau (b := 3) (X := rdB (putL x ++ l) (putL x).length 0) rfl rfl (fun m b' h => wErr_ok h) zaU (by first | exact LR.nil | simp only [nbS]) (by first | exact LR.nil | simp only [nbS]) ?_
 simp only [zaE, ssH, zeV, zeT, reduceIte, zeU, zeZ, zeX, zeY]
 refine zar (by exact fun m => pCheck_ok E (!x.l.isEmpty) x) (by simp only [zbi, nbS]) (by first | exact LR.nil | simp only [nbS]) ?_
 simp only [hx, if_true, ssH, zeV, zeT, reduceIte, zeU, zeZ, zeX, zeY]
 refine zar (v := .val (.bool true)) (by exact fun m => lives20_ok) (by first | exact LR.nil | simp only [nbS]) (by first | exact LR.nil | simp only [nbS]) ?_
 simp only [ssH, zeV, zeT, reduceIte, zeU, zeZ, zeX, zeY]
 exact fin6 rfl
end
end Go.Av.Fn
