/- Functions that defer a call that may recover, reckoned out; and that what they come to holds of the program. No condition. -/
import Derived.Test.YtfanfdflpakjeaaGreatDoorTAvK
namespace Go.Av
open Go.RowKit
set_option linter.unusedSimpArgs false
set_option linter.unusedVariables false

inductive IP where
  | no
  | ok (e : Ex) (t : TE) (h : Hp)
  | pan (v : V) (t : TE) (h : Hp)

def stepIP (k : TE → Hp → IP) (x : Item) (t : TE) : Option (Out × Hp) → IP
  | some (.ret v, h') => match putT t x.dst v with
    | some t' => k t' h'
    | none => .no
  | some (.pan v, h') => .pan v t h'
  | none => .no
def rowIP (P : Program) (Γ : Glob) (call : FuncId → List V → Hp → Option (Out × Hp)) : List Item → TE → Hp → IP
  | [], t, h => .ok .normal t h
  | x :: l, t, h => stepIP (rowIP P Γ call l) x t (bif wantedT x.g t then opI P call (evT Γ t) h x.ao else some (.ret (.val undef), h))
def seqIP (k : TE → Hp → IP) : IP → IP
  | .ok .normal t h => k t h
  | r => r
def condIP (v : V) (a b : TE → Hp → IP) (t : TE) (h : Hp) : IP := match v with
  | .val (.bool true) => a t h
  | .val (.bool false) => b t h
  | _ => .no
def blockIP (id : Nat) : IP → IP
  | .ok (.exit i) t h => if i = id then .ok .normal t h else .ok (.exit i) t h
  | r => r
def liftIP : IR → IP
  | .ok e t h => .ok e t h
  | _ => .no
def codeIP (P : Program) (Γ : Glob) (call : FuncId → List V → Hp → Option (Out × Hp)) (N : Nat) : PCode → TE → Hp → IP
  | .code c, t, h => liftIP (codeI P Γ call N c t h)
  | .row l, t, h => rowIP P Γ call l t h
  | .seq a b, t, h => seqIP (codeIP P Γ call N b) (codeIP P Γ call N a t h)
  | .cond c a b, t, h => condIP (evT Γ t c) (codeIP P Γ call N a) (codeIP P Γ call N b) t h
  | .block id c, t, h => blockIP id (codeIP P Γ call N c t h)

def recEnd (res : List ARes) : IR → Option Hp
  | .ok (.exit _) _ _ => none
  | .ok _ t h => match resI res t h with
    | some _ => some h
    | none => none
  | _ => none
/-- A deferred call reckoned out. -/
def recI (P : Program) (Γ : Glob) (call : FuncId → List V → Hp → Option (Out × Hp)) (N : Nat) (F : RFn) (caps : List V) (p : Option V) (h : Hp) : Option Hp :=
  match putT (startT F.ntmps caps) F.dst (caught p) with
  | some t1 => match putT t1 F.dst2 (t1.get F.x2) with
    | some t2 => recEnd F.res (codeI P Γ call N F.body t2 h)
    | none => none
  | none => none

def retI (res : List ARes) (t : TE) : Option Hp → Option (Out × Hp)
  | some h => match resI res t h with
    | some v => some (.ret v, h)
    | none => none
  | none => none
def afterI (rc : Option V → Hp → Option Hp) (res : List ARes) : IP → Option (Out × Hp)
  | .ok (.exit _) _ _ => none
  | .ok _ t h => retI res t (rc none h)
  | .pan v t h => retI res t (rc (some v) h)
  | .no => none
def bodyI (res : List ARes) (k : TE → Hp → Option (Out × Hp)) : IR → Option (Out × Hp)
  | .ok .normal t h => k t h
  | .ok .ret t h => retI res t (some h)
  | .pan v h => some (.pan v, h)
  | _ => none
def defI (P : Program) (Γ : Glob) (call : FuncId → List V → Hp → Option (Out × Hp)) (rtab : FuncId → Option RFn) (N : Nat) (res : List ARes) (f : Operand) (dst : Option Tmp) (q : PCode) : IR → Option (Out × Hp)
  | .ok .normal t h => match evT Γ t f with
    | .fn (.func g) [] caps => match rtab g, putT t dst (.val undef) with
      | some F, some t2 => afterI (recI P Γ call N F caps) res (codeIP P Γ call N q t2 h)
      | _, _ => none
    | _ => none
  | _ => none
def dcodeI (P : Program) (Γ : Glob) (call : FuncId → List V → Hp → Option (Out × Hp)) (rtab : FuncId → Option RFn) (N : Nat) (res : List ARes) : DCode → TE → Hp → Option (Out × Hp)
  | .seq a b, t, h => bodyI res (dcodeI P Γ call rtab N res b) (codeI P Γ call N a t h)
  | .defer l f dst q, t, h => defI P Γ call rtab N res f dst q (rowI P Γ call l t h)

/-- A call reckoned out, some functions of which defer. -/
def callJ (P : Program) (Γ : Glob) (prim : FuncId → List V → Hp → Option (Out × Hp)) (tab : FuncId → Option AFn) (dtab : FuncId → Option DFn) (rtab : FuncId → Option RFn) (N : Nat) : Nat → FuncId → List V → Hp → Option (Out × Hp)
  | 0, _, _, _ => none
  | n + 1, g, args, h => match tab g with
    | some F => endI F.res (codeI P Γ (callJ P Γ prim tab dtab rtab N n) N F.body (startT F.ntmps args) h)
    | none => match dtab g with
      | some D => dcodeI P Γ (callJ P Γ prim tab dtab rtab N n) rtab N D.res D.body (startT D.ntmps args) h
      | none => prim g args h

/-! ### Soundness -/
def PCode.okI (Γ : Glob) : PCode → Bool
  | .code c => c.okI Γ
  | .row l => l.all (Item.okI Γ)
  | .seq a b => a.okI Γ && b.okI Γ
  | .cond c a b => okG Γ c && a.okI Γ && b.okI Γ
  | .block _ c => c.okI Γ
def DCode.okI (Γ : Glob) : DCode → Bool
  | .seq a b => a.okI Γ && b.okI Γ
  | .defer l f _ q => l.all (Item.okI Γ) && okG Γ f && q.okI Γ

def IPpost (R : Ren) (Q : Ex → St → Prop) (Kp : V → St → Prop) : IP → Prop
  | .no => False
  | .ok e t h => ∀ S t' m', R.le S → ER S t t' → HR S h.get m' → Q e ⟨t', m'⟩
  | .pan v t h => ∀ S v' t' m', R.le S → VR S v v' → ER S t t' → HR S h.get m' → Kp v' ⟨t', m'⟩
theorem IPpost.mono {R S : Ren} (h : R.le S) {Q : Ex → St → Prop} {Kp : V → St → Prop} {r : IP} (k : IPpost R Q Kp r) : IPpost S Q Kp r := by
  cases r with
  | no => exact k
  | ok e t hp => exact fun T t' m' a b c => k T t' m' (Ren.le_trans h a) b c
  | pan v t hp => exact fun T v' t' m' a b c d => k T v' t' m' (Ren.le_trans h a) b c d

section
variable {P : Program} {Γ Γ0 : Glob} {call : FuncId → List V → Hp → Option (Out × Hp)} {R : Ren} {Q : Ex → St → Prop} {Kp : V → St → Prop}

theorem rowIP_sound (hG : GlobOk Γ0 Γ) (hc : CallOk P Γ call) : ∀ {l : List Item} {R : Ren} {t : TE} {t' : List V} {h : Hp} {m : Store}, l.all (Item.okI Γ0) = true → ER R t t' → HR R h.get m → IPpost R Q Kp (rowIP P Γ0 call l t h) → runP P Γ Kp l (Q .normal) ⟨t', m⟩
  | [], R, t, t', h, m, _, r, H, hi => hi R t' m R.le_refl r H
  | x :: l, R, t, t', h, m, hl, r, H, hi => by
    simp only [List.all_cons, Bool.and_eq_true] at hl
    obtain ⟨hx, hl⟩ := hl
    simp only [Item.okI, Bool.and_eq_true] at hx
    obtain ⟨⟨hx1, hx2⟩, hx3⟩ := hx
    have fin : ∀ {S : Ren} {h' : Hp} {m' : Store} {v v' : V}, R.le S → HR S h'.get m' → VR S v v' → IPpost R Q Kp (stepIP (rowIP P Γ0 call l) x t (some (.ret v, h'))) →
        runP P Γ Kp l (Q .normal) ((⟨t', m'⟩ : St).put x.dst v') := by
      intro S h' m' v v' s1 s2 s3 hi
      simp only [stepIP] at hi
      split at hi
      · rename_i t1 ht1
        have r2 := (r.mono s1).put s3 ht1
        rw [put_st]
        exact rowIP_sound hG hc hl r2 s2 (hi.mono s1)
      · exact hi.elim
    show stepP P Γ Kp x (runP P Γ Kp l (Q .normal)) ⟨t', m⟩
    unfold stepP
    simp only [rowIP] at hi
    rw [wantedG_vr r]
    cases hw : wantedT x.g t
    · simp only [hw, cond_false] at hi
      rw [if_neg (by simp)]
      exact fin R.le_refl H (.val undef) hi
    · simp only [hw, cond_true] at hi
      rw [if_pos rfl]
      cases ho : opI P call (evT Γ0 t) h x.ao with
      | none => rw [ho] at hi; exact hi.elim
      | some z =>
        rw [ho] at hi
        obtain ⟨o1, h'⟩ := z
        refine opI_sound hc hx1 (fun y hy => ev_vr hG r (List.all_eq_true.1 hx2 y hy)) H ho ?_
        intro S o m' s1 s2 s3
        cases o1 with
        | ret v =>
          cases o with
          | pan v' => exact s3.elim
          | ret v' => exact fin s1 s2 s3 hi
        | pan v =>
          cases o with
          | ret v' => exact s3.elim
          | pan v' => exact hi S v' t' m' s1 s3 (r.mono s1) s2

theorem codeIP_sound (hG : GlobOk Γ0 Γ) (hc : CallOk P Γ call) (N : Nat) : ∀ {c : PCode} {Q : Ex → St → Prop} {R : Ren} {t : TE} {t' : List V} {h : Hp} {m : Store}, c.okI Γ0 = true → ER R t t' → HR R h.get m → IPpost R Q Kp (codeIP P Γ0 call N c t h) → awpP P Γ Kp c Q ⟨t', m⟩
  | .code c, Q, R, t, t', h, m, ok, r, H, hi => by
    simp only [codeIP] at hi
    refine codeI_sound hG hc N ok r H ?_
    generalize codeI P Γ0 call N c t h = x at hi
    cases x with
    | no => exact hi
    | ok e t1 h1 => exact hi
    | pan v h1 => exact hi.elim
  | .row l, Q, R, t, t', h, m, ok, r, H, hi => rowIP_sound hG hc ok r H hi
  | .seq a b, Q, R, t, t', h, m, ok, r, H, hi => by
    simp only [PCode.okI, Bool.and_eq_true] at ok
    simp only [codeIP] at hi
    simp only [awpP]
    refine codeIP_sound hG hc N ok.1 r H ?_
    generalize codeIP P Γ0 call N a t h = x at hi
    unfold seqIP at hi
    cases x with
    | no => exact hi
    | pan v t1 h1 => exact hi
    | ok e t1 h1 =>
      cases e with
      | normal =>
        intro S t2 m2 s1 s2 s3
        exact codeIP_sound hG hc N ok.2 s2 s3 (hi.mono s1)
      | ret => exact hi
      | exit id => exact hi
  | .cond c a b, Q, R, t, t', h, m, ok, r, H, hi => by
    simp only [PCode.okI, Bool.and_eq_true] at ok
    simp only [codeIP] at hi
    simp only [awpP]
    have rc := ev_vr hG r ok.1.1
    simp only [condIP] at hi
    generalize evT Γ0 t c = z at rc hi
    generalize ev Γ t' c = z' at rc ⊢
    split at hi
    · cases rc
      exact ⟨fun _ => codeIP_sound hG hc N ok.1.2 r H hi, fun k => by cases k⟩
    · cases rc
      exact ⟨fun k => (by cases k), fun _ => codeIP_sound hG hc N ok.2 r H hi⟩
    · exact hi.elim
  | .block id c, Q, R, t, t', h, m, ok, r, H, hi => by
    simp only [codeIP] at hi
    simp only [awpP]
    refine codeIP_sound hG hc N ok r H ?_
    generalize codeIP P Γ0 call N c t h = x at hi
    unfold blockIP at hi
    cases x with
    | no => exact hi
    | pan v t1 h1 => exact hi
    | ok e t1 h1 =>
      cases e with
      | normal => exact hi
      | ret => exact hi
      | exit i =>
        simp only at hi
        intro S t2 m2 s1 s2 s3
        simp only [inBlockA]
        split at hi
        · rename_i e
          rw [if_pos e]
          exact hi S t2 m2 s1 s2 s3
        · rename_i e
          rw [if_neg e]
          exact hi S t2 m2 s1 s2 s3

/-- Functions made ready that recover. -/
def RtabOk (P : Program) (Γ0 : Glob) (rtab : FuncId → Option RFn) : Prop := ∀ g F, rtab g = some F → (∃ H, compR P H g = some F) ∧ F.body.okI Γ0 = true

def optR (R : Ren) : Option V → Option V → Prop
  | none, none => True
  | some v, some v' => VR R v v'
  | _, _ => False

theorem recI_sound (hm : P.follows .mixedOrders = true) (hG : GlobOk Γ0 Γ) (hc : CallOk P Γ call) {rtab : FuncId → Option RFn} (hr : RtabOk P Γ0 rtab) {N : Nat} {g : FuncId} {F : RFn} (hF : rtab g = some F) {caps caps' : List V} (rl : LR R caps caps') {p p' : Option V} (rp : optR R p p')
    {h h' : Hp} {m' : Store} (H : HR R h.get m') (hi : recI P Γ0 call N F caps p h = some h') : ADCalls P Γ g caps' m' p' fun m'' => ∃ S : Ren, R.le S ∧ HR S h'.get m'' := by
  obtain ⟨⟨HH, hcomp⟩, hok⟩ := hr g F hF
  refine adcalls_of_awp hm hcomp ?_
  unfold recI at hi
  split at hi
  · rename_i t1 h1
    split at hi
    · rename_i t2 h2
      have rc : VR R (caught p) (caught p') := by
        cases p <;> cases p' <;> first | exact rp.elim | exact .val _ | exact rp
      have e1 := (ER.of_args rl F.ntmps).put rc h1
      have e2 := e1.put (e1.at' F.x2) h2
      have est : startR F caps' m' p' = ⟨(startR F caps' m' p').t, m'⟩ := by
        unfold startR
        simp only
        rw [put_st, put_st]
        cases F.dst <;> cases F.dst2 <;> rfl
      rw [est]
      have e3 : ER R t2 (startR F caps' m' p').t := by
        have : (startR F caps' m' p').t = ((⟨((⟨start F.ntmps caps', fun _ => none⟩ : St).put F.dst (caught p')).t, fun _ => none⟩ : St).put F.dst2 ((((⟨start F.ntmps caps', fun _ => none⟩ : St).put F.dst (caught p')).t).getD F.x2 (.val undef))).t := by
          unfold startR
          cases F.dst <;> cases F.dst2 <;> rfl
        rw [this]
        exact e2
      refine codeI_sound hG hc N hok e3 H ?_
      generalize codeI P Γ0 call N F.body t2 h = x at hi
      cases x with
      | no => cases hi
      | pan v h3 => cases hi
      | ok e t3 h3 =>
        have fin : (match resI F.res t3 h3 with
            | some _ => some h3
            | none => none) = some h' → ∀ S t' m'', R.le S → ER S t3 t' → HR S h3.get m'' → (∃ v, resV F.res ⟨t', m''⟩ = some v) ∧ ∃ S : Ren, R.le S ∧ HR S h'.get m'' := by
          intro hi S t' m'' s1 s2 s3
          split at hi
          · rename_i v hv
            cases hi
            obtain ⟨v', a, b⟩ := resV_vr s2 s3 hv
            exact ⟨⟨v', a⟩, S, s1, s3⟩
          · cases hi
        cases e with
        | normal => exact fin hi
        | ret => exact fin hi
        | exit i => cases hi
    · cases hi
  · cases hi

theorem adcalls_mono {g : FuncId} {caps : List V} {m : Store} {p : Option V} {A B : Store → Prop} (h : ADCalls P Γ g caps m p A) (hk : ∀ m', A m' → B m') : ADCalls P Γ g caps m p B :=
  ⟨h.1, fun G B0 mF w cc u hD hR hL hp => (h.2 G B0 mF w cc u hD hR hL hp).mono fun _ _ _ ⟨uv, G', m', a, b, c, d, e, f, r⟩ => ⟨uv, G', m', a, b, c, d, e, f, hk _ r⟩⟩

theorem retI_sound {res : List ARes} {t : TE} {t' : List V} {h : Hp} {m' : Store} {r : Out × Hp} {S : Ren} (hRS : R.le S) (r1 : ER S t t') (H : HR S h.get m') (hi : retI res t (some h) = some r) : endD res (postR R r) t' m' := by
  simp only [retI] at hi
  split at hi
  · rename_i v hv
    cases hi
    obtain ⟨v', a, b⟩ := resV_vr r1 H hv
    exact ⟨v', a, m', fun _ _ h => h, S, hRS, H, b⟩
  · cases hi

theorem dcodeI_sound (hm : P.follows .mixedOrders = true) (hG : GlobOk Γ0 Γ) (hc : CallOk P Γ call) {rtab : FuncId → Option RFn} (hr : RtabOk P Γ0 rtab) {N : Nat} {res : List ARes} {r : Out × Hp} {R0 : Ren} :
    ∀ {d : DCode} {R : Ren} {t : TE} {t' : List V} {h : Hp} {m : Store}, R0.le R → d.okI Γ0 = true → ER R t t' → HR R h.get m → dcodeI P Γ0 call rtab N res d t h = some r → awpD P Γ res (postR R0 r) d ⟨t', m⟩
  | .seq a b, R, t, t', h, m, h0, ok, re, H, hi => by
    simp only [DCode.okI, Bool.and_eq_true] at ok
    simp only [dcodeI] at hi
    simp only [awpD]
    refine codeI_sound hG hc N ok.1 re H ?_
    generalize codeI P Γ0 call N a t h = x at hi
    cases x with
    | no => cases hi
    | pan v h1 =>
      cases hi
      intro S v' m1 s1 s2 s3
      exact ⟨S, Ren.le_trans h0 s1, s3, s2⟩
    | ok e t1 h1 =>
      cases e with
      | normal =>
        intro S t2 m2 s1 s2 s3
        exact dcodeI_sound hm hG hc hr (Ren.le_trans h0 s1) ok.2 s2 s3 hi
      | ret =>
        intro S t2 m2 s1 s2 s3
        exact retI_sound (Ren.le_trans h0 s1) s2 s3 hi
      | exit i => cases hi
  | .defer l f dst q, R, t, t', h, m, h0, ok, re, H, hi => by
    simp only [DCode.okI, Bool.and_eq_true] at ok
    simp only [dcodeI] at hi
    simp only [awpD]
    have hrow : ∀ K : St → Prop, IRpost R (fun e s => match e with | .normal => K s | _ => False) (fun _ _ => False) (rowI P Γ0 call l t h) → runA P Γ (fun _ _ => False) l K ⟨t', m⟩ := fun K k => rowI_sound (Q := fun e s => match e with | .normal => K s | _ => False) hG hc ok.1.1 re H k
    refine hrow _ ?_
    generalize rowI P Γ0 call l t h = x at hi
    cases x with
    | no => cases hi
    | pan v h1 => cases hi
    | ok e t1 h1 =>
      cases e with
      | ret => cases hi
      | exit i => cases hi
      | normal =>
        intro S t2 m2 s1 s2 s3
        simp only [defI] at hi
        have rf := ev_vr hG s2 ok.1.2
        simp only
        split at hi
        · rename_i g caps hf
          rw [hf] at rf
          generalize ev Γ t2 f = z at rf ⊢
          cases rf with
          | @fn _ _ _ _ caps' x1 r1 r2 =>
            obtain rfl := r1.nil_inv

            simp only
            split at hi
            · rename_i F t3 hF ht3
              rw [put_st]
              have s4 := s2.put (.val undef) ht3
              refine codeIP_sound hG hc N ok.2 s4 s3 ?_
              generalize codeIP P Γ0 call N q t3 h1 = y at hi
              cases y with
              | no => cases hi
              | pan v t4 h4 =>
                simp only [afterI] at hi
                intro T v' t5 m5 q1 q2 q3 q4
                cases hrec : recI P Γ0 call N F caps (some v) h4 with
                | none => rw [hrec] at hi; cases hi
                | some h5 =>
                  rw [hrec] at hi
                  refine adcalls_mono (recI_sound hm hG hc hr hF (r2.mono q1) (p := some v) (p' := some v') q2 q4 hrec) ?_
                  rintro m6 ⟨U, u1, u2⟩
                  exact retI_sound (Ren.le_trans h0 (Ren.le_trans s1 (Ren.le_trans q1 u1))) (q3.mono u1) u2 hi
              | ok e t4 h4 =>
                have fin : retI res t4 (recI P Γ0 call N F caps none h4) = some r → ∀ T t5 m5, S.le T → ER T t4 t5 → HR T h4.get m5 → ADCalls P Γ g caps' m5 none (endD res (postR R0 r) t5) := by
                  intro hi T t5 m5 q1 q3 q4
                  cases hrec : recI P Γ0 call N F caps none h4 with
                  | none => rw [hrec] at hi; cases hi
                  | some h5 =>
                    rw [hrec] at hi
                    refine adcalls_mono (recI_sound hm hG hc hr hF (r2.mono q1) (p := none) (p' := none) trivial q4 hrec) ?_
                    rintro m6 ⟨U, u1, u2⟩
                    exact retI_sound (Ren.le_trans h0 (Ren.le_trans s1 (Ren.le_trans q1 u1))) (q3.mono u1) u2 hi
                cases e with
                | normal => exact fin hi
                | ret => exact fin hi
                | exit i => cases hi
            · cases hi
        · cases hi

theorem callJ_sound (hm : P.follows .mixedOrders = true) (hG : GlobOk Γ0 Γ) {prim : FuncId → List V → Hp → Option (Out × Hp)} (hprim : CallOk P Γ prim) {tab : FuncId → Option AFn} (htab : ∀ g F, tab g = some F → (∃ H, compFn P H g = some F) ∧ F.body.okI Γ0 = true)
    {dtab : FuncId → Option DFn} (hdtab : ∀ g F, dtab g = some F → (∃ H, compD P H g = some F) ∧ F.body.okI Γ0 = true) {rtab : FuncId → Option RFn} (hrtab : RtabOk P Γ0 rtab) (N : Nat) :
    ∀ n, CallOk P Γ (callJ P Γ0 prim tab dtab rtab N n) := by
  intro n
  induction n with
  | zero => intro g args h r hr; cases hr
  | succ n ih =>
    intro g args h r hr R args' m' rl H
    simp only [callJ] at hr
    split at hr
    · rename_i F hF
      obtain ⟨⟨HH, hcomp⟩, hok⟩ := htab g F hF
      refine acalls_of_awp hm hcomp ?_ ?_
      · rintro v m b x hb ⟨S, s1, s2, s3⟩
        exact ⟨S, s1, s2.more hb, s3⟩
      · refine codeI_sound hG ih N hok (ER.of_args rl _) H ?_
        generalize codeI P Γ0 (callJ P Γ0 prim tab dtab rtab N n) N F.body (startT F.ntmps args) h = x at hr
        cases x with
        | no => cases hr
        | pan v h1 =>
          cases hr
          intro S v' m1 s1 s2 s3
          exact ⟨S, s1, s3, s2⟩
        | ok e t1 h1 =>
          have fin : (match resI F.res t1 h1 with
            | some v => some (Out.ret v, h1)
            | none => none) = some r → ∀ S t' m', R.le S → ER S t1 t' → HR S h1.get m' → ∃ v, resV F.res ⟨t', m'⟩ = some v ∧ ∃ m'', (∀ b x, m'' b = some x → m' b = some x) ∧ postR R r (.ret v) m'' := by
            intro hr S t' m' s1 s2 s3
            split at hr
            · rename_i v hv
              cases hr
              obtain ⟨v', a, b⟩ := resV_vr s2 s3 hv
              exact ⟨v', a, m', fun _ _ h => h, S, s1, s3, b⟩
            · cases hr
          cases e with
          | normal => exact fin hr
          | ret => exact fin hr
          | exit i => cases hr
    · split at hr
      · rename_i D hD
        obtain ⟨⟨HH, hcomp⟩, hok⟩ := hdtab g D hD
        refine acalls_of_defer hm hcomp ?_ ?_
        · rintro v m b x hb ⟨S, s1, s2, s3⟩
          exact ⟨S, s1, s2.more hb, s3⟩
        · exact dcodeI_sound hm hG ih hrtab R.le_refl hok (ER.of_args rl _) H hr
      · exact hprim _ _ _ _ hr R args' m' rl H
end
end Go.Av
