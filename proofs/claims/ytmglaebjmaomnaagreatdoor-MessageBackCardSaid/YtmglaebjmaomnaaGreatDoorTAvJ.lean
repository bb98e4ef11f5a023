/- Whole codes and calls reckoned out, and that what they come to holds of the program. No condition. -/
import Derived.Test.YtmglaebjmaomnaaGreatDoorTAvI
open Bool renaming and_eq_true → ze1
open List renaming getD_eq_getElem?_getD → ze8
open Nat renaming beq → zfJ, eq_of_beq_eq_true → zfl, lt_succ_self → zfE
namespace Go.Av
open Go.RowKit
set_option linter.unusedSimpArgs false
set_option linter.unusedVariables false
def eqValue : Value → Value → Bool
 | .bool a,.bool b => a == b
 | .int k n,.int k' n' => eqKind k k' && eqInt n n'
 | .string a,.string b => eqBytes a.data.toList b.data.toList
 | .pointer none,.pointer none => true
 | .nilFunc,.nilFunc => true
 | .nilIface,.nilIface => true
 | _,_ => false
theorem eqValue_sound {a b : Value} (h : eqValue a b = true) : a = b := by
 unfold eqValue at h
 split at h
 ·rw [beq_iff_eq.1 h]
 ·simp only [ze1] at h
  rw [eqKind_sound h.1,eqInt_sound h.2]
 ·rename_i a b
  obtain ⟨⟨a⟩⟩ := a
  obtain ⟨⟨b⟩⟩ := b
  have h : a = b := eqBytes_sound h
  rw [h]
 ·rfl
 ·rfl
 ·rfl
 ·cases h
def eqTok : Tok → Tok → Bool
 | .no,.no => true
 | .non,.non => true
 | .own,.own => true
 | .full,.full => true
 | .tip a b,.tip c d => zfJ a c && zfJ b d
 | _,_ => false
theorem eqTok_sound {a b : Tok} (h : eqTok a b = true) : a = b := by
 cases a <;> cases b <;> simp only [eqTok,ze1] at h <;> first | rfl | cases h | skip
 rename_i a b
 rw [zfl a,zfl b]
mutual
def eqV : V → V → Bool
 | .val a,.val b => eqValue a b
 | .ptr a o,.ptr b p => zfJ a b && zfJ o p
 | .elt a,.elt b => eqVs a b
 | .sl a m k,.sl a' m' k' => eqVs a a' && eqVs m m' && eqTok k k'
 | .agg a,.agg b => eqVs a b
 | .tup a,.tup b => eqVs a b
 | .ifc t a,.ifc s b => zfJ t s && eqV a b
 | .fn (.func f) a c,.fn (.func g) b d => zfJ f g && eqVs a b && eqVs c d
 | _,_ => false
def eqVs : List V → List V → Bool
 | [],[] => true
 | a :: l,b :: r => eqV a b && eqVs l r
 | _,_ => false
end
mutual
theorem eqV_sound : ∀ {a b : V},eqV a b = true → a = b
 | .val a,b,h => by
  cases b <;> simp only [eqV] at h <;> first | cases h | skip
  rw [eqValue_sound h]
 | .ptr a o,b,h => by
  cases b <;> simp only [eqV,ze1] at h <;> first | cases h | skip
  rename_i h1 h2
  rw [zfl h1,zfl h2]
 | .elt a,b,h => by
  cases b <;> simp only [eqV] at h <;> first | cases h | skip
  rw [zce h]
 | .sl a m k,b,h => by
  cases b <;> simp only [eqV,ze1] at h <;> first | cases h | skip
  rename_i h1 h2
  rw [zce h1.1,zce h1.2,eqTok_sound h2]
 | .agg a,b,h => by
  cases b <;> simp only [eqV] at h <;> first | cases h | skip
  rw [zce h]
 | .tup a,b,h => by
  cases b <;> simp only [eqV] at h <;> first | cases h | skip
  rw [zce h]
 | .ifc t a,b,h => by
  cases b <;> simp only [eqV,ze1] at h <;> first | cases h | skip
  rename_i h1 h2
  rw [zfl h1,eqV_sound h2]
 | .fn f a c,b,h => by
  cases f <;> cases b <;> first | (simp only [eqV] at h; cases h) | skip
  rename_i f g b d
  cases g <;> first | (simp only [eqV] at h; cases h) | skip
  simp only [eqV,ze1] at h
  rw [zfl h.1.1,zce h.1.2,zce h.2]
theorem zce : ∀ {a b : List V},eqVs a b = true → a = b
 | [],[],_ => rfl
 | a :: l,b :: r,h => by
  simp only [eqVs,ze1] at h
  rw [eqV_sound h.1,zce h.2]
 | [],_ :: _,h => by simp [eqVs] at h
 | _ :: _,[],h => by simp [eqVs] at h
end
/-! ### What may be reckoned out -/
def okG (Γ : Glob) : Operand → Bool
 | .global g => (Γ g).isSome
 | _ => true
def Item.okI (Γ : Glob) (x : Item) : Bool := zcU x.ao && x.ao.opnds.all (okG Γ) && x.still.all fun y => zcU y.2.2 && y.2.2.opnds.all (okG Γ)
def za4.okI (Γ : Glob) : za4 → Bool
 | .row l => l.all (Item.okI Γ)
 | .seq a b => a.okI Γ && b.okI Γ
 | .cond c a b => okG Γ c && a.okI Γ && b.okI Γ
 | .block _ c | .loop c => c.okI Γ
 | .range .. => false
 | _ => true
structure TE where
 n : Nat
 t : Tr V
def TE.get (e : TE) (i : Nat) : V := match e.t.get i with
 | some v => v
 | none => .val undef
def TE.put (e : TE) (d : Nat) (v : V) : TE := ⟨e.n,e.t.put d v⟩
def evT (Γ : Glob) (e : TE) : Operand → V
 | .tmp n => e.get n
 | .const v => zbK v
 | .global g => match Γ g with
  | some cs => .elt cs
  | none => .ptr g 0
 | .func f => .fn (.func f) [] []
def wantedT (g : Option (Tmp × Bool)) (e : TE) : Bool := match g with
 | none => true
 | some (d,want) => isBool want (e.get d)
def fillT : List V → Nat → Tr V → Tr V
 | [],_,t => t
 | v :: l,i,t => fillT l (i + 1) (t.put i v)
def startT (n : Nat) (args : List V) : TE := ⟨bif Nat.ble args.length n then n else args.length,fillT args 0 .nil⟩
inductive IR where
 | no
 | ok (e : Ex) (t : TE) (h : Hp)
 | pan (v : V) (h : Hp)
def putT (e : TE) (d : Option Tmp) (v : V) : Option TE := match d with
 | some d => bif Nat.ble (d + 1) e.n then some (e.put d v) else none
 | none => some e
def stillI (P : Program) (Γ : Glob) (t : TE) (h : Hp) (y : Tmp × Option (Tmp × Bool) × AOp) : Bool :=
 bif wantedT y.2.1 t then match evalF P (evT Γ t) h.get y.2.2 with
  | some v => eqV v (t.get y.1)
  | none => false
 else eqV (.val undef) (t.get y.1)
def stillsI (P : Program) (Γ : Glob) (t : TE) (h : Hp) : List (Tmp × Option (Tmp × Bool) × AOp) → Bool
 | [] => true
 | y :: l => bif stillI P Γ t h y then stillsI P Γ t h l else false
def stepR (P : Program) (Γ : Glob) (k : TE → Hp → IR) (x : Item) (t : TE) : Option (Out × Hp) → IR
 | some (.ret v,h') => match putT t x.dst v with
  | some t' => bif stillsI P Γ t' h' x.still then k t' h' else .no
  | none => .no
 | some (.pan v,h') => .pan v h'
 | none => .no
def rowI (P : Program) (Γ : Glob) (call : FuncId → List V → Hp → Option (Out × Hp)) : List Item → TE → Hp → IR
 | [],t,h => .ok .normal t h
 | x :: l,t,h => stepR P Γ (rowI P Γ call l) x t (bif wantedT x.g t then opI P call (evT Γ t) h x.ao else some (.ret (.val undef),h))
def seqI (k : TE → Hp → IR) : IR → IR
 | .ok .normal t h => k t h
 | r => r
def condI (v : V) (a b : TE → Hp → IR) (t : TE) (h : Hp) : IR := match v with
 | .val (.bool true) => a t h
 | .val (.bool false) => b t h
 | _ => .no
def blockI (id : Nat) : IR → IR
 | .ok (.exit i) t h => if i = id then .ok .normal t h else .ok (.exit i) t h
 | r => r
def codeI (P : Program) (Γ : Glob) (call : FuncId → List V → Hp → Option (Out × Hp)) : Nat → za4 → TE → Hp → IR
 | 0,_,_,_ => .no
 | n + 1,c,t,h => match c with
  | .skip => .ok .normal t h
  | .row l => rowI P Γ call l t h
  | .seq a b => seqI (codeI P Γ call n b) (codeI P Γ call n a t h)
  | .cond c a b => condI (evT Γ t c) (codeI P Γ call n a) (codeI P Γ call n b) t h
  | .block id c => blockI id (codeI P Γ call n c t h)
  | .loop c => seqI (codeI P Γ call n (.loop c)) (codeI P Γ call n c t h)
  | .exit id => .ok (.exit id) t h
  | .ret => .ok .ret t h
  | .range .. => .no
def resOneI (t : TE) (h : Hp) : ARes → Option V
 | .tmp k => some (t.get k)
 | .cell k s => match t.get k with
  | .ptr b o => match h.get b with
   | some (.var _ cs) => zbB cs o s
   | _ => none
  | _ => none
def resAllI (t : TE) (h : Hp) : List ARes → Option (List V)
 | [] => some []
 | x :: r => match resOneI t h x,resAllI t h r with
  | some v,some l => some (v :: l)
  | _,_ => none
def resI (rs : List ARes) (t : TE) (h : Hp) : Option V := match rs with
 | [x] => resOneI t h x
 | rs => (resAllI t h rs).map .tup
def endI (res : List ARes) : IR → Option (Out × Hp)
 | .ok (.exit _) _ _ => none
 | .ok _ t h => match resI res t h with
  | some v => some (.ret v,h)
  | none => none
 | .pan v h => some (.pan v,h)
 | .no => none
def callI (P : Program) (Γ : Glob) (prim : FuncId → List V → Hp → Option (Out × Hp)) (tab : FuncId → Option AFn) (N : Nat) : Nat → FuncId → List V → Hp → Option (Out × Hp)
 | 0,_,_,_ => none
 | n + 1,g,args,h => match tab g with
  | some F => endI F.res (codeI P Γ (callI P Γ prim tab N n) N F.body (startT F.ntmps args) h)
  | none => prim g args h
/-! ### Soundness -/
structure ER (R : Ren) (e : TE) (t : List V) : Prop where
 len : t.length = e.n
 at' : ∀ i,VR R (e.get i) (t.getD i (.val undef))
theorem ER.mono {R S : Ren} (h : R.le S) {e : TE} {t : List V} (r : ER R e t) : ER S e t := ⟨r.len,fun i => (r.at' i).mono h⟩
theorem ER.put {R : Ren} {e : TE} {t : List V} {v v' : V} (r : ER R e t) (k : VR R v v') {d : Option Tmp} {e' : TE} (h : putT e d v = some e') : ER R e' ((⟨t,fun _ => none⟩ : St).put d v').t := by
 cases d with
 | none => cases h; exact r
 | some d =>
  simp only [putT] at h
  cases hb : Nat.ble (d + 1) e.n
  ·simp [hb] at h
  ·simp only [hb,cond_true,Option.some.injEq] at h
   subst h
   have hd : d < t.length := by rw [r.len]; exact Nat.le_of_ble_eq_true hb
   refine ⟨by simp [St.put,TE.put,r.len],fun i => ?_⟩
   simp only [St.put,TE.put,TE.get,Tr.get_put]
   by_cases e : i = d
   ·subst e
    simp only [if_pos]
    rw [ze8,List.getElem?_set_self hd]
    exact k
   ·rw [if_neg e,ze8,List.getElem?_set_ne (fun h => e h.symm)]
    have := r.at' i
    rw [ze8] at this
    exact this
theorem fillT_get : ∀ (l : List V) (i : Nat) (t : Tr V) (j : Nat),(fillT l i t).get j = if i ≤ j ∧ j < i + l.length then l[j - i]? else t.get j
 | [],i,t,j => by rw [fillT,if_neg (by simp only [List.length_nil]; omega)]
 | v :: l,i,t,j => by
  rw [fillT,fillT_get l,Tr.get_put]
  simp only [List.length_cons]
  by_cases h1 : i = j
  ·subst h1
   rw [if_neg (by omega),if_pos rfl,if_pos (by omega)]
   simp
  ·by_cases h2 : i + 1 ≤ j ∧ j < i + 1 + l.length
   ·rw [if_pos h2,if_pos (by omega),show j - i = (j - (i + 1)) + 1 by omega]
    simp
   ·rw [if_neg h2,if_neg (by omega),if_neg (by omega)]
theorem ER.of_args {R : Ren} {args args' : List V} (r : LR R args args') (n : Nat) : ER R (startT n args) (start n args') := by
 refine ⟨?_,fun i => ?_⟩
 ·have hl := r.length
  simp only [start,startT,List.length_append,List.length_replicate]
  cases hb : Nat.ble args.length n
  ·have : ¬ args.length ≤ n := fun h => by rw [show Nat.ble args.length n = true from (Nat.ble_eq ▸ h : Nat.ble args.length n = true)] at hb; cases hb
   simp only [cond_false]
   omega
  ·have := Nat.le_of_ble_eq_true hb
   simp only [cond_true]
   omega
 ·simp only [startT,TE.get,fillT_get,start]
  have hl := r.length
  by_cases h : i < args.length
  ·rw [if_pos (by omega),ze8,List.getElem?_append_left (by omega)]
   have := r.getD i
   rw [ze8,ze8] at this
   simp only [Nat.sub_zero]
   generalize args[i]? = z at this ⊢
   cases z <;> exact this
  ·rw [if_neg (by omega),ze8,List.getElem?_append_right (by omega)]
   have : (List.replicate (n - args'.length) (V.val undef))[i - args'.length]?.getD (V.val undef) = V.val undef := by
    rw [List.getElem?_replicate]
    split <;> rfl
   rw [this]
   exact .val undef
def IRpost (R : Ren) (Q : Ex → St → Prop) (Kp : V → Store → Prop) : IR → Prop
 | .no => False
 | .ok e t h => ∀ S t' m',R.le S → ER S t t' → HR S h.get m' → Q e ⟨t',m'⟩
 | .pan v h => ∀ S v' m',R.le S → VR S v v' → HR S h.get m' → Kp v' m'
theorem IRpost.mono {R S : Ren} (h : R.le S) {Q : Ex → St → Prop} {Kp : V → Store → Prop} {r : IR} (k : IRpost R Q Kp r) : IRpost S Q Kp r := by
 cases r with
 | no => exact k
 | ok e t hp => exact fun T t' m' a b c => k T t' m' (Ren.le_trans h a) b c
 | pan v hp => exact fun T t' m' a b c => k T t' m' (Ren.le_trans h a) b c
def GlobOk (Γ0 Γ : Glob) : Prop := ∀ g cs,Γ0 g = some cs → Γ g = some cs ∧ cs.all zdA = true
section
variable {P : Program} {Γ Γ0 : Glob} {call : FuncId → List V → Hp → Option (Out × Hp)} {R : Ren} {Q : Ex → St → Prop} {Kp : V → Store → Prop}
theorem ev_vr (hG : GlobOk Γ0 Γ) {t : TE} {t' : List V} (r : ER R t t') {x : Operand} (hx : okG Γ0 x = true) : VR R (evT Γ0 t x) (ev Γ t' x) := by
 cases x with
 | tmp n => exact r.at' n
 | const v => exact ofConst_vr v
 | global g =>
  simp only [okG,Option.isSome_iff_exists] at hx
  obtain ⟨cs,hcs⟩ := hx
  obtain ⟨h1,h2⟩ := hG g cs hcs
  simp only [ev,evT,hcs,h1]
  exact .elt (zcf h2)
 | func f => exact .fn rfl .nil .nil
theorem isBool_vr {w : Bool} {v u : V} (r : VR R v u) : isBool w u = isBool w v := by
 cases r <;> rfl
theorem wantedG_vr {t : TE} {t' : List V} (r : ER R t t') (g : Option (Tmp × Bool)) : zaB g t' = wantedT g t := by
 cases g with
 | none => rfl
 | some x => exact isBool_vr (r.at' _)
mutual
theorem VR.fun : ∀ {v a b : V},VR R v a → VR R v b → (∀ x y z,R x y → R x z → y = z) → a = b
 | _,_,_,.val v,k,hR => by cases k; rfl
 | _,_,_,.ptr o r,k,hR => by cases k with | ptr _ r' => rw [hR _ _ _ r r']
 | _,_,_,.elt r,k,hR => by cases k with | elt r' => rw [r.fun r' hR]
 | _,_,_,.sl (k := k0) a b c,k,hR => by
  cases k with
  | sl a' b' c' =>
   rw [a.fun a' hR,b.fun b' hR]
   rename_i k1 _ _ k2
   cases k0 <;> cases k1 <;> first | exact c.elim | (cases k2 <;> first | exact c'.elim | rfl | skip)
   ·rw [hR _ _ _ c.1 c'.1,← c.2,← c'.2]
   ·have e1 := Eq.trans (Eq.symm c) c'
    rw [e1]
   ·rw [hR _ _ _ c.1 c'.1,← c.2.1,← c'.2.1,← c.2.2,← c'.2.2]
 | _,_,_,.fn x a b,k,hR => by cases k with | fn _ a' b' => rw [a.fun a' hR,b.fun b' hR]
 | _,_,_,.ifc r,k,hR => by cases k with | ifc r' => rw [r.fun r' hR]
 | _,_,_,.agg r,k,hR => by cases k with | agg r' => rw [r.fun r' hR]
 | _,_,_,.tup r,k,hR => by cases k with | tup r' => rw [r.fun r' hR]
 | _,_,_,.arr _ _ _ r,k,hR => by cases k with | arr _ _ _ r' => rw [hR _ _ _ r r']
 | _,_,_,.res _ _ _ r,k,hR => by cases k with | res _ _ _ r' => rw [hR _ _ _ r r']
theorem LR.fun : ∀ {v a b : List V},LR R v a → LR R v b → (∀ x y z,R x y → R x z → y = z) → a = b
 | _,_,_,.nil,k,hR => by cases k; rfl
 | _,_,_,.cons a b,k,hR => by cases k with | cons a' b' => rw [a.fun a' hR,b.fun b' hR]
end
theorem stillI_sound (hG : GlobOk Γ0 Γ) {t : TE} {t' : List V} {h : Hp} {m : Store} (r : ER R t t') (H : HR R h.get m) {y : Tmp × Option (Tmp × Bool) × AOp} (hp : zcU y.2.2 = true) (ho : y.2.2.opnds.all (okG Γ0) = true) (hs : stillI P Γ0 t h y = true) : zba P Γ y ⟨t',m⟩ := by
 unfold stillI at hs
 unfold zba
 simp only
 rw [wantedG_vr r]
 cases hw : wantedT y.2.1 t
 ·simp only [hw,cond_false] at hs
  rw [if_neg (by simp)]
  have e := eqV_sound hs
  have := r.at' y.1
  rw [← e] at this
  generalize t'.getD y.1 (.val undef) = z at this ⊢
  cases this
  rfl
 ·simp only [hw,cond_true] at hs
  rw [if_pos rfl]
  split at hs
  ·rename_i v hv
   rw [evalF_eq] at hv
   obtain ⟨v',h1,h2⟩ := evalL_vr (ρ' := ev Γ t') hp (fun x hx => ev_vr hG r (List.all_eq_true.1 ho x hx)) H.weak hv
   rw [h1]
   have e := eqV_sound hs
   subst e
   have := r.at' y.1
   rw [VR.fun h2 this H.left]
  ·cases hs
theorem stillsI_all {t : TE} {h : Hp} : ∀ {l : List (Tmp × Option (Tmp × Bool) × AOp)},stillsI P Γ0 t h l = true → ∀ y ∈ l,stillI P Γ0 t h y = true
 | [],_,y,hy => by cases hy
 | x :: l,hs,y,hy => by
  simp only [stillsI] at hs
  cases hx : stillI P Γ0 t h x
  ·simp [hx] at hs
  ·simp only [hx,cond_true] at hs
   rcases List.mem_cons.1 hy with rfl | hy
   ·exact hx
   ·exact stillsI_all hs y hy
theorem put_st (t : List V) (m : Store) (d : Option Tmp) (v : V) : (⟨t,m⟩ : St).put d v = ⟨((⟨t,fun _ => none⟩ : St).put d v).t,m⟩ := by cases d <;> rfl
theorem rowI_sound (hG : GlobOk Γ0 Γ) (hc : CallOk P Γ call) : ∀ {l : List Item} {R : Ren} {t : TE} {t' : List V} {h : Hp} {m : Store},l.all (Item.okI Γ0) = true → ER R t t' → HR R h.get m → IRpost R Q Kp (rowI P Γ0 call l t h) → runA P Γ Kp l (Q .normal) ⟨t',m⟩
 | [],R,t,t',h,m,_,r,H,hi => hi R t' m R.le_refl r H
 | x :: l,R,t,t',h,m,hl,r,H,hi => by
  simp only [List.all_cons,ze1] at hl
  obtain ⟨hx,hl⟩ := hl
  simp only [Item.okI,ze1] at hx
  obtain ⟨⟨hx1,hx2⟩,hx3⟩ := hx
  have hst : ∀ {S : Ren} {t : TE} {t' : List V} {h : Hp} {m : Store},ER S t t' → HR S h.get m → stillsI P Γ0 t h x.still = true → ∀ y ∈ x.still,zba P Γ y ⟨t',m⟩ := by
   intro S t t' h m r H ha y hy
   have h1 := List.all_eq_true.1 hx3 y hy
   simp only [ze1] at h1
   exact stillI_sound hG r H h1.1 h1.2 (stillsI_all ha y hy)
  have fin : ∀ {S : Ren} {h' : Hp} {m' : Store} {v v' : V},R.le S → HR S h'.get m' → VR S v v' → IRpost R Q Kp (stepR P Γ0 (rowI P Γ0 call l) x t (some (.ret v,h'))) →
    (∀ y ∈ x.still,zba P Γ y ((⟨t',m'⟩ : St).put x.dst v')) ∧ runA P Γ Kp l (Q .normal) ((⟨t',m'⟩ : St).put x.dst v') := by
   intro S h' m' v v' s1 s2 s3 hi
   simp only [stepR] at hi
   split at hi
   ·rename_i t1 ht1
    have r2 := (r.mono s1).put s3 ht1
    rw [put_st]
    cases ha : stillsI P Γ0 t1 h' x.still
    ·simp [ha] at hi; exact hi.elim
    ·simp only [ha,cond_true] at hi
     exact ⟨hst r2 s2 ha,rowI_sound hG hc hl r2 s2 (hi.mono s1)⟩
   ·exact hi.elim
  show zaJ P Γ Kp x (fun s => (∀ y ∈ x.still,zba P Γ y s) ∧ runA P Γ Kp l (Q .normal) s) ⟨t',m⟩
  unfold zaJ
  simp only [rowI] at hi
  rw [wantedG_vr r]
  cases hw : wantedT x.g t
  ·simp only [hw,cond_false] at hi
   rw [if_neg (by simp)]
   exact fin R.le_refl H (.val undef) hi
  ·simp only [hw,cond_true] at hi
   rw [if_pos rfl]
   cases ho : opI P call (evT Γ0 t) h x.ao with
   | none => rw [ho] at hi; exact hi.elim
   | some z =>
    rw [ho] at hi
    obtain ⟨o1,h'⟩ := z
    refine opI_sound hc hx1 (fun y hy => ev_vr hG r (List.all_eq_true.1 hx2 y hy)) H ho ?_
    intro S o m' s1 s2 s3
    cases o1 with
    | ret v =>
     cases o with
     | pan v' => exact s3.elim
     | ret v' => exact fin s1 s2 s3 hi
    | pan v =>
     cases o with
     | ret v' => exact s3.elim
     | pan v' => exact hi S v' m' s1 s3 s2
theorem codeI_sound (hG : GlobOk Γ0 Γ) (hc : CallOk P Γ call) : ∀ (n : Nat) {c : za4} {Q : Ex → St → Prop} {R : Ren} {t : TE} {t' : List V} {h : Hp} {m : Store},c.okI Γ0 = true → ER R t t' → HR R h.get m → IRpost R Q Kp (codeI P Γ0 call n c t h) → awp P Γ Kp c Q ⟨t',m⟩ := by
 intro n
 induction n using Nat.strongRecOn with
 | _ n ih =>
  intro c Q R t t' h m ok r H hi
  cases n with
  | zero => exact hi.elim
  | succ n =>
   cases c with
   | skip => exact hi R t' m R.le_refl r H
   | exit id => exact hi R t' m R.le_refl r H
   | ret => exact hi R t' m R.le_refl r H
   | range f ps a b => exact hi.elim
   | row l => exact rowI_sound hG hc ok r H hi
   | seq a b =>
    simp only [za4.okI,ze1] at ok
    simp only [codeI] at hi
    simp only [awp]
    refine ih n (zfE n) ok.1 r H ?_
    generalize codeI P Γ0 call n a t h = x at hi
    unfold seqI at hi
    cases x with
    | no => exact hi
    | pan v h1 => exact hi
    | ok e t1 h1 =>
     cases e with
     | normal =>
      intro S t2 m2 s1 s2 s3
      exact ih n (zfE n) ok.2 s2 s3 (hi.mono s1)
     | ret => exact hi
     | exit id => exact hi
   | cond c a b =>
    simp only [za4.okI,ze1] at ok
    simp only [codeI] at hi
    simp only [awp]
    have rc := ev_vr hG r ok.1.1
    simp only [condI] at hi
    generalize evT Γ0 t c = z at rc hi
    generalize ev Γ t' c = z' at rc ⊢
    split at hi
    ·cases rc
     exact ⟨fun _ => ih n (zfE n) ok.1.2 r H hi,fun k => by cases k⟩
    ·cases rc
     exact ⟨fun k => (by cases k),fun _ => ih n (zfE n) ok.2 r H hi⟩
    ·exact hi.elim
   | block id c =>
    simp only [codeI] at hi
    simp only [awp]
    refine ih n (zfE n) ok r H ?_
    generalize codeI P Γ0 call n c t h = x at hi
    unfold blockI at hi
    cases x with
    | no => exact hi
    | pan v h1 => exact hi
    | ok e t1 h1 =>
     cases e with
     | normal => exact hi
     | ret => exact hi
     | exit i =>
      simp only at hi
      intro S t2 m2 s1 s2 s3
      simp only [zbv]
      split at hi
      ·rename_i e
       rw [if_pos e]
       exact hi S t2 m2 s1 s2 s3
      ·rename_i e
       rw [if_neg e]
       exact hi S t2 m2 s1 s2 s3
   | loop c =>
    refine ⟨fun k s => k ≤ n + 1 ∧ ∃ S t h,R.le S ∧ ER S t s.t ∧ HR S h.get s.m ∧ IRpost S Q Kp (codeI P Γ0 call k (.loop c) t h),n + 1,⟨Nat.le_refl _,R,t,h,R.le_refl,r,H,hi⟩,?_⟩
    rintro k s ⟨hk,S,t1,h1,s1,s2,s3,s4⟩
    cases k with
    | zero => exact s4.elim
    | succ k =>
     simp only [codeI] at s4
     refine ih k (by omega) (show c.okI Γ0 = true from ok) s2 s3 ?_
     generalize codeI P Γ0 call k c t1 h1 = x at s4
     unfold seqI at s4
     cases x with
     | no => exact s4
     | pan v h1 => exact s4
     | ok e t2 h2 =>
      cases e with
      | normal =>
       intro T t3 m3 q1 q2 q3
       exact ⟨k,zfE k,by omega,T,t2,h2,Ren.le_trans s1 q1,q2,q3,s4.mono q1⟩
      | ret => exact s4
      | exit i => exact s4
theorem resOne_vr {t : TE} {t' : List V} {h : Hp} {m' : Store} (r : ER R t t') (H : HR R h.get m') {x : ARes} {v : V} (hx : resOneI t h x = some v) : ∃ v',zcn ⟨t',m'⟩ x = some v' ∧ VR R v v' := by
 cases x with
 | tmp k => cases hx; exact ⟨_,rfl,r.at' k⟩
 | cell k s =>
  have rk := r.at' k
  simp only [resOneI] at hx
  simp only [zcn]
  generalize t.get k = z at rk hx
  generalize t'.getD k (.val undef) = z' at rk ⊢
  cases rk with
  | ptr o r0 =>
   obtain ⟨y,y',h1,h2,h3⟩ := H.blk _ _ r0
   simp only [h1] at hx
   simp only [h2]
   cases y with
   | var T cs =>
    cases y' with
    | var T' cs' => exact partV_vr h3.2 hx
    | _ => exact h3.elim
   | _ => cases hx
  | _ => cases hx
theorem resAll_vr {t : TE} {t' : List V} {h : Hp} {m' : Store} (r : ER R t t') (H : HR R h.get m') : ∀ {l : List ARes} {vs : List V},resAllI t h l = some vs → ∃ vs',zcg ⟨t',m'⟩ l = some vs' ∧ LR R vs vs'
 | [],vs,hx => by cases hx; exact ⟨[],rfl,.nil⟩
 | x :: l,vs,hx => by
  simp only [resAllI] at hx
  simp only [zcg]
  cases h1 : resOneI t h x with
  | none => simp [h1] at hx
  | some v =>
   cases h2 : resAllI t h l with
   | none => simp [h1,h2] at hx
   | some l' =>
    simp only [h1,h2] at hx
    cases hx
    obtain ⟨v',a1,a2⟩ := resOne_vr r H h1
    obtain ⟨l2,b1,b2⟩ := resAll_vr r H h2
    exact ⟨v' :: l2,by simp only [a1,b1],.cons a2 b2⟩
theorem resV_vr {t : TE} {t' : List V} {h : Hp} {m' : Store} (r : ER R t t') (H : HR R h.get m') {l : List ARes} {v : V} (hx : resI l t h = some v) : ∃ v',resV l ⟨t',m'⟩ = some v' ∧ VR R v v' := by
 unfold resI at hx
 unfold resV
 split at hx
 ·exact resOne_vr r H hx
 ·simp only [Option.map_eq_some_iff] at hx ⊢
  obtain ⟨vs,h1,rfl⟩ := hx
  obtain ⟨vs',a,b⟩ := resAll_vr r H h1
  exact ⟨_,⟨vs',a,rfl⟩,.tup b⟩
theorem callI_sound (hm : P.follows .mixedOrders = true) (hG : GlobOk Γ0 Γ) {prim : FuncId → List V → Hp → Option (Out × Hp)} (hprim : CallOk P Γ prim) {tab : FuncId → Option AFn} (htab : ∀ g F,tab g = some F → (∃ H,zan P H g = some F) ∧ F.body.okI Γ0 = true) (N : Nat) :
  ∀ n,CallOk P Γ (callI P Γ0 prim tab N n) := by
 intro n
 induction n with
 | zero => intro g args h r hr; cases hr
 | succ n ih =>
  intro g args h r hr R args' m' rl H
  simp only [callI] at hr
  split at hr
  ·rename_i F hF
   obtain ⟨⟨HH,hcomp⟩,hok⟩ := htab g F hF
   refine zae hm hcomp ?_ ?_
   ·rintro v m b x hb ⟨S,s1,s2,s3⟩
    exact ⟨S,s1,s2.more hb,s3⟩
   ·refine codeI_sound hG ih N hok (ER.of_args rl _) H ?_
    generalize codeI P Γ0 (callI P Γ0 prim tab N n) N F.body (startT F.ntmps args) h = x at hr
    cases x with
    | no => cases hr
    | pan v h1 =>
     cases hr
     intro S v' m1 s1 s2 s3
     exact ⟨S,s1,s3,s2⟩
    | ok e t1 h1 =>
     have fin : (match resI F.res t1 h1 with
      | some v => some (Out.ret v,h1)
      | none => none) = some r → ∀ S t' m',R.le S → ER S t1 t' → HR S h1.get m' → ∃ v,resV F.res ⟨t',m'⟩ = some v ∧ ∃ m'',(∀ b x,m'' b = some x → m' b = some x) ∧ postR R r (.ret v) m'' := by
      intro hr S t' m' s1 s2 s3
      split at hr
      ·rename_i v hv
       cases hr
       obtain ⟨v',a,b⟩ := resV_vr s2 s3 hv
       exact ⟨v',a,m',fun _ _ h => h,S,s1,s3,b⟩
      ·cases hr
     cases e with
     | normal => exact fin hr
     | ret => exact fin hr
     | exit i => cases hr
  ·exact hprim _ _ _ _ hr R args' m' rl H
theorem zab.less {f : FuncId} {args : List V} {m : Store} {A B : Out → Store → Prop} (h : zab P Γ f args m A) (hl : ∀ o m',A o m' → ∃ m'',(∀ b x,m'' b = some x → m' b = some x) ∧ B o m'') : zab P Γ f args m B :=
 ⟨h.1,fun G B0 mF w cargs hD hR hL => (h.2 G B0 mF w cargs hD hR hL).mono fun _ _ ⟨G',m',o,a,b,c,d,e,r⟩ => by
  obtain ⟨m'',h1,h2⟩ := hl o m' r
  exact ⟨G',m'',o,a,fun x => by
   rcases b x with k | k
   ·left
    cases hx : m'' x with
    | none => rfl
    | some y => rw [h1 _ _ hx] at k; cases k
   ·exact .inr k,c.weaken (or_sub h1 b),d,e,h2⟩⟩
theorem acalls_of_run {f : FuncId} {args : List V} {v : V} {h' : Hp} {m : Store} (hc : CallOk P Γ call) (hr : call f args ⟨0,.nil⟩ = some (.ret v,h')) (ha : LR (fun _ _ => False) args args) (hv : zdA v = true) :
  zab P Γ f args m fun o m' => o = .ret v ∧ m' = m := by
 have h1 := hc _ _ _ _ hr (fun _ _ => False) args (fun _ => none) ha ⟨fun _ _ k => k.elim,fun _ _ _ k => k.elim,fun _ _ _ k => k.elim⟩
 have h2 := h1.frame (mF := m) fun _ => .inl rfl
 have e : (Store.or (fun _ => none) m) = m := by funext b; rfl
 rw [e] at h2
 refine h2.less ?_
 rintro o m' ⟨m1,rfl,hD,S,s1,s2,s3⟩
 refine ⟨m,fun b x hb => ?_,?_,rfl⟩
 ·rcases hD b with k | k
  ·simp [Store.or,k,hb]
  ·rw [hb] at k; cases k
 ·cases o with
  | pan _ => exact s3.elim
  | ret u =>
   have key : ∀ {u : V},VR S v u → u = v := by
    intro u r
    unfold zdA at hv
    split at hv
    ·cases r; rfl
    all_goals (first | cases hv | skip)
    all_goals
     cases r with
     | @sl _ es' _ more' k1 k2 a b c =>
      rw [a.nil_inv,b.nil_inv]
      cases k2 <;> first | rfl | exact c.elim | (have c' : _ = _ := c; rw [c'])
   exact congrArg Out.ret (key s3)
/-! ### Tables of functions made ready -/
def look : List (Nat × AFn) → Nat → Option AFn
 | [],_ => none
 | (g,F) :: l,k => bif zfJ g k then some F else look l k
inductive TabOk (P : Program) (Γ0 : Glob) : List (Nat × AFn) → Prop
 | nil : TabOk P Γ0 []
 | cons {g : Nat} {F : AFn} {l : List (Nat × AFn)} : (∃ H,zan P H g = some F) → F.body.okI Γ0 = true → TabOk P Γ0 l → TabOk P Γ0 ((g,F) :: l)
theorem TabOk.get : ∀ {l : List (Nat × AFn)},TabOk P Γ0 l → ∀ g F,look l g = some F → (∃ H,zan P H g = some F) ∧ F.body.okI Γ0 = true
 | _,.nil,g,F,h => by cases h
 | _,.cons (g := g0) a b r,g,F,h => by
  simp only [look] at h
  cases hb : zfJ g0 g
  ·rw [hb] at h
   exact r.get g F h
  ·rw [hb] at h
   obtain rfl := zfl hb
   cases h
   exact ⟨a,b⟩
def isTrue (r : Option (Out × Hp)) : Bool := match r with
 | some (.ret (.val (.bool b)),_) => b
 | _ => false
theorem isTrue_inv {r : Option (Out × Hp)} (h : isTrue r = true) : ∃ h',r = some (.ret (.val (.bool true)),h') := by
 unfold isTrue at h
 split at h
 ·subst h
  exact ⟨_,rfl⟩
 ·cases h
theorem acalls_true (hm : P.follows .mixedOrders = true) (hG : GlobOk Γ0 Γ) {l : List (Nat × AFn)} (hl : TabOk P Γ0 l) {N n : Nat} {f : FuncId} {args : List V} {m : Store} (ha : LR (fun _ _ => False) args args)
  (h : isTrue (callI P Γ0 (fun _ _ _ => none) (look l) N n f args ⟨0,.nil⟩) = true) : zab P Γ f args m fun o m' => o = .ret (.val (.bool true)) ∧ m' = m := by
 obtain ⟨h',hr⟩ := isTrue_inv h
 exact acalls_of_run (callI_sound hm hG (prim := fun _ _ _ => none) (fun _ _ _ _ h => by cases h) (fun g F hg => hl.get g F hg) N n) hr ha rfl
end
end Go.Av
