/- A row whose order is open: one order told, and which pairs may change places. No condition. -/
import Derived.Test.YtmglaebjmaomnaaGreatDoorTAv15
open List renaming map_congr_left → zfy, getD_eq_getElem?_getD → ze8
namespace Go.Av
open Go.RowKit
set_option linter.unusedSimpArgs false
set_option linter.unusedVariables false
def AOp.opnds : AOp → List Operand
 | .mov x | .box _ x | .nilc x | .un _ x | .conv _ _ x | .b2s x | .s2b _ x | .mki _ x | .fieldA _ x | .field _ _ x | .len _ x | .ext x _ | .load _ x => [x]
 | .pick c a b => [c,a,b]
 | .alloc _ _ => []
 | .build _ parts => parts.map (·.2.2)
 | .lits _ _ _ parts => parts.map (·.2)
 | .store _ a x => [a,x]
 | .bin _ _ _ x y | .idxA _ _ x y | .idxL _ x y | .idxStr x y | .idxArr _ _ _ x y | .app _ _ _ x y => [x,y]
 | .mkf _ f c => f ++ c
 | .sliceS x lo hi => x :: (lo.toList ++ hi.toList)
 | .sliceL _ x lo hi mx => x :: (lo.toList ++ hi.toList ++ mx.toList)
 | .call f args => f :: args
 | .bad => []
 | .capS x | .s2ap _ x | .panic x | .asrt _ x | .mark x => [x]
 | .mm _ xs => xs
 | .appz _ _ _ s n => [s,n]
 | .mks _ _ _ l c => [l,c]
 | .sliceP _ _ x lo hi mx => x :: (lo.toList ++ hi.toList ++ mx.toList)
def tmpOf : Operand → Option Nat
 | .tmp n => some n
 | _ => none
inductive Kd where
 | loc | load | alloc | eff
 deriving DecidableEq
def kindOf : AOp → Kd
 | .load _ _ => .load
 | .alloc _ _ | .box _ _ => .alloc
 | .mark _ | .s2b _ _ | .store _ _ _ | .app _ _ _ _ _ | .call _ _ | .bad | .panic _ | .appz _ _ _ _ _ | .mks _ _ _ _ _ => .eff
 | _ => .loc
def total : AOp → Bool
 | .mov _ | .mki _ _ | .mkf _ _ _ => true
 | _ => false
def Item.reads (x : Item) : List Nat := (match x.g with
 | some (d,_) => [d]
 | none => []) ++ x.ao.opnds.filterMap tmpOf
def Item.apart (x y : Item) : Bool := (match x.dst with
 | some d => !y.reads.contains d
 | none => true) && (match y.dst with
 | some d => !x.reads.contains d
 | none => true) && (match x.dst,y.dst with
 | some d,some e => d != e
 | _,_ => true)
def commB (seen : Bool) (x i : Item) : Bool := x.apart i && match kindOf x.ao,kindOf i.ao with
 | .eff,.loc => total i.ao
 | .eff,.load => false
 | .eff,.alloc => true
 | .eff,.eff => false
 | .alloc,.eff => false
 | .load,.eff => seen
 | _,_ => true
section
variable {P : Program} {Γ : Glob} {B0 : Nat} {mF : Store} {G G0 : Gh} {st : St} {a : Act} {w w0 : World} {Kp : V → Store → Prop}
theorem evalL_congr {ρ ρ' : Operand → V} {m : Store} {ao : AOp} (h : ∀ x ∈ ao.opnds,ρ x = ρ' x) : zao P ρ m ao = zao P ρ' m ao := by
 have hopt : ∀ (x : Option Operand),(∀ y,x = some y → ρ y = ρ' y) → zbd ρ x = zbd ρ' x := by
  intro x hx
  cases x with
  | none => rfl
  | some y => simp only [zbd,hx y rfl]
 cases ao with
 | build z parts =>
  simp only [zao]
  have : (parts.map fun x => (x.1,x.2.1,ρ x.2.2)) = parts.map fun x => (x.1,x.2.1,ρ' x.2.2) := zfy fun x hx => by
   rw [h x.2.2 (List.mem_map.2 ⟨x,hx,rfl⟩)]
  rw [this]
 | lits s z len parts =>
  simp only [zao]
  have : (parts.map fun x => (x.1,ρ x.2)) = parts.map fun x => (x.1,ρ' x.2) := zfy fun x hx => by
   rw [h x.2 (List.mem_map.2 ⟨x,hx,rfl⟩)]
  rw [this]
 | mkf fn f c =>
  simp only [zao]
  rw [zfy (f := ρ) (g := ρ') (l := f) fun x hx => h x (List.mem_append_left _ hx),zfy (f := ρ) (g := ρ') (l := c) fun x hx => h x (List.mem_append_right _ hx)]
 | sliceS x lo hi =>
  simp only [zao]
  rw [h x (by simp [AOp.opnds]),hopt lo (fun y hy => h y (by subst hy; simp [AOp.opnds])),hopt hi (fun y hy => h y (by subst hy; simp [AOp.opnds]))]
 | sliceL s x lo hi mx =>
  simp only [zao]
  rw [h x (by simp [AOp.opnds]),hopt lo (fun y hy => h y (by subst hy; simp [AOp.opnds])),hopt hi (fun y hy => h y (by subst hy; simp [AOp.opnds])),hopt mx (fun y hy => h y (by subst hy; simp [AOp.opnds]))]
 | sliceP n s x lo hi mx =>
  simp only [zao]
  rw [h x (by simp [AOp.opnds]),hopt lo (fun y hy => h y (by subst hy; simp [AOp.opnds])),hopt hi (fun y hy => h y (by subst hy; simp [AOp.opnds])),hopt mx (fun y hy => h y (by subst hy; simp [AOp.opnds]))]
 | mm mx xs =>
  simp only [zao]
  rw [zfy (f := ρ) (g := ρ') (l := xs) fun x hx => h x hx]
 | capS x => simp only [zao]; rw [h x (by simp [AOp.opnds])]
 | asrt T x => simp only [zao]; rw [h x (by simp [AOp.opnds])]
 | s2ap n x => simp only [zao]; rw [h x (by simp [AOp.opnds])]
 | idxArr n s a x y => simp only [zao]; rw [h x (by simp [AOp.opnds]),h y (by simp [AOp.opnds])]
 | pick c x y => simp only [zao]; rw [h c (by simp [AOp.opnds]),h x (by simp [AOp.opnds]),h y (by simp [AOp.opnds])]
 | bin op T k x y => simp only [zao]; rw [h x (by simp [AOp.opnds]),h y (by simp [AOp.opnds])]
 | idxA n s x y => simp only [zao]; rw [h x (by simp [AOp.opnds]),h y (by simp [AOp.opnds])]
 | idxL s x y => simp only [zao]; rw [h x (by simp [AOp.opnds]),h y (by simp [AOp.opnds])]
 | idxStr x y => simp only [zao]; rw [h x (by simp [AOp.opnds]),h y (by simp [AOp.opnds])]
 | mov x => simp only [zao]; rw [h x (by simp [AOp.opnds])]
 | load s x => simp only [zao]; rw [h x (by simp [AOp.opnds])]
 | nilc x => simp only [zao]; rw [h x (by simp [AOp.opnds])]
 | un op x => simp only [zao]; rw [h x (by simp [AOp.opnds])]
 | conv s d x => simp only [zao]; rw [h x (by simp [AOp.opnds])]
 | b2s x => simp only [zao]; rw [h x (by simp [AOp.opnds])]
 | mki T x => simp only [zao]; rw [h x (by simp [AOp.opnds])]
 | fieldA o x => simp only [zao]; rw [h x (by simp [AOp.opnds])]
 | field o s x => simp only [zao]; rw [h x (by simp [AOp.opnds])]
 | len b x => simp only [zao]; rw [h x (by simp [AOp.opnds])]
 | ext x k => simp only [zao]; rw [h x (by simp [AOp.opnds])]
 | _ => rfl
theorem evalL_mem {ρ : Operand → V} {m m' : Store} {ao : AOp} (h : kindOf ao ≠ .load) : zao P ρ m ao = zao P ρ m' ao := by
 cases ao with
 | load s x => exact absurd rfl h
 | _ => rfl
theorem evalL_load_mono {ρ : Operand → V} {m m' : Store} {ao : AOp} (hm : ∀ b x,m b = some x → m' b = some x) {v : V} (h : zao P ρ m ao = some v) : zao P ρ m' ao = some v := by
 cases ao with
 | load s x =>
  simp only [zao] at h ⊢
  split at h
  ·exact h
  ·rename_i b o _
   cases hb : m b with
   | none => rw [hb] at h; cases h
   | some y =>
    rw [hb] at h
    rw [hm b y hb]
    exact h
  ·cases h
 | _ => exact h
theorem opE_congr {ρ ρ' : Operand → V} {m : Store} {K : V → Store → Prop} {ao : AOp} (h : ∀ x ∈ ao.opnds,ρ x = ρ' x) (hE : opE P Γ ρ m K Kp ao) : opE P Γ ρ' m K Kp ao := by
 have q : (∃ v,zao P ρ m ao = some v ∧ K v m) → ∃ v,zao P ρ' m ao = some v ∧ K v m := by
  rintro ⟨v,h1,h2⟩
  exact ⟨v,by rw [← evalL_congr h]; exact h1,h2⟩
 cases ao with
 | alloc T cells => exact hE
 | box T x => simp only [opE] at hE ⊢; rwa [← h x (by simp [AOp.opnds])]
 | store s x y => simp only [opE] at hE ⊢; rwa [← h x (by simp [AOp.opnds]),← h y (by simp [AOp.opnds])]
 | s2b e x => simp only [opE] at hE ⊢; rwa [← h x (by simp [AOp.opnds])]
 | mark x => simp only [opE] at hE ⊢; rwa [← h x (by simp [AOp.opnds])]
 | app e b s x y => simp only [opE] at hE ⊢; rwa [← h x (by simp [AOp.opnds]),← h y (by simp [AOp.opnds])]
 | bad => exact hE
 | panic x => simp only [opE] at hE ⊢; rwa [← h x (by simp [AOp.opnds])]
 | appz e b s x y => simp only [opE] at hE ⊢; rwa [← h x (by simp [AOp.opnds]),← h y (by simp [AOp.opnds])]
 | mks e b z x y => simp only [opE] at hE ⊢; rwa [← h x (by simp [AOp.opnds]),← h y (by simp [AOp.opnds])]
 | call f args =>
  simp only [opE] at hE ⊢
  rwa [← h f (by simp [AOp.opnds]),← zfy (f := ρ) (g := ρ') (l := args) fun x hx => h x (by simp [AOp.opnds,hx])]
 | _ => exact q hE
theorem ev_set {t : List V} {d : Nat} {v : V} {x : Operand} (h : tmpOf x ≠ some d) : ev Γ (t.set d v) x = ev Γ t x := by
 cases x with
 | tmp n =>
  simp only [tmpOf,ne_eq,Option.some.injEq] at h
  simp only [ev]
  rw [ze8,List.getElem?_set,if_neg (fun e => h e.symm),ze8]
 | _ => rfl
theorem wantedG_set {t : List V} {d : Nat} {v : V} {g : Option (Tmp × Bool)} (h : ∀ e b,g = some (e,b) → e ≠ d) : zaB g (t.set d v) = zaB g t := by
 cases g with
 | none => rfl
 | some x =>
  obtain ⟨e,b⟩ := x
  simp only [zaB]
  rw [ze8,List.getElem?_set,if_neg (fun k => h e b rfl k.symm),ze8]
def Item.free (x : Item) (d : Option Tmp) : Prop := ∀ e,d = some e → e ∉ x.reads
theorem Item.free_ev {x : Item} {d : Option Tmp} (h : x.free d) (s : St) (v : V) : ∀ y ∈ x.ao.opnds,ev Γ s.t y = ev Γ (s.put d v).t y := by
 intro y hy
 cases d with
 | none => rfl
 | some d =>
  refine (ev_set fun k => h d rfl ?_).symm
  simp only [Item.reads,List.mem_append,List.mem_filterMap]
  exact .inr ⟨y,hy,k⟩
theorem Item.free_g {x : Item} {d : Option Tmp} (h : x.free d) (s : St) (v : V) : zaB x.g (s.put d v).t = zaB x.g s.t := by
 cases d with
 | none => rfl
 | some d =>
  refine wantedG_set fun e b hg hed => h d rfl ?_
  subst hed
  simp only [Item.reads,hg,List.mem_append]
  exact .inl (List.mem_cons_self ..)
theorem put_m' (s : St) (d : Option Tmp) (v : V) (m' : Store) : ({ s.put d v with m := m' } : St) = ({ s with m := m' } : St).put d v := by cases d <;> rfl
theorem put_comm (s : St) {d e : Option Tmp} (v u : V) (h : ∀ x y,d = some x → e = some y → x ≠ y) : (s.put d v).put e u = (s.put e u).put d v := by
 cases d with
 | none => cases e <;> rfl
 | some d =>
  cases e with
  | none => rfl
  | some e =>
   have := h d e rfl rfl
   simp only [St.put]
   rw [List.set_comm _ _ this]
def valX (P : Program) (Γ : Glob) (x : Item) (st : St) : Option V := if zaB x.g st.t then zao P (ev Γ st.t) st.m x.ao else some (.val undef)
def Quiet (x : Item) (st : St) : Prop := (kindOf x.ao = .loc ∨ kindOf x.ao = .load) ∨ zaB x.g st.t = false
theorem quiet_iff {x : Item} (hk : Quiet x st) {K : St → Prop} : zaJ P Γ Kp x K st ↔ ∃ v,valX P Γ x st = some v ∧ K (st.put x.dst v) := by
 unfold zaJ valX
 rcases hk with hk | hk
 ·have e : ∀ K',opE P Γ (ev Γ st.t) st.m K' Kp x.ao ↔ ∃ v,zao P (ev Γ st.t) st.m x.ao = some v ∧ K' v st.m := by
   intro K'
   generalize x.ao = ao at hk
   cases ao <;> first | exact Iff.rfl | (simp [kindOf] at hk)
  split
  ·rw [e]
  ·simp only [Option.some.injEq,exists_eq_left']
 ·rw [hk]
  simp
theorem zc3 {x : Item} {d : Option Tmp} (h : x.free d) (s : St) (v : V) : valX P Γ x (s.put d v) = valX P Γ x s := by
 unfold valX
 rw [Item.free_g h s v,zbI,evalL_congr (Item.free_ev h s v)]
theorem valX_mem {x : Item} {s : St} (hk : kindOf x.ao ≠ .load ∨ zaB x.g s.t = false) (m' : Store) : valX P Γ x { s with m := m' } = valX P Γ x s := by
 unfold valX
 split
 ·rename_i hw
  rcases hk with hk | hk
  ·exact evalL_mem hk
  ·rw [hk] at hw; cases hw
 ·rfl
theorem valX_mono {x : Item} {s : St} {m' : Store} (hm : ∀ b y,s.m b = some y → m' b = some y) {v : V} (h : valX P Γ x s = some v) : valX P Γ x { s with m := m' } = some v := by
 unfold valX at h ⊢
 split
 ·rename_i hw
  rw [if_pos hw] at h
  exact evalL_load_mono hm h
 ·rename_i hw
  rwa [if_neg hw] at h
theorem load_back {x : Item} {s : St} {blk : Blk} (hf : ∀ b',∃ b,b ≠ b' ∧ s.m b = none) (hk : Quiet x s) (h : ∀ b,s.m b = none → ∃ v,valX P Γ x { s with m := s.m.set b blk } = some v) : ∃ v,valX P Γ x s = some v := by
 rcases hk with (hk | hk) | hk
 ·obtain ⟨b,_,hb⟩ := hf 0
  obtain ⟨v,hv⟩ := h b hb
  exact ⟨v,by rw [← hv]; exact (valX_mem (.inl (by rw [hk]; simp)) _).symm⟩
 ·unfold valX at h ⊢
  split
  ·rename_i hw
   simp only [if_pos hw] at h
   generalize hao : x.ao = ao at hk h
   cases ao with
   | load sz y =>
    simp only [zao] at h ⊢
    cases hy : ev Γ s.t y with
    | ptr b' o =>
     obtain ⟨b,hne,hb⟩ := hf b'
     obtain ⟨v,hv⟩ := h b hb
     rw [hy] at hv
     simp only [Store.set_ne _ _ (fun e => hne e.symm)] at hv
     exact ⟨v,hv⟩
    | elt cs =>
     obtain ⟨b,_,hb⟩ := hf 0
     obtain ⟨v,hv⟩ := h b hb
     rw [hy] at hv
     exact ⟨v,hv⟩
    | _ =>
     obtain ⟨b,_,hb⟩ := hf 0
     obtain ⟨v,hv⟩ := h b hb
     rw [hy] at hv
     simp at hv
   | _ => simp [kindOf] at hk
  ·exact ⟨_,rfl⟩
 ·unfold valX
  rw [hk]
  exact ⟨_,rfl⟩
def zb6 (Γ : Glob) (x : Item) (st : St) : List V := match x.ao with
 | .alloc _ cells => cells
 | .box _ y => (ev Γ st.t y).cells
 | _ => []
def typeX (x : Item) : TypeId := match x.ao with
 | .alloc T _ => T
 | .box T _ => T
 | _ => 0
theorem zcR {x : Item} (hk : kindOf x.ao = .alloc) (hw : zaB x.g st.t = true) {K : St → Prop} : zaJ P Γ Kp x K st ↔
  ∀ b,st.m b = none → K ({ st with m := st.m.set b (.var (typeX x) (zb6 Γ x st)) }.put x.dst (.ptr b 0)) := by
 unfold zaJ zb6 typeX
 rw [hw]
 generalize x.ao = ao at hk
 cases ao <;> simp [kindOf] at hk
 all_goals
  simp only [opE,if_true]
theorem zer {x : Item} {d : Option Tmp} (h : x.free d) (s : St) (v : V) : zb6 Γ x (s.put d v) = zb6 Γ x s := by
 have := Item.free_ev (Γ := Γ) h s v
 unfold zb6
 generalize x.ao = ao at this
 cases ao with
 | box T y => simp only; rw [this y (by simp [AOp.opnds])]
 | _ => rfl
end
end Go.Av
