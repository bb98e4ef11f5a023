/- A slice that is only appended to. No condition. -/
import Derived.Test.YtmglaebjmaomnaaGreatDoorTAvP
namespace Go.Av
set_option linter.unusedSimpArgs false
set_option linter.unusedVariables false
def Buf (e : TypeId) (size : Nat) (m m' : Store) (v : V) (es : List V) : Prop := szOk size es = true ∧
 ((es = [] ∧ v = .sl [] [] .full ∧ m' = m) ∨ (es ≠ [] ∧ ∃ b k,m b = none ∧ m' = m.set b (.tip e k) ∧ v = .sl es [] (.tip b k)))
theorem Buf.start {e : TypeId} {size : Nat} {m : Store} : Buf e size m m (.sl [] [] .full) [] := ⟨rfl,.inl ⟨rfl,rfl,rfl⟩⟩
theorem Buf.sub {e : TypeId} {size : Nat} {m m' : Store} {v : V} {es : List V} (h : Buf e size m m' v es) : ∀ b x,m b = some x → m' b = some x := by
 rcases h.2 with ⟨_,_,rfl⟩ | ⟨_,b,k,hb,rfl,_⟩
 ·exact fun _ _ h => h
 ·exact sub_set hb (fun _ _ h => h)
theorem Buf.add {e : TypeId} {size : Nat} {m m' : Store} {v : V} {es : List V} (h : Buf e size m m' v es) {b : Nat} {x : Blk} (hb : m' b = none) : Buf e size (m.set b x) (m'.set b x) v es := by
 refine ⟨h.1,?_⟩
 rcases h.2 with ⟨h1,h2,rfl⟩ | ⟨h1,t,k,ht,rfl,h2⟩
 ·exact .inl ⟨h1,h2,rfl⟩
 ·have hne : t ≠ b := by
   rintro rfl
   rw [Store.set_same] at hb
   cases hb
  refine .inr ⟨h1,t,k,by rw [Store.set_ne _ _ hne,ht],?_,h2⟩
  funext c
  simp only [Store.set]
  by_cases e1 : c = b
  ·subst e1
   simp [hne.symm]
  ·simp [e1]
theorem Buf.val {e : TypeId} {size : Nat} {m m' : Store} {v : V} {es : List V} (h : Buf e size m m' v es) : ∃ tok,v = .sl es [] tok := by
 rcases h.2 with ⟨rfl,h,_⟩ | ⟨_,b,k,_,_,h⟩
 ·exact ⟨_,h⟩
 ·exact ⟨_,h⟩
section
variable {P : Program} {Γ : Glob} {Kp : V → Store → Prop} {l : List Item} {K : St → Prop} {t : List V} {m m' : Store} {d : Option Tmp} {s : List (Tmp × Option (Tmp × Bool) × AOp)}
theorem appS_buf {e : TypeId} {bytes size : Nat} {v x : V} {es more : List V} {tok : Tok} (h : Buf e size m m' v es) (hx : x.cells.length = size) (h1 : ∀ c ∈ x.cells,oneV c = true) (hl : (es.length + 1) * bytes ≤ 140737488355328)
  (hk : ∀ m2 v2,Buf e size m m2 v2 (es ++ [x]) → zbY P Γ Kp s l K (putO t m2 d (some v2))) : appS P Γ Kp e bytes size v (.sl [x] more tok) d s l K t m' := by
 have hel : zdz size [x] := by
  intro y hy
  rw [List.mem_singleton] at hy
  subst hy
  exact ⟨hx,h1⟩
 have hsz : szOk size (es ++ [x]) = true := by
  have := h.1
  simp only [szOk,List.all_append,List.all_cons,List.all_nil,Bool.and_true,Bool.and_eq_true] at this ⊢
  exact ⟨this,by simp [hx]⟩
 rcases h.2 with ⟨rfl,rfl,rfl⟩ | ⟨hne,b,k,hb,rfl,rfl⟩
 ·refine appS_full (by simp) rfl hel (by simpa using hl) fun b hb => ?_
  exact hk _ _ ⟨hsz,.inr ⟨by simp,b,0,hb,rfl,rfl⟩⟩
 ·refine appS_tip (by simp) hne (Store.set_same _ _ _) h.1 hel (by simpa using hl) ?_
  rw [Store.set_set]
  exact hk _ _ ⟨hsz,.inr ⟨by simp,b,k + 1,hb,rfl,rfl⟩⟩
def BufI (e : TypeId) (size : Nat) (m m' : Store) (v : V) (es : List V) : Prop := Buf e size m m' v es ∨ (szOk size es = true ∧ m' = m ∧ v = .sl es [] .full)
theorem BufI.sub {e : TypeId} {size : Nat} {m m' : Store} {v : V} {es : List V} (h : BufI e size m m' v es) : ∀ b x,m b = some x → m' b = some x := by
 rcases h with h | ⟨_,rfl,_⟩
 ·exact h.sub
 ·exact fun _ _ k => k
theorem BufI.add {e : TypeId} {size : Nat} {m m' : Store} {v : V} {es : List V} (h : BufI e size m m' v es) {b : Nat} {x : Blk} (hb : m' b = none) : BufI e size (m.set b x) (m'.set b x) v es := by
 rcases h with h | ⟨h1,rfl,h2⟩
 ·exact .inl (h.add hb)
 ·exact .inr ⟨h1,rfl,h2⟩
theorem appS_bufI {e : TypeId} {bytes size : Nat} {v x : V} {es more : List V} {tok : Tok} (h : BufI e size m m' v es) (hx : x.cells.length = size) (h1 : ∀ c ∈ x.cells,oneV c = true) (hl : (es.length + 1) * bytes ≤ 140737488355328)
  (hk : ∀ m2 v2,Buf e size m m2 v2 (es ++ [x]) → zbY P Γ Kp s l K (putO t m2 d (some v2))) : appS P Γ Kp e bytes size v (.sl [x] more tok) d s l K t m' := by
 rcases h with h | ⟨h0,rfl,rfl⟩
 ·exact appS_buf h hx h1 hl hk
 ·have hel : zdz size [x] := by
   intro y hy
   rw [List.mem_singleton] at hy
   subst hy
   exact ⟨hx,h1⟩
  have hsz : szOk size (es ++ [x]) = true := by
   simp only [szOk,List.all_append,List.all_cons,List.all_nil,Bool.and_true,Bool.and_eq_true] at h0 ⊢
   exact ⟨h0,by simp [hx]⟩
  refine appS_full (by simp) h0 hel (by simpa using hl) fun b hb => ?_
  exact hk _ _ ⟨hsz,.inr ⟨by simp,b,0,hb,rfl,rfl⟩⟩
end
def litV1 (z : List V) (v : V) : Option V := (zcX 1 [z.headD un] [(0,v)]).map fun es => .sl es [] .full
theorem eval_lit1 {P : Program} {Γ : Glob} {t : List V} {m : Store} {z : List V} {k : Nat} : zao P (ev Γ t) m (.lits 1 z 1 [(0,.tmp k)]) = litV1 z (tget t k) := by
 rw [← zel (Γ := Γ)]
 rfl
theorem litV1_val {z : List V} {v : Value} : litV1 z (.val v) = some (.sl [.val v] [] .full) := rfl
def b2sV : V → Option V
 | .sl es _ _ => match bytesOf es with
   | some bs => some (.val (.string ⟨bs.toArray⟩))
   | none => none
 | _ => none
theorem eval_b2s {P : Program} {Γ : Glob} {t : List V} {m : Store} {x : Operand} : zao P (ev Γ t) m (.b2s x) = b2sV (ev Γ t x) := rfl
theorem bytesOf_by8 : ∀ (l : List UInt8),bytesOf (l.map by8) = some l
 | [] => rfl
 | b :: l => by
  simp only [List.map_cons,bytesOf,byteOf,bytesOf_by8 l]
  simp
theorem b2s_bs {l : List UInt8} {more : List V} {tok : Tok} : b2sV (.sl (l.map by8) more tok) = some (bs l) := by
 simp only [b2sV,bytesOf_by8]
 rfl
theorem zaR (l : List UInt8) : szOk 1 (l.map by8) = true := by simp [szOk,V.cells]
section
variable {P : Program} {Γ : Glob} {Kp : V → Store → Prop}
theorem runA_mono {K K' : St → Prop} (h : ∀ s,K s → K' s) : ∀ (l : List Item) (st : St),runA P Γ Kp l K st → runA P Γ Kp l K' st
 | [],st,hr => h st hr
 | x :: l,st,hr => by
  have hr : zaJ P Γ Kp x (fun s => (∀ y ∈ x.still,zba P Γ y s) ∧ runA P Γ Kp l K s) st := hr
  show zaJ P Γ Kp x (fun s => (∀ y ∈ x.still,zba P Γ y s) ∧ runA P Γ Kp l K' s) st
  exact zbG (fun s hs => ⟨hs.1,runA_mono h l s hs.2⟩) hr
theorem zd1 {n n' : St → Prop} {Q Q' : Ex → St → Prop} (hn : ∀ s,n s → n' s) (h : ∀ e s,Q e s → Q' e s) : ∀ e s,thenA n Q e s → thenA n' Q' e s
 | .normal,s,hs => hn s hs
 | .ret,s,hs => h _ s hs
 | .exit i,s,hs => h _ s hs
theorem inBlockA_mono {i : Nat} {Q Q' : Ex → St → Prop} (h : ∀ e s,Q e s → Q' e s) : ∀ e s,zbv i Q e s → zbv i Q' e s
 | .normal,s,hs => h _ s hs
 | .ret,s,hs => h _ s hs
 | .exit j,s,hs => by
  simp only [zbv] at hs ⊢
  split
  ·rename_i e
   rw [if_pos e] at hs
   exact h _ s hs
  ·rename_i e
   rw [if_neg e] at hs
   exact h _ s hs
theorem zbE : ∀ {c : za4} {Q Q' : Ex → St → Prop} (h : ∀ e s,Q e s → Q' e s) {st : St},awp P Γ Kp c Q st → awp P Γ Kp c Q' st
 | .skip,_,_,h,st,hs => h _ _ hs
 | .row l,_,_,h,st,hs => runA_mono (fun s => h _ s) l st hs
 | .seq a b,_,_,h,st,hs => zbE (c := a) (zd1 (fun s => zbE (c := b) h) h) hs
 | .cond c a b,_,_,h,st,hs => by
  simp only [awp] at hs ⊢
  split
  ·rename_i t ht
   rw [ht] at hs
   exact ⟨fun k => zbE (c := a) h (hs.1 k),fun k => zbE (c := b) h (hs.2 k)⟩
  ·rename_i hn
   split at hs
   ·rename_i t ht
    exact (hn t ht).elim
   ·exact hs
 | .block i c,_,_,h,st,hs => zbE (c := c) (inBlockA_mono h) hs
 | .loop c,_,_,h,st,⟨I,n,h0,hr⟩ => ⟨I,n,h0,fun n s hi => zbE (c := c) (zd1 (fun _ hs => hs) h) (hr n s hi)⟩
 | .exit i,_,_,h,st,hs => h _ _ hs
 | .ret,_,_,h,st,hs => h _ _ hs
 | .range f ps x y,_,_,h,st,hs => by
  simp only [awp] at hs ⊢
  split at hs
  ·intro H cx cy h1 h2 fn l D hl
   refine (hs H cx cy h1 h2 fn l D hl).mono fun o m' k => ?_
   cases o with
   | ret v =>
    obtain ⟨m₁,e,hn,q⟩ := k
    exact ⟨m₁,e,hn,h _ _ q⟩
   | pan v => exact k
  ·cases hs
theorem condS_then {v : V} {a b : za4} {M N : St → Prop} {Q : Ex → St → Prop} {st : St} (h2 : ∀ s,M s → N s) (h1 : condS P Γ Kp v a b (thenA M Q) st) : condS P Γ Kp v a b (thenA N Q) st := by
 unfold condS at h1 ⊢
 split
 ·rename_i t
  exact ⟨fun k => zbE (zd1 h2 (fun _ _ h => h)) (h1.1 k),fun k => zbE (zd1 h2 (fun _ _ h => h)) (h1.2 k)⟩
 ·rename_i hn
  split at h1
  ·rename_i t
   exact (hn t rfl).elim
  ·exact h1
end
end Go.Av
