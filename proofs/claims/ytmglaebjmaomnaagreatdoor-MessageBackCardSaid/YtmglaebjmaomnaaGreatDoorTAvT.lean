/- Calls reckoned out whose answer is not closed; slices that are full or whose end is held. No condition. -/
import Derived.Test.YtmglaebjmaomnaaGreatDoorTAvJ
namespace Go.Av
set_option linter.unusedSimpArgs false
set_option linter.unusedVariables false
/-! ### Values without blocks -/
mutual
def plainV : V → Bool
 | .val _ => true
 | .agg cs => plainVs cs
 | .tup cs => plainVs cs
 | .sl [] [] .full => true
 | _ => false
def plainVs : List V → Bool
 | [] => true
 | v :: l => plainV v && plainVs l
end
mutual
theorem plain_vr {R : Ren} : ∀ {v v' : V},plainV v = true → VR R v v' → v' = v
 | .val _,_,_,r => by cases r; rfl
 | .agg cs,_,h,r => by
  cases r with
  | agg r => rw [plains_vr (by simpa only [plainV] using h) r]
 | .tup cs,_,h,r => by
  cases r with
  | tup r => rw [plains_vr (by simpa only [plainV] using h) r]
 | .sl es more tok,v',h,r => by
  have hh : es = [] ∧ more = [] ∧ tok = .full := by
   unfold plainV at h
   split at h <;> first | cases h | skip
   ·rename_i e; cases e
   ·rename_i e; cases e
   ·rename_i e; cases e
   ·rename_i e; cases e; exact ⟨rfl,rfl,rfl⟩
  obtain ⟨rfl,rfl,rfl⟩ := hh
  cases r with
  | @sl _ es' _ more' k1 k2 a b c =>
   rw [a.nil_inv,b.nil_inv]
   cases k2 <;> first | rfl | exact c.elim
 | .ptr _ _,_,h,_ => by simp [plainV] at h
 | .elt _,_,h,_ => by simp [plainV] at h
 | .arr _ _ _ _,_,h,_ => by simp [plainV] at h
 | .res _ _ _ _,_,h,_ => by simp [plainV] at h
 | .fn _ _ _,_,h,_ => by simp [plainV] at h
 | .ifc _ _,_,h,_ => by simp [plainV] at h
theorem plains_vr {R : Ren} : ∀ {v v' : List V},plainVs v = true → LR R v v' → v' = v
 | [],_,_,r => r.nil_inv
 | v :: l,_,h,r => by
  simp only [plainVs,Bool.and_eq_true] at h
  cases r with
  | cons a b => rw [plain_vr h.1 a,plains_vr h.2 b]
end
def retOf : Option (Out × Hp) → Option V
 | some (.ret v,_) => some v
 | _ => none
theorem retOf_inv {r : Option (Out × Hp)} {v : V} (h : retOf r = some v) : ∃ h',r = some (.ret v,h') := by
 unfold retOf at h
 split at h
 ·cases h; exact ⟨_,rfl⟩
 ·cases h
section
variable {P : Program} {Γ Γ0 : Glob} {call : FuncId → List V → Hp → Option (Out × Hp)}
theorem acalls_ret {f : FuncId} {args : List V} {v : V} {m : Store} (hc : CallOk P Γ call) (hr : retOf (call f args ⟨0,.nil⟩) = some v) (ha : LR (fun _ _ => False) args args) :
  zab P Γ f args m fun o m' => (∃ (S : Ren) (u : V),VR S v u ∧ o = .ret u) ∧ m' = m := by
 obtain ⟨h',hr⟩ := retOf_inv hr
 have h1 := hc _ _ _ _ hr (fun _ _ => False) args (fun _ => none) ha ⟨fun _ _ k => k.elim,fun _ _ _ k => k.elim,fun _ _ _ k => k.elim⟩
 have h2 := h1.frame (mF := m) fun _ => .inl rfl
 have e : (Store.or (fun _ => none) m) = m := by funext b; rfl
 rw [e] at h2
 refine h2.less ?_
 rintro o m' ⟨m1,rfl,hD,S,s1,s2,s3⟩
 refine ⟨m,fun b x hb => ?_,?_,rfl⟩
 ·rcases hD b with k | k
  ·simp [Store.or,k,hb]
  ·rw [hb] at k; cases k
 ·cases o with
  | pan _ => exact s3.elim
  | ret u => exact ⟨S,u,s3,rfl⟩
theorem acalls_plain {f : FuncId} {args : List V} {v : V} {m : Store} (hc : CallOk P Γ call) (hr : retOf (call f args ⟨0,.nil⟩) = some v) (ha : LR (fun _ _ => False) args args) (hv : plainV v = true) :
  zab P Γ f args m fun o m' => o = .ret v ∧ m' = m :=
 (acalls_ret hc hr ha).mono fun o m' ⟨⟨S,u,r,e⟩,hm⟩ => ⟨by rw [e,plain_vr hv r],hm⟩
theorem callI_ok (hm : P.follows .mixedOrders = true) (hG : GlobOk Γ0 Γ) {l : List (Nat × AFn)} (hl : TabOk P Γ0 l) (N n : Nat) : CallOk P Γ (callI P Γ0 (fun _ _ _ => none) (look l) N n) :=
 callI_sound hm hG (prim := fun _ _ _ => none) (fun _ _ _ _ h => by cases h) (fun g F hg => hl.get g F hg) N n
end
/-! ### Slices that are full, or whose end is held -/
def BufF (e : TypeId) (size : Nat) (m m' : Store) (v : V) (es : List V) : Prop := szOk size es = true ∧
 ((v = .sl es [] .full ∧ m' = m) ∨ (es ≠ [] ∧ ∃ b k,m b = none ∧ m' = m.set b (.tip e k) ∧ v = .sl es [] (.tip b k)))
theorem BufF.start {e : TypeId} {size : Nat} {m : Store} : BufF e size m m (.sl [] [] .full) [] := ⟨rfl,.inl ⟨rfl,rfl⟩⟩
theorem BufF.sub {e : TypeId} {size : Nat} {m m' : Store} {v : V} {es : List V} (h : BufF e size m m' v es) : ∀ b x,m b = some x → m' b = some x := by
 rcases h.2 with ⟨_,rfl⟩ | ⟨_,b,k,hb,rfl,_⟩
 ·exact fun _ _ h => h
 ·exact sub_set hb (fun _ _ h => h)
theorem BufF.val {e : TypeId} {size : Nat} {m m' : Store} {v : V} {es : List V} (h : BufF e size m m' v es) : ∃ tok,v = .sl es [] tok := by
 rcases h.2 with ⟨h,_⟩ | ⟨_,b,k,_,_,h⟩
 ·exact ⟨_,h⟩
 ·exact ⟨_,h⟩
theorem BufF.add {e : TypeId} {size : Nat} {m m' : Store} {v : V} {es : List V} (h : BufF e size m m' v es) {b : Nat} {x : Blk} (hb : m' b = none) : BufF e size (m.set b x) (m'.set b x) v es := by
 refine ⟨h.1,?_⟩
 rcases h.2 with ⟨h2,rfl⟩ | ⟨h1,t,k,ht,rfl,h2⟩
 ·exact .inl ⟨h2,rfl⟩
 ·have hne : t ≠ b := by
   rintro rfl
   rw [Store.set_same] at hb
   cases hb
  exact .inr ⟨h1,t,k,by rw [Store.set_ne _ _ hne,ht],set_comm _ _ _ hne,h2⟩
section
variable {P : Program} {Γ : Glob} {Kp : V → Store → Prop} {l : List Item} {K : St → Prop} {t : List V} {m m' : Store} {d : Option Tmp} {s : List (Tmp × Option (Tmp × Bool) × AOp)}
theorem appS_bufF {e : TypeId} {bytes size : Nat} {v x : V} {es more : List V} {tok : Tok} (h : BufF e size m m' v es) (hx : x.cells.length = size) (h1 : ∀ c ∈ x.cells,oneV c = true) (hl : (es.length + 1) * bytes ≤ 140737488355328)
  (hk : ∀ m2 v2,BufF e size m m2 v2 (es ++ [x]) → zbY P Γ Kp s l K (putO t m2 d (some v2))) : appS P Γ Kp e bytes size v (.sl [x] more tok) d s l K t m' := by
 have hel : zdz size [x] := by
  intro y hy
  rw [List.mem_singleton] at hy
  subst hy
  exact ⟨hx,h1⟩
 have hsz : szOk size (es ++ [x]) = true := by
  have := h.1
  simp only [szOk,List.all_append,List.all_cons,List.all_nil,Bool.and_true,Bool.and_eq_true] at this ⊢
  exact ⟨this,by simp [hx]⟩
 rcases h.2 with ⟨rfl,rfl⟩ | ⟨hne,b,k,hb,rfl,rfl⟩
 ·refine appS_full (by simp) h.1 hel (by simpa using hl) fun b hb => ?_
  exact hk _ _ ⟨hsz,.inr ⟨by simp,b,0,hb,rfl,rfl⟩⟩
 ·refine appS_tip (by simp) hne (Store.set_same _ _ _) h.1 hel (by simpa using hl) ?_
  rw [Store.set_set]
  exact hk _ _ ⟨hsz,.inr ⟨by simp,b,k + 1,hb,rfl,rfl⟩⟩
end
end Go.Av
