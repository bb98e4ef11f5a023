/- What each operation comes to that leaves memory alone: the model's run, operation by operation. No condition. -/
import Derived.Test.YtmglaebjmaomnaaGreatDoorTAv4
namespace Go.Av
set_option linter.unusedSimpArgs false
set_option linter.unusedVariables false
open Go.RowKit
section
variable {P : Program} {Γ : Glob} {B0 : Nat} {G : Gh} {m mm : Store} {w : World} {ρ : Operand → V} {ρc : Operand → Value}
theorem zbR (T : TypeId) (x y : Value) : Op.equal T x y = Op.equalIn (9999 + 1) T x y := rfl
theorem cmp_pointer {T : TypeId} (h : zca P T = .pointer) : ∃ e,P.underlying T = some (.pointer e) := by
 unfold zca at h
 split at h <;> simp at h
 rename_i e he
 exact ⟨e,he⟩
theorem cmp_func {T : TypeId} (h : zca P T = .func) : ∃ a b c,P.underlying T = some (.func a b c) := by
 unfold zca at h
 split at h <;> simp at h
 rename_i a b c he
 exact ⟨a,b,c,he⟩
theorem cmp_iface {T : TypeId} (h : zca P T = .iface) : ∃ e,P.underlying T = some (.interface e) := by
 unfold zca at h
 split at h <;> simp at h
 rename_i e he
 exact ⟨e,he⟩
theorem cmp_slice {T : TypeId} (h : zca P T = .slice) : ∃ e,P.underlying T = some (.slice e) := by
 unfold zca at h
 split at h <;> simp at h
 rename_i e he
 exact ⟨e,he⟩
inductive NilOf : Cmp → Value → Prop
 | pointer : NilOf .pointer (.pointer none)
 | func : NilOf .func .nilFunc
 | iface : NilOf .iface .nilIface
 | slice : NilOf .slice (.slice none 0 0)
inductive SomeOf : Cmp → Value → Prop
 | pointer (a : Addr) : SomeOf .pointer (.pointer (some a))
 | func (f : Fn) (a b : Array Value) : SomeOf .func (.func f a b)
 | iface (t : TypeId) (v : Value) : SomeOf .iface (.iface t v)
 | slice (a : Addr) (n c : Nat) : SomeOf .slice (.slice (some a) n c)
theorem nilOf {k : Cmp} {y : V} {b : Value} (h : zaM k y = true) (hy : RelV G y b) : NilOf k b := by
 unfold zaM at h
 split at h
 ·cases hy; exact .pointer
 ·cases hy; exact .func
 ·cases hy; exact .iface
 ·cases hy with
  | nil _ => exact .slice
  | sl _ _ _ _ _ ht => exact absurd rfl ht.2
 ·cases h
theorem someOf {k : Cmp} {y : V} {b : Value} (h : zbZ k y = true) (hy : RelV G y b) : SomeOf k b := by
 unfold zbZ at h
 split at h
 ·cases hy; exact .pointer _
 ·cases hy; exact .pointer _
 ·cases hy; exact .func _ _ _
 ·cases hy; exact .iface _ _
 ·cases hy; exact .slice _ _ _
 ·cases hy with
  | nil hk => simp [hk] at h
  | sl _ _ _ _ _ _ => exact .slice _ _ _
 ·cases hy; exact .slice _ _ _
 ·cases hy; exact .slice _ _ _
 ·cases h
theorem eq_nil_right {T : TypeId} {a b : Value} {k : Cmp} (hk : zca P T = k) (h1 : SomeOf k a) (h2 : NilOf k b) :
  (Op.equal T a b).run P w = .ok false w ∧ (∀ op xo yo,(eqGuard op T xo yo a b).run P w = .ok () w) ∧
  binOp .eql T a b = (do pure (.bool (← Op.equal T a b))) ∧ binOp .neq T a b = (do pure (.bool (!(← Op.equal T a b)))) := by
 cases h2 with
 | pointer =>
  cases h1
  obtain ⟨e,he⟩ := cmp_pointer hk
  exact ⟨by rw [zbR]; generalize 9999 = d; simp [Op.equalIn,run_underlying (w := w) he],fun op xo yo => by unfold eqGuard; split <;> simp,rfl,rfl⟩
 | func =>
  cases h1
  obtain ⟨e,f,g,he⟩ := cmp_func hk
  exact ⟨by rw [zbR]; generalize 9999 = d; simp [Op.equalIn,run_underlying (w := w) he],fun op xo yo => by unfold eqGuard; split <;> simp,rfl,rfl⟩
 | iface =>
  cases h1
  obtain ⟨e,he⟩ := cmp_iface hk
  exact ⟨by rw [zbR]; generalize 9999 = d; simp [Op.equalIn,run_underlying (w := w) he],fun op xo yo => by unfold eqGuard; split <;> simp,rfl,rfl⟩
 | slice =>
  cases h1
  obtain ⟨e,he⟩ := cmp_slice hk
  exact ⟨by rw [zbR]; generalize 9999 = d; simp [Op.equalIn,run_underlying (w := w) he],fun op xo yo => by unfold eqGuard; split <;> simp,rfl,rfl⟩
theorem eq_nil_left {T : TypeId} {a b : Value} {k : Cmp} (hk : zca P T = k) (h1 : SomeOf k b) (h2 : NilOf k a) :
  (Op.equal T a b).run P w = .ok false w ∧ (∀ op xo yo,(eqGuard op T xo yo a b).run P w = .ok () w) ∧
  binOp .eql T a b = (do pure (.bool (← Op.equal T a b))) ∧ binOp .neq T a b = (do pure (.bool (!(← Op.equal T a b)))) := by
 cases h2 with
 | pointer =>
  cases h1
  obtain ⟨e,he⟩ := cmp_pointer hk
  exact ⟨by rw [zbR]; generalize 9999 = d; simp [Op.equalIn,run_underlying (w := w) he],fun op xo yo => by unfold eqGuard; split <;> simp,rfl,rfl⟩
 | func =>
  cases h1
  obtain ⟨e,f,g,he⟩ := cmp_func hk
  exact ⟨by rw [zbR]; generalize 9999 = d; simp [Op.equalIn,run_underlying (w := w) he],fun op xo yo => by unfold eqGuard; split <;> simp,rfl,rfl⟩
 | iface =>
  cases h1
  obtain ⟨e,he⟩ := cmp_iface hk
  exact ⟨by rw [zbR]; generalize 9999 = d; simp [Op.equalIn,run_underlying (w := w) he],fun op xo yo => by unfold eqGuard; split <;> simp,rfl,rfl⟩
 | slice =>
  cases h1
  obtain ⟨e,he⟩ := cmp_slice hk
  exact ⟨by rw [zbR]; generalize 9999 = d; simp [Op.equalIn,run_underlying (w := w) he],fun op xo yo => by unfold eqGuard; split <;> simp,rfl,rfl⟩
theorem eq_nil_both {T : TypeId} {a b : Value} (hk : zca P T = .slice) (h1 : NilOf .slice a) (h2 : NilOf .slice b) :
  (Op.equal T a b).run P w = .ok true w ∧ (∀ op xo yo,(eqGuard op T xo yo a b).run P w = .ok () w) ∧
  binOp .eql T a b = (do pure (.bool (← Op.equal T a b))) ∧ binOp .neq T a b = (do pure (.bool (!(← Op.equal T a b)))) := by
 cases h1
 cases h2
 obtain ⟨e,he⟩ := cmp_slice hk
 exact ⟨by rw [zbR]; generalize 9999 = d; simp [Op.equalIn,run_underlying (w := w) he],fun op xo yo => by unfold eqGuard; split <;> simp,rfl,rfl⟩
theorem bin_sound {op : BinOp} {T : TypeId} {xo yo : Operand} {x y : V} {a b : Value} {v : V} (hx : RelV G x a) (hy : RelV G y b) (h : binV P op T (zca P T) xo yo x y = some v) :
  ∃ u,(do eqGuard op T xo yo a b; binOp op T a b : Sem Value).run P w = .ok u w ∧ RelV G v u := by
 unfold binV at h
 split at h
 ·rename_i hc
  have hh : (Op.equal T a b).run P w = .ok false w ∧ (∀ op xo yo,(eqGuard op T xo yo a b).run P w = .ok () w) ∧
    binOp .eql T a b = (do pure (.bool (← Op.equal T a b))) ∧ binOp .neq T a b = (do pure (.bool (!(← Op.equal T a b)))) := by
   simp only [Bool.or_eq_true,Bool.and_eq_true] at hc
   rcases hc with ⟨h1,h2⟩ | ⟨h2,h1⟩
   ·exact eq_nil_right rfl (someOf h1 hx) (nilOf h2 hy)
   ·exact eq_nil_left rfl (someOf h1 hy) (nilOf h2 hx)
  obtain ⟨h1,h2,h3,h4⟩ := hh
  split at h
  ·simp only [Option.some.injEq] at h
   subst h
   exact ⟨.bool false,by rw [h3]; simp [h1,h2],.val rfl⟩
  ·simp only [Option.some.injEq] at h
   subst h
   exact ⟨.bool true,by rw [h4]; simp [h1,h2],.val rfl⟩
  ·cases h
 ·split at h
  ·rename_i hc
   simp only [Bool.and_eq_true] at hc
   have hk : zca P T = .slice := by
    generalize zca P T = k at hc
    cases k <;> first | rfl | simp [zeE] at hc
   rw [hk] at hc
   obtain ⟨h1,h2,h3,h4⟩ := eq_nil_both (P := P) (w := w) hk (nilOf hc.1.2 hx) (nilOf hc.2 hy)
   split at h
   ·simp only [Option.some.injEq] at h
    subst h
    exact ⟨.bool true,by rw [h3]; simp [h1,h2],.val rfl⟩
   ·simp only [Option.some.injEq] at h
    subst h
    exact ⟨.bool false,by rw [h4]; simp [h1,h2],.val rfl⟩
   ·cases h
  ·skip
   split at h
   ·rename_i c d hc hd
    split at h
    ·rename_i r hr
     split at h
     ·rename_i hn
      simp only [Option.some.injEq] at h
      subst h
      obtain rfl := raw_rel hc hx
      obtain rfl := raw_rel hd hy
      exact ⟨r,pureOf_run hr w,.val hn⟩
     ·cases h
    ·cases h
   ·cases h
theorem foldl_set_rel : ∀ {l : List V} {k : Nat} {lu : List Value} {cs : List V} {us : List Value} (off : Nat),RelL G l lu → RelL G cs us →
  RelL G ((l.zipIdx k).foldl (fun cs x => cs.set (off + x.2) x.1) cs) (((lu.zipIdx k).foldl (fun cs (x : Value × Nat) => cs.set (off + x.2) x.1) us))
 | _,k,_,cs,us,off,.nil,r => r
 | _,k,_,cs,us,off,.cons h t,r => by
  simp only [List.zipIdx_cons,List.foldl_cons]
  exact foldl_set_rel off t (r.set _ h)
theorem foldl_set_array (off : Nat) : ∀ (l : List (Value × Nat)) (us : List Value),l.foldl (fun cs (x : Value × Nat) => cs.setIfInBounds (off + x.2) x.1) us.toArray = (l.foldl (fun cs (x : Value × Nat) => cs.set (off + x.2) x.1) us).toArray
 | [],us => rfl
 | x :: l,us => by
  simp only [List.foldl_cons]
  rw [← foldl_set_array off l]
  congr 1
  exact List.setIfInBounds_toArray ..
theorem fill_sound : ∀ {parts : List (Nat × Nat × V)} {cparts : List (Nat × Value)} {pl : Nat → Option (Nat × Nat)} {cs cs' : List V} {us : List Value},
  zbM cs parts = some cs' → RelL G cs us → parts.length = cparts.length →
  (∀ (k : Nat) off size v i u,parts[k]? = some (off,size,v) → cparts[k]? = some (i,u) → pl i = some (off,size) ∧ RelV G v u) →
  ∃ us',Instr.fill pl us.toArray cparts = some us'.toArray ∧ RelL G cs' us'
 | [],[],pl,cs,cs',us,h,r,_,_ => by
  simp only [zbM,Option.some.injEq] at h
  subst h
  exact ⟨us,rfl,r⟩
 | [],_ :: _,_,_,_,_,_,_,hl,_ => by simp at hl
 | _ :: _,[],_,_,_,_,_,_,hl,_ => by simp at hl
 | (off,size,v) :: parts,(i,u) :: cparts,pl,cs,cs',us,h,r,hl,hp => by
  simp only [zbM] at h
  split at h
  ·rename_i hc
   obtain ⟨h1,h2⟩ := hp 0 off size v i u rfl rfl
   have hcells := h2.cells
   have hlen := hcells.length
   have hlen' := r.length
   simp only [Array.length_toList] at hlen
   have hz : (u.cells.zipIdx.foldl (fun cs x => cs.setIfInBounds (off + x.2) x.1) us.toArray) = ((u.cells.toList.zipIdx).foldl (fun cs (x : Value × Nat) => cs.set (off + x.2) x.1) us).toArray := by
    rw [← Array.foldl_toList,Array.toList_zipIdx]
    exact foldl_set_array off _ us
   obtain ⟨us',g1,g2⟩ := fill_sound (pl := pl) (cparts := cparts) h (foldl_set_rel off hcells r) (by simpa using hl) (fun k o s v i u a b => hp (k + 1) o s v i u (by simpa using a) (by simpa using b))
   refine ⟨us',?_,g2⟩
   simp only [Instr.fill,h1]
   rw [if_neg (by simp; omega),hz]
   exact g1
  ·cases h
end
end Go.Av
