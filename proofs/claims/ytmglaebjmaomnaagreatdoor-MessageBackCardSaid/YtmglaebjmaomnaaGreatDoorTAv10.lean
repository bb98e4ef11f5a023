/- Whatever zao tells of an operation is what the model's operation comes to. No condition. -/
import Derived.Test.YtmglaebjmaomnaaGreatDoorTAv9
open Array renaming ext' → zfC
open List renaming mem_cons_self → zfa
open Option renaming map_eq_some_iff → ze6
namespace Go.Av
open Go.RowKit
set_option linter.unusedSimpArgs false
set_option linter.unusedVariables false
section
variable {P : Program} {Γ : Glob} {B0 : Nat} {G : Gh} {m mm : Store} {w : World} {ρ : Operand → V} {ρc : Operand → Value}
def Comes1 (P : Program) (Γ : Glob) (B0 : Nat) (G : Gh) (mm : Store) (w : World) (s : Sem Next) (v : V) : Prop :=
 ∃ u w' G',s.run P w = .ok (.value u) w' ∧ G.le G' ∧ Rep Γ B0 G' mm w' ∧ Below B0 w w' ∧ RelV G' v u
theorem zbS {s : Sem Next} {v : V} {u : Value} (hR : Rep Γ B0 G mm w) (h : s.run P w = .ok (.value u) w) (hv : RelV G v u) : Comes1 P Γ B0 G mm w s v :=
 ⟨u,w,G,h,Gh.le.refl G,hR,Below.refl B0 w,hv⟩
theorem zbg {s : Sem Value} {v : V} (hR : Rep Γ B0 G mm w) (h : ∃ u,s.run P w = .ok u w ∧ RelV G v u) : Comes1 P Γ B0 G mm w (do pure (.value (← s))) v := by
 obtain ⟨u,h1,h2⟩ := h
 exact zbS hR (run_value h1) h2
theorem zez : ∀ {l : List Operand},(∀ x ∈ l,RelV G (ρ x) (ρc x)) → RelL G (l.map ρ) (l.map ρc)
 | [],_ => .nil
 | x :: l,hρ => .cons (hρ x (zfa ..)) (zez fun y hy => hρ y (List.mem_cons_of_mem _ hy))
theorem evalL_sound {o : Oper} {ao : AOp} {v : V} (hR : Rep Γ B0 G mm w) (hm : ∀ b c,m b = some c → mm b = some c) (hc : zbq P o = some ao)
  (hρ : ∀ x ∈ o.op.operands,RelV G (ρ x) (ρc x)) (he : zao P ρ m ao = some v) : Comes1 P Γ B0 G mm w (execOp ρc o) v := by
 unfold zbq at hc
 unfold execOp
 split at hc
 ·-- move
  rename_i x hop
  rw [hop] at hρ ⊢
  simp only [Option.some.injEq] at hc
  subst hc
  simp only [zao,Option.some.injEq] at he
  subst he
  exact zbS hR rfl (hρ x (by simp [Op.operands]))
 ·rename_i x hop
  rw [hop] at hρ ⊢
  simp only [Option.some.injEq] at hc
  subst hc
  simp only [zao,Option.some.injEq] at he
  subst he
  exact zbS hR rfl (hρ x (by simp [Op.operands]))
 ·-- pick
  rename_i c a b hop
  rw [hop] at hρ ⊢
  simp only [Option.some.injEq] at hc
  subst hc
  simp only [zao] at he
  obtain ⟨u,h1,h2⟩ := pick_sound (P := P) (w := w) he (hρ c (by simp [Op.operands])) (hρ a (by simp [Op.operands])) (hρ b (by simp [Op.operands]))
  exact zbS hR h1 h2
 ·-- alloc
  rename_i T hop
  split at hc
  ·simp only [ze6] at hc
   obtain ⟨z,_,rfl⟩ := hc
   simp [zao] at he
  ·cases hc
 ·-- box
  simp only [Option.some.injEq] at hc
  subst hc
  simp [zao] at he
 ·-- build
  rename_i T parts hop
  rw [hop] at hρ ⊢
  split at hc
  ·rename_i fields z hT hz
   split at hc
   ·rename_i hok
    simp only [Bool.and_eq_true] at hok
    simp only [ze6] at hc
    obtain ⟨l,hl,rfl⟩ := hc
    simp only [zao] at he
    exact zbg hR (build_sound hT hz hok.1 (fun f hf => List.all_eq_true.1 hok.2 f hf) hl he (fun i x hx => hρ x (by
     simp only [Op.operands,List.mem_toArray,List.mem_map]
     exact ⟨(i,x),hx,rfl⟩)))
   ·cases hc
  ·rename_i n e z hT hz
   split at hc
   ·rename_i s hs
    split at hc
    ·rename_i hok
     simp only [Option.some.injEq] at hc
     subst hc
     simp only [zao] at he
     exact zbg hR (buildA_sound hT hz hok hs he (fun i x hx => hρ x (by
      simp only [Op.operands,List.mem_toArray,List.mem_map]
      exact ⟨(i,x),hx,rfl⟩)))
    ·cases hc
   ·cases hc
  ·cases hc
 ·-- buildSlice
  rename_i T len parts hop
  rw [hop] at hρ ⊢
  split at hc
  ·rename_i e hT
   split at hc
   ·rename_i s z hs hz
    split at hc
    ·rename_i hcc
     simp only [Option.some.injEq] at hc
     subst hc
     simp only [zao] at he
     obtain ⟨r,w',G',h1,h2,h3,h4,h5⟩ := lits_sound hR hT hs hz hcc he (fun i x hx => hρ x (by
      simp only [Op.operands,List.mem_toArray,List.mem_map]
      exact ⟨(i,x),hx,rfl⟩))
     exact ⟨r,w',G',run_value h1,h2,h3,h4,h5⟩
    ·cases hc
   ·cases hc
  ·cases hc
 ·-- load
  rename_i T a hop
  rw [hop] at hρ ⊢
  simp only [ze6] at hc
  obtain ⟨s,hs,rfl⟩ := hc
  simp only [zao] at he
  exact zbg hR (run_load_op hR hm hs he (hρ a (by simp [Op.operands])))
 ·-- store
  simp only [ze6] at hc
  obtain ⟨s,hs,rfl⟩ := hc
  simp [zao] at he
 ·-- nilCheck
  rename_i x hop
  rw [hop] at hρ ⊢
  simp only [Option.some.injEq] at hc
  subst hc
  simp only [zao] at he
  have hx := hρ x (by simp [Op.operands])
  obtain ⟨rfl,h2⟩ := nilc_sound he hx
  refine zbS hR ?_ hx
  dsimp only
  generalize ρc x = u at h2
  rcases h2 with ⟨a,rfl⟩ | ⟨f,a,b,rfl⟩
  ·rfl
  ·rfl
 ·-- binOp
  rename_i op T x y yT hop
  rw [hop] at hρ ⊢
  simp only [Option.some.injEq] at hc
  subst hc
  simp only [zao] at he
  exact zbg hR (bin_sound (hρ x (by simp [Op.operands])) (hρ y (by simp [Op.operands])) he)
 ·-- unOp
  rename_i op T x hop
  rw [hop] at hρ ⊢
  simp only [Option.some.injEq] at hc
  subst hc
  simp only [zao] at he
  split at he
  ·rename_i a ha
   split at he
   ·rename_i r hr
    split at he
    ·rename_i hn
     simp only [Option.some.injEq] at he
     subst he
     have := raw_rel ha (hρ x (by simp [Op.operands]))
     exact zbg hR ⟨r,by rw [this]; exact pureOf_run hr w,.val hn⟩
    ·cases he
   ·cases he
  ·cases he
 ·-- convert
  rename_i src dst x hop
  rw [hop] at hρ ⊢
  have hx := hρ x (by simp [Op.operands])
  split at hc
  ·rename_i e h1 h2
   split at hc
   ·rename_i h3
    simp only [Option.some.injEq] at hc
    subst hc
    simp only [zao] at he
    exact zbg hR (b2s_sound hR h1 h2 h3 he hx)
   ·cases hc
  ·split at hc
   ·simp only [Option.some.injEq] at hc
    subst hc
    simp [zao] at he
   ·cases hc
  ·split at hc
   ·simp only [Option.some.injEq] at hc
    subst hc
    simp [zao] at he
   ·cases hc
  ·simp only [Option.some.injEq] at hc
   subst hc
   simp only [zao] at he
   split at he
   ·rename_i a ha
    split at he
    ·rename_i r hr
     split at he
     ·rename_i hn
      simp only [Option.some.injEq] at he
      subst he
      have := raw_rel ha hx
      exact zbg hR ⟨r,by rw [this]; exact pureOf_run hr w,.val hn⟩
     ·cases he
    ·cases he
   ·cases he
 ·-- makeInterface
  rename_i T x hop
  rw [hop] at hρ ⊢
  have hx := hρ x (by simp [Op.operands])
  split at hc
  ·cases hc
  ·cases hc
  ·rename_i d hd hne
   simp only [Option.some.injEq] at hc
   subst hc
   simp only [zao,Option.some.injEq] at he
   subst he
   refine zbg hR ⟨.iface T (ρc x),?_,.ifc hx⟩
   simp only [Instr.makeInterface,Sem.run_bind,run_underlying hne,Result.andThen_ok]
   cases d with
   | interface ms => exact (hd ms rfl).elim
   | _ => rfl
 ·-- makeFunc
  rename_i fn f c hop
  rw [hop] at hρ ⊢
  simp only [Option.some.injEq] at hc
  subst hc
  simp only [zao,Option.some.injEq] at he
  subst he
  refine zbg hR ⟨.func fn (f.map ρc) (c.map ρc),rfl,?_⟩
  have h1 : RelL G (f.toList.map ρ) (f.toList.map ρc) := zez (fun x hx => hρ x (by simp [Op.operands]; exact .inl (by simpa using hx)))
  have h2 : RelL G (c.toList.map ρ) (c.toList.map ρc) := zez (fun x hx => hρ x (by simp [Op.operands]; exact .inr (by simpa using hx)))
  have := RelV.fn (f := fn) h1 h2
  rwa [show (f.toList.map ρc).toArray = f.map ρc from by apply zfC; simp,show (c.toList.map ρc).toArray = c.map ρc from by apply zfC; simp] at this
 ·-- slice
  rename_i T x lo hi mx hop
  rw [hop] at hρ ⊢
  have hx := hρ x (by simp [Op.operands])
  have hl : ∀ y,lo = some y → RelV G (ρ y) (ρc y) := fun y hy => hρ y (by subst hy; simp [Op.operands])
  have hh : ∀ y,hi = some y → RelV G (ρ y) (ρc y) := fun y hy => hρ y (by subst hy; simp [Op.operands])
  have hmx : ∀ y,mx = some y → RelV G (ρ y) (ρc y) := fun y hy => hρ y (by subst hy; simp [Op.operands])
  split at hc
  ·rename_i hT
   split at hc
   ·simp only [Option.some.injEq] at hc
    subst hc
    simp only [zao] at he
    exact zbg hR (sliceS_sound hT he hx hl hh)
   ·cases hc
  ·rename_i e hT
   split at hc
   ·rename_i s hs
    simp only [Option.some.injEq] at hc
    subst hc
    simp only [zao] at he
    exact zbg hR (sliceL_sound hT hs he hx hl hh hmx)
   ·cases hc
  ·rename_i n e hT
   split at hc
   ·rename_i s hs
    simp only [Option.some.injEq] at hc
    subst hc
    simp only [zao] at he
    exact zbg hR (sliceP_sound hT hs he hx hl hh hmx)
   ·cases hc
  ·cases hc
 ·-- fieldAddr
  rename_i S x f hop
  rw [hop] at hρ ⊢
  have hx := hρ x (by simp [Op.operands])
  split at hc
  ·rename_i fields hT
   split at hc
   ·rename_i fd hf
    split at hc
    ·rename_i n hs
     simp only [Option.some.injEq] at hc
     subst hc
     simp only [zao] at he
     exact zbg hR (fieldA_sound hT hf hs he hx)
    ·cases hc
   ·cases hc
  ·cases hc
 ·-- field
  rename_i S x f hop
  rw [hop] at hρ ⊢
  have hx := hρ x (by simp [Op.operands])
  split at hc
  ·rename_i fields hT
   split at hc
   ·rename_i fd hf
    simp only [ze6] at hc
    obtain ⟨s,hs,rfl⟩ := hc
    simp only [zao] at he
    exact zbg hR (field_sound hT hf hs he hx)
   ·cases hc
  ·cases hc
 ·-- indexAddr
  rename_i T x i hop
  rw [hop] at hρ ⊢
  have hx := hρ x (by simp [Op.operands])
  have hi := hρ i (by simp [Op.operands])
  split at hc
  ·rename_i n e hT
   simp only [ze6] at hc
   obtain ⟨s,hs,rfl⟩ := hc
   simp only [zao] at he
   exact zbg hR (idxA_sound hT hs he hx hi)
  ·rename_i e hT
   simp only [ze6] at hc
   obtain ⟨s,hs,rfl⟩ := hc
   simp only [zao] at he
   exact zbg hR (idxL_sound hT hs he hx hi)
  ·cases hc
 ·-- index
  rename_i T x i hop
  rw [hop] at hρ ⊢
  have hx := hρ x (by simp [Op.operands])
  have hi := hρ i (by simp [Op.operands])
  split at hc
  ·rename_i hT
   simp only [Option.some.injEq] at hc
   subst hc
   simp only [zao] at he
   exact zbg hR (idxStr_sound hT he hx hi)
  ·rename_i n e hT
   split at hc
   ·rename_i a s ha hs
    simp only [Option.some.injEq] at hc
    subst hc
    simp only [zao] at he
    exact zbg hR (idxArr_sound hT ha hs he hx hi)
   ·cases hc
  ·cases hc
 ·-- makeSlice
  split at hc
  ·split at hc
   ·split at hc
    ·simp only [Option.some.injEq] at hc
     subst hc
     simp [zao] at he
    ·cases hc
   ·cases hc
  ·cases hc
 ·-- sliceToArrayPointer
  rename_i arr x hop
  rw [hop] at hρ ⊢
  have hx := hρ x (by simp [Op.operands])
  split at hc
  ·rename_i n e hT
   simp only [Option.some.injEq] at hc
   subst hc
   simp only [zao] at he
   exact zbg hR (s2ap_sound hT he hx)
  ·cases hc
 ·-- panic
  simp only [Option.some.injEq] at hc
  subst hc
  simp [zao] at he
 ·-- typeAssert
  rename_i x xT T ok hop
  rw [hop] at hρ ⊢
  have hx := hρ x (by simp [Op.operands])
  split at hc
  ·rename_i hok
   subst hok
   simp only [Option.some.injEq] at hc
   subst hc
   simp only [zao] at he
   exact zbg hR (asrt_sound he hx)
  ·cases hc
 ·-- extract
  rename_i x k hop
  rw [hop] at hρ ⊢
  have hx := hρ x (by simp [Op.operands])
  simp only [Option.some.injEq] at hc
  subst hc
  simp only [zao] at he
  refine zbg hR ?_
  generalize ρ x = xv at hx he
  generalize ρc x = xu at hx
  cases hx with
  | tup h =>
   simp only at he
   obtain ⟨u,hu,r⟩ := h.get he
   exact ⟨u,by simp [Instr.extract,hu],r⟩
  | _ => simp at he
 ·-- call
  rename_i c hop
  rw [hop] at hρ ⊢
  split at hc
  ·simp only [Option.some.injEq] at hc
   subst hc
   simp [zao] at he
  ·-- len
   rename_i hcal
   split at hc
   ·rename_i x t hargs hty
    have hx := hρ x (by
     simp only [Op.operands,Call.operands,hcal]
     have : x ∈ c.args := by rw [← Array.mem_toList_iff,hargs]; exact zfa ..
     simpa using this)
    have hargs' : c.args.map ρc = #[ρc x] := by
     apply zfC
     simp [hargs]
    have key : ∀ str,((str = true ∧ P.underlying t = some .string) ∨ (str = false ∧ ∃ e,P.underlying t = some (.slice e))) → zao P ρ m (.len str x) = some v →
      Comes1 P Γ B0 G mm w (do let d ← resolve ρc c o.type; invoke d.target d.args) v := by
     intro str hstr he
     simp only [zao] at he
     obtain ⟨r,hr⟩ := len_sound (P := P) (w := w) (type := o.type) he hstr hx
     refine zbS hR ?_ (hr c.argTypes hty).2
     simp [resolve,hcal,invoke,builtin,hargs',(hr c.argTypes hty).1]
    split at hc
    ·rename_i hT
     simp only [Option.some.injEq] at hc
     subst hc
     exact key true (.inl ⟨rfl,hT⟩) he
    ·rename_i e hT
     simp only [Option.some.injEq] at hc
     subst hc
     exact key false (.inr ⟨rfl,e,hT⟩) he
    ·cases hc
   ·cases hc
  ·-- append
   split at hc
   ·split at hc
    ·split at hc
     ·split at hc
      ·simp only [Option.some.injEq] at hc
       subst hc
       simp [zao] at he
      ·cases hc
     ·cases hc
    ·split at hc
     ·split at hc
      ·simp only [Option.some.injEq] at hc
       subst hc
       simp [zao] at he
      ·cases hc
     ·cases hc
    ·cases hc
   ·cases hc
  ·-- cap
   rename_i hcal
   split at hc
   ·rename_i x t hargs hty
    have hx := hρ x (by
     simp only [Op.operands,Call.operands,hcal]
     have : x ∈ c.args := by rw [← Array.mem_toList_iff,hargs]; exact zfa ..
     simpa using this)
    have hargs' : c.args.map ρc = #[ρc x] := by
     apply zfC
     simp [hargs]
    split at hc
    ·rename_i e hT
     simp only [Option.some.injEq] at hc
     subst hc
     simp only [zao] at he
     obtain ⟨r,hr⟩ := cap_sound (P := P) (w := w) (type := o.type) he hT hx
     refine zbS hR ?_ (hr c.argTypes hty).2
     simp [resolve,hcal,invoke,builtin,hargs',(hr c.argTypes hty).1]
    ·cases hc
   ·cases hc
  ·-- max
   rename_i hcal
   simp only [Option.some.injEq] at hc
   subst hc
   simp only [zao] at he
   have hr : RelL G (c.args.toList.map ρ) (c.args.toList.map ρc) := zez (fun x hx => hρ x (by
    simp only [Op.operands,Call.operands,hcal]
    simpa using hx))
   obtain ⟨u,h1,h2⟩ := mm_sound (P := P) (w := w) (types := c.argTypes) (type := o.type) he hr
   refine zbS hR ?_ h2
   have e : (c.args.toList.map ρc).toArray = c.args.map ρc := by apply zfC; simp
   rw [e] at h1
   simp only [if_true] at h1
   simp [resolve,hcal,invoke,builtin,h1]
  ·-- min
   rename_i hcal
   simp only [Option.some.injEq] at hc
   subst hc
   simp only [zao] at he
   have hr : RelL G (c.args.toList.map ρ) (c.args.toList.map ρc) := zez (fun x hx => hρ x (by
    simp only [Op.operands,Call.operands,hcal]
    simpa using hx))
   obtain ⟨u,h1,h2⟩ := mm_sound (P := P) (w := w) (types := c.argTypes) (type := o.type) he hr
   refine zbS hR ?_ h2
   have e : (c.args.toList.map ρc).toArray = c.args.map ρc := by apply zfC; simp
   rw [e] at h1
   simp only [Bool.false_eq_true,if_false] at h1
   simp [resolve,hcal,invoke,builtin,h1]
  ·cases hc
 ·cases hc
end
end Go.Av
