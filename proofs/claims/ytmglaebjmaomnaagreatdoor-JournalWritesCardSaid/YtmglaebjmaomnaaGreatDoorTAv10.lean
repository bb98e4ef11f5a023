/- Whatever jJ tells of an operation is what the model's operation comes to. No condition. -/
import Derived.Test.YtmglaebjmaomnaaGreatDoorTAv9
open Array renaming ext'→dC, mem_toList_iff→dR
open List renaming mem_cons_self→aU, mem_toArray→gG, mem_map→iL
open Option renaming map_eq_some_iff→aQ
open Option.some renaming injEq→au
set_option linter.unusedSimpArgs false
set_option linter.unusedVariables false
namespace Go.Av
open Go.RowKit
section
variable {P:Program} {Γ:jG} {B0:Nat} {G:Gh} {m mm:Store} {w:World} {ρ:Operand→V} {ρc:Operand→Value}
def Tt(P:Program)(Γ:jG)(B0:Nat)(G:Gh)(mm:Store)(w:World)(s:Sem Next)(v:V):Prop:=
 ∃ u w' G',s.run P w = .ok (.value u) w' ∧ G.le G'∧Rep Γ B0 G' mm w'∧Below B0 w w' ∧ ku G' v u
theorem qP{s:Sem Next}{v:V}{u:Value}(hR:Rep Γ B0 G mm w)(h:s.run P w = .ok (.value u) w)(hv:ku G v u):Tt P Γ B0 G mm w s v:=
 ⟨u,w,G,h,Gh.le.refl G,hR,Below.refl B0 w,hv⟩
theorem nO{s:Sem Value}{v:V}(hR:Rep Γ B0 G mm w)(h:∃ u,s.run P w = .ok u w∧ku G v u):Tt P Γ B0 G mm w (do pure (.value (←s))) v:=by
 obtain⟨u,h1,h2⟩:=h;exact qP hR (Pz h1) h2
theorem zq:∀ {l:List Operand},(∀ x∈l,ku G (ρ x) (ρc x))→kE G (l.map ρ) (l.map ρc)
 |[],_=>.nil
 |x::l,hρ=>.cons (hρ x (aU ..)) (zq fun y hy=>hρ y (List.mem_cons_of_mem _ hy))
theorem UX{o:Oper}{ao:AOp}{v:V}(hR:Rep Γ B0 G mm w)(hm:∀ b c,m b=some c→mm b=some c)(hc:nI P o=some ao)
  (hρ:∀ x∈o.op.operands,ku G (ρ x) (ρc x)) (he:jJ P ρ m ao=some v):Tt P Γ B0 G mm w (execOp ρc o) v:=by
 unfold nI at hc;unfold execOp
 split at hc
 ·-- move
  rename_i x hop;rw[hop]at hρ ⊢;simp only[au]at hc;subst hc;simp only[jJ,au]at he;subst he;exact qP hR rfl (hρ x (by simp[Op.operands]))
 ·rename_i x hop;rw[hop]at hρ ⊢;simp only[au]at hc;subst hc;simp only[jJ,au]at he;subst he;exact qP hR rfl (hρ x (by simp[Op.operands]))
 ·-- pick
  rename_i c a b hop;rw[hop]at hρ ⊢;simp only[au]at hc;subst hc;simp only[jJ]at he;obtain⟨u,h1,h2⟩:=VW (P:=P) (w:=w) he (hρ c (by simp[Op.operands])) (hρ a (by simp[Op.operands])) (hρ b (by simp[Op.operands]));exact qP hR h1 h2
 ·-- alloc
  rename_i T hop
  split at hc
  ·simp only[aQ]at hc;obtain⟨z,_,rfl⟩:=hc;simp[jJ]at he
  ·cases hc
 ·-- box
  simp only[au]at hc;subst hc;simp[jJ]at he
 ·-- build
  rename_i T parts hop;rw[hop]at hρ ⊢
  split at hc
  ·rename_i fields z hT hz
   split at hc
   ·rename_i hok;simp only[Bool.and_eq_true]at hok;simp only[aQ]at hc;obtain⟨l,hl,rfl⟩:=hc;simp only[jJ]at he
    exact nO hR (Vq hT hz hok.1 (fun f hf => List.all_eq_true.1 hok.2 f hf) hl he (fun i x hx => hρ x (by
     simp only[Op.operands,gG,iL]
     exact⟨(i,x),hx,rfl⟩)))
   ·cases hc
  ·rename_i n e z hT hz
   split at hc
   ·rename_i s hs
    split at hc
    ·rename_i hok;simp only[au]at hc;subst hc;simp only[jJ]at he
     exact nO hR (Tc hT hz hok hs he (fun i x hx => hρ x (by
      simp only[Op.operands,gG,iL]
      exact⟨(i,x),hx,rfl⟩)))
    ·cases hc
   ·cases hc
  ·cases hc
 ·-- buildSlice
  rename_i T len parts hop;rw[hop]at hρ ⊢
  split at hc
  ·rename_i e hT
   split at hc
   ·rename_i s z hs hz
    split at hc
    ·rename_i hcc;simp only[au]at hc;subst hc;simp only[jJ]at he
     obtain ⟨r,w',G',h1,h2,h3,h4,h5⟩ := Wh hR hT hs hz hcc he (fun i x hx => hρ x (by
      simp only[Op.operands,gG,iL]
      exact⟨(i,x),hx,rfl⟩))
     exact⟨r,w',G',Pz h1,h2,h3,h4,h5⟩
    ·cases hc
   ·cases hc
  ·cases hc
 ·-- load
  rename_i T a hop;rw[hop]at hρ ⊢;simp only[aQ]at hc;obtain⟨s,hs,rfl⟩:=hc;simp only[jJ]at he;exact nO hR (JV hR hm hs he (hρ a (by simp[Op.operands])))
 ·-- store
  simp only[aQ]at hc;obtain⟨s,hs,rfl⟩:=hc;simp[jJ]at he
 ·-- nilCheck
  rename_i x hop;rw[hop]at hρ ⊢;simp only[au]at hc;subst hc;simp only[jJ]at he;have hx:=hρ x (by simp[Op.operands]);obtain⟨rfl,h2⟩:=V6 he hx;refine qP hR ?_ hx
  dsimp only
  generalize ρc x=u at h2
  rcases h2 with ⟨a,rfl⟩|⟨f,a,b,rfl⟩
  ·rfl
  ·rfl
 ·-- binOp
  rename_i op T x y yT hop;rw[hop]at hρ ⊢;simp only[au]at hc;subst hc;simp only[jJ]at he;exact nO hR (zaA (hρ x (by simp[Op.operands])) (hρ y (by simp[Op.operands])) he)
 ·-- unOp
  rename_i op T x hop;rw[hop]at hρ ⊢;simp only[au]at hc;subst hc;simp only[jJ]at he
  split at he
  ·rename_i a ha
   split at he
   ·rename_i r hr
    split at he
    ·rename_i hn;simp only[au]at he;subst he;have:=Lj ha (hρ x (by simp[Op.operands]));exact nO hR ⟨r,by rw[this];exact Gi hr w,.val hn⟩
    ·cases he
   ·cases he
  ·cases he
 ·-- convert
  rename_i src dst x hop;rw[hop]at hρ ⊢;have hx:=hρ x (by simp[Op.operands])
  split at hc
  ·rename_i e h1 h2
   split at hc
   ·rename_i h3;simp only[au]at hc;subst hc;simp only[jJ]at he;exact nO hR (zaB hR h1 h2 h3 he hx)
   ·cases hc
  ·split at hc
   ·simp only[au]at hc;subst hc;simp[jJ]at he
   ·cases hc
  ·split at hc
   ·simp only[au]at hc;subst hc;simp[jJ]at he
   ·cases hc
  ·simp only[au]at hc;subst hc;simp only[jJ]at he
   split at he
   ·rename_i a ha
    split at he
    ·rename_i r hr
     split at he
     ·rename_i hn;simp only[au]at he;subst he;have:=Lj ha hx;exact nO hR ⟨r,by rw[this];exact Gi hr w,.val hn⟩
     ·cases he
    ·cases he
   ·cases he
 ·-- makeInterface
  rename_i T x hop;rw[hop]at hρ ⊢;have hx:=hρ x (by simp[Op.operands])
  split at hc
  ·cases hc
  ·cases hc
  ·rename_i d hd hne;simp only[au]at hc;subst hc;simp only[jJ,au]at he;subst he;refine nO hR ⟨.iface T (ρc x),?_,.ifc hx⟩;simp only[Instr.makeInterface,Sem.run_bind,run_underlying hne,Result.andThen_ok]
   cases d with
   |interface ms=>exact(hd ms rfl).elim
   |_=>rfl
 ·-- makeFunc
  rename_i fn f c hop;rw[hop]at hρ ⊢;simp only[au]at hc;subst hc;simp only[jJ,au]at he;subst he;refine nO hR ⟨.func fn (f.map ρc) (c.map ρc),rfl,?_⟩;have h1:kE G (f.toList.map ρ) (f.toList.map ρc):=zq (fun x hx=>hρ x (by simp[Op.operands];exact .inl (by simpa using hx)));have h2:kE G (c.toList.map ρ) (c.toList.map ρc):=zq (fun x hx=>hρ x (by simp[Op.operands];exact .inr (by simpa using hx)));have:=ku.fn (f:=fn) h1 h2
  rwa [show(f.toList.map ρc).toArray=f.map ρc from by apply dC;simp,show(c.toList.map ρc).toArray=c.map ρc from by apply dC;simp]at this
 ·-- slice
  rename_i T x lo hi mx hop;rw[hop]at hρ ⊢;have hx:=hρ x (by simp[Op.operands]);have hl:∀ y,lo=some y→ku G (ρ y) (ρc y):=fun y hy=>hρ y (by subst hy;simp[Op.operands]);have hh:∀ y,hi=some y→ku G (ρ y) (ρc y):=fun y hy=>hρ y (by subst hy;simp[Op.operands]);have hmx:∀ y,mx=some y→ku G (ρ y) (ρc y):=fun y hy=>hρ y (by subst hy;simp[Op.operands])
  split at hc
  ·rename_i hT
   split at hc
   ·simp only[au]at hc;subst hc;simp only[jJ]at he;exact nO hR (Q3 hT he hx hl hh)
   ·cases hc
  ·rename_i e hT
   split at hc
   ·rename_i s hs;simp only[au]at hc;subst hc;simp only[jJ]at he;exact nO hR (Q5 hT hs he hx hl hh hmx)
   ·cases hc
  ·rename_i n e hT
   split at hc
   ·rename_i s hs;simp only[au]at hc;subst hc;simp only[jJ]at he;exact nO hR (Q4 hT hs he hx hl hh hmx)
   ·cases hc
  ·cases hc
 ·-- fieldAddr
  rename_i S x f hop;rw[hop]at hρ ⊢;have hx:=hρ x (by simp[Op.operands])
  split at hc
  ·rename_i fields hT
   split at hc
   ·rename_i fd hf
    split at hc
    ·rename_i n hs;simp only[au]at hc;subst hc;simp only[jJ]at he;exact nO hR (SB hT hf hs he hx)
    ·cases hc
   ·cases hc
  ·cases hc
 ·-- field
  rename_i S x f hop;rw[hop]at hρ ⊢;have hx:=hρ x (by simp[Op.operands])
  split at hc
  ·rename_i fields hT
   split at hc
   ·rename_i fd hf;simp only[aQ]at hc;obtain⟨s,hs,rfl⟩:=hc;simp only[jJ]at he;exact nO hR (UU hT hf hs he hx)
   ·cases hc
  ·cases hc
 ·-- indexAddr
  rename_i T x i hop;rw[hop]at hρ ⊢;have hx:=hρ x (by simp[Op.operands]);have hi:=hρ i (by simp[Op.operands])
  split at hc
  ·rename_i n e hT;simp only[aQ]at hc;obtain⟨s,hs,rfl⟩:=hc;simp only[jJ]at he;exact nO hR (Wx hT hs he hx hi)
  ·rename_i e hT;simp only[aQ]at hc;obtain⟨s,hs,rfl⟩:=hc;simp only[jJ]at he;exact nO hR (Wv hT hs he hx hi)
  ·cases hc
 ·-- index
  rename_i T x i hop;rw[hop]at hρ ⊢;have hx:=hρ x (by simp[Op.operands]);have hi:=hρ i (by simp[Op.operands])
  split at hc
  ·rename_i hT;simp only[au]at hc;subst hc;simp only[jJ]at he;exact nO hR (RZ hT he hx hi)
  ·rename_i n e hT
   split at hc
   ·rename_i a s ha hs;simp only[au]at hc;subst hc;simp only[jJ]at he;exact nO hR (Si hT ha hs he hx hi)
   ·cases hc
  ·cases hc
 ·-- makeSlice
  split at hc
  ·split at hc
   ·split at hc
    ·simp only[au]at hc;subst hc;simp[jJ]at he
    ·cases hc
   ·cases hc
  ·cases hc
 ·-- sliceToArrayPointer
  rename_i arr x hop;rw[hop]at hρ ⊢;have hx:=hρ x (by simp[Op.operands])
  split at hc
  ·rename_i n e hT;simp only[au]at hc;subst hc;simp only[jJ]at he;exact nO hR (VH hT he hx)
  ·cases hc
 ·-- panic
  simp only[au]at hc;subst hc;simp[jJ]at he
 ·-- typeAssert
  rename_i x xT T ok hop;rw[hop]at hρ ⊢;have hx:=hρ x (by simp[Op.operands])
  split at hc
  ·rename_i hok;subst hok;simp only[au]at hc;subst hc;simp only[jJ]at he;exact nO hR (W9 he hx)
  ·cases hc
 ·-- extract
  rename_i x k hop;rw[hop]at hρ ⊢;have hx:=hρ x (by simp[Op.operands]);simp only[au]at hc;subst hc;simp only[jJ]at he;refine nO hR ?_;generalize ρ x=xv at hx he;generalize ρc x=xu at hx
  cases hx with
  |tup h=>
   simp only at he;obtain⟨u,hu,r⟩:=h.get he;exact⟨u,by simp[Instr.extract,hu],r⟩
  |_=>simp at he
 ·-- call
  rename_i c hop;rw[hop]at hρ ⊢
  split at hc
  ·simp only[au]at hc;subst hc;simp[jJ]at he
  ·-- len
   rename_i hcal
   split at hc
   ·rename_i x t hargs hty
    have hx := hρ x (by
     simp only[Op.operands,Call.operands,hcal];have:x∈c.args:=by rw[←dR,hargs];exact aU ..
     simpa using this)
    have hargs':c.args.map ρc = #[ρc x]:=by
     apply dC;simp[hargs]
    have key:∀ str,((str=true∧P.underlying t=some .string)∨(str=false∧∃ e,P.underlying t=some (.slice e)))→jJ P ρ m (.len str x)=some v →
      Tt P Γ B0 G mm w (do let d ←resolve ρc c o.type;invoke d.target d.args) v:=by
     intro str hstr he;simp only[jJ]at he;obtain⟨r,hr⟩:=ZM (P:=P) (w:=w) (type:=o.type) he hstr hx;refine qP hR ?_ (hr c.argTypes hty).2;simp[resolve,hcal,invoke,builtin,hargs',(hr c.argTypes hty).1]
    split at hc
    ·rename_i hT;simp only[au]at hc;subst hc;exact key true (.inl ⟨rfl,hT⟩) he
    ·rename_i e hT;simp only[au]at hc;subst hc;exact key false (.inr ⟨rfl,e,hT⟩) he
    ·cases hc
   ·cases hc
  ·-- append
   split at hc
   ·split at hc
    ·split at hc
     ·split at hc
      ·simp only[au]at hc;subst hc;simp[jJ]at he
      ·cases hc
     ·cases hc
    ·split at hc
     ·split at hc
      ·simp only[au]at hc;subst hc;simp[jJ]at he
      ·cases hc
     ·cases hc
    ·cases hc
   ·cases hc
  ·-- cap
   rename_i hcal
   split at hc
   ·rename_i x t hargs hty
    have hx := hρ x (by
     simp only[Op.operands,Call.operands,hcal];have:x∈c.args:=by rw[←dR,hargs];exact aU ..
     simpa using this)
    have hargs':c.args.map ρc = #[ρc x]:=by
     apply dC;simp[hargs]
    split at hc
    ·rename_i e hT;simp only[au]at hc;subst hc;simp only[jJ]at he;obtain⟨r,hr⟩:=zau (P:=P) (w:=w) (type:=o.type) he hT hx;refine qP hR ?_ (hr c.argTypes hty).2;simp[resolve,hcal,invoke,builtin,hargs',(hr c.argTypes hty).1]
    ·cases hc
   ·cases hc
  ·-- max
   rename_i hcal;simp only[au]at hc;subst hc;simp only[jJ]at he
   have hr : kE G (c.args.toList.map ρ) (c.args.toList.map ρc) := zq (fun x hx => hρ x (by
    simp only[Op.operands,Call.operands,hcal]
    simpa using hx))
   obtain⟨u,h1,h2⟩:=Uz (P:=P) (w:=w) (types:=c.argTypes) (type:=o.type) he hr;refine qP hR ?_ h2;have e:(c.args.toList.map ρc).toArray=c.args.map ρc:=by apply dC;simp
   rw[e]at h1;simp only[if_true]at h1;simp[resolve,hcal,invoke,builtin,h1]
  ·-- min
   rename_i hcal;simp only[au]at hc;subst hc;simp only[jJ]at he
   have hr : kE G (c.args.toList.map ρ) (c.args.toList.map ρc) := zq (fun x hx => hρ x (by
    simp only[Op.operands,Call.operands,hcal]
    simpa using hx))
   obtain⟨u,h1,h2⟩:=Uz (P:=P) (w:=w) (types:=c.argTypes) (type:=o.type) he hr;refine qP hR ?_ h2;have e:(c.args.toList.map ρc).toArray=c.args.map ρc:=by apply dC;simp
   rw[e]at h1;simp only[Bool.false_eq_true,if_false]at h1;simp[resolve,hcal,invoke,builtin,h1]
  ·cases hc
 ·cases hc
end
end Go.Av
