/- A row whose order is open: one order told, and which pairs may change places. No condition. -/
import Derived.Test.YtmglaebjmaomnaaGreatDoorTAv15
open List renaming map_congr_left→dA, getD_eq_getElem?_getD→aT, getElem?_set→iT
open Option.some renaming injEq→au
set_option linter.unusedSimpArgs false
set_option linter.unusedVariables false
namespace Go.Av
open Go.RowKit
def AOp.jX:AOp→List Operand
 | .mov x | .box _ x | .nilc x | .un _ x | .conv _ _ x | .b2s x | .s2b _ x | .mki _ x | .fieldA _ x | .field _ _ x | .len _ x | .ext x _ | .load _ x=>[x]
 | .pick c a b=>[c,a,b]
 | .alloc _ _=>[]
 | .build _ parts=>parts.map (·.2.2)
 | .lits _ _ _ parts=>parts.map (·.2)
 | .store _ a x=>[a,x]
 | .bin _ _ _ x y | .idxA _ _ x y | .idxL _ x y | .idxStr x y | .idxArr _ _ _ x y | .app _ _ _ x y=>[x,y]
 | .mkf _ f c=>f++c
 | .sliceS x lo hi=>x::(lo.toList++hi.toList)
 | .sliceL _ x lo hi mx=>x::(lo.toList++hi.toList++mx.toList)
 | .call f args=>f::args
 | .bad=>[]
 | .capS x | .s2ap _ x | .panic x | .asrt _ x | .mark x=>[x]
 | .mm _ xs=>xs
 | .appz _ _ _ s n=>[s,n]
 | .mks _ _ _ l c=>[l,c]
 | .sliceP _ _ x lo hi mx=>x::(lo.toList++hi.toList++mx.toList)
def Xo:Operand→Option Nat
 | .tmp n=>some n
 |_=>none
inductive Kd where
 |loc|load|alloc|eff
 deriving DecidableEq
def kindOf:AOp→Kd
 | .load _ _=>.load
 | .alloc _ _ | .box _ _=>.alloc
 | .mark _ | .s2b _ _ | .store _ _ _ | .app _ _ _ _ _ | .call _ _ | .bad | .panic _ | .appz _ _ _ _ _ | .mks _ _ _ _ _=>.eff
 |_=>.loc
def total:AOp→Bool
 | .mov _ | .mki _ _ | .mkf _ _ _=>true
 |_=>false
def Item.reads(x:Item):List Nat:=(match x.g with
 |some (d,_)=>[d]
 |none=>[])++x.ao.jX.filterMap Xo
def Item.apart(x y:Item):Bool:=(match x.dst with
 |some d => !y.reads.contains d
 |none=>true)&&(match y.dst with
 |some d => !x.reads.contains d
 |none=>true)&&(match x.dst,y.dst with
 |some d,some e=>d != e
 |_,_=>true)
def zc9(seen:Bool)(x i:Item):Bool:=x.apart i&&match kindOf x.ao,kindOf i.ao with
 | .eff,.loc=>total i.ao
 | .eff,.load=>false
 | .eff,.alloc=>true
 | .eff,.eff=>false
 | .alloc,.eff=>false
 | .load,.eff=>seen
 |_,_=>true
section
variable {P:Program} {Γ:jG} {B0:Nat} {mF:Store} {G G0:Gh} {st:St} {a:Act} {w w0:World} {Kp:V→Store→Prop}
theorem Ee{ρ ρ':Operand→V}{m:Store}{ao:AOp}(h:∀ x∈ao.jX,ρ x=ρ' x):jJ P ρ m ao=jJ P ρ' m ao:=by
 have hopt:∀ (x:Option Operand),(∀ y,x=some y→ρ y=ρ' y)→lN ρ x=lN ρ' x:=by
  intro x hx
  cases x with
  |none=>rfl
  |some y=>simp only[lN,hx y rfl]
 cases ao with
 |build z parts=>
  simp only[jJ]
  have:(parts.map fun x=>(x.1,x.2.1,ρ x.2.2))=parts.map fun x=>(x.1,x.2.1,ρ' x.2.2):=dA fun x hx=>by
   rw[h x.2.2 (List.mem_map.2 ⟨x,hx,rfl⟩)]
  rw[this]
 |lits s z len parts=>
  simp only[jJ]
  have:(parts.map fun x=>(x.1,ρ x.2))=parts.map fun x=>(x.1,ρ' x.2):=dA fun x hx=>by
   rw[h x.2 (List.mem_map.2 ⟨x,hx,rfl⟩)]
  rw[this]
 |mkf fn f c=>
  simp only[jJ];rw[dA (f:=ρ) (g:=ρ') (l:=f) fun x hx=>h x (List.mem_append_left _ hx),dA (f:=ρ) (g:=ρ') (l:=c) fun x hx=>h x (List.mem_append_right _ hx)]
 |sliceS x lo hi=>
  simp only[jJ];rw[h x (by simp[AOp.jX]),hopt lo (fun y hy=>h y (by subst hy;simp[AOp.jX])),hopt hi (fun y hy=>h y (by subst hy;simp[AOp.jX]))]
 |sliceL s x lo hi mx=>
  simp only[jJ];rw[h x (by simp[AOp.jX]),hopt lo (fun y hy=>h y (by subst hy;simp[AOp.jX])),hopt hi (fun y hy=>h y (by subst hy;simp[AOp.jX])),hopt mx (fun y hy=>h y (by subst hy;simp[AOp.jX]))]
 |sliceP n s x lo hi mx=>
  simp only[jJ];rw[h x (by simp[AOp.jX]),hopt lo (fun y hy=>h y (by subst hy;simp[AOp.jX])),hopt hi (fun y hy=>h y (by subst hy;simp[AOp.jX])),hopt mx (fun y hy=>h y (by subst hy;simp[AOp.jX]))]
 |mm mx xs=>
  simp only[jJ];rw[dA (f:=ρ) (g:=ρ') (l:=xs) fun x hx=>h x hx]
 |capS x=>simp only[jJ];rw[h x (by simp[AOp.jX])]
 |asrt T x=>simp only[jJ];rw[h x (by simp[AOp.jX])]
 |s2ap n x=>simp only[jJ];rw[h x (by simp[AOp.jX])]
 |idxArr n s a x y=>simp only[jJ];rw[h x (by simp[AOp.jX]),h y (by simp[AOp.jX])]
 |pick c x y=>simp only[jJ];rw[h c (by simp[AOp.jX]),h x (by simp[AOp.jX]),h y (by simp[AOp.jX])]
 |bin op T k x y=>simp only[jJ];rw[h x (by simp[AOp.jX]),h y (by simp[AOp.jX])]
 |idxA n s x y=>simp only[jJ];rw[h x (by simp[AOp.jX]),h y (by simp[AOp.jX])]
 |idxL s x y=>simp only[jJ];rw[h x (by simp[AOp.jX]),h y (by simp[AOp.jX])]
 |idxStr x y=>simp only[jJ];rw[h x (by simp[AOp.jX]),h y (by simp[AOp.jX])]
 |mov x=>simp only[jJ];rw[h x (by simp[AOp.jX])]
 |load s x=>simp only[jJ];rw[h x (by simp[AOp.jX])]
 |nilc x=>simp only[jJ];rw[h x (by simp[AOp.jX])]
 |un op x=>simp only[jJ];rw[h x (by simp[AOp.jX])]
 |conv s d x=>simp only[jJ];rw[h x (by simp[AOp.jX])]
 |b2s x=>simp only[jJ];rw[h x (by simp[AOp.jX])]
 |mki T x=>simp only[jJ];rw[h x (by simp[AOp.jX])]
 |fieldA o x=>simp only[jJ];rw[h x (by simp[AOp.jX])]
 |field o s x=>simp only[jJ];rw[h x (by simp[AOp.jX])]
 |len b x=>simp only[jJ];rw[h x (by simp[AOp.jX])]
 |ext x k=>simp only[jJ];rw[h x (by simp[AOp.jX])]
 |_=>rfl
theorem zad{ρ:Operand→V}{m m':Store}{ao:AOp}(h:kindOf ao ≠ .load):jJ P ρ m ao=jJ P ρ m' ao:=by
 cases ao with
 |load s x=>exact absurd rfl h
 |_=>rfl
theorem DD{ρ:Operand→V}{m m':Store}{ao:AOp}(hm:∀ b x,m b=some x→m' b=some x){v:V}(h:jJ P ρ m ao=some v):jJ P ρ m' ao=some v:=by
 cases ao with
 |load s x=>
  simp only[jJ]at h ⊢
  split at h
  ·exact h
  ·rename_i b o _
   cases hb:m b with
   |none=>rw[hb]at h;cases h
   |some y=>
    rw[hb]at h;rw[hm b y hb];exact h
  ·cases h
 |_=>exact h
theorem Jt{ρ ρ':Operand→V}{m:Store}{K:V→Store→Prop}{ao:AOp}(h:∀ x∈ao.jX,ρ x=ρ' x)(hE:opE P Γ ρ m K Kp ao):opE P Γ ρ' m K Kp ao:=by
 have q:(∃ v,jJ P ρ m ao=some v∧K v m)→∃ v,jJ P ρ' m ao=some v∧K v m:=by
  rintro⟨v,h1,h2⟩;exact⟨v,by rw[←Ee h];exact h1,h2⟩
 cases ao with
 |alloc T cells=>exact hE
 |box T x=>simp only[opE]at hE ⊢;rwa [←h x (by simp[AOp.jX])]
 |store s x y=>simp only[opE]at hE ⊢;rwa [←h x (by simp[AOp.jX]),←h y (by simp[AOp.jX])]
 |s2b e x=>simp only[opE]at hE ⊢;rwa [←h x (by simp[AOp.jX])]
 |mark x=>simp only[opE]at hE ⊢;rwa [←h x (by simp[AOp.jX])]
 |app e b s x y=>simp only[opE]at hE ⊢;rwa [←h x (by simp[AOp.jX]),←h y (by simp[AOp.jX])]
 |bad=>exact hE
 |panic x=>simp only[opE]at hE ⊢;rwa [←h x (by simp[AOp.jX])]
 |appz e b s x y=>simp only[opE]at hE ⊢;rwa [←h x (by simp[AOp.jX]),←h y (by simp[AOp.jX])]
 |mks e b z x y=>simp only[opE]at hE ⊢;rwa [←h x (by simp[AOp.jX]),←h y (by simp[AOp.jX])]
 |call f args=>
  simp only[opE]at hE ⊢
  rwa [←h f (by simp[AOp.jX]),←dA (f:=ρ) (g:=ρ') (l:=args) fun x hx=>h x (by simp[AOp.jX,hx])]
 |_=>exact q hE
theorem zcV{t:List V}{d:Nat}{v:V}{x:Operand}(h:Xo x≠some d):ev Γ (t.set d v) x=ev Γ t x:=by
 cases x with
 |tmp n=>
  simp only[Xo,ne_eq,au]at h;simp only[ev];rw[aT,iT,if_neg (fun e=>h e.symm),aT]
 |_=>rfl
theorem JR{t:List V}{d:Nat}{v:V}{g:Option (Tmp×Bool)}(h:∀ e b,g=some (e,b)→e≠d):kP g (t.set d v)=kP g t:=by
 cases g with
 |none=>rfl
 |some x=>
  obtain⟨e,b⟩:=x;simp only[kP];rw[aT,iT,if_neg (fun k=>h e b rfl k.symm),aT]
def Item.free(x:Item)(d:Option Tmp):Prop:=∀ e,d=some e→e∉x.reads
theorem Item.IC{x:Item}{d:Option Tmp}(h:x.free d)(s:St)(v:V):∀ y∈x.ao.jX,ev Γ s.t y=ev Γ (s.put d v).t y:=by
 intro y hy
 cases d with
 |none=>rfl
 |some d=>
  refine(zcV fun k=>h d rfl ?_).symm;simp only[Item.reads,List.mem_append,List.mem_filterMap];exact .inr ⟨y,hy,k⟩
theorem Item.Ai{x:Item}{d:Option Tmp}(h:x.free d)(s:St)(v:V):kP x.g (s.put d v).t=kP x.g s.t:=by
 cases d with
 |none=>rfl
 |some d=>
  refine JR fun e b hg hed=>h d rfl ?_;subst hed;simp only[Item.reads,hg,List.mem_append];exact .inl (List.mem_cons_self ..)
theorem DX(s:St)(d:Option Tmp)(v:V)(m':Store):({ s.put d v with m:=m' }:St)=({ s with m:=m' }:St).put d v:=by cases d<;>rfl
theorem put_comm(s:St){d e:Option Tmp}(v u:V)(h:∀ x y,d=some x→e=some y→x≠y):(s.put d v).put e u=(s.put e u).put d v:=by
 cases d with
 |none=>cases e<;>rfl
 |some d=>
  cases e with
  |none=>rfl
  |some e=>
   have:=h d e rfl rfl;simp only[St.put];rw[List.set_comm _ _ this]
def Ae(P:Program)(Γ:jG)(x:Item)(st:St):Option V:=if kP x.g st.t then jJ P (ev Γ st.t) st.m x.ao else some (.val undef)
def Quiet(x:Item)(st:St):Prop:=(kindOf x.ao = .loc∨kindOf x.ao = .load)∨kP x.g st.t=false
theorem quiet_iff{x:Item}(hk:Quiet x st){K:St→Prop}:kX P Γ Kp x K st↔∃ v,Ae P Γ x st=some v∧K (st.put x.dst v):=by
 unfold kX Ae
 rcases hk with hk|hk
 ·have e:∀ K',opE P Γ (ev Γ st.t) st.m K' Kp x.ao↔∃ v,jJ P (ev Γ st.t) st.m x.ao=some v∧K' v st.m:=by
   intro K';generalize x.ao=ao at hk
   cases ao<;>first|exact Iff.rfl|(simp[kindOf]at hk)
  split
  ·rw[e]
  ·simp only[au,exists_eq_left']
 ·rw[hk];simp
theorem uZ{x:Item}{d:Option Tmp}(h:x.free d)(s:St)(v:V):Ae P Γ x (s.put d v)=Ae P Γ x s:=by
 unfold Ae;rw[Item.Ai h s v,nP,Ee (Item.IC h s v)]
theorem Me{x:Item}{s:St}(hk:kindOf x.ao ≠ .load∨kP x.g s.t=false)(m':Store):Ae P Γ x { s with m:=m' }=Ae P Γ x s:=by
 unfold Ae
 split
 ·rename_i hw
  rcases hk with hk|hk
  ·exact zad hk
  ·rw[hk]at hw;cases hw
 ·rfl
theorem Ph{x:Item}{s:St}{m':Store}(hm:∀ b y,s.m b=some y→m' b=some y){v:V}(h:Ae P Γ x s=some v):Ae P Γ x { s with m:=m' }=some v:=by
 unfold Ae at h ⊢
 split
 ·rename_i hw;rw[if_pos hw]at h;exact DD hm h
 ·rename_i hw
  rwa [if_neg hw]at h
theorem ZK{x:Item}{s:St}{blk:Blk}(hf:∀ b',∃ b,b≠b'∧s.m b=none)(hk:Quiet x s)(h:∀ b,s.m b=none→∃ v,Ae P Γ x { s with m:=s.m.set b blk }=some v):∃ v,Ae P Γ x s=some v:=by
 rcases hk with (hk|hk)|hk
 ·obtain⟨b,_,hb⟩:=hf 0;obtain⟨v,hv⟩:=h b hb;exact⟨v,by rw[←hv];exact(Me (.inl (by rw[hk];simp)) _).symm⟩
 ·unfold Ae at h ⊢
  split
  ·rename_i hw;simp only[if_pos hw]at h;generalize hao:x.ao=ao at hk h
   cases ao with
   |load sz y=>
    simp only[jJ]at h ⊢
    cases hy:ev Γ s.t y with
    |ptr b' o=>
     obtain⟨b,hne,hb⟩:=hf b';obtain⟨v,hv⟩:=h b hb;rw[hy]at hv;simp only[Store.jw _ _ (fun e=>hne e.symm)]at hv;exact⟨v,hv⟩
    |elt cs=>
     obtain⟨b,_,hb⟩:=hf 0;obtain⟨v,hv⟩:=h b hb;rw[hy]at hv;exact⟨v,hv⟩
    |_=>
     obtain⟨b,_,hb⟩:=hf 0;obtain⟨v,hv⟩:=h b hb;rw[hy]at hv;simp at hv
   |_=>simp[kindOf]at hk
  ·exact⟨_,rfl⟩
 ·unfold Ae;rw[hk];exact⟨_,rfl⟩
def pU(Γ:jG)(x:Item)(st:St):List V:=match x.ao with
 | .alloc _ cells=>cells
 | .box _ y=>(ev Γ st.t y).cells
 |_=>[]
def Dv(x:Item):TypeId:=match x.ao with
 | .alloc T _=>T
 | .box T _=>T
 |_=>0
theorem uV{x:Item}(hk:kindOf x.ao = .alloc)(hw:kP x.g st.t=true){K:St→Prop}:kX P Γ Kp x K st ↔
  ∀ b,st.m b=none→K ({ st with m:=st.m.set b (.var (Dv x) (pU Γ x st)) }.put x.dst (.ptr b 0)):=by
 unfold kX pU Dv;rw[hw];generalize x.ao=ao at hk;cases ao<;>simp[kindOf]at hk
 all_goals
  simp only[opE,if_true]
theorem zH{x:Item}{d:Option Tmp}(h:x.free d)(s:St)(v:V):pU Γ x (s.put d v)=pU Γ x s:=by
 have:=Item.IC (Γ:=Γ) h s v;unfold pU;generalize x.ao=ao at this
 cases ao with
 |box T y=>simp only;rw[this y (by simp[AOp.jX])]
 |_=>rfl
end
end Go.Av
