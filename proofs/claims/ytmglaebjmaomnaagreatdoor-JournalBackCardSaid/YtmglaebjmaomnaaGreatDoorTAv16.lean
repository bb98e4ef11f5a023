/- A row whose order is open: one order told, and which pairs may change places. No condition. -/
import Derived.Test.YtmglaebjmaomnaaGreatDoorTAv15
open List renaming map_congr_left→dC, getD_eq_getElem?_getD→aU, getElem?_set→iZ
open Option.some renaming injEq→ax
set_option linter.unusedSimpArgs false
set_option linter.unusedVariables false
namespace Go.Av
open Go.RowKit
def AOp.jV:AOp→List Operand
 | .mov x | .box _ x | .nilc x | .un _ x | .conv _ _ x | .b2s x | .s2b _ x | .mki _ x | .fieldA _ x | .field _ _ x | .len _ x | .ext x _ | .load _ x=>[x]
 | .pick c a b=>[c,a,b]
 | .alloc _ _=>[]
 | .build _ parts=>parts.map (·.2.2)
 | .lits _ _ _ parts=>parts.map (·.2)
 | .store _ a x=>[a,x]
 | .bin _ _ _ x y | .idxA _ _ x y | .idxL _ x y | .idxStr x y | .idxArr _ _ _ x y | .app _ _ _ x y=>[x,y]
 | .mkf _ f c=>f++c
 | .sliceS x lo hi=>x::(lo.toList++hi.toList)
 | .sliceL _ x lo hi mx=>x::(lo.toList++hi.toList++mx.toList)
 | .call f args=>f::args
 | .bad=>[]
 | .capS x | .s2ap _ x | .panic x | .asrt _ x | .mark x=>[x]
 | .mm _ xs=>xs
 | .appz _ _ _ s n=>[s,n]
 | .mks _ _ _ l c=>[l,c]
 | .sliceP _ _ x lo hi mx=>x::(lo.toList++hi.toList++mx.toList)
def XI:Operand→Option Nat
 | .tmp n=>some n
 |_=>none
inductive Kd where
 |loc|load|alloc|eff
 deriving DecidableEq
def kindOf:AOp→Kd
 | .load _ _=>.load
 | .alloc _ _ | .box _ _=>.alloc
 | .mark _ | .s2b _ _ | .store _ _ _ | .app _ _ _ _ _ | .call _ _ | .bad | .panic _ | .appz _ _ _ _ _ | .mks _ _ _ _ _=>.eff
 |_=>.loc
def total:AOp→Bool
 | .mov _ | .mki _ _ | .mkf _ _ _=>true
 |_=>false
def Item.reads(x:Item):List Nat:=(match x.g with
 |some (d,_)=>[d]
 |none=>[])++x.ao.jV.filterMap XI
def Item.apart(x y:Item):Bool:=(match x.dst with
 |some d => !y.reads.contains d
 |none=>true)&&(match y.dst with
 |some d => !x.reads.contains d
 |none=>true)&&(match x.dst,y.dst with
 |some d,some e=>d != e
 |_,_=>true)
def zdh(seen:Bool)(x i:Item):Bool:=x.apart i&&match kindOf x.ao,kindOf i.ao with
 | .eff,.loc=>total i.ao
 | .eff,.load=>false
 | .eff,.alloc=>true
 | .eff,.eff=>false
 | .alloc,.eff=>false
 | .load,.eff=>seen
 |_,_=>true
section
variable {P:Program} {Γ:jI} {B0:Nat} {mF:Store} {G G0:Gh} {st:St} {a:Act} {w w0:World} {Kp:V→Store→Prop}
theorem DZ{ρ ρ':Operand→V}{m:Store}{ao:AOp}(h:∀ x∈ao.jV,ρ x=ρ' x):jJ P ρ m ao=jJ P ρ' m ao:=by
 have hopt:∀ (x:Option Operand),(∀ y,x=some y→ρ y=ρ' y)→lH ρ x=lH ρ' x:=by
  intro x hx
  cases x with
  |none=>rfl
  |some y=>simp only[lH,hx y rfl]
 cases ao with
 |build z parts=>
  simp only[jJ]
  have:(parts.map fun x=>(x.1,x.2.1,ρ x.2.2))=parts.map fun x=>(x.1,x.2.1,ρ' x.2.2):=dC fun x hx=>by
   rw[h x.2.2 (List.mem_map.2 ⟨x,hx,rfl⟩)]
  rw[this]
 |lits s z len parts=>
  simp only[jJ]
  have:(parts.map fun x=>(x.1,ρ x.2))=parts.map fun x=>(x.1,ρ' x.2):=dC fun x hx=>by
   rw[h x.2 (List.mem_map.2 ⟨x,hx,rfl⟩)]
  rw[this]
 |mkf fn f c=>
  simp only[jJ];rw[dC (f:=ρ) (g:=ρ') (l:=f) fun x hx=>h x (List.mem_append_left _ hx),dC (f:=ρ) (g:=ρ') (l:=c) fun x hx=>h x (List.mem_append_right _ hx)]
 |sliceS x lo hi=>
  simp only[jJ];rw[h x (by simp[AOp.jV]),hopt lo (fun y hy=>h y (by subst hy;simp[AOp.jV])),hopt hi (fun y hy=>h y (by subst hy;simp[AOp.jV]))]
 |sliceL s x lo hi mx=>
  simp only[jJ];rw[h x (by simp[AOp.jV]),hopt lo (fun y hy=>h y (by subst hy;simp[AOp.jV])),hopt hi (fun y hy=>h y (by subst hy;simp[AOp.jV])),hopt mx (fun y hy=>h y (by subst hy;simp[AOp.jV]))]
 |sliceP n s x lo hi mx=>
  simp only[jJ];rw[h x (by simp[AOp.jV]),hopt lo (fun y hy=>h y (by subst hy;simp[AOp.jV])),hopt hi (fun y hy=>h y (by subst hy;simp[AOp.jV])),hopt mx (fun y hy=>h y (by subst hy;simp[AOp.jV]))]
 |mm mx xs=>
  simp only[jJ];rw[dC (f:=ρ) (g:=ρ') (l:=xs) fun x hx=>h x hx]
 |capS x=>simp only[jJ];rw[h x (by simp[AOp.jV])]
 |asrt T x=>simp only[jJ];rw[h x (by simp[AOp.jV])]
 |s2ap n x=>simp only[jJ];rw[h x (by simp[AOp.jV])]
 |idxArr n s a x y=>simp only[jJ];rw[h x (by simp[AOp.jV]),h y (by simp[AOp.jV])]
 |pick c x y=>simp only[jJ];rw[h c (by simp[AOp.jV]),h x (by simp[AOp.jV]),h y (by simp[AOp.jV])]
 |bin op T k x y=>simp only[jJ];rw[h x (by simp[AOp.jV]),h y (by simp[AOp.jV])]
 |idxA n s x y=>simp only[jJ];rw[h x (by simp[AOp.jV]),h y (by simp[AOp.jV])]
 |idxL s x y=>simp only[jJ];rw[h x (by simp[AOp.jV]),h y (by simp[AOp.jV])]
 |idxStr x y=>simp only[jJ];rw[h x (by simp[AOp.jV]),h y (by simp[AOp.jV])]
 |mov x=>simp only[jJ];rw[h x (by simp[AOp.jV])]
 |load s x=>simp only[jJ];rw[h x (by simp[AOp.jV])]
 |nilc x=>simp only[jJ];rw[h x (by simp[AOp.jV])]
 |un op x=>simp only[jJ];rw[h x (by simp[AOp.jV])]
 |conv s d x=>simp only[jJ];rw[h x (by simp[AOp.jV])]
 |b2s x=>simp only[jJ];rw[h x (by simp[AOp.jV])]
 |mki T x=>simp only[jJ];rw[h x (by simp[AOp.jV])]
 |fieldA o x=>simp only[jJ];rw[h x (by simp[AOp.jV])]
 |field o s x=>simp only[jJ];rw[h x (by simp[AOp.jV])]
 |len b x=>simp only[jJ];rw[h x (by simp[AOp.jV])]
 |ext x k=>simp only[jJ];rw[h x (by simp[AOp.jV])]
 |_=>rfl
theorem zau{ρ:Operand→V}{m m':Store}{ao:AOp}(h:kindOf ao ≠ .load):jJ P ρ m ao=jJ P ρ m' ao:=by
 cases ao with
 |load s x=>exact absurd rfl h
 |_=>rfl
theorem Dq{ρ:Operand→V}{m m':Store}{ao:AOp}(hm:∀ b x,m b=some x→m' b=some x){v:V}(h:jJ P ρ m ao=some v):jJ P ρ m' ao=some v:=by
 cases ao with
 |load s x=>
  simp only[jJ]at h ⊢
  split at h
  ·exact h
  ·rename_i b o _
   cases hb:m b with
   |none=>rw[hb]at h;cases h
   |some y=>
    rw[hb]at h;rw[hm b y hb];exact h
  ·cases h
 |_=>exact h
theorem Jo{ρ ρ':Operand→V}{m:Store}{K:V→Store→Prop}{ao:AOp}(h:∀ x∈ao.jV,ρ x=ρ' x)(hE:opE P Γ ρ m K Kp ao):opE P Γ ρ' m K Kp ao:=by
 have q:(∃ v,jJ P ρ m ao=some v∧K v m)→∃ v,jJ P ρ' m ao=some v∧K v m:=by
  rintro⟨v,h1,h2⟩;exact⟨v,by rw[←DZ h];exact h1,h2⟩
 cases ao with
 |alloc T cells=>exact hE
 |box T x=>simp only[opE]at hE ⊢;rwa [←h x (by simp[AOp.jV])]
 |store s x y=>simp only[opE]at hE ⊢;rwa [←h x (by simp[AOp.jV]),←h y (by simp[AOp.jV])]
 |s2b e x=>simp only[opE]at hE ⊢;rwa [←h x (by simp[AOp.jV])]
 |mark x=>simp only[opE]at hE ⊢;rwa [←h x (by simp[AOp.jV])]
 |app e b s x y=>simp only[opE]at hE ⊢;rwa [←h x (by simp[AOp.jV]),←h y (by simp[AOp.jV])]
 |bad=>exact hE
 |panic x=>simp only[opE]at hE ⊢;rwa [←h x (by simp[AOp.jV])]
 |appz e b s x y=>simp only[opE]at hE ⊢;rwa [←h x (by simp[AOp.jV]),←h y (by simp[AOp.jV])]
 |mks e b z x y=>simp only[opE]at hE ⊢;rwa [←h x (by simp[AOp.jV]),←h y (by simp[AOp.jV])]
 |call f args=>
  simp only[opE]at hE ⊢
  rwa [←h f (by simp[AOp.jV]),←dC (f:=ρ) (g:=ρ') (l:=args) fun x hx=>h x (by simp[AOp.jV,hx])]
 |_=>exact q hE
theorem zc7{t:List V}{d:Nat}{v:V}{x:Operand}(h:XI x≠some d):ev Γ (t.set d v) x=ev Γ t x:=by
 cases x with
 |tmp n=>
  simp only[XI,ne_eq,ax]at h;simp only[ev];rw[aU,iZ,if_neg (fun e=>h e.symm),aU]
 |_=>rfl
theorem JV{t:List V}{d:Nat}{v:V}{g:Option (Tmp×Bool)}(h:∀ e b,g=some (e,b)→e≠d):kP g (t.set d v)=kP g t:=by
 cases g with
 |none=>rfl
 |some x=>
  obtain⟨e,b⟩:=x;simp only[kP];rw[aU,iZ,if_neg (fun k=>h e b rfl k.symm),aU]
def Item.free(x:Item)(d:Option Tmp):Prop:=∀ e,d=some e→e∉x.reads
theorem Item.Io{x:Item}{d:Option Tmp}(h:x.free d)(s:St)(v:V):∀ y∈x.ao.jV,ev Γ s.t y=ev Γ (s.put d v).t y:=by
 intro y hy
 cases d with
 |none=>rfl
 |some d=>
  refine(zc7 fun k=>h d rfl ?_).symm;simp only[Item.reads,List.mem_append,List.mem_filterMap];exact .inr ⟨y,hy,k⟩
theorem Item.zV{x:Item}{d:Option Tmp}(h:x.free d)(s:St)(v:V):kP x.g (s.put d v).t=kP x.g s.t:=by
 cases d with
 |none=>rfl
 |some d=>
  refine JV fun e b hg hed=>h d rfl ?_;subst hed;simp only[Item.reads,hg,List.mem_append];exact .inl (List.mem_cons_self ..)
theorem DJ(s:St)(d:Option Tmp)(v:V)(m':Store):({ s.put d v with m:=m' }:St)=({ s with m:=m' }:St).put d v:=by cases d<;>rfl
theorem put_comm(s:St){d e:Option Tmp}(v u:V)(h:∀ x y,d=some x→e=some y→x≠y):(s.put d v).put e u=(s.put e u).put d v:=by
 cases d with
 |none=>cases e<;>rfl
 |some d=>
  cases e with
  |none=>rfl
  |some e=>
   have:=h d e rfl rfl;simp only[St.put];rw[List.set_comm _ _ this]
def zQ(P:Program)(Γ:jI)(x:Item)(st:St):Option V:=if kP x.g st.t then jJ P (ev Γ st.t) st.m x.ao else some (.val undef)
def Quiet(x:Item)(st:St):Prop:=(kindOf x.ao = .loc∨kindOf x.ao = .load)∨kP x.g st.t=false
theorem quiet_iff{x:Item}(hk:Quiet x st){K:St→Prop}:lh P Γ Kp x K st↔∃ v,zQ P Γ x st=some v∧K (st.put x.dst v):=by
 unfold lh zQ
 rcases hk with hk|hk
 ·have e:∀ K',opE P Γ (ev Γ st.t) st.m K' Kp x.ao↔∃ v,jJ P (ev Γ st.t) st.m x.ao=some v∧K' v st.m:=by
   intro K';generalize x.ao=ao at hk
   cases ao<;>first|exact Iff.rfl|(simp[kindOf]at hk)
  split
  ·rw[e]
  ·simp only[ax,exists_eq_left']
 ·rw[hk];simp
theorem uZ{x:Item}{d:Option Tmp}(h:x.free d)(s:St)(v:V):zQ P Γ x (s.put d v)=zQ P Γ x s:=by
 unfold zQ;rw[Item.zV h s v,nK,DZ (Item.Io h s v)]
theorem MG{x:Item}{s:St}(hk:kindOf x.ao ≠ .load∨kP x.g s.t=false)(m':Store):zQ P Γ x { s with m:=m' }=zQ P Γ x s:=by
 unfold zQ
 split
 ·rename_i hw
  rcases hk with hk|hk
  ·exact zau hk
  ·rw[hk]at hw;cases hw
 ·rfl
theorem Py{x:Item}{s:St}{m':Store}(hm:∀ b y,s.m b=some y→m' b=some y){v:V}(h:zQ P Γ x s=some v):zQ P Γ x { s with m:=m' }=some v:=by
 unfold zQ at h ⊢
 split
 ·rename_i hw;rw[if_pos hw]at h;exact Dq hm h
 ·rename_i hw
  rwa [if_neg hw]at h
theorem Z4{x:Item}{s:St}{blk:Blk}(hf:∀ b',∃ b,b≠b'∧s.m b=none)(hk:Quiet x s)(h:∀ b,s.m b=none→∃ v,zQ P Γ x { s with m:=s.m.set b blk }=some v):∃ v,zQ P Γ x s=some v:=by
 rcases hk with (hk|hk)|hk
 ·obtain⟨b,_,hb⟩:=hf 0;obtain⟨v,hv⟩:=h b hb;exact⟨v,by rw[←hv];exact(MG (.inl (by rw[hk];simp)) _).symm⟩
 ·unfold zQ at h ⊢
  split
  ·rename_i hw;simp only[if_pos hw]at h;generalize hao:x.ao=ao at hk h
   cases ao with
   |load sz y=>
    simp only[jJ]at h ⊢
    cases hy:ev Γ s.t y with
    |ptr b' o=>
     obtain⟨b,hne,hb⟩:=hf b';obtain⟨v,hv⟩:=h b hb;rw[hy]at hv;simp only[Store.jw _ _ (fun e=>hne e.symm)]at hv;exact⟨v,hv⟩
    |elt cs=>
     obtain⟨b,_,hb⟩:=hf 0;obtain⟨v,hv⟩:=h b hb;rw[hy]at hv;exact⟨v,hv⟩
    |_=>
     obtain⟨b,_,hb⟩:=hf 0;obtain⟨v,hv⟩:=h b hb;rw[hy]at hv;simp at hv
   |_=>simp[kindOf]at hk
  ·exact⟨_,rfl⟩
 ·unfold zQ;rw[hk];exact⟨_,rfl⟩
def pJ(Γ:jI)(x:Item)(st:St):List V:=match x.ao with
 | .alloc _ cells=>cells
 | .box _ y=>(ev Γ st.t y).cells
 |_=>[]
def Dj(x:Item):TypeId:=match x.ao with
 | .alloc T _=>T
 | .box T _=>T
 |_=>0
theorem uV{x:Item}(hk:kindOf x.ao = .alloc)(hw:kP x.g st.t=true){K:St→Prop}:lh P Γ Kp x K st ↔
  ∀ b,st.m b=none→K ({ st with m:=st.m.set b (.var (Dj x) (pJ Γ x st)) }.put x.dst (.ptr b 0)):=by
 unfold lh pJ Dj;rw[hw];generalize x.ao=ao at hk;cases ao<;>simp[kindOf]at hk
 all_goals
  simp only[opE,if_true]
theorem zq{x:Item}{d:Option Tmp}(h:x.free d)(s:St)(v:V):pJ Γ x (s.put d v)=pJ Γ x s:=by
 have:=Item.Io (Γ:=Γ) h s v;unfold pJ;generalize x.ao=ao at this
 cases ao with
 |box T y=>simp only;rw[this y (by simp[AOp.jV])]
 |_=>rfl
end
end Go.Av
