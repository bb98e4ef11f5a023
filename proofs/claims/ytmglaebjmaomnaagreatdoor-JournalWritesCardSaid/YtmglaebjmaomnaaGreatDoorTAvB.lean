/- A slice that is only appended to. No condition. -/
import Derived.Test.YtmglaebjmaomnaaGreatDoorTAvP
open Bool renaming and_eq_true→aG
open List renaming mem_singleton→cO
set_option linter.unusedSimpArgs false
set_option linter.unusedVariables false
namespace Go.Av
def Buf(e:TypeId)(size:Nat)(m m':Store)(v:V)(es:List V):Prop:=oq size es=true ∧
 ((es=[]∧v = .sl [] [] .full∧m'=m)∨(es≠[]∧∃ b k,m b=none∧m'=m.set b (.tip e k)∧v = .sl es [] (.tip b k)))
theorem Buf.start{e:TypeId}{size:Nat}{m:Store}:Buf e size m m (.sl [] [] .full) []:=⟨rfl,.inl ⟨rfl,rfl,rfl⟩⟩
theorem Buf.sub{e:TypeId}{size:Nat}{m m':Store}{v:V}{es:List V}(h:Buf e size m m' v es):∀ b x,m b=some x→m' b=some x:=by
 rcases h.2 with ⟨_,_,rfl⟩|⟨_,b,k,hb,rfl,_⟩
 ·exact fun _ _ h=>h
 ·exact KZ hb (fun _ _ h=>h)
theorem Buf.add{e:TypeId}{size:Nat}{m m':Store}{v:V}{es:List V}(h:Buf e size m m' v es){b:Nat}{x:Blk}(hb:m' b=none):Buf e size (m.set b x) (m'.set b x) v es:=by
 refine⟨h.1,?_⟩
 rcases h.2 with ⟨h1,h2,rfl⟩|⟨h1,t,k,ht,rfl,h2⟩
 ·exact .inl ⟨h1,h2,rfl⟩
 ·have hne:t≠b:=by
   rintro rfl;rw[Store.jv]at hb;cases hb
  refine .inr ⟨h1,t,k,by rw[Store.jw _ _ hne,ht],?_,h2⟩;funext c;simp only[Store.set]
  by_cases e1:c=b
  ·subst e1;simp[hne.symm]
  ·simp[e1]
theorem Buf.val{e:TypeId}{size:Nat}{m m':Store}{v:V}{es:List V}(h:Buf e size m m' v es):∃ tok,v = .sl es [] tok:=by
 rcases h.2 with ⟨rfl,h,_⟩|⟨_,b,k,_,_,h⟩
 ·exact⟨_,h⟩
 ·exact⟨_,h⟩
section
variable {P:Program} {Γ:jG} {Kp:V→Store→Prop} {l:List Item} {K:St→Prop} {t:List V} {m m':Store} {d:Option Tmp} {s:List (Tmp×Option (Tmp×Bool)×AOp)}
theorem Eo{e:TypeId}{bytes size:Nat}{v x:V}{es more:List V}{tok:Tok}(h:Buf e size m m' v es)(hx:x.cells.length=size)(h1:∀ c∈x.cells,oW c=true)(hl:(es.length+1)*bytes≤140737488355328)
  (hk:∀ m2 v2,Buf e size m m2 v2 (es++[x])→oH P Γ Kp s l K (qW t m2 d (some v2))):Tn P Γ Kp e bytes size v (.sl [x] more tok) d s l K t m':=by
 have hel:vM size [x]:=by
  intro y hy;rw[cO]at hy;subst hy;exact⟨hx,h1⟩
 have hsz:oq size (es++[x])=true:=by
  have:=h.1;simp only[oq,List.all_append,List.all_cons,List.all_nil,Bool.and_true,aG]at this ⊢;exact⟨this,by simp[hx]⟩
 rcases h.2 with ⟨rfl,rfl,rfl⟩|⟨hne,b,k,hb,rfl,rfl⟩
 ·refine Fv (by simp) rfl hel (by simpa using hl) fun b hb => ?_;exact hk _ _ ⟨hsz,.inr ⟨by simp,b,0,hb,rfl,rfl⟩⟩
 ·refine OL (by simp) hne (Store.jv _ _ _) h.1 hel (by simpa using hl) ?_;rw[Store.kC];exact hk _ _ ⟨hsz,.inr ⟨by simp,b,k+1,hb,rfl,rfl⟩⟩
def GR(e:TypeId)(size:Nat)(m m':Store)(v:V)(es:List V):Prop:=Buf e size m m' v es∨(oq size es=true∧m'=m∧v = .sl es [] .full)
theorem GR.sub{e:TypeId}{size:Nat}{m m':Store}{v:V}{es:List V}(h:GR e size m m' v es):∀ b x,m b=some x→m' b=some x:=by
 rcases h with h|⟨_,rfl,_⟩
 ·exact h.sub
 ·exact fun _ _ k=>k
theorem GR.add{e:TypeId}{size:Nat}{m m':Store}{v:V}{es:List V}(h:GR e size m m' v es){b:Nat}{x:Blk}(hb:m' b=none):GR e size (m.set b x) (m'.set b x) v es:=by
 rcases h with h|⟨h1,rfl,h2⟩
 ·exact .inl (h.add hb)
 ·exact .inr ⟨h1,rfl,h2⟩
theorem QL{e:TypeId}{bytes size:Nat}{v x:V}{es more:List V}{tok:Tok}(h:GR e size m m' v es)(hx:x.cells.length=size)(h1:∀ c∈x.cells,oW c=true)(hl:(es.length+1)*bytes≤140737488355328)
  (hk:∀ m2 v2,Buf e size m m2 v2 (es++[x])→oH P Γ Kp s l K (qW t m2 d (some v2))):Tn P Γ Kp e bytes size v (.sl [x] more tok) d s l K t m':=by
 rcases h with h|⟨h0,rfl,rfl⟩
 ·exact Eo h hx h1 hl hk
 ·have hel:vM size [x]:=by
   intro y hy;rw[cO]at hy;subst hy;exact⟨hx,h1⟩
  have hsz:oq size (es++[x])=true:=by
   simp only[oq,List.all_append,List.all_cons,List.all_nil,Bool.and_true,aG]at h0 ⊢;exact⟨h0,by simp[hx]⟩
  refine Fv (by simp) h0 hel (by simpa using hl) fun b hb => ?_;exact hk _ _ ⟨hsz,.inr ⟨by simp,b,0,hb,rfl,rfl⟩⟩
end
def zg3(z:List V)(v:V):Option V:=(pI 1 [z.headD un] [(0,v)]).map fun es=>.sl es [] .full
theorem y7{P:Program}{Γ:jG}{t:List V}{m:Store}{z:List V}{k:Nat}:jJ P (ev Γ t) m (.lits 1 z 1 [(0,.tmp k)])=zg3 z (jT t k):=by
 rw[←rV (Γ:=Γ)];rfl
theorem yO{z:List V}{v:Value}:zg3 z (.val v)=some (.sl [.val v] [] .full):=rfl
def zdn:V→Option V
 | .sl es _ _=>match bytesOf es with
   |some bs=>some (.val (.string ⟨bs.toArray⟩))
   |none=>none
 |_=>none
theorem xx{P:Program}{Γ:jG}{t:List V}{m:Store}{x:Operand}:jJ P (ev Γ t) m (.b2s x)=zdn (ev Γ t x):=rfl
theorem KF:∀ (l:List UInt8),bytesOf (l.map by8)=some l
 |[]=>rfl
 |b::l=>by
  simp only[List.map_cons,bytesOf,byteOf,KF l];simp
theorem Em{l:List UInt8}{more:List V}{tok:Tok}:zdn (.sl (l.map by8) more tok)=some (bs l):=by
 simp only[zdn,KF];rfl
theorem lJ(l:List UInt8):oq 1 (l.map by8)=true:=by simp[oq,V.cells]
section
variable {P:Program} {Γ:jG} {Kp:V→Store→Prop}
theorem PI{K K':St→Prop}(h:∀ s,K s→K' s):∀ (l:List Item) (st:St),sG P Γ Kp l K st→sG P Γ Kp l K' st
 |[],st,hr=>h st hr
 |x::l,st,hr=>by
  have hr:kX P Γ Kp x (fun s=>(∀ y∈x.still,mV P Γ y s)∧sG P Γ Kp l K s) st:=hr;show kX P Γ Kp x (fun s=>(∀ y∈x.still,mV P Γ y s)∧sG P Γ Kp l K' s) st;exact qE (fun s hs=>⟨hs.1,PI h l s hs.2⟩) hr
theorem qI{n n':St→Prop}{Q Q':Ex→St→Prop}(hn:∀ s,n s→n' s)(h:∀ e s,Q e s→Q' e s):∀ e s,wY n Q e s→wY n' Q' e s
 | .normal,s,hs=>hn s hs
 | .ret,s,hs=>h _ s hs
 | .exit i,s,hs=>h _ s hs
theorem qX{i:Nat}{Q Q':Ex→St→Prop}(h:∀ e s,Q e s→Q' e s):∀ e s,nT i Q e s→nT i Q' e s
 | .normal,s,hs=>h _ s hs
 | .ret,s,hs=>h _ s hs
 | .exit j,s,hs=>by
  simp only[nT]at hs ⊢
  split
  ·rename_i e;rw[if_pos e]at hs;exact h _ s hs
  ·rename_i e;rw[if_neg e]at hs;exact h _ s hs
theorem nC:∀ {c:lF} {Q Q':Ex→St→Prop} (h:∀ e s,Q e s→Q' e s) {st:St},awp P Γ Kp c Q st→awp P Γ Kp c Q' st
 | .skip,_,_,h,st,hs=>h _ _ hs
 | .row l,_,_,h,st,hs=>PI (fun s=>h _ s) l st hs
 | .seq a b,_,_,h,st,hs=>nC (c:=a) (qI (fun s=>nC (c:=b) h) h) hs
 | .cond c a b,_,_,h,st,hs=>by
  simp only[awp]at hs ⊢
  split
  ·rename_i t ht;rw[ht]at hs;exact⟨fun k=>nC (c:=a) h (hs.1 k),fun k=>nC (c:=b) h (hs.2 k)⟩
  ·rename_i hn
   split at hs
   ·rename_i t ht;exact(hn t ht).elim
   ·exact hs
 | .block i c,_,_,h,st,hs=>nC (c:=c) (qX h) hs
 | .loop c,_,_,h,st,⟨I,n,h0,hr⟩=>⟨I,n,h0,fun n s hi=>nC (c:=c) (qI (fun _ hs=>hs) h) (hr n s hi)⟩
 | .exit i,_,_,h,st,hs=>h _ _ hs
 | .ret,_,_,h,st,hs=>h _ _ hs
 | .range f ps x y,_,_,h,st,hs=>by
  simp only[awp]at hs ⊢
  split at hs
  ·intro H cx cy h1 h2 fn l D hl;refine(hs H cx cy h1 h2 fn l D hl).mono fun o m' k => ?_
   cases o with
   |ret v=>
    obtain⟨m₁,e,hn,q⟩:=k;exact⟨m₁,e,hn,h _ _ q⟩
   |pan v=>exact k
  ·cases hs
theorem QE{i:Nat}{v:V}{a b:lF}{M N:St→Prop}{Q:Ex→St→Prop}{st:St}(h2:∀ s,M s→N s)(h1:DF P Γ Kp v a b (nT i (wY M Q)) st):DF P Γ Kp v a b (nT i (wY N Q)) st:=by
 unfold DF at h1 ⊢
 split
 ·rename_i t;exact⟨fun k=>nC (qX (qI h2 (fun _ _ h=>h))) (h1.1 k),fun k=>nC (qX (qI h2 (fun _ _ h=>h))) (h1.2 k)⟩
 ·rename_i hn
  split at h1
  ·rename_i t;exact(hn t rfl).elim
  ·exact h1
theorem WP{v:V}{a b:lF}{M N:St→Prop}{Q:Ex→St→Prop}{st:St}(h2:∀ s,M s→N s)(h1:DF P Γ Kp v a b (wY M Q) st):DF P Γ Kp v a b (wY N Q) st:=by
 unfold DF at h1 ⊢
 split
 ·rename_i t;exact⟨fun k=>nC (qI h2 (fun _ _ h=>h)) (h1.1 k),fun k=>nC (qI h2 (fun _ _ h=>h)) (h1.2 k)⟩
 ·rename_i hn
  split at h1
  ·rename_i t;exact(hn t rfl).elim
  ·exact h1
end
end Go.Av
