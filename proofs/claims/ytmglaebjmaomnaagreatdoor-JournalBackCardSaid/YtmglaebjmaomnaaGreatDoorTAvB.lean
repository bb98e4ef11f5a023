/- A slice that is only appended to. No condition. -/
import Derived.Test.YtmglaebjmaomnaaGreatDoorTAvP
open Bool renaming and_eq_true→aG
open List renaming mem_singleton→df
set_option linter.unusedSimpArgs false
set_option linter.unusedVariables false
namespace Go.Av
def Buf(e:TypeId)(size:Nat)(m m':Store)(v:V)(es:List V):Prop:=ng size es=true ∧
 ((es=[]∧v = .sl [] [] .full∧m'=m)∨(es≠[]∧∃ b k,m b=none∧m'=m.set b (.tip e k)∧v = .sl es [] (.tip b k)))
theorem Buf.start{e:TypeId}{size:Nat}{m:Store}:Buf e size m m (.sl [] [] .full) []:=⟨rfl,.inl ⟨rfl,rfl,rfl⟩⟩
theorem Buf.sub{e:TypeId}{size:Nat}{m m':Store}{v:V}{es:List V}(h:Buf e size m m' v es):∀ b x,m b=some x→m' b=some x:=by
 rcases h.2 with ⟨_,_,rfl⟩|⟨_,b,k,hb,rfl,_⟩
 ·exact fun _ _ h=>h
 ·exact Lm hb (fun _ _ h=>h)
theorem Buf.add{e:TypeId}{size:Nat}{m m':Store}{v:V}{es:List V}(h:Buf e size m m' v es){b:Nat}{x:Blk}(hb:m' b=none):Buf e size (m.set b x) (m'.set b x) v es:=by
 refine⟨h.1,?_⟩
 rcases h.2 with ⟨h1,h2,rfl⟩|⟨h1,t,k,ht,rfl,h2⟩
 ·exact .inl ⟨h1,h2,rfl⟩
 ·have hne:t≠b:=by
   rintro rfl;rw[Store.jv]at hb;cases hb
  refine .inr ⟨h1,t,k,by rw[Store.jw _ _ hne,ht],?_,h2⟩;funext c;simp only[Store.set]
  by_cases e1:c=b
  ·subst e1;simp[hne.symm]
  ·simp[e1]
theorem Buf.val{e:TypeId}{size:Nat}{m m':Store}{v:V}{es:List V}(h:Buf e size m m' v es):∃ tok,v = .sl es [] tok:=by
 rcases h.2 with ⟨rfl,h,_⟩|⟨_,b,k,_,_,h⟩
 ·exact⟨_,h⟩
 ·exact⟨_,h⟩
section
variable {P:Program} {Γ:jI} {Kp:V→Store→Prop} {l:List Item} {K:St→Prop} {t:List V} {m m':Store} {d:Option Tmp} {s:List (Tmp×Option (Tmp×Bool)×AOp)}
theorem D9{e:TypeId}{bytes size:Nat}{v x:V}{es more:List V}{tok:Tok}(h:Buf e size m m' v es)(hx:x.cells.length=size)(h1:∀ c∈x.cells,oP c=true)(hl:(es.length+1)*bytes≤140737488355328)
  (hk:∀ m2 v2,Buf e size m m2 v2 (es++[x])→oD P Γ Kp s l K (qU t m2 d (some v2))):TC P Γ Kp e bytes size v (.sl [x] more tok) d s l K t m':=by
 have hel:vJ size [x]:=by
  intro y hy;rw[df]at hy;subst hy;exact⟨hx,h1⟩
 have hsz:ng size (es++[x])=true:=by
  have:=h.1;simp only[ng,List.all_append,List.all_cons,List.all_nil,Bool.and_true,aG]at this ⊢;exact⟨this,by simp[hx]⟩
 rcases h.2 with ⟨rfl,rfl,rfl⟩|⟨hne,b,k,hb,rfl,rfl⟩
 ·refine EW (by simp) rfl hel (by simpa using hl) fun b hb => ?_;exact hk _ _ ⟨hsz,.inr ⟨by simp,b,0,hb,rfl,rfl⟩⟩
 ·refine OZ (by simp) hne (Store.jv _ _ _) h.1 hel (by simpa using hl) ?_;rw[Store.kC];exact hk _ _ ⟨hsz,.inr ⟨by simp,b,k+1,hb,rfl,rfl⟩⟩
def Gt(e:TypeId)(size:Nat)(m m':Store)(v:V)(es:List V):Prop:=Buf e size m m' v es∨(ng size es=true∧m'=m∧v = .sl es [] .full)
theorem Gt.sub{e:TypeId}{size:Nat}{m m':Store}{v:V}{es:List V}(h:Gt e size m m' v es):∀ b x,m b=some x→m' b=some x:=by
 rcases h with h|⟨_,rfl,_⟩
 ·exact h.sub
 ·exact fun _ _ k=>k
theorem Gt.add{e:TypeId}{size:Nat}{m m':Store}{v:V}{es:List V}(h:Gt e size m m' v es){b:Nat}{x:Blk}(hb:m' b=none):Gt e size (m.set b x) (m'.set b x) v es:=by
 rcases h with h|⟨h1,rfl,h2⟩
 ·exact .inl (h.add hb)
 ·exact .inr ⟨h1,rfl,h2⟩
theorem QS{e:TypeId}{bytes size:Nat}{v x:V}{es more:List V}{tok:Tok}(h:Gt e size m m' v es)(hx:x.cells.length=size)(h1:∀ c∈x.cells,oP c=true)(hl:(es.length+1)*bytes≤140737488355328)
  (hk:∀ m2 v2,Buf e size m m2 v2 (es++[x])→oD P Γ Kp s l K (qU t m2 d (some v2))):TC P Γ Kp e bytes size v (.sl [x] more tok) d s l K t m':=by
 rcases h with h|⟨h0,rfl,rfl⟩
 ·exact D9 h hx h1 hl hk
 ·have hel:vJ size [x]:=by
   intro y hy;rw[df]at hy;subst hy;exact⟨hx,h1⟩
  have hsz:ng size (es++[x])=true:=by
   simp only[ng,List.all_append,List.all_cons,List.all_nil,Bool.and_true,aG]at h0 ⊢;exact⟨h0,by simp[hx]⟩
  refine EW (by simp) h0 hel (by simpa using hl) fun b hb => ?_;exact hk _ _ ⟨hsz,.inr ⟨by simp,b,0,hb,rfl,rfl⟩⟩
end
def zg2(z:List V)(v:V):Option V:=(pq 1 [z.headD un] [(0,v)]).map fun es=>.sl es [] .full
theorem wI{P:Program}{Γ:jI}{t:List V}{m:Store}{z:List V}{k:Nat}:jJ P (ev Γ t) m (.lits 1 z 1 [(0,.tmp k)])=zg2 z (jS t k):=by
 rw[←rD (Γ:=Γ)];rfl
theorem wE{z:List V}{v:Value}:zg2 z (.val v)=some (.sl [.val v] [] .full):=rfl
def zfk:V→Option V
 | .sl es _ _=>match bytesOf es with
   |some bs=>some (.val (.string ⟨bs.toArray⟩))
   |none=>none
 |_=>none
theorem OA{P:Program}{Γ:jI}{t:List V}{m:Store}{x:Operand}:jJ P (ev Γ t) m (.b2s x)=zfk (ev Γ t x):=rfl
theorem KR:∀ (l:List UInt8),bytesOf (l.map by8)=some l
 |[]=>rfl
 |b::l=>by
  simp only[List.map_cons,bytesOf,byteOf,KR l];simp
theorem Xq{l:List UInt8}{more:List V}{tok:Tok}:zfk (.sl (l.map by8) more tok)=some (bs l):=by
 simp only[zfk,KR];rfl
theorem lM(l:List UInt8):ng 1 (l.map by8)=true:=by simp[ng,V.cells]
section
variable {P:Program} {Γ:jI} {Kp:V→Store→Prop}
theorem PS{K K':St→Prop}(h:∀ s,K s→K' s):∀ (l:List Item) (st:St),su P Γ Kp l K st→su P Γ Kp l K' st
 |[],st,hr=>h st hr
 |x::l,st,hr=>by
  have hr:lh P Γ Kp x (fun s=>(∀ y∈x.still,mQ P Γ y s)∧su P Γ Kp l K s) st:=hr;show lh P Γ Kp x (fun s=>(∀ y∈x.still,mQ P Γ y s)∧su P Γ Kp l K' s) st;exact qB (fun s hs=>⟨hs.1,PS h l s hs.2⟩) hr
theorem qF{n n':St→Prop}{Q Q':Ex→St→Prop}(hn:∀ s,n s→n' s)(h:∀ e s,Q e s→Q' e s):∀ e s,xe n Q e s→xe n' Q' e s
 | .normal,s,hs=>hn s hs
 | .ret,s,hs=>h _ s hs
 | .exit i,s,hs=>h _ s hs
theorem qW{i:Nat}{Q Q':Ex→St→Prop}(h:∀ e s,Q e s→Q' e s):∀ e s,nN i Q e s→nN i Q' e s
 | .normal,s,hs=>h _ s hs
 | .ret,s,hs=>h _ s hs
 | .exit j,s,hs=>by
  simp only[nN]at hs ⊢
  split
  ·rename_i e;rw[if_pos e]at hs;exact h _ s hs
  ·rename_i e;rw[if_neg e]at hs;exact h _ s hs
theorem ny:∀ {c:lK} {Q Q':Ex→St→Prop} (h:∀ e s,Q e s→Q' e s) {st:St},awp P Γ Kp c Q st→awp P Γ Kp c Q' st
 | .skip,_,_,h,st,hs=>h _ _ hs
 | .row l,_,_,h,st,hs=>PS (fun s=>h _ s) l st hs
 | .seq a b,_,_,h,st,hs=>ny (c:=a) (qF (fun s=>ny (c:=b) h) h) hs
 | .cond c a b,_,_,h,st,hs=>by
  simp only[awp]at hs ⊢
  split
  ·rename_i t ht;rw[ht]at hs;exact⟨fun k=>ny (c:=a) h (hs.1 k),fun k=>ny (c:=b) h (hs.2 k)⟩
  ·rename_i hn
   split at hs
   ·rename_i t ht;exact(hn t ht).elim
   ·exact hs
 | .block i c,_,_,h,st,hs=>ny (c:=c) (qW h) hs
 | .loop c,_,_,h,st,⟨I,n,h0,hr⟩=>⟨I,n,h0,fun n s hi=>ny (c:=c) (qF (fun _ hs=>hs) h) (hr n s hi)⟩
 | .exit i,_,_,h,st,hs=>h _ _ hs
 | .ret,_,_,h,st,hs=>h _ _ hs
 | .range f ps x y,_,_,h,st,hs=>by
  simp only[awp]at hs ⊢
  split at hs
  ·intro H cx cy h1 h2 fn l D hl;refine(hs H cx cy h1 h2 fn l D hl).mono fun o m' k => ?_
   cases o with
   |ret v=>
    obtain⟨m₁,e,hn,q⟩:=k;exact⟨m₁,e,hn,h _ _ q⟩
   |pan v=>exact k
  ·cases hs
theorem QM{i:Nat}{v:V}{a b:lK}{M N:St→Prop}{Q:Ex→St→Prop}{st:St}(h2:∀ s,M s→N s)(h1:Du P Γ Kp v a b (nN i (xe M Q)) st):Du P Γ Kp v a b (nN i (xe N Q)) st:=by
 unfold Du at h1 ⊢
 split
 ·rename_i t;exact⟨fun k=>ny (qW (qF h2 (fun _ _ h=>h))) (h1.1 k),fun k=>ny (qW (qF h2 (fun _ _ h=>h))) (h1.2 k)⟩
 ·rename_i hn
  split at h1
  ·rename_i t;exact(hn t rfl).elim
  ·exact h1
theorem Xh{v:V}{a b:lK}{M N:St→Prop}{Q:Ex→St→Prop}{st:St}(h2:∀ s,M s→N s)(h1:Du P Γ Kp v a b (xe M Q) st):Du P Γ Kp v a b (xe N Q) st:=by
 unfold Du at h1 ⊢
 split
 ·rename_i t;exact⟨fun k=>ny (qF h2 (fun _ _ h=>h)) (h1.1 k),fun k=>ny (qF h2 (fun _ _ h=>h)) (h1.2 k)⟩
 ·rename_i hn
  split at h1
  ·rename_i t;exact(hn t rfl).elim
  ·exact h1
end
end Go.Av
