/- Which operations of a row may change places, and that they may. No condition. -/
import Derived.Test.YtmglaebjmaomnaaGreatDoorTAv16
open List renaming getD_eq_getElem?_getD→aT, set_eq_of_length_le→iC
open Option.some renaming injEq→au
set_option linter.unusedSimpArgs false
set_option linter.unusedVariables false
namespace Go.Av
open Go.RowKit
section
variable {P:Program} {Γ:jG} {B0:Nat} {mF:Store} {G G0:Gh} {st:St} {a:Act} {w w0:World} {Kp:V→Store→Prop}
theorem set_comm(m:Store){b c:Nat}(x y:Blk)(h:b≠c):(m.set b x).set c y=(m.set c y).set b x:=by
 funext d;simp only[Store.set]
 by_cases e1:d=c
 ·by_cases e2:d=b
  ·exact absurd (e2.symm.trans e1) h
  ·simp[e1,e2];intro e;exact absurd e.symm h
 ·simp[e1]
def single(b:Nat)(x:Blk):Store:=fun b' => if b'=b then some x else none
theorem EP{m:Store}{b:Nat}{x:Blk}(h:m b=none):m.or (single b x)=m.set b x:=by
 funext c;simp only[Store.or,single,Store.set]
 by_cases e:c=b
 ·subst e;simp[h]
 ·simp only[e,if_false];cases m c<;>rfl
theorem Kw{m:Store}{b:Nat}{x:Blk}(h:m b=none):mQ m (single b x):=by
 intro c
 by_cases e:c=b
 ·subst e;exact .inl h
 ·exact .inr (by simp[single,e])
theorem JU{m:Store}{b:Nat}{x:Blk}(h:mQ m (single b x)):m b=none:=by
 rcases h b with h|h
 ·exact h
 ·simp[single]at h
theorem Z9{m:Store}{size:Nat}{x:V}{ys:List V}{b:Nat}{blk:Blk}(hb:m b=none)(h:extra m size x=some ys):extra (m.set b blk) size x=some ys:=by
 cases x with
 |arr c o len cap=>
  simp only[extra]at h ⊢
  cases hm:m c with
  |none=>rw[hm]at h;cases h
  |some y=>
   rw[hm]at h;rw[Store.jw _ _ (by rintro rfl;rw[hm]at hb;cases hb),hm];exact h
 |val v=>cases v<;>exact h
 |_=>exact h
theorem ZE{ρ:Operand→V}{m:Store}{K:V→Store→Prop}{ao:AOp}{b:Nat}{blk:Blk}(hk:kindOf ao = .eff)(hKp:∀ v m b x,m b=none→Kp v m→Kp v (m.set b x))(hb:m b=none)(h:opE P Γ ρ m K Kp ao) :
  opE P Γ ρ (m.set b blk) (fun v m'' => ∃ m',m'' = m'.set b blk∧m' b=none∧K v m') Kp ao:=by
 cases ao with
 |mark x=>
  simp only[opE]at h ⊢
  split at h
  ·exact⟨m,rfl,hb,h⟩
  ·cases h
 |s2b e x=>
  simp only[opE]at h ⊢
  split at h
  ·rename_i s hs;intro t ht;have hne:t≠b:=by rintro rfl;rw[Store.jv]at ht;cases ht
   rw[Store.jw _ _ hne]at ht;exact⟨_,set_comm _ _ _ (fun e=>hne e.symm),by rw[Store.jw _ _ (fun e=>hne e.symm)];exact hb,h t ht⟩
  ·cases h
 |store s x y=>
  simp only[opE]at h ⊢
  split at h
  ·rename_i c o hx
   split at h
   ·rename_i cs hc;have hne:c≠b:=by rintro rfl;rw[hc]at hb;cases hb
    rw[Store.jw _ _ hne,hc];exact⟨h.1,h.2.1,h.2.2.1,_,set_comm _ _ _ (fun e=>hne e.symm),by rw[Store.jw _ _ (fun e=>hne e.symm)];exact hb,h.2.2.2⟩
   ·cases h
  ·cases h
 |app e bytes size s x=>
  simp only[opE]at h ⊢
  split at h
  ·rename_i es more tok ys hs hx;rw[hs,Z9 hb hx];refine⟨fun hy=>⟨m,rfl,hb,h.1 hy⟩,fun hy => ?_⟩;obtain⟨h1,h2,h3,h4⟩:=h.2 hy;refine⟨h1,h2,h3,?_⟩
   cases tok with
   |no=>exact h4
   |non=>exact h4
   |own=>exact h4
   |full=>
    refine⟨h4.1,fun t ht => ?_⟩;have hne:t≠b:=by rintro rfl;rw[Store.jv]at ht;cases ht
    rw[Store.jw _ _ hne]at ht;exact⟨_,set_comm _ _ _ (fun e=>hne e.symm),by rw[Store.jw _ _ (fun e=>hne e.symm)];exact hb,h4.2 t ht⟩
   |zero z=>
    refine⟨h4.1,fun t ht => ?_⟩;have hne:t≠b:=by rintro rfl;rw[Store.jv]at ht;cases ht
    rw[Store.jw _ _ hne]at ht;exact⟨_,set_comm _ _ _ (fun e=>hne e.symm),by rw[Store.jw _ _ (fun e=>hne e.symm)];exact hb,h4.2 t ht⟩
   |tipz t v z=>
    obtain⟨k1,k2,k3,k4⟩:=h4;have hne:t≠b:=by rintro rfl;rw[k3]at hb;cases hb
    refine⟨k1,k2,by rw[Store.jw _ _ hne];exact k3,?_⟩;exact⟨_,set_comm _ _ _ (fun e=>hne e.symm),by rw[Store.jw _ _ (fun e=>hne e.symm)];exact hb,k4⟩
   |tip t v=>
    obtain⟨k1,k2,k3,k4⟩:=h4;have hne:t≠b:=by rintro rfl;rw[k3]at hb;cases hb
    refine⟨k1,k2,by rw[Store.jw _ _ hne];exact k3,?_⟩;exact⟨_,set_comm _ _ _ (fun e=>hne e.symm),by rw[Store.jw _ _ (fun e=>hne e.symm)];exact hb,k4⟩
  ·cases h
 |call f args=>
  simp only[opE]at h ⊢
  split at h
  ·rename_i g first caps hf;rw[←EP hb];refine(h.frame (Kw (x:=blk) hb)).mono ?_;rintro o m'' ⟨m',rfl,hD,ho⟩;have hn:=JU hD;rw[EP hn]
   cases o with
   |ret v=>exact⟨m',rfl,hn,ho⟩
   |pan v=>exact hKp _ _ _ _ hn ho
  ·rename_i l hf;rw[←EP hb];refine(h.frame (Kw (x:=blk) hb)).mono ?_;rintro o m'' ⟨m',rfl,hD,ho⟩;have hn:=JU hD;rw[EP hn]
   cases o with
   |ret v=>exact⟨m',rfl,hn,ho⟩
   |pan v=>exact hKp _ _ _ _ hn ho
  ·cases h
 |bad=>exact h
 |panic x=>
  simp only[opE]at h ⊢
  split at h
  ·exact hKp _ _ _ _ hb h
  ·cases h
 |appz e bytes size s x=>
  simp only[opE]at h ⊢
  split at h
  ·refine⟨h.1,h.2.1,fun t ht => ?_⟩;have hne:t≠b:=by rintro rfl;rw[Store.jv]at ht;cases ht
   rw[Store.jw _ _ hne]at ht;exact⟨_,set_comm _ _ _ (fun e=>hne e.symm),by rw[Store.jw _ _ (fun e=>hne e.symm)];exact hb,h.2.2 t ht⟩
  ·cases h
 |mks e bytes z l c=>
  simp only[opE]at h ⊢
  split at h
  ·refine⟨h.1,h.2.1,h.2.2.1,fun t ht => ?_⟩;have hne:t≠b:=by rintro rfl;rw[Store.jv]at ht;cases ht
   rw[Store.jw _ _ hne]at ht;exact⟨_,set_comm _ _ _ (fun e=>hne e.symm),by rw[Store.jw _ _ (fun e=>hne e.symm)];exact hb,h.2.2.2 t ht⟩
  ·cases h
 |_=>simp[kindOf]at hk
theorem qE{x:Item}{K K':St→Prop}(hk:∀ s,K s→K' s)(h:kX P Γ Kp x K st):kX P Γ Kp x K' st:=by
 unfold kX at h ⊢
 split
 ·rename_i hw;rw[if_pos hw]at h;exact zu (fun v m'=>hk _) h
 ·rename_i hw;rw[if_neg hw]at h;exact hk _ h
theorem Hf{x:Item}{K:St→Prop}(h:kX P Γ Kp x K st):kX P Γ Kp x (fun s=>K s∧∃ m' u,s=({ st with m:=m' }:St).put x.dst u) st:=by
 unfold kX at h ⊢
 split
 ·rename_i hw;rw[if_pos hw]at h;exact zu (fun v m' hk=>⟨hk,m',v,rfl⟩) h
 ·rename_i hw;rw[if_neg hw]at h;exact⟨h,st.m,_,rfl⟩
def Sep(x:Item)(d:Option Tmp):Prop:=x.free d∧∀ e f,d=some e→x.dst=some f→e≠f
theorem TK{x:Item}{d:Option Tmp}{v:V}{F:St→Prop}(hs:Sep x d)(h:kX P Γ Kp x F (st.put d v)):kX P Γ Kp x (fun s=>F (s.put d v)) st:=by
 unfold kX at h ⊢;rw[Item.Ai hs.1 st v]at h
 split
 ·rename_i hw;rw[if_pos hw]at h;have h2:=Jt (fun y hy=>(Item.IC hs.1 st v y hy).symm) h;rw[nP]at h2;refine zu (fun u m' hk => ?_) h2;rw[DX,put_comm _ _ _ (fun a b ha hb=>hs.2 a b ha hb)]at hk;exact hk
 ·rename_i hw;rw[if_neg hw]at h;rw[put_comm _ _ _ (fun a b ha hb=>hs.2 a b ha hb)]at h;exact h
theorem QZ{x:Item}{d:Option Tmp}{v:V}{F:St→Prop}(hs:Sep x d)(h:kX P Γ Kp x (fun s=>F (s.put d v)) st):kX P Γ Kp x F (st.put d v):=by
 unfold kX at h ⊢;rw[Item.Ai hs.1 st v]
 split
 ·rename_i hw;rw[if_pos hw]at h;refine Jt (fun y hy=>(Item.IC hs.1 st v y hy)) ?_;rw[nP];refine zu (fun u m' hk => ?_) h;rw[DX,put_comm _ _ _ (fun a b ha hb=>hs.2 a b ha hb)];exact hk
 ·rename_i hw;rw[if_neg hw]at h;rw[put_comm _ _ _ (fun a b ha hb=>hs.2 a b ha hb)];exact h
def slotsOf(y:Tmp×Option (Tmp×Bool)×AOp):List Nat:=y.1::((match y.2.1 with
 |some (d,_)=>[d]
 |none=>[])++y.2.2.jX.filterMap Xo)
def Aa(d:Option Tmp)(y:Tmp×Option (Tmp×Bool)×AOp):Prop:=∀ e,d=some e→e∉slotsOf y
theorem MK{y:Tmp×Option (Tmp×Bool)×AOp}{d:Option Tmp}{v:V}{s:St}(h:Aa d y):mV P Γ y (s.put d v)↔mV P Γ y s:=by
 cases d with
 |none=>exact Iff.rfl
 |some d=>
  have hd:=h d rfl;simp only[slotsOf,List.mem_cons,List.mem_append,not_or,List.mem_filterMap,not_exists,not_and]at hd;obtain⟨h1,h2,h3⟩:=hd;unfold mV;have e1:kP y.2.1 (s.put (some d) v).t=kP y.2.1 s.t:=JR (fun e b hg he=>h2 (by rw[hg];simp[he]));have e2:jJ P (ev Γ (s.put (some d) v).t) (s.put (some d) v).m y.2.2=jJ P (ev Γ s.t) s.m y.2.2:=Ee fun x hx=>zcV (fun k=>h3 x hx k)
  have e3:(s.put (some d) v).t.getD y.1 (.val undef)=s.t.getD y.1 (.val undef):=by
   simp only[St.put];rw[aT,List.getElem?_set,if_neg h1,aT]
  rw[e1,e2,e3]
theorem TG{y:Tmp×Option (Tmp×Bool)×AOp}{s:St}{m':Store}(hm:∀ b x,s.m b=some x→m' b=some x)(h:mV P Γ y s):mV P Γ y { s with m:=m' }:=by
 unfold mV at h ⊢
 split
 ·rename_i hw;rw[if_pos hw]at h;exact DD hm h
 ·rename_i hw
  rwa [if_neg hw]at h
def entryOf(x:Item):Option (Tmp×Option (Tmp×Bool)×AOp):=match x.dst with
 |some d=>some (d,x.g,x.ao)
 |none=>none
theorem wO{m:Store}{b:Nat}{x:Blk}(hb:m b=none):∀ c y,m c=some y→(m.set b x) c=some y:=by
 intro c y hy;have:c≠b:=by rintro rfl;rw[hb]at hy;cases hy
 rw[Store.jw _ _ this];exact hy
def Room(s:St):Prop:=∃ n,∀ b,n≤b→s.m b=none
theorem Room.ne{s:St}(h:Room s)(b':Nat):∃ b,b≠b'∧s.m b=none:=by
 obtain⟨n,hn⟩:=h;exact⟨max n b'+1,by omega,hn _ (by omega)⟩
theorem tV{m:Store}{b:Nat}{x:Blk}(h:∃ n,∀ c,n≤c→m c=none):∃ n,∀ c,n≤c→(m.set b x) c=none:=by
 obtain⟨n,hn⟩:=h;exact⟨max n (b+1),fun c hc=>by rw[Store.jw _ _ (show c≠b by omega)];exact hn c (by omega)⟩
theorem zbL{ρ:Operand→V}{m:Store}{K:V→Store→Prop}{ao:AOp}(hr:∃ n,∀ b,n≤b→m b=none)(h:opE P Γ ρ m K Kp ao):opE P Γ ρ m (fun v m' => K v m'∧∃ n,∀ b,n≤b→m' b=none) Kp ao:=by
 cases ao with
 |alloc T cells=>exact fun b hb=>⟨h b hb,tV hr⟩
 |box T x=>exact fun b hb=>⟨h b hb,tV hr⟩
 |store s x y=>
  simp only[opE]at h ⊢
  split at h
  ·split at h
   ·exact⟨h.1,h.2.1,h.2.2.1,h.2.2.2,tV hr⟩
   ·cases h
  ·cases h
 |s2b e x=>
  simp only[opE]at h ⊢
  split at h
  ·exact fun t ht=>⟨h t ht,tV hr⟩
  ·cases h
 |mark x=>
  simp only[opE]at h ⊢
  split at h
  ·exact⟨h,hr⟩
  ·cases h
 |app e bytes size s x=>
  simp only[opE]at h ⊢
  split at h
  ·rename_i es more tok ys _ _;refine⟨fun hy=>⟨h.1 hy,hr⟩,fun hy => ?_⟩;obtain⟨h1,h2,h3,h4⟩:=h.2 hy;refine⟨h1,h2,h3,?_⟩
   cases tok with
   |no=>exact h4
   |non=>exact h4
   |own=>exact h4
   |full=>exact⟨h4.1,fun t ht=>⟨h4.2 t ht,tV hr⟩⟩
   |tip t v=>exact⟨h4.1,h4.2.1,h4.2.2.1,h4.2.2.2,tV hr⟩
   |zero b=>exact⟨h4.1,fun t ht=>⟨h4.2 t ht,tV hr⟩⟩
   |tipz t v z=>exact⟨h4.1,h4.2.1,h4.2.2.1,h4.2.2.2,tV hr⟩
  ·cases h
 |bad=>exact h
 |panic x=>exact h
 |appz e bytes size s x=>
  simp only[opE]at h ⊢
  split at h
  ·exact⟨h.1,h.2.1,fun t ht=>⟨h.2.2 t ht,tV hr⟩⟩
  ·cases h
 |mks e bytes z l c=>
  simp only[opE]at h ⊢
  split at h
  ·exact⟨h.1,h.2.1,h.2.2.1,fun t ht=>⟨h.2.2.2 t ht,tV hr⟩⟩
  ·cases h
 |call f args=>
  simp only[opE]at h ⊢
  split at h
  ·refine⟨h.1,fun G B0 mF w cargs hD hR hL=>(h.2 G B0 mF w cargs hD hR hL).mono ?_⟩;rintro e w' ⟨G',m',o,a,b,c,d,e,r⟩;refine⟨G',m',o,a,b,c,d,e,?_⟩
   have hroom : ∃ n,∀ b,n ≤ b → m' b = none := ⟨w'.heap.size,fun b hb => by
    cases hm:m' b with
    |none=>rfl
    |some x=>have:=c.lt (oC (f:=mF) hm);omega⟩
   cases o with
   |ret v=>exact⟨r,hroom⟩
   |pan v=>exact r
  ·refine h.room.mono ?_;rintro o m' ⟨h1,h2⟩
   cases o with
   |ret v=>exact⟨h1,h2⟩
   |pan v=>exact h1
  ·cases h
 |_=>
  obtain⟨v,h1,h2⟩:=h;exact⟨v,h1,h2,hr⟩
theorem TJ{x:Item}{K:St→Prop}(hr:Room st)(h:kX P Γ Kp x K st):kX P Γ Kp x (fun s=>K s∧Room s) st:=by
 unfold kX at h ⊢
 split
 ·rename_i hw;rw[if_pos hw]at h;exact zu (fun v m' hk=>⟨hk.1,by unfold Room;rw[nP];exact hk.2⟩) (zbL hr h)
 ·rename_i hw;rw[if_neg hw]at h;exact⟨h,by unfold Room;rw[nP];exact hr⟩
structure Xh (x i:Item):Prop where
 sx:Sep x i.dst
 si:Sep i x.dst
 kind:match kindOf x.ao,kindOf i.ao with
  | .eff,.loc=>total i.ao=true
  | .eff,.load=>False
  | .eff,.alloc=>True
  | .eff,.eff=>False
  | .alloc,.eff=>False
  |_,_=>True
theorem YZ{i:Item}(h:total i.ao=true∨kP i.g st.t=false):∃ u,Ae P Γ i st=some u:=by
 unfold Ae
 split
 ·rename_i hw
  rcases h with h|h
  ·generalize i.ao=ao at h
   cases ao with
   |mov x=>exact⟨_,rfl⟩
   |mki T x=>exact⟨_,rfl⟩
   |mkf f a b=>exact⟨_,rfl⟩
   |_=>simp[total]at h
  ·rw[h]at hw;cases hw
 ·exact⟨_,rfl⟩
def SU(P:Program)(Γ:jG)(Y:List (Tmp×Option (Tmp×Bool)×AOp))(s:St):Prop:=∀ y∈Y,mV P Γ y s
theorem JP{Y:List (Tmp×Option (Tmp×Bool)×AOp)}{d:Option Tmp}{v:V}{s:St}(h:∀ y∈Y,Aa d y):SU P Γ Y (s.put d v)↔SU P Γ Y s:=
 ⟨fun k y hy=>(MK (h y hy)).1 (k y hy),fun k y hy=>(MK (h y hy)).2 (k y hy)⟩
theorem YK{Y:List (Tmp×Option (Tmp×Bool)×AOp)}{s:St}{m':Store}(hm:∀ b x,s.m b=some x→m' b=some x)(h:SU P Γ Y s):SU P Γ Y { s with m:=m' }:=fun y hy=>TG hm (h y hy)
theorem wM{x:Item}{d:Option Tmp}(hs:x.free d)(s:St)(v:V):Quiet x (s.put d v)↔Quiet x s:=by
 unfold Quiet;rw[Item.Ai hs]
theorem Nr(s:St)(d:Option Tmp)(v:V)(m':Store):({ s with m:=m' }:St).put d v={ s.put d v with m:=m' }:=by cases d<;>rfl
theorem MM{x:Item}{K:St→Prop}(hw:kP x.g st.t=true):kX P Γ Kp x K st=opE P Γ (ev Γ st.t) st.m (fun v m'=>K ({ st with m:=m' }.put x.dst v)) Kp x.ao:=by
 unfold kX;rw[if_pos hw]
theorem zbC(s:St)(d:Nat)(v:V):s.put (some d) ((s.put (some d) v).t.getD d (.val undef))=s.put (some d) v:=by
 simp only[St.put];congr 1
 by_cases h:d<s.t.length
 ·congr 1;rw[aT,List.getElem?_set_self h];rfl
 ·rw[iC (Nat.not_lt.1 h),iC (Nat.not_lt.1 h)]
theorem swap2{x i:Item}(hc:Xh x i)(hKp:∀ v m b x,m b=none→Kp v m→Kp v (m.set b x))(hroom:Room st){Y:List (Tmp×Option (Tmp×Bool)×AOp)}(hY:kindOf i.ao ≠ .eff→Y=[])(hYx:∀ y∈Y,Aa x.dst y)
  (hxs:kindOf x.ao ≠ .eff→x.still=[]) (hxi:∀ y∈x.still,Aa i.dst y) (hxl:kindOf x.ao = .load→kindOf i.ao = .eff→x.free x.dst∧∃ d,x.dst=some d) {R:St→Prop}
  (h:kX P Γ Kp x (fun s1=>SU P Γ x.still s1∧kX P Γ Kp i (fun s2=>(kindOf x.ao = .load→kindOf i.ao = .eff→∀ d,x.dst=some d→mV P Γ (d,x.g,x.ao) s2)∧SU P Γ Y s2∧R s2) s1) st) :
  kX P Γ Kp i (fun s=>SU P Γ Y s∧kX P Γ Kp x (fun s=>SU P Γ x.still s∧R s) s) st:=by
 obtain⟨⟨sx1,sx2⟩,⟨si1,si2⟩,hkind⟩:=hc;have pc:∀ (s:St) (v u:V),(s.put x.dst v).put i.dst u=(s.put i.dst u).put x.dst v:=fun s v u=>put_comm s v u (fun a b ha hb=>fun e=>sx2 b a hb ha e.symm)
 by_cases qi:Quiet i st
 ·by_cases qx:Quiet x st
  ·-- both quiet
   rw[quiet_iff qx]at h;obtain⟨v,hv,hsu,h⟩:=h;rw[quiet_iff ((wM si1 st v).2 qi),uZ si1]at h;obtain⟨u,hu,_,hy,hr⟩:=h;rw[quiet_iff qi];rw[pc]at hy hr;refine⟨u,hu,(JP hYx).1 hy,?_⟩;rw[quiet_iff ((wM sx1 st u).2 qx),uZ sx1];refine⟨v,hv,?_,hr⟩;rw[←pc];exact(JP hxi).2 hsu
  ·have hwx:kP x.g st.t=true:=by
    cases hw:kP x.g st.t with
    |true=>rfl
    |false=>exact absurd (.inr hw) qx
   cases hkx:kindOf x.ao with
   |loc=>exact absurd (.inl (.inl hkx)) qx
   |load=>exact absurd (.inl (.inr hkx)) qx
   |alloc=>
    have hie:kindOf i.ao ≠ .eff:=by
     intro e;rw[hkx,e]at hkind;exact hkind
    have hYn:=hY hie;subst hYn;rw[uV hkx hwx]at h
    have hq:∀ b,st.m b=none→∃ v,Ae P Γ i { st with m:=st.m.set b (.var (Dv x) (pU Γ x st)) }=some v:=by
     intro b hb;obtain⟨_,h2⟩:=h b hb;rw[quiet_iff (x:=i) (st:=({ st with m:=st.m.set b (.var (Dv x) (pU Γ x st)) }:St).put x.dst (.ptr b 0)) ((wM si1 _ _).2 qi),uZ si1]at h2;obtain⟨u,hu,_⟩:=h2;exact⟨u,hu⟩
    obtain⟨u,hu⟩:=ZK hroom.ne qi hq;rw[quiet_iff qi];refine⟨u,hu,(fun y hy=>by cases hy),?_⟩;rw[uV hkx (by rw[Item.Ai sx1];exact hwx)];intro b hb;rw[nP]at hb;obtain⟨hsu,h2⟩:=h b hb;rw[quiet_iff (x:=i) (st:=({ st with m:=st.m.set b (.var (Dv x) (pU Γ x st)) }:St).put x.dst (.ptr b 0)) ((wM si1 _ _).2 qi),uZ si1]at h2;obtain⟨u',hu',_,_,hr⟩:=h2;have:=Ph (m':=st.m.set b (.var (Dv x) (pU Γ x st))) (wO hb) hu;rw[this]at hu';simp only[au]at hu';subst hu';rw[hxs (by rw[hkx];simp)];refine⟨(fun y hy=>by cases hy),?_⟩;rw[pc]at hr;rw[zH sx1,nP,DX];exact hr
   |eff=>
    have htot:total i.ao=true∨kP i.g st.t=false:=by
     rcases qi with (hk|hk)|hk
     ·left;rw[hkx,hk]at hkind;exact hkind
     ·rw[hkx,hk]at hkind;exact hkind.elim
     ·exact .inr hk
    have hml:kindOf i.ao ≠ .load∨kP i.g st.t=false:=by
     rcases htot with h|h
     ·left;intro e;generalize i.ao=ao at h e;cases ao<;>simp[total]at h<;>simp[kindOf]at e
     ·exact .inr h
    have hie:kindOf i.ao ≠ .eff:=by
     intro e;rw[hkx,e]at hkind;exact hkind
    have hYn:=hY hie;subst hYn;obtain⟨u,hu⟩:=YZ (P:=P) (Γ:=Γ) htot;rw[quiet_iff qi];refine⟨u,hu,(fun y hy=>by cases hy),?_⟩;refine QZ ⟨sx1,sx2⟩ (qE ?_ (Hf h));rintro s ⟨⟨hsu,h2⟩,m',v,rfl⟩;rw[quiet_iff (x:=i) (st:=({ st with m:=m' }:St).put x.dst v) ((wM si1 _ _).2 qi),uZ si1,Me hml]at h2;obtain⟨u',hu',_,_,hr⟩:=h2;rw[hu]at hu';simp only[au]at hu';subst hu';exact⟨(JP hxi).2 hsu,hr⟩
 ·have hwi:kP i.g st.t=true:=by
   cases hw:kP i.g st.t with
   |true=>rfl
   |false=>exact absurd (.inr hw) qi
  cases hki:kindOf i.ao with
  |loc=>exact absurd (.inl (.inl hki)) qi
  |load=>exact absurd (.inl (.inr hki)) qi
  |alloc=>
   have hYn:=hY (by rw[hki];simp);subst hYn;rw[uV hki hwi];intro b hb;refine⟨(fun y hy=>by cases hy),?_⟩
   by_cases qx:Quiet x st
   ·rw[quiet_iff qx]at h;obtain⟨v,hv,hsu,h⟩:=h;rw[uV hki (by rw[Item.Ai si1];exact hwi)]at h;obtain⟨_,_,hr⟩:=h b (by rw[nP];exact hb);rw[quiet_iff (x:=x) (st:=({ st with m:=st.m.set b (.var (Dv i) (pU Γ i st)) }:St).put i.dst (.ptr b 0)) ((wM sx1 _ _).2 qx),uZ sx1];refine⟨v,Ph (wO hb) hv,?_,?_⟩
    ·rw[←pc,JP hxi,Nr];exact YK (by rw[nP];exact wO hb) hsu
    ·rw[zH si1,nP,DX,pc]at hr;exact hr
   ·have hwx:kP x.g st.t=true:=by
     cases hw:kP x.g st.t with
     |true=>rfl
     |false=>exact absurd (.inr hw) qx
    cases hkx:kindOf x.ao with
    |loc=>exact absurd (.inl (.inl hkx)) qx
    |load=>exact absurd (.inl (.inr hkx)) qx
    |alloc=>
     rw[uV hkx hwx]at h;rw[uV hkx (by rw[Item.Ai sx1];exact hwx)];intro c hcn;rw[nP]at hcn
     have hne:c≠b:=by
      rintro rfl;simp[Store.set]at hcn
     have hcn':st.m c=none:=(Store.jw st.m (.var (Dv i) (pU Γ i st)) hne).symm.trans hcn;obtain⟨hsu,h2⟩:=h c hcn';rw[uV hki (by rw[Item.Ai si1];exact hwi)]at h2;obtain⟨_,_,hr⟩:=h2 b (by rw[nP];simp only[Store.jw _ _ (fun e=>hne e.symm)];exact hb);rw[hxs (by rw[hkx];simp)];refine⟨(fun y hy=>by cases hy),?_⟩;rw[zH sx1,nP,DX];rw[zH si1,nP,DX,pc]at hr;have e1:pU Γ i { st with m:=st.m.set c (.var (Dv x) (pU Γ x st)) }=pU Γ i st:=rfl;have e2:pU Γ x { st with m:=st.m.set b (.var (Dv i) (pU Γ i st)) }=pU Γ x st:=rfl;rw[e1]at hr;rw[e2];simp only at hr ⊢;rw[set_comm _ _ _ hne]at hr;exact hr
    |eff=>
     rw[MM hwx]at h;have h2:=ZE (blk:=.var (Dv i) (pU Γ i st)) hkx hKp hb h;rw[MM (by rw[Item.Ai sx1];exact hwx)];refine Jt (fun y hy=>Item.IC sx1 _ _ y hy) ?_;rw[nP];refine zu (fun v m'' hk => ?_) h2;obtain⟨m',rfl,hn,hsu,h3⟩:=hk;rw[uV hki (by rw[Item.Ai si1];exact hwi)]at h3;obtain⟨_,_,hr⟩:=h3 b (by rw[nP];exact hn);rw[zH si1,nP,DX,pc]at hr;have e1:pU Γ i { st with m:=m' }=pU Γ i st:=rfl;rw[e1]at hr;rw[DX];refine⟨?_,hr⟩;rw[←pc,JP hxi];have hs1:SU P Γ x.still { st.put x.dst v with m:=m' }:=by rw[←Nr st];exact hsu
     have hs2:SU P Γ x.still { st.put x.dst v with m:=m'.set b (.var (Dv i) (pU Γ i st)) }:=YK (s:={ st.put x.dst v with m:=m' }) (wO hn) hs1;rw[←Nr st]at hs2;exact hs2
  |eff=>
   by_cases qx:Quiet x st
   ·rw[quiet_iff qx]at h;obtain⟨v,hv,hsu,h⟩:=h;refine qE ?_ (Hf (TK ⟨si1,si2⟩ h));rintro s ⟨⟨hl,hy,hr⟩,m',u,rfl⟩;refine⟨(JP hYx).1 hy,?_⟩;have qs:Quiet x (({ st with m:=m' }:St).put i.dst u):=(wM sx1 _ _).2 qx
    have hxe:kindOf x.ao ≠ .eff:=by
     intro e;rw[e,hki]at hkind;exact hkind
    rw[quiet_iff qs,hxs hxe,uZ sx1]
    by_cases hkl:kindOf x.ao = .load
    ·obtain⟨hxf,d,hd⟩:=hxl hkl hki;have hst:=hl hkl hki d hd;have hval:Ae P Γ x ((({ st with m:=m' }:St).put i.dst u).put x.dst v)=some (((({ st with m:=m' }:St).put i.dst u).put x.dst v).t.getD d (.val undef)):=hst;rw[uZ hxf,uZ sx1]at hval;refine⟨_,hval,(fun y hy=>by cases hy),?_⟩;rw[hd]at hr ⊢;rw[zbC];exact hr
    ·rw[Me (.inl hkl)];exact⟨v,hv,(fun y hy=>by cases hy),hr⟩
   ·have hwx:kP x.g st.t=true:=by
     cases hw:kP x.g st.t with
     |true=>rfl
     |false=>exact absurd (.inr hw) qx
    cases hkx:kindOf x.ao with
    |loc=>exact absurd (.inl (.inl hkx)) qx
    |load=>exact absurd (.inl (.inr hkx)) qx
    |alloc=>
     rw[hkx,hki]at hkind;exact hkind.elim
    |eff=>
     rw[hkx,hki]at hkind;exact hkind.elim
end
end Go.Av
