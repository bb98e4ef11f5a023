/- Which operations of a row may change places, and that they may. No condition. -/
import Derived.Test.YtmglaebjmaomnaaGreatDoorTAv16
open List renaming getD_eq_getElem?_getD→aU, set_eq_of_length_le→iH
open Option.some renaming injEq→ax
set_option linter.unusedSimpArgs false
set_option linter.unusedVariables false
namespace Go.Av
open Go.RowKit
section
variable {P:Program} {Γ:jI} {B0:Nat} {mF:Store} {G G0:Gh} {st:St} {a:Act} {w w0:World} {Kp:V→Store→Prop}
theorem set_comm(m:Store){b c:Nat}(x y:Blk)(h:b≠c):(m.set b x).set c y=(m.set c y).set b x:=by
 funext d;simp only[Store.set]
 by_cases e1:d=c
 ·by_cases e2:d=b
  ·exact absurd (e2.symm.trans e1) h
  ·simp[e1,e2];intro e;exact absurd e.symm h
 ·simp[e1]
def single(b:Nat)(x:Blk):Store:=fun b' => if b'=b then some x else none
theorem EC{m:Store}{b:Nat}{x:Blk}(h:m b=none):m.or (single b x)=m.set b x:=by
 funext c;simp only[Store.or,single,Store.set]
 by_cases e:c=b
 ·subst e;simp[h]
 ·simp only[e,if_false];cases m c<;>rfl
theorem KF{m:Store}{b:Nat}{x:Blk}(h:m b=none):mP m (single b x):=by
 intro c
 by_cases e:c=b
 ·subst e;exact .inl h
 ·exact .inr (by simp[single,e])
theorem JX{m:Store}{b:Nat}{x:Blk}(h:mP m (single b x)):m b=none:=by
 rcases h b with h|h
 ·exact h
 ·simp[single]at h
theorem zaq{m:Store}{size:Nat}{x:V}{ys:List V}{b:Nat}{blk:Blk}(hb:m b=none)(h:extra m size x=some ys):extra (m.set b blk) size x=some ys:=by
 cases x with
 |arr c o len cap=>
  simp only[extra]at h ⊢
  cases hm:m c with
  |none=>rw[hm]at h;cases h
  |some y=>
   rw[hm]at h;rw[Store.jw _ _ (by rintro rfl;rw[hm]at hb;cases hb),hm];exact h
 |val v=>cases v<;>exact h
 |_=>exact h
theorem ZU{ρ:Operand→V}{m:Store}{K:V→Store→Prop}{ao:AOp}{b:Nat}{blk:Blk}(hk:kindOf ao = .eff)(hKp:∀ v m b x,m b=none→Kp v m→Kp v (m.set b x))(hb:m b=none)(h:opE P Γ ρ m K Kp ao) :
  opE P Γ ρ (m.set b blk) (fun v m'' => ∃ m',m'' = m'.set b blk∧m' b=none∧K v m') Kp ao:=by
 cases ao with
 |mark x=>
  simp only[opE]at h ⊢
  split at h
  ·exact⟨m,rfl,hb,h⟩
  ·cases h
 |s2b e x=>
  simp only[opE]at h ⊢
  split at h
  ·rename_i s hs;intro t ht;have hne:t≠b:=by rintro rfl;rw[Store.jv]at ht;cases ht
   rw[Store.jw _ _ hne]at ht;exact⟨_,set_comm _ _ _ (fun e=>hne e.symm),by rw[Store.jw _ _ (fun e=>hne e.symm)];exact hb,h t ht⟩
  ·cases h
 |store s x y=>
  simp only[opE]at h ⊢
  split at h
  ·rename_i c o hx
   split at h
   ·rename_i cs hc;have hne:c≠b:=by rintro rfl;rw[hc]at hb;cases hb
    rw[Store.jw _ _ hne,hc];exact⟨h.1,h.2.1,h.2.2.1,_,set_comm _ _ _ (fun e=>hne e.symm),by rw[Store.jw _ _ (fun e=>hne e.symm)];exact hb,h.2.2.2⟩
   ·cases h
  ·cases h
 |app e bytes size s x=>
  simp only[opE]at h ⊢
  split at h
  ·rename_i es more tok ys hs hx;rw[hs,zaq hb hx];refine⟨fun hy=>⟨m,rfl,hb,h.1 hy⟩,fun hy => ?_⟩;obtain⟨h1,h2,h3,h4⟩:=h.2 hy;refine⟨h1,h2,h3,?_⟩
   cases tok with
   |no=>exact h4
   |non=>exact h4
   |own=>exact h4
   |full=>
    refine⟨h4.1,fun t ht => ?_⟩;have hne:t≠b:=by rintro rfl;rw[Store.jv]at ht;cases ht
    rw[Store.jw _ _ hne]at ht;exact⟨_,set_comm _ _ _ (fun e=>hne e.symm),by rw[Store.jw _ _ (fun e=>hne e.symm)];exact hb,h4.2 t ht⟩
   |zero z=>
    refine⟨h4.1,fun t ht => ?_⟩;have hne:t≠b:=by rintro rfl;rw[Store.jv]at ht;cases ht
    rw[Store.jw _ _ hne]at ht;exact⟨_,set_comm _ _ _ (fun e=>hne e.symm),by rw[Store.jw _ _ (fun e=>hne e.symm)];exact hb,h4.2 t ht⟩
   |tipz t v z=>
    obtain⟨k1,k2,k3,k4⟩:=h4;have hne:t≠b:=by rintro rfl;rw[k3]at hb;cases hb
    refine⟨k1,k2,by rw[Store.jw _ _ hne];exact k3,?_⟩;exact⟨_,set_comm _ _ _ (fun e=>hne e.symm),by rw[Store.jw _ _ (fun e=>hne e.symm)];exact hb,k4⟩
   |tip t v=>
    obtain⟨k1,k2,k3,k4⟩:=h4;have hne:t≠b:=by rintro rfl;rw[k3]at hb;cases hb
    refine⟨k1,k2,by rw[Store.jw _ _ hne];exact k3,?_⟩;exact⟨_,set_comm _ _ _ (fun e=>hne e.symm),by rw[Store.jw _ _ (fun e=>hne e.symm)];exact hb,k4⟩
  ·cases h
 |call f args=>
  simp only[opE]at h ⊢
  split at h
  ·rename_i g first caps hf;rw[←EC hb];refine(h.frame (KF (x:=blk) hb)).mono ?_;rintro o m'' ⟨m',rfl,hD,ho⟩;have hn:=JX hD;rw[EC hn]
   cases o with
   |ret v=>exact⟨m',rfl,hn,ho⟩
   |pan v=>exact hKp _ _ _ _ hn ho
  ·rename_i l hf;rw[←EC hb];refine(h.frame (KF (x:=blk) hb)).mono ?_;rintro o m'' ⟨m',rfl,hD,ho⟩;have hn:=JX hD;rw[EC hn]
   cases o with
   |ret v=>exact⟨m',rfl,hn,ho⟩
   |pan v=>exact hKp _ _ _ _ hn ho
  ·cases h
 |bad=>exact h
 |panic x=>
  simp only[opE]at h ⊢
  split at h
  ·exact hKp _ _ _ _ hb h
  ·cases h
 |appz e bytes size s x=>
  simp only[opE]at h ⊢
  split at h
  ·refine⟨h.1,h.2.1,fun t ht => ?_⟩;have hne:t≠b:=by rintro rfl;rw[Store.jv]at ht;cases ht
   rw[Store.jw _ _ hne]at ht;exact⟨_,set_comm _ _ _ (fun e=>hne e.symm),by rw[Store.jw _ _ (fun e=>hne e.symm)];exact hb,h.2.2 t ht⟩
  ·cases h
 |mks e bytes z l c=>
  simp only[opE]at h ⊢
  split at h
  ·refine⟨h.1,h.2.1,h.2.2.1,fun t ht => ?_⟩;have hne:t≠b:=by rintro rfl;rw[Store.jv]at ht;cases ht
   rw[Store.jw _ _ hne]at ht;exact⟨_,set_comm _ _ _ (fun e=>hne e.symm),by rw[Store.jw _ _ (fun e=>hne e.symm)];exact hb,h.2.2.2 t ht⟩
  ·cases h
 |_=>simp[kindOf]at hk
theorem qB{x:Item}{K K':St→Prop}(hk:∀ s,K s→K' s)(h:lh P Γ Kp x K st):lh P Γ Kp x K' st:=by
 unfold lh at h ⊢
 split
 ·rename_i hw;rw[if_pos hw]at h;exact zi (fun v m'=>hk _) h
 ·rename_i hw;rw[if_neg hw]at h;exact hk _ h
theorem GN{x:Item}{K:St→Prop}(h:lh P Γ Kp x K st):lh P Γ Kp x (fun s=>K s∧∃ m' u,s=({ st with m:=m' }:St).put x.dst u) st:=by
 unfold lh at h ⊢
 split
 ·rename_i hw;rw[if_pos hw]at h;exact zi (fun v m' hk=>⟨hk,m',v,rfl⟩) h
 ·rename_i hw;rw[if_neg hw]at h;exact⟨h,st.m,_,rfl⟩
def Sep(x:Item)(d:Option Tmp):Prop:=x.free d∧∀ e f,d=some e→x.dst=some f→e≠f
theorem TU{x:Item}{d:Option Tmp}{v:V}{F:St→Prop}(hs:Sep x d)(h:lh P Γ Kp x F (st.put d v)):lh P Γ Kp x (fun s=>F (s.put d v)) st:=by
 unfold lh at h ⊢;rw[Item.zV hs.1 st v]at h
 split
 ·rename_i hw;rw[if_pos hw]at h;have h2:=Jo (fun y hy=>(Item.Io hs.1 st v y hy).symm) h;rw[nK]at h2;refine zi (fun u m' hk => ?_) h2;rw[DJ,put_comm _ _ _ (fun a b ha hb=>hs.2 a b ha hb)]at hk;exact hk
 ·rename_i hw;rw[if_neg hw]at h;rw[put_comm _ _ _ (fun a b ha hb=>hs.2 a b ha hb)]at h;exact h
theorem Q8{x:Item}{d:Option Tmp}{v:V}{F:St→Prop}(hs:Sep x d)(h:lh P Γ Kp x (fun s=>F (s.put d v)) st):lh P Γ Kp x F (st.put d v):=by
 unfold lh at h ⊢;rw[Item.zV hs.1 st v]
 split
 ·rename_i hw;rw[if_pos hw]at h;refine Jo (fun y hy=>(Item.Io hs.1 st v y hy)) ?_;rw[nK];refine zi (fun u m' hk => ?_) h;rw[DJ,put_comm _ _ _ (fun a b ha hb=>hs.2 a b ha hb)];exact hk
 ·rename_i hw;rw[if_neg hw]at h;rw[put_comm _ _ _ (fun a b ha hb=>hs.2 a b ha hb)];exact h
def slotsOf(y:Tmp×Option (Tmp×Bool)×AOp):List Nat:=y.1::((match y.2.1 with
 |some (d,_)=>[d]
 |none=>[])++y.2.2.jV.filterMap XI)
def zM(d:Option Tmp)(y:Tmp×Option (Tmp×Bool)×AOp):Prop:=∀ e,d=some e→e∉slotsOf y
theorem MO{y:Tmp×Option (Tmp×Bool)×AOp}{d:Option Tmp}{v:V}{s:St}(h:zM d y):mQ P Γ y (s.put d v)↔mQ P Γ y s:=by
 cases d with
 |none=>exact Iff.rfl
 |some d=>
  have hd:=h d rfl;simp only[slotsOf,List.mem_cons,List.mem_append,not_or,List.mem_filterMap,not_exists,not_and]at hd;obtain⟨h1,h2,h3⟩:=hd;unfold mQ;have e1:kP y.2.1 (s.put (some d) v).t=kP y.2.1 s.t:=JV (fun e b hg he=>h2 (by rw[hg];simp[he]));have e2:jJ P (ev Γ (s.put (some d) v).t) (s.put (some d) v).m y.2.2=jJ P (ev Γ s.t) s.m y.2.2:=DZ fun x hx=>zc7 (fun k=>h3 x hx k)
  have e3:(s.put (some d) v).t.getD y.1 (.val undef)=s.t.getD y.1 (.val undef):=by
   simp only[St.put];rw[aU,List.getElem?_set,if_neg h1,aU]
  rw[e1,e2,e3]
theorem TR{y:Tmp×Option (Tmp×Bool)×AOp}{s:St}{m':Store}(hm:∀ b x,s.m b=some x→m' b=some x)(h:mQ P Γ y s):mQ P Γ y { s with m:=m' }:=by
 unfold mQ at h ⊢
 split
 ·rename_i hw;rw[if_pos hw]at h;exact Dq hm h
 ·rename_i hw
  rwa [if_neg hw]at h
def entryOf(x:Item):Option (Tmp×Option (Tmp×Bool)×AOp):=match x.dst with
 |some d=>some (d,x.g,x.ao)
 |none=>none
theorem wQ{m:Store}{b:Nat}{x:Blk}(hb:m b=none):∀ c y,m c=some y→(m.set b x) c=some y:=by
 intro c y hy;have:c≠b:=by rintro rfl;rw[hb]at hy;cases hy
 rw[Store.jw _ _ this];exact hy
def Room(s:St):Prop:=∃ n,∀ b,n≤b→s.m b=none
theorem Room.ne{s:St}(h:Room s)(b':Nat):∃ b,b≠b'∧s.m b=none:=by
 obtain⟨n,hn⟩:=h;exact⟨max n b'+1,by omega,hn _ (by omega)⟩
theorem tH{m:Store}{b:Nat}{x:Blk}(h:∃ n,∀ c,n≤c→m c=none):∃ n,∀ c,n≤c→(m.set b x) c=none:=by
 obtain⟨n,hn⟩:=h;exact⟨max n (b+1),fun c hc=>by rw[Store.jw _ _ (show c≠b by omega)];exact hn c (by omega)⟩
theorem zbT{ρ:Operand→V}{m:Store}{K:V→Store→Prop}{ao:AOp}(hr:∃ n,∀ b,n≤b→m b=none)(h:opE P Γ ρ m K Kp ao):opE P Γ ρ m (fun v m' => K v m'∧∃ n,∀ b,n≤b→m' b=none) Kp ao:=by
 cases ao with
 |alloc T cells=>exact fun b hb=>⟨h b hb,tH hr⟩
 |box T x=>exact fun b hb=>⟨h b hb,tH hr⟩
 |store s x y=>
  simp only[opE]at h ⊢
  split at h
  ·split at h
   ·exact⟨h.1,h.2.1,h.2.2.1,h.2.2.2,tH hr⟩
   ·cases h
  ·cases h
 |s2b e x=>
  simp only[opE]at h ⊢
  split at h
  ·exact fun t ht=>⟨h t ht,tH hr⟩
  ·cases h
 |mark x=>
  simp only[opE]at h ⊢
  split at h
  ·exact⟨h,hr⟩
  ·cases h
 |app e bytes size s x=>
  simp only[opE]at h ⊢
  split at h
  ·rename_i es more tok ys _ _;refine⟨fun hy=>⟨h.1 hy,hr⟩,fun hy => ?_⟩;obtain⟨h1,h2,h3,h4⟩:=h.2 hy;refine⟨h1,h2,h3,?_⟩
   cases tok with
   |no=>exact h4
   |non=>exact h4
   |own=>exact h4
   |full=>exact⟨h4.1,fun t ht=>⟨h4.2 t ht,tH hr⟩⟩
   |tip t v=>exact⟨h4.1,h4.2.1,h4.2.2.1,h4.2.2.2,tH hr⟩
   |zero b=>exact⟨h4.1,fun t ht=>⟨h4.2 t ht,tH hr⟩⟩
   |tipz t v z=>exact⟨h4.1,h4.2.1,h4.2.2.1,h4.2.2.2,tH hr⟩
  ·cases h
 |bad=>exact h
 |panic x=>exact h
 |appz e bytes size s x=>
  simp only[opE]at h ⊢
  split at h
  ·exact⟨h.1,h.2.1,fun t ht=>⟨h.2.2 t ht,tH hr⟩⟩
  ·cases h
 |mks e bytes z l c=>
  simp only[opE]at h ⊢
  split at h
  ·exact⟨h.1,h.2.1,h.2.2.1,fun t ht=>⟨h.2.2.2 t ht,tH hr⟩⟩
  ·cases h
 |call f args=>
  simp only[opE]at h ⊢
  split at h
  ·refine⟨h.1,fun G B0 mF w cargs hD hR hL=>(h.2 G B0 mF w cargs hD hR hL).mono ?_⟩;rintro e w' ⟨G',m',o,a,b,c,d,e,r⟩;refine⟨G',m',o,a,b,c,d,e,?_⟩
   have hroom : ∃ n,∀ b,n ≤ b → m' b = none := ⟨w'.heap.size,fun b hb => by
    cases hm:m' b with
    |none=>rfl
    |some x=>have:=c.lt (ou (f:=mF) hm);omega⟩
   cases o with
   |ret v=>exact⟨r,hroom⟩
   |pan v=>exact r
  ·refine h.room.mono ?_;rintro o m' ⟨h1,h2⟩
   cases o with
   |ret v=>exact⟨h1,h2⟩
   |pan v=>exact h1
  ·cases h
 |_=>
  obtain⟨v,h1,h2⟩:=h;exact⟨v,h1,h2,hr⟩
theorem TT{x:Item}{K:St→Prop}(hr:Room st)(h:lh P Γ Kp x K st):lh P Γ Kp x (fun s=>K s∧Room s) st:=by
 unfold lh at h ⊢
 split
 ·rename_i hw;rw[if_pos hw]at h;exact zi (fun v m' hk=>⟨hk.1,by unfold Room;rw[nK];exact hk.2⟩) (zbT hr h)
 ·rename_i hw;rw[if_neg hw]at h;exact⟨h,by unfold Room;rw[nK];exact hr⟩
structure XA (x i:Item):Prop where
 sx:Sep x i.dst
 si:Sep i x.dst
 kind:match kindOf x.ao,kindOf i.ao with
  | .eff,.loc=>total i.ao=true
  | .eff,.load=>False
  | .eff,.alloc=>True
  | .eff,.eff=>False
  | .alloc,.eff=>False
  |_,_=>True
theorem Zg{i:Item}(h:total i.ao=true∨kP i.g st.t=false):∃ u,zQ P Γ i st=some u:=by
 unfold zQ
 split
 ·rename_i hw
  rcases h with h|h
  ·generalize i.ao=ao at h
   cases ao with
   |mov x=>exact⟨_,rfl⟩
   |mki T x=>exact⟨_,rfl⟩
   |mkf f a b=>exact⟨_,rfl⟩
   |_=>simp[total]at h
  ·rw[h]at hw;cases hw
 ·exact⟨_,rfl⟩
def SU(P:Program)(Γ:jI)(Y:List (Tmp×Option (Tmp×Bool)×AOp))(s:St):Prop:=∀ y∈Y,mQ P Γ y s
theorem JS{Y:List (Tmp×Option (Tmp×Bool)×AOp)}{d:Option Tmp}{v:V}{s:St}(h:∀ y∈Y,zM d y):SU P Γ Y (s.put d v)↔SU P Γ Y s:=
 ⟨fun k y hy=>(MO (h y hy)).1 (k y hy),fun k y hy=>(MO (h y hy)).2 (k y hy)⟩
theorem Y3{Y:List (Tmp×Option (Tmp×Bool)×AOp)}{s:St}{m':Store}(hm:∀ b x,s.m b=some x→m' b=some x)(h:SU P Γ Y s):SU P Γ Y { s with m:=m' }:=fun y hy=>TR hm (h y hy)
theorem wO{x:Item}{d:Option Tmp}(hs:x.free d)(s:St)(v:V):Quiet x (s.put d v)↔Quiet x s:=by
 unfold Quiet;rw[Item.zV hs]
theorem Ny(s:St)(d:Option Tmp)(v:V)(m':Store):({ s with m:=m' }:St).put d v={ s.put d v with m:=m' }:=by cases d<;>rfl
theorem MQ{x:Item}{K:St→Prop}(hw:kP x.g st.t=true):lh P Γ Kp x K st=opE P Γ (ev Γ st.t) st.m (fun v m'=>K ({ st with m:=m' }.put x.dst v)) Kp x.ao:=by
 unfold lh;rw[if_pos hw]
theorem zbK(s:St)(d:Nat)(v:V):s.put (some d) ((s.put (some d) v).t.getD d (.val undef))=s.put (some d) v:=by
 simp only[St.put];congr 1
 by_cases h:d<s.t.length
 ·congr 1;rw[aU,List.getElem?_set_self h];rfl
 ·rw[iH (Nat.not_lt.1 h),iH (Nat.not_lt.1 h)]
theorem swap2{x i:Item}(hc:XA x i)(hKp:∀ v m b x,m b=none→Kp v m→Kp v (m.set b x))(hroom:Room st){Y:List (Tmp×Option (Tmp×Bool)×AOp)}(hY:kindOf i.ao ≠ .eff→Y=[])(hYx:∀ y∈Y,zM x.dst y)
  (hxs:kindOf x.ao ≠ .eff→x.still=[]) (hxi:∀ y∈x.still,zM i.dst y) (hxl:kindOf x.ao = .load→kindOf i.ao = .eff→x.free x.dst∧∃ d,x.dst=some d) {R:St→Prop}
  (h:lh P Γ Kp x (fun s1=>SU P Γ x.still s1∧lh P Γ Kp i (fun s2=>(kindOf x.ao = .load→kindOf i.ao = .eff→∀ d,x.dst=some d→mQ P Γ (d,x.g,x.ao) s2)∧SU P Γ Y s2∧R s2) s1) st) :
  lh P Γ Kp i (fun s=>SU P Γ Y s∧lh P Γ Kp x (fun s=>SU P Γ x.still s∧R s) s) st:=by
 obtain⟨⟨sx1,sx2⟩,⟨si1,si2⟩,hkind⟩:=hc;have pc:∀ (s:St) (v u:V),(s.put x.dst v).put i.dst u=(s.put i.dst u).put x.dst v:=fun s v u=>put_comm s v u (fun a b ha hb=>fun e=>sx2 b a hb ha e.symm)
 by_cases qi:Quiet i st
 ·by_cases qx:Quiet x st
  ·-- both quiet
   rw[quiet_iff qx]at h;obtain⟨v,hv,hsu,h⟩:=h;rw[quiet_iff ((wO si1 st v).2 qi),uZ si1]at h;obtain⟨u,hu,_,hy,hr⟩:=h;rw[quiet_iff qi];rw[pc]at hy hr;refine⟨u,hu,(JS hYx).1 hy,?_⟩;rw[quiet_iff ((wO sx1 st u).2 qx),uZ sx1];refine⟨v,hv,?_,hr⟩;rw[←pc];exact(JS hxi).2 hsu
  ·have hwx:kP x.g st.t=true:=by
    cases hw:kP x.g st.t with
    |true=>rfl
    |false=>exact absurd (.inr hw) qx
   cases hkx:kindOf x.ao with
   |loc=>exact absurd (.inl (.inl hkx)) qx
   |load=>exact absurd (.inl (.inr hkx)) qx
   |alloc=>
    have hie:kindOf i.ao ≠ .eff:=by
     intro e;rw[hkx,e]at hkind;exact hkind
    have hYn:=hY hie;subst hYn;rw[uV hkx hwx]at h
    have hq:∀ b,st.m b=none→∃ v,zQ P Γ i { st with m:=st.m.set b (.var (Dj x) (pJ Γ x st)) }=some v:=by
     intro b hb;obtain⟨_,h2⟩:=h b hb;rw[quiet_iff (x:=i) (st:=({ st with m:=st.m.set b (.var (Dj x) (pJ Γ x st)) }:St).put x.dst (.ptr b 0)) ((wO si1 _ _).2 qi),uZ si1]at h2;obtain⟨u,hu,_⟩:=h2;exact⟨u,hu⟩
    obtain⟨u,hu⟩:=Z4 hroom.ne qi hq;rw[quiet_iff qi];refine⟨u,hu,(fun y hy=>by cases hy),?_⟩;rw[uV hkx (by rw[Item.zV sx1];exact hwx)];intro b hb;rw[nK]at hb;obtain⟨hsu,h2⟩:=h b hb;rw[quiet_iff (x:=i) (st:=({ st with m:=st.m.set b (.var (Dj x) (pJ Γ x st)) }:St).put x.dst (.ptr b 0)) ((wO si1 _ _).2 qi),uZ si1]at h2;obtain⟨u',hu',_,_,hr⟩:=h2;have:=Py (m':=st.m.set b (.var (Dj x) (pJ Γ x st))) (wQ hb) hu;rw[this]at hu';simp only[ax]at hu';subst hu';rw[hxs (by rw[hkx];simp)];refine⟨(fun y hy=>by cases hy),?_⟩;rw[pc]at hr;rw[zq sx1,nK,DJ];exact hr
   |eff=>
    have htot:total i.ao=true∨kP i.g st.t=false:=by
     rcases qi with (hk|hk)|hk
     ·left;rw[hkx,hk]at hkind;exact hkind
     ·rw[hkx,hk]at hkind;exact hkind.elim
     ·exact .inr hk
    have hml:kindOf i.ao ≠ .load∨kP i.g st.t=false:=by
     rcases htot with h|h
     ·left;intro e;generalize i.ao=ao at h e;cases ao<;>simp[total]at h<;>simp[kindOf]at e
     ·exact .inr h
    have hie:kindOf i.ao ≠ .eff:=by
     intro e;rw[hkx,e]at hkind;exact hkind
    have hYn:=hY hie;subst hYn;obtain⟨u,hu⟩:=Zg (P:=P) (Γ:=Γ) htot;rw[quiet_iff qi];refine⟨u,hu,(fun y hy=>by cases hy),?_⟩;refine Q8 ⟨sx1,sx2⟩ (qB ?_ (GN h));rintro s ⟨⟨hsu,h2⟩,m',v,rfl⟩;rw[quiet_iff (x:=i) (st:=({ st with m:=m' }:St).put x.dst v) ((wO si1 _ _).2 qi),uZ si1,MG hml]at h2;obtain⟨u',hu',_,_,hr⟩:=h2;rw[hu]at hu';simp only[ax]at hu';subst hu';exact⟨(JS hxi).2 hsu,hr⟩
 ·have hwi:kP i.g st.t=true:=by
   cases hw:kP i.g st.t with
   |true=>rfl
   |false=>exact absurd (.inr hw) qi
  cases hki:kindOf i.ao with
  |loc=>exact absurd (.inl (.inl hki)) qi
  |load=>exact absurd (.inl (.inr hki)) qi
  |alloc=>
   have hYn:=hY (by rw[hki];simp);subst hYn;rw[uV hki hwi];intro b hb;refine⟨(fun y hy=>by cases hy),?_⟩
   by_cases qx:Quiet x st
   ·rw[quiet_iff qx]at h;obtain⟨v,hv,hsu,h⟩:=h;rw[uV hki (by rw[Item.zV si1];exact hwi)]at h;obtain⟨_,_,hr⟩:=h b (by rw[nK];exact hb);rw[quiet_iff (x:=x) (st:=({ st with m:=st.m.set b (.var (Dj i) (pJ Γ i st)) }:St).put i.dst (.ptr b 0)) ((wO sx1 _ _).2 qx),uZ sx1];refine⟨v,Py (wQ hb) hv,?_,?_⟩
    ·rw[←pc,JS hxi,Ny];exact Y3 (by rw[nK];exact wQ hb) hsu
    ·rw[zq si1,nK,DJ,pc]at hr;exact hr
   ·have hwx:kP x.g st.t=true:=by
     cases hw:kP x.g st.t with
     |true=>rfl
     |false=>exact absurd (.inr hw) qx
    cases hkx:kindOf x.ao with
    |loc=>exact absurd (.inl (.inl hkx)) qx
    |load=>exact absurd (.inl (.inr hkx)) qx
    |alloc=>
     rw[uV hkx hwx]at h;rw[uV hkx (by rw[Item.zV sx1];exact hwx)];intro c hcn;rw[nK]at hcn
     have hne:c≠b:=by
      rintro rfl;simp[Store.set]at hcn
     have hcn':st.m c=none:=(Store.jw st.m (.var (Dj i) (pJ Γ i st)) hne).symm.trans hcn;obtain⟨hsu,h2⟩:=h c hcn';rw[uV hki (by rw[Item.zV si1];exact hwi)]at h2;obtain⟨_,_,hr⟩:=h2 b (by rw[nK];simp only[Store.jw _ _ (fun e=>hne e.symm)];exact hb);rw[hxs (by rw[hkx];simp)];refine⟨(fun y hy=>by cases hy),?_⟩;rw[zq sx1,nK,DJ];rw[zq si1,nK,DJ,pc]at hr;have e1:pJ Γ i { st with m:=st.m.set c (.var (Dj x) (pJ Γ x st)) }=pJ Γ i st:=rfl;have e2:pJ Γ x { st with m:=st.m.set b (.var (Dj i) (pJ Γ i st)) }=pJ Γ x st:=rfl;rw[e1]at hr;rw[e2];simp only at hr ⊢;rw[set_comm _ _ _ hne]at hr;exact hr
    |eff=>
     rw[MQ hwx]at h;have h2:=ZU (blk:=.var (Dj i) (pJ Γ i st)) hkx hKp hb h;rw[MQ (by rw[Item.zV sx1];exact hwx)];refine Jo (fun y hy=>Item.Io sx1 _ _ y hy) ?_;rw[nK];refine zi (fun v m'' hk => ?_) h2;obtain⟨m',rfl,hn,hsu,h3⟩:=hk;rw[uV hki (by rw[Item.zV si1];exact hwi)]at h3;obtain⟨_,_,hr⟩:=h3 b (by rw[nK];exact hn);rw[zq si1,nK,DJ,pc]at hr;have e1:pJ Γ i { st with m:=m' }=pJ Γ i st:=rfl;rw[e1]at hr;rw[DJ];refine⟨?_,hr⟩;rw[←pc,JS hxi];have hs1:SU P Γ x.still { st.put x.dst v with m:=m' }:=by rw[←Ny st];exact hsu
     have hs2:SU P Γ x.still { st.put x.dst v with m:=m'.set b (.var (Dj i) (pJ Γ i st)) }:=Y3 (s:={ st.put x.dst v with m:=m' }) (wQ hn) hs1;rw[←Ny st]at hs2;exact hs2
  |eff=>
   by_cases qx:Quiet x st
   ·rw[quiet_iff qx]at h;obtain⟨v,hv,hsu,h⟩:=h;refine qB ?_ (GN (TU ⟨si1,si2⟩ h));rintro s ⟨⟨hl,hy,hr⟩,m',u,rfl⟩;refine⟨(JS hYx).1 hy,?_⟩;have qs:Quiet x (({ st with m:=m' }:St).put i.dst u):=(wO sx1 _ _).2 qx
    have hxe:kindOf x.ao ≠ .eff:=by
     intro e;rw[e,hki]at hkind;exact hkind
    rw[quiet_iff qs,hxs hxe,uZ sx1]
    by_cases hkl:kindOf x.ao = .load
    ·obtain⟨hxf,d,hd⟩:=hxl hkl hki;have hst:=hl hkl hki d hd;have hval:zQ P Γ x ((({ st with m:=m' }:St).put i.dst u).put x.dst v)=some (((({ st with m:=m' }:St).put i.dst u).put x.dst v).t.getD d (.val undef)):=hst;rw[uZ hxf,uZ sx1]at hval;refine⟨_,hval,(fun y hy=>by cases hy),?_⟩;rw[hd]at hr ⊢;rw[zbK];exact hr
    ·rw[MG (.inl hkl)];exact⟨v,hv,(fun y hy=>by cases hy),hr⟩
   ·have hwx:kP x.g st.t=true:=by
     cases hw:kP x.g st.t with
     |true=>rfl
     |false=>exact absurd (.inr hw) qx
    cases hkx:kindOf x.ao with
    |loc=>exact absurd (.inl (.inl hkx)) qx
    |load=>exact absurd (.inl (.inr hkx)) qx
    |alloc=>
     rw[hkx,hki]at hkind;exact hkind.elim
    |eff=>
     rw[hkx,hki]at hkind;exact hkind.elim
end
end Go.Av
