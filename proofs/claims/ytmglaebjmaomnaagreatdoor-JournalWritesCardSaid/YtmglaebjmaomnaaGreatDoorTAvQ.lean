/- Calls whose callee is gone through over few blocks of the caller's, under names of their own. No condition. -/
import Derived.Test.YtmglaebjmaomnaaGreatDoorTAvX
open List renaming length_cons→ax, mem_cons_self→aU
open Nat renaming not_lt_zero→dY
open Option renaming map→dX, map_eq_some_iff→aQ
set_option linter.unusedSimpArgs false
set_option linter.unusedVariables false
namespace Go.Av
def Za(σ:Nat→Nat):Tok→Tok
 | .tip t v=>.tip (σ t) v
 | .tipz t v z=>.tipz (σ t) v z
 |k=>k
mutual
def ren(σ:Nat→Nat):V→V
 | .val v=>.val v
 | .ptr b o=>.ptr (σ b) o
 | .elt cs=>.elt (tq σ cs)
 | .sl es more k=>.sl (tq σ es) (tq σ more) (Za σ k)
 | .fn f a c=>.fn f (tq σ a) (tq σ c)
 | .ifc t v=>.ifc t (ren σ v)
 | .agg cs=>.agg (tq σ cs)
 | .tup cs=>.tup (tq σ cs)
 | .arr b o l c=>.arr (σ b) o l c
 | .res t v z n=>.res (σ t) v z n
def tq(σ:Nat→Nat):List V→List V
 |[]=>[]
 |v::l=>ren σ v::tq σ l
end
def xI(σ:Nat→Nat):Blk→Blk
 | .var T cs=>.var T (tq σ cs)
 |b=>b
def nmf:List Nat→Nat→Nat→Nat
 |[],n,a=>n+a
 |b::_,_,0=>b
 |_::bs,n,a+1=>nmf bs n a
theorem Ic{n a:Nat}:nmf [] n a=n+a:=(rfl)
theorem rO{b n:Nat}{bs:List Nat}:nmf (b::bs) n 0=b:=(rfl)
theorem rP{b n a:Nat}{bs:List Nat}:nmf (b::bs) n (a+1)=nmf bs n a:=(rfl)
def vP(σ:Nat→Nat):Hl→List Nat→Hl→Hl
 |h,[],zs=>h++zs.map (dX (xI σ))
 |h,b::bs,z::zs=>vP σ (hset h b (z.map (xI σ))) bs zs
 |h,_::_,[]=>h
theorem wZ{σ:Nat→Nat}{h zs:Hl}:vP σ h [] zs=h++zs.map (dX (xI σ)):=by rw[vP]
theorem yF{σ:Nat→Nat}{h zs:Hl}{b:Nat}{bs:List Nat}{z:Option Blk}:vP σ h (b::bs) (z::zs)=vP σ (hset h b (z.map (xI σ))) bs zs:=by rw[vP]
def Am(σ:Nat→Nat)(h:Hl):Hl→List Nat→Prop
 |some x::hs,b::bs=>lk h b=some (xI σ x)∧Am σ h hs bs
 |none::hs,_::bs=>Am σ h hs bs
 |_,_=>True
theorem uT{σ:Nat→Nat}{h hs:Hl}{x:Blk}{b:Nat}{bs:List Nat}:Am σ h (some x::hs) (b::bs)=(lk h b=some (xI σ x)∧Am σ h hs bs):=(rfl)
theorem Vl{σ:Nat→Nat}{h hs:Hl}{b:Nat}{bs:List Nat}:Am σ h (none::hs) (b::bs)=Am σ h hs bs:=(rfl)
theorem uy{σ:Nat→Nat}{h:Hl}{bs:List Nat}:Am σ h [] bs=True:=by cases bs<;>rfl
def nbH(k:Nat):Hl→Prop
 |[]=>True
 |none::h=>nbH k h
 |some x::h=>nbB k x∧nbH k h
theorem qK{k:Nat}:nbH k []=True:=(rfl)
theorem Uy{k:Nat}{h:Hl}:nbH k (none::h)=nbH k h:=(rfl)
theorem qw{k:Nat}{x:Blk}{h:Hl}:nbH k (some x::h)=(nbB k x∧nbH k h):=(rfl)
def nnl:Hl→Hl→Prop
 |[],_=>True
 |none::hs,y::h=>y=none∧nnl hs h
 |some _::hs,_::h=>nnl hs h
 |_::_,[]=>False
def zns(hs h:Hl)(v:V):Prop:=h.length≤90000∧nb h.length v∧nbH h.length h∧nnl hs h
theorem JA{k:Nat}:∀ {h:Hl},nbH k h→∀ {a:Nat} {x:Blk},lk h a=some x→nbB k x
 |[],_,a,x,e=>by cases e
 |none::h,q,0,x,e=>by cases e
 |none::h,q,a+1,x,e=>JA (h:=h) q e
 |some y::h,q,0,x,e=>by cases e;exact q.1
 |some y::h,q,a+1,x,e=>JA (h:=h) q.2 e
theorem RD:∀ {hs h:Hl},nnl hs h→hs.length≤h.length
 |[],_,_=>Nat.zero_le _
 |none::hs,[],q=>q.elim
 |some _::hs,[],q=>q.elim
 |none::hs,_::h,q=>by have:=RD (hs:=hs) (h:=h) q.2;simp;omega
 |some _::hs,_::h,q=>by have:=RD (hs:=hs) (h:=h) q;simp;omega
theorem IM{σ:Nat→Nat}{h:Hl}:∀ {hs:Hl} {bs:List Nat},Am σ h hs bs→∀ {a b:Nat} {x:Blk},lk hs a=some x→bs[a]? = some b→lk h b=some (xI σ x)
 |[],_,_,a,b,x,e,_=>by cases e
 |_::_,[],_,a,b,x,_,e=>by simp at e
 |some y::hs,c::bs,q,0,b,x,e,e2=>by cases e;cases e2;exact q.1
 |some y::hs,c::bs,q,a+1,b,x,e,e2=>IM (hs:=hs) (bs:=bs) q.2 e (by simpa using e2)
 |none::hs,c::bs,q,0,b,x,e,e2=>by cases e
 |none::hs,c::bs,q,a+1,b,x,e,e2=>IM (hs:=hs) (bs:=bs) q e (by simpa using e2)
theorem ET:∀ {bs:List Nat} {n a:Nat},a<bs.length→bs[a]? = some (nmf bs n a)
 |[],_,_,l=>by simp at l
 |b::bs,n,0,_=>rfl
 |b::bs,n,a+1,l=>by
  rw[nmf,List.getElem?_cons_succ];exact ET (by simpa using l)
theorem V5:∀ {bs:List Nat} {n a:Nat},bs.length≤a→nmf bs n a=n+(a-bs.length)
 |[],_,_,_=>rfl
 |b::bs,n,0,l=>by simp at l
 |b::bs,n,a+1,l=>by
  have:=V5 (bs:=bs) (n:=n) (a:=a) (by simpa using l);simp only[nmf,this,ax];omega
theorem X3(f:Blk→Blk):∀ (h:Hl) (a:Nat),lk (h.map (dX f)) a=(lk h a).map f
 |[],a=>by cases a<;>rfl
 |x::h,0=>rfl
 |x::h,a+1=>X3 f h a
theorem RQ:∀ (h r:Hl) (a:Nat),lk (h++r) a=if a<h.length then lk h a else lk r (a-h.length)
 |[],r,a=>by simp
 |x::h,r,0=>by simp[lk]
 |x::h,r,a+1=>by
  have:=RQ h r a;simp only[List.cons_append,lk,this,ax,Nat.add_lt_add_iff_right,Nat.add_sub_add_right]
theorem Nu(τ:Nat→Nat):∀ (bs:List Nat) (h zs:Hl),bs.length≤zs.length→(vP τ h bs zs).length=h.length+(zs.length-bs.length)
 |[],h,zs,_=>by simp[vP]
 |b::bs,h,[],l=>by simp at l
 |b::bs,h,z::zs,l=>by
  rw[vP,Nu τ bs _ zs (by simpa using l),nU];simp
theorem H7(τ:Nat→Nat):∀ (bs:List Nat) (h zs:Hl) (b:Nat),b∉bs→b<h.length→lk (vP τ h bs zs) b=lk h b
 |[],h,zs,b,_,l=>by rw[vP,RQ,if_pos l]
 |c::bs,h,[],b,_,l=>rfl
 |c::bs,h,z::zs,b,q,l=>by
  simp only[List.mem_cons,not_or]at q;rw[vP,H7 τ bs _ zs b q.2 (by rw[nU];exact l),wS,if_neg (fun e=>q.1 e.1)]
theorem Ru(τ:Nat→Nat):∀ (bs:List Nat) (h zs:Hl) (a:Nat),bs.Nodup→(∀ b∈bs,b<h.length)→bs.length≤zs.length→lk (vP τ h bs zs) (nmf bs h.length a)=(lk zs a).map (xI τ)
 |[],h,zs,a,_,_,_=>by rw[vP,nmf,RQ,if_neg (by omega),X3,Nat.add_sub_cancel_left]
 |c::bs,h,[],a,_,_,l=>by simp at l
 |c::bs,h,z::zs,0,hn,hb,l=>by
  rw[vP,nmf,H7 τ bs _ zs c (List.nodup_cons.1 hn).1 (by rw[nU];exact hb c (aU ..)),wS,if_pos ⟨rfl,hb c (aU ..)⟩];rfl
 |c::bs,h,z::zs,a+1,hn,hb,l=>by
  rw[vP,nmf];have:=Ru τ bs (hset h c (z.map (xI τ))) zs a (List.nodup_cons.1 hn).2 (fun b q=>by rw[nU];exact hb b (List.mem_cons_of_mem _ q)) (by simpa using l);rw[nU]at this;rw[this];rfl
mutual
theorem Lh{σ:Nat→Nat}{k:Nat}:∀ {v w:V},VR (NB k) v w→VR (fun a b=>a<k∧b=σ a) v (ren σ v)
 |_,_,.val v=>.val v
 |_,_,.ptr o r=>.ptr o ⟨r.1▸r.2,rfl⟩
 |_,_,.elt r=>by rw[ren];exact .elt (rH r)
 |_,_,.sl (k:=k0) (k':=k1) a b c=>by
  rw[ren];refine .sl (rH a) (rH b) ?_
  cases k0<;>cases k1<;>first|exact c.elim|skip
  ·trivial
  ·trivial
  ·exact⟨⟨c.1.2,rfl⟩,rfl⟩
  ·exact(rfl:_=_)
  ·exact⟨⟨c.1.2,rfl⟩,rfl,rfl⟩
  ·trivial
  ·trivial
 |_,_,.fn x a b=>by rw[ren];exact .fn x (rH a) (rH b)
 |_,_,.ifc r=>by rw[ren];exact .ifc (Lh r)
 |_,_,.agg r=>by rw[ren];exact .agg (rH r)
 |_,_,.tup r=>by rw[ren];exact .tup (rH r)
 |_,_,.arr a b c r=>.arr a b c ⟨r.2,rfl⟩
 |_,_,.res a b c r=>.res a b c ⟨r.2,rfl⟩
theorem rH{σ:Nat→Nat}{k:Nat}:∀ {v w:List V},LR (NB k) v w→LR (fun a b=>a<k∧b=σ a) v (tq σ v)
 |_,_,.nil=>.nil
 |_,_,.cons a b=>by rw[tq];exact .cons (Lh a) (rH b)
end
section
variable {σ:Nat→Nat} {R S:Ren} {k:Nat}
theorem Ji(hR:∀ a c,a<k→R (σ a) c→S a c){v v':List V}(h:nbs k v)(r:LR R (tq σ v) v'):LR S v v' :=
 LR.comp (A:=fun a b=>a<k∧b=σ a) (B:=R) (C:=S) (fun a b c x y=>hR a c x.1 (x.2▸y)) (rH h) r
theorem XA(hR:∀ a c,a<k→S a c→R (σ a) c){v v':V}(h:nb k v)(r:VR S v v'):VR R (ren σ v) v' :=
 VR.zip (A:=fun a b=>a<k∧b=σ a) (B:=S) (C:=R) (fun a b c x y=>x.2▸hR a c x.1 y) (Lh h) r
theorem zbs(hR:∀ a c,a<k→S a c→R (σ a) c){v v':List V}(h:nbs k v)(r:LR S v v'):LR R (tq σ v) v' :=
 LR.zip (A:=fun a b=>a<k∧b=σ a) (B:=S) (C:=R) (fun a b c x y=>x.2▸hR a c x.1 y) (rH h) r
theorem PO(hR:∀ a c,a<k→R (σ a) c→S a c){x y:Blk}(h:nbB k x)(r:BR R (xI σ x) y):BR S x y:=by
 cases x<;>first|exact h.elim|(cases y<;>first|exact r.elim|skip)
 ·exact⟨r.1,Ji hR h.2 r.2⟩
 ·exact r
theorem TZ(hR:∀ a c,a<k→S a c→R (σ a) c){x y:Blk}(h:nbB k x)(r:BR S x y):BR R (xI σ x) y:=by
 cases x<;>first|exact h.elim|(cases y<;>first|exact r.elim|skip)
 ·exact⟨r.1,zbs hR h.2 r.2⟩
 ·exact r
theorem Nh{v:V}(h:nb 0 v):ren σ v=v:=by
 have:=VR.comp (A:=NB 0) (B:=fun a b=>a<0∧b=σ a) (C:=NB 0) (fun a b c x y=>absurd x.2 (dY _)) h (Lh (σ:=σ) h);exact D7 h this
theorem Rn{v:List V}(h:nbs 0 v):tq σ v=v:=by
 have:=LR.comp (A:=NB 0) (B:=fun a b=>a<0∧b=σ a) (C:=NB 0) (fun a b c x y=>absurd x.2 (dY _)) h (rH (σ:=σ) h);exact ou h this
end
def FC(P:Program)(Γ:jG)(g:FuncId)(args:List V)(hs:Hl)(Q:V→Hl→Prop):Prop:=
 ∀ (R:Ren) (args':List V) (m':Store),(∀ a c,R a c→a<hs.length)→LR R args args'→HH R hs m'→jB P Γ g args' m' fun o m''=>∃ (S:Ren) (v:V) (h' : Hl) (v':V),o = .ret v'∧R.le S∧HH S h' m''∧VR S v v' ∧ Q v h'
section
variable {P:Program} {Γ:jG} {H:Nat→List (Nat×List Nat)×List Nat} {f:FuncId} {F:AFn} {gs:List Nat}
theorem fc(hm:P.follows .mixedOrders=true)(hF:qO P H f=some F)(hok:F.body.okH gs=true)(hG:GOk Γ gs){args:List V}{hs:Hl}{Q:V→Hl→Prop}
  (h:qB P Γ (fun _ _=>False) hs.length F.body (uU F.res Q) ⟨start F.ntmps args,hs⟩):FC P Γ f args hs Q:=by
 intro R args' m' hd ha hH;have h1:=uh (P:=P) (Γ:=Γ) (R0:=R) (N:=hs.length) (Q:=fun o h'=>match o with | .ret v=>Q v h' | .pan _=>False) hm hF hok hG ha hH (fun b b' r=>hd b b' r) h;refine h1.mono ?_;rintro o m'' ⟨S,o0,h',s1,s2,s3,s4⟩
 cases o0 with
 |pan v=>exact s4.elim
 |ret v=>
  cases o with
  |pan v'=>exact s3.elim
  |ret v'=>exact⟨S,v,h',v',rfl,s1,s2,s3,s4⟩
theorem FC.mono{g:FuncId}{args:List V}{hs:Hl}{Q Q':V→Hl→Prop}(h:FC P Γ g args hs Q)(k:∀ v h',Q v h' → Q' v h'):FC P Γ g args hs Q' :=
 fun R args' m' a b c=>(h R args' m' a b c).mono fun o m'' ⟨S,v,h',v',x1,x2,x3,x4,x5⟩=>⟨S,v,h',v',x1,x2,x3,x4,k _ _ x5⟩
section
variable {Kp:V→Hl→Prop} {l:List Item} {K:HS→Prop} {t:List V} {h:Hl} {d:Option Tmp} {s:List (Tmp×Option (Tmp×Bool)×AOp)} {g:FuncId} {first args caps:List V}
open Classical in
theorem Yd{args0:List V}{hs:Hl}{Q:V→Hl→Prop}(bs:List Nat)(hA:FC P Γ g args0 hs Q)(he:first++args++caps=tq (nmf bs h.length) args0)(ha:nbs hs.length args0)(hx:nbH hs.length hs)(hl:bs.length=hs.length)(hn:bs.Nodup)(hb:∀ b∈bs,b<h.length)
  (hc:Am (nmf bs h.length) h hs bs) (hh:h.length≤900000) (hq:∀ v h',Q v h'→zns hs h' v∧hth P Γ Kp s l K (hput t (vP (nmf bs h.length) h bs h') d (some (ren (nmf bs h.length) v)))) :
  tC P Γ Kp (.fn (.func g) first caps) args d s l K t h:=by
 intro R args' m' rl H;rw[he]at rl;generalize hσ:nmf bs h.length=σ at *;have σlt:∀ {a:Nat},a<hs.length→bs[a]? = some (σ a):=fun l=>by rw[←hσ];exact ET (by omega)
 have σge:∀ {a:Nat},hs.length≤a→σ a=h.length+(a-hs.length):=fun l=>by rw[←hσ,V5 (by omega),hl]
 have σmem:∀ {a:Nat},a<hs.length→σ a∈bs:=fun l=>List.mem_of_getElem? (σlt l)
 have σinj:∀ {a b:Nat},σ a=σ b→a=b:=by
  intro a b e
  by_cases h1:a<hs.length
  ·by_cases h2:b<hs.length
   ·have e1:=σlt h1;rw[e,← σlt h2]at e1;exact(List.getElem?_inj (by omega) hn).1 e1
   ·have:=hb _ (σmem h1);rw[e,σge (by omega)]at this;omega
  ·by_cases h2:b<hs.length
   ·have:=hb _ (σmem h2);rw[←e,σge (by omega)]at this;omega
   ·rw[σge (by omega),σge (by omega)]at e;omega
 let R1:Ren:=fun a c=>a<hs.length∧R (σ a) c
 have hLR:LR R1 args0 args':=Ji (fun a c l r=>⟨l,r⟩) ha rl
 let Lv:Nat→Prop:=fun c=>∃ a x,R1 a c∧lk hs a=some x
 let m1:Store:=fun c=>if Lv c then m' c else none
 let m2:Store:=fun c=>if Lv c then none else m' c
 have hor:m1.or m2=m':=by
  funext c;show(match m1 c with|some x=>some x|none=>m2 c)=m' c
  by_cases e:Lv c
  ·simp only[m1,m2,if_pos e];cases m' c<;>rfl
  ·simp only[m1,m2,if_neg e]
 have hD:mQ m1 m2:=by
  intro c
  by_cases e:Lv c
  ·exact .inr (if_pos e)
  ·exact .inl (if_neg e)
 have hcell:∀ {a:Nat} {x:Blk},a<hs.length→lk hs a=some x→lk h (σ a)=some (xI σ x):=fun l e=>IM hc e (σlt l)
 have hH : HH R1 hs m1 := {
  blk:=by
   rintro a c x ⟨hla,r⟩ hx';obtain⟨y,h1,h2⟩:=H.blk _ _ _ r (hcell hla hx');exact⟨y,by show(if Lv c then m' c else none)=_;rw[if_pos ⟨a,x,⟨hla,r⟩,hx'⟩];exact h1,PO (fun a c l r=>⟨l,r⟩) (JA hx hx') h2⟩
  left:=fun a c c' r r'=>H.left _ _ _ r.2 r'.2
  right:=fun a b d x y r r' h1 h2=>σinj (H.right _ _ _ _ _ r.2 r'.2 (hcell r.1 h1) (hcell r'.1 h2))
  dom:=fun a c r=>.inl r.1 }
 have h1:=(hA R1 args' m1 (fun a c r=>r.1) hLR hH).frame hD;rw[hor]at h1;refine h1.mono ?_;rintro o m'' ⟨m1',rfl,hDj,S,v,h',v',rfl,s1,s2,s3,s4⟩;obtain⟨⟨f1,f2,f3,f4⟩,hr⟩:=hq v h' s4;have f0:=RD f4
 have P1:∀ a,lk (vP σ h bs h') (σ a)=(lk h' a).map (xI σ):=fun a=>by
  have:=Ru σ bs h h' a hn hb (by omega);rw[hσ]at this;exact this
 have P2:∀ {b:Nat},b∉bs→b<h.length→lk (vP σ h bs h') b=lk h b:=fun q l=>H7 σ bs h h' _ q l;have P3:=Nu σ bs h h' (by omega)
 have σb:∀ {a:Nat},a<h'.length→σ a<(vP σ h bs h').length:=by
  intro a l;rw[P3]
  by_cases q:a<hs.length
  ·have:=hb _ (σmem q);omega
  ·rw[σge (by omega)];omega
 let S2:Ren:=fun b c=>R b c∨∃ a,a<h'.length∧b=σ a∧S a c
 have F1:∀ {a c:Nat},a<hs.length→R (σ a) c→S a c:=fun l r=>s1 _ _ ⟨l,r⟩
 have F2:∀ {b c:Nat} {x:Blk},R b c→b∉bs→lk h b=some x→m1' c=none∧m2 c=m' c:=by
  intro b c x r q e
  have hnl:¬ Lv c:=by
   rintro⟨a,x',⟨hla,r'⟩,hx'⟩;have:=H.right _ _ _ _ _ r r' e (hcell hla hx');exact q (this▸σmem hla)
  have e2:m2 c=m' c:=if_neg hnl;obtain⟨y,h1,_⟩:=H.blk _ _ _ r e
  rcases hDj c with k|k
  ·exact⟨k,e2⟩
  ·rw[e2,h1]at k;cases k
 have cls:∀ {b d:Nat} {x:Blk},S2 b d→lk (vP σ h bs h') b=some x→(∃ a x0,a<h'.length∧b=σ a∧S a d∧lk h' a=some x0∧x=xI σ x0)∨(R b d∧b∉bs∧lk h b=some x):=by
  rintro b d x (r|⟨a,hla,rfl,r⟩) e
  ·have hlt:b<h.length:=by
    have:=Eb e
    rcases H.dom _ _ r with q|q
    ·exact q
    ·rw[P3]at this;omega
   by_cases q:b∈bs
   ·obtain⟨a,hla,hea⟩:=List.getElem_of_mem q;have hla':a<hs.length:=by omega
    have e1:=σlt hla';rw[List.getElem?_eq_getElem hla,hea]at e1;cases e1;rw[P1,aQ]at e;obtain⟨x0,g1,rfl⟩:=e;exact .inl ⟨a,x0,by omega,rfl,F1 hla' r,g1,rfl⟩
   ·exact .inr ⟨r,q,by rw[←P2 q hlt];exact e⟩
  ·rw[P1,aQ]at e;obtain⟨x0,g1,rfl⟩:=e;exact .inl ⟨a,x0,hla,rfl,r,g1,rfl⟩
 refine⟨S2,.ret (ren σ v),vP σ h bs h',fun a c r=>.inl r,?_,XA (fun a c l r=>.inr ⟨a,l,rfl,r⟩) f2 s3,hr⟩
 exact {
  blk:=by
   intro b c x r e
   rcases cls r e with ⟨a,x0,hla,rfl,r',g1,rfl⟩|⟨r',q,g⟩
   ·obtain⟨y,h1,h2⟩:=s2.blk _ _ _ r' g1;exact⟨y,oC h1,TZ (fun a c l r=>.inr ⟨a,l,rfl,r⟩) (JA f3 g1) h2⟩
   ·obtain⟨y,h1,h2⟩:=H.blk _ _ _ r' g;obtain⟨g2,g3⟩:=F2 r' q g;exact⟨y,by simp only[Store.or,g2,g3];exact h1,h2.mono fun _ _ k=>.inl k⟩
  left:=by
   have aux:∀ {a c d:Nat},R (σ a) c→a<h'.length→S a d→c=d:=by
    intro a c d r l r'
    by_cases q:a<hs.length
    ·exact s2.left _ _ _ (F1 q r) r'
    ·have e:=σge (a:=a) (by omega)
     rcases H.dom _ _ r with k|k<;>omega
   rintro b c d (r|⟨a,hla,rfl,r⟩) (r' | ⟨a',hla',e,r'⟩)
   ·exact H.left _ _ _ r r'
   ·subst e;exact aux r hla' r'
   ·exact(aux r' hla r).symm
   ·obtain rfl:=σinj e;exact s2.left _ _ _ r r'
  right:=by
   intro b c d x y r r' hx' hy'
   rcases cls r hx' with ⟨a,x0,hla,rfl,r1,g1,_⟩|⟨r1,q1,g1⟩
   ·rcases cls r' hy' with ⟨a',y0,hla',rfl,r2,g2,_⟩|⟨r2,q2,g2⟩
    ·rw[s2.right _ _ _ _ _ r1 r2 g1 g2]
    ·obtain⟨z,h1,_⟩:=s2.blk _ _ _ r1 g1;rw[(F2 r2 q2 g2).1]at h1;cases h1
   ·rcases cls r' hy' with ⟨a',y0,hla',rfl,r2,g2,_⟩|⟨r2,q2,g2⟩
    ·obtain⟨z,h1,_⟩:=s2.blk _ _ _ r2 g2;rw[(F2 r1 q1 g1).1]at h1;cases h1
    ·exact H.right _ _ _ _ _ r1 r2 g1 g2
  dom:=by
   rintro b c (r|⟨a,hla,rfl,r⟩)
   ·rcases H.dom _ _ r with k|k
    ·left;rw[P3];omega
    ·right;exact k
   ·left
    exact σb hla }
theorem Qn{v x:V}{es more az:List V}{tok:Tok}(he:first++args++caps=x :: .sl es more tok::az)(hA:∀ m tok',jB P Γ g (x :: .sl es more tok'::az) m fun o m'=>o = .ret v∧m'=m)
  (h0:nb 0 x) (h1:nbs 0 es) (h2:nbs 0 more) (ha:nbs 0 az) (hv:nb 0 v) (hr:hth P Γ Kp s l K (hput t h d (some v))):tC P Γ Kp (.fn (.func g) first caps) args d s l K t h:=by
 intro R args' m' rl H;rw[he]at rl;obtain⟨y0,ys0,rfl,r0,rz⟩:=rl.cons_inv;obtain rfl:=D7 h0 r0;obtain⟨y,ys,rfl,r1,r2⟩:=rz.cons_inv;obtain rfl:=ou ha r2;obtain⟨es',mr,k',rfl,ra,rb,rc⟩:=r1.Cf;obtain rfl:=ou h1 ra;obtain rfl:=ou h2 rb;refine(hA m' k').mono ?_;rintro o m'' ⟨rfl,rfl⟩;exact⟨R,.ret v,h,R.le_refl,H,hv.up R,hr⟩
end
end
end Go.Av
