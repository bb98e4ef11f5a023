/- Calls whose callee leaves its blocks in another order: of the caller's some keep their names, the others are forgotten. No condition. -/
import Derived.Test.YtmglaebjmaomnaaGreatDoorTAvQ
open List renaming getElem?_inj→gm, length_append→aH, mem_of_getElem? → bI
open Option renaming map_eq_some_iff→aQ
set_option linter.unusedSimpArgs false
set_option linter.unusedVariables false
namespace Go.Av
section
variable {P:Program} {Γ:jG} {N:Nat} {R0:Ren}
theorem zaJ(hm:P.follows .mixedOrders=true){H:Nat→List (Nat×List Nat)×List Nat}{f:FuncId}{F:AFn}(hF:qO P H f=some F){gs:List Nat}(hok:F.body.okH gs=true)(hG:GOk Γ gs)
  {args0 args:List V} {h0:Hl} {m:Store} (ha:LR R0 args0 args) (hH:HH R0 h0 m) {B:Ex→HS→Prop} {Q:V→Hl→Prop} (hB:∀ e s,B e s→uU F.res Q e s)
  (h:qB P Γ (fun _ _=>False) N F.body B ⟨start F.ntmps args0,h0⟩) :
  jB P Γ f args m fun o m'=>∃ S v h' v',o = .ret v'∧LeN N R0 S∧HH S h' m'∧VR S v v' ∧ Q v h':=by
 refine jE hm hF ?_ ?_
 ·rintro v m b x hb ⟨S,v0,h',v',e,_⟩;cases e
 ·have hs:=Oe (R0:=R0) hG (Kp':=fun v m'=>∃ S v0 h' v',Out.pan v = .ret v'∧LeN N R0 S∧HH S h' m'∧VR S v0 v' ∧ Q v0 h') (fun v m ⟨S,v0,h',a1,a2,a3,a4⟩=>a4.elim) hok (Xt ha F.ntmps) hH (LeN.refl N R0) h;refine nC ?_ hs;rintro e s ⟨R,t,h,a1,a2,a3,a4⟩;have a4:=hB _ _ a4
  cases e with
  |exit id=>exact a4.elim
  |normal=>
   obtain⟨v,b1,b2⟩:=a4;obtain⟨v',c1,c2⟩:=Rk a2 a3 b1;exact⟨v',c1,s.m,fun _ _ q=>q,R,v,h,v',rfl,a1,a3,c2,b2⟩
  |ret=>
   obtain⟨v,b1,b2⟩:=a4;obtain⟨v',c1,c2⟩:=Rk a2 a3 b1;exact⟨v',c1,s.m,fun _ _ q=>q,R,v,h,v',rfl,a1,a3,c2,b2⟩
end
def As(N:Nat)(names:List Nat)(v2:V)(h2:Hl)(v:V)(h:Hl):Prop:=
 (∀ a,a<N→names[a]? = some a)∧names.Nodup∧VR (Nm names) v2 v∧h2.length=names.length∧∀ a b,names[a]? = some b→OB (Nm names) (lk h2 a) (lk h b)
def FN(P:Program)(Γ:jG)(g:FuncId)(args:List V)(hs:Hl)(N:Nat)(Q:V→Hl→Prop):Prop:=
 ∀ (R:Ren) (args':List V) (m':Store),(∀ a c,R a c→a<hs.length)→LR R args args'→HH R hs m'→jB P Γ g args' m' fun o m''=>∃ (S:Ren) (v:V) (h' : Hl) (v':V),o = .ret v'∧LeN N R S∧HH S h' m''∧VR S v v' ∧ Q v h'
section
variable {P:Program} {Γ:jG} {H:Nat→List (Nat×List Nat)×List Nat} {f:FuncId} {F:AFn} {gs:List Nat}
theorem Qr(hm:P.follows .mixedOrders=true)(hF:qO P H f=some F)(hok:F.body.okH gs=true)(hG:GOk Γ gs){args:List V}{hs:Hl}(N:Nat){Q:V→Hl→Prop}
  (h:qB P Γ (fun _ _=>False) N F.body (uU F.res fun v h=>∃ names v2 h2,As N names v2 h2 v h∧Q v2 h2) ⟨start F.ntmps args,hs⟩):FN P Γ f args hs N Q:=by
 intro R args' m' hd ha hH;refine(zaJ (P:=P) (Γ:=Γ) (R0:=R) (N:=N) hm hF hok hG ha hH (fun _ _ x=>x) h).mono ?_;rintro o m'' ⟨S,v,h',v',rfl,s1,s2,s3,names,v2,h2,⟨n1,n2,n3,n4,n5⟩,hq⟩;have hlt:∀ {a b:Nat},names[a]? = some b→a<names.length:=fun h=>(List.getElem?_eq_some_iff.1 h).1;have hcomp:∀ a b c,Nm names a b→S b c→(fun a c=>∃ b,names[a]? = some b∧S b c) a c:=fun a b c x y=>⟨b,x,y⟩
 have hlive:∀ {a b:Nat} {x:Blk},names[a]? = some b→lk h2 a=some x→∃ y,lk h' b=some y∧BR (Nm names) x y:=by
  intro a b x hab hx;have:=n5 a b hab;rw[hx]at this
  cases hy:lk h' b with
  |none=>rw[hy]at this;exact this.elim
  |some y=>rw[hy]at this;exact⟨y,rfl,this⟩
 refine⟨fun a c=>∃ b,names[a]? = some b∧S b c,v2,h2,v',rfl,fun a c ha r=>⟨a,n1 a ha,s1 a c ha r⟩,?_,n3.comp hcomp s3,hq⟩
 exact {
  blk:=by
   rintro a c x ⟨b,hab,r⟩ hx;obtain⟨y,hy,hxy⟩:=hlive hab hx;obtain⟨x',g1,g2⟩:=s2.blk _ _ _ r hy;exact⟨x',g1,hxy.comp hcomp g2⟩
  left:=by
   rintro a c d ⟨b,hab,r⟩ ⟨b',hab',r'⟩;rw[hab]at hab';cases hab';exact s2.left _ _ _ r r'
  right:=by
   rintro a c d x y ⟨b,hab,r⟩ ⟨b',hab',r'⟩ hx hy;obtain⟨z,g1,_⟩:=hlive hab hx;obtain⟨z',g2,_⟩:=hlive hab' hy;have:b=b':=s2.right _ _ _ _ _ r r' g1 g2;subst this;exact(gm (hlt hab) n2).1 (by rw[hab,hab'])
  dom:=by
   rintro a c ⟨b,hab,r⟩;left;rw[n4]
   exact hlt hab }
def hnone:Hl→List Nat→Hl
 |h,[]=>h
 |h,b::bs=>hnone (hset h b none) bs
theorem yP{h:Hl}:hnone h []=h:=(rfl)
theorem Gv{h:Hl}{b:Nat}{bs:List Nat}:hnone h (b::bs)=hnone (hset h b none) bs:=(rfl)
theorem Ql:∀ (bs:List Nat) (h:Hl),(hnone h bs).length=h.length
 |[],h=>rfl
 |b::bs,h=>by rw[hnone,Ql bs,nU]
theorem UI:∀ (bs:List Nat) {h:Hl} {c:Nat} {x:Blk},lk (hnone h bs) c=some x→c∉bs∧lk h c=some x
 |[],h,c,x,e=>⟨by simp,e⟩
 |b::bs,h,c,x,e=>by
  obtain⟨h1,h2⟩:=UI bs e;rw[wS]at h2
  split at h2
  ·cases h2
  ·rename_i k;refine⟨?_,h2⟩;simp only[List.mem_cons,not_or];refine⟨?_,h1⟩;rintro rfl;exact k ⟨rfl,Eb h2⟩
def znr(N:Nat)(h:Hl)(v:V):Prop:=h.length≤90000∧nb h.length v∧nbH h.length h∧N≤h.length
section
variable {Kp:V→Hl→Prop} {l:List Item} {K:HS→Prop} {t:List V} {h:Hl} {d:Option Tmp} {s:List (Tmp×Option (Tmp×Bool)×AOp)} {g:FuncId} {first args caps:List V}
open Classical in
theorem EZ{args0:List V}{hs:Hl}{Q:V→Hl→Prop}(bs cs:List Nat)(hA:FN P Γ g args0 hs bs.length Q)(he:first++args++caps=tq (nmf (bs++cs) h.length) args0)(ha:nbs hs.length args0)(hx:nbH hs.length hs)(hl:bs.length+cs.length=hs.length)(hn:(bs++cs).Nodup)(hb:∀ b∈bs++cs,b<h.length)
  (hc:Am (nmf (bs++cs) h.length) h hs (bs++cs)) (hh:h.length≤900000) (hq:∀ v h',Q v h'→znr bs.length h' v∧hth P Γ Kp s l K (hput t (vP (nmf bs h.length) (hnone h cs) bs h') d (some (ren (nmf bs h.length) v)))) :
  tC P Γ Kp (.fn (.func g) first caps) args d s l K t h:=by
 intro R args' m' rl H;rw[he]at rl;have hlen:(bs++cs).length=hs.length:=by rw[aH];exact hl
 have hbn:bs.Nodup:=(List.nodup_append.1 hn).1;have hdis:∀ {b:Nat},b∈bs→b∈cs→False:=fun h1 h2=>(List.nodup_append.1 hn).2.2 _ h1 _ h2 rfl
 have hτσ:∀ {a:Nat},a<bs.length→nmf bs h.length a=nmf (bs++cs) h.length a:=by
  intro a hla;have e1:=ET (n:=h.length) (bs:=bs) hla;have e2:=ET (n:=h.length) (bs:=bs++cs) (a:=a) (by rw[aH];omega);rw[List.getElem?_append_left hla,e1]at e2;exact Option.some.inj e2
 generalize hσ:nmf (bs++cs) h.length=σ at *;generalize hτ:nmf bs h.length=τ at *;have σlt:∀ {a:Nat},a<hs.length→(bs++cs)[a]? = some (σ a):=fun l=>by rw[←hσ];exact ET (by omega)
 have σmem:∀ {a:Nat},a<hs.length→σ a∈bs++cs:=fun l=>bI (σlt l)
 have σinj:∀ {a b:Nat},a<hs.length→b<hs.length→σ a=σ b→a=b:=by
  intro a b h1 h2 e;have e1:=σlt h1;rw[e,← σlt h2]at e1;exact(gm (by omega) hn).1 e1
 have τlt:∀ {a:Nat},a<bs.length→bs[a]? = some (τ a):=fun l=>by rw[←hτ];exact ET l
 have τge:∀ {a:Nat},bs.length≤a→τ a=h.length+(a-bs.length):=fun l=>by rw[←hτ,V5 l]
 have τmem:∀ {a:Nat},a<bs.length→τ a∈bs:=fun l=>bI (τlt l);have hbl:∀ {b:Nat},b∈bs→b<h.length:=fun q=>hb _ (List.mem_append_left _ q)
 have τinj:∀ {a b:Nat},τ a=τ b→a=b:=by
  intro a b e
  by_cases h1:a<bs.length
  ·by_cases h2:b<bs.length
   ·have e1:=τlt h1;rw[e,← τlt h2]at e1;exact(gm h1 hbn).1 e1
   ·have:=hbl (τmem h1);rw[e,τge (by omega)]at this;omega
  ·by_cases h2:b<bs.length
   ·have:=hbl (τmem h2);rw[←e,τge (by omega)]at this;omega
   ·rw[τge (by omega),τge (by omega)]at e;omega
 let R1:Ren:=fun a c=>a<hs.length∧R (σ a) c
 have hLR:LR R1 args0 args':=Ji (fun a c l r=>⟨l,r⟩) ha rl
 let Lv:Nat→Prop:=fun c=>∃ a x,R1 a c∧lk hs a=some x
 let m1:Store:=fun c=>if Lv c then m' c else none
 let m2:Store:=fun c=>if Lv c then none else m' c
 have hor:m1.or m2=m':=by
  funext c;show(match m1 c with|some x=>some x|none=>m2 c)=m' c
  by_cases e:Lv c
  ·simp only[m1,m2,if_pos e];cases m' c<;>rfl
  ·simp only[m1,m2,if_neg e]
 have hD:mQ m1 m2:=by
  intro c
  by_cases e:Lv c
  ·exact .inr (if_pos e)
  ·exact .inl (if_neg e)
 have hcell:∀ {a:Nat} {x:Blk},a<hs.length→lk hs a=some x→lk h (σ a)=some (xI σ x):=fun l e=>IM hc e (σlt l)
 have hH : HH R1 hs m1 := {
  blk:=by
   rintro a c x ⟨hla,r⟩ hx';obtain⟨y,h1,h2⟩:=H.blk _ _ _ r (hcell hla hx');exact⟨y,by show(if Lv c then m' c else none)=_;rw[if_pos ⟨a,x,⟨hla,r⟩,hx'⟩];exact h1,PO (fun a c l r=>⟨l,r⟩) (JA hx hx') h2⟩
  left:=fun a c c' r r'=>H.left _ _ _ r.2 r'.2
  right:=fun a b d x y r r' h1 h2=>σinj r.1 r'.1 (H.right _ _ _ _ _ r.2 r'.2 (hcell r.1 h1) (hcell r'.1 h2))
  dom:=fun a c r=>.inl r.1 }
 have h1:=(hA R1 args' m1 (fun a c r=>r.1) hLR hH).frame hD;rw[hor]at h1;refine h1.mono ?_;rintro o m'' ⟨m1',rfl,hDj,S,v,h',v',rfl,s1,s2,s3,s4⟩;obtain⟨⟨f1,f2,f3,f4⟩,hr⟩:=hq v h' s4;have h0l:=Ql cs h
 have P1:∀ a,lk (vP τ (hnone h cs) bs h') (τ a)=(lk h' a).map (xI τ):=fun a=>by
  have:=Ru τ bs (hnone h cs) h' a hbn (fun b q=>by rw[h0l];exact hbl q) f4;rw[h0l,hτ]at this;exact this
 have P2:∀ {b:Nat},b∉bs→b<h.length→lk (vP τ (hnone h cs) bs h') b=lk (hnone h cs) b:=fun q l=>H7 τ bs (hnone h cs) h' _ q (by rw[h0l];exact l);have P3:=Nu τ bs (hnone h cs) h' f4;rw[h0l]at P3
 have τb:∀ {a:Nat},a<h'.length→τ a<(vP τ (hnone h cs) bs h').length:=by
  intro a l;rw[P3]
  by_cases q:a<bs.length
  ·have:=hbl (τmem q);omega
  ·rw[τge (by omega)];omega
 let S2:Ren:=fun b c=>R b c∨∃ a,a<h'.length∧b=τ a∧S a c
 have F1:∀ {a c:Nat},a<bs.length→R (τ a) c→S a c:=fun {a c} l r=>s1 _ _ l ⟨by omega,by rw[←hτσ l];exact r⟩
 have F2:∀ {b c:Nat} {x:Blk},R b c→b∉bs++cs→lk h b=some x→m1' c=none∧m2 c=m' c:=by
  intro b c x r q e
  have hnl:¬ Lv c:=by
   rintro⟨a,x',⟨hla,r'⟩,hx'⟩;have:=H.right _ _ _ _ _ r r' e (hcell hla hx');exact q (this▸σmem hla)
  have e2:m2 c=m' c:=if_neg hnl;obtain⟨y,h1,_⟩:=H.blk _ _ _ r e
  rcases hDj c with k|k
  ·exact⟨k,e2⟩
  ·rw[e2,h1]at k;cases k
 have cls:∀ {b d:Nat} {x:Blk},S2 b d→lk (vP τ (hnone h cs) bs h') b=some x→(∃ a x0,a<h'.length∧b=τ a∧S a d∧lk h' a=some x0∧x=xI τ x0)∨(R b d∧b∉bs++cs∧lk h b=some x):=by
  rintro b d x (r|⟨a,hla,rfl,r⟩) e
  ·have hlt:b<h.length:=by
    have:=Eb e
    rcases H.dom _ _ r with q|q
    ·exact q
    ·rw[P3]at this;omega
   by_cases q:b∈bs
   ·obtain⟨a,hla,hea⟩:=List.getElem_of_mem q;have e1:=τlt hla;rw[List.getElem?_eq_getElem hla,hea]at e1;cases e1;rw[P1,aQ]at e;obtain⟨x0,g1,rfl⟩:=e;exact .inl ⟨a,x0,by omega,rfl,F1 hla r,g1,rfl⟩
   ·rw[P2 q hlt]at e;obtain⟨q1,q2⟩:=UI cs e;exact .inr ⟨r,by simp only[List.mem_append,not_or];exact⟨q,q1⟩,q2⟩
  ·rw[P1,aQ]at e;obtain⟨x0,g1,rfl⟩:=e;exact .inl ⟨a,x0,hla,rfl,r,g1,rfl⟩
 refine⟨S2,.ret (ren τ v),vP τ (hnone h cs) bs h',fun a c r=>.inl r,?_,XA (fun a c l r=>.inr ⟨a,l,rfl,r⟩) f2 s3,hr⟩
 exact {
  blk:=by
   intro b c x r e
   rcases cls r e with ⟨a,x0,hla,rfl,r',g1,rfl⟩|⟨r',q,g⟩
   ·obtain⟨y,h1,h2⟩:=s2.blk _ _ _ r' g1;exact⟨y,oC h1,TZ (fun a c l r=>.inr ⟨a,l,rfl,r⟩) (JA f3 g1) h2⟩
   ·obtain⟨y,h1,h2⟩:=H.blk _ _ _ r' g;obtain⟨g2,g3⟩:=F2 r' q g;exact⟨y,by simp only[Store.or,g2,g3];exact h1,h2.mono fun _ _ k=>.inl k⟩
  left:=by
   have aux:∀ {a c d:Nat},R (τ a) c→a<h'.length→S a d→c=d:=by
    intro a c d r l r'
    by_cases q:a<bs.length
    ·exact s2.left _ _ _ (F1 q r) r'
    ·have e:=τge (a:=a) (by omega)
     rcases H.dom _ _ r with k|k<;>omega
   rintro b c d (r|⟨a,hla,rfl,r⟩) (r' | ⟨a',hla',e,r'⟩)
   ·exact H.left _ _ _ r r'
   ·subst e;exact aux r hla' r'
   ·exact(aux r' hla r).symm
   ·obtain rfl:=τinj e;exact s2.left _ _ _ r r'
  right:=by
   intro b c d x y r r' hx' hy'
   rcases cls r hx' with ⟨a,x0,hla,rfl,r1,g1,_⟩|⟨r1,q1,g1⟩
   ·rcases cls r' hy' with ⟨a',y0,hla',rfl,r2,g2,_⟩|⟨r2,q2,g2⟩
    ·rw[s2.right _ _ _ _ _ r1 r2 g1 g2]
    ·obtain⟨z,h1,_⟩:=s2.blk _ _ _ r1 g1;rw[(F2 r2 q2 g2).1]at h1;cases h1
   ·rcases cls r' hy' with ⟨a',y0,hla',rfl,r2,g2,_⟩|⟨r2,q2,g2⟩
    ·obtain⟨z,h1,_⟩:=s2.blk _ _ _ r2 g2;rw[(F2 r1 q1 g1).1]at h1;cases h1
    ·exact H.right _ _ _ _ _ r1 r2 g1 g2
  dom:=by
   rintro b c (r|⟨a,hla,rfl,r⟩)
   ·rcases H.dom _ _ r with k|k
    ·left;rw[P3];omega
    ·right;exact k
   ·left
    exact τb hla }
end
end
end Go.Av
