/- Going through a code over blocks in turn, by rewriting; how contracts are used there, and made. No condition. -/
import Derived.Test.YtmglaebjmaomnaaGreatDoorTAvW
open And renaming intro→ak
open List renaming range→aJ
set_option linter.unusedSimpArgs false
set_option linter.unusedVariables false
namespace Go.Av
section
variable {P:Program} {Γ:jG} {Kp:V→Hl→Prop} {N:Nat} {l:List Item} {K:HS→Prop} {t:List V} {h:Hl} {d:Option Tmp} {s:List (Tmp×Option (Tmp×Bool)×AOp)}
def hO(P:Program)(Γ:jG)(Kp:V→Hl→Prop)(l:List Item)(K:HS→Prop):Option HS→Prop
 |some s=>hrunA P Γ Kp l K s
 |none=>False
def hput(t:List V)(h:Hl)(d:Option Tmp):Option V→Option HS
 |some v=>some ⟨KO t d v,h⟩
 |none=>none
theorem Qi{d:Nat}{v:V}:hput t h (some d) (some v)=some ⟨xQ t d v,h⟩:=(rfl)
theorem Qj{v:V}:hput t h none (some v)=some ⟨t,h⟩:=(rfl)
def hth(P:Program)(Γ:jG)(Kp:V→Hl→Prop)(s:List (Tmp×Option (Tmp×Bool)×AOp))(l:List Item)(K:HS→Prop):Option HS→Prop
 |some st=>(∀ y∈s,hstill P Γ y st)∧hrunA P Γ Kp l K st
 |none=>False
theorem Ya{o:Option HS}:hth P Γ Kp [] l K o=hO P Γ Kp l K o:=by
 cases o with
 |none=>rfl
 |some st=>simp[hth,hO]
theorem UH{y:Tmp×Option (Tmp×Bool)×AOp}{st:HS}:hth P Γ Kp (y::s) l K (some st)=(hstill P Γ y st∧hth P Γ Kp s l K (some st)):=by
 simp only[hth,List.forall_mem_cons,and_assoc]
theorem Ko{e:Tmp}{ao:AOp}:hstill P Γ (e,none,ao) ⟨t,h⟩=(jJ P (ev Γ t) (lk h) ao=some (jT t e)):=(rfl)
def gH(P:Program)(Γ:jG)(v:V)(want:Bool)(ao:AOp)(d:Option Tmp)(t:List V)(h:Hl):Option HS:=
 if isBool want v=true then hput t h d (jJ P (ev Γ t) (lk h) ao)else hput t h d (some un)
theorem zhf{ao:AOp}:gH P Γ (.val (.bool true)) true ao d t h=hput t h d (jJ P (ev Γ t) (lk h) ao):=(rfl)
theorem zhi{ao:AOp}:gH P Γ (.val (.bool false)) false ao d t h=hput t h d (jJ P (ev Γ t) (lk h) ao):=(rfl)
theorem zhg{ao:AOp}:gH P Γ (.val (.bool true)) false ao d t h=hput t h d (some un):=(rfl)
theorem zhh{ao:AOp}:gH P Γ (.val (.bool false)) true ao d t h=hput t h d (some un):=(rfl)
theorem zhe{w:Bool}{ao:AOp}:gH P Γ (.val undef) w ao d t h=hput t h d (some un):=by cases w<;>rfl
theorem zcE{st:HS}:hO P Γ Kp [] K (some st)=K st:=(rfl)
theorem N9{ρ:Operand→V}{K:V→Hl→Prop}{ao:AOp}(hq:lL ao=true):Bd P Γ ρ h K Kp ao=∃ v,jJ P ρ (lk h) ao=some v∧K v h:=by
 cases ao<;>first|rfl|(simp[lL,kindOf]at hq)
theorem zhd{ao:AOp}:(∃ v,jJ P (ev Γ t) (lk h) ao=some v∧hrunA P Γ Kp l K ⟨KO t d v,h⟩)=hO P Γ Kp l K (hput t h d (jJ P (ev Γ t) (lk h) ao)):=by
 cases e:jJ P (ev Γ t) (lk h) ao with
 |none=>simp[hput,hO]
 |some v=>simp[hput,hO]
theorem zkR{ao:AOp}(hq:lL ao=true):hO P Γ Kp (⟨d,none,ao,[]⟩::l) K (some ⟨t,h⟩)=hO P Γ Kp l K (hput t h d (jJ P (ev Γ t) (lk h) ao)):=by
 rw[←zhd];simp only[hO,hrunA,kP,if_true,N9 hq];simp
theorem zkS{ao:AOp}{j:Nat}{w:Bool}(hq:lL ao=true):hO P Γ Kp (⟨d,some (j,w),ao,[]⟩::l) K (some ⟨t,h⟩)=hO P Γ Kp l K (gH P Γ (jT t j) w ao d t h):=by
 simp only[hO,hrunA,kP,nz,N9 hq];unfold gH
 by_cases e:isBool w (jT t j)=true
 ·rw[if_pos e,if_pos e];show _=hO P Γ Kp l K _;rw[←zhd];simp
 ·rw[if_neg e,if_neg e];simp[hput]
def gHE(P:Program)(Γ:jG)(Kp:V→Hl→Prop)(v:V)(w:Bool)(ao:AOp)(d:Option Tmp)(s:List (Tmp×Option (Tmp×Bool)×AOp))(l:List Item)(K:HS→Prop)(t:List V)(h:Hl):Prop:=
 if isBool w v=true then hO P Γ Kp (⟨d,none,ao,s⟩::l) K (some ⟨t,h⟩)else hth P Γ Kp s l K (hput t h d (some un))
theorem zcM{ao:AOp}:gHE P Γ Kp (.val (.bool true)) true ao d s l K t h=hO P Γ Kp (⟨d,none,ao,s⟩::l) K (some ⟨t,h⟩):=(rfl)
theorem zcP{ao:AOp}:gHE P Γ Kp (.val (.bool false)) false ao d s l K t h=hO P Γ Kp (⟨d,none,ao,s⟩::l) K (some ⟨t,h⟩):=(rfl)
theorem zcN{ao:AOp}:gHE P Γ Kp (.val (.bool true)) false ao d s l K t h=hth P Γ Kp s l K (hput t h d (some un)):=(rfl)
theorem zcO{ao:AOp}:gHE P Γ Kp (.val (.bool false)) true ao d s l K t h=hth P Γ Kp s l K (hput t h d (some un)):=(rfl)
theorem zcL{w:Bool}{ao:AOp}:gHE P Γ Kp (.val undef) w ao d s l K t h=hth P Γ Kp s l K (hput t h d (some un)):=by cases w<;>rfl
theorem zhc{ao:AOp}{j:Nat}{w:Bool}(hq:SH ao=true):hO P Γ Kp (⟨d,some (j,w),ao,s⟩::l) K (some ⟨t,h⟩)=gHE P Γ Kp (jT t j) w ao d s l K t h:=by
 unfold gHE;simp only[hO,hrunA,kP,nz];rfl
theorem Sr{ao:AOp}:hO P Γ Kp (⟨d,none,ao,s⟩::l) K (some ⟨t,h⟩)=Bd P Γ (ev Γ t) h (fun v h'=>hth P Γ Kp s l K (some ⟨KO t d v,h'⟩)) Kp ao:=(rfl)
def tC(P:Program)(Γ:jG)(Kp:V→Hl→Prop)(f:V)(args:List V)(d:Option Tmp)(s:List (Tmp×Option (Tmp×Bool)×AOp))(l:List Item)(K:HS→Prop)(t:List V)(h:Hl):Prop:=match f with
 | .fn (.func g) first caps=>OQ P Γ g (first++args++caps) h fun o h'=>match o with
   | .ret v=>hth P Γ Kp s l K (hput t h' d (some v))
   | .pan v=>Kp v h'
 |_=>False
theorem Yg{f:Operand}{a:List Operand}:hO P Γ Kp (⟨d,none,.call f a,s⟩::l) K (some ⟨t,h⟩)=tC P Γ Kp (ev Γ t f) (a.map (ev Γ t)) d s l K t h:=(rfl)
section
variable {g:FuncId} {first args caps:List V}
theorem jC{v:V}(hA:∀ m,jB P Γ g (first++args++caps) m fun o m'=>o = .ret v∧m'=m)(ha:nbs 0 (first++args++caps))(hv:nb 0 v)(hr:hth P Γ Kp s l K (hput t h d (some v))) :
  tC P Γ Kp (.fn (.func g) first caps) args d s l K t h:=by
 intro R args' m' rl H;obtain rfl:=ou ha rl;refine(hA m').mono ?_;rintro o m'' ⟨rfl,rfl⟩;exact⟨R,.ret v,h,R.le_refl,H,hv.up R,hr⟩
theorem Ob{Qv:V→Prop}(hA:∀ m,jB P Γ g (first++args++caps) m fun o m'=>(∃ v,o = .ret v∧Qv v)∧m'=m)(ha:nbs 0 (first++args++caps))(hv:∀ v,Qv v→nb 0 v)(hr:∀ v,Qv v→hth P Γ Kp s l K (hput t h d (some v))) :
  tC P Γ Kp (.fn (.func g) first caps) args d s l K t h:=by
 intro R args' m' rl H;obtain rfl:=ou ha rl;refine(hA m').mono ?_;rintro o m'' ⟨⟨v,rfl,hq⟩,rfl⟩;exact⟨R,.ret v,h,R.le_refl,H,(hv v hq).up R,hr v hq⟩
theorem jO{b o:Nat}{az:List V}{X Y:Blk}{v:V}(hb:lk h b=some X)(he:first++args++caps = .ptr b o::az)(hA:∀ m b',m b'=some X→jB P Γ g (.ptr b' o::az) m fun o m'=>o = .ret v∧m'=m.set b' Y)
  (hX:nbB 0 X) (hY:nbB 0 Y) (ha:nbs 0 az) (hv:nb 0 v) (hr:hth P Γ Kp s l K (hput t (hset h b (some Y)) d (some v))) :
  tC P Γ Kp (.fn (.func g) first caps) args d s l K t h:=by
 intro R args' m' rl H;rw[he]at rl;obtain⟨y,ys,rfl,r1,r2⟩:=rl.cons_inv;obtain rfl:=ou ha r2
 cases r1 with
 |ptr _ r0=>
  obtain⟨x',h2,h3⟩:=H.blk _ _ _ r0 hb;obtain rfl:=Gp hX h3;refine(hA m' _ h2).mono ?_;rintro o m'' ⟨rfl,rfl⟩;exact⟨R,.ret v,_,R.le_refl,H.put r0 hb (hY.up R),hv.up R,hr⟩
theorem lZ{b o:Nat}{az:List V}{X:Blk}{Q:V→Blk→Prop}(hb:lk h b=some X)(he:first++args++caps = .ptr b o::az)(hA:∀ m b',m b'=some X→jB P Γ g (.ptr b' o::az) m fun o m'=>∃ v Y,o = .ret v∧m'=m.set b' Y∧Q v Y)
  (hX:nbB 0 X) (ha:nbs 0 az) (hQ:∀ v Y,Q v Y→nb 0 v∧nbB 0 Y) (hr:∀ v Y,Q v Y→hth P Γ Kp s l K (hput t (hset h b (some Y)) d (some v))) :
  tC P Γ Kp (.fn (.func g) first caps) args d s l K t h:=by
 intro R args' m' rl H;rw[he]at rl;obtain⟨y,ys,rfl,r1,r2⟩:=rl.cons_inv;obtain rfl:=ou ha r2
 cases r1 with
 |ptr _ r0=>
  obtain⟨x',h2,h3⟩:=H.blk _ _ _ r0 hb;obtain rfl:=Gp hX h3;refine(hA m' _ h2).mono ?_;rintro o m'' ⟨v,Y,rfl,rfl,hq⟩;exact⟨R,.ret v,_,R.le_refl,H.put r0 hb ((hQ v Y hq).2.up R),(hQ v Y hq).1.up R,hr v Y hq⟩
theorem kw{b o:Nat}{az:List V}{X:Blk}{v:V}(hb:lk h b=some X)(he:first++args++caps = .ptr b o::az)(hA:∀ m b',m b'=some X→jB P Γ g (.ptr b' o::az) m fun o m'=>o = .ret v∧m'=m)
  (hX:nbB 0 X) (ha:nbs 0 az) (hv:nb 0 v) (hr:hth P Γ Kp s l K (hput t h d (some v))) :
  tC P Γ Kp (.fn (.func g) first caps) args d s l K t h:=by
 intro R args' m' rl H;rw[he]at rl;obtain⟨y,ys,rfl,r1,r2⟩:=rl.cons_inv;obtain rfl:=ou ha r2
 cases r1 with
 |ptr _ r0=>
  obtain⟨x',h2,h3⟩:=H.blk _ _ _ r0 hb;obtain rfl:=Gp hX h3;refine(hA m' _ h2).mono ?_;rintro o m'' ⟨rfl,rfl⟩;exact⟨R,.ret v,_,R.le_refl,H,hv.up R,hr⟩
theorem Gw{e:TypeId}{size:Nat}{az es2:List V}(hl:h.length<1000000)(he:first++args++caps = .sl [] [] .full::az)(hne:es2≠[])
  (hA:∀ m,jB P Γ g (.sl [] [] .full::az) m fun o m2=>∃ v2,o = .ret v2∧Buf e size m m2 v2 es2) (ha:nbs 0 az) (h2:nbs 0 es2)
  (hr:∀ k,hth P Γ Kp s l K (hput t (h++[some (.tip e k)]) d (some (.sl es2 [] (.tip h.length k))))):tC P Γ Kp (.fn (.func g) first caps) args d s l K t h:=by
 intro R args' m' rl H;rw[he]at rl;obtain⟨y,ys,rfl,r1,r2⟩:=rl.cons_inv;obtain rfl:=ou ha r2;have:y = .sl [] [] .full:=D7 (v:=.sl [] [] .full) (.sl .nil .nil trivial) r1;subst this;refine(hA m').mono ?_;rintro o m2 ⟨v2,rfl,hb,(⟨q,_⟩|⟨_,b,k,q1,rfl,rfl⟩)⟩
 ·exact absurd q hne
 ·exact⟨R.add h.length b,.ret _,_,R.nD _ _,H.push (x:=.tip e k) (x':=.tip e k) q1 hl ⟨rfl,rfl⟩,VR.sl (k:=.tip h.length k) (k':=.tip b k) (h2.up _) .nil ⟨.inr ⟨rfl,rfl⟩,rfl⟩,hr k⟩
theorem qA{e:TypeId}{size j k:Nat}{az es es2:List V}(hl:h.length<1000000)(he:first++args++caps = .sl es [] (.tip j k)::az)(hj:lk h j=some (.tip e k))(hz:oq size es=true)(hne0:es≠[])(hne:es2≠[])
  (hA:∀ m m' v,Buf e size m m' v es→jB P Γ g (v::az) m' fun o m2=>∃ v2,o = .ret v2∧Buf e size m m2 v2 es2) (h1:nbs 0 es) (ha:nbs 0 az) (h2:nbs 0 es2)
  (hr:∀ k,hth P Γ Kp s l K (hput t (hset h j none++[some (.tip e k)]) d (some (.sl es2 [] (.tip h.length k))))):tC P Γ Kp (.fn (.func g) first caps) args d s l K t h:=by
 intro R args' m' rl H;rw[he]at rl;obtain⟨y,ys,rfl,r1,r2⟩:=rl.cons_inv;obtain rfl:=ou ha r2;obtain⟨es',mr,k',rfl,ra,rb,rc⟩:=r1.Cf;obtain rfl:=ou h1 ra;obtain rfl:=rb.kN
 cases k' with
 |tip b k' =>
  obtain⟨r0,rfl⟩:=rc;obtain⟨x',g1,g2⟩:=H.blk _ _ _ r0 hj
  cases x' with
  |tip e' k' =>
   obtain⟨rfl,rfl⟩:=g2
   have hB:Buf e size (fun c=>if c=b then none else m' c) m' (.sl es' [] (.tip b k)) es':=by
    refine⟨hz,.inr ⟨hne0,b,k,by simp,?_,rfl⟩⟩;funext c
    by_cases q:c=b
    ·subst q;rw[Store.jv];exact g1
    ·rw[Store.jw _ _ q,if_neg q]
   refine(hA _ m' _ hB).mono ?_;rintro o m2 ⟨v2,rfl,hb,(⟨q,_⟩|⟨_,b2,k2,q1,rfl,rfl⟩)⟩
   ·exact absurd q hne
   ·have H0:HH R (hset h j none) (fun c=>if c=b then none else m' c):=by
     refine(H.drop j).to ?_;intro c c' x hc hx;rw[wS]at hx
     split at hx
     ·cases hx
     ·rename_i hne';rw[if_neg];rintro rfl;exact hne' ⟨H.right _ _ _ _ _ hc r0 hx hj,Eb hj⟩
    have hl':(hset h j none).length<1000000:=by rw[nU];exact hl
    have H1:=H0.push q1 hl' (x:=.tip e k2) (x':=.tip e k2) ⟨rfl,rfl⟩;rw[nU]at H1;exact⟨R.add h.length b2,.ret _,_,R.nD _ _,H1,VR.sl (k:=.tip h.length k2) (k':=.tip b2 k2) (h2.up _) .nil ⟨.inr ⟨rfl,rfl⟩,rfl⟩,hr k2⟩
  |_=>exact g2.elim
 |_=>exact rc.elim
end
def Lr(size o:Nat)(x:List V)(b:Nat)(d:Option Tmp)(t:List V)(h:Hl):Option Blk→Option HS
 |some (.var T cs)=>if x.length=size∧o+size≤cs.length∧(x.all oW)=true then hput t (hset h b (some (.var T (Ag cs o x)))) d (some un)else none
 |_=>none
def Sj(size:Nat)(a:V)(x:List V)(d:Option Tmp)(t:List V)(h:Hl):Option HS:=match a with
 | .ptr b o=>Lr size o x b d t h (lk h b)
 |_=>none
theorem UK{n:Nat}{a x:Operand}:hO P Γ Kp (⟨d,none,.store n a x,s⟩::l) K (some ⟨t,h⟩)=hth P Γ Kp s l K (Sj n (ev Γ t a) (ev Γ t x).cells d t h):=by
 rw[Sr];simp only[Bd];unfold Sj;cases ev Γ t a<;>try rfl
 rename_i b o;simp only;unfold Lr
 cases lk h b with
 |none=>rfl
 |some y=>
  cases y<;>try rfl
  rename_i T cs;simp only
  by_cases e:(ev Γ t x).cells.length=n∧o+n≤cs.length∧(ev Γ t x).cells.all oW=true
  ·rw[if_pos e];simp only[e.1,e.2.1,e.2.2,true_and];rfl
  ·rw[if_neg e];refine propext ⟨fun q=>absurd ⟨q.1,q.2.1,q.2.2.1⟩ e,fun q=>q.elim⟩
theorem J8{n b o:Nat}{x:List V}:Sj n (.ptr b o) x d t h=Lr n o x b d t h (lk h b):=(rfl)
theorem J9{n b o:Nat}{T:TypeId}{x cs:List V}:Lr n o x b d t h (some (.var T cs))=if x.length=n∧o+n≤cs.length∧(x.all oW)=true then hput t (hset h b (some (.var T (Ag cs o x)))) d (some un)else none:=(rfl)
theorem UL{T:TypeId}{c:List V}:hO P Γ Kp (⟨d,none,.alloc T c,s⟩::l) K (some ⟨t,h⟩)=(h.length<1000000∧hth P Γ Kp s l K (hput t (h++[some (.var T c)]) d (some (.ptr h.length 0)))):=(rfl)
theorem zcF{T:TypeId}{x:Operand}:hO P Γ Kp (⟨d,none,.box T x,s⟩::l) K (some ⟨t,h⟩)=(h.length<1000000∧hth P Γ Kp s l K (hput t (h++[some (.var T (ev Γ t x).cells)]) d (some (.ptr h.length 0)))):=(rfl)
def zg7(P:Program)(Γ:jG)(Kp:V→Hl→Prop)(e:TypeId)(x:V)(d:Option Tmp)(s:List (Tmp×Option (Tmp×Bool)×AOp))(l:List Item)(K:HS→Prop)(t:List V)(h:Hl):Prop:=match x with
 | .val (.string z)=>h.length<1000000∧hth P Γ Kp s l K (hput t (h++[some (.tip e 0)]) d (some (.sl (bytesV z) [] (.tip h.length 0))))
 |_=>False
theorem zcC{e:TypeId}{x:Operand}:hO P Γ Kp (⟨d,none,.s2b e x,s⟩::l) K (some ⟨t,h⟩)=zg7 P Γ Kp e (ev Γ t x) d s l K t h:=by
 rw[Sr];rfl
def zcz(P:Program)(Γ:jG)(Kp:V→Hl→Prop)(x:V)(d:Option Tmp)(s:List (Tmp×Option (Tmp×Bool)×AOp))(l:List Item)(K:HS→Prop)(t:List V)(h:Hl):Prop:=match x with
 | .sl es more .own=>hth P Γ Kp s l K (hput t h d (some (.sl es more .own)))
 |_=>False
theorem Yf{x:Operand}:hO P Γ Kp (⟨d,none,.mark x,s⟩::l) K (some ⟨t,h⟩)=zcz P Γ Kp (ev Γ t x) d s l K t h:=by
 rw[Sr];rfl
theorem Qm{es more:List V}:zcz P Γ Kp (.sl es more .own) d s l K t h=hth P Γ Kp s l K (hput t h d (some (.sl es more .own))):=(rfl)
theorem zaw{z:List UInt8}:bytesV ⟨z.toArray⟩=z.map by8:=by simp[bytesV,by8]
theorem Yb{e:TypeId}{z:List UInt8}:zg7 P Γ Kp e (bs z) d s l K t h=(h.length<1000000∧hth P Γ Kp s l K (hput t (h++[some (.tip e 0)]) d (some (.sl (z.map by8) [] (.tip h.length 0))))):=by
 rw[←zaw];rfl
def sV(P:Program)(Γ:jG)(Kp:V→Hl→Prop)(e:TypeId)(bytes size:Nat)(z x:V)(d:Option Tmp)(s:List (Tmp×Option (Tmp×Bool)×AOp))(l:List Item)(K:HS→Prop)(t:List V)(h:Hl):Prop:=
 Bd P Γ (fun o=>match o with | .tmp 0=>z|_=>x) h (fun v h'=>hth P Γ Kp s l K (some ⟨KO t d v,h'⟩)) Kp (.app e bytes size (.tmp 0) (.tmp 1))
theorem zcG{e:TypeId}{bytes size:Nat}{z x:Operand}:hO P Γ Kp (⟨d,none,.app e bytes size z x,s⟩::l) K (some ⟨t,h⟩)=sV P Γ Kp e bytes size (ev Γ t z) (ev Γ t x) d s l K t h:=(rfl)
theorem wG{e:TypeId}{bytes size:Nat}{es ys:List V}{x:V}(hx:extra (lk h) size x=some ys)(hne:ys≠[])(hl:h.length<1000000)(h1:oq size es=true)(h2:tH size ys=true)(h3:(es.length+ys.length)*bytes≤140737488355328)
  (hr:hth P Γ Kp s l K (hput t (h++[some (.tip e 0)]) d (some (.sl (es++ys) [] (.tip h.length 0))))):sV P Γ Kp e bytes size (.sl es [] .full) x d s l K t h:=by
 unfold sV;simp only[Bd,hx];exact⟨fun q=>absurd q hne,fun _=>⟨h1,h2,.inl h3,trivial,hl,hr⟩⟩
theorem Qp{e:TypeId}{bytes size j k:Nat}{es ys:List V}{x:V}(hx:extra (lk h) size x=some ys)(hne:ys≠[])(h0:es≠[])(hj:lk h j=some (.tip e k))(h1:oq size es=true)(h2:tH size ys=true)(h3:Na (es.length+ys.length) bytes)
  (hr:hth P Γ Kp s l K (hput t (hset h j (some (.tip e (k+1)))) d (some (.sl (es++ys) [] (.tip j (k+1)))))):sV P Γ Kp e bytes size (.sl es [] (.tip j k)) x d s l K t h:=by
 unfold sV;simp only[Bd,hx];exact⟨fun q=>absurd q hne,fun _=>⟨h1,h2,h3,trivial,h0,hj,hr⟩⟩
theorem zD{e:TypeId}{bytes size j k:Nat}{es ys:List V}{x:V}(hx:extra (lk h) size x=some ys)(hne:ys≠[])(h0:es≠[])(hj:lk h j=some (.tip e k))(h1:oq size es=true)(h2:tH size ys=true)(h3:(es.length+ys.length)*bytes≤140737488355328)
  (hr:hth P Γ Kp s l K (hput t (hset h j (some (.tip e (k+1)))) d (some (.sl (es++ys) [] (.tip j (k+1)))))):sV P Γ Kp e bytes size (.sl es [] (.tip j k)) x d s l K t h:=
 Qp hx hne h0 hj h1 h2 (.inl h3) hr
theorem yQ{e:TypeId}{bytes size:Nat}{es more:List V}{tok:Tok}{x:V}(hx:extra (lk h) size x=some [])(hr:hth P Γ Kp s l K (hput t h d (some (.sl es more tok)))):sV P Γ Kp e bytes size (.sl es more tok) x d s l K t h:=by
 unfold sV;simp only[Bd,hx];exact⟨fun _=>hr,fun q=>absurd rfl q⟩
def zg8(Kp:V→Hl→Prop)(v:V)(h:Hl):Prop:=match v with
 | .ifc t v=>Kp (.ifc t v) h
 |_=>False
theorem zcD{x:Operand}:hO P Γ Kp (⟨d,none,.panic x,s⟩::l) K (some ⟨t,h⟩)=zg8 Kp (ev Γ t x) h:=(rfl)
theorem Qk{T:TypeId}{v:V}:zg8 Kp (.ifc T v) h=Kp (.ifc T v) h:=(rfl)
def Oa(P:Program)(Γ:jG)(Kp:V→Hl→Prop)(N:Nat)(v:V)(a b:lF)(Q:Ex→HS→Prop)(st:HS):Prop:=match v with
 | .val (.bool t)=>(t=true→qB P Γ Kp N a Q st)∧(t=false→qB P Γ Kp N b Q st)
 |_=>False
variable {Q:Ex→HS→Prop} {a b c:lF} {st:HS} {n:HS→Prop} {i j:Nat}
theorem zcB:qB P Γ Kp N .skip Q st=Q .normal st:=(rfl)
theorem zha:qB P Γ Kp N (.row l) Q st=hO P Γ Kp l (Q .normal) (some st):=(rfl)
theorem zg9:qB P Γ Kp N (.seq a b) Q st=qB P Γ Kp N a (G7 (qB P Γ Kp N b Q) Q) st:=(rfl)
theorem h_cond{c:Operand}:qB P Γ Kp N (.cond c a b) Q ⟨t,h⟩=Oa P Γ Kp N (ev Γ t c) a b Q ⟨t,h⟩:=(rfl)
theorem Ye:qB P Γ Kp N (.block i c) Q st=qB P Γ Kp N c (uf i Q) st:=(rfl)
theorem h_exit:qB P Γ Kp N (.exit i) Q st=Q (.exit i) st:=(rfl)
theorem zhb:qB P Γ Kp N .ret Q st=Q .ret st:=(rfl)
theorem Kq:Oa P Γ Kp N (.val (.bool true)) a b Q st=qB P Γ Kp N a Q st:=by simp[Oa]
theorem Iy:Oa P Γ Kp N (.val (.bool false)) a b Q st=qB P Γ Kp N b Q st:=by simp[Oa]
theorem G6:G7 n Q .normal st=n st:=(rfl)
theorem Po:G7 n Q .ret st=Q .ret st:=(rfl)
theorem MF:G7 n Q (.exit i) st=Q (.exit i) st:=(rfl)
theorem Dy:uf i Q .normal st=Q .normal st:=(rfl)
theorem Iu:uf i Q .ret st=Q .ret st:=(rfl)
theorem FP:uf i Q (.exit i) st=Q .normal st:=if_pos rfl
theorem FQ:uf i Q (.exit j) st=if j=i then Q .normal st else Q (.exit j) st:=(rfl)
theorem mi(S:List Nat)(L:Nat)(I:Nat→List V→Hl→Prop)(n0:Nat)(hn:S.Nodup)(hS:∀ i∈S,i<L)(names:List Nat)(h0:Back S names N L (I n0) st)
  (hstep:∀ n t h (J:List Nat→HS→Prop),(∀ n' names s',n'<n→Back S names N L (I n') s'→J names s')→t.length=L→I n (S.map (jT t)) h→qB P Γ Kp N c (G7 (fun s'=>∃ names,J names s') Q) ⟨t,h⟩):qB P Γ Kp N (.loop c) Q st:=by
 refine⟨S,L,I,n0,hn,hS,⟨names,h0⟩,fun n t h hl hI => ?_⟩;have:=hstep n t h (fun names s' => ∃ n',n'<n∧Back S names N L (I n') s') (fun n' names s' q r=>⟨n',q,r⟩) hl hI
 have e:(G7 (fun s'=>∃ names,∃ n',n'<n∧Back S names N L (I n') s') Q)=G7 (fun s' => ∃ n' names,n'<n∧Back S names N L (I n') s') Q:=by
  congr 1;funext s';exact propext ⟨fun ⟨a,b,c⟩=>⟨b,a,c⟩,fun ⟨a,b,c⟩=>⟨b,a,c⟩⟩
 rw[e]at this;exact this
theorem Ie{k a:Nat}(h:a<k):(aJ k)[a]? = some a:=by simp[h]
theorem jW{S:List Nat}{k L:Nat}{J:List V→Hl→Prop}(h1:t.length=L)(hk:N≤k)(hk2:k≤1000000)(hh:k≤h.length)(hv:nbs k (S.map (jT t)))(hB:∀ a<k,∀ x,lk h a=some x→nbB k x)(hJ:J (S.map (jT t)) (h.take k)):Back S (aJ k) N L J ⟨t,h⟩:=by
 have hm:(NB k).le (Nm (aJ k)):=fun a b ⟨e,l⟩=>by subst e;exact Ie l
 refine⟨h1,fun a ha=>Ie (by omega),List.nodup_range,by simpa using hk2,_,h.take k,LR.mono hm hv,by simp[hh],?_,hJ⟩;intro a b hab
 have ha:a<k:=by
  have:=(List.getElem?_eq_some_iff.1 hab).1
  simpa using this
 rw[Ie ha]at hab;cases hab
 have e:∀ (h:Hl) (k a:Nat),a<k→lk (h.take k) a=lk h a:=by
  intro h
  induction h with
  |nil=>intro k a _;simp[lk]
  |cons x h ih=>
   intro k a hk
   cases k with
   |zero=>omega
   |succ k=>
    cases a with
    |zero=>rfl
    |succ a=>simp only[List.take_succ_cons,lk];exact ih k a (by omega)
 rw[e h k a ha]
 cases hx:lk h a with
 |none=>trivial
 |some x=>exact BR.mono hm (hB a ha x hx)
theorem jy{rs:List oZ}{R:V→Hl→Prop}{v:V}(hv:resV rs ⟨t,lk h⟩=some v)(hr:R v h):uU rs R .ret ⟨t,h⟩:=⟨v,hv,hr⟩
theorem IQ{rs:List oZ}{R:V→Hl→Prop}{v:V}(hv:resV rs ⟨t,lk h⟩=some v)(hr:R v h):uU rs R .normal ⟨t,h⟩:=⟨v,hv,hr⟩
end
section
variable {P:Program} {Γ:jG} {H:Nat→List (Nat×List Nat)×List Nat} {f:FuncId} {F:AFn} {gs:List Nat} {m:Store}
theorem WB(R:Ren)(hR:∀ a b,¬ R a b)(m:Store):HH R [] m where
 blk:=fun a b x r=>absurd r (hR a b)
 left:=fun a b c r=>absurd r (hR a b)
 right:=fun a b c x y r=>absurd r (hR a c)
 dom:=fun a b r=>absurd r (hR a b)
theorem jZ(hm:P.follows .mixedOrders=true)(hF:qO P H f=some F)(hok:F.body.okH gs=true)(hG:GOk Γ gs){args:List V}(ha:nbs 0 args){Qv:V→Prop}
  (h:qB P Γ (fun _ _=>False) 0 F.body (uU F.res fun v _=>nb 0 v∧Qv v) ⟨start F.ntmps args,[]⟩):jB P Γ f args m fun o m'=>(∃ v,o = .ret v∧Qv v)∧m'=m:=by
 have h1:=uh (P:=P) (Γ:=Γ) (R0:=fun _ _=>False) (N:=0) (m:=fun _=>none) hm hF hok hG (ha.up _) (WB _ (fun _ _ q=>q) _) (fun _ _ q=>q.elim) (Q:=fun o h=>match o with | .ret v=>nb 0 v∧Qv v | .pan _=>False) h;have hD:mQ (fun _=>none) m:=fun b=>.inl rfl;have e:Store.or (fun _=>none) m=m:=by funext b;rfl
 have h2:=h1.frame hD;rw[e]at h2;refine jB.less h2 ?_;rintro o m'' ⟨m',rfl,d,S,o0,h',s1,s2,s3,s4⟩;refine⟨m,?_,?_,rfl⟩
 ·intro b x hb
  rcases d b with q|q
  ·simp only[Store.or,q];exact hb
  ·rw[q]at hb;cases hb
 ·cases o0 with
  |ret v=>
   cases o with
   |ret v'=>exact⟨v,by rw[D7 s4.1 s3],s4.2⟩
   |pan v'=>exact s3.elim
  |pan v=>exact s4.elim
theorem jY{args:List V}{v:V}(h:jB P Γ f args m fun o m' => (∃ v',o = .ret v' ∧ v' = v)∧m'=m):jB P Γ f args m fun o m'=>o = .ret v∧m'=m:=by
 refine h.mono ?_;rintro o m' ⟨⟨v',rfl,rfl⟩,rfl⟩;exact⟨rfl,rfl⟩
def one(b:Nat)(x:Blk):Store:=fun c=>if c=b then some x else none
def del(m:Store)(b:Nat):Store:=fun c=>if c=b then none else m c
theorem Lm{b:Nat}{x:Blk}(h:m b=some x):(one b x).or (del m b)=m:=by
 funext c;unfold Store.or one del
 by_cases e:c=b
 ·subst e;simp[h]
 ·simp[e]
theorem Ia(b:Nat)(x:Blk):mQ (one b x) (del m b):=by
 intro c;unfold one del
 by_cases e:c=b
 ·exact .inr (by simp[e])
 ·exact .inl (by simp[e])
theorem Sl{b:Nat}{X:Blk}(hX:nbB 0 X):HH (fun a c=>a=0∧c=b) [some X] (one b X) where
 blk:=by
  rintro a c x ⟨rfl,rfl⟩ hx;cases hx;exact⟨X,by simp[one],hX.up _⟩
 left:=by rintro a b c ⟨_,rfl⟩ ⟨_,rfl⟩;rfl
 right:=by rintro a b c x y ⟨rfl,_⟩ ⟨rfl,_⟩ _ _;rfl
 dom:=by rintro a b ⟨rfl,_⟩;left;simp
theorem pK(hm:P.follows .mixedOrders=true)(hF:qO P H f=some F)(hok:F.body.okH gs=true)(hG:GOk Γ gs){rb o:Nat}{az:List V}{X:Blk}(hb:m rb=some X)(hX:nbB 0 X)(ha:nbs 0 az){Q:V→Blk→Prop}
  (h:qB P Γ (fun _ _=>False) 1 F.body (uU F.res fun v h'=>nb 0 v∧∃ Y,lk h' 0=some Y∧nbB 0 Y∧Q v Y) ⟨start F.ntmps (.ptr 0 o::az),[some X]⟩) :
  jB P Γ f (.ptr rb o::az) m fun o m'=>∃ v Y,o = .ret v∧m'=m.set rb Y∧Q v Y:=by
 have h1:=uh (P:=P) (Γ:=Γ) (R0:=fun a c=>a=0∧c=rb) (N:=1) (m:=one rb X) hm hF hok hG (args0:=.ptr 0 o::az) (args:=.ptr rb o::az) (.cons (.ptr o ⟨rfl,rfl⟩) (ha.up _)) (Sl hX) (fun _ _ q=>by omega) (Q:=fun o h'=>match o with | .ret v=>nb 0 v∧∃ Y,lk h' 0=some Y∧nbB 0 Y∧Q v Y | .pan _=>False) h;have h2:=h1.frame (Ia rb X (m:=m));rw[Lm hb]at h2;refine jB.less h2 ?_;rintro o m'' ⟨m',rfl,d,S,o0,h',s1,s2,s3,s4⟩
 cases o0 with
 |pan v=>exact s4.elim
 |ret v=>
  cases o with
  |pan v'=>exact s3.elim
  |ret v' =>
   obtain⟨q1,Y,q2,q3,q4⟩:=s4;obtain⟨Y',g1,g2⟩:=s2.blk _ _ _ (s1 _ _ ⟨rfl,rfl⟩) q2;obtain rfl:=Gp q3 g2;refine⟨m.set rb Y',?_,v,Y',by rw[D7 q1 s3],rfl,q4⟩;intro b x hx
   by_cases e:b=rb
   ·subst e;rw[Store.jv]at hx;cases hx;simp only[Store.or,g1]
   ·rw[Store.jw _ _ e]at hx
    rcases d b with q|q
    ·simp only[Store.or,q,del,if_neg e];exact hx
    ·simp only[del,if_neg e]at q;rw[q]at hx;cases hx
theorem pg{args:List V}{v:V}{Y:Blk}{rb:Nat}(h:jB P Γ f args m fun o m' => ∃ v' Y',o = .ret v' ∧ m'=m.set rb Y' ∧ (v' = v∧Y'=Y)):jB P Γ f args m fun o m'=>o = .ret v∧m'=m.set rb Y:=by
 refine h.mono ?_;rintro o m' ⟨v',Y',rfl,rfl,rfl,rfl⟩;exact⟨rfl,rfl⟩
end
section
variable {k:Nat}
theorem NH(v:Value):nb k (.val v)=True:=eq_true (.val v)
theorem zb2(b o:Nat):nb k (.ptr b o)=(b<k):=propext ⟨fun h=>by cases h with|ptr _ r=>exact r.2,fun h=>.ptr o ⟨rfl,h⟩⟩
theorem zb4(cs:List V):nb k (.elt cs)=nbs k cs:=propext ⟨fun h=>by cases h with|elt r=>exact r,fun h=>.elt h⟩
def nbT(k:Nat)(t:Tok):Prop:=FB (NB k) t t
theorem Jz:nbT k .no=True:=eq_true trivial
theorem XQ:nbT k .non=True:=eq_true trivial
theorem XP:nbT k .own=True:=eq_true trivial
theorem A8:nbT k .full=True:=eq_true trivial
theorem XO(j v:Nat):nbT k (.tip j v)=(j<k):=propext ⟨fun h=>h.1.2,fun h=>⟨⟨rfl,h⟩,rfl⟩⟩
theorem Ux(b:Bool):nbT k (.zero b)=True:=eq_true rfl
theorem XL(es more:List V)(t:Tok):nb k (.sl es more t)=(nbs k es∧nbs k more∧nbT k t):=propext ⟨fun h=>by cases h with|sl a b c=>exact⟨a,b,c⟩,fun ⟨a,b,c⟩=>.sl a b c⟩
theorem zg0(f:FuncId)(a c:List V):nb k (.fn (.func f) a c)=(nbs k a∧nbs k c):=propext ⟨fun h=>by cases h with|fn x a b=>exact⟨a,b⟩,fun ⟨a,b⟩=>.fn rfl a b⟩
theorem zb3(t:TypeId)(v:V):nb k (.ifc t v)=nb k v:=propext ⟨fun h=>by cases h with|ifc r=>exact r,fun h=>.ifc h⟩
theorem V9(cs:List V):nb k (.agg cs)=nbs k cs:=propext ⟨fun h=>by cases h with|agg r=>exact r,fun h=>.agg h⟩
theorem zb0(cs:List V):nb k (.tup cs)=nbs k cs:=propext ⟨fun h=>by cases h with|tup r=>exact r,fun h=>.tup h⟩
theorem zb6(b o l c:Nat):nb k (.arr b o l c)=(b<k):=propext ⟨fun h=>by cases h with|arr _ _ _ r=>exact r.2,fun h=>.arr _ _ _ ⟨rfl,h⟩⟩
theorem zb5(l:List UInt8):nb k (bs l)=True:=NH _
theorem xZ:nbs k []=True:=eq_true .nil
theorem tZ(v:V)(l:List V):nbs k (v::l)=(nb k v∧nbs k l):=propext ⟨fun h=>by cases h with|cons a b=>exact⟨a,b⟩,fun ⟨a,b⟩=>.cons a b⟩
theorem kY(l:List UInt8):nbs k (l.map by8)=True:=eq_true (LR.map fun _ _=>.val _)
theorem x8{α:Type}{g:α→V}(h:∀ x,nb k (g x))(l:List α):nbs k (l.map g):=LR.map fun x _=>h x
theorem Ii(T:TypeId)(cs:List V):nbB k (.var T cs)=nbs k cs:=propext ⟨fun h=>h.2,fun h=>⟨rfl,h⟩⟩
theorem XR(T:TypeId)(v:Nat):nbB k (.tip T v)=True:=eq_true ⟨rfl,rfl⟩
theorem NG{l:List V}(h:nbs 0 l):nbs k l:=h.up _
end
end Go.Av
namespace Go.Av
section
variable {P:Program} {Γ:jG} {Kp:V→Hl→Prop} {l:List Item} {K:HS→Prop} {t:List V} {h:Hl} {d:Option Tmp} {s:List (Tmp×Option (Tmp×Bool)×AOp)} {g:FuncId} {first args caps:List V}
theorem Kr{Y:Blk}{es more az:List V}{tok:Tok}(hl:h.length<1000000)(he:first++args++caps = .sl es more tok::az)(hA:∀ m tok',jB P Γ g (.sl es more tok'::az) m fun o m'=>∃ b,m b=none∧o = .ret (.ptr b 0)∧m'=m.set b Y)
  (h1:nbs 0 es) (h2:nbs 0 more) (ha:nbs 0 az) (hY:nbB 0 Y) (hr:hth P Γ Kp s l K (hput t (h++[some Y]) d (some (.ptr h.length 0)))):tC P Γ Kp (.fn (.func g) first caps) args d s l K t h:=by
 intro R args' m' rl H;rw[he]at rl;obtain⟨y,ys,rfl,r1,r2⟩:=rl.cons_inv;obtain rfl:=ou ha r2;obtain⟨es',mr,k',rfl,ra,rb,rc⟩:=r1.Cf;obtain rfl:=ou h1 ra;obtain rfl:=ou h2 rb;refine(hA m' k').mono ?_;rintro o m'' ⟨b,hb,rfl,rfl⟩;exact⟨R.add h.length b,.ret _,_,R.nD _ _,H.push hb hl (hY.up _),.ptr 0 (.inr ⟨rfl,rfl⟩),hr⟩
theorem Iz{v:V}{es more az:List V}{tok:Tok}(he:first++args++caps = .sl es more tok::az)(hA:∀ m tok',jB P Γ g (.sl es more tok'::az) m fun o m'=>o = .ret v∧m'=m)
  (h1:nbs 0 es) (h2:nbs 0 more) (ha:nbs 0 az) (hv:nb 0 v) (hr:hth P Γ Kp s l K (hput t h d (some v))):tC P Γ Kp (.fn (.func g) first caps) args d s l K t h:=by
 intro R args' m' rl H;rw[he]at rl;obtain⟨y,ys,rfl,r1,r2⟩:=rl.cons_inv;obtain rfl:=ou ha r2;obtain⟨es',mr,k',rfl,ra,rb,rc⟩:=r1.Cf;obtain rfl:=ou h1 ra;obtain rfl:=ou h2 rb;refine(hA m' k').mono ?_;rintro o m'' ⟨rfl,rfl⟩;exact⟨R,.ret v,h,R.le_refl,H,hv.up R,hr⟩
theorem E5{e:TypeId}{bytes size:Nat}{es ys:List V}{b:Bool}{x:V}(hx:extra (lk h) size x=some ys)(hne:ys≠[])(hl:h.length<1000000)(h1:oq size es=true)(h2:tH size ys=true)(h3:(es.length+ys.length)*bytes≤140737488355328)
  (hr:hth P Γ Kp s l K (hput t (h++[some (.tip e 0)]) d (some (.sl (es++ys) [] (.tip h.length 0))))):sV P Γ Kp e bytes size (.sl es [] (.zero b)) x d s l K t h:=by
 unfold sV;simp only[Bd,hx];exact⟨fun q=>absurd q hne,fun _=>⟨h1,h2,.inl h3,trivial,hl,hr⟩⟩
theorem WC{e:TypeId}{bytes size j k:Nat}{es ys:List V}{x:V}(hx:extra (lk h) size x=some ys)(h0:es≠[])(hj:lk h j=some (.tip e k))(h1:oq size es=true)(h2:tH size ys=true)(h3:Na (es.length+ys.length) bytes)
  (hr:∀ k2,(k2=k∨k2=k+1)→hth P Γ Kp s l K (hput t (hset h j (some (.tip e k2))) d (some (.sl (es++ys) [] (.tip j k2))))):sV P Γ Kp e bytes size (.sl es [] (.tip j k)) x d s l K t h:=by
 by_cases hne:ys=[]
 ·subst hne;refine yQ hx ?_;have:=hr k (.inl rfl)
  have e1:hset h j (some (.tip e k))=h:=by
   have:∀ (h:Hl) (j:Nat) (x:Blk),lk h j=some x→hset h j (some x)=h:=by
    intro h
    induction h with
    |nil=>intro j x q;rfl
    |cons y h ih=>
     intro j x q
     cases j with
     |zero=>simp only[lk]at q;rw[q];rfl
     |succ j=>simp only[hset];rw[ih j x q]
   exact this h j _ hj
  rw[e1,List.append_nil]at this;exact this
 ·exact Qp hx hne h0 hj h1 h2 h3 (hr _ (.inr rfl))
theorem ZZ{e:TypeId}{bytes size j k:Nat}{es ys:List V}{x:V}(hx:extra (lk h) size x=some ys)(h0:es≠[])(hj:lk h j=some (.tip e k))(h1:oq size es=true)(h2:tH size ys=true)(h3:(es.length+ys.length)*bytes≤140737488355328)
  (hr:∀ k2,(k2=k∨k2=k+1)→hth P Γ Kp s l K (hput t (hset h j (some (.tip e k2))) d (some (.sl (es++ys) [] (.tip j k2))))):sV P Γ Kp e bytes size (.sl es [] (.tip j k)) x d s l K t h:=
 WC hx h0 hj h1 h2 (.inl h3) hr
theorem uu(l:List UInt8):tH 1 (l.map by8)=true:=by
 simp only[tH,List.all_map,List.all_eq_true];intro x _;rfl
theorem jS(l:List UInt8):nbs 0 (l.map by8):=LR.map fun _ _=>.val _
end
end Go.Av
namespace Go.Av
theorem Ba{P:Program}{ρ:Operand→V}{m:Store}{s:Nat}{z:List V}:jJ P ρ m (.lits s z 0 [])=some (.sl [] [] (.zero true)):=by
 simp[jJ,pI,Gt]
end Go.Av
namespace Go.Av
theorem Pm{t:List V}{d:Nat}{v:V}:KO t (some d) v=xQ t d v:=(rfl)
theorem Pn{t:List V}{v:V}:KO t none v=t:=(rfl)
theorem nbS:type_of% (ak (ak (ak (ak @NH (ak @zb2 @zb4)) (ak @XL (ak @zg0 @zb3))) (ak (ak @V9 (ak @zb0 @zb6)) (ak @zb5 (ak @xZ @tZ)))) (ak (ak (ak @kY (ak (ak @Jz (ak @XQ @XP)) @A8)) (ak @XO (ak @Ux @Ii))) (ak (ak @XR (ak @and_self @and_true)) (ak (ak @true_and @List.append_nil.{0}) (ak @List.nil_append.{0} @List.cons_append.{0}))))):=
  (ak (ak (ak (ak @NH (ak @zb2 @zb4)) (ak @XL (ak @zg0 @zb3))) (ak (ak @V9 (ak @zb0 @zb6)) (ak @zb5 (ak @xZ @tZ)))) (ak (ak (ak @kY (ak (ak @Jz (ak @XQ @XP)) @A8)) (ak @XO (ak @Ux @Ii))) (ak (ak @XR (ak @and_self @and_true)) (ak (ak @true_and @List.append_nil.{0}) (ak @List.nil_append.{0} @List.cons_append.{0})))))
theorem nbX{p:Prop}(h:p:=by simp only[nbS]):p:=h
theorem nbY{p:Prop}(h:p:=by first|exact LR.nil|simp only[nbS]):p:=h
theorem nbZ{p:Prop}(h:p:=by simp only[jH, jI, nbS]):p:=h
end Go.Av
