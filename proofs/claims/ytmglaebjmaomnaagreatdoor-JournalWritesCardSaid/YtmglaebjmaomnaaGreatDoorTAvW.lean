/- Codes and functions over blocks that are numbered in turn: what they come to holds of the program. No condition. -/
import Derived.Test.YtmglaebjmaomnaaGreatDoorTAvU
open Bool renaming and_eq_true→aG
open List renaming mem_cons_of_mem→aX, mem_cons_self→aU
open Nat renaming not_lt_zero→dY
set_option linter.unusedSimpArgs false
set_option linter.unusedVariables false
namespace Go.Av
structure HS where
  t:List V
  h:Hl
def KO(t:List V)(d:Option Tmp)(v:V):List V:=match d with
  |some d=>xQ t d v
  |none=>t
abbrev NB(k:Nat):Ren:=fun a b=>a=b∧a<k
def nb(k:Nat)(v:V):Prop:=VR (NB k) v v
def nbs(k:Nat)(l:List V):Prop:=LR (NB k) l l
def nbB(k:Nat)(x:Blk):Prop:=BR (NB k) x x
theorem nb.up{v:V}(h:nb 0 v)(R:Ren):VR R v v:=h.mono fun a b ⟨_, q⟩=>absurd q (dY _)
theorem nbs.up{l:List V}(h:nbs 0 l)(R:Ren):LR R l l:=h.mono fun a b ⟨_, q⟩=>absurd q (dY _)
theorem nbB.up{x:Blk}(h:nbB 0 x)(R:Ren):BR R x x:=h.mono fun a b ⟨_, q⟩=>absurd q (dY _)
mutual
theorem VR.zip{A B C:Ren}(hc:∀ a b c, A a b→B a c→C b c):∀ {v u w:V}, VR A v u→VR B v w→VR C u w
  |_, _, _, .val v, k=>by cases k;exact .val v
  |_, _, _, .ptr o r, k=>by cases k with|ptr _ r'=>exact .ptr o (hc _ _ _ r r')
  |_, _, _, .elt r, k=>by cases k with|elt r'=>exact .elt (r.zip hc r')
  |_, _, _, .sl (k:=k0) (k':=k1) a b c, k=>by
    obtain⟨es, mr, k2, rfl, a', b', c'⟩:=k.Cf;refine .sl (a.zip hc a') (b.zip hc b') ?_
    cases k0<;>cases k1<;>first|exact c.elim|(cases k2<;>first|exact c'.elim|skip)
    · trivial
    · trivial
    · exact⟨hc _ _ _ c.1 c'.1, by rw[←c.2, ←c'.2]⟩
    · exact(Eq.trans (Eq.symm c) c')
    · exact⟨hc _ _ _ c.1 c'.1, by rw[←c.2.1, ←c'.2.1], by rw[←c.2.2, ←c'.2.2]⟩
    · trivial
    · trivial
  |_, _, _, .fn x a b, k=>by cases k with|fn y a' b'=>exact .fn x (a.zip hc a') (b.zip hc b')
  |_, _, _, .ifc r, k=>by cases k with|ifc r'=>exact .ifc (r.zip hc r')
  |_, _, _, .agg r, k=>by cases k with|agg r'=>exact .agg (r.zip hc r')
  |_, _, _, .tup r, k=>by cases k with|tup r'=>exact .tup (r.zip hc r')
  |_, _, _, .arr a b c r, k=>by cases k with|arr _ _ _ r'=>exact .arr a b c (hc _ _ _ r r')
  |_, _, _, .res a b c r, k=>by cases k with|res _ _ _ r'=>exact .res a b c (hc _ _ _ r r')
theorem LR.zip{A B C:Ren}(hc:∀ a b c, A a b→B a c→C b c):∀ {v u w:List V}, LR A v u→LR B v w→LR C u w
  |_, _, _, .nil, k=>by cases k;exact .nil
  |_, _, _, .cons a b, k=>by cases k with|cons a' b'=>exact .cons (a.zip hc a') (b.zip hc b')
end
mutual
theorem VR.swap{A C:Ren}(hc:∀ a b, A a b→C b a):∀ {v u:V}, VR A v u→VR C u v
  |_, _, .val v=>.val v
  |_, _, .ptr o r=>.ptr o (hc _ _ r)
  |_, _, .elt r=>.elt (r.swap hc)
  |_, _, .sl (k:=k0) (k':=k1) a b c=>by
    refine .sl (a.swap hc) (b.swap hc) ?_
    cases k0<;>cases k1<;>first|exact c.elim|skip
    · trivial
    · trivial
    · exact⟨hc _ _ c.1, c.2.symm⟩
    · exact(Eq.symm c)
    · exact⟨hc _ _ c.1, c.2.1.symm, c.2.2.symm⟩
    · trivial
    · trivial
  |_, _, .fn (f:=f) x a b=>.fn x (a.swap hc) (b.swap hc)
  |_, _, .ifc r=>.ifc (r.swap hc)
  |_, _, .agg r=>.agg (r.swap hc)
  |_, _, .tup r=>.tup (r.swap hc)
  |_, _, .arr a b c r=>.arr a b c (hc _ _ r)
  |_, _, .res a b c r=>.res a b c (hc _ _ r)
theorem LR.swap{A C:Ren}(hc:∀ a b, A a b→C b a):∀ {v u:List V}, LR A v u→LR C u v
  |_, _, .nil=>.nil
  |_, _, .cons a b=>.cons (a.swap hc) (b.swap hc)
end
theorem VR.comp{A B C:Ren}(hc:∀ a b c, A a b→B b c→C a c){v u w:V}(h:VR A v u)(k:VR B u w):VR C v w:=
  VR.zip (A:=fun b a=>A a b) (fun a b c x y=>hc b a c x y) (h.swap fun _ _ x=>x) k
theorem LR.comp{A B C:Ren}(hc:∀ a b c, A a b→B b c→C a c){v u w:List V}(h:LR A v u)(k:LR B u w):LR C v w:=
  LR.zip (A:=fun b a=>A a b) (fun a b c x y=>hc b a c x y) (h.swap fun _ _ x=>x) k
theorem BR.comp{A B C:Ren}(hc:∀ a b c, A a b→B b c→C a c){x y z:Blk}(h:BR A x y)(k:BR B y z):BR C x z:=by
  cases x<;>cases y<;>first|exact h.elim|(cases z<;>first|exact k.elim|skip)
  · exact⟨h.1.trans k.1, h.2.comp hc k.2⟩
  · exact⟨h.1.trans k.1, h.2.trans k.2⟩
theorem D7{v u:V}{R:Ren}(h:nb 0 v)(r:VR R v u):u=v:=
  VR.fun (R:=R) r (h.up R) |> fun f=>by
    have r':VR (fun _ _=>False) v u:=by
      have:=VR.comp (A:=NB 0) (B:=R) (C:=fun _ _=>False) (fun a b c ⟨_, q⟩ _=>absurd q (dY _)) h r;exact this
    exact VR.fun r' (h.up _) (fun _ _ _ q=>q.elim)
theorem ou{v u:List V}{R:Ren}(h:nbs 0 v)(r:LR R v u):u=v:=by
  have r':LR (fun _ _=>False) v u:=LR.comp (A:=NB 0) (B:=R) (C:=fun _ _=>False) (fun a b c ⟨_, q⟩ _=>absurd q (dY _)) h r;exact LR.fun r' (h.up _) (fun _ _ _ q=>q.elim)
theorem Gp{x y:Blk}{R:Ren}(h:nbB 0 x)(r:BR R x y):y=x:=by
  cases x<;>cases y<;>first|exact r.elim|exact h.elim|skip
  · obtain⟨rfl, r2⟩:=r
    rw[ou h.2 r2]
  · obtain⟨rfl, rfl⟩:=r
    rfl
mutual
theorem VR.rename{A B:Ren}(hc:∀ a b, A a b→∃ c, B c b):∀ {v u:V}, VR A v u→∃ w, VR B w u
  |_, _, .val v=>⟨_, .val v⟩
  |_, _, .ptr o r=>by obtain⟨c, k⟩:=hc _ _ r;exact⟨_, .ptr o k⟩
  |_, _, .elt r=>by obtain⟨c, k⟩:=r.rename hc;exact⟨_, .elt k⟩
  |_, _, .sl (k:=k0) (k':=k1) a b c=>by
    obtain⟨a', ha⟩:=a.rename hc;obtain⟨b', hb⟩:=b.rename hc
    obtain⟨c', hc⟩:∃ c', FB B c' k1:=by
      cases k0<;>cases k1<;>first|exact c.elim|skip
      · exact⟨.no, trivial⟩
      · exact⟨.full, trivial⟩
      · rename_i v _ _
        obtain⟨d, k⟩:=hc _ _ c.1;exact⟨.tip d v, k, c.2⟩
      · exact⟨.zero _, c⟩
      · rename_i v z _ _ _
        obtain⟨d, k⟩:=hc _ _ c.1;exact⟨.tipz d v z, k, c.2⟩
      · exact⟨.non, trivial⟩
      · exact⟨.own, trivial⟩
    exact⟨_, .sl ha hb hc⟩
  |_, _, .fn x a b=>by
    obtain⟨a', ha⟩:=a.rename hc;obtain⟨b', hb⟩:=b.rename hc;exact⟨_, .fn x ha hb⟩
  |_, _, .ifc r=>by obtain⟨c, k⟩:=r.rename hc;exact⟨_, .ifc k⟩
  |_, _, .agg r=>by obtain⟨c, k⟩:=r.rename hc;exact⟨_, .agg k⟩
  |_, _, .tup r=>by obtain⟨c, k⟩:=r.rename hc;exact⟨_, .tup k⟩
  |_, _, .arr a b c r=>by obtain⟨d, k⟩:=hc _ _ r;exact⟨_, .arr a b c k⟩
  |_, _, .res a b c r=>by obtain⟨d, k⟩:=hc _ _ r;exact⟨_, .res a b c k⟩
theorem LR.rename{A B:Ren}(hc:∀ a b, A a b→∃ c, B c b):∀ {v u:List V}, LR A v u→∃ w, LR B w u
  |_, _, .nil=>⟨[], .nil⟩
  |_, _, .cons a b=>by
    obtain⟨a', ha⟩:=a.rename hc;obtain⟨b', hb⟩:=b.rename hc;exact⟨_, .cons ha hb⟩
end
def hstill(P:Program)(Γ:jG)(y:Tmp×Option (Tmp×Bool)×AOp)(s:HS):Prop:=
  (if kP y.2.1 s.t=true then jJ P (ev Γ s.t) (lk s.h) y.2.2 else some un)=some (jT s.t y.1)
def hrunA(P:Program)(Γ:jG)(Kp:V→Hl→Prop):List Item→(HS→Prop)→HS→Prop
  |[], K, s=>K s
  |x::l, K, s=>if kP x.g s.t=true then
        Bd P Γ (ev Γ s.t) s.h (fun v h'=>(∀ y∈x.still, hstill P Γ y ⟨KO s.t x.dst v, h'⟩)∧hrunA P Γ Kp l K ⟨KO s.t x.dst v, h'⟩) Kp x.ao
      else (∀ y∈x.still, hstill P Γ y ⟨KO s.t x.dst un, s.h⟩)∧hrunA P Γ Kp l K ⟨KO s.t x.dst un, s.h⟩
def G7(next:HS→Prop)(Q:Ex→HS→Prop):Ex→HS→Prop
  | .normal, st=>next st
  |e, st=>Q e st
def uf(id:Nat)(Q:Ex→HS→Prop):Ex→HS→Prop
  | .exit id', st=>if id'=id then Q .normal st else Q (.exit id') st
  |e, st=>Q e st
def Nm(names:List Nat):Ren:=fun a b=>names[a]? = some b
def OB(R:Ren):Option Blk→Option Blk→Prop
  |none, _=>True
  |some x, some y=>BR R x y
  |some _, none=>False
def Back(S names:List Nat)(N L:Nat)(J:List V→Hl→Prop)(s:HS):Prop:=
  s.t.length=L∧(∀ a, a<N→names[a]? = some a)∧names.Nodup∧names.length≤1000000∧∃ vs h2, LR (Nm names) vs (S.map (jT s.t))∧h2.length=names.length ∧
    (∀ a b, names[a]? = some b→OB (Nm names) (lk h2 a) (lk s.h b))∧J vs h2
def qB(P:Program)(Γ:jG)(Kp:V→Hl→Prop)(N:Nat):lF→(Ex→HS→Prop)→HS→Prop
  | .skip, Q, s=>Q .normal s
  | .row l, Q, s=>hrunA P Γ Kp l (Q .normal) s
  | .seq a b, Q, s=>qB P Γ Kp N a (G7 (qB P Γ Kp N b Q) Q) s
  | .cond c a b, Q, s=>match ev Γ s.t c with
    | .val (.bool t)=>(t=true→qB P Γ Kp N a Q s)∧(t=false→qB P Γ Kp N b Q s)
    |_=>False
  | .block id c, Q, s=>qB P Γ Kp N c (uf id Q) s
  | .loop c, Q, s=>∃ (S:List Nat) (L:Nat) (I:Nat→List V→Hl→Prop) (n0:Nat), S.Nodup∧(∀ i∈S, i<L)∧(∃ names, Back S names N L (I n0) s) ∧
      ∀ n t h, t.length=L→I n (S.map (jT t)) h→qB P Γ Kp N c (G7 (fun s' => ∃ n' names, n'<n∧Back S names N L (I n') s') Q) ⟨t, h⟩
  | .exit id, Q, s=>Q (.exit id) s
  | .ret, Q, s=>Q .ret s
  | .range .., _, _=>False
def zbQ(gs:List Nat):Operand→Bool
  | .global g=>gs.contains g
  |_=>true
def Item.okH(gs:List Nat)(x:Item):Bool:=uk x.ao&&x.ao.jX.all (zbQ gs)&&x.still.all fun y=>uk y.2.2&&y.2.2.jX.all (zbQ gs)
def lF.okH(gs:List Nat):lF→Bool
  | .row l=>l.all (Item.okH gs)
  | .seq a b=>a.okH gs&&b.okH gs
  | .cond c a b=>zbQ gs c&&a.okH gs&&b.okH gs
  | .block _ c | .loop c=>c.okH gs
  | .range .. => false
  |_=>true
def GOk(Γ:jG)(gs:List Nat):Prop:=∀ g∈gs, ∃ cs, Γ g=some cs∧nbs 0 cs
theorem jP{Γ:jG}:GOk Γ []:=fun g h=>by cases h
def LeN(N:Nat)(R S:Ren):Prop:=∀ b b', b<N→R b b' → S b b'
theorem LeN.refl(N:Nat)(R:Ren):LeN N R R:=fun _ _ _ h=>h
theorem LeN.of_le{N:Nat}{R S T:Ren}(h:LeN N R S)(k:S.le T):LeN N R T:=fun b b' hb r=>k _ _ (h b b' hb r)
def Lf(N:Nat)(R0:Ren)(K:HS→Prop)(st:St):Prop:=∃ R t h, LeN N R0 R∧LR R t st.t∧HH R h st.m∧K ⟨t, h⟩
def LfP(N:Nat)(R0:Ren)(Kp:V→Hl→Prop)(v:V)(m:Store):Prop:=∃ R v0 h, LeN N R0 R∧VR R v0 v∧HH R h m∧Kp v0 h
section
variable {P:Program} {Γ:jG} {N:Nat} {R0:Ren} {Kp:V→Hl→Prop}
theorem zhW{gs:List Nat}(hG:GOk Γ gs){R:Ren}{t t':List V}(r:LR R t t'){x:Operand}(hx:zbQ gs x=true):VR R (ev Γ t x) (ev Γ t' x):=by
  cases x with
  |tmp n=>exact r.getD n
  |const v=>exact Gj v
  |global g=>
    obtain⟨cs, h1, h2⟩:=hG g (List.contains_iff_mem.1 hx);simp only[ev, h1];exact .elt (h2.up R)
  |func f=>exact .fn rfl .nil .nil
theorem O9{R:Ren}{t t':List V}(r:LR R t t')(g:Option (Tmp×Bool)):kP g t'=kP g t:=by
  cases g with
  |none=>rfl
  |some x=>exact Qh (r.getD _)
theorem za1{R:Ren}{t t':List V}(r:LR R t t')(d:Option Tmp){v v':V}(k:VR R v v')(m:Store):LR R (KO t d v) ((⟨t', m⟩:St).put d v').t:=by
  cases d with
  |none=>exact r
  |some d=>
    simp only[KO, St.put, ←zM];exact r.set d k
theorem zdS{gs:List Nat}(hG:GOk Γ gs){R:Ren}{t:List V}{h:Hl}{st:St}(r:LR R t st.t)(H:HH R h st.m){y:Tmp×Option (Tmp×Bool)×AOp}(hp:uk y.2.2=true)(ho:y.2.2.jX.all (zbQ gs)=true)(hs:hstill P Γ y ⟨t, h⟩):mV P Γ y st:=by
  unfold hstill at hs;unfold mV;simp only at hs;rw[O9 r];have ry:=r.getD y.1;rw[nz t]at ry;cases hw:kP y.2.1 t
  · rw[hw, if_neg (by simp), Option.some.injEq]at hs
    rw[if_neg (by simp)];rw[←hs]at ry;generalize st.t.getD y.1 (.val undef)=z at ry;cases ry;rfl
  · rw[hw, if_pos rfl]at hs
    rw[if_pos rfl];obtain⟨v', h1, h2⟩:=IJ (ρ':=ev Γ st.t) hp (fun x hx=>zhW hG r (List.all_eq_true.1 ho x hx)) H.blk hs;rw[h1, VR.fun h2 ry H.left]
theorem Gu{gs:List Nat}(hG:GOk Γ gs){Kp':V→Store→Prop}(hP:∀ v m, LfP N R0 Kp v m→Kp' v m){K:HS→Prop}:∀ {l:List Item} {R:Ren} {t t':List V} {h:Hl} {m:Store}, l.all (Item.okH gs)=true→LR R t t'→HH R h m→LeN N R0 R→hrunA P Γ Kp l K ⟨t, h⟩ →
    sG P Γ Kp' l (Lf N R0 K) ⟨t', m⟩
  |[], R, t, t', h, m, ok, r, H, hl, hr=>⟨R, t, h, hl, r, H, hr⟩
  |x::l, R, t, t', h, m, ok, r, H, hl, hr=>by
    simp only[List.all_cons, aG]at ok;obtain⟨ok1, ok2⟩:=ok;simp only[Item.okH, aG]at ok1;obtain⟨⟨p1, p2⟩, p3⟩:=ok1
    have hst:∀ {S:Ren} {t2:List V} {h2:Hl} {st:St}, LR S t2 st.t→HH S h2 st.m→(∀ y∈x.still, hstill P Γ y ⟨t2, h2⟩)→∀ y∈x.still, mV P Γ y st:=by
      intro S t2 h2 st a b c y hy;have:=List.all_eq_true.1 p3 y hy;simp only[aG]at this;exact zdS hG a b this.1 this.2 (c y hy)
    simp only[sG, TL, kX];rw[O9 r];simp only[hrunA]at hr
    by_cases hw:kP x.g t=true
    · rw[if_pos hw]at hr ⊢
      refine WA p1 (fun y hy=>zhW hG r (List.all_eq_true.1 p2 y hy)) H hr ?_ ?_
      · rintro S v v' h' m' ⟨s4, s5⟩ s1 s2 s3
        have r2:=za1 (r.mono s1) x.dst s2 m';have hm' : ((⟨t', m'⟩:St).put x.dst v').m=m':=nP _ _ _;refine⟨hst (st:=(⟨t', m'⟩:St).put x.dst v') r2 (by rw[hm'];exact s3) s4, ?_⟩;have e:(⟨t', m'⟩:St).put x.dst v' = ⟨((⟨t', m'⟩:St).put x.dst v').t, m'⟩:=by cases x.dst<;>rfl
        rw[e];exact Gu hG hP ok2 r2 s3 (hl.of_le s1) s5
      · intro S v v' h' m' s4 s1 s2 s3
        exact hP _ _ ⟨S, v, h', hl.of_le s1, s2, s3, s4⟩
    · rw[if_neg hw]at hr ⊢
      obtain⟨s4, s5⟩:=hr;have r2:=za1 r x.dst (.val undef) m;have hm' : ((⟨t', m⟩:St).put x.dst (.val undef)).m=m:=nP _ _ _;refine⟨hst (st:=(⟨t', m⟩:St).put x.dst (.val undef)) r2 (by rw[hm'];exact H) s4, ?_⟩;have e:(⟨t', m⟩:St).put x.dst (.val undef)=⟨((⟨t', m⟩:St).put x.dst (.val undef)).t, m⟩:=by cases x.dst<;>rfl
      rw[e];exact Gu hG hP ok2 r2 H hl s5
theorem MG(t:List V)(i:Nat)(v:V)(j:Nat):jT (t.set i v) j=if j=i∧i<t.length then v else jT t j:=by
  rw[←nz, ←nz];simp only[List.getD_eq_getElem?_getD, List.getElem?_set]
  by_cases e:j=i
  · subst e
    by_cases l:j<t.length
    · simp[l]
    · simp[l]
  · rw[if_neg (fun q=>e q.symm), if_neg (fun q=>e q.1)]
theorem J4{R:Ren}:∀ {t t':List V} {i:Nat} {v:V}, LR R t t'→VR R v (t'.getD i un)→LR R (t.set i v) t'
  |_, _, i, v, .nil, _=>by simpa using LR.nil
  |_, _, 0, v, .cons a b, k=>.cons (by simpa using k) b
  |_, _, i+1, v, .cons a b, k=>.cons a (J4 b (by simpa using k))
theorem Nv{R:Ren}{t':List V}:∀ {S:List Nat} {vs:List V} {t:List V}, LR R t t'→S.Nodup→(∀ i∈S, i<t.length)→LR R vs (S.map fun i=>t'.getD i un) →
    ∃ t2, LR R t2 t'∧S.map (jT t2)=vs∧t2.length=t.length∧∀ j, j∉S→jT t2 j=jT t j
  |[], vs, t, r, _, _, k=>⟨t, r, by cases k;rfl, rfl, fun _ _=>rfl⟩
  |i::S, vs, t, r, hn, hl, k=>by
    cases k with
    |cons a b=>
      rename_i v vs;obtain⟨h1, h2⟩:=List.nodup_cons.1 hn;obtain⟨t2, r2, e2, l2, j2⟩:=Nv r h2 (fun j hj=>hl j (aX _ hj)) b;refine⟨t2.set i v, J4 r2 a, ?_, by simp[l2], ?_⟩
      · rw[List.map_cons, MG, if_pos ⟨rfl, by rw[l2];exact hl i (aU ..)⟩, ←e2]
        congr 1;refine List.map_congr_left fun j hj => ?_;rw[MG, if_neg];rintro⟨rfl, _⟩;exact h1 hj
      · intro j hj
        rw[MG, if_neg (by rintro⟨rfl, _⟩;exact hj (aU ..))];exact j2 j fun q=>hj (aX _ q)
theorem OI{S names:List Nat}{L:Nat}{J:List V→Hl→Prop}{R:Ren}{t:List V}{h:Hl}{st:St}(hn:S.Nodup)(hS:∀ i∈S, i<L)(hb:Back S names N L J ⟨t, h⟩)(r:LR R t st.t)(H:HH R h st.m)(hl:LeN N R0 R) :
    ∃ R2 t2 h2, LeN N R0 R2∧LR R2 t2 st.t∧HH R2 h2 st.m∧t2.length=L∧J (S.map (jT t2)) h2:=by
  obtain⟨b1, b2, b3, b4, vs, h2, b5, b6, b7, b8⟩:=hb;simp only at b1 b5 b7;have hlt:∀ {a b:Nat}, names[a]? = some b→a<names.length:=fun h=>(List.getElem?_eq_some_iff.1 h).1
  let R2:Ren:=fun c d=>(∃ b, names[c]? = some b∧R b d)∨∃ b, c=b+1000000∧R b d
  have hcomp:∀ a b c, Nm names a b→R b c→R2 a c:=fun a b c x y=>.inl ⟨b, x, y⟩;obtain⟨t1, r1⟩:=r.rename (B:=R2) fun a b k=>⟨a+1000000, .inr ⟨a, rfl, k⟩⟩;have hlen:t1.length=L:=by rw[r1.length, ←r.length];exact b1
  have rs:LR R2 vs (S.map fun i=>st.t.getD i un):=by
    refine LR.comp hcomp b5 ?_;refine LR.map fun i _ => ?_;have:=r.getD i;rw[nz t]at this;exact this
  obtain⟨t2, r2, e2, l2, _⟩:=Nv r1 hn (fun i hi=>by rw[hlen];exact hS i hi) rs;refine⟨R2, t2, h2, fun a b ha hr=>.inl ⟨a, b2 a ha, hl a b ha hr⟩, r2, ?_, by rw[l2, hlen], by rw[e2];exact b8⟩
  have hlive:∀ {c b:Nat} {x:Blk}, names[c]? = some b→lk h2 c=some x→∃ y, lk h b=some y∧BR (Nm names) x y:=by
    intro c b x hc hx;have:=b7 c b hc;rw[hx]at this
    cases hy:lk h b with
    |none=>rw[hy]at this;exact this.elim
    |some y=>rw[hy]at this;exact⟨y, rfl, this⟩
  refine⟨?_, ?_, ?_, ?_⟩
  · rintro c d x (⟨b, hc, hr⟩|⟨b, rfl, hr⟩) hx
    · obtain⟨y, hy, hxy⟩:=hlive hc hx
      obtain⟨x', g1, g2⟩:=H.blk _ _ _ hr hy;exact⟨x', g1, hxy.comp hcomp g2⟩
    · have:=Eb hx
      omega
  · rintro c d e (⟨b, hc, hr⟩|⟨b, rfl, hr⟩) (⟨b', hc', hr'⟩|⟨b', e', hr'⟩)
    · rw[hc]at hc'
      cases hc';exact H.left _ _ _ hr hr'
    · have:=hlt hc
      omega
    · have:=hlt hc'
      omega
    · have:b=b':=by omega
      subst this;exact H.left _ _ _ hr hr'
  · rintro c d e x y (⟨b, hc, hr⟩|⟨b, rfl, hr⟩) (⟨b', hc', hr'⟩|⟨b', rfl, hr'⟩) hx hy
    · obtain⟨z, g1, _⟩:=hlive hc hx
      obtain⟨z', g2, _⟩:=hlive hc' hy;have:b=b':=H.right _ _ _ _ _ hr hr' g1 g2;subst this;exact(List.getElem?_inj (hlt hc) b3).1 (by rw[hc, hc'])
    · have:=Eb hy
      omega
    · have:=Eb hx
      omega
    · have:=Eb hx
      omega
  · rintro c d (⟨b, hc, hr⟩|⟨b, rfl, hr⟩)
    · left
      rw[b6];exact hlt hc
    · right
      omega
theorem X7{K K':HS→Prop}(hk:∀ s, K s→K' s){st:St}(h:Lf N R0 K st):Lf N R0 K' st:=by
  obtain⟨R, t, h, a, b, c, d⟩:=h;exact⟨R, t, h, a, b, c, hk _ d⟩
theorem Oe{gs:List Nat}(hG:GOk Γ gs){Kp':V→Store→Prop}(hP:∀ v m, LfP N R0 Kp v m→Kp' v m):∀ {c:lF} {Q:Ex→HS→Prop} {R:Ren} {t t':List V} {h:Hl} {m:Store}, c.okH gs=true→LR R t t'→HH R h m→LeN N R0 R→qB P Γ Kp N c Q ⟨t, h⟩ →
    awp P Γ Kp' c (fun e=>Lf N R0 (Q e)) ⟨t', m⟩:=by
  intro c
  induction c with
  |skip=>intro Q R t t' h m ok r H hl hi;exact⟨R, t, h, hl, r, H, hi⟩
  |exit id=>intro Q R t t' h m ok r H hl hi;exact⟨R, t, h, hl, r, H, hi⟩
  |ret=>intro Q R t t' h m ok r H hl hi;exact⟨R, t, h, hl, r, H, hi⟩
  |range=>intro Q R t t' h m ok r H hl hi;exact hi.elim
  |row l=>intro Q R t t' h m ok r H hl hi;exact Gu hG hP ok r H hl hi
  |seq a b iha ihb=>
    intro Q R t t' h m ok r H hl hi;simp only[lF.okH, aG]at ok;simp only[qB]at hi;simp only[awp];refine nC ?_ (iha ok.1 r H hl hi);rintro e s hs
    cases e with
    |normal=>
      obtain⟨R', t2, h2, a1, a2, a3, a4⟩:=hs;exact ihb ok.2 a2 a3 a1 a4
    |ret=>exact hs
    |exit id=>exact hs
  |cond c a b iha ihb=>
    intro Q R t t' h m ok r H hl hi;simp only[lF.okH, aG]at ok;simp only[qB]at hi;simp only[awp];have rc:=zhW hG r ok.1.1;generalize ev Γ t c=z at rc hi;generalize ev Γ t' c=z' at rc ⊢
    split at hi
    · cases rc
      exact⟨fun k=>iha ok.1.2 r H hl (hi.1 k), fun k=>ihb ok.2 r H hl (hi.2 k)⟩
    · exact hi.elim
  |block id c ih=>
    intro Q R t t' h m ok r H hl hi;simp only[qB]at hi;simp only[awp];refine nC ?_ (ih ok r H hl hi);rintro e s hs
    cases e with
    |normal=>exact hs
    |ret=>exact hs
    |exit i=>
      simp only[nT]
      split
      · rename_i e
        exact X7 (fun s hs=>by simp only[uf, if_pos e]at hs;exact hs) hs
      · rename_i e
        exact X7 (fun s hs=>by simp only[uf, if_neg e]at hs;exact hs) hs
  |loop c ih=>
    intro Q R t t' h m ok r H hl hi;simp only[qB]at hi;obtain⟨S, L, I, n0, hn, hS, ⟨names, hb⟩, hstep⟩:=hi;simp only[awp];obtain⟨R2, t2, h2, q1, q2, q3, q4, q5⟩:=OI (st:=⟨t', m⟩) hn hS hb r H hl;refine⟨fun n st=>∃ R t h, LeN N R0 R∧LR R t st.t∧HH R h st.m∧t.length=L∧I n (S.map (jT t)) h, n0, ⟨R2, t2, h2, q1, q2, q3, q4, q5⟩, ?_⟩;rintro n ⟨t1', m1⟩ ⟨R1, t1, h1, p1, p2, p3, p4, p5⟩;refine nC ?_ (ih (show c.okH gs=true from ok) p2 p3 p1 (hstep n t1 h1 p4 p5));rintro e s hs
    cases e with
    |normal=>
      obtain⟨R3, t3, h3, a1, a2, a3, n', names', a4, a5⟩:=hs;obtain⟨R4, t4, h4, w1, w2, w3, w4, w5⟩:=OI (st:=s) hn hS a5 a2 a3 a1;exact⟨n', a4, R4, t4, h4, w1, w2, w3, w4, w5⟩
    |ret=>exact hs
    |exit id=>exact hs
theorem TV{R:Ren}{t:List V}{h:Hl}{st:St}(r:LR R t st.t)(H:HH R h st.m){x:oZ}{v:V}(hx:qJ ⟨t, lk h⟩ x=some v):∃ v', qJ st x=some v'∧VR R v v':=by
  cases x with
  |tmp k=>cases hx;exact⟨_, rfl, r.getD k⟩
  |cell k s=>
    have rk:=r.getD k;simp only[qJ]at hx ⊢;generalize t.getD k (.val undef)=z at rk hx;generalize st.t.getD k (.val undef)=z' at rk ⊢
    cases rk with
    | @ptr b b' o r0=>
      simp only at hx ⊢
      cases h1:lk h b with
      |none=>rw[h1]at hx;cases hx
      |some y=>
      obtain⟨y', h2, h3⟩:=H.blk _ _ _ r0 h1;rw[h1]at hx;rw[h2]
      cases y with
      |var T cs=>
        cases y' with
        |var T' cs'=>exact AO h3.2 hx
        |_=>exact h3.elim
      |_=>cases hx
    |_=>cases hx
theorem TW{R:Ren}{t:List V}{h:Hl}{st:St}(r:LR R t st.t)(H:HH R h st.m):∀ {l:List oZ} {vs:List V}, qo ⟨t, lk h⟩ l=some vs→∃ vs', qo st l=some vs'∧LR R vs vs'
  |[], vs, hx=>by cases hx;exact⟨[], rfl, .nil⟩
  |x::l, vs, hx=>by
    simp only[qo]at hx ⊢
    cases h1:qJ ⟨t, lk h⟩ x with
    |none=>simp[h1]at hx
    |some v=>
      cases h2:qo ⟨t, lk h⟩ l with
      |none=>simp[h1, h2]at hx
      |some l' =>
        simp only[h1, h2]at hx;cases hx;obtain⟨v', a1, a2⟩:=TV r H h1;obtain⟨l2, b1, b2⟩:=TW r H h2;exact⟨v'::l2, by simp only[a1, b1], .cons a2 b2⟩
theorem Rk{R:Ren}{t:List V}{h:Hl}{st:St}(r:LR R t st.t)(H:HH R h st.m){l:List oZ}{v:V}(hx:resV l ⟨t, lk h⟩=some v):∃ v', resV l st=some v'∧VR R v v':=by
  unfold resV at hx ⊢
  split at hx
  · exact TV r H hx
  · simp only[Option.map_eq_some_iff]at hx ⊢
    obtain⟨vs, h1, rfl⟩:=hx;obtain⟨vs', a, b⟩:=TW r H h1;exact⟨_, ⟨vs', a, rfl⟩, .tup b⟩
def uU(rs:List oZ)(Q:V→Hl→Prop):Ex→HS→Prop
  | .exit _, _=>False
  |_, s=>∃ v, resV rs ⟨s.t, lk s.h⟩=some v∧Q v s.h
theorem Xt{R:Ren}{a b:List V}(r:LR R a b)(n:Nat):LR R (start n a) (start n b):=by
  unfold start;rw[←r.length];exact r.append (LR.replicate (.val _) _)
theorem uh(hm:P.follows .mixedOrders=true){H:Nat→List (Nat×List Nat)×List Nat}{f:FuncId}{F:AFn}(hF:qO P H f=some F){gs:List Nat}(hok:F.body.okH gs=true)(hG:GOk Γ gs)
    {args0 args:List V} {h0:Hl} {m:Store} (ha:LR R0 args0 args) (hH:HH R0 h0 m) (hN:∀ b b', R0 b b'→b<N) {Q:Out→Hl→Prop}
    (h:qB P Γ (fun v h=>Q (.pan v) h) N F.body (uU F.res fun v h=>Q (.ret v) h) ⟨start F.ntmps args0, h0⟩) :
    jB P Γ f args m fun o m'=>∃ S o0 h', R0.le S∧HH S h' m'∧OR S o0 o∧Q o0 h':=by
  have hle:∀ {S:Ren}, LeN N R0 S→R0.le S:=fun k b b' r=>k b b' (hN b b' r) r;refine jE hm hF ?_ ?_
  · rintro v m b x hb ⟨S, o0, h', s1, s2, s3, s4⟩
    refine⟨S, o0, h', s1, s2.to fun c c' y hc hy => ?_, s3, s4⟩;obtain⟨y', g, _⟩:=s2.blk _ _ _ hc hy;exact Store.jw _ _ (by rintro rfl;rw[hb]at g;cases g)
  · have hs:=Oe (R0:=R0) hG (Kp':=fun v m'=>∃ S o0 h', R0.le S∧HH S h' m'∧OR S o0 (.pan v)∧Q o0 h') (fun v m ⟨S, v0, h', a1, a2, a3, a4⟩=>⟨S, .pan v0, h', hle a1, a3, a2, a4⟩) hok (Xt ha F.ntmps) hH (LeN.refl N R0) h
    refine nC ?_ hs;rintro e s ⟨R, t, h, a1, a2, a3, a4⟩
    cases e with
    |exit id=>exact a4.elim
    |normal=>
      obtain⟨v, b1, b2⟩:=a4;obtain⟨v', c1, c2⟩:=Rk a2 a3 b1;exact⟨v', c1, s.m, fun _ _ q=>q, R, .ret v, h, hle a1, a3, c2, b2⟩
    |ret=>
      obtain⟨v, b1, b2⟩:=a4;obtain⟨v', c1, c2⟩:=Rk a2 a3 b1;exact⟨v', c1, s.m, fun _ _ q=>q, R, .ret v, h, hle a1, a3, c2, b2⟩
end
end Go.Av
