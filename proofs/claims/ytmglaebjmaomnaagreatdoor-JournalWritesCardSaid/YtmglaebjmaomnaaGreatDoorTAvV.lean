/- Abstract values that differ in the numbers of their blocks alone, and that operations come to such ones again. No condition. -/
import Derived.Test.YtmglaebjmaomnaaGreatDoorTAvB
open Bool renaming and_eq_true→aG
open List renaming getD_eq_getElem?_getD→aT, mem_cons_self→aU, mem_cons_of_mem→aX, all_cons→fV
open Option renaming map_eq_some_iff→aQ
set_option linter.unusedSimpArgs false
set_option linter.unusedVariables false
namespace Go.Av
open Go.RowKit
abbrev Ren:=Nat→Nat→Prop
def FB(R:Ren):Tok→Tok→Prop
 | .no,.no=>True
 | .non,.non=>True
 | .own,.own=>True
 | .full,.full=>True
 | .tip t v,.tip t' v' => R t t' ∧ v=v'
 | .zero b,.zero b' => b=b'
 | .tipz t v z,.tipz t' v' z' => R t t' ∧ v=v' ∧ z=z'
 |_,_=>False
def XH:Fn→Bool
 | .yield _=>false
 |_=>true
mutual
inductive VR (R:Ren):V→V→Prop
 |val (v:Value):VR R (.val v) (.val v)
 |ptr {b b':Nat} (o:Nat):R b b'→VR R (.ptr b o) (.ptr b' o)
 |elt {cs cs':List V}:LR R cs cs'→VR R (.elt cs) (.elt cs')
 |sl {es es' more more':List V} {k k':Tok}:LR R es es'→LR R more more'→FB R k k'→VR R (.sl es more k) (.sl es' more' k')
 |fn {f:Fn} {a a' c c':List V}:XH f=true→LR R a a'→LR R c c'→VR R (.fn f a c) (.fn f a' c')
 |ifc {t:TypeId} {v v':V}:VR R v v'→VR R (.ifc t v) (.ifc t v')
 |agg {cs cs':List V}:LR R cs cs'→VR R (.agg cs) (.agg cs')
 |tup {cs cs':List V}:LR R cs cs'→VR R (.tup cs) (.tup cs')
 |arr {b b':Nat} (o len cap:Nat):R b b'→VR R (.arr b o len cap) (.arr b' o len cap)
 |res {t t':Nat} (v z n:Nat):R t t'→VR R (.res t v z n) (.res t' v z n)
inductive LR (R:Ren):List V→List V→Prop
 |nil:LR R [] []
 |cons {v v':V} {l l':List V}:VR R v v'→LR R l l'→LR R (v::l) (v' :: l')
end
def Ren.le(R S:Ren):Prop:=∀ b b',R b b' → S b b'
section
variable {R S:Ren}
theorem FB.mono(h:R.le S){k k':Tok}(r:FB R k k'):FB S k k':=by
 cases k<;>cases k'<;>first|exact r|exact⟨h _ _ r.1,r.2⟩
mutual
theorem VR.mono(h:R.le S):∀ {v v':V},VR R v v'→VR S v v'
 |_,_,.val v=>.val v
 |_,_,.ptr o r=>.ptr o (h _ _ r)
 |_,_,.elt r=>.elt (r.mono h)
 |_,_,.sl a b c=>.sl (a.mono h) (b.mono h) (c.mono h)
 |_,_,.fn a b c=>.fn a (b.mono h) (c.mono h)
 |_,_,.ifc r=>.ifc (r.mono h)
 |_,_,.agg r=>.agg (r.mono h)
 |_,_,.tup r=>.tup (r.mono h)
 |_,_,.arr o l c r=>.arr o l c (h _ _ r)
 |_,_,.res v z n r=>.res v z n (h _ _ r)
theorem LR.mono(h:R.le S):∀ {v v':List V},LR R v v'→LR S v v'
 |_,_,.nil=>.nil
 |_,_,.cons a b=>.cons (a.mono h) (b.mono h)
end
theorem LR.length:∀ {v u:List V},LR R v u→v.length=u.length
 |_,_,.nil=>rfl
 |_,_,.cons _ k=>by simp[k.length]
theorem LR.get:∀ {v u:List V},LR R v u→∀ {i:Nat} {x:V},v[i]? = some x→∃ y,u[i]? = some y∧VR R x y
 |_,_,.nil,i,x,h=>by simp at h
 |_,_,.cons (v':=u) h k,i,x,hx=>by
  cases i with
  |zero=>simp at hx;subst hx;exact⟨u,by simp,h⟩
  |succ i=>simp at hx;obtain⟨y,hy,r⟩:=k.get hx;exact⟨y,by simpa using hy,r⟩
theorem LR.append:∀ {v u:List V},LR R v u→∀ {v' u':List V},LR R v' u'→LR R (v++v') (u++u')
 |_,_,.nil,_,_,k=>k
 |_,_,.cons h k,_,_,k'=>.cons h (k.append k')
theorem LR.take:∀ {v u:List V} (n:Nat),LR R v u→LR R (v.take n) (u.take n)
 |_,_,0,_=>by simpa using LR.nil
 |_,_,n+1,.nil=>by simpa using LR.nil
 |_,_,n+1,.cons h k=>by simpa using LR.cons h (k.take n)
theorem LR.drop:∀ {v u:List V} (n:Nat),LR R v u→LR R (v.drop n) (u.drop n)
 |_,_,0,h=>by simpa using h
 |_,_,n+1,.nil=>by simpa using LR.nil
 |_,_,n+1,.cons _ k=>by simpa using k.drop n
theorem LR.set:∀ {v u:List V} (i:Nat) {x y:V},LR R v u→VR R x y→LR R (v.set i x) (u.set i y)
 |_,_,_,_,_,.nil,_=>by simpa using LR.nil
 |_,_,0,_,_,.cons _ k,r=>by simpa using LR.cons r k
 |_,_,i+1,_,_,.cons h k,r=>by simpa using LR.cons h (k.set i r)
theorem LR.getD{v u:List V}(h:LR R v u)(i:Nat):VR R (v.getD i (.val undef)) (u.getD i (.val undef)):=by
 cases hv:v[i]? with
 |none=>
  have:u[i]? = none:=by rw[List.getElem?_eq_none_iff]at hv ⊢;rw[←h.length];exact hv
  simp only[aT,hv,this];exact .val undef
 |some x=>
  obtain⟨y,hy,r⟩:=h.get hv;simp only[aT,hv,hy];exact r
theorem LR.vals:∀ (l:List Value),LR R (l.map V.val) (l.map V.val)
 |[]=>.nil
 |v::l=>.cons (.val v) (LR.vals l)
theorem LR.cons_inv{v:V}{vs u:List V}(h:LR R (v::vs) u):∃ y ys,u=y::ys∧VR R v y∧LR R vs ys:=by
 cases h with
 |cons a b=>exact⟨_,_,rfl,a,b⟩
theorem LR.kN{u:List V}(h:LR R [] u):u=[]:=by cases h;rfl
theorem LR.replicate{v u:V}(h:VR R v u):∀ n,LR R (List.replicate n v) (List.replicate n u)
 |0=>.nil
 |n+1=>.cons h (LR.replicate h n)
theorem LR.map{α:Type}{f g:α→V}:∀ {l:List α},(∀ x∈l,VR R (f x) (g x))→LR R (l.map f) (l.map g)
 |[],_=>.nil
 |x::l,h=>.cons (h x (aU ..)) (LR.map fun y hy=>h y (aX _ hy))
theorem VR.cells{v u:V}(h:VR R v u):LR R v.cells u.cells:=by
 cases h with
 |agg h=>exact h
 |val v=>exact .cons (.val v) .nil
 |ptr o r=>exact .cons (.ptr o r) .nil
 |elt r=>exact .cons (.elt r) .nil
 |sl a b c=>exact .cons (.sl a b c) .nil
 |fn a b c=>exact .cons (.fn a b c) .nil
 |ifc r=>exact .cons (.ifc r) .nil
 |tup r=>exact .cons (.tup r) .nil
 |arr o l c r=>exact .cons (.arr o l c r) .nil
 |res v z n r=>exact .cons (.res v z n r) .nil
theorem zd2{v u:V}{x:Value}(h:VS v=some x)(r:VR R v u):VS u=some x:=by
 cases r<;>first|exact h|cases h
theorem XB:∀ {vs us:List V} {xs:List Value},H5 vs=some xs→LR R vs us→H5 us=some xs
 |[],us,xs,h,r=>by rw[r.kN];exact h
 |v::vs,us,xs,h,r=>by
  obtain⟨y,ys,rfl,r1,r2⟩:=r.cons_inv;simp only[H5]at h ⊢
  cases h0:VS v with
  |none=>simp[h0]at h
  |some x=>
   cases h1:H5 vs with
   |none=>simp[h0,h1]at h
   |some l=>
    simp only[h0,h1]at h;simp only[zd2 h0 r1,XB h1 r2];exact h
theorem Rq{v u:V}{x:Value}(h:raw v=some x)(r:VR R v u):raw u=some x:=by
 cases r with
 |val v=>exact h
 |agg k=>
  simp only[raw,aQ]at h ⊢;obtain⟨l,hl,e⟩:=h;exact⟨l,XB hl k,e⟩
 |ifc k=>
  cases k with
  |val v=>exact h
  |_=>simp[raw]at h
 |_=>simp[raw]at h
theorem SV(v:Value):VR R (oL v) (oL v):=by
 unfold oL
 split
 ·exact .sl .nil .nil trivial
 ·exact .val _
theorem FV:∀ (l:List Value),LR R (l.map oL) (l.map oL)
 |[]=>.nil
 |v::l=>.cons (SV v) (FV l)
theorem Gj(v:Value):VR R (pG v) (pG v):=by
 unfold pG
 split
 ·exact .agg (FV _)
 ·exact .sl .nil .nil trivial
 ·exact .val _
def BR(R:Ren):Blk→Blk→Prop
 | .var T cs,.var T' cs' => T=T'∧LR R cs cs'
 | .tip T v,.tip T' v' => T=T' ∧ v=v'
 |_,_=>False
theorem BR.mono(h:R.le S){x y:Blk}(r:BR R x y):BR S x y:=by
 cases x<;>cases y<;>first|exact r|exact⟨r.1,r.2.mono h⟩
structure HR (R:Ren) (m m':Store):Prop where
 blk:∀ b b',R b b' → ∃ x x',m b=some x∧m' b' = some x'∧BR R x x'
 left:∀ b b' c',R b b' → R b c' → b' = c'
 right:∀ b c b',R b b' → R c b'→b=c
def WR(R:Ren)(m m':Store):Prop:=∀ b b' x,R b b'→m b=some x→∃ x',m' b' = some x'∧BR R x x'
theorem HR.weak{m m':Store}(H:HR R m m'):WR R m m':=by
 intro b b' x r h;obtain⟨y,y',h1,h2,h3⟩:=H.blk _ _ r;rw[h]at h1;cases h1;exact⟨y',h2,h3⟩
variable {P:Program} {ρ ρ':Operand→V} {m m':Store}
theorem pF{x:Option Operand}{n:Option Int}(hx:∀ y,x=some y→VR R (ρ y) (ρ' y))(h:lN ρ x=some n):lN ρ' x=some n:=by
 cases x with
 |none=>exact h
 |some y=>
  have r:=hx y rfl;simp only[lN]at h ⊢
  split at h
  ·rename_i k i hy;rw[hy]at r;generalize ρ' y=z at r;cases r;exact h
  ·cases h
theorem P8{k k':Tok}(r:FB R k k'):vz k'=vz k:=by
 cases k<;>cases k'<;>first|exact r.elim|rfl|(cases r;rfl)
theorem TM{k:Cmp}{v u:V}(r:VR R v u):nY k u=nY k v:=by
 cases r with
 |sl a b c=>
  cases k<;>first|rfl|skip
  cases a with
  |nil=>simp only[nY,P8 c]
  |cons _ _=>rfl
 |_=>cases k<;>rfl
theorem NY{k:Cmp}{v u:V}(r:VR R v u):kZ k u=kZ k v:=by
 cases r with
 | @sl es es' more more' k1 k2 a b c=>
  cases k<;>first|rfl|skip
  cases a with
  |cons _ _=>rfl
  |nil=>
   cases b with
   |cons _ _=>rfl
   |nil=>cases k1<;>cases k2<;>first|rfl|exact c.elim
 |_=>cases k<;>rfl
theorem ze8{op:BinOp}{T:TypeId}{k:Cmp}{xo yo:Operand}{x y x' y' v:V}(hx:VR R x x')(hy:VR R y y')(h:kR P op T k xo yo x y=some v):kR P op T k xo yo x' y'=some v∧VR R v v:=by
 unfold kR at h ⊢;rw[TM hx,TM hy,NY hx,NY hy]
 split at h
 ·rename_i hc;rw[if_pos hc];refine⟨h,?_⟩
  split at h
  ·cases h;exact .val _
  ·cases h;exact .val _
  ·cases h
 ·rename_i hc;rw[if_neg hc]
  split at h
  ·rename_i hc2;rw[if_pos hc2];refine⟨h,?_⟩
   split at h
   ·cases h;exact .val _
   ·cases h;exact .val _
   ·cases h
  rename_i hc2;rw[if_neg hc2]
  split at h
  ·rename_i a b ha hb;rw[Rq ha hx,Rq hb hy];refine⟨h,?_⟩
   split at h
   ·split at h
    ·cases h;exact .val _
    ·cases h
   ·cases h
  ·cases h
theorem Yw:∀ {es es':List V},LR R es es'→LR R (flat es) (flat es')
 |_,_,.nil=>.nil
 |_,_,.cons a b=>by
  rw[lD,lD];exact a.cells.append (Yw b)
theorem zb9{mx:Bool}{k:IntKind}:∀ {xs ys:List V} {n:Int} {v:V},LR R xs ys→mmF mx k n xs=some v→mmF mx k n ys=some v∧VR R v v
 |_,_,n,v,.nil,h=>⟨h,by cases h;exact .val _⟩
 |_,_,n,v,.cons a b,h=>by
  cases a with
  |val u=>
   cases u<;>first|cases h|skip
   simp only[mmF]at h ⊢;exact zb9 b h
  |_=>cases h
theorem zhL{mx:Bool}{xs ys:List V}{v:V}(r:LR R xs ys)(h:mmV mx xs=some v):∃ v',mmV mx ys=some v'∧VR R v v':=by
 cases r with
 |nil=>cases h
 |cons a b=>
  cases a with
  |val u=>
   cases u<;>first|cases h|skip
   exact⟨v,zb9 b h⟩
  |_=>cases h
theorem AO{cs cs':List V}{off:Nat}{s:Option Nat}{v:V}(r:LR R cs cs')(h:mW cs off s=some v):∃ v',mW cs' off s=some v'∧VR R v v':=by
 cases s with
 |none=>exact r.get h
 |some n=>
  simp only[mW]at h ⊢;rw[←r.length]
  split at h
  ·rename_i hc;cases h;exact⟨_,if_pos hc,.agg ((r.drop off).take n)⟩
  ·cases h
theorem IE:∀ {l l':List V} {k:Nat} {cs us:List V} (off:Nat),LR R l l'→LR R cs us →
  LR R ((l.zipIdx k).foldl (fun cs x=>cs.set (off+x.2) x.1) cs) ((l'.zipIdx k).foldl (fun cs x=>cs.set (off+x.2) x.1) us)
 |_,_,k,cs,us,off,.nil,r=>r
 |_,_,k,cs,us,off,.cons h t,r=>by
  simp only[List.zipIdx_cons,List.foldl_cons];exact IE off t (r.set _ h)
theorem UR{α:Type}{off size:α→Nat}{f g:α→V}:∀ {parts:List α} {cs cs' us:List V},(∀ x∈parts,VR R (f x) (g x))→LR R cs us→ng cs (parts.map fun x=>(off x,size x,f x))=some cs' →
  ∃ us',ng us (parts.map fun x=>(off x,size x,g x))=some us'∧LR R cs' us'
 |[],cs,cs',us,hp,r,h=>by
  cases h;exact⟨us,rfl,r⟩
 |x::parts,cs,cs',us,hp,r,h=>by
  have hx:=hp x (aU ..);have hc:=hx.cells;simp only[List.map_cons,ng]at h ⊢;rw[←hc.length,←r.length]
  split at h
  ·rename_i hcond;rw[if_pos hcond];exact UR (fun y hy=>hp y (aX _ hy)) (IE _ hc r) h
  ·cases h
theorem UA{α:Type}{size:Nat}{idx:α→Nat}{f g:α→V}:∀ {parts:List α} {cs cs' us:List V},(∀ x∈parts,VR R (f x) (g x))→LR R cs us→pI size cs (parts.map fun x=>(idx x,f x))=some cs' →
  ∃ us',pI size us (parts.map fun x=>(idx x,g x))=some us'∧LR R cs' us'
 |[],cs,cs',us,hp,r,h=>by
  cases h;exact⟨us,rfl,r⟩
 |x::parts,cs,cs',us,hp,r,h=>by
  have hx:=hp x (aU ..);simp only[List.map_cons,pI]at h ⊢;rw[←hx.cells.length,←r.length]
  split at h
  ·rename_i hcond;rw[if_pos hcond];exact UA (fun y hy=>hp y (aX _ hy)) (r.set _ hx) h
  ·cases h
theorem zax{v u:V}{b:UInt8}(r:VR R v u)(h:byteOf v=some b):byteOf u=some b:=by
 cases r<;>first|exact h|cases h
theorem OD:∀ {vs us:List V} {l:List UInt8},LR R vs us→bytesOf vs=some l→bytesOf us=some l
 |[],us,l,r,h=>by rw[r.kN];exact h
 |v::vs,us,l,r,h=>by
  obtain⟨y,ys,rfl,r1,r2⟩:=r.cons_inv;simp only[bytesOf]at h ⊢
  cases h0:byteOf v with
  |none=>simp[h0]at h
  |some x=>
   cases h1:bytesOf vs with
   |none=>simp[h0,h1]at h
   |some l=>
    simp only[h0,h1]at h;simp only[zax r1 h0,OD r2 h1];exact h
theorem KY{s:Nat}:∀ {vs us:List V},LR R vs us→oq s vs=oq s us
 |_,_,.nil=>rfl
 |_,_,.cons a b=>by
  have:=KY (s:=s) b;simp only[oq,fV]at this ⊢;rw[this,a.cells.length]
theorem zar{k k':Tok}{l n:Nat}(r:FB R k k'):FB R (wL k l n) (wL k' l n):=by
 cases k<;>cases k'<;>first|exact r.elim|skip
 ·trivial
 ·simp only[wL]
  split
  ·trivial
  ·split
   ·trivial
   ·rfl
 ·simp only[wL]
  split
  ·exact r
  ·trivial
 ·exact r
 ·simp only[wL]
  split
  ·exact r
  ·trivial
 ·trivial
 ·simp only[wL]
  split<;>trivial
theorem zas{es es':List V}{k k':Tok}{l h:Nat}(re:LR R es es')(r:FB R k k'):FB R (GG es k l h) (GG es' k' l h):=by
 unfold GG
 split
 ·trivial
 ·cases re with
  |cons _ _=>cases k<;>cases k'<;>first|exact r.elim|rfl
  |nil=>cases k<;>cases k'<;>first|exact r.elim|exact r|trivial|rfl
theorem ze0{es es' more more':List V}{k k':Tok}{lo hi mx:Option Int}{v:V}(r1:LR R es es')(r2:LR R more more')(r3:FB R k k')(h:cutV es more k lo hi mx=some v):∃ v',cutV es' more' k' lo hi mx=some v'∧VR R v v':=by
 unfold cutV at h ⊢
 dsimp only at h ⊢
 rw[←r1.length,←r2.length]
 cases mx with
 |some n=>
  simp only at h ⊢
  split at h
  ·rename_i hc;cases h;exact⟨_,if_pos hc,.sl ((r1.take _).drop _) .nil (zas r1 r3)⟩
  ·cases h
 |none=>
  simp only at h ⊢
  split at h
  ·rename_i hc;rw[if_pos hc]
   split at h
   ·rename_i hc2;rw[if_pos hc2];cases h;exact⟨_,rfl,.sl (r1.drop _) r2 (zar r3)⟩
   ·rename_i hc2;rw[if_neg hc2]
    split at h
    ·rename_i hc3;rw[if_pos hc3];cases h;exact⟨_,rfl,.sl (((r1.append r2).take _).drop _) ((r1.append r2).drop _) trivial⟩
    ·cases h
  ·cases h
def yu:V→Bool
 | .val _=>true
 | .sl [] [] .no=>true
 | .sl [] [] .full=>true
 | .sl [] [] (.zero _)=>true
 |_=>false
theorem QG{v:V}(h:yu v=true):VR R v v:=by
 unfold yu at h
 split at h
 ·exact .val _
 ·exact .sl .nil .nil trivial
 ·exact .sl .nil .nil trivial
 ·exact .sl .nil .nil rfl
 ·cases h
theorem rX:∀ {l:List V},l.all yu=true→LR R l l
 |[],_=>.nil
 |v::l,h=>by
  simp only[fV,aG]at h;exact .cons (QG h.1) (rX h.2)
def uk:AOp→Bool
 | .mkf f _ _=>XH f
 | .build z _=>z.all yu
 | .lits _ z _ _=>z.all yu
 | .alloc _ z=>z.all yu
 | .mks _ _ z _ _=>z.all yu
 |_=>true
theorem zdo{T:TypeId}{x x' v:V}(r:VR R x x')(h:I7 P T x=some v):∃ v',I7 P T x' = some v'∧VR R v v':=by
 have hz0:∀ {z},zeroAt P T=some z→VR R z z:=by
  intro z hz;unfold zeroAt at hz
  split at hz
  ·split at hz
   ·cases hz;exact Gj _
   ·cases hz
  ·cases hz
 unfold I7 at h ⊢
 split at h
 ·rename_i want z hT hz;have rz:=hz0 hz
  split at h
  ·cases h;cases r;exact⟨_,rfl,.tup (.cons rz (.cons (.val _) .nil))⟩
  ·rename_i t y
   cases r with
   |ifc r=>
    split at h
    ·rename_i i hi;cases h;simp only[hi];refine⟨_,rfl,?_⟩;cases (lacking want i.methods).isEmpty
     ·exact .tup (.cons rz (.cons (.val _) .nil))
     ·exact .tup (.cons (.ifc r) (.cons (.val _) .nil))
    ·cases h
  ·cases h
 ·rename_i d z hne hT hz;have rz:=hz0 hz
  split at h
  ·cases h;cases r;exact⟨_,rfl,.tup (.cons rz (.cons (.val _) .nil))⟩
  ·rename_i t y
   cases r with
   |ifc r=>
    cases h;refine⟨_,rfl,?_⟩;cases Nat.beq t T
    ·exact .tup (.cons rz (.cons (.val _) .nil))
    ·exact .tup (.cons r (.cons (.val _) .nil))
  ·cases h
 ·cases h
theorem IJ{ao:AOp}{v:V}(hp:uk ao=true)(hρ:∀ x∈ao.jX,VR R (ρ x) (ρ' x))(hm:WR R m m')(h:jJ P ρ m ao=some v):∃ v',jJ P ρ' m' ao=some v'∧VR R v v':=by
 cases ao with
 |mov x=>cases h;exact⟨_,rfl,hρ x (by simp[AOp.jX])⟩
 |pick c a b=>
  have rc:=hρ c (by simp[AOp.jX]);simp only[jJ]at h ⊢
  split at h
  ·rename_i t hc;rw[hc]at rc;generalize ρ' c=z at rc ⊢;cases rc;cases h;refine⟨_,rfl,?_⟩;cases t
   ·exact hρ b (by simp[AOp.jX])
   ·exact hρ a (by simp[AOp.jX])
  ·cases h
 |build z parts=>
  simp only[jJ,aQ]at h ⊢;obtain⟨cs,h1,rfl⟩:=h;obtain⟨us,h2,r⟩:=UR (f:=fun x=>ρ x.2.2) (g:=fun x=>ρ' x.2.2) (fun x hx=>hρ x.2.2 (List.mem_map.2 ⟨x,hx,rfl⟩)) (rX hp) h1;exact⟨_,⟨us,h2,rfl⟩,.agg r⟩
 |lits s z len parts=>
  simp only[jJ,aQ]at h ⊢;obtain⟨cs,h1,rfl⟩:=h
  have hz:∀ n,VR R (if n=1 then z.headD (.val undef)else .agg z) (if n=1 then z.headD (.val undef)else .agg z):=by
   intro n
   split
   ·cases z with
    |nil=>exact .val _
    |cons a z=>
     have:yu a=true:=by
      have:=hp;simp only[uk,fV,aG]at this;exact this.1
     exact QG this
   ·exact .agg (rX hp)
  obtain⟨us,h2,r⟩:=UA (f:=fun x=>ρ x.2) (g:=fun x=>ρ' x.2) (fun x hx=>hρ x.2 (List.mem_map.2 ⟨x,hx,rfl⟩)) (LR.replicate (hz s) len) h1;refine⟨_,⟨us,h2,rfl⟩,.sl r .nil ?_⟩;unfold Gt
  split
  ·rfl
  ·cases (parts.all fun x=>NZ x.2)&&u8z z<;>trivial
 |load s x=>
  have rx:=hρ x (by simp[AOp.jX]);simp only[jJ]at h ⊢;generalize ρ x=a at rx h;generalize ρ' x=a' at rx ⊢
  cases rx with
  |elt r=>exact AO r h
  | @ptr b b' o r=>
   cases h1:m b with
   |none=>simp only[h1]at h;cases h
   |some y=>
   obtain⟨y',h2,h3⟩:=hm _ _ _ r h1;simp only[h1]at h;simp only[h2]
   cases y with
   |var T cs=>
    cases y' with
    |var T' cs'=>exact AO h3.2 h
    |_=>exact h3.elim
   |_=>cases h
  |_=>cases h
 |nilc x=>
  have rx:=hρ x (by simp[AOp.jX]);simp only[jJ]at h ⊢;generalize ρ x=a at rx h;generalize ρ' x=a' at rx ⊢
  cases rx with
  |elt r=>cases h;exact⟨_,rfl,.elt r⟩
  |ptr o r=>cases h;exact⟨_,rfl,.ptr o r⟩
  | @fn f a a' c c' x y z=>cases f<;>first|(cases h;exact⟨_,rfl,.fn x y z⟩)|cases h
  |_=>cases h
 |bin op T k x y=>exact⟨v,ze8 (hρ x (by simp[AOp.jX])) (hρ y (by simp[AOp.jX])) h⟩
 |un op x=>
  have rx:=hρ x (by simp[AOp.jX]);simp only[jJ]at h ⊢
  split at h
  ·rename_i a ha;rw[Rq ha rx];refine⟨v,h,?_⟩
   split at h
   ·split at h
    ·cases h;exact .val _
    ·cases h
   ·cases h
  ·cases h
 |conv s d x=>
  have rx:=hρ x (by simp[AOp.jX]);simp only[jJ]at h ⊢
  split at h
  ·rename_i a ha;rw[Rq ha rx];refine⟨v,h,?_⟩
   split at h
   ·split at h
    ·cases h;exact .val _
    ·cases h
   ·cases h
  ·cases h
 |b2s x=>
  have rx:=hρ x (by simp[AOp.jX]);simp only[jJ]at h ⊢;generalize ρ x=a at rx h;generalize ρ' x=a' at rx ⊢
  cases rx with
  | @sl es es' more more' k k' r1 r2 r3=>
   simp only at h ⊢
   cases hb:bytesOf es with
   |none=>simp[hb]at h
   |some l=>
    simp only[hb]at h;cases h;simp only[OD r1 hb];exact⟨_,rfl,.val _⟩
  |_=>cases h
 |mki T x=>cases h;exact⟨_,rfl,.ifc (hρ x (by simp[AOp.jX]))⟩
 |mkf fn f c=>cases h;exact⟨_,rfl,.fn hp (LR.map fun x hx=>hρ x (List.mem_append_left _ hx)) (LR.map fun x hx=>hρ x (List.mem_append_right _ hx))⟩
 |sliceS x lo hi=>
  have rx:=hρ x (by simp[AOp.jX]);simp only[jJ]at h ⊢
  split at h
  ·rename_i s l hh h0 h1 h2;rw[h0]at rx;generalize ρ' x=a' at rx ⊢;cases rx;rw[pF (fun y hy=>hρ y (by subst hy;simp[AOp.jX])) h1,pF (fun y hy=>hρ y (by subst hy;simp[AOp.jX])) h2];refine⟨v,h,?_⟩
   split at h
   ·cases h;exact .val _
   ·cases h
  ·cases h
 |sliceL s x lo hi mx=>
  have rx:=hρ x (by simp[AOp.jX]);simp only[jJ]at h ⊢
  split at h
  ·rename_i es more tok l hh n h0 h1 h2 h3;rw[h0]at rx;generalize ρ' x=a' at rx ⊢
   cases rx with
   |sl r1 r2 r3=>
    rw[pF (fun y hy=>hρ y (by subst hy;simp[AOp.jX])) h1,pF (fun y hy=>hρ y (by subst hy;simp[AOp.jX])) h2,pF (fun y hy=>hρ y (by subst hy;simp[AOp.jX])) h3];simp only;rw[←KY (r1.append r2)]
    split at h
    ·rename_i hc;rw[if_pos hc];exact ze0 r1 r2 r3 h
    ·cases h
  ·rename_i b o len cap l hh n h0 h1 h2 h3;rw[h0]at rx;generalize ρ' x=a' at rx ⊢
   cases rx with
   |arr o l c r=>
    rw[pF (fun y hy=>hρ y (by subst hy;simp[AOp.jX])) h1,pF (fun y hy=>hρ y (by subst hy;simp[AOp.jX])) h2,pF (fun y hy=>hρ y (by subst hy;simp[AOp.jX])) h3];simp only
    split at h
    ·cases h;exact⟨_,rfl,.arr _ _ _ r⟩
    ·cases h
  ·rename_i t v z n h0 h1 h2 h3;rw[h0]at rx;generalize ρ' x=a' at rx ⊢
   cases rx with
   |res v z n r=>
    rw[pF (fun y hy=>hρ y (by subst hy;simp[AOp.jX])) h1,pF (fun y hy=>hρ y (by subst hy;simp[AOp.jX])) h2,pF (fun y hy=>hρ y (by subst hy;simp[AOp.jX])) h3];simp only
    split at h
    ·rename_i hc;rw[if_pos hc];cases h;exact⟨_,rfl,.sl .nil .nil ⟨r,rfl,rfl⟩⟩
    ·cases h
  ·cases h
 |sliceP n s x lo hi mx=>
  have rx:=hρ x (by simp[AOp.jX]);simp only[jJ]at h ⊢
  split at h
  ·rename_i b o l hh n h0 h1 h2 h3;rw[h0]at rx;generalize ρ' x=a' at rx ⊢
   cases rx with
   |ptr o r=>
    rw[pF (fun y hy=>hρ y (by subst hy;simp[AOp.jX])) h1,pF (fun y hy=>hρ y (by subst hy;simp[AOp.jX])) h2,pF (fun y hy=>hρ y (by subst hy;simp[AOp.jX])) h3];simp only
    split at h
    ·cases h;exact⟨_,rfl,.arr _ _ _ r⟩
    ·cases h
  ·cases h
 |s2ap n x=>
  have rx:=hρ x (by simp[AOp.jX]);simp only[jJ]at h ⊢;generalize ρ x=a at rx h;generalize ρ' x=a' at rx ⊢
  cases rx with
  |sl r1 r2 r3=>
   simp only at h ⊢;rw[←r1.length]
   split at h
   ·rename_i hc;rw[if_pos hc];cases h;exact⟨_,rfl,.elt (Yw (r1.append r2))⟩
   ·cases h
  |arr o l c r=>
   simp only at h ⊢
   split at h
   ·rename_i hc;rw[if_pos hc];cases h;exact⟨_,rfl,.ptr _ r⟩
   ·cases h
  |_=>cases h
 |asrt T x=>
  have rx:=hρ x (by simp[AOp.jX]);simp only[jJ]at h ⊢;exact zdo rx h
 |capS x=>
  have rx:=hρ x (by simp[AOp.jX]);simp only[jJ]at h ⊢;generalize ρ x=a at rx h;generalize ρ' x=a' at rx ⊢
  cases rx with
  | @sl es es' more more' k k' r1 r2 r3=>
   cases r2 with
   |cons _ _=>first|cases h|(cases k<;>cases h)|(cases r1<;>cases k<;>cases h)
   |nil=>
    cases k<;>cases k'<;>first|exact r3.elim|skip
    ·first|cases h|(cases r1<;>cases h)
    ·have hl:=r1.length
     cases r1 with
     |nil=>cases h;exact⟨_,rfl,.val _⟩
     |cons a b=>
      simp only at h ⊢;cases h;exact⟨_,by rw[←hl],.val _⟩
    ·first|cases h|(cases r1<;>cases h)
    ·cases r1 with
     |nil=>cases h;exact⟨_,rfl,.val _⟩
     |cons _ _=>cases h
    ·first|cases h|(cases r1<;>cases h)
    ·first|cases h|(cases r1<;>cases h)
    ·first|cases h|(cases r1<;>cases h)
  |arr o l c r=>cases h;exact⟨_,rfl,.val _⟩
  |_=>cases h
 |mm mx xs=>
  simp only[jJ]at h ⊢;exact zhL (LR.map fun x hx=>hρ x hx) h
 |idxArr n s a x i=>
  have rx:=hρ x (by simp[AOp.jX]);have ri:=hρ i (by simp[AOp.jX]);simp only[jJ]at h ⊢;generalize ρ x=b at rx h;generalize ρ' x=b' at rx ⊢;generalize ρ i=c at ri h;generalize ρ' i=c' at ri ⊢
  cases rx with
  |agg r=>
   cases ri with
   |val u=>
    cases u<;>first|cases h|skip
    simp only at h ⊢
    split at h
    ·rename_i hc;rw[if_pos hc];exact AO r h
    ·cases h
   |_=>cases h
  |_=>cases h
 |fieldA off x=>
  have rx:=hρ x (by simp[AOp.jX]);simp only[jJ]at h ⊢;generalize ρ x=a at rx h;generalize ρ' x=a' at rx ⊢
  cases rx with
  |elt r=>cases h;exact⟨_,rfl,.elt (r.drop off)⟩
  |ptr o r=>cases h;exact⟨_,rfl,.ptr _ r⟩
  |_=>cases h
 |field off s x=>
  have rx:=hρ x (by simp[AOp.jX]);simp only[jJ]at h ⊢;generalize ρ x=a at rx h;generalize ρ' x=a' at rx ⊢
  cases rx with
  |agg r=>exact AO r h
  |_=>cases h
 |idxA n s x i=>
  have rx:=hρ x (by simp[AOp.jX]);have ri:=hρ i (by simp[AOp.jX]);simp only[jJ]at h ⊢;generalize ρ x=a at rx h;generalize ρ' x=a' at rx ⊢;generalize ρ i=c at ri h;generalize ρ' i=c' at ri ⊢
  cases rx with
  |elt r=>
   cases ri with
   |val u=>
    cases u<;>first|cases h|skip
    simp only at h ⊢
    split at h
    ·rename_i hc;rw[if_pos hc];cases h;exact⟨_,rfl,.elt (r.drop _)⟩
    ·cases h
   |_=>cases h
  |ptr o r=>
   cases ri with
   |val u=>
    cases u<;>first|cases h|skip
    simp only at h ⊢
    split at h
    ·rename_i hc;rw[if_pos hc];cases h;exact⟨_,rfl,.ptr _ r⟩
    ·cases h
   |_=>cases h
  |_=>cases h
 |idxL s x i=>
  have rx:=hρ x (by simp[AOp.jX]);have ri:=hρ i (by simp[AOp.jX]);simp only[jJ]at h ⊢;generalize ρ x=a at rx h;generalize ρ' x=a' at rx ⊢;generalize ρ i=c at ri h;generalize ρ' i=c' at ri ⊢
  cases rx with
  | @sl es es' more more' k k' r1 r2 r3=>
   cases ri with
   |val u=>
    cases u<;>first|cases h|skip
    simp only at h ⊢
    split at h
    ·rename_i hc;rw[if_pos hc]
     split at h
     ·rename_i e he;obtain⟨e',he',r⟩:=r1.get he;simp only[he'];rw[←r.cells.length]
      split at h
      ·rename_i hc2;rw[if_pos hc2];cases h;exact⟨_,rfl,.elt r.cells⟩
      ·cases h
     ·cases h
    ·cases h
   |_=>cases h
  |arr o l c r=>
   cases ri with
   |val u=>
    cases u<;>first|cases h|skip
    simp only at h ⊢
    split at h
    ·rename_i hc;rw[if_pos hc];cases h;exact⟨_,rfl,.ptr _ r⟩
    ·cases h
   |_=>cases h
  |_=>cases h
 |idxStr x i=>
  have rx:=hρ x (by simp[AOp.jX]);have ri:=hρ i (by simp[AOp.jX]);simp only[jJ]at h ⊢;generalize ρ x=a at rx h;generalize ρ' x=a' at rx ⊢;generalize ρ i=c at ri h;generalize ρ' i=c' at ri ⊢
  cases rx with
  |val y=>
   cases ri with
   |val u=>
    refine⟨v,h,?_⟩
    split at h
    ·split at h
     ·split at h
      ·cases h;exact .val _
      ·cases h
     ·cases h
    ·cases h
   |_=>first|cases h|(cases y<;>cases h)
  |_=>cases h
 |len b x=>
  have rx:=hρ x (by simp[AOp.jX]);simp only[jJ]at h ⊢;generalize ρ x=a at rx h;generalize ρ' x=a' at rx ⊢
  cases rx with
  |val y=>
   refine⟨v,h,?_⟩
   split at h<;>first|(cases h;exact .val _)|cases h
  |sl r1 r2 r3=>
   cases b with
   |true=>cases h
   |false=>
    simp only at h ⊢;rw[←r1.length];cases h;exact⟨_,rfl,.val _⟩
  |arr o l c r=>cases b<;>first|(cases h;exact⟨_,rfl,.val _⟩)|cases h
  |res v z n r=>cases b<;>first|(cases h;exact⟨_,rfl,.val _⟩)|cases h
  |_=>cases b<;>cases h
 |ext x k=>
  have rx:=hρ x (by simp[AOp.jX]);simp only[jJ]at h ⊢;generalize ρ x=a at rx h;generalize ρ' x=a' at rx ⊢
  cases rx with
  |tup r=>exact r.get h
  |_=>cases h
 |_=>cases h
end
end Go.Av
