/- Codes and calls reckoned out over abstract values, and that what they come to holds of the program. No condition. -/
import Derived.Test.YtmglaebjmaomnaaGreatDoorTAvF
open Bool renaming eq_false_iff→eP, and_eq_true→aG
open List renaming all_cons→fV, replicate→bM
open Nat renaming beq→dI, ble→eY
set_option linter.unusedSimpArgs false
set_option linter.unusedVariables false
namespace Go.Av
open Go.RowKit
inductive Tr (α:Type) where
 |nil
 |node (l:Tr α) (v:Option α) (r:Tr α)
def Tr.get{α:Type}:Tr α→Nat→Option α
 | .nil,_=>none
 | .node l v r,i=>bif dI i 0 then v else bif dI (i%2) 1 then l.get (i / 2)else r.get (i / 2-1)
def Tr.set{α:Type}:Nat→Tr α→Nat→α→Tr α
 |0,t,_,_=>t
 |k+1,.nil,i,x=>bif dI i 0 then .node .nil (some x) .nil else bif dI (i%2) 1 then .node (Tr.set k .nil (i / 2) x) none .nil else .node .nil none (Tr.set k .nil (i / 2-1) x)
 |k+1,.node l v r,i,x=>bif dI i 0 then .node l (some x) r else bif dI (i%2) 1 then .node (Tr.set k l (i / 2) x) v r else .node l v (Tr.set k r (i / 2-1) x)
theorem LJ{a b:Nat}:dI a b=decide (a=b):=by
 by_cases h:a=b
 ·subst h;simp
 ·rw[decide_eq_false h,eP];exact fun k=>h (Nat.eq_of_beq_eq_true k)
theorem Tr.Su{α:Type}:∀ (k:Nat) (t:Tr α) (i:Nat) (x:α) (j:Nat),i<k→(Tr.set k t i x).get j=if j=i then some x else t.get j
 |0,_,_,_,_,h=>by omega
 |k+1,t,i,x,j,h=>by
  have h1:i / 2<k∨i=0:=by omega
  have h2:i / 2-1<k∨i=0∨i%2=1:=by omega
  have key:∀ (l:Tr α) (v:Option α) (r:Tr α),(bif dI i 0 then Tr.node l (some x) r else bif dI (i%2) 1 then .node (Tr.set k l (i / 2) x) v r else .node l v (Tr.set k r (i / 2-1) x)).get j=if j=i then some x else (Tr.node l v r).get j:=by
   intro l v r;simp only[LJ]
   by_cases e0:i=0
   ·subst e0;simp only[decide_true,cond_true,Tr.get,LJ]
    by_cases j0:j=0
    ·simp[j0]
    ·simp[j0]
   ·simp only[e0,decide_false,cond_false]
    by_cases e1:i%2=1
    ·simp only[e1,decide_true,cond_true,Tr.get,LJ]
     by_cases j0:j=0
     ·subst j0;rw[if_neg (by omega)];simp
     ·simp only[j0,decide_false,cond_false]
      by_cases j1:j%2=1
      ·simp only[j1,decide_true,cond_true];rw[Tr.Su k l _ x _ (by omega)]
       by_cases e:j=i
       ·subst e;simp
       ·rw[if_neg (by omega),if_neg e]
      ·simp only[j1,decide_false,cond_false];rw[if_neg (by omega)]
    ·simp only[e1,decide_false,cond_false,Tr.get,LJ]
     by_cases j0:j=0
     ·subst j0;rw[if_neg (by omega)];simp
     ·simp only[j0,decide_false,cond_false]
      by_cases j1:j%2=1
      ·simp only[j1,decide_true,cond_true];rw[if_neg (by omega)]
      ·simp only[j1,decide_false,cond_false];rw[Tr.Su k r _ x _ (by omega)]
       by_cases e:j=i
       ·subst e;simp
       ·rw[if_neg (by omega),if_neg e]
  cases t with
  |nil=>
   have:=key .nil none .nil
   have e:∀ j,(Tr.node (α:=α) .nil none .nil).get j=none:=by
    intro j;simp only[Tr.get];cases dI j 0<;>cases dI (j%2) 1<;>rfl
   rw[e]at this;exact this
  |node l v r=>exact key l v r
def Tr.put{α:Type}(t:Tr α)(i:Nat)(x:α):Tr α:=Tr.set (i+1) t i x
theorem Tr.get_put{α:Type}(t:Tr α)(i:Nat)(x:α)(j:Nat):(t.put i x).get j=if j=i then some x else t.get j:=Tr.Su _ _ _ _ _ (Nat.lt_succ_self i)
structure Hp where
 n:Nat
 l:Tr Blk
def Hp.get(h:Hp)(b:Nat):Option Blk:=bif eY (b+1) h.n then h.l.get b else none
def Hp.push(h:Hp)(x:Blk):Hp:=⟨h.n+1,h.l.put h.n x⟩
def Hp.put(h:Hp)(b:Nat)(x:Blk):Hp:=⟨h.n,h.l.put b x⟩
theorem Hp.Oh(h:Hp)(b:Nat):h.get b=if b<h.n then h.l.get b else none:=by
 unfold Hp.get
 by_cases k:b<h.n
 ·rw[if_pos k,show eY (b+1) h.n=true from (Nat.ble_eq▸k:eY (b+1) h.n=true)];rfl
 ·rw[if_neg k,show eY (b+1) h.n=false from by rw[eP];exact fun x=>k (Nat.le_of_ble_eq_true x)];rfl
theorem Hp.UM(h:Hp)(x:Blk)(b:Nat):(h.push x).get b=if b=h.n then some x else h.get b:=by
 rw[Hp.Oh,Hp.Oh];obtain⟨n,l⟩:=h
 show(if b<n+1 then (l.put n x).get b else none)=if b=n then some x else (if b<n then l.get b else none)
 rw[Tr.get_put]
 by_cases e:b=n
 ·subst e;simp
 ·rw[if_neg e,if_neg e]
  by_cases k:b<n
  ·rw[if_pos k,if_pos (by omega)]
  ·rw[if_neg k,if_neg (by omega)]
theorem Hp.get_put{h:Hp}{b:Nat}{y:Blk}(hb:h.get b=some y)(x:Blk)(c:Nat):(h.put b x).get c=if c=b then some x else h.get c:=by
 rw[Hp.Oh]at hb ⊢;rw[Hp.Oh];obtain⟨n,l⟩:=h;have hb:(if b<n then l.get b else none)=some y:=hb
 show(if c<n then (l.put b x).get c else none)=if c=b then some x else (if c<n then l.get c else none)
 rw[Tr.get_put]
 split at hb
 ·rename_i hl
  by_cases e:c=b
  ·subst e;rw[if_pos hl,if_pos rfl,if_pos rfl]
  ·rw[if_neg e,if_neg e]
 ·cases hb
def Ren.add(R:Ren)(n b:Nat):Ren:=fun a c=>R a c∨(a=n∧c=b)
theorem Ren.nD(R:Ren)(n b:Nat):R.le (R.add n b):=fun _ _ h=>.inl h
theorem Ren.le_refl(R:Ren):R.le R:=fun _ _ h=>h
theorem Ren.le_trans{R S T:Ren}(h:R.le S)(k:S.le T):R.le T:=fun _ _ r=>k _ _ (h _ _ r)
section
variable {R:Ren} {h:Hp} {m:Store}
theorem HR.new(H:HR R h.get m){b':Nat}(hb:m b'=none):∀ b c',R b c'→b≠h.n∧c' ≠ b':=by
 intro b c' r;obtain⟨x,x',h1,h2,_⟩:=H.blk _ _ r;refine⟨?_,?_⟩
 ·rintro rfl;rw[Hp.Oh]at h1;simp at h1
 ·rintro rfl;rw[hb]at h2;cases h2
theorem HR.push(H:HR R h.get m){b':Nat}(hb:m b'=none){x x':Blk}(r:BR (R.add h.n b') x x'):HR (R.add h.n b') (h.push x).get (m.set b' x') where
 blk:=by
  rintro a c (k|⟨rfl,rfl⟩)
  ·obtain⟨n1,n2⟩:=H.new hb _ _ k;obtain⟨y,y',h1,h2,h3⟩:=H.blk _ _ k;exact⟨y,y',by rw[Hp.UM,if_neg n1];exact h1,by rw[Store.jw _ _ n2];exact h2,h3.mono (R.nD _ _)⟩
  ·exact⟨x,x',by rw[Hp.UM,if_pos rfl],Store.jv _ _ _,r⟩
 left:=by
  rintro a c d (k|⟨rfl,rfl⟩) (k' | ⟨e1,e2⟩)
  ·exact H.left _ _ _ k k'
  ·exact absurd e1 (H.new hb _ _ k).1
  ·exact absurd rfl (H.new hb _ _ k').1
  ·exact e2.symm
 right:=by
  rintro a c d (k|⟨rfl,rfl⟩) (k' | ⟨e1,e2⟩)
  ·exact H.right _ _ _ k k'
  ·exact absurd e2 (H.new hb _ _ k).2
  ·exact absurd rfl (H.new hb _ _ k').2
  ·exact e1.symm
theorem HR.put(H:HR R h.get m){b b':Nat}(r0:R b b'){x x':Blk}(r:BR R x x'):HR R (h.put b x).get (m.set b' x') where
 blk:=by
  intro a c k;obtain⟨z,z',g1,g2,_⟩:=H.blk _ _ r0
  by_cases e:a=b
  ·subst e;obtain rfl:=H.left _ _ _ k r0;exact⟨x,x',by rw[Hp.get_put g1,if_pos rfl],Store.jv _ _ _,r⟩
  ·have e2:c≠b':=by
    rintro rfl;exact e (H.right _ _ _ k r0)
   obtain⟨y,y',h1,h2,h3⟩:=H.blk _ _ k;exact⟨y,y',by rw[Hp.get_put g1,if_neg e];exact h1,by rw[Store.jw _ _ e2];exact h2,h3⟩
 left:=H.left
 right:=H.right
theorem HR.more{m0:Store}(H:HR R m0 m){b:Nat}{x:Blk}(hb:m b=none):HR R m0 (m.set b x) where
 blk:=by
  intro a c k;obtain⟨y,y',h1,h2,h3⟩:=H.blk _ _ k;exact⟨y,y',h1,by rw[Store.jw _ _ (by rintro rfl;rw[hb]at h2;cases h2)];exact h2,h3⟩
 left:=H.left
 right:=H.right
end
theorem NC{R:Ren}:∀ {l l':List V},LR R l l'→l.all oW=l'.all oW
 |_,_,.nil=>rfl
 |_,_,.cons a b=>by
  simp only[fV];rw[NC b];congr 1;cases a<;>rfl
theorem UV{R:Ren}{m m':Store}(H:WR R m m'){size:Nat}{x x':V}{ys:List V}(r:VR R x x')(h:extra m size x=some ys):∃ ys',extra m' size x'=some ys'∧LR R ys ys':=by
 cases r with
 |val v=>
  cases v<;>cases h
  exact⟨_,rfl,LR.map (f:=fun b=>.val (.int .u8 (UInt8.toNat b))) (g:=fun b=>.val (.int .u8 (UInt8.toNat b))) fun x _=>.val _⟩
 |sl a b c=>cases h;exact⟨_,rfl,a⟩
 | @arr b b' o l c r=>
  cases h1:m b with
  |none=>simp only[extra,h1]at h;cases h
  |some y=>
  obtain⟨y',h2,h3⟩:=H _ _ _ r h1;simp only[extra,h1]at h;simp only[extra,h2]
  cases y with
  |var T cs=>
   cases y' with
   |var T' cs' =>
    simp only at h ⊢
    split at h
    ·rename_i hc;cases h;have r2:=(h3.2.drop o).take l;rw[if_pos ⟨hc.1,by rw[←h3.2.length];exact hc.2.1,by rw[←NC r2];exact hc.2.2⟩];exact⟨_,rfl,r2⟩
    ·cases h
   |_=>exact h3.elim
  |_=>cases h
 |_=>cases h
theorem zea{R:Ren}{x x':V}(r:VR R x x'):oW x'=oW x:=by
 cases r<;>rfl
theorem Ib{R:Ren}:∀ {x x':List V},LR R x x'→x.all oW=true→∀ c∈x',oW c=true
 |_,_,.nil,_,c,hc=>by cases hc
 |_,_,.cons a b,h,c,hc=>by
  simp only[fV,aG]at h
  rcases List.mem_cons.1 hc with rfl|hc
  ·rw[zea a];exact h.1
  ·exact Ib b h.2 c hc
theorem Q9{R:Ren}:∀ {xs xs':List V} (o:Nat) {cs cs':List V},LR R xs xs'→LR R cs cs'→LR R (Ag cs o xs) (Ag cs' o xs')
 |_,_,o,cs,cs',.nil,r=>by simpa [Ag] using r
 |_,_,o,cs,cs',.cons a b,r=>by
  simp only[Ag];exact Q9 (o+1) b (r.set o a)
def tH(size:Nat)(ys:List V):Bool:=ys.all fun y=>y.cells.length==size&&y.cells.all oW
theorem Ou{R:Ren}{size:Nat}:∀ {ys ys':List V},LR R ys ys'→tH size ys=true→vM size ys'
 |_,_,.nil,_,y,hy=>by cases hy
 |_,_,.cons a b,h,y,hy=>by
  simp only[tH,fV,aG,beq_iff_eq]at h
  rcases List.mem_cons.1 hy with rfl|hy
  ·exact⟨by rw[←a.cells.length];exact h.1.1,Ib a.cells h.1.2⟩
  ·exact Ou b h.2 y hy
def ND(h:Hp)(size:Nat)(a x:V):Option (Out×Hp):=match a with
 | .ptr b o=>match h.get b with
  |some (.var T cs)=>if x.cells.length=size∧o+size≤cs.length∧x.cells.all oW=true then some (.ret (.val undef),h.put b (.var T (Ag cs o x.cells)))else none
  |_=>none
 |_=>none
def zbS(h:Hp)(e:TypeId)(x:V):Option (Out×Hp):=match x with
 | .val (.string s)=>some (.ret (.sl (bytesV s) [] (.tip h.n 0)),h.push (.tip e 0))
 |_=>none
def zbV(h:Hp)(e bytes size:Nat)(s:V)(x:Option (List V)):Option (Out×Hp):=match s,x with
 | .sl es more tok,some []=>some (.ret (.sl es more tok),h)
 | .sl es more tok,some (y :: ys) => if oq size es = true ∧ tH size (y :: ys) = true ∧ (es.length + (y :: ys).length) * bytes ≤ 140737488355328 then (match more,tok with
  |[],.full=>some (.ret (.sl (es++y::ys) [] (.tip h.n 0)),h.push (.tip e 0))
  |[],.zero _=>some (.ret (.sl (es++y::ys) [] (.tip h.n 0)),h.push (.tip e 0))
  |[],.tipz t v z=>match h.get t with
   |some (.tip e' v')=>if e' = e∧v'=v∧z=size then some (.ret (.sl (es++y::ys) [] (.tip t (v+1))),h.put t (.tip e (v+1)))else none
   |_=>none
  |[],.tip t v=>match es,h.get t with
   |_::_,some (.tip e' v')=>if e' = e∧v'=v then some (.ret (.sl (es++y::ys) [] (.tip t (v+1))),h.put t (.tip e (v+1)))else none
   |_,_=>none
  |_,_=>none)else none
 |_,_=>none
def Ur(call:FuncId→List V→Hp→Option (Out×Hp))(h:Hp)(f:V)(args:List V):Option (Out×Hp):=match f with
 | .fn (.func g) first caps=>call g (first++args++caps) h
 |_=>none
def P5(h:Hp)(e bytes size:Nat)(s n:V):Option (Out×Hp):=match s,n with
 | .sl [] [] .full,.val (.int .i64 i)=>if 0<i∧i.toNat*bytes≤140737488355328 then some (.ret (.res h.n 0 size i.toNat),h.push (.tip e 0))else none
 |_,_=>none
def ZH(h:Hp)(e bytes:Nat)(z:List V)(l c:V):Option (Out×Hp):=match l,c with
 | .val (.int .i64 l),.val (.int .i64 c)=>if 0≤l∧l≤c∧c.toNat*bytes≤140737488355328 then some (.ret (.arr h.n 0 l.toNat c.toNat),h.push (.var e (bM c.toNat z).flatten))else none
 |_,_=>none
def zgZ(h:Hp)(x:V):Option (Out×Hp):=match x with
 | .sl es more .own=>some (.ret (.sl es more .own),h)
 |_=>none
def Jv(h:Hp)(x:V):Option (Out×Hp):=match x with
 | .ifc t v=>some (.pan (.ifc t v),h)
 |_=>none
def zbT(h:Hp):Option V→Option (Out×Hp)
 |some v=>some (.ret v,h)
 |none=>none
def opI(P:Program)(call:FuncId→List V→Hp→Option (Out×Hp))(ρ:Operand→V)(h:Hp)(ao:AOp):Option (Out×Hp):=match ao with
 | .alloc T cells=>some (.ret (.ptr h.n 0),h.push (.var T cells))
 | .box T x=>some (.ret (.ptr h.n 0),h.push (.var T (ρ x).cells))
 | .store size a x=>ND h size (ρ a) (ρ x)
 | .s2b e x=>zbS h e (ρ x)
 | .mark x=>zgZ h (ρ x)
 | .app e bytes size s x=>zbV h e bytes size (ρ s) (extra h.get size (ρ x))
 | .appz e bytes size s n=>P5 h e bytes size (ρ s) (ρ n)
 | .mks e bytes z l c=>ZH h e bytes z (ρ l) (ρ c)
 | .panic x=>Jv h (ρ x)
 | .bad=>none
 | .call f args=>Ur call h (ρ f) (args.map ρ)
 |ao=>zbT h (IK P ρ h.get ao)
def OR(R:Ren):Out→Out→Prop
 | .ret v,.ret v'=>VR R v v'
 | .pan v,.pan v'=>VR R v v'
 |_,_=>False
def zgX(R:Ren)(r:Out×Hp):Out→Store→Prop:=fun o m'=>∃ S:Ren,R.le S∧HR S r.2.get m'∧OR S r.1 o
def Du(P:Program)(Γ:jG)(call:FuncId→List V→Hp→Option (Out×Hp)):Prop:=
 ∀ g args h r,call g args h=some r→∀ R args' m',LR R args args'→HR R h.get m'→jB P Γ g args' m' (zgX R r)
section
variable {P:Program} {Γ:jG} {call:FuncId→List V→Hp→Option (Out×Hp)} {R:Ren} {h:Hp} {m:Store} {ρ ρ':Operand→V}
theorem Zx(hc:Du P Γ call){ao:AOp}{r:Out×Hp}{K Kp:V→Store→Prop}(hp:uk ao=true)(hρ:∀ x∈ao.jX,VR R (ρ x) (ρ' x))(H:HR R h.get m)(he:opI P call ρ h ao=some r)
  (hK : ∀ S o m',R.le S → HR S r.2.get m' → OR S r.1 o → match o with
   | .ret v=>K v m'
   | .pan v=>Kp v m'):opE P Γ ρ' m K Kp ao:=by
 have quiet:∀ ao,uk ao=true→(∀ x∈ao.jX,VR R (ρ x) (ρ' x))→zbT h (IK P ρ h.get ao)=some r→∃ v,jJ P ρ' m ao=some v∧K v m:=by
  intro ao hp hρ he;rw[UY]at he
  cases h1:jJ P ρ h.get ao with
  |none=>rw[h1]at he;cases he
  |some v=>
  rw[h1]at he;cases he;obtain⟨v',h2,h3⟩:=IJ hp hρ H.weak h1;exact⟨v',h2,hK R (.ret v') m R.le_refl H h3⟩
 cases ao with
 |alloc T cells=>
  cases he;intro b hb;exact hK (R.add h.n b) (.ret _) _ (R.nD _ _) (H.push hb ⟨rfl,rX hp⟩) (.ptr 0 (.inr ⟨rfl,rfl⟩))
 |box T x=>
  cases he;intro b hb;exact hK (R.add h.n b) (.ret _) _ (R.nD _ _) (H.push hb ⟨rfl,(hρ x (by simp[AOp.jX])).cells.mono (R.nD _ _)⟩) (.ptr 0 (.inr ⟨rfl,rfl⟩))
 |store size a x=>
  have ra:=hρ a (by simp[AOp.jX]);have rx:=(hρ x (by simp[AOp.jX])).cells;simp only[opI,ND,zbS,zbV,Ur,P5,ZH,Jv]at he;simp only[opE];generalize ρ a=z at ra he;generalize ρ' a=z' at ra ⊢
  cases ra with
  | @ptr b b' o r0=>
   simp only at he ⊢;obtain⟨y,y',h1,h2,h3⟩:=H.blk _ _ r0;rw[h1]at he;rw[h2]
   cases y with
   |var T cs=>
    cases y' with
    |var T' cs' =>
     obtain⟨rfl,h3⟩:=h3;simp only at he ⊢
     split at he
     ·rename_i hcond;cases he;refine⟨by rw[←rx.length];exact hcond.1,by rw[←h3.length];exact hcond.2.1,Ib rx hcond.2.2,?_⟩;exact hK R (.ret _) _ R.le_refl (H.put r0 ⟨rfl,Q9 o rx h3⟩) (.val _)
     ·cases he
    |_=>exact h3.elim
   |_=>cases he
  |_=>cases he
 |s2b e x=>
  have rx:=hρ x (by simp[AOp.jX]);simp only[opI,ND,zbS,zbV,Ur,P5,ZH,Jv]at he;simp only[opE];generalize ρ x=z at rx he;generalize ρ' x=z' at rx ⊢
  cases rx with
  |val v=>
   cases v<;>first|cases he|skip
   intro b hb;exact hK (R.add h.n b) (.ret _) _ (R.nD _ _) (H.push hb ⟨rfl,rfl⟩) (.sl (LR.map (f:=fun b=>.val (.int .u8 (UInt8.toNat b))) (g:=fun b=>.val (.int .u8 (UInt8.toNat b))) fun x _=>.val _) .nil ⟨.inr ⟨rfl,rfl⟩,rfl⟩)
  |_=>cases he
 |mark x=>
  have rx:=hρ x (by simp[AOp.jX]);simp only[opI,zgZ]at he;simp only[opE];generalize ρ x=z at rx he;generalize ρ' x=z' at rx ⊢
  cases rx with
  | @sl es es' more more' k k' a b c=>
   cases k with
   |own=>
    cases k' with
    |own=>
     simp only[Option.some.injEq,Prod.mk.injEq]at he;cases he;exact hK R (.ret _) _ R.le_refl H (.sl a b trivial)
    |_=>exact c.elim
   |_=>cases he
  |_=>cases he
 |app e bytes size s x=>
  have rs:=hρ s (by simp[AOp.jX]);have rx:=hρ x (by simp[AOp.jX]);simp only[opI,ND,zbS,zbV,Ur,P5,ZH,Jv]at he;simp only[opE];generalize ρ s=z at rs he;generalize ρ' s=z' at rs ⊢;generalize ρ x=y0 at rx he;generalize ρ' x=y0' at rx ⊢
  cases rs with
  | @sl es es' more more' tok tok' r1 r2 r3=>
   cases hex:extra h.get size y0 with
   |none=>rw[hex]at he;cases he
   |some ys=>
    obtain⟨ys',hex',ry⟩:=UV H.weak rx hex;rw[hex]at he;rw[hex'];simp only
    cases ys with
    |nil=>
     obtain rfl:=ry.kN;cases he;exact⟨fun _=>hK R (.ret _) _ R.le_refl H (.sl r1 r2 r3),fun k=>absurd rfl k⟩
    |cons y ys=>
     simp only at he
     split at he
     ·rename_i hcond
      have hne:ys'≠[]:=by
       intro e;subst e;cases ry
      refine⟨fun e=>absurd e hne,fun _=>⟨by rw[←KY r1];exact hcond.1,Ou ry hcond.2.1,by rw[←r1.length,←ry.length];exact .inl hcond.2.2,?_⟩⟩
      split at he
      ·obtain rfl:=r2.kN
       cases tok' with
       |full=>
        cases he;refine⟨rfl,fun t ht => ?_⟩;exact hK (R.add h.n t) (.ret _) _ (R.nD _ _) (H.push ht ⟨rfl,rfl⟩) (.sl ((r1.append ry).mono (R.nD _ _)) .nil ⟨.inr ⟨rfl,rfl⟩,rfl⟩)
       |no=>exact r3.elim
       |non=>exact r3.elim
       |own=>exact r3.elim
       |tip _ _=>exact r3.elim
       |zero _=>exact r3.elim
       |tipz _ _ _=>exact r3.elim
      ·obtain rfl:=r2.kN
       cases tok' with
       |zero b=>
        cases he;refine⟨rfl,fun t ht => ?_⟩;exact hK (R.add h.n t) (.ret _) _ (R.nD _ _) (H.push ht ⟨rfl,rfl⟩) (.sl ((r1.append ry).mono (R.nD _ _)) .nil ⟨.inr ⟨rfl,rfl⟩,rfl⟩)
       |_=>exact r3.elim
      ·rename_i t v z;obtain rfl:=r2.kN
       cases tok' with
       |tipz t' v' z' =>
        obtain⟨r4,rfl,rfl⟩:=r3;obtain⟨z1,z1',g1,g2,g3⟩:=H.blk _ _ r4;rw[g1]at he
        cases z1 with
        |tip e' v' =>
         cases z1' with
         |tip e'' v'' =>
          obtain⟨rfl,rfl⟩:=g3;simp only at he
          split at he
          ·rename_i hc2;obtain⟨rfl,rfl,rfl⟩:=hc2;cases he;exact⟨rfl,rfl,g2,hK R (.ret _) _ R.le_refl (H.put r4 ⟨rfl,rfl⟩) (.sl (r1.append ry) .nil ⟨r4,rfl⟩)⟩
          ·cases he
         |_=>exact g3.elim
        |_=>cases he
       |_=>exact r3.elim
      ·rename_i t v;obtain rfl:=r2.kN
       cases tok' with
       |zero _=>exact r3.elim
       |tipz _ _ _=>exact r3.elim
       |tip t' v' =>
        obtain⟨r4,rfl⟩:=r3;obtain⟨z,z',g1,g2,g3⟩:=H.blk _ _ r4;rw[g1]at he
        cases es with
        |nil=>cases he
        |cons e0 es0=>
         cases z with
         |tip e' v' =>
          cases z' with
          |tip e'' v'' =>
           obtain⟨rfl,rfl⟩:=g3;simp only at he
           split at he
           ·rename_i hc2;obtain⟨rfl,rfl⟩:=hc2;cases he;refine⟨rfl,?_,g2,hK R (.ret _) _ R.le_refl (H.put r4 ⟨rfl,rfl⟩) (.sl (r1.append ry) .nil ⟨r4,rfl⟩)⟩;intro e;subst e;cases r1
           ·cases he
          |_=>exact g3.elim
         |_=>cases he
       |no=>exact r3.elim
       |non=>exact r3.elim
       |own=>exact r3.elim
       |full=>exact r3.elim
      ·cases he
     ·cases he
  |_=>first|cases he|(cases extra h.get size y0<;>cases he)
 |appz e bytes size s n=>
  have rs:=hρ s (by simp[AOp.jX]);have rn:=hρ n (by simp[AOp.jX]);simp only[opI,P5]at he;simp only[opE]
  split at he
  ·rename_i i h1 h2
   split at he
   ·rename_i hc;cases he;rw[h1]at rs;rw[h2]at rn;generalize ρ' s=z at rs ⊢;generalize ρ' n=z' at rn ⊢;cases rn
    cases rs with
    | @sl _ _ _ _ _ k2 a b c=>
     obtain rfl:=a.kN;obtain rfl:=b.kN
     cases k2<;>first|exact c.elim|skip
     exact⟨hc.1,hc.2,fun t ht=>hK (R.add h.n t) (.ret _) _ (R.nD _ _) (H.push ht ⟨rfl,rfl⟩) (.res _ _ _ (.inr ⟨rfl,rfl⟩))⟩
   ·cases he
  ·cases he
 |mks e bytes z l c=>
  have rs:=hρ l (by simp[AOp.jX]);have rn:=hρ c (by simp[AOp.jX]);simp only[opI,ZH]at he;simp only[opE]
  split at he
  ·rename_i l' c' h1 h2
   split at he
   ·rename_i hc;cases he;rw[h1]at rs;rw[h2]at rn;generalize ρ' l=z1 at rs ⊢;generalize ρ' c=z2 at rn ⊢;cases rn;cases rs;refine⟨hc.1,hc.2.1,hc.2.2,fun t ht=>hK (R.add h.n t) (.ret _) _ (R.nD _ _) (H.push ht ⟨rfl,?_⟩) (.arr _ _ _ (.inr ⟨rfl,rfl⟩))⟩
    have:∀ n,LR (R.add h.n t) (bM n z).flatten (bM n z).flatten:=by
     intro n
     induction n with
     |zero=>exact .nil
     |succ n ih=>
      rw[List.replicate_succ,List.flatten_cons];exact(rX hp).append ih
    exact this _
   ·cases he
  ·cases he
 |panic x=>
  have rx:=hρ x (by simp[AOp.jX]);simp only[opI,Jv]at he;simp only[opE];generalize ρ x=z at rx he;generalize ρ' x=z' at rx ⊢
  cases rx with
  |ifc r=>
   cases he;exact hK R (.pan _) _ R.le_refl H (.ifc r)
  |_=>cases he
 |bad=>cases he
 |call f args=>
  have rf:=hρ f (by simp[AOp.jX]);simp only[opI,ND,zbS,zbV,Ur,P5,ZH,Jv]at he;simp only[opE];generalize ρ f=z at rf he;generalize ρ' f=z' at rf ⊢
  cases rf with
  | @fn f a a' c c' x y z=>
   cases f<;>first|cases he|skip
   simp only at he ⊢;refine(hc _ _ _ _ he R _ m (((y.append (LR.map fun x hx=>hρ x (by simp[AOp.jX,hx]))).append z)) H).mono ?_;rintro o m' ⟨S,s1,s2,s3⟩;exact hK S o m' s1 s2 s3
  |_=>cases he
 |_=>exact quiet _ hp hρ he
end
end Go.Av
