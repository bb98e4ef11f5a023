/- Operations over blocks that are numbered in turn, some of them forgotten: what they come to holds of any store that differs in the numbers alone. No condition. -/
import Derived.Test.YtmglaebjmaomnaaGreatDoorTAvZ
open List renaming length_cons→ax, replicate→bM
set_option linter.unusedSimpArgs false
set_option linter.unusedVariables false
namespace Go.Av
abbrev Hl:=List (Option Blk)
def lk:Hl→Store
 |[],_=>none
 |x::_,0=>x
 |_::h,n+1=>lk h n
def hset:Hl→Nat→Option Blk→Hl
 |[],_,_=>[]
 |_::h,0,x=>x::h
 |y::h,n+1,x=>y::hset h n x
theorem XY{x:Option Blk}{h:Hl}:lk (x::h) 0=x:=(rfl)
theorem XZ{x:Option Blk}{h:Hl}{n:Nat}:lk (x::h) (n+1)=lk h n:=(rfl)
theorem qY{x y:Option Blk}{h:Hl}:hset (y::h) 0 x=x::h:=(rfl)
theorem qZ{x y:Option Blk}{h:Hl}{n:Nat}:hset (y::h) (n+1) x=y::hset h n x:=(rfl)
theorem Eb:∀ {h:Hl} {b:Nat} {x:Blk},lk h b=some x→b<h.length
 |[],b,x,e=>by cases e
 |y::h,0,x,e=>by simp
 |y::h,b+1,x,e=>by
  have:=Eb (h:=h) e;simp;omega
theorem Gq:∀ (h:Hl) (y:Option Blk) (b:Nat),lk (h++[y]) b=if b=h.length then y else lk h b
 |[],y,0=>rfl
 |[],y,b+1=>by simp[lk]
 |x::h,y,0=>by simp[lk]
 |x::h,y,b+1=>by
  have:=Gq h y b;simp only[List.cons_append,lk,ax,this]
  by_cases e:b=h.length
  ·simp[e]
  ·rw[if_neg e,if_neg (by omega)]
theorem nU:∀ (h:Hl) (b:Nat) (x:Option Blk),(hset h b x).length=h.length
 |[],b,x=>rfl
 |y::h,0,x=>rfl
 |y::h,b+1,x=>by simp[hset,nU h b x]
theorem wS:∀ (h:Hl) (b:Nat) (x:Option Blk) (c:Nat),lk (hset h b x) c=if c=b∧b<h.length then x else lk h c
 |[],b,x,c=>by simp[hset,lk]
 |y::h,0,x,0=>by simp[hset,lk]
 |y::h,0,x,c+1=>by simp[hset,lk]
 |y::h,b+1,x,0=>by simp[hset,lk]
 |y::h,b+1,x,c+1=>by
  have:=wS h b x c;simp only[hset,lk,this,ax]
  by_cases e:c=b∧b<h.length
  ·rw[if_pos e,if_pos (by omega)]
  ·rw[if_neg e,if_neg (by omega)]
structure HH (R:Ren) (h:Hl) (m:Store):Prop where
 blk:WR R (lk h) m
 left:∀ b b' c',R b b' → R b c' → b' = c'
 right:∀ b c b' x y,R b b' → R c b'→lk h b=some x→lk h c=some y→b=c
 dom:∀ b b',R b b'→b<h.length∨1000000≤b
section
variable {R:Ren} {h:Hl} {m:Store}
theorem HH.fresh(H:HH R h m)(hl:h.length<1000000)(b':Nat):¬ R h.length b':=by
 intro r
 rcases H.dom _ _ r with k|k<;>omega
theorem HH.push(H:HH R h m){b':Nat}(hb:m b'=none)(hl:h.length<1000000){x x':Blk}(r:BR (R.add h.length b') x x'):HH (R.add h.length b') (h++[some x]) (m.set b' x') where
 blk:=by
  rintro a c y (k|⟨rfl,rfl⟩) hy
  ·rw[Gq]at hy;rw[if_neg (by rintro rfl;exact H.fresh hl _ k)]at hy;obtain⟨y',h2,h3⟩:=H.blk _ _ _ k hy;exact⟨y',by rw[Store.jw _ _ (by rintro rfl;rw[hb]at h2;cases h2)];exact h2,h3.mono (R.nD _ _)⟩
  ·rw[Gq,if_pos rfl]at hy;cases hy;exact⟨x',Store.jv _ _ _,r⟩
 left:=by
  rintro a c d (k|⟨rfl,rfl⟩) (k' | ⟨e1,e2⟩)
  ·exact H.left _ _ _ k k'
  ·subst e1;exact absurd k (H.fresh hl _)
  ·exact absurd k' (H.fresh hl _)
  ·exact e2.symm
 right:=by
  rintro a c d x1 y1 (k|⟨rfl,rfl⟩) (k' | ⟨e1,e2⟩) ha hc
  ·rw[Gq,if_neg (by rintro rfl;exact H.fresh hl _ k)]at ha;rw[Gq,if_neg (by rintro rfl;exact H.fresh hl _ k')]at hc;exact H.right _ _ _ _ _ k k' ha hc
  ·subst e2;rw[Gq,if_neg (by rintro rfl;exact H.fresh hl _ k)]at ha;obtain⟨y',h2,_⟩:=H.blk _ _ _ k ha;rw[hb]at h2;cases h2
  ·rw[Gq,if_neg (by rintro rfl;exact H.fresh hl _ k')]at hc;obtain⟨y',h2,_⟩:=H.blk _ _ _ k' hc;rw[hb]at h2;cases h2
  ·exact e1.symm
 dom:=by
  rintro a c (k|⟨rfl,rfl⟩)
  ·rcases H.dom _ _ k with q|q
   ·left;simp;omega
   ·right;exact q
  ·left;simp
theorem HH.put(H:HH R h m){b b':Nat}(r0:R b b'){x x' y:Blk}(hy:lk h b=some y)(r:BR R x x'):HH R (hset h b (some x)) (m.set b' x') where
 blk:=by
  intro a c z k hz;have hl:=Eb hy;rw[wS]at hz
  by_cases e:a=b
  ·subst e;rw[if_pos ⟨rfl,hl⟩]at hz;cases hz;obtain rfl:=H.left _ _ _ k r0;exact⟨x',Store.jv _ _ _,r⟩
  ·rw[if_neg (fun q=>e q.1)]at hz
   have e2:c≠b':=by
    rintro rfl;exact e (H.right _ _ _ _ _ k r0 hz hy)
   obtain⟨y',h2,h3⟩:=H.blk _ _ _ k hz;exact⟨y',by rw[Store.jw _ _ e2];exact h2,h3⟩
 left:=H.left
 right:=by
  intro a c d x1 y1 k k' ha hc
  have aux:∀ {a:Nat} {z:Blk},lk (hset h b (some x)) a=some z→∃ w,lk h a=some w:=by
   intro a z hz;rw[wS]at hz
   split at hz
   ·rename_i e;rw[e.1];exact⟨y,hy⟩
   ·exact⟨z,hz⟩
  obtain⟨w1,h1⟩:=aux ha;obtain⟨w2,h2⟩:=aux hc;exact H.right _ _ _ _ _ k k' h1 h2
 dom:=by
  intro a c k;rw[nU];exact H.dom _ _ k
theorem HH.drop(H:HH R h m)(b:Nat):HH R (hset h b none) m where
 blk:=by
  intro a c z k hz;rw[wS]at hz
  split at hz
  ·cases hz
  ·exact H.blk _ _ _ k hz
 left:=H.left
 right:=by
  intro a c d x1 y1 k k' ha hc;rw[wS]at ha hc
  split at ha
  ·cases ha
  ·split at hc
   ·cases hc
   ·exact H.right _ _ _ _ _ k k' ha hc
 dom:=by
  intro a c k;rw[nU];exact H.dom _ _ k
theorem HH.to(H:HH R h m){m':Store}(hm:∀ b b' x,R b b'→lk h b=some x→m' b' = m b'):HH R h m' where
 blk:=by
  intro a c z k hz;obtain⟨y',h2,h3⟩:=H.blk _ _ _ k hz;exact⟨y',by rw[hm _ _ _ k hz];exact h2,h3⟩
 left:=H.left
 right:=H.right
 dom:=H.dom
end
def OQ(P:Program)(Γ:jG)(g:FuncId)(args:List V)(h:Hl)(Q:Out→Hl→Prop):Prop:=
 ∀ (R:Ren) (args':List V) (m':Store),LR R args args'→HH R h m'→jB P Γ g args' m' fun o m''=>∃ (S:Ren) (o0:Out) (h':Hl),R.le S∧HH S h' m''∧OR S o0 o∧Q o0 h'
def Bd(P:Program)(Γ:jG)(ρ:Operand→V)(h:Hl)(K:V→Hl→Prop)(Kp:V→Hl→Prop):AOp→Prop
 | .alloc T cells=>h.length<1000000∧K (.ptr h.length 0) (h++[some (.var T cells)])
 | .box T x=>h.length<1000000∧K (.ptr h.length 0) (h++[some (.var T (ρ x).cells)])
 | .store size a x=>match ρ a with
  | .ptr b o=>match lk h b with
   |some (.var T cs)=>(ρ x).cells.length=size∧o+size≤cs.length∧(ρ x).cells.all oW=true∧K (.val undef) (hset h b (some (.var T (Ag cs o (ρ x).cells))))
   |_=>False
  |_=>False
 | .s2b e x=>match ρ x with
  | .val (.string s)=>h.length<1000000∧K (.sl (bytesV s) [] (.tip h.length 0)) (h++[some (.tip e 0)])
  |_=>False
 | .mark x=>match ρ x with
  | .sl es more .own=>K (.sl es more .own) h
  |_=>False
 | .app e bytes size s x=>match ρ s,extra (lk h) size (ρ x)with
  | .sl es more tok,some ys => (ys = [] → K (.sl es more tok) h) ∧ (ys ≠ [] → oq size es = true ∧ tH size ys = true ∧ Na (es.length + ys.length) bytes ∧ match tok with
   | .full=>more=[]∧h.length<1000000∧K (.sl (es++ys) [] (.tip h.length 0)) (h++[some (.tip e 0)])
   | .zero _=>more=[]∧h.length<1000000∧K (.sl (es++ys) [] (.tip h.length 0)) (h++[some (.tip e 0)])
   | .tip t v=>more=[]∧es≠[]∧lk h t=some (.tip e v)∧K (.sl (es++ys) [] (.tip t (v+1))) (hset h t (some (.tip e (v+1))))
   | .tipz t v z=>more=[]∧z=size∧lk h t=some (.tip e v)∧K (.sl (es++ys) [] (.tip t (v+1))) (hset h t (some (.tip e (v+1))))
   | .no=>False
   | .non=>False
   | .own=>False)
  |_,_=>False
 | .bad=>False
 | .panic x=>match ρ x with
  | .ifc t v=>Kp (.ifc t v) h
  |_=>False
 | .appz e bytes size s n=>match ρ s,ρ n with
  | .sl [] [] .full,.val (.int .i64 i)=>0<i∧i.toNat*bytes≤140737488355328∧h.length<1000000∧K (.res h.length 0 size i.toNat) (h++[some (.tip e 0)])
  |_,_=>False
 | .mks e bytes z len cap=>match ρ len,ρ cap with
  | .val (.int .i64 l),.val (.int .i64 c)=>0≤l∧l≤c∧c.toNat*bytes≤140737488355328∧h.length<1000000∧K (.arr h.length 0 l.toNat c.toNat) (h++[some (.var e (bM c.toNat z).flatten)])
  |_,_=>False
 | .call f args=>match ρ f with
  | .fn (.func g) first caps=>OQ P Γ g (first++args.map ρ++caps) h fun o h'=>match o with
   | .ret v=>K v h'
   | .pan v=>Kp v h'
  |_=>False
 |ao=>∃ v,jJ P ρ (lk h) ao=some v∧K v h
section
variable {P:Program} {Γ:jG} {R:Ren} {h:Hl} {m:Store} {ρ ρ':Operand→V}
theorem VR.Cf{es more:List V}{k:Tok}{v:V}(r:VR R (.sl es more k) v):∃ es' more' k',v = .sl es' more' k'∧LR R es es'∧LR R more more'∧FB R k k':=by
 cases r with
 |sl a b c=>exact⟨_,_,_,rfl,a,b,c⟩
theorem WA{ao:AOp}{K Kp:V→Hl→Prop}{K' Kp':V→Store→Prop}(hp:uk ao=true)(hρ:∀ x∈ao.jX,VR R (ρ x) (ρ' x))(H:HH R h m)(he:Bd P Γ ρ h K Kp ao)
  (hK:∀ S v v' h' m',K v h'→R.le S→VR S v v' → HH S h' m' → K' v' m') (hKp:∀ S v v' h' m',Kp v h'→R.le S→VR S v v' → HH S h' m' → Kp' v' m'):opE P Γ ρ' m K' Kp' ao:=by
 have quiet:∀ ao,uk ao=true→(∀ x∈ao.jX,VR R (ρ x) (ρ' x))→(∃ v,jJ P ρ (lk h) ao=some v∧K v h)→∃ v,jJ P ρ' m ao=some v∧K' v m:=by
  rintro ao hp hρ ⟨v,h1,h2⟩;obtain⟨v',h3,h4⟩:=IJ hp hρ H.blk h1;exact⟨v',h3,hK R v v' h m h2 R.le_refl h4 H⟩
 cases ao with
 |alloc T cells=>
  intro b hb;exact hK _ _ _ _ _ he.2 (R.nD _ _) (.ptr 0 (.inr ⟨rfl,rfl⟩)) (H.push hb he.1 ⟨rfl,rX hp⟩)
 |box T x=>
  intro b hb;exact hK _ _ _ _ _ he.2 (R.nD _ _) (.ptr 0 (.inr ⟨rfl,rfl⟩)) (H.push hb he.1 ⟨rfl,(hρ x (by simp[AOp.jX])).cells.mono (R.nD _ _)⟩)
 |store size a x=>
  have ra:=hρ a (by simp[AOp.jX]);have rx:=(hρ x (by simp[AOp.jX])).cells;simp only[Bd]at he;simp only[opE];generalize ρ a=z at ra he;generalize ρ' a=z' at ra ⊢
  cases ra with
  | @ptr b b' o r0=>
   simp only at he ⊢
   cases h1:lk h b with
   |none=>rw[h1]at he;exact he.elim
   |some y=>
   obtain⟨y',h2,h3⟩:=H.blk _ _ _ r0 h1;rw[h1]at he;rw[h2]
   cases y with
   |var T cs=>
    cases y' with
    |var T' cs' =>
     obtain⟨rfl,h3⟩:=h3;simp only at he ⊢;obtain⟨c1,c2,c3,c4⟩:=he;refine⟨by rw[←rx.length];exact c1,by rw[←h3.length];exact c2,Ib rx c3,?_⟩;exact hK R _ _ _ _ c4 R.le_refl (.val _) (H.put r0 h1 ⟨rfl,Q9 o rx h3⟩)
    |_=>exact h3.elim
   |_=>exact he.elim
  |_=>exact he.elim
 |s2b e x=>
  have rx:=hρ x (by simp[AOp.jX]);simp only[Bd]at he;simp only[opE];generalize ρ x=z at rx he;generalize ρ' x=z' at rx ⊢
  cases rx with
  |val v=>
   cases v<;>first|exact he.elim|skip
   intro b hb;exact hK _ _ _ _ _ he.2 (R.nD _ _) (.sl (LR.map (f:=fun b=>.val (.int .u8 (UInt8.toNat b))) (g:=fun b=>.val (.int .u8 (UInt8.toNat b))) fun x _=>.val _) .nil ⟨.inr ⟨rfl,rfl⟩,rfl⟩) (H.push hb he.1 ⟨rfl,rfl⟩)
  |_=>exact he.elim
 |mark x=>
  have rx:=hρ x (by simp[AOp.jX]);simp only[Bd]at he;simp only[opE];generalize ρ x=z at rx he;generalize ρ' x=z' at rx ⊢
  cases rx with
  | @sl es es' more more' k k' a b c=>
   cases k with
   |own=>
    cases k' with
    |own=>exact hK R _ _ _ _ he R.le_refl (.sl a b trivial) H
    |_=>exact c.elim
   |_=>exact he.elim
  |_=>exact he.elim
 |app e bytes size s x=>
  have rs:=hρ s (by simp[AOp.jX]);have rx:=hρ x (by simp[AOp.jX]);simp only[Bd]at he;simp only[opE];generalize ρ s=z at rs he;generalize ρ' s=z' at rs ⊢;generalize ρ x=y0 at rx he;generalize ρ' x=y0' at rx ⊢
  cases rs with
  | @sl es es' more more' tok tok' r1 r2 r3=>
   cases hex:extra (lk h) size y0 with
   |none=>rw[hex]at he;exact he.elim
   |some ys=>
    obtain⟨ys',hex',ry⟩:=UV H.blk rx hex;rw[hex]at he;rw[hex'];simp only at he ⊢;refine⟨?_,?_⟩
    ·rintro rfl;have:ys=[]:=List.length_eq_zero_iff.1 (by rw[ry.length];rfl);exact hK R _ _ _ _ (he.1 this) R.le_refl (.sl r1 r2 r3) H
    ·intro hne'
     have hne:ys≠[]:=by
      rintro rfl;exact hne' ry.kN
     obtain⟨c1,c2,c3,c4⟩:=he.2 hne;refine⟨by rw[←KY r1];exact c1,Ou ry c2,by rw[←r1.length,←ry.length];exact c3,?_⟩
     cases tok with
     |no=>exact c4.elim
     |non=>exact c4.elim
     |own=>exact c4.elim
     |full=>
      obtain⟨rfl,d1,d2⟩:=c4;obtain rfl:=r2.kN
      cases tok' with
      |full=>
       exact⟨rfl,fun t ht=>hK _ _ _ _ _ d2 (R.nD _ _) (.sl ((r1.append ry).mono (R.nD _ _)) .nil ⟨.inr ⟨rfl,rfl⟩,rfl⟩) (H.push ht d1 ⟨rfl,rfl⟩)⟩
      |_=>exact r3.elim
     |zero b=>
      obtain⟨rfl,d1,d2⟩:=c4;obtain rfl:=r2.kN
      cases tok' with
      |zero b=>
       exact⟨rfl,fun t ht=>hK _ _ _ _ _ d2 (R.nD _ _) (.sl ((r1.append ry).mono (R.nD _ _)) .nil ⟨.inr ⟨rfl,rfl⟩,rfl⟩) (H.push ht d1 ⟨rfl,rfl⟩)⟩
      |_=>exact r3.elim
     |tip t v=>
      obtain⟨rfl,d1,d2,d3⟩:=c4;obtain rfl:=r2.kN
      cases tok' with
      |tip t' v' =>
       obtain⟨r4,rfl⟩:=r3;obtain⟨z1,g2,g3⟩:=H.blk _ _ _ r4 d2
       cases z1 with
       |tip e'' v'' =>
        obtain⟨rfl,rfl⟩:=g3;refine⟨rfl,?_,g2,hK R _ _ _ _ d3 R.le_refl (.sl (r1.append ry) .nil ⟨r4,rfl⟩) (H.put r4 d2 ⟨rfl,rfl⟩)⟩;intro e;subst e;exact d1 (List.length_eq_zero_iff.1 (by rw[r1.length];rfl))
       |_=>exact g3.elim
      |_=>exact r3.elim
     |tipz t v z=>
      obtain⟨rfl,d1,d2,d3⟩:=c4;obtain rfl:=r2.kN
      cases tok' with
      |tipz t' v' z' =>
       obtain⟨r4,rfl,rfl⟩:=r3;obtain⟨z1,g2,g3⟩:=H.blk _ _ _ r4 d2
       cases z1 with
       |tip e'' v'' =>
        obtain⟨rfl,rfl⟩:=g3;exact⟨rfl,d1,g2,hK R _ _ _ _ d3 R.le_refl (.sl (r1.append ry) .nil ⟨r4,rfl⟩) (H.put r4 d2 ⟨rfl,rfl⟩)⟩
       |_=>exact g3.elim
      |_=>exact r3.elim
  |_=>exact he.elim
 |appz e bytes size s n=>
  have rs:=hρ s (by simp[AOp.jX]);have rn:=hρ n (by simp[AOp.jX]);simp only[Bd]at he;simp only[opE]
  split at he
  ·rename_i i h1 h2;rw[h1]at rs;rw[h2]at rn;generalize ρ' s=z at rs ⊢;generalize ρ' n=z' at rn ⊢;cases rn;obtain⟨es,more,k2,rfl,a,b,c⟩:=rs.Cf;obtain rfl:=a.kN;obtain rfl:=b.kN
   cases k2<;>first|exact c.elim|skip
   exact⟨he.1,he.2.1,fun t ht=>hK _ _ _ _ _ he.2.2.2 (R.nD _ _) (.res _ _ _ (.inr ⟨rfl,rfl⟩)) (H.push ht he.2.2.1 ⟨rfl,rfl⟩)⟩
  ·exact he.elim
 |mks e bytes z l c=>
  have rs:=hρ l (by simp[AOp.jX]);have rn:=hρ c (by simp[AOp.jX]);simp only[Bd]at he;simp only[opE]
  split at he
  ·rename_i l' c' h1 h2;rw[h1]at rs;rw[h2]at rn;generalize ρ' l=z1 at rs ⊢;generalize ρ' c=z2 at rn ⊢;cases rn;cases rs;refine⟨he.1,he.2.1,he.2.2.1,fun t ht=>hK _ _ _ _ _ he.2.2.2.2 (R.nD _ _) (.arr _ _ _ (.inr ⟨rfl,rfl⟩)) (H.push ht he.2.2.2.1 ⟨rfl,?_⟩)⟩
   have:∀ n,LR (R.add h.length t) (bM n z).flatten (bM n z).flatten:=by
    intro n
    induction n with
    |zero=>exact .nil
    |succ n ih=>
     rw[List.replicate_succ,List.flatten_cons];exact(rX hp).append ih
   exact this _
  ·exact he.elim
 |panic x=>
  have rx:=hρ x (by simp[AOp.jX]);simp only[Bd]at he;simp only[opE];generalize ρ x=z at rx he;generalize ρ' x=z' at rx ⊢
  cases rx with
  |ifc r=>exact hKp R _ _ _ _ he R.le_refl (.ifc r) H
  |_=>exact he.elim
 |bad=>exact he.elim
 |call f args=>
  have rf:=hρ f (by simp[AOp.jX]);simp only[Bd]at he;simp only[opE];generalize ρ f=z at rf he;generalize ρ' f=z' at rf ⊢
  cases rf with
  | @fn f a a' c c' x y z=>
   cases f<;>first|exact he.elim|skip
   simp only at he ⊢;refine(he R _ m ((y.append (LR.map fun x hx=>hρ x (by simp[AOp.jX,hx]))).append z) H).mono ?_;rintro o m' ⟨S,o0,h',s1,s2,s3,s4⟩
   cases o0 with
   |ret v=>
    cases o with
    |ret v'=>exact hK S v v' h' m' s4 s1 s3 s2
    |pan v'=>exact s3.elim
   |pan v=>
    cases o with
    |ret v'=>exact s3.elim
    |pan v'=>exact hKp S v v' h' m' s4 s1 s3 s2
  |_=>exact he.elim
 |_=>exact quiet _ hp hρ he
end
end Go.Av
