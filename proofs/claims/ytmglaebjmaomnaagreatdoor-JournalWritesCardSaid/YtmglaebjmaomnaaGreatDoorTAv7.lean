/- The operations of the layer Av that leave memory alone, second part: cuts, fields, indexes, what is built. No condition. -/
import Derived.Test.YtmglaebjmaomnaaGreatDoorTAv6
open List renaming length_append→aH, mem_cons_self→aU, mem_of_mem_take→dw, length_take→bf, length_nil→aA, append_nil→aS, take_of_length_le→bG, drop_append_of_le_length→gB
open Nat renaming mul_le_mul_right→gV
open Option renaming getD_some→bZ, getD_none→bY
open Option.some renaming injEq→au
open Prod.mk renaming injEq→bz
set_option linter.unusedSimpArgs false
set_option linter.unusedVariables false
namespace Go.Av
open Go.RowKit
section
variable {P:Program} {Γ:jG} {B0:Nat} {G:Gh} {m mm:Store} {w:World} {ρ:Operand→V} {ρc:Operand→Value}
theorem WV{len cap:Nat}{lo hi mx:Option Int}{l h n:Nat}(hb:bounds len cap lo hi mx=some (l,h,n)) :
  0≤lo.getD 0∧lo.getD 0≤hi.getD len∧hi.getD len≤mx.getD cap∧mx.getD cap≤cap∧(mx.isSome→hi.isSome)∧l=(lo.getD 0).toNat∧h=(hi.getD len).toNat∧n=(mx.getD cap).toNat:=by
 unfold bounds at hb;simp only[]at hb
 split at hb
 ·rename_i hc;simp only[au,bz]at hb;exact⟨hc.1,hc.2.1,hc.2.2.1,hc.2.2.2.1,hc.2.2.2.2,hb.1.symm,hb.2.1.symm,hb.2.2.symm⟩
 ·cases hb
theorem Q3{T:TypeId}{x v:V}{u:Value}{lo hi:Option Operand}(hT:P.underlying T=some .string)
  (he : (match x,lN ρ lo,lN ρ hi with
   | .val (.string s),some lo,some hi=>match bounds s.size s.size lo hi none with
    |some (a,b,_)=>some (V.val (.string (s.extract a b)))
    |none=>none
   |_,_,_=>none)=some v) (hx:ku G x u) (hl:∀ y,lo=some y→ku G (ρ y) (ρc y)) (hh:∀ y,hi=some y→ku G (ρ y) (ρc y)) :
  ∃ r,(Instr.sliceAt T u (lo.map ρc) (hi.map ρc) none).run P w = .ok r w∧ku G v r:=by
 split at he
 ·rename_i s nl nh e1 e2;cases hx
  split at he
  ·rename_i a b c hb;simp only[au]at he;subst he;obtain⟨c1,c2,c3,c4,c5,rfl,rfl,rfl⟩:=WV hb;refine⟨_,?_,.val rfl⟩;have:=qV (P:=P) (w:=w) (isSlice:=false) (len:=s.size) (cap:=s.size) (og hl e1) (og hh e2) (.inl ⟨rfl,rfl⟩) c1 c2 c3 c4 c5;simp[Instr.sliceAt,Instr.slice,run_underlying hT,this]
  ·cases he
 ·cases he
theorem zeZ{a:Addr}{us:List Value}(h:G.has a us)(c:Bool)(n:Nat)(hc:c=true→us.drop n=[]):G.has (if c then a else a.add n) (us.drop n):=by
 cases c
 ·simpa using h.drop n
 ·simp only[if_true,hc rfl];exact⟨h.1,fun i u hu=>by simp at hu⟩
theorem G8{s:Nat}{es:List V}(h:oq s es=true):∀ e∈es,e.cells.length=s:=by
 intro e he;have:=List.all_eq_true.1 h e he
 simpa using this
theorem VE{es more es' more':List V}{us:List Value}{a:Addr}{s s0 l h n:Nat}{tok':Tok}(hu:∀ e∈es++more,e.cells.length=s)(hr:kE G (flat (es++more)) us)(hk:G.has a us)
  (h0:0<s) (hz:oq s0 (es++more)=true) (c1:es' ++ more'=((es++more).take (es'.length+more'.length+l)).drop l) (c2:es'.length=h-l) (c3:l≤h) (c4:h≤n) (c5:n-l≥es'.length+more'.length)
  (c6:es'.length+more'.length+l≤es.length+more.length) (ht:G.MC tok' (if n=l then a else a.add (l*s)) es'.length (n-l) s) :
  ku G (.sl es' more' tok') (.slice (some (if n=l then a else a.add (l*s0))) (h-l) (n-l)):=by
 have key:(if n=l then a else a.add (l*s0))=(if n=l then a else a.add (l*s)):=by
  cases hl:es++more with
  |nil=>
   have:es.length+more.length=0:=by rw[←aH,hl];rfl
   obtain rfl:l=0:=by omega
   simp
  |cons e r=>
   have g1:=G8 hz e (by rw[hl];exact aU ..);have g2:=hu e (by rw[hl];exact aU ..);rw[←g1,←g2]
 rw[key,←c2]
 have e1:flat (es' ++ more')=((flat (es++more)).take ((es'.length+more'.length+l)*s)).drop (l*s):=by
  rw[c1,Z7 hu,←Qw (fun e he=>hu e (dw he))]
 refine .sl (us:=(us.take ((es'.length+more'.length+l)*s)).drop (l*s)) (s:=s) (fun e he=>hu e ?_) ?_ ?_ (by omega) h0 ht
 ·rw[c1]at he;exact dw (List.mem_of_mem_drop he)
 ·rw[e1];exact(hr.take _).drop _
 ·have := zeZ (G := G) (a := a) (us := us.take ((es'.length + more'.length + l) * s)) (hk.take _) (decide (n = l)) (l * s) (fun hd => by
   have hd':n=l:=by simpa using hd
   apply List.drop_eq_nil_of_le;rw[bf];have:es'.length+more'.length+l=l:=by omega
   rw[this]
   exact Nat.min_le_left _ _)
  simpa using this
theorem KG{len cap i j k:Nat}{lo hi mx:Option Int}(h:bounds len cap lo hi mx=some (i,j,k)) :
  0≤lo.getD 0∧lo.getD 0≤hi.getD len∧hi.getD len≤mx.getD cap∧mx.getD cap≤cap∧(mx.isSome→hi.isSome)∧(lo.getD 0).toNat=i∧(hi.getD len).toNat=j∧(mx.getD cap).toNat=k:=by
 unfold bounds at h;simp only at h
 split at h
 ·rename_i hc;simp only[au,bz]at h;exact⟨hc.1,hc.2.1,hc.2.2.1,hc.2.2.2.1,hc.2.2.2.2,h.1,h.2.1,h.2.2⟩
 ·cases h
theorem V8{tok:Tok}(h:vz tok=true):vz (GG [] tok 0 0)=true:=by
 cases tok with
 |no=>rfl
 |full=>rfl
 |tip _ _=>cases h
 |tipz _ _ _=>cases h
 |non=>cases h
 |own=>cases h
 |zero b=>cases b<;>first|rfl|cases h
theorem V7{tok:Tok}(h:vz tok=true):vz (wL tok 0 0)=true:=by
 cases tok with
 |no=>rfl
 |full=>rfl
 |tip _ _=>cases h
 |tipz _ _ _=>cases h
 |non=>cases h
 |own=>cases h
 |zero b=>cases b<;>first|rfl|cases h
theorem Q5{T e:TypeId}{s0:Nat}{x v:V}{u:Value}{lo hi mx:Option Operand}(hT:P.underlying T=some (.slice e))(hs:nZ P e=some s0)
  (he : (match x,lN ρ lo,lN ρ hi,lN ρ mx with
   | .sl es more tok,some l,some h,some m=>if oq s0 (es++more)then cutV es more tok l h m else none
   | .arr b o len cap,some l,some h,some m=>match bounds len cap l h m with
    |some (i,j,k)=>some (.arr b (if k=i then o else o+i*s0) (j-i) (k-i))
    |none=>none
   | .res t v z _,some none,some (some 0),some none=>if z=s0∧0<z then some (.sl [] [] (.tipz t v z))else none
   |_,_,_,_=>none)=some v) (hx:ku G x u) (hl:∀ y,lo=some y→ku G (ρ y) (ρc y)) (hh:∀ y,hi=some y→ku G (ρ y) (ρc y)) (hm:∀ y,mx=some y→ku G (ρ y) (ρc y)) :
  ∃ r,(Instr.sliceAt T u (lo.map ρc) (hi.map ρc) (mx.map ρc)).run P w = .ok r w∧ku G v r:=by
 have hz:=run_sizeOf (w:=w) hs
 split at he
 ·rename_i es more tok nl nh nm e1 e2 e3
  split at he
  ·rename_i hsz
   have run:∀ (a:Option Addr) (cap:Nat),0≤nl.getD 0→nl.getD 0≤nh.getD es.length→nh.getD es.length≤nm.getD cap→nm.getD cap≤cap→(nm.isSome→nh.isSome) →
     (Instr.sliceAt T (.slice a es.length cap) (lo.map ρc) (hi.map ρc) (mx.map ρc)).run P w = .ok (.slice (if (nm.getD cap).toNat=(nl.getD 0).toNat then a else a.map (·.add ((nl.getD 0).toNat*s0))) ((nh.getD es.length).toNat-(nl.getD 0).toNat) ((nm.getD cap).toNat-(nl.getD 0).toNat)) w:=by
    intro a cap c1 c2 c3 c4 c5;have:=qV (P:=P) (w:=w) (isSlice:=true) (len:=es.length) (cap:=cap) (og hl e1) (og hh e2) (og hm e3) c1 c2 c3 c4 c5;simp[Instr.sliceAt,Instr.slice,run_underlying hT,this,hz]
   cases hx with
   |nil htok=>
    have hnil:∀ (tok':Tok),vz tok'=true→∀ (l h:Nat),l=0→h=0→∀ n,ku G (.sl [] [] tok') (.slice (if n=l then (none:Option Addr)else (none:Option Addr).map (·.add (l*s0))) (h-l) 0):=by
     intro tok' ht l h hl hh n;subst hl;subst hh
     simpa using ku.nil ht
    unfold cutV at he;have z0:((0:Nat):Int)=0:=rfl;simp only[aA,List.take_nil,List.drop_nil,aS,Nat.add_zero,z0]at he run
    split at he
    ·rename_i _ k
     split at he
     ·rename_i hc;obtain⟨d1,d2,d3,d4,d5,d6,d7⟩:=hc;simp only[au]at he;subst he;simp only[bZ]at run;refine⟨_,run none 0 d1 (by omega) (by omega) (by omega) (fun _=>d4),?_⟩;have z1:(nl.getD 0).toNat=0:=by omega
      have z2:(nh.getD 0).toNat=0:=by omega
      have z3:k.toNat=0:=by omega
      simp[z1,z2,z3];exact .nil (V8 htok)
     ·cases he
    ·split at he
     ·rename_i hc;obtain⟨d1,d2,d3⟩:=hc
      split at he
      ·rename_i hc2;simp only[au]at he;subst he;refine⟨_,run none 0 d1 (by omega) (by simp only[bY];omega) (by simp) (fun h=>by simp at h),?_⟩;have z1:(nl.getD 0).toNat=0:=by omega
       have z2:(nh.getD 0).toNat=0:=by omega
       simp[z1,z2];exact .nil (V7 htok)
      ·split at he
       ·rename_i hc2 hc3;exact absurd (Nat.le_zero.1 hc3) hc2
       ·cases he
     ·cases he
   |sl hu hr hk hle h0 ht=>
    rename_i us a cap s
    have mapsome:∀ (c:Prop) [Decidable c] (q:Nat),(if c then some a else (some a).map (·.add q))=some (if c then a else a.add q):=by
     intro c _ q
     split<;>rfl
    dsimp only[cutV]at he
    have hel:((es.length:Int)).toNat=es.length:=by omega
    split at he
    ·rename_i k
     split at he
     ·rename_i hc;obtain⟨d1,d2,d3,d4,d5,d6,d7⟩:=hc;simp only[au]at he;subst he;simp only[bZ]at run;refine⟨_,run (some a) cap d1 (by omega) (by omega) (by omega) (fun _=>d4),?_⟩;rw[mapsome];have hlen:((es.take (nh.getD es.length).toNat).drop (nl.getD 0).toNat).length=(nh.getD es.length).toNat-(nl.getD 0).toNat:=by simp;omega
      refine VE hu hr hk h0 hsz ?_ hlen d2 (by omega) (by simp only[aA,hlen];omega) (by simp only[aA,hlen];omega) ?_
      ·rw[aS,aA,hlen,List.take_append_of_le_length (by omega)];congr 2;omega
      ·unfold GG
       by_cases hlh:(nl.getD 0).toNat<(nh.getD es.length).toNat
       ·rw[if_pos hlh];show _=_∧_;rw[hlen];omega
       ·rw[if_neg hlh];have hz0:k.toNat-(nl.getD 0).toNat=0:=by omega
        rw[hz0]
        cases es with
        |cons _ _=>cases tok<;>rfl
        |nil=>
         cases tok with
         |full=>exact absurd rfl ht.2
         |_=>rfl
     ·cases he
    ·split at he
     ·rename_i hc;obtain⟨d1,d2,d3⟩:=hc;simp only[bY]at run
      split at he
      ·rename_i hc2;simp only[au]at he;subst he;refine⟨_,run (some a) cap d1 (by omega) (by omega) (by omega) (fun h=>by simp at h),?_⟩;rw[mapsome];have hcap:((cap:Int)).toNat=cap:=by omega
       simp only[hcap];have hlen:(es.drop (nl.getD 0).toNat).length=(nh.getD es.length).toNat-(nl.getD 0).toNat:=by simp;omega
       refine VE hu hr hk h0 hsz ?_ hlen d2 (by omega) (by simp only[hlen];omega) (by simp only[hlen];omega) ?_
       ·rw[hlen,bG (by simp;omega),gB (by omega)]
       ·cases tok with
        |no=>trivial
        |non=>trivial
        |own=>
         have:cap=es.length:=ht.1.1;simp only[wL]
         by_cases hlh:(nl.getD 0).toNat<es.length
         ·rw[if_pos hlh];show _=_∧_;rw[hlen];omega
         ·rw[if_neg hlh];trivial
        |full=>
         have:cap=es.length:=ht.1;simp only[wL]
         by_cases hlh:(nl.getD 0).toNat<es.length
         ·rw[if_pos hlh];show _=_∧_;rw[hlen];omega
         ·rw[if_neg hlh,if_neg ht.2];show cap-(nl.getD 0).toNat=0;omega
        |zero b=>
         have:cap=0:=ht;show cap-(nl.getD 0).toNat=0;omega
        |tipz t vv zz=>
         obtain⟨hzz,ht'⟩:=ht;simp only[wL]
         split
         ·rename_i z;refine⟨hzz,?_⟩;show G.H t vv=_;rw[ht',hlen]
          have:(if cap=(nl.getD 0).toNat then a else a.add ((nl.getD 0).toNat*s))=a:=by
           rw[z];simp[Addr.add]
          rw[this,z,hc2];simp
         ·trivial
        |tip t vv=>
         have ht':G.H t vv=some (a.block,a.off+es.length*s,a.off+cap*s):=ht;simp only[wL]
         split
         ·rename_i hcut;show G.H t vv=_;rw[ht',hlen]
          rcases Nat.eq_zero_or_pos (nl.getD 0).toNat with z|z
          ·have:(if cap=(nl.getD 0).toNat then a else a.add ((nl.getD 0).toNat*s))=a:=by
            rw[z];simp[Addr.add]
           rw[this,z,hc2];simp
          ·have hlt:(nl.getD 0).toNat<es.length:=by omega
           rw[if_neg (by omega),add_plain hk.1,hc2];simp only[au,bz,true_and];have a1:(es.length-(nl.getD 0).toNat)*s=es.length*s-(nl.getD 0).toNat*s:=Nat.sub_mul ..;have a2:(cap-(nl.getD 0).toNat)*s=cap*s-(nl.getD 0).toNat*s:=Nat.sub_mul ..;have a3:(nl.getD 0).toNat*s≤es.length*s:=gV _ (by omega);have a4:es.length*s≤cap*s:=gV _ (by omega);rw[a1,a2];omega
         ·trivial
      ·split at he
       ·rename_i hc2 hc3;simp only[au]at he;subst he;refine⟨_,run (some a) cap d1 (by omega) (by omega) (by omega) (fun h=>by simp at h),?_⟩;rw[mapsome];have hcap:((cap:Int)).toNat=cap:=by omega
        simp only[hcap];have hlen:(((es++more).take (nh.getD es.length).toNat).drop (nl.getD 0).toNat).length=(nh.getD es.length).toNat-(nl.getD 0).toNat:=by simp;omega
        have hlen2:((es++more).drop (nh.getD es.length).toNat).length=es.length+more.length-(nh.getD es.length).toNat:=by simp
        refine VE (n:=cap) hu hr hk h0 hsz ?_ hlen d2 (by omega) (by rw[hlen,hlen2];omega) (by rw[hlen,hlen2];omega) trivial;rw[hlen,hlen2,bG (l:=es++more) (i:=(nh.getD es.length).toNat-(nl.getD 0).toNat+(es.length+more.length-(nh.getD es.length).toNat)+(nl.getD 0).toNat) (by rw[aH];omega)];generalize hX:es++more=X;have hXl:X.length=es.length+more.length:=by rw[←hX,aH]
        have:=gB (l₁:=X.take (nh.getD es.length).toNat) (l₂:=X.drop (nh.getD es.length).toNat) (i:=(nl.getD 0).toNat) (by rw[bf];omega);rw[List.take_append_drop]at this;exact this.symm
       ·cases he
     ·cases he
  ·cases he
 ·rename_i b o len cap nl nh nm e1 e2 e3;cases hx
  split at he
  ·rename_i i j k hb;cases he;obtain⟨c1,c2,c3,c4,c5,rfl,rfl,rfl⟩:=KG hb;have:=qV (P:=P) (w:=w) (isSlice:=true) (len:=len) (cap:=cap) (og hl e1) (og hh e2) (og hm e3) c1 c2 c3 c4 c5
   have hrun:(Instr.sliceAt T (.slice (some ⟨b,o,none⟩) len cap) (lo.map ρc) (hi.map ρc) (mx.map ρc)).run P w = .ok (.slice (if (nm.getD cap).toNat=(nl.getD 0).toNat then some ⟨b,o,none⟩else (some (⟨b,o,none⟩:Addr)).map (·.add ((nl.getD 0).toNat*s0))) ((nh.getD len).toNat-(nl.getD 0).toNat) ((nm.getD cap).toNat-(nl.getD 0).toNat)) w:=by
    simp only[Instr.sliceAt,Instr.slice,Sem.run_bind,run_underlying hT,Result.andThen_ok,this,hz,Sem.run_pure]
   refine⟨_,hrun,?_⟩
   split
   ·exact .arr _ _ _ _
   ·rw[Option.map_some,add_plain rfl];exact .arr _ _ _ _
  ·cases he
 ·rename_i t vv z n e1 e2 e3
  split at he
  ·rename_i hc;obtain⟨rfl,h0⟩:=hc;cases he
   cases hx with
   | @res _ _ _ _ cap a hsp hH hle=>
   have:=qV (P:=P) (w:=w) (isSlice:=true) (len:=n) (cap:=cap) (og hl e1) (og hh e2) (og hm e3) (by simp) (by simp) (by simp) (by simp) (by simp);refine⟨.slice (some a) 0 cap,?_,?_⟩
   ·simp only[Instr.sliceAt,Instr.slice,Sem.run_bind,run_underlying hT,Result.andThen_ok,this,hz,Sem.run_pure]
    have ha:∀ c:Prop,∀ [Decidable c],(if c then some a else (some a).map (·.add (((none:Option Int).getD 0).toNat*z)))=some a:=by
     intro c _
     split
     ·rfl
     ·simp[Addr.add]
    rw[ha];simp
   ·refine .sl (us:=[]) (s:=z) (by simp) (by rw[aS,flat_nil];exact .nil) ⟨hsp,fun i u hu=>by simp at hu⟩ (by simp) h0 ⟨rfl,?_⟩;show G.H t vv=_;rw[hH];simp
  ·cases he
 ·cases he
theorem Q4{T e:TypeId}{n s0:Nat}{x v:V}{u:Value}{lo hi mx:Option Operand}(hT:P.underlying T=some (.array n e))(hs:nZ P e=some s0)
  (he : (match x,lN ρ lo,lN ρ hi,lN ρ mx with
   | .ptr b o,some l,some h,some m=>match bounds n n l h m with
    |some (i,j,k)=>some (V.arr b (if k=i then o else o+i*s0) (j-i) (k-i))
    |none=>none
   |_,_,_,_=>none)=some v) (hx:ku G x u) (hl:∀ y,lo=some y→ku G (ρ y) (ρc y)) (hh:∀ y,hi=some y→ku G (ρ y) (ρc y)) (hm:∀ y,mx=some y→ku G (ρ y) (ρc y)) :
  ∃ r,(Instr.sliceAt T u (lo.map ρc) (hi.map ρc) (mx.map ρc)).run P w = .ok r w∧ku G v r:=by
 have hz:=run_sizeOf (w:=w) hs
 split at he
 ·rename_i b o nl nh nm e1 e2 e3;cases hx
  split at he
  ·rename_i i j k hb;cases he;obtain⟨c1,c2,c3,c4,c5,rfl,rfl,rfl⟩:=KG hb;have:=qV (P:=P) (w:=w) (isSlice:=false) (len:=n) (cap:=n) (og hl e1) (og hh e2) (og hm e3) c1 c2 c3 c4 c5
   have hrun:(Instr.sliceAt T (.pointer (some ⟨b,o,none⟩)) (lo.map ρc) (hi.map ρc) (mx.map ρc)).run P w = .ok (.slice (some (if (nm.getD n).toNat=(nl.getD 0).toNat then ⟨b,o,none⟩else (⟨b,o,none⟩:Addr).add ((nl.getD 0).toNat*s0))) ((nh.getD n).toNat-(nl.getD 0).toNat) ((nm.getD n).toNat-(nl.getD 0).toNat)) w:=by
    simp only[Instr.sliceAt,Instr.sureAddr,Sem.run_bind,run_underlying hT,Result.andThen_ok,this,hz,Sem.run_pure]
   refine⟨_,hrun,?_⟩
   split
   ·exact .arr _ _ _ _
   ·rw[add_plain rfl];exact .arr _ _ _ _
  ·cases he
 ·cases he
theorem Uo{v:Value}(hx:JF v=true):ku G (pG v) v:=by
 unfold pG
 split
 ·rename_i cs;have:=ku.agg (vN (G:=G) (l:=cs.toList) (fun v hv=>List.all_eq_true.1 hx v hv))
  simpa using this
 ·exact .nil rfl
 ·rename_i h1 h2;refine .val ?_
  cases v with
  |agg cs=>exact(h1 cs rfl).elim
  |_=>rfl
theorem LQ{T:TypeId}{z:V}(h:zeroAt P T=some z):∃ i zv,P.info? T=some i∧i.zero=some zv∧ku G z zv:=by
 unfold zeroAt at h
 split at h
 ·rename_i zv hz
  split at h
  ·rename_i hf;cases h;obtain⟨i,h1,h2⟩:=Option.bind_eq_some_iff.1 hz;exact⟨i,zv,h1,h2,Uo hf⟩
  ·cases h
 ·cases h
theorem W9{T xT:TypeId}{x v:V}{u:Value}(he:I7 P T x=some v)(hx:ku G x u):∃ r,(Instr.typeAssert u xT T true).run P w = .ok r w∧ku G v r:=by
 unfold I7 at he
 split at he
 ·rename_i want z hT hz;obtain⟨j,zv,j1,j2,j3⟩:=LQ (G:=G) hz
  split at he
  ·cases he
   cases hx with
   |val _=>exact⟨.tuple #[zv,.bool false],by simp[Instr.typeAssert,run_underlying hT,zeroValue,typeInfo,j1,j2],.tup (.cons j3 (.cons (.val rfl) .nil))⟩
  ·rename_i t y
   cases hx with
   | @ifc _ _ y' r=>
    split at he
    ·rename_i i hi;cases he;cases hl:(lacking want i.methods).isEmpty
     ·exact⟨.tuple #[zv,.bool false],run_typeAssert_lacks hT hi j1 j2 (fun e=>by rw[e]at hl;cases hl),.tup (.cons j3 (.cons (.val rfl) .nil))⟩
     ·exact⟨.tuple #[.iface t y',.bool true],run_typeAssert_has hT hi (List.isEmpty_iff.1 hl),.tup (.cons (.ifc r) (.cons (.val rfl) .nil))⟩
    ·cases he
  ·cases he
 ·rename_i d z hne hT hz;obtain⟨j,zv,j1,j2,j3⟩:=LQ (G:=G) hz;have hd:∀ ms,d ≠ .interface ms:=fun ms e=>by subst e;exact hne ms rfl
  split at he
  ·cases he
   cases hx with
   |val _=>
    refine⟨.tuple #[zv,.bool false],?_,.tup (.cons j3 (.cons (.val rfl) .nil))⟩;simp only[Instr.typeAssert,Sem.run_bind,run_underlying hT,Result.andThen_ok]
    cases d<;>first|exact(hd _ rfl).elim|simp[zeroValue,typeInfo,j1,j2]
  ·rename_i t y
   cases hx with
   | @ifc _ _ y' r=>
    cases he;cases hb:Nat.beq t T
    ·have hne':t≠T:=fun e=>by subst e;rw[Nat.beq_refl]at hb;cases hb
     refine⟨.tuple #[zv,.bool false],?_,.tup (.cons j3 (.cons (.val rfl) .nil))⟩;simp only[Instr.typeAssert,Sem.run_bind,run_underlying hT,Result.andThen_ok]
     cases d<;>first|exact(hd _ rfl).elim|simp[zeroValue,typeInfo,j1,j2,hne']
    ·obtain rfl:=Nat.eq_of_beq_eq_true hb;refine⟨.tuple #[y',.bool true],?_,.tup (.cons r (.cons (.val rfl) .nil))⟩;simp only[Instr.typeAssert,Sem.run_bind,run_underlying hT,Result.andThen_ok]
     cases d<;>first|exact(hd _ rfl).elim|simp
  ·cases he
 ·cases he
theorem VH{T e:TypeId}{n:Nat}{x v:V}{u:Value}(hT:P.underlying T=some (.array (n+1) e))
  (he : (match x with
   | .sl es more _=>if n+1≤es.length then some (V.elt (flat (es++more)))else none
   | .arr b o len _=>if n+1≤len then some (.ptr b o)else none
   |_=>none)=some v) (hx:ku G x u):∃ r,(Instr.arrayAt T u).run P w = .ok r w∧ku G v r:=by
 cases hx with
 |sl hu hr hk hl h0 ht=>
  simp only at he
  split at he
  ·rename_i hc;cases he;refine⟨_,?_,.elt hr hk⟩;simp only[Instr.arrayAt,Sem.run_bind,run_underlying hT,Result.andThen_ok];rw[if_neg (by omega)];rfl
  ·cases he
 |nil h=>simp at he
 |arr b o len cap=>
  simp only at he
  split at he
  ·rename_i hc;cases he;refine⟨_,?_,.ptr b o⟩;simp only[Instr.arrayAt,Sem.run_bind,run_underlying hT,Result.andThen_ok];rw[if_neg (by omega)];rfl
  ·cases he
 |_=>cases he
theorem Si{T e:TypeId}{n s:Nat}{a:Option Nat}{x y v:V}{u ui:Value}(hT:P.underlying T=some (.array n e))(ha:sQ P e=some a)(hs:nZ P e=some s)
  (he : (match x,y with
   | .agg cs,.val (.int _ k)=>if 0≤k∧k<n then mW cs (k.toNat*s) a else none
   |_,_=>none)=some v) (hx:ku G x u) (hy:ku G y ui):∃ r,(Instr.index T u ui).run P w = .ok r w∧ku G v r:=by
 have hz:=run_sizeOf (w:=w) hs
 split at he
 ·cases hy
  cases hx with
  |agg h=>
  split at he
  ·rename_i hc;obtain⟨r,h1,h2⟩:=Nw (w:=w) ha h he;refine⟨r,?_,h2⟩;simp only[Instr.index,asIntOf,Sem.run_bind,Sem.run_pure,run_underlying hT,Result.andThen_ok];rw[if_pos hc];simp only[Sem.run_bind,hz,Result.andThen_ok,h1]
  ·cases he
 ·cases he
theorem zau{T type e:TypeId}{x v:V}{u:Value}(he:(match x with
   | .sl es [] .full=>some (V.val (.int .i64 es.length))
   | .sl [] [] (.zero _)=>some (.val (.int .i64 0))
   | .arr _ _ _ c=>some (.val (.int .i64 c))
   |_=>none)=some v) (hT:P.underlying T=some (.slice e)) (hx:ku G x u) :
  ∃ r,∀ (types:Array TypeId),types[0]? = some T→(Builtin.cap_ types type #[u]).run P w = .ok r w∧ku G v r:=by
 have run:∀ (a:Option Addr) (n c:Nat) (types:Array TypeId),types[0]? = some T→(Builtin.cap_ types type #[.slice a n c]).run P w = .ok (.int .i64 c) w:=by
  intro a n c types h0;simp[Builtin.cap_,h0,run_underlying hT];rfl
 split at he
 ·rename_i es;cases he
  cases hx with
  |nil _=>exact⟨_,fun types h0=>⟨run none 0 0 types h0,.val rfl⟩⟩
  |sl _ _ _ _ _ ht=>
   have:_=es.length:=ht.1;subst this;exact⟨_,fun types h0=>⟨run _ _ _ types h0,.val rfl⟩⟩
 ·cases he
  cases hx with
  |nil _=>exact⟨_,fun types h0=>⟨run none 0 0 types h0,.val rfl⟩⟩
  |sl _ _ _ _ _ ht=>
   have:_=0:=ht;subst this;exact⟨_,fun types h0=>⟨run _ _ _ types h0,.val rfl⟩⟩
 ·cases he;cases hx;exact⟨_,fun types h0=>⟨run _ _ _ types h0,.val rfl⟩⟩
 ·cases he
theorem XW{k:IntKind}:∀ {xs:List V} {us:List Value} {n:Int} {v:V},mmF true k n xs=some v→kE G xs us→∃ r,(us.foldlM Builtin.max2 (.int k n)).run P w = .ok r w∧ku G v r
 |[],us,n,v,h,r=>by
  obtain rfl:=r.kN;cases h;exact⟨_,rfl,.val rfl⟩
 |x::xs,us,n,v,h,r=>by
  obtain⟨y,ys,rfl,r1,r2⟩:=r.cons_inv
  cases x with
  |val xv=>
   cases r1
   cases y<;>first|cases h|skip
   simp only[mmF,if_true]at h;obtain⟨r,h1,h2⟩:=XW h r2;exact⟨r,by simp only[List.foldlM_cons,Sem.run_bind,Builtin.max2,Sem.run_pure,Result.andThen_ok];exact h1,h2⟩
  |_=>cases h
theorem XV{k:IntKind}:∀ {xs:List V} {us:List Value} {n:Int} {v:V},mmF false k n xs=some v→kE G xs us→∃ r,(us.foldlM Builtin.min2 (.int k n)).run P w = .ok r w∧ku G v r
 |[],us,n,v,h,r=>by
  obtain rfl:=r.kN;cases h;exact⟨_,rfl,.val rfl⟩
 |x::xs,us,n,v,h,r=>by
  obtain⟨y,ys,rfl,r1,r2⟩:=r.cons_inv
  cases x with
  |val xv=>
   cases r1
   cases y<;>first|cases h|skip
   simp only[mmF,Bool.false_eq_true,if_false]at h;obtain⟨r,h1,h2⟩:=XV h r2;exact⟨r,by simp only[List.foldlM_cons,Sem.run_bind,Builtin.min2,Sem.run_pure,Result.andThen_ok];exact h1,h2⟩
  |_=>cases h
theorem Uz{mx:Bool}{types:Array TypeId}{type:TypeId}{xs:List V}{us:List Value}{v:V}(h:mmV mx xs=some v)(r:kE G xs us) :
  ∃ u,(if mx then Builtin.max_ types type us.toArray else Builtin.min_ types type us.toArray).run P w = .ok u w∧ku G v u:=by
 unfold mmV at h
 split at h
 ·obtain⟨y,ys,rfl,r1,r2⟩:=r.cons_inv;cases r1;cases mx
  ·obtain⟨u,h1,h2⟩:=XV (P:=P) (w:=w) h r2;exact⟨u,by simpa [Builtin.min_] using h1,h2⟩
  ·obtain⟨u,h1,h2⟩:=XW (P:=P) (w:=w) h r2;exact⟨u,by simpa [Builtin.max_] using h1,h2⟩
 ·cases h
theorem SB{S:TypeId}{f n:Nat}{fields:Array Field}{fd:Field}{x v:V}{u:Value}(hT:P.underlying S=some (.struct fields))(hf:fields[f]? = some fd)(hs:nZ P fd.type=some (n+1))
  (he : (match x with
   | .ptr b o=>some (V.ptr b (o+fd.offset))
   | .elt cs=>some (.elt (cs.drop fd.offset))
   |_=>none)=some v) (hx:ku G x u):∃ r,(Instr.fieldAt S u f).run P w = .ok r w∧ku G v r:=by
 have hz:=run_sizeOf (w:=w) hs
 cases hx with
 |ptr b o=>
  simp only[au]at he;subst he;refine⟨_,?_,.ptr _ _⟩;simp[Instr.fieldAt,run_underlying hT,hf,Instr.sureAddr,fieldPlace,hz,add_plain]
 |elt h k=>
  simp only[au]at he;subst he;refine⟨_,?_,.elt (h.drop _) (k.drop _)⟩;simp[Instr.fieldAt,run_underlying hT,hf,Instr.sureAddr,fieldPlace,hz]
 |_=>simp at he
theorem UU{S:TypeId}{f:Nat}{s:Option Nat}{fields:Array Field}{fd:Field}{x v:V}{u:Value}(hT:P.underlying S=some (.struct fields))(hf:fields[f]? = some fd)(hs:sQ P fd.type=some s)
  (he : (match x with
   | .agg cs=>mW cs fd.offset s
   |_=>none)=some v) (hx:ku G x u):∃ r,(Instr.field S u f).run P w = .ok r w∧ku G v r:=by
 cases hx with
 |agg h=>
  obtain⟨r,h1,h2⟩:=Nw (w:=w) hs h he;exact⟨r,by simp[Instr.field,run_underlying hT,hf,asAgg,h1],h2⟩
 |_=>simp at he
theorem Wx{T e:TypeId}{n s:Nat}{x y v:V}{u ui:Value}(hT:P.underlying T=some (.array n e))(hs:nZ P e=some s)
  (he : (match x,y with
   | .ptr b o,.val (.int _ k)=>if 0≤k∧k<n then some (V.ptr b (o+k.toNat*s))else none
   | .elt cs,.val (.int _ k)=>if 0≤k∧k<n then some (.elt (cs.drop (k.toNat*s)))else none
   |_,_=>none)=some v) (hx:ku G x u) (hy:ku G y ui):∃ r,(Instr.indexAt T u ui).run P w = .ok r w∧ku G v r:=by
 have hz:=run_sizeOf (w:=w) hs
 split at he
 ·cases hx;cases hy;rename_i b o ik k hc _
  split at he
  ·rename_i hk;simp only[au]at he;subst he;refine⟨_,?_,.ptr _ _⟩;simp[Instr.indexAt,asIntOf,run_underlying hT,Instr.sureAddr,hk,hz,add_plain]
  ·cases he
 ·cases hy
  cases hx with
  |elt h k2=>
  rename_i cs ik k hc _ _ _
  split at he
  ·rename_i hk;simp only[au]at he;subst he;refine⟨_,?_,.elt (h.drop _) (k2.drop _)⟩;simp[Instr.indexAt,asIntOf,run_underlying hT,Instr.sureAddr,hk,hz]
  ·cases he
 ·cases he
theorem Wv{T e:TypeId}{s:Nat}{x y v:V}{u ui:Value}(hT:P.underlying T=some (.slice e))(hs:nZ P e=some s)
  (he : (match x,y with
   | .sl es _ _,.val (.int _ k)=>if 0≤k then match es[k.toNat]? with
     |some e=>if e.cells.length=s then some (V.elt e.cells)else none
     |none=>none
    else none
   | .arr b o len _,.val (.int _ k)=>if 0≤k∧k<len then some (.ptr b (o+k.toNat*s))else none
   |_,_=>none)=some v) (hx:ku G x u) (hy:ku G y ui):∃ r,(Instr.indexAt T u ui).run P w = .ok r w∧ku G v r:=by
 have hz:=run_sizeOf (w:=w) hs
 split at he
 ·cases hy;rename_i es more tok ik k _
  split at he
  ·rename_i hk
   split at he
   ·rename_i el hel
    split at he
    ·rename_i hle;simp only[au]at he;subst he;have hlt:=(List.getElem?_eq_some_iff.1 hel).1
     cases hx with
     |nil h=>simp at hlt
     |sl hu hr hk2 hl h0 ht=>
      rename_i us a cap s2;have hmem:el∈es++more:=List.mem_append_left _ (List.mem_of_getElem? hel);have hss:=hu el hmem;have e1:s2=s:=by omega
      subst e1;have hd:=Qw hu k.toNat
      have hcs:∃ rest:List V,flat ((es++more).drop k.toNat)=el.cells++rest:=by
       have:(es++more)[k.toNat]? = some el:=by rw[List.getElem?_append_left hlt];exact hel
       obtain⟨hl1,hl2⟩:=List.getElem?_eq_some_iff.1 this;rw[List.drop_eq_getElem_cons hl1,hl2,lD];exact⟨_,rfl⟩
      obtain⟨rest,hrest⟩:=hcs;have hr2:=hr.drop (k.toNat*s2);rw[hd,hrest]at hr2;obtain⟨ua,ub,hub,r1,r2⟩:=hr2.split;have hh:=hk2.drop (k.toNat*s2);rw[hub]at hh;have hh2:=hh.take ua.length;rw[List.take_left']at hh2
      ·refine⟨_,?_,.elt r1 hh2⟩;have hk3:k<(es.length:Int):=by omega
       simp[Instr.indexAt,asIntOf,run_underlying hT,hk,hk3,hz]
      ·rfl
    ·cases he
   ·cases he
  ·cases he
 ·cases hy;cases hx
  split at he
  ·rename_i hc;cases he;refine⟨_,?_,.ptr _ _⟩;simp[Instr.indexAt,asIntOf,run_underlying hT,hc,hz,add_plain]
  ·cases he
 ·cases he
theorem RZ{T:TypeId}{x y v:V}{u ui:Value}(hT:P.underlying T=some .string)
  (he : (match x,y with
   | .val (.string s),.val (.int _ k)=>if 0≤k then match s[k.toNat]? with
     |some b=>some (V.val (.int .u8 b.toNat))
     |none=>none
    else none
   |_,_=>none)=some v) (hx:ku G x u) (hy:ku G y ui):∃ r,(Instr.index T u ui).run P w = .ok r w∧ku G v r:=by
 split at he
 ·cases hx;cases hy
  split at he
  ·rename_i hk
   split at he
   ·rename_i b hb;simp only[au]at he;subst he;exact⟨_,by simp[Instr.index,asIntOf,run_underlying hT,hk,hb],.val rfl⟩
   ·cases he
  ·cases he
 ·cases he
theorem ZM{T type:TypeId}{str:Bool}{x v:V}{u:Value}(he:(match str,x with
   |true,.val (.string s)=>some (V.val (.int .i64 s.size))
   |false,.sl es _ _=>some (.val (.int .i64 es.length))
   |false,.arr _ _ n _=>some (.val (.int .i64 n))
   |false,.res _ _ _ n=>some (.val (.int .i64 n))
   |_,_=>none)=some v) (hT:(str=true∧P.underlying T=some .string)∨(str=false∧∃ e,P.underlying T=some (.slice e))) (hx:ku G x u) :
  ∃ r,∀ (types:Array TypeId),types[0]? = some T→(Builtin.len_ types type #[u]).run P w = .ok r w∧ku G v r:=by
 rcases hT with ⟨rfl,hT⟩|⟨rfl,e,hT⟩
 ·cases x with
  |val xv=>
   cases xv with
   |string s=>
    cases hx;simp only[au]at he;subst he;exact⟨_,fun types h0=>⟨by simp[Builtin.len_,h0,run_underlying hT];rfl,.val rfl⟩⟩
   |_=>simp at he
  |_=>simp at he
 ·cases x with
  |sl es more tok=>
   simp only[au]at he;subst he
   cases hx with
   |nil h=>exact⟨_,fun types h0=>⟨by simp[Builtin.len_,h0,run_underlying hT];rfl,.val rfl⟩⟩
   |sl _ _ _ _ _ _=>exact⟨_,fun types h0=>⟨by simp[Builtin.len_,h0,run_underlying hT];rfl,.val rfl⟩⟩
  |arr b o n c=>
   simp only[au]at he;subst he;cases hx;exact⟨_,fun types h0=>⟨by simp[Builtin.len_,h0,run_underlying hT];rfl,.val rfl⟩⟩
  |res t v z n=>
   simp only[au]at he;subst he;cases hx;exact⟨_,fun types h0=>⟨by simp[Builtin.len_,h0,run_underlying hT];rfl,.val rfl⟩⟩
  |_=>simp at he
end
end Go.Av
