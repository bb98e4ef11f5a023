/- Frames put and got, az the program does. Conditions: az ahead. -/
import Derived.ChangeMaps5
import Derived.Deep.Strs
import Derived.LaidHandle
import Derived.Test.YtmglaebjmaomnaaGreatDoorCards
import Derived.Test.YtmglaebjmaomnaaGreatDoorTie
import Derived.Test.YtmglaebjmaomnaaGreatDoorTW20
open Bool renaming not_true→aO, not_false→aN, false_eq_true→aF, eq_iff_iff→dw, and_eq_true→aG
open Int renaming toNat_natCast→bJ, reduceBEq→ai, reduceBNe→aj, eq_ofNat_of_zero_le→dL, le_refl→eU, le_trans→iW
open List renaming length_cons→au, length_nil→ay, length_map→aH, drop_zero→bM, take_of_length_le→bi, range→aK, map→aZ, append_nil→aP, map_append→bu, length_append→aJ, cons_append→aA, nil_append→aB, append_assoc→aX, all_eq_true→gX, length_take→aW, mem_of_mem_take→dQ, drop_take→dZ, mem_of_mem_drop→jb, drop_drop→cZ, take_length→bK, drop_left→iF, map_drop→gB, map_take→iO, take_append_of_le_length→eH, map_cons→fJ, length_drop→bf, mem_cons→di, not_mem_nil→bW, getElem?_map→bn, take_succ_cons→dh, take_zero→dE, drop_succ_cons→dK, flatMap_cons→fG, getElem?_append_left→bz, getElem?_append_right→iy, getElem?_eq_getElem→aI, getElem_mem→dX, take_add_one→bg, map_nil→eG, getElem?_concat_length→cu, length_singleton→iY
open List.cons renaming injEq→aQ
open Nat renaming reduceSub→aC, reduceAdd→ag, reduceLeDiff→ae, reduceEqDiff→af, reduceLT→ak, le_refl→aY, add_sub_cancel_left→dJ, zero_le→bU, add_zero→dR, add_assoc→iP, not_lt_zero→dS, le_trans→dG, mul_le_mul_right→eX
open Option renaming map→eF, getD_none→bQ, bind_some→bC, getD_some→bT
open Option.some renaming inj→fH
open Prod.mk renaming inj→dY
set_option linter.unusedSimpArgs false
set_option linter.unusedVariables false
set_option maxRecDepth 100000
namespace Go.Av
theorem ku.notNil{G:Gh}{es more:List V}{u:Value}(h:ku G (.sl es more .no) u)(hn:es≠[]∨more≠[]):ku G (.sl es more .non) u:=by
 cases h with
 |nil _=>rcases hn with h|h<;>exact absurd rfl h
 |sl a b c d e f=>exact .sl a b c d e trivial
theorem jB.notNil{P:Program}{Γ:jI}{f:FuncId}{es more b:List V}{m:Store}{R:Out→Store→Prop}(hn:es≠[]∨more≠[])(h:jB P Γ f (.sl es more .non::b) m R):jB P Γ f (.sl es more .no::b) m R:=
 ⟨h.1,fun G B0 mF w cargs hD hR hL=>h.2 G B0 mF w cargs hD hR (match hL with | .cons h k=>.cons (h.notNil hn) k)⟩
section
variable {P:Program} {Γ:jI} {Kp:V→Hl→Prop} {l:List Item} {K:HS→Prop} {t:List V} {h:Hl} {d:Option Tmp} {s:List (Tmp×Option (Tmp×Bool)×AOp)}
theorem zaj{e:TypeId}{bytes size j k:Nat}{ys:List V}{x:V}(hx:extra (lk h) size x=some ys)(hne:ys≠[])(hj:lk h j=some (.tip e k))(h2:rE size ys=true)(h3:Nj ys.length bytes)
  (hr:hth P Γ Kp s l K (hput t (hset h j (some (.tip e (k+1)))) d (some (.sl ys [] (.tip j (k+1)))))):uJ P Γ Kp e bytes size (.sl [] [] (.tipz j k size)) x d s l K t h:=by
 unfold uJ;simp only[AQ,hx];exact⟨fun q=>absurd q hne,fun _=>⟨rfl,h2,by simpa using h3,trivial,trivial,hj,hr⟩⟩
theorem NP{k j v z:Nat}:nbT k (.tipz j v z)=(j<k):=propext ⟨fun h=>h.1.2,fun h=>⟨⟨rfl,h⟩,rfl,rfl⟩⟩
theorem zhx{x:Operand}:lQ (.capS x)=true:=(rfl)
def zkn:V→Option V
 | .sl es [] .full=>some (.val (.int .i64 es.length))
 | .sl [] [] (.zero _)=>some (.val (.int .i64 0))
 | .arr _ _ _ c=>some (.val (.int .i64 c))
 |_=>none
theorem zas{m:Store}{x:Operand}:jJ P (ev Γ t) m (.capS x)=zkn (ev Γ t x):=(rfl)
theorem zdj:zkn (.sl [] [] .full)=some (.val (.int .i64 0)):=(rfl)
theorem zbJ{n z:Nat}{x:Operand}{lo hi mx:Option Operand}:lQ (.sliceP n z x lo hi mx)=true:=(rfl)
theorem zhw{n:Nat}{x:Operand}:lQ (.s2ap n x)=true:=(rfl)
theorem zeM{e:TypeId}{bytes size:Nat}{z n:Operand}{i:Nat}(h1:ev Γ t z = .sl [] [] .full)(h2:ev Γ t n = .val (.int .i64 (i:Int)))(hi:0<i)(hb:i*bytes≤140737488355328)(hl:h.length<1000000)
  (hr:hth P Γ Kp s l K (hput t (h++[some (.tip e 0)]) d (some (.res h.length 0 size i)))):hO P Γ Kp (⟨d,none,.appz e bytes size z n,s⟩::l) K (some ⟨t,h⟩):=by
 rw[SI];simp only[AQ,h1,h2,bJ];refine⟨by omega,hb,hl,?_⟩;cases d<;>exact hr
end
end Go.Av
namespace Go.Av.Fn
open Go.Proofs
theorem ze0{xo yo:Operand}{T:TypeId}{l:List UInt8}{more:List V}:kX Tryz.prog .eql T .slice xo yo (.sl (l.map by8) more .non) (.sl [] [] .full)=some (.val (.bool false)):=by
 have hs:nS .slice (.sl (l.map by8) more .non)=true:=by cases l<;>rfl
 unfold kX;rw[hs];rfl
section
variable {Γ:jI} {m:Store}
def slN(l:List UInt8):V:=.sl (l.map by8) [] .non
theorem lW{k:Nat}{l:List UInt8}:nb k (slN l):=by simp only[slN,kV,nbS]
theorem zao(l mo:List UInt8)(hl:l.length≤100000000)(h:l≠[]∨mo≠[])(tok:Tok):jB Tryz.prog Γ 86 [.sl (l.map by8) (mo.map by8) tok] m fun o m'=>(∃ v,o = .ret v∧v=slN l)∧m'=m:=by
 refine jB.tok [] [] ?_;refine jB.notNil (h.imp lV lV) ?_;refine BI mixed zin zkD jY (by simp only[kV,nbS]) ?_;simp only[F86,ss0,aC,ag];simp only[ze0,wC,ssH,ag,ae,reduceIte,af,ak,ai,aj]
 by_cases h0:l=[]
 ·subst h0;refine AV rfl ?_;simp only[ssH,ag,ae,reduceIte,af,ak,ai,aj];exact jy jC ⟨lW (l:=[]),rfl⟩
 ·refine JD (ys:=l.map by8) rfl (lV h0) (by simp only[au,ay,ag,ak]) rfl (ul _) (by simp only[aH,ay];omega) ?_;simp only[ssH,ag,ae,reduceIte,af,ak,ai,aj]
  have e:∀ k,wN (.sl (l.map by8) [] (.tip k 0))=slN l:=fun k=>by
   have:wNs (l.map by8)=l.map by8:=Gw (fun _=>rfl) l;simp only[wN,this,wNs,slN]
   cases l with
   |nil=>exact absurd rfl h0
   |cons b l=>rfl
  exact jy jC ⟨by simp only[jL,jM,e,lW],by simp only[jL,jM,e]⟩
theorem zc4(n:Nat)(h0:0<n)(hn:n≤100000000):FC Tryz.prog Γ 142 [.sl [] [] .full,it n] [] fun v h'=>v = .sl [] [] (.tipz 0 0 1)∧h'=[some (.tip 5 0)]:=by
 refine fc mixed zgp zjk jY ?_;simp only[zjl,ay,ss0,aC,ag]
 have w1:IntKind.i64.wrap ((n:Int)-IntKind.i64.wrap (0-((0:Nat):Int)))=(n:Int):=by
  rw[show IntKind.i64.wrap (0-((0:Nat):Int))=0 from rfl,wrap_i64 (by omega) (by omega)];omega
 simp only[show decide ((n:Int)<0)=false from decide_eq_false (by omega),zhx,zas,zdj,w1,gt_iff_lt,show decide ((0:Int)<(n:Int))=true from decide_eq_true (by omega),lw,show pO 1 (V.sl [] [] Tok.full) (some none) (some (some 0)) (some none)=some (.sl [] [] .full)from rfl,ssH,ag,ae,reduceIte,af,ak,ai,aj];refine zeM (i:=n) rfl rfl h0 (by omega) (by decide) ?_;simp only[lw,show ∀ k,pO 1 (.res k 0 1 n) (some none) (some (some ((0:Nat):Int))) (some none)=some (.sl [] [] (.tipz k 0 1))from fun k=>rfl,ssH,ag,ae,reduceIte,af,ak,ai,aj];exact jy jC ⟨rfl,rfl⟩
def CU(lg x mo:List UInt8)(k:Nat):V:=.sl [.sl [] [] .full,.sl (lg.map by8) [] (.tip 0 k),.sl (x.map by8) (mo.map by8) .no,.arr 1 0 4 4] [] .full
theorem RS{n:Nat}(hn:2≤n)(lg x mo:List UInt8)(k:Nat):nb n (CU lg x mo k):=by
 simp only[CU,kV,nbS];refine⟨?_,?_⟩<;>omega
theorem Ic{b o n c:Nat}:lenV false (.arr b o n c)=some (it n):=(rfl)
def szC(lg x:List UInt8):Nat→Nat
 |0=>0
 |1=>0
 |2=>lg.length
 |3=>lg.length+x.length
 |_=>lg.length+x.length+4
def wB(w:List UInt8):Blk:=.var 138 (w.map by8)
theorem zgV{w:List UInt8}{n:Nat}:∀ a<2,∀ x,lk [none,some (wB w)] a=some x→nbB n x:=by
 intro a ha x hx;have:a=0∨a=1:=by omega
 rcases this with rfl|rfl
 ·cases hx
 ·cases hx;simp only[wB,kV,nbS]
theorem zmq{w:List UInt8}(hw:w.length=4){x z:Option Blk}:extra (lk [x,some (wB w),z]) 1 (.arr 1 0 4 4)=some (w.map by8):=by
 have h1:((w.map by8).drop 0).take 4=w.map by8:=by rw[bM,bi (by simp[hw])]
 have h2:(w.map by8).all oP=true:=List.all_eq_true.2 fun v hv=>by
  obtain⟨b,_,rfl⟩:=List.mem_map.1 hv;rfl
 show(if 1=1∧0+4≤(w.map by8).length∧(((w.map by8).drop 0).take 4).all oP=true then some (((w.map by8).drop 0).take 4)else none)=_;rw[h1,if_pos ⟨rfl,by simp[hw],h2⟩]
def zaS(lg x w:List UInt8):Nat→List UInt8
 |2=>lg
 |3=>lg++x
 |_=>lg++x++w
def zh8(lg x w:List UInt8)(i v:Nat)(out:V):Prop:=(i≤1∧v=0∧out = .sl [] [] (.tipz 2 0 1))∨(2≤i∧out = .sl ((zaS lg x w i).map by8) [] (.tip 2 v))
theorem zee{lg x w:List UInt8}{i v:Nat}{out:V}(h:zh8 lg x w i v out):nb 3 out:=by
 rcases h with ⟨_,_,rfl⟩|⟨_,rfl⟩
 ·simp only[NP,nbS];decide
 ·simp only[kV,nbS];decide
theorem Xb(lg x w mo:List UInt8)(k:Nat)(hlg:lg≠[])(hw:w.length=4)(h1:lg.length≤10000000)(h2:x.length≤10000000) :
  FC Tryz.prog Γ 111 [CU lg x mo k] [none,some (wB w)] fun v h'=>∃ j,v = .sl ((lg++x++w).map by8) [] (.tip 2 j)∧h'=[none,some (wB w),some (.tip 5 j)]:=by
 have e0:oG 1 (CU lg x mo k) (it ((0:Nat):Int))=some (.elt [.sl [] [] .full]):=rfl;have e1:oG 1 (CU lg x mo k) (it ((1:Nat):Int))=some (.elt [.sl (lg.map by8) [] (.tip 0 k)]):=rfl;have e2:oG 1 (CU lg x mo k) (it ((2:Nat):Int))=some (.elt [.sl (x.map by8) (mo.map by8) .no]):=rfl;have e3:oG 1 (CU lg x mo k) (it ((3:Nat):Int))=some (.elt [.arr 1 0 4 4]):=rfl;have el:lenV false (CU lg x mo k)=some (it ((4:Nat):Int)):=rfl;have hnb:=RS (n:=2) (by decide) lg x mo k;refine fc mixed zgG zjD jY ?_;simp only[zjE,au,ay,ss0,aC,ag];simp only[el,ssH,ag,ae,reduceIte,af,ak,ai,aj];refine nC [0,3,9,10,11] 36 (fun n vs h=>∃ i:Nat,vs=[CU lg x mo k,it (szC lg x i:Nat),CU lg x mo k,it ((4:Nat):Int),it (i:Int)]∧i+n=5∧i≤4∧h=[none,some (wB w)]) 5 (by decide) (by decide) (aK 2) (jZ rfl (by decide) (by decide) (by simp) (by show nbs 2 [CU lg x mo k,it 0,CU lg x mo k,it 4,it 0];simp only[hnb,nbS]) zgV ⟨0,rfl,rfl,by omega,rfl⟩) ?_;rintro n t h J hJ hlt ⟨i,hv,hk,hi,rfl⟩;simp only[aZ,aQ,and_true]at hv;obtain⟨g0,g3,g9,g10,g11⟩:=hv;rw[mO hlt];simp only[jW,upTo,g0,g3,g9,g10,g11,ssH,ag,ae,reduceIte,af,ak,ai,aj]
 have hback:∀ (i:Nat),i≤4→5-i<n→∀ t3:List V,t3.length=36→[0,3,9,10,11].map (jS t3)=[CU lg x mo k,it (szC lg x i:Nat),CU lg x mo k,it ((4:Nat):Int),it (i:Int)]→J (aK 2) ⟨t3,[none,some (wB w)]⟩:=by
  intro i hi4 hn t3 ht3 hm3;refine hJ (5-i) (aK 2) _ hn (jZ ht3 (by decide) (by decide) (by simp) ?_ zgV ⟨i,hm3,by omega,hi4,rfl⟩);rw[hm3];simp only[hnb,nbS]
 have A:∀ (a b c:Nat),a+b=c→c<1000000000→IntKind.i64.wrap ((a:Int)+(b:Int))=(c:Int):=fun a b c h1 h2=>by rw[wrap_i64 (by omega) (by omega)];omega
 have A0:∀ c:Nat,decide ((c:Int)<0)=false:=fun c=>decide_eq_false (by omega);have n4:∀ i:Nat,i<4→decide ((i:Int)<((4:Nat):Int))=true:=fun i h=>decide_eq_true (by omega);have:i=0∨i=1∨i=2∨i=3∨i=4:=by omega
 rcases this with rfl|rfl|rfl|rfl|rfl
 ·simp only[szC,n4 0 (by decide),e0,kE,Ic,aH,ay,A 0 0 0 (by omega) (by omega),A0,jQ (show 0<4611686018427387904 by decide),ssH,ag,ae,reduceIte,af,ak,ai,aj];exact⟨_,hback 1 (by omega) (by omega) _ rfl rfl⟩
 ·simp only[szC,n4 1 (by decide),e1,kE,Ic,aH,ay,A 0 lg.length lg.length (by omega) (by omega),A0,jQ (show 1<4611686018427387904 by decide),ssH,ag,ae,reduceIte,af,ak,ai,aj];exact⟨_,hback 2 (by omega) (by omega) _ rfl rfl⟩
 ·simp only[szC,n4 2 (by decide),e2,kE,Ic,aH,ay,A lg.length x.length (lg.length+x.length) (by omega) (by omega),A0,jQ (show 2<4611686018427387904 by decide),ssH,ag,ae,reduceIte,af,ak,ai,aj];exact⟨_,hback 3 (by omega) (by omega) _ rfl rfl⟩
 ·simp only[szC,n4 3 (by decide),e3,kE,Ic,aH,ay,A (lg.length+x.length) 4 (lg.length+x.length+4) (by omega) (by omega),A0,jQ (show 3<4611686018427387904 by decide),ssH,ag,ae,reduceIte,af,ak,ai,aj];exact⟨_,hback 4 (by omega) (by omega) _ rfl rfl⟩
 ·simp only[szC,show decide (((4:Nat):Int)<((4:Nat):Int))=false from rfl,ssH,ag,ae,reduceIte,af,ak,ai,aj];refine YA (args0:=[.sl [] [] .full,it ((lg.length+x.length+4:Nat):Int)]) (hs:=[]) [] (zc4 (Γ:=Γ) (lg.length+x.length+4) (by omega) (by omega)) rfl nbY trivial rfl (by decide) (by simp) (by trivial) (by simp) ?_;rintro v h' ⟨rfl,rfl⟩;refine⟨⟨by decide,by simp only[NP,nbS];decide,by simp only[qo,qH,nbS],trivial⟩,?_⟩;simp only[ren,sV,Zq,xH,Hu,xg,aZ,eF,el,ssH,ag,ae,reduceIte,af,ak,ai,aj];clear hback hJ
  have blk3:∀ v,∀ a<3,∀ y,lk [none,some (wB w),some (.tip 5 v)] a=some y→nbB 3 y:=by
   intro v a ha y hy;have:a=0∨a=1∨a=2:=by omega
   rcases this with rfl|rfl|rfl
   ·cases hy
   ·cases hy;simp only[wB,kV,nbS]
   ·cases hy;simp only[nbS]
  have hnb3:=RS (n:=3) (by decide) lg x mo k;refine nC [6,25,26,27] 36 (fun n vs h=>∃ (i v:Nat) (out:V),vs=[out,CU lg x mo k,it ((4:Nat):Int),it (i:Int)]∧i+n=5∧i≤4∧zh8 lg x w i v out∧h=[none,some (wB w),some (.tip 5 v)]) 5 (by decide) (by decide) (aK 3) (jZ rfl (by decide) (by decide) (by simp) (by show nbs 3 [.sl [] [] (.tipz 2 0 1),CU lg x mo k,it 4,it 0];simp only[hnb3,NP,nbS];decide) (blk3 0) ⟨0,0,_,rfl,rfl,by omega,.inl ⟨by omega,rfl,rfl⟩,rfl⟩) ?_;clear hlt g0 g3 g9 g10 g11;rintro n t h J hJ hlt ⟨i,v,out,hv,hk,hi,hO,rfl⟩;simp only[aZ,aQ,and_true]at hv;obtain⟨g6,g25,g26,g27⟩:=hv;rw[mO hlt];simp only[jW,upTo,g6,g25,g26,g27,ssH,ag,ae,reduceIte,af,ak,ai,aj]
  have hback:∀ (i v:Nat) (out:V),i≤4→5-i<n→zh8 lg x w i v out→∀ t3:List V,t3.length=36→[6,25,26,27].map (jS t3)=[out,CU lg x mo k,it ((4:Nat):Int),it (i:Int)]→J (aK 3) ⟨t3,[none,some (wB w),some (.tip 5 v)]⟩:=by
   intro i v out hi4 hn hO t3 ht3 hm3;have hob:=zee hO;refine hJ (5-i) (aK 3) _ hn (jZ ht3 (by decide) (by decide) (by simp) ?_ (blk3 v) ⟨i,v,out,hm3,by omega,hi4,hO,rfl⟩);rw[hm3];simp only[hnb3,hob,nbS]
  have:i=0∨i=1∨i=2∨i=3∨i=4:=by omega
  rcases this with rfl|rfl|rfl|rfl|rfl
  ·rcases hO with ⟨_,rfl,rfl⟩|⟨q,_⟩
   ·simp only[n4 0 (by decide),e0,ssH,ag,ae,reduceIte,af,ak,ai,aj];refine AV rfl ?_;simp only[jQ (show 0<4611686018427387904 by decide),ssH,ag,ae,reduceIte,af,ak,ai,aj];exact⟨_,hback 1 0 _ (by omega) (by omega) (.inl ⟨by omega,rfl,rfl⟩) _ rfl rfl⟩
   ·omega
  ·rcases hO with ⟨_,rfl,rfl⟩|⟨q,_⟩
   ·simp only[n4 1 (by decide),e1,ssH,ag,ae,reduceIte,af,ak,ai,aj];refine zaj (j:=2) (k:=0) (ys:=lg.map by8) rfl (lV hlg) rfl (ul _) (.inl (by simp only[aH];omega)) ?_;simp only[jQ (show 1<4611686018427387904 by decide),ssH,ag,ae,reduceIte,af,ak,ai,aj];exact⟨_,hback 2 1 _ (by omega) (by omega) (.inr ⟨by omega,rfl⟩) _ rfl rfl⟩
   ·omega
  ·rcases hO with ⟨q,_⟩|⟨_,rfl⟩
   ·omega
   ·simp only[n4 2 (by decide),e2,zaS,ssH,ag,ae,reduceIte,af,ak,ai,aj]
    by_cases hx:x=[]
    ·subst hx;refine AV rfl ?_;simp only[jQ (show 2<4611686018427387904 by decide),ssH,ag,ae,reduceIte,af,ak,ai,aj];exact⟨_,hback 3 v _ (by omega) (by omega) (.inr ⟨by omega,by rw[zaS,aP];rfl⟩) _ rfl rfl⟩
    ·refine AU (j:=2) (k:=v) (ys:=x.map by8) rfl (lV hx) (lV hlg) rfl (lM _) (ul _) (by simp only[aH];omega) ?_;simp only[jQ (show 2<4611686018427387904 by decide),ssH,ag,ae,reduceIte,af,ak,ai,aj];exact⟨_,hback 3 (v+1) _ (by omega) (by omega) (.inr ⟨by omega,by rw[zaS,bu];rfl⟩) _ rfl rfl⟩
  ·rcases hO with ⟨q,_⟩|⟨_,rfl⟩
   ·omega
   ·simp only[n4 3 (by decide),e3,zaS,ssH,ag,ae,reduceIte,af,ak,ai,aj];refine AU (j:=2) (k:=v) (ys:=w.map by8) (zmq hw) (lV (by intro h;rw[h]at hw;simp at hw)) (lV (by simp[hlg])) rfl (lM _) (ul _) (by simp only[aH,aJ];omega) ?_;simp only[jQ (show 3<4611686018427387904 by decide),ssH,ag,ae,reduceIte,af,ak,ai,aj];exact⟨_,hback 4 (v+1) _ (by omega) (by omega) (.inr ⟨by omega,by show _=V.sl (((lg++x)++w).map by8) [] (.tip 2 (v+1));rw[bu (l₁:=lg++x)];rfl⟩) _ rfl rfl⟩
  ·rcases hO with ⟨q,_⟩|⟨_,rfl⟩
   ·omega
   ·simp only[show decide (((4:Nat):Int)<((4:Nat):Int))=false from rfl,zaS,ssH,ag,ae,reduceIte,af,ak,ai,aj];exact jy jC ⟨v,rfl,rfl⟩
theorem zf{σ:Nat→Nat}{l:List UInt8}:sV σ (l.map by8)=l.map by8:=Rw (jG l)
theorem U6{P:Program}{t:List V}{m:Store}{n z b o:Nat}{x:Operand}(h:ev Γ t x = .ptr b o):jJ P (ev Γ t) m (.sliceP n z x none none none)=some (.arr b o n n):=by
 simp only[jJ,h,lH,bounds,bQ];rw[if_pos ⟨by decide,by omega,by omega,by omega,fun h=>by cases h⟩];simp
theorem zew{P:Program}{t:List V}{m:Store}{a b c d:Tmp}{x y z w:V}(h1:ev Γ t (.tmp a)=x)(h2:ev Γ t (.tmp b)=y)(h3:ev Γ t (.tmp c)=z)(h4:ev Γ t (.tmp d)=w)(k1:x.cells.length=1)(k2:y.cells.length=1)(k3:z.cells.length=1)(k4:w.cells.length=1) :
  jJ P (ev Γ t) m (.lits 1 [.sl [] [] .full] 4 [(0,.tmp a),(1,.tmp b),(2,.tmp c),(3,.tmp d)])=some (.sl [x,y,z,w] [] .full):=by
 show(pq 1 [.sl [] [] .full,.sl [] [] .full,.sl [] [] .full,.sl [] [] .full] [(0,ev Γ t (.tmp a)),(1,ev Γ t (.tmp b)),(2,ev Γ t (.tmp c)),(3,ev Γ t (.tmp d))]).map (fun es=>V.sl es [] .full)=_;rw[h1,h2,h3,h4];simp[pq,k1,k2,k3,k4]
theorem za3{l:List UInt8}{j v:Nat}(h:l≠[]):wN (.sl (l.map by8) [] (.tip j v))=slN l:=by
 have e:wNs (l.map by8)=l.map by8:=Gw (fun _=>rfl) l;simp only[wN,e,wNs,slN]
 cases l with
 |nil=>exact absurd rfl h
 |cons b l=>rfl
theorem zcs(n:Nat):(((le4 n).map by8).length=4∧((le4 n).map by8).all oP=true)=True:=eq_true ⟨rfl,rfl⟩
theorem zeB(n:Nat):zT [V.val (.int .u8 0),V.val (.int .u8 0),V.val (.int .u8 0),V.val (.int .u8 0)] 0 ((le4 n).map by8)=(le4 n).map by8:=rfl
theorem YS(x mo:List UInt8)(tok:Tok)(hx:x.length≤1048576):jB Tryz.prog Γ 65 [.sl [] [] .full,.sl (x.map by8) (mo.map by8) tok] m fun o m'=>(∃ v,o = .ret v∧v = .tup [slN (frB x),it 0])∧m'=m:=by
 refine jB.tok [.sl [] [] .full] [] ?_;have z1:=qZ (n:=(x.length:Int)) ⟨by omega,by omega⟩;refine BI mixed ziv zkI jY (by simp only[aA,aB,kV,nbS]) ?_;simp only[F65,aA,aB,ss0,aC,ag];simp only[aH,gt_iff_lt,show decide ((1048576:Int)<(x.length:Int))=false from decide_eq_false (by omega),ssH,ag,ae,reduceIte,af,ak,ai,aj];refine F8 (e:=5) (size:=1) (az:=[it x.length]) (es2:=(uz x.length).map by8) (by simp) rfl (lV (ut _)) (fun m=>qf (Γ:=Γ) (l:=[]) (.inr ⟨rfl,rfl,rfl⟩) (n:=(x.length:Int)) ⟨by omega,by omega⟩ (by simp)) nbY (jG _) fun k => ?_;simp only[ssH,ag,ae,reduceIte,af,ak,ai,aj];have hc:CP (uz x.length)<4294967296:=zci _;refine oO (v:=u32 (CP (uz x.length))) rfl (fun m tok'=>zbi (uz x.length) .nil tok' (by omega)) (jG _) .nil .nil (by simp only[u32,nbS]) ?_;simp only[ssH,ag,ae,reduceIte,af,ak,ai,aj];refine jE (v:=u32 (CP (hdB x))) (fun m=>by have:=Yh (Γ:=Γ) (m:=m) (CP (uz x.length)) hc x (more:=mo.map by8) (jG _) .no (by omega);rw[show E8 (CP (uz x.length)) x=CP (hdB x)from ZZ 0 _ _]at this;exact this) (by simp only[aB,aP,aA,u32,kV,nbS]) (by simp only[u32,nbS]) ?_;simp only[ssH,ag,ae,reduceIte,af,ak,ai,aj];refine jE (v:=.agg ((le4 (CP (hdB x))).map by8)) (fun m=>zcl _) (by simp only[aB,aP,aA,u32,nbS]) (by simp only[kV,nbS]) ?_;simp only[jA,zcs,if_true,zeB,zbJ,ssH,ag,ae,reduceIte,af,ak,ai,aj];rw[U6 (b:=1) (o:=0) rfl];simp only[ssH,ag,ae,reduceIte,af,ak,ai,aj];rw[zew rfl rfl rfl rfl rfl rfl rfl rfl];simp only[ssH,ag,ae,reduceIte,af,ak,ai,aj];refine YA (args0:=[CU (uz x.length) x mo k]) (hs:=[none,some (wB (le4 (CP (hdB x))))]) [0,1] (Xb (Γ:=Γ) (uz x.length) x (le4 (CP (hdB x))) mo k (ut _) rfl (by omega) (by omega)) (by simp only[CU,sV,ren,Zq,rU,rV,zf];rfl) (by simp only[au,ay,tK,RS (show 2≤2 by decide),xX,and_self]) (by simp only[UG,qo,qH,wB,kV,nbS]) rfl (by decide) (by simp) (by simp only[Vx,uT,um,wB,xH,zf];exact⟨rfl,trivial⟩) (by simp) ?_
 rintro v h' ⟨j,rfl,rfl⟩;refine⟨⟨by simp,by simp only[kV,nbS];simp,by simp only[UG,qo,qH,wB,kV,nbS],by simp[nnl]⟩,?_⟩;simp only[ren,sV,Zq,xH,wB,zf,rU,rV,Hu,xg,yB,aZ,eF,ssH,ag,ae,reduceIte,af,ak,ai,aj];have hne:frB x≠[]:=by intro h;have:=pz x;rw[h]at this;simp at this
 have e2:wN (.tup [.sl ((frB x).map by8) [] (.tip 2 j),it 0]) = .tup [slN (frB x),it 0]:=by
  rw[wN,wNs,wNs,wNs,za3 hne];rfl
 exact jy (v:=.tup [.sl ((frB x).map by8) [] (.tip 2 j),it 0]) rfl ⟨by rw[e2];simp only[lW,nbS],e2⟩
theorem zjS(a b:Int)(d:Nat):kF Tryz.prog (Op.equalIn (d+1) 5 (.int .u8 a) (.int .u8 b))=some (a==b):=zW (P:=Tryz.prog) (T:=5) (a:=.int .u8 a) (b:=.int .u8 b) (by kernel_rfl)
theorem zgY(a b c d:Value):kF Tryz.prog (part 5 #[a,b,c,d] 0)=some a∧kF Tryz.prog (part 5 #[a,b,c,d] 1)=some b∧kF Tryz.prog (part 5 #[a,b,c,d] 2)=some c∧kF Tryz.prog (part 5 #[a,b,c,d] 3)=some d:=by
 refine⟨?_,?_,?_,?_⟩<;>kernel_rfl
theorem zdT(a b c d a' b' c' d':Int):kF Tryz.prog (Op.equal 138 (.agg #[.int .u8 a,.int .u8 b,.int .u8 c,.int .u8 d]) (.agg #[.int .u8 a',.int .u8 b',.int .u8 c',.int .u8 d']))=some ((a==a')&&((b==b')&&((c==c')&&((d==d')&&true)))):=by
 have hu:Program.underlying Tryz.prog 138=some (.array 4 5):=by kernel_rfl
 have hs:kF Tryz.prog (sizeOf 5)=some 1:=by kernel_rfl
 obtain⟨p0,p1,p2,p3⟩:=zgY (.int .u8 a) (.int .u8 b) (.int .u8 c) (.int .u8 d);obtain⟨q0,q1,q2,q3⟩:=zgY (.int .u8 a') (.int .u8 b') (.int .u8 c') (.int .u8 d');show kF Tryz.prog (Op.equalIn (9998+1+1) 138 _ _)=_;rw[Op.equalIn];simp only[kU,o8 hu,bC,hs];simp only[Std.Legacy.Range.forIn_eq_forIn_range',Std.Legacy.Range.size,Nat.sub_zero,Nat.add_one_sub_one,Nat.div_one];simp only[show List.range' 0 4 1=[0,1,2,3]from rfl,List.forIn_cons,List.forIn_nil,Nat.zero_mul,Nat.mul_one]
 cases h0:a==a'<;>cases h1:b==b'<;>cases h2:c==c'<;>cases h3:d==d' <;>
  simp only[kU,lS,p0,p1,p2,p3,q0,q1,q2,q3,bC,zjS,h0,h1,h2,h3,aO,aN,if_true,aF,if_false]<;>rfl
theorem zfq(xo yo:Operand)(x y:List UInt8)(hx:x.length=4)(hy:y.length=4):kX Tryz.prog .neq 138 .other xo yo (.agg (x.map by8)) (.agg (y.map by8))=some (.val (.bool (!decide (x=y)))):=by
 obtain⟨a,b,c,d,rfl⟩:∃ a b c d,x=[a,b,c,d]:=by
  match x,hx with
  |[a,b,c,d],_=>exact⟨a,b,c,d,rfl⟩
 obtain⟨a',b',c',d',rfl⟩:∃ a b c d,y=[a,b,c,d]:=by
  match y,hy with
  |[a,b,c,d],_=>exact⟨a,b,c,d,rfl⟩
 have e0:=zdT a.toNat b.toNat c.toNat d.toNat a'.toNat b'.toNat c'.toNat d'.toNat;have hg:Program.eqGuardType Tryz.prog (Program.depth Tryz.prog) 138=false:=by kernel_rfl
 have g:kF Tryz.prog (eqGuard .neq 138 xo yo (.agg #[.int .u8 a.toNat,.int .u8 b.toNat,.int .u8 c.toNat,.int .u8 d.toNat]) (.agg #[.int .u8 a'.toNat,.int .u8 b'.toNat,.int .u8 c'.toNat,.int .u8 d'.toNat]))=some ():=by
  unfold eqGuard;simp only[aO,aN,aF,if_false,if_true,kU,rP,bC,hg,lS]
 have r1:raw (.agg ([a,b,c,d].map by8))=some (.agg #[.int .u8 a.toNat,.int .u8 b.toNat,.int .u8 c.toNat,.int .u8 d.toNat]):=rfl;have r2:raw (.agg ([a',b',c',d'].map by8))=some (.agg #[.int .u8 a'.toNat,.int .u8 b'.toNat,.int .u8 c'.toNat,.int .u8 d'.toNat]):=rfl
 have e:((a.toNat:Int)==(a'.toNat:Int)&&((b.toNat:Int)==(b'.toNat:Int)&&((c.toNat:Int)==(c'.toNat:Int)&&((d.toNat:Int)==(d'.toNat:Int)&&true))))=decide ([a,b,c,d]=[a',b',c',d']):=by
  have k:∀ u v:UInt8,((u.toNat:Int)==(v.toNat:Int))=decide (u=v):=by
   intro u v;rw[dw,beq_iff_eq,decide_eq_true_eq];constructor
   ·intro h;exact UInt8.toNat_inj.1 (by omega)
   ·rintro rfl;rfl
  simp only[k];simp[aQ]
 rw[e]at e0;simp only[kX,nS,lm,zn,Bool.false_and,Bool.or_self,aF,if_false,r1,r2,kU,g,bC,binOp,e0,lS,lY,if_true]
end
end Go.Av.Fn
namespace Go.Av
end Go.Av
namespace Go.Av.Fn
open Go.Proofs
def mgB(nn:Bool)(x:Mg):Blk:=.var 68 (zl8 nn x)
def btB(l:List UInt8)(j k:Nat):Blk:=.var 22 [.sl (l.map by8) [] (.tip j k)]
theorem G9{σ:Nat→Nat}{T:TypeId}{v:Nat}:xH σ (.tip T v) = .tip T v:=(rfl)
section
variable {Γ:jI} {m:Store}
def putH(nn:Bool)(x:Mg)(l:List UInt8)(k:Nat):Hl:=[some (mgB nn x),some (btB l 2 k),some (.tip 5 k)]
end
section
variable {Γ:jI} {m:Store} {s:List UInt8}
end
structure Cn (s:List UInt8) (a:Nat) (e:Int) (b:Nat) (w:List UInt8):Prop where
 e0:e=0
 le:b≤s.length
 eq:s.take b=s.take a++w
section
variable {s w w2:List UInt8} {a b c:Nat} {e:Int}
theorem Cn.trans(h:Cn s a e b w)(k:Cn s b 0 c w2):Cn s a e c (w++w2):=⟨h.e0,k.le,by rw[k.eq,h.eq,aX]⟩
end
theorem UY{s:List UInt8}:∀ {n a:Nat} {e:Int},a≤s.length→(xM n s a e).2.1≤s.length
 |0,a,e,ha=>ha
 |n+1,a,e,ha=>by
  rw[xM]
  split
  ·exact UY (SL ha)
  ·exact ha
theorem zeN{s:List UInt8}{a:Nat}{e:Int}(ha:a≤s.length):(Ou s a e).2.1≤s.length:=by
 unfold Ou;exact UY (P5 (DI (nU ha)))
theorem pR{x:Lg}:lgB x=true↔0≤x.b∧x.b≤2147483647∧x.c.length≤65536∧(x.c=[]↔x.b=0)∧x.l.length≤64∧(x.l.length:Int)≤2147483647-x.b∧∀ e∈x.l,nR e=true:=by
 simp only[lgB,aG,decide_eq_true_eq,gX,beq_iff_eq,and_assoc]
 have:((x.c==[])=(x.b==0))↔(x.c=[]↔x.b=0):=by
  rw[dw];simp
 rw[this]
structure Inv (nn:Bool) (x:Lg) (L:List Ent):Prop where
 nil:nn=true∨x.l=[]
 right:lgB x=true
 len:x.b+x.l.length=L.length
 ent:x.l=L.drop x.b.toNat
 nums:∀ e∈x.l,Dh e
theorem Inv.base{nn:Bool}{x:Lg}{L:List Ent}(h:Inv nn x L):0≤x.b∧x.b≤L.length∧x.l.length≤64∧x.b≤2147483647:=by
 have h1:=pR.1 h.right;have h2:=h.len;omega
theorem OY{x:Lg}(hx:lgB x=true)(e:Ent):(doL x (lF x e)=(true,⟨x.b,x.c,x.l++[e]⟩,0)∧nR e=true∧x.l.length<64∧x.b+x.l.length<2147483647)∨∃ n,n≠0∧doL x (lF x e)=(false,lg0,n):=by
 have hb:=pR.1 hx
 by_cases he:nR e=true
 ·by_cases hf:x.l.length=64∨x.b+x.l.length=2147483647
  ·exact .inr ⟨12,by decide,Td (a:=false) (y:=lg0) hx (by simp only[lF,he,if_true,if_pos hf]) (by decide)⟩
  ·refine .inl ⟨Xf hx (by simp only[lF,he,if_true,if_neg hf]),he,?_,?_⟩<;>omega
 ·exact .inr ⟨2,by decide,Td (a:=false) (y:=lg0) hx (by simp only[lF,if_neg he]) (by decide)⟩
theorem Inv.cut{nn:Bool}{x:Lg}{L:List Ent}(h:Inv nn x L){n:Nat}(hn:n≤x.l.length):Inv nn ⟨x.b,x.c,x.l.take n⟩ (L.take (x.b+n).toNat):=by
 have hb:=h.base;have hr:=pR.1 h.right;have hl:=h.len;refine⟨h.nil.imp id fun q=>by simp[q],pR.2 ⟨hr.1,hr.2.1,hr.2.2.1,hr.2.2.2.1,?_,?_,?_⟩,?_,?_,?_⟩
 ·simp only[aW];omega
 ·simp only[aW];omega
 ·exact fun e he=>hr.2.2.2.2.2.2 e (dQ he)
 ·show x.b+((x.l.take n).length:Int)=((L.take (x.b+n).toNat).length:Int);simp only[aW];omega
 ·show x.l.take n=(L.take (x.b+n).toNat).drop x.b.toNat;rw[h.ent,dZ,show(x.b+(n:Int)).toNat-x.b.toNat=n by omega]
 ·exact fun e he=>h.nums e (dQ he)
theorem Inv.comp{nn:Bool}{x:Lg}{L:List Ent}(h:Inv nn x L){n:Nat}(hn:n≤x.l.length)(h0:0<n):Inv nn ⟨x.b+n,[99],x.l.drop n⟩ L:=by
 have hb:=h.base;have hr:=pR.1 h.right;have hl:=h.len;refine⟨h.nil.imp id fun q=>by simp[q],pR.2 ⟨?_,?_,?_,?_,?_,?_,?_⟩,?_,?_,?_⟩
 ·simp only;omega
 ·simp only;omega
 ·simp
 ·simp only[List.cons_ne_nil,false_iff];omega
 ·simp;omega
 ·simp;omega
 ·exact fun e he=>hr.2.2.2.2.2.2 e (jb he)
 ·simp;omega
 ·show x.l.drop n=L.drop (x.b+n).toNat;rw[h.ent,cZ];congr 1;omega
 ·exact fun e he=>h.nums e (jb he)
theorem Inv.app{nn:Bool}{x:Lg}{L:List Ent}(h:Inv nn x L){e:Ent}(he:nR e=true)(hn:Dh e)(h1:x.l.length<64)(h2:x.b+x.l.length<2147483647):Inv true ⟨x.b,x.c,x.l++[e]⟩ (L++[e]):=by
 have hb:=h.base;have hr:=pR.1 h.right;have hl:=h.len;refine⟨.inl rfl,pR.2 ⟨hr.1,hr.2.1,hr.2.2.1,hr.2.2.2.1,?_,?_,?_⟩,?_,?_,?_⟩
 ·simp;omega
 ·simp;omega
 ·intro y hy
  rcases List.mem_append.1 hy with q|q
  ·exact hr.2.2.2.2.2.2 y q
  ·rw[List.mem_singleton.1 q];exact he
 ·simp;omega
 ·show x.l++[e]=(L++[e]).drop x.b.toNat;rw[List.drop_append_of_le_length (by omega),←h.ent]
 ·intro y hy
  rcases List.mem_append.1 hy with q|q
  ·exact h.nums y q
  ·rw[List.mem_singleton.1 q];exact hn
theorem Inv.again{nn:Bool}{x:Lg}{L:List Ent}(h:Inv nn x L):Inv (!x.l.isEmpty) x L:=⟨zaw,h.right,h.len,h.ent,h.nums⟩
end Go.Av.Fn
namespace Go.Av
def zkt(k:Tok):Prop:=EY (fun _ _=>False) k k
def zmx(k:Tok):Prop:=zkt k∨∃ j v,k = .tip j v∧1≤j
def zku(k:Tok):Prop:=zkt k∨∃ v,k = .tip 1 v
theorem zku.a{k:Tok}(h:zku k):zmx k:=h.imp id fun ⟨v,e⟩=>⟨1,v,e,aY _⟩
section
variable {t:List V} {h:Hl}
end
end Go.Av
namespace Go.Av.Fn
open Go.Proofs
structure Act where
 k:Int
 op:Int
 e:Ent
section
variable {Γ:jI} {m:Store}
end
section
variable {Γ:jI} {m:Store} {rb a:Nat} {s:List UInt8} {e:Int}
end
section
variable {Γ:jI} {m:Store}
end
section
variable {Γ:jI} {m:Store}
theorem zeb(s:List UInt8)(n:Int)(u:Nat)(e:Int)(h:kT s 1048576=(n,u,e)):rO s 0 0 1048576=if e=0 then (n,u,0)else (0,0,e):=by
 unfold rO;simp only[bM,h]
 by_cases he:e=0
 ·simp[he]
 ·simp[he]
end
theorem RX{a b:Int}:mmV false [.val (.int .i64 a),.val (.int .i64 b)]=some (.val (.int .i64 (min a b))):=by
 simp only[mmV,mmF,aF,if_false];congr 3
 split<;>omega
theorem zhV{b mo:List UInt8}{l h:Nat}(h1:l≤h)(h2:h≤b.length):pO 1 (.sl (b.map by8) (mo.map by8) .no) (some (some (l:Int))) (some (some (h:Int))) (some none)=some (.sl (((b.take h).drop l).map by8) (((b++mo).drop h).map by8) .no):=by
 have hz:ng 1 (b.map by8++mo.map by8)=true:=by rw[←bu];exact lM _
 show(if ng 1 (b.map by8++mo.map by8)=true then cutV (b.map by8) (mo.map by8) .no (some (l:Int)) (some (h:Int)) none else none)=_;rw[if_pos hz];unfold cutV;simp only[bT,bJ,aH];rw[if_pos ⟨by omega,h1,by omega⟩]
 by_cases hh:h=b.length
 ·subst hh;rw[if_pos rfl,bK,iF,gB];rfl
 ·rw[if_neg hh,if_pos (by omega)];simp only[gB,iO,bu];rw[eH (by simp;omega)]
theorem zar{P:Program}{Γ:jI}{t:List V}{m:Store}{n:Nat}{x:Operand}:jJ P (ev Γ t) m (.s2ap n x)=XT n (ev Γ t x):=by
 simp only[jJ,XT];generalize ev Γ t x=a;cases a<;>rfl
theorem zjU{x mo:List UInt8}(hx:x.length=4):XT 4 (.sl (x.map by8) (mo.map by8) .no)=some (.elt ((x++mo).map by8)):=by
 have e:∀ l:List UInt8,flat (l.map by8)=l.map by8:=by
  intro l
  induction l with
  |nil=>rfl
  |cons b l ih=>rw[fJ,lG,ih];rfl
 show(if 4≤(x.map by8).length then some (V.elt (flat (x.map by8++mo.map by8)))else none)=_;rw[if_pos (by simp[hx]),←bu,e]
theorem ld4{x mo:List UInt8}{m:Store}(hx:x.length=4):DV m (some 4) (.elt ((x++mo).map by8))=some (.agg (x.map by8)):=by
 show mV ((x++mo).map by8) 0 (some 4)=_;unfold mV;simp only;rw[if_pos (by simp[hx]),bM,bu,eH (by simp[hx]),bi (by simp[hx])]
section
variable {Γ:jI} {m:Store}
theorem zeW(b mo:List UInt8)(tok:Tok)(at_:Nat)(ha:at_≤b.length)(hb:b.length≤100000000) :
  jB Tryz.prog Γ 36 [.sl (b.map by8) (mo.map by8) tok,it at_] m fun o m'=>(∃ v,o = .ret v∧v = .tup [if (frG (b.drop at_)).2.2=0 then slN (frG (b.drop at_)).1 else .sl [] [] .full,it (if (frG (b.drop at_)).2.2=0 then at_+(frG (b.drop at_)).2.1 else 0:Nat),it (frG (b.drop at_)).2.2])∧m'=m:=by
 refine jB.tok [] [it at_] ?_;have hbl:b.length=at_+(b.drop at_).length:=by rw[bf];omega
 refine BI mixed ziL zkX jY (by simp only[aB,kV,nbS]) ?_;simp only[F36,aB,ss0,aC,ag];have w0:IntKind.i64.wrap ((at_:Int)+11)=((at_+11:Nat):Int):=by rw[wrap_i64 (by omega) (by omega)];omega
 have wm:min (b.length:Int) ((at_+11:Nat):Int)=((min b.length (at_+11):Nat):Int):=by omega
 simp only[show decide ((at_:Int)<0)=false from decide_eq_false (by omega),gt_iff_lt,aH,show decide ((b.length:Int)<(at_:Int))=false from decide_eq_false (by omega),w0,V9,EL,RX,wm,lw,lH,zhV (b:=b) (mo:=mo) (show at_≤min b.length (at_+11)by omega) (show min b.length (at_+11)≤b.length by omega),ssH,ag,ae,reduceIte,af,ak,ai,aj]
 have ht:(b.take (min b.length (at_+11))).drop at_=(b.drop at_).take 11:=by
  rw[dZ]
  by_cases h:b.length≤at_+11
  ·rw[Nat.min_eq_left h,bi (by rw[bf];omega),bi (by rw[bf];omega)]
  ·rw[Nat.min_eq_right (by omega),dJ]
 rw[ht]
 have hcu:∀ i j,i≤j→at_+j≤b.length→pO 1 (.sl (b.map by8) (mo.map by8) .no) (some (some ((at_+i:Nat):Int))) (some (some ((at_+j:Nat):Int))) (some none)=some (.sl ((((b.drop at_).take j).drop i).map by8) (((b++mo).drop (at_+j)).map by8) .no):=by
  intro i j h1 h2;rw[zhV (by omega) h2,List.take_drop,cZ]
 clear ht;generalize b.drop at_=s at hbl hcu;obtain⟨n,u,e,hc⟩:∃ n u e,kT s 1048576=(n,u,e):=⟨_,_,_,rfl⟩;have hr:=zeb (s.take 11) n u e (by rw[Vm s _ (by decide)];exact hc);have hl11:(s.take 11).length≤281474976710656:=by rw[aW];omega
 refine KA (Y:=rdB (s.take 11) 0 0) (by simp only[au,ay,ag,ak]) rfl (fun m tok'=>XD) (jG _) (jG _) .nil kK ?_;simp only[ssH,ag,ae,reduceIte,af,ak,ai,aj];refine jX (b:=0) (az:=[it 1048576]) (X:=rdB (s.take 11) 0 0) rfl rfl (fun m b' h=>Px 1048576 h (bU _) hl11) kK kK nbY nbY ?_;rw[hr]
 by_cases he:e=0
 ·subst he;obtain⟨g1,g2,g3,g4,g5,g6⟩:=CQ hc;obtain⟨n,rfl⟩:=dL g1;simp only[if_true,ssH,ag,ae,reduceIte,af,ak,ai,aj];refine kz (b:=0) rfl rfl (fun m b' h=>xO h) kK nbY nbY ?_;simp only[show((0:Int) != 0)=false from rfl,ssH,ag,ae,reduceIte,af,ak,ai,aj];refine kz (b:=0) rfl rfl (fun m b' h=>zho h) kK nbY nbY ?_;have w1:IntKind.i64.wrap ((at_:Int)+(u:Int))=((at_+u:Nat):Int):=by rw[wrap_i64 (by omega) (by omega)];omega
  have w2:IntKind.i64.wrap ((b.length:Int)-((at_+u:Nat):Int))=((s.length-u:Nat):Int):=by rw[wrap_i64 (by omega) (by omega)];omega
  have w3:IntKind.i64.wrap ((n:Int)+4)=((n+4:Nat):Int):=by rw[wrap_i64 (by omega) (by omega)];omega
  have w4:IntKind.i64.wrap (((at_+u:Nat):Int)+(n:Int))=((at_+(u+n):Nat):Int):=by rw[wrap_i64 (by omega) (by omega)];omega
  have w5:IntKind.i64.wrap (((at_+(u+n):Nat):Int)+4)=((at_+(u+n+4):Nat):Int):=by rw[wrap_i64 (by omega) (by omega)];omega
  simp only[w1,w2,w3,aH,ssH,ag,ae,reduceIte,af,ak,ai,aj]
  by_cases hl:s.length<u+n+4
  ·simp only[show decide (((s.length-u:Nat):Int)<((n+4:Nat):Int))=true from decide_eq_true (by omega),ssH,ag,ae,reduceIte,af,ak,ai,aj]
   have:frG s=([],0,3):=by
    unfold frG;simp only[hc,bJ];rw[if_neg (by decide),if_pos hl]
   rw[this];exact jy (v:=.tup [.sl [] [] .full,it 0,it 3]) rfl ⟨by simp only[wN,wNs,I5,nbS],rfl⟩
  ·have hz:pO 1 (.sl (b.map by8) (mo.map by8) .no) (some (some (at_:Int))) (some (some ((at_+(u+n):Nat):Int))) (some none)=some (.sl ((s.take (u+n)).map by8) (((b++mo).drop (at_+(u+n))).map by8) .no):=by
    have:=hcu 0 (u+n) (by omega) (by omega);rw[bM]at this;exact this
   have hq4:((s.take (u+n+4)).drop (u+n)).length=4:=by rw[bf,aW];omega
   simp only[show decide (((s.length-u:Nat):Int)<((n+4:Nat):Int))=false from decide_eq_false (by omega),w4,w5,lw,lH,hcu (u+n) (u+n+4) (by omega) (by omega),zhw,zar,zjU hq4,sK,ld4 hq4,hz,ssH,ag,ae,reduceIte,af,ak,ai,aj];have hlt:(s.take (u+n)).length≤100000000:=by rw[aW];omega
   refine oO (v:=u32 (CP (s.take (u+n)))) rfl (fun m tok'=>zbi (s.take (u+n)) (jG _) tok' (by omega)) (jG _) (jG _) .nil (by simp only[u32,nbS]) ?_;simp only[sK,ld4 hq4,ssH,ag,ae,reduceIte,af,ak,ai,aj];refine jE (v:=.agg ((le4 (CP (s.take (u+n)))).map by8)) (fun m=>zcl _) (by simp only[aB,aP,aA,u32,nbS]) (by simp only[kV,nbS]) ?_
   have hqe:(s.take (u+n+4)).drop (u+n)=(s.drop (u+n)).take 4:=by
    rw[dZ,dJ]
   have hiff:=zhR (s:=s) hc (by omega);rw[←hqe]at hiff;simp only[sK,ld4 hq4,zfq _ _ _ _ hq4 (Yu _),ssH,ag,ae,reduceIte,af,ak,ai,aj]
   have hxe:(s.take (u+n)).drop u=(s.drop u).take n:=by
    rw[dZ,dJ]
   by_cases hq:s.take (u+n+4)=frB ((s.drop u).take n)
   ·have hfr:frG s=((s.drop u).take n,u+n+4,0):=by
     unfold frG;simp only[hc,bJ];rw[if_neg (by decide),if_neg hl,if_pos hq]
    simp only[decide_eq_true (hiff.1 hq),aO,w4,w5,lw,lH,hcu u (u+n) (by omega) (by omega),hxe,ssH,ag,ae,reduceIte,af,ak,ai,aj]
    have hne:(b++mo).drop (at_+(u+n))≠[]:=by
     intro h;have:=congrArg List.length h;rw[bf,aJ,ay]at this;omega
    refine Ol (Qv:=fun v=>v=slN ((s.drop u).take n)) (by exact fun m=>zao ((s.drop u).take n) ((b++mo).drop (at_+(u+n))) (by rw[aW];omega) (.inr hne) .no) (by simp only[aB,aP,kV,nbS]) (by rintro v rfl;exact lW) ?_;rintro v rfl;simp only[hfr,if_true,w4,w5,ssH,ag,ae,reduceIte,af,ak,ai,aj]
    have e2:wN (.tup [slN ((s.drop u).take n),it ((at_+(u+n+4):Nat):Int),it 0]) = .tup [slN ((s.drop u).take n),it ((at_+(u+n+4):Nat):Int),it 0]:=by
     rw[wN,wNs,wNs,wNs,wNs]
     have:wN (slN ((s.drop u).take n))=slN ((s.drop u).take n):=by
      have e:∀ l:List UInt8,wNs (l.map by8)=l.map by8:=Gw (fun _=>rfl);simp only[slN,wN,e,wNs];cases (s.drop u).take n<;>rfl
     rw[this];rfl
    exact jy (v:=.tup [slN ((s.drop u).take n),it ((at_+(u+n+4):Nat):Int),it 0]) rfl ⟨by rw[e2];simp only[lW,nbS],e2⟩
   ·have hfr:frG s=([],0,4):=by
     unfold frG;simp only[hc,bJ];rw[if_neg (by decide),if_neg hl,if_neg hq]
    simp only[decide_eq_false (fun h=>hq (hiff.2 h)),aN,hfr,ssH,ag,ae,reduceIte,af,ak,ai,aj];exact jy (v:=.tup [.sl [] [] .full,it 0,it 4]) rfl ⟨by simp only[wN,wNs,I5,nbS],rfl⟩
 ·simp only[if_neg he,ssH,ag,ae,reduceIte,af,ak,ai,aj];refine kz (b:=0) rfl rfl (fun m b' h=>xO h) kK nbY nbY ?_
  have:frG s=([],0,e):=by
   unfold frG;simp only[hc];rw[if_pos he]
  simp only[bne_iff_ne.2 he,this,if_neg he,ssH,ag,ae,reduceIte,af,ak,ai,aj];exact jy (v:=.tup [.sl [] [] .full,it 0,it e]) rfl ⟨by simp only[wN,wNs,I5,nbS],rfl⟩
end
section
variable {Γ:jI} {m:Store}
end
section
variable {Γ:jI} {m:Store}
end
section
variable {Γ:jI} {m:Store}
end
end Go.Av.Fn
namespace Go.Av.Fn
open Go.Proofs
section
variable {Γ:jI} {m:Store}
theorem zkl{b:List UInt8}{h:Nat}(h2:h<b.length):pO 1 (slN b) (some none) (some (some (h:Int))) (some none)=some (.sl ((b.take h).map by8) ((b.drop h).map by8) .no):=by
 have hz:ng 1 (b.map by8++[])=true:=by rw[aP];exact lM _
 show(if ng 1 (b.map by8++[])=true then cutV (b.map by8) [] .non none (some (h:Int)) none else none)=_;rw[if_pos hz];unfold cutV;simp only[bT,bQ,bJ,aH,Int.toNat_zero,aP,bM,ay,dR];rw[if_pos ⟨by decide,by omega,by omega⟩,if_neg (by omega),if_pos (by omega),iO,gB]
theorem Aa{n:Int}:BB Tryz.prog 3 60 (.val (.int .i64 n))=some (.val (.int .u64 (IntKind.u64.wrap n))):=by kernel_rfl
theorem zZ{n:Int}:BB Tryz.prog 60 3 (.val (.int .u64 n))=some (.val (.int .i64 (IntKind.i64.wrap n))):=by kernel_rfl
theorem zkq(n:Int)(L:Nat)(h0:0<L)(hL:L<1000000000):∃ c:Nat,c<L∧IntKind.i64.wrap ((IntKind.u64.wrap n).tmod (IntKind.u64.wrap (L:Int)))=(c:Int):=by
 rw[IntKind.wrap_u64,IntKind.wrap_u64,show(L:Int)%18446744073709551616=(L:Int)by omega];have h1:0≤n%18446744073709551616:=by omega
 obtain⟨k,hk⟩:=dL h1;rw[hk];refine⟨k%L,Nat.mod_lt _ h0,?_⟩;have:(k:Int).tmod (L:Int)=((k%L:Nat):Int):=rfl;rw[this,wrap_i64 (by omega) (by have:=Nat.mod_lt k h0;omega)]
end
section
variable {Γ:jI} {m:Store}
end
end Go.Av.Fn
namespace Go.Av
theorem EU{X0:Blk}{h:Hl}{v:V}(hv:nb 0 v)(h0:lk h 0=some X0)(hX:nbB 0 X0):As 1 [0] v [some X0] v h:=by
 refine⟨?_,by simp,hv.up _,rfl,?_⟩
 ·intro a ha;have:a=0:=by omega
  subst this;rfl
 ·intro a b hab;have hl:=(List.getElem?_eq_some_iff.1 hab).1;simp at hl;subst hl;cases hab;rw[h0];exact hX.up _
theorem zfp{h:Hl}{v:V}(hv:nb 0 v):As 0 [] v [] v h:=by
 refine⟨fun a ha=>by omega,by simp,hv.up _,rfl,?_⟩;intro a b hab;cases hab
theorem Y0{X0:Blk}{e:TypeId}{es:List V}{h:Hl}{j k:Nat}(hj:1≤j)(h0:lk h 0=some X0)(hX:nbB 0 X0)(he:nbs 0 es)(h2:lk h j=some (.tip e k)) :
  As 1 [0,j] (.sl es [] (.tip 1 k)) [some X0,some (.tip e k)] (.sl es [] (.tip j k)) h:=by
 refine⟨?_,?_,.sl (k:=.tip 1 k) (k':=.tip j k) (he.up _) .nil ⟨rfl,rfl⟩,rfl,?_⟩
 ·intro a ha;have:a=0:=by omega
  subst this;rfl
 ·simp only[List.nodup_cons,di,bW,or_false,not_or,List.nodup_nil,and_true,not_false_eq_true];omega
 ·intro a b hab;have hl:=(List.getElem?_eq_some_iff.1 hab).1;simp at hl;have:a=0∨a=1:=by omega
  rcases this with rfl|rfl
  ·cases hab;rw[h0];exact hX.up _
  ·cases hab;rw[h2];exact⟨rfl,rfl⟩
theorem zfo{e:TypeId}{es:List V}{h:Hl}{j k:Nat}(he:nbs 0 es)(h2:lk h j=some (.tip e k)) :
  As 0 [j] (.sl es [] (.tip 0 k)) [some (.tip e k)] (.sl es [] (.tip j k)) h:=by
 refine⟨fun a ha=>by omega,by simp,.sl (k:=.tip 0 k) (k':=.tip j k) (he.up _) .nil ⟨rfl,rfl⟩,rfl,?_⟩;intro a b hab;have hl:=(List.getElem?_eq_some_iff.1 hab).1;simp at hl;subst hl;cases hab;rw[h2];exact⟨rfl,rfl⟩
end Go.Av
namespace Go.Av.Fn
open Go.Proofs
structure Kt where
 v:Int
 n:Int
 l:Lg
def ktC(nn:Bool)(k:Kt):List V:=[it k.v,it k.n,it k.l.b,bs k.l.c,lJ nn k.l.l]
def ktV(nn:Bool)(k:Kt):V:=.agg (ktC nn k)
def DX(nn:Bool)(k:Kt):Blk:=.var 28 (ktC nn k)
theorem RQ(j:Nat)(nn:Bool)(k:Kt):nbs j (ktC nn k):=by
 have:=kL (k:=j) nn k.l.l;simp only[ktC,this,nbS]
theorem FU(j:Nat)(nn:Bool)(k:Kt):nb j (ktV nn k):=by simp only[ktV,RQ,nbS]
theorem zH(j:Nat)(nn:Bool)(k:Kt):nbB j (DX nn k):=by simp only[DX,RQ,nbS]
def pW(v n:Int):Bool:=decide (0≤n)&&(decide (n≤v)&&decide (v≤2147483647))
def ktB(k:Kt):Bool:=pW k.v k.n&&lgB k.l
def vW(k:Nat):Option Blk:=some (.tip 5 k)
section
variable {Γ:jI} {m:Store}
theorem Qo(v n:Int):jB Tryz.prog Γ 41 [it v,it n] m fun o m'=>o = .ret (bo (pW v n))∧m'=m:=by
 refine kJ (kM mixed ziI zkU jY nbY ?_);simp only[F41,ss0,aC,ag];simp only[ge_iff_le,ssH,ag,ae,reduceIte,af,ak,ai,aj];cases h:decide (0≤n)
 ·simp only[h,ssH,ag,ae,reduceIte,af,ak,ai,aj];exact jy jC ⟨nbZ,by simp only[pW,h];rfl⟩
 simp only[h,ssH,ag,ae,reduceIte,af,ak,ai,aj];cases h2:decide (n≤v)
 ·simp only[h2,ssH,ag,ae,reduceIte,af,ak,ai,aj];exact jy jC ⟨nbZ,by simp only[pW,h,h2];rfl⟩
 simp only[h2,ssH,ag,ae,reduceIte,af,ak,ai,aj];exact jy jC ⟨nbZ,by simp only[pW,h,h2];rfl⟩
theorem uI(E:Env Γ)(nn:Bool)(k:Kt):jB Tryz.prog Γ 16 [ktV nn k] m fun o m'=>o = .ret (it (if ktB k=true then 0 else 2))∧m'=m:=by
 have hnl:=kL (k:=0) nn k.l.l;refine kJ (kM mixed zi7 zlx jY (by simp only[FU,nbS]) ?_);simp only[F16,ktV,ktC,ss0,aC,ag];simp only[jA,ssH,ag,ae,reduceIte,af,ak,ai,aj];refine jE (v:=bo (pW k.v k.n)) (by exact fun m=>Qo k.v k.n) nbY (by simp only[bo,nbS]) ?_;cases h:pW k.v k.n
 ·simp only[bo,ssH,ag,ae,reduceIte,af,ak,ai,aj];exact jy jC ⟨nbZ,by simp only[ktB,h];rfl⟩
 simp only[bo,ssH,ag,ae,reduceIte,af,ak,ai,aj];refine jE (by exact fun m=>Jn E nn k.l) (by simp only[hnl,nbS]) nbY ?_;cases h2:lgB k.l
 ·simp only[aF,if_false,show((4:Int) != 0)=true from rfl,ssH,ag,ae,reduceIte,af,ak,ai,aj];exact jy jC ⟨nbZ,by simp only[ktB,h,h2];rfl⟩
 ·simp only[if_true,show((0:Int) != 0)=false from rfl,ssH,ag,ae,reduceIte,af,ak,ai,aj];exact jy jC ⟨nbZ,by simp only[ktB,h,h2];rfl⟩
theorem WJ(l:List UInt8)(k:Nat):FN Tryz.prog Γ 44 [.sl (l.map by8) [] (.tip 0 k)] [vW k] 0 fun v h' => ∃ k',v = .sl ((l++[]).map by8) [] (.tip 0 k')∧h' = [vW k']:=by
 refine QB mixed ziG zkS jY 0 ?_;simp only[F44,vW,ss0,aC,ag];simp only[ssH,ag,ae,reduceIte,af,ak,ai,aj];exact jy (v:=.sl (l.map by8) [] (.tip 0 k)) rfl ⟨[0],_,_,zfo (jG _) rfl,k,by rw[aP],rfl⟩
theorem WM(e:Ent)(he:Dh e)(hs:e.s.length+e.cs.length≤1000)(l:List UInt8)(k:Nat)(hl:l≠[])(hb:l.length≤1000):FN Tryz.prog Γ 49 [.sl (l.map by8) [] (.tip 1 k),.ptr 0 0] [some (Bq e),vW k] 1 fun v h' => ∃ k',v = .sl ((l++rq e).map by8) [] (.tip 1 k')∧h'=[some (Bq e),vW k']:=by
 have hne:=nX (k:=0) e;refine QB mixed ziE zkQ jY 1 ?_;simp only[F49,vW,Bq,ss0,aC,ag];simp only[ssH,ag,ae,reduceIte,af,ak,ai,aj];refine qw (e:=5) (size:=1) (j:=1) (k:=k) (az:=[kS e]) (es:=l.map by8) (es2:=(l++rq e).map by8) (by simp) rfl rfl (lM _) (lV hl) (lV (by simp[hl])) (fun m m' v h=>XQ (Γ:=Γ) (.inl h) e he (by omega)) (jG _) (by simp only[hne,nbS]) (jG _) fun k' => ?_;simp only[jT,jU,aA,aB,au,ay,ssH,ag,ae,reduceIte,af,ak,ai,aj];exact jy (v:=.sl ((l++rq e).map by8) [] (.tip 2 k')) rfl ⟨[0,2],_,_,Y0 (by decide) rfl (DT e) (jG _) rfl,k',rfl,rfl⟩
theorem WI(nn:Bool)(x:Kt)(hx:zh9 x.l)(l:List UInt8)(k:Nat)(hl:l≠[])(hb:l.length≤1000):FN Tryz.prog Γ 53 [.sl (l.map by8) [] (.tip 1 k),.ptr 0 0] [some (DX nn x),vW k] 1 fun v h' => ∃ k',v = .sl ((l++vP x.l).map by8) [] (.tip 1 k')∧h'=[some (DX nn x),vW k']:=by
 have hnl:=kL (k:=0) nn x.l.l;have hpl:vP x.l≠[]:=by simp[vP,ut]
 refine QB mixed ziB zkM jY 1 ?_;simp only[F53,vW,DX,ktC,ss0,aC,ag];simp only[ssH,ag,ae,reduceIte,af,ak,ai,aj];refine qw (e:=5) (size:=1) (j:=1) (k:=k) (az:=[lgV nn x.l]) (es:=l.map by8) (es2:=(l++vP x.l).map by8) (by simp) rfl rfl (lM _) (lV hl) (lV (by simp[hl])) (fun m m' v h=>zel (Γ:=Γ) (.inl h) nn x.l hx (by omega)) (jG _) (by simp only[lgV,hnl,nbS]) (jG _) fun k' => ?_;simp only[jT,jU,aA,aB,au,ay,ssH,ag,ae,reduceIte,af,ak,ai,aj];exact jy (v:=.sl ((l++vP x.l).map by8) [] (.tip 2 k')) rfl ⟨[0,2],_,_,Y0 (by decide) rfl (zH 0 nn x) (jG _) rfl,k',rfl,rfl⟩
end
end Go.Av.Fn
namespace Go.Proofs.YtmglaebjmaomnaaGreatDoor
open Go.ChangeShapes Go.WideShapes Go.ChangeAt Go.RowKit Go.Av.Fn Go.ChangeMaps Go.Av
theorem wf_i64{n:Int}(h:(Lit.int .i64 n).wf=true):I64 n:=by
 unfold Lit.wf at h;simp only[aG,decide_eq_true_eq]at h;have h1:IntKind.i64.min = -9223372036854775808:=rfl;have h2:IntKind.i64.max=9223372036854775807:=rfl;rw[h1,h2]at h;exact⟨h.1,by omega⟩
end Go.Proofs.YtmglaebjmaomnaaGreatDoor
namespace Go.Av.Fn
open Go.Proofs Go.RowKit Go.Proofs.YtmglaebjmaomnaaGreatDoor
def AP : List (String × DataW Unit) := [("math/bits.deBruijn32tab", Rows.laid_math_bits_deBruijn32tab), ("math/bits.deBruijn64tab", Rows.laid_math_bits_deBruijn64tab), ("internal/strconv.uint64pow10", Rows.laid_internal_strconv_uint64pow10), ("errors.errorType", Rows.laid_errors_errorType), ("strconv.ErrRange", Rows.laid_strconv_ErrRange), ("strconv.ErrSyntax", Rows.laid_strconv_ErrSyntax), ("hindcast/lex.words", Rows.laid_hindcast_lex_words), ("hindcast/lex.signs", Rows.laid_hindcast_lex_signs)]
def zg3 : List (String × DataW Unit) := [("math/bits.deBruijn32tab", Rows.laid_math_bits_deBruijn32tab), ("math/bits.deBruijn64tab", Rows.laid_math_bits_deBruijn64tab), ("internal/strconv.uint64pow10", Rows.laid_internal_strconv_uint64pow10), ("strconv.ErrRange", Rows.laid_strconv_ErrRange), ("strconv.ErrSyntax", Rows.laid_strconv_ErrSyntax), ("hindcast/lex.words", Rows.laid_hindcast_lex_words), ("hindcast/lex.signs", Rows.laid_hindcast_lex_signs)]
theorem Z9 : (AP.filter fun x => x.2.handleName?.isSome) = [("errors.errorType", Rows.laid_errors_errorType)] := by kernel_rfl
theorem zaa:(AP.filter fun x=>x.2.handleName?.isNone)=zg3:=by kernel_rfl
theorem zhP : Tryz.prog.globalNamed "hindcast/lex.words" = some 1 := by kernel_rfl
theorem zhQ : Tryz.prog.globalNamed "hindcast/lex.signs" = some 0 := by kernel_rfl
theorem zcW : Tryz.prog.globalNamed "strconv.ErrRange" = some 7 := by kernel_rfl
theorem YE : Tryz.prog.globalNamed "strconv.ErrSyntax" = some 6 := by kernel_rfl
theorem zkh : Tryz.prog.globalNamed "errors.errorType" = some 3 := by kernel_rfl
theorem zhr:(Tryz.prog.globals[1]?).map (·.type)=some 213:=by kernel_rfl
theorem zhs:(Tryz.prog.globals[0]?).map (·.type)=some 211:=by kernel_rfl
theorem zht:(Tryz.prog.globals[7]?).map (·.type)=some 266:=by kernel_rfl
theorem zdY:(Tryz.prog.globals[6]?).map (·.type)=some 266:=by kernel_rfl
theorem zkg : Tryz.prog.globalNamed "internal/strconv.uint64pow10" = some 2 := by kernel_rfl
theorem zl4:(Tryz.prog.globals[2]?).map (·.type)=some 278:=by kernel_rfl
theorem cells9:Tryz.prog.cellsOf 9=1:=by kernel_rfl
theorem YV:Tryz.prog.cellsOf 385=1:=by kernel_rfl
theorem star : "*" ++ "errors.errorString" = "*errors.errorString" := by decide
theorem zgW (u : TypeId) (h : Tryz.prog.typeName? 3 u = some "*errors.errorString") : u = 383 :=
 typeName_ptr_named (nm := "errors.errorString") (by rw [star]; kernel_rfl) (by kernel_rfl) (by decide) u (by rw [star]; exact h)
theorem zjV : (Tryz.prog.cutTypes.find? (·.1 == "internal/reflectlite.rtype")).map (·.2) = some 333 := by kernel_rfl
theorem oneRow:((aK Tryz.prog.types.size).filter fun t=>Tryz.prog.rowNamed t [101,114,114,111,114])=[266]:=by kernel_rfl
def gl(p q:Value):jI:=fun g=>if g=0 then some (kY.map bs)else if g=1 then some (lI.map bs)else if g=7 then some [.ifc 383 (.val p)]else if g=6 then some [.ifc 383 (.val q)]else if g=3 then some [.ifc 333 (.agg [.ptr 9 266])]else if g=2 then some zl6 else none
theorem zeZ {W : World} (h : handlesMet Tryz.prog [("errors.errorType", Rows.laid_errors_errorType)] W) : W.cell? ⟨3, 0, none⟩ = some (.iface 333 (.agg #[.pointer (some ⟨9, 266, none⟩)])) := by
 obtain⟨name,u,ty,e1,e2,e3,e4,e5⟩:=h _ (List.mem_singleton.2 rfl);have en:name=[101,114,114,111,114]:=(fH e1).symm;subst en;obtain rfl:=fH (zjV.symm.trans e2);have hm:ty∈(aK Tryz.prog.types.size).filter fun t=>Tryz.prog.rowNamed t [101,114,114,111,114]:=List.mem_filter.2 ⟨List.mem_range.2 e3,e4⟩;rw[oneRow]at hm;obtain rfl:=List.mem_singleton.1 hm;have hh:typeHandle Tryz.prog 266 = .pointer (some ⟨9,266,none⟩):=by kernel_rfl
 rw[hh]at e5
 simpa using World.var?_cell zkh e5 0
theorem XX{G:Gh}:∀ l:List Int,kD G (l.map fun z=>V.val (.int .u64 z)) (l.map fun z=>Value.int .u64 z)
 |[]=>.nil
 |z::l=>.cons (.val rfl) (XX l)
theorem zS{W:World}(hH:laidMetH Tryz.prog AP W):∃ p q,lY p=true∧lY q=true∧Rep (gl p q) W.heap.size (y7 (gl p q) W) (fun _=>none) W:=by
 obtain ⟨h, hh⟩ : laidMet Tryz.prog zg3 W ∧ handlesMet Tryz.prog [("errors.errorType", Rows.laid_errors_errorType)] W := by
  unfold laidMetH at hH;rw[Z9,zaa]at hH;exact hH
 have hw:=EZ (L:=lI) (Lib.laidMet.reads h (.tail _ (.tail _ (.tail _ (.tail _ (.tail _ (.head _))))))) zhP zhr Tryz.underlying213 Tryz.underlying9 cells9;have hs:=EZ (L:=kY) (Lib.laidMet.reads h (.tail _ (.tail _ (.tail _ (.tail _ (.tail _ (.tail _ (.head _)))))))) zhQ zhs Tryz.underlying211 Tryz.underlying9 cells9;obtain⟨a1,s1,hv1,_⟩:=laid_sentinel h.tail.tail.tail zcW zht Tryz.underlying266 zgW Tryz.underlying383 Tryz.underlying385 rfl rfl Tryz.underlying9 YV cells9;obtain⟨a2,s2,hv2,_⟩:=laid_sentinel h.tail.tail.tail.tail YE zdY Tryz.underlying266 zgW Tryz.underlying383 Tryz.underlying385 rfl rfl Tryz.underlying9 YV cells9;have he1:W.cell? ⟨7,0,none⟩=some (.iface 383 (.pointer (some a1))):=by simpa using World.var?_cell zcW hv1 0
 have he2:W.cell? ⟨6,0,none⟩=some (.iface 383 (.pointer (some a2))):=by simpa using World.var?_cell YE hv2 0
 have he3:=zeZ hh
 have hpow : Lib.TabIs Tryz.prog W "internal/strconv.uint64pow10" .u64 Lib.pow10Tab := Lib.tabIs_of_head zkg zl4 Tryz.underlying278 Tryz.underlying150 (by kernel_rfl) (by kernel_rfl) h.tail.tail
 have hpc:∃ T fz,W.heap[2]? = some (.cells (Lib.pow10Tab.map fun z=>Value.int .u64 z).toArray T fz):=by
  unfold Lib.TabIs World.var? at hpow;rw[zkg]at hpow;simp only[bC]at hpow
  split at hpow
  ·rename_i cs T fz hcs;cases hpow;exact⟨_,_,hcs⟩
  ·cases hpow
 refine⟨.pointer (some a1),.pointer (some a2),rfl,rfl,Zk (fun g cs hg => ?_) ?_⟩
 rotate_left
 ·intro g cs hg h20;unfold gl at hg
  split at hg
  ·cases hg;simp[kY]at h20
  ·split at hg
   ·cases hg;simp[lI]at h20
   ·split at hg
    ·cases hg;simp at h20
    ·split at hg
     ·cases hg;simp at h20
     ·split at hg
      ·cases hg;simp at h20
      ·split at hg
       ·rename_i e;subst e;obtain⟨T,fz,hcs⟩:=hpc;exact⟨(Array.getElem?_eq_some_iff.1 hcs).1,_,T,fz,hcs,by simp[Lib.pow10Tab]⟩
       ·cases hg
 have hone:∀ {g:Nat} {v:V} {x:Value},ku (y7 (gl (.pointer (some a1)) (.pointer (some a2))) W) v x→W.cell? ⟨g,0,none⟩=some x→∃ us,kD (y7 (gl (.pointer (some a1)) (.pointer (some a2))) W) [v] us∧∀ i u,us[i]? = some u→W.cell? ⟨g,i,none⟩=some u:=by
  intro g v x hv hc;refine⟨[x],.cons hv .nil,fun i u hu => ?_⟩
  cases i with
  |zero=>
   simp only[List.getElem?_cons_zero,Option.some.injEq]at hu;rw[←hu];exact hc
  |succ i=>simp at hu
 unfold gl at hg
 split at hg
 ·rename_i h0;subst h0;cases hg;refine⟨_,VX kY,fun i u hu => ?_⟩;rw[bn]at hu;obtain⟨s,h1,rfl⟩:=Option.map_eq_some_iff.1 hu;exact hs i s h1
 ·split at hg
  ·rename_i h0;subst h0;cases hg;refine⟨_,VX lI,fun i u hu => ?_⟩;rw[bn]at hu;obtain⟨s,h1,rfl⟩:=Option.map_eq_some_iff.1 hu;exact hw i s h1
  ·split at hg
   ·rename_i h0;subst h0;cases hg;exact hone (.ifc (.val rfl)) he1
   ·split at hg
    ·rename_i h0;subst h0;cases hg;exact hone (.ifc (.val rfl)) he2
    ·split at hg
     ·rename_i h0;subst h0;cases hg;exact hone (.ifc (.agg (.cons (.ptr _ _) .nil))) he3
     ·split at hg
      ·rename_i h0;subst h0;cases hg;obtain⟨T,fz,hcs⟩:=hpc;refine⟨Lib.pow10Tab.map fun z=>Value.int .u64 z,XX _,fun i u hu => ?_⟩;simp only[World.cell?,hcs,Option.isSome_none,aF,if_false];rw[List.getElem?_toArray];exact hu
      ·cases hg
theorem Xc(p q:Value):zmD (gl p q) where
 env:={ lib:=zj8,parse:=zed (T:=383) (v:=.val p) rfl,words:=rfl,signs:=rfl,errT:=rfl }
 range:=⟨383,.val p,rfl⟩
 syn:=⟨383,.val q,rfl⟩
end Go.Av.Fn
namespace Go.Proofs.YtmglaebjmaomnaaGreatDoor
open Go.ChangeShapes Go.WideShapes Go.ChangeAt Go.RowKit Go.Av.Fn Go.ChangeMaps Go.Av
end Go.Proofs.YtmglaebjmaomnaaGreatDoor
namespace Go.Proofs.YtmglaebjmaomnaaGreatDoor
open Go.ChangeShapes Go.WideShapes Go.ChangeAt Go.RowKit Go.Av.Fn Go.ChangeMaps Go.Av
def Iz(e:Go.Av.Fn.Ent):List Value:=[.int .i64 e.c,.int .i64 e.q,.int .i64 e.k,.int .i64 e.n,.string ⟨e.s.toArray⟩,.int .i64 e.ck,.int .i64 e.cn,.string ⟨e.cs.toArray⟩]
def zgR(e:Go.Av.Fn.Ent):Prop:=I64 e.c∧I64 e.q∧I64 e.k∧I64 e.n∧I64 e.ck∧I64 e.cn∧e.s.length≤maxLen∧e.cs.length≤maxLen
instance:Inhabited Go.Av.Fn.Ent:=⟨⟨0,0,0,0,[],0,0,[]⟩⟩
theorem zhZ(s:ByteArray):(⟨s.data.toList.toArray⟩:ByteArray)=s:=by simp
theorem TK{H:Type}{enc:TypeId×Value→H}{W:World}{cs:List Value}{x:DataW H×List MemPlace}{fuel:Nat}(h:DataW.trod enc Tryz.prog W 0 (fun _=>true) true fuel 42 cs=some x) :
  ∃ e:Go.Av.Fn.Ent,cs=Iz e∧zgR e:=by
 obtain⟨xs,n,_,rfl,hl,hlen,hf⟩:=DataW.trod_struct Tryz.underlying42 h;have hc3:Tryz.prog.cellsOf 40=3:=by kernel_rfl
 have hcI:Tryz.prog.cellsOf 3=1:=by kernel_rfl
 have hcA:Tryz.prog.cellsOf 37=1:=by kernel_rfl
 have hcS:Tryz.prog.cellsOf 9=1:=by kernel_rfl
 have hc1:Tryz.prog.cellsOf 38=1:=by kernel_rfl
 have hc8:Tryz.prog.cellsOf 42=8:=by kernel_rfl
 rw[hc8]at hl
 match cs,hl with
 |[a,b,c,d,e,f,g,i],_=>
  match xs,hlen with
  |[y0,y1,y2,y3,y4,y5],_=>
   have h0:DataW.trod enc Tryz.prog W 0 (fun _=>true) true n 3 (([a,b,c,d,e,f,g,i].drop 0).take (Tryz.prog.cellsOf 3))=some y0:=hf 0 _ rfl;have h1:DataW.trod enc Tryz.prog W 0 (fun _=>true) true n 3 (([a,b,c,d,e,f,g,i].drop 1).take (Tryz.prog.cellsOf 3))=some y1:=hf 1 _ rfl;have h2:DataW.trod enc Tryz.prog W 0 (fun _=>true) true n 37 (([a,b,c,d,e,f,g,i].drop 2).take (Tryz.prog.cellsOf 37))=some y2:=hf 2 _ rfl;have h3:DataW.trod enc Tryz.prog W 0 (fun _=>true) true n 3 (([a,b,c,d,e,f,g,i].drop 3).take (Tryz.prog.cellsOf 3))=some y3:=hf 3 _ rfl;have h4:DataW.trod enc Tryz.prog W 0 (fun _=>true) true n 9 (([a,b,c,d,e,f,g,i].drop 4).take (Tryz.prog.cellsOf 9))=some y4:=hf 4 _ rfl;have h5:DataW.trod enc Tryz.prog W 0 (fun _=>true) true n 40 (([a,b,c,d,e,f,g,i].drop 5).take (Tryz.prog.cellsOf 40))=some y5:=hf 5 _ rfl;simp only[hc3,hcI,hcA,hcS,bM,dh,dE,dK]at h0 h1 h2 h3 h4 h5;obtain⟨k0,c0,e0,w0⟩:=DataW.trod_int Tryz.underlying3 h0;obtain⟨k1,c1,e1,w1⟩:=DataW.trod_int Tryz.underlying3 h1;obtain⟨k2,c2,e2,w2⟩:=DataW.trod_int Tryz.underlying37 h2;obtain⟨k3,c3,e3,w3⟩:=DataW.trod_int Tryz.underlying3 h3;obtain⟨s4,c4,e4,w4⟩:=DataW.trod_string Tryz.underlying9 h4;obtain⟨z0,z1,z2,nn,hx,hlen2,g0,g1,g2⟩:=Go.Deep.trod_struct3 Tryz.underlying40 h5;simp only[hc1,hcI,hcS,bM,dh,dE,dK]at g0 g1 g2;obtain⟨k5,c5,e5,w5⟩:=DataW.trod_int Tryz.underlying38 g0;obtain⟨k6,c6,e6,w6⟩:=DataW.trod_int Tryz.underlying3 g1;obtain⟨s7,c7,e7,w7⟩:=DataW.trod_string Tryz.underlying9 g2;simp only[aQ,and_true]at c0 c1 c2 c3 c4 c5 c6 c7
   subst c0 c1 c2 c3 c4 c5 c6 c7;exact⟨⟨k0,k1,k2,k3,s4.data.toList,k5,k6,s7.data.toList⟩,by simp only[Iz,zhZ],wf_i64 w0,wf_i64 w1,wf_i64 w2,wf_i64 w3,wf_i64 w5,wf_i64 w6,w4,w7⟩
theorem Vf{G:Gh}(e:Go.Av.Fn.Ent):kD G (kS e).cells (Iz e):=.cons (.val rfl) (.cons (.val rfl) (.cons (.val rfl) (.cons (.val rfl) (.cons (.val rfl) (.cons (.val rfl) (.cons (.val rfl) (.cons (.val rfl) .nil)))))))
theorem Ve{G:Gh}:∀ l:List Go.Av.Fn.Ent,kD G (flat (l.map kS)) (l.flatMap Iz)
 |[]=>.nil
 |e::l=>by
  rw[fJ,lG,fG];exact(Vf e).append (Ve l)
theorem YT:∀ (l:List Go.Av.Fn.Ent) (j:Nat) (u:Value),(l.flatMap Iz)[j]? = some u→∃ (i k:Nat) (e:Go.Av.Fn.Ent),j=i*8+k∧k<8∧l[i]? = some e∧(Iz e)[k]? = some u
 |[],j,u,h=>by simp at h
 |e::l,j,u,h=>by
  rw[fG]at h
  by_cases hj:j<8
  ·rw[bz (by simpa [Iz] using hj)]at h;exact⟨0,j,e,by omega,hj,rfl,h⟩
  ·rw[iy (by simp[Iz];omega)]at h;obtain⟨i,k,e',h1,h2,h3,h4⟩:=YT l _ u h;have h8:(Iz e).length=8:=rfl;rw[h8]at h1;exact⟨i+1,k,e',by omega,h2,by simpa using h3,h4⟩
theorem ZM{H:Type}{enc:TypeId×Value→H}{W:World}{cs:List Value}{x:DataW H×List MemPlace}{fuel:Nat}(hsp:∀ a len cap,cs=[.slice (some a) len cap]→a.spot=none)(h:DataW.trod enc Tryz.prog W 0 (fun _=>true) true fuel 24 cs=some x) :
  ∃ (nn:Bool) (l:List Go.Av.Fn.Ent) (v:Value),cs=[v]∧ku (startA W) (lJ nn l) v∧(nn=true∨l=[])∧l.length≤maxLen∧∀ e∈l,zgR e:=by
 have hc8:Tryz.prog.cellsOf 42=8:=by kernel_rfl
 rcases Go.Deep.open_slice Tryz.underlying24 h with ⟨rfl,rfl⟩|⟨a,len,cap,m,n,D,Pl,rfl,_,h3,h4,h5,h6,h7⟩
 ·exact⟨false,[],_,rfl,.nil rfl,.inr rfl,bU _,fun e he=>by cases he⟩
 ·have hs:=hsp a len cap rfl;simp only[if_true]at h5;subst h5
  obtain ⟨f,hf⟩ := Go.Deep.choose_lt (α := Go.Av.Fn.Ent) (n := len) (p := fun i e => (∀ k,k < 8 → W.cell? (a.add (i * 8 + k)) = (Iz e)[k]?) ∧ zgR e) (fun i hi => by
   obtain⟨cs',g1,g2⟩:=h7 i (by omega);rw[hc8]at g1;obtain⟨e,rfl,he⟩:=TK g2;obtain⟨_,_,g3⟩:=World.cells?_some g1;refine⟨e,fun k hk => ?_,he⟩;have:=g3 k hk;rw[add_plain hs,add_plain rfl]at this
   rw[add_plain hs,←this,iP])
  have hlen:((aK len).map f).length=len:=by simp
  refine⟨true,(aK len).map f,_,rfl,?_,.inl rfl,by rw[hlen];omega,?_⟩
  ·have := ku.sl (G := startA W) (es := ((aK len).map f).map kS) (more := []) (tok := .non) (us := ((aK len).map f).flatMap Iz) (a := a) (cap := m) (s := 8) (by
     intro e he;rw[aP]at he;obtain⟨b,_,rfl⟩:=List.mem_map.1 he
     rfl) (by rw [aP]; exact Ve _) (JC hs (by
     intro j u hu;obtain⟨i,k,e,rfl,hk,hi,hu'⟩:=YT _ _ _ hu;rw[bn]at hi;obtain⟨i',hi',rfl⟩:=Option.map_eq_some_iff.1 hi;obtain⟨hlt,e2⟩:=List.getElem?_eq_some_iff.1 hi';simp only[List.length_range]at hlt;simp only[List.getElem_range]at e2;subst e2;rw[(hf i hlt).1 k hk]
     exact hu')) (by simpa using h3) (by decide) trivial
   rw[aH,hlen]at this;exact this
  ·intro e he;obtain⟨i,hi,rfl⟩:=List.mem_map.1 he;exact(hf i (by simpa using hi)).2
theorem open_int{H:Type}{enc:TypeId×Value→H}{W:World}{base:Nat}{v:Value}{d:DataW H}{ps:List MemPlace}(hv:Value.okWide Tryz.prog W .any base 3 v)(h:DataW.Trod enc Tryz.prog W 0 (fun _=>true) true 3 v d ps) :
  ∃ n:Int,v = .int .i64 n∧I64 n:=by
 obtain⟨fuel,hf⟩:=h;obtain⟨n,c0,e0,w0⟩:=DataW.trod_int Tryz.underlying3 hf
 have hn:lY v=true:=by
  simp only[Value.okWide,Tryz.underlying3]at hv;exact Cf hv
 rw[zG hn]at c0;exact⟨n,by simpa using c0,wf_i64 w0⟩
end Go.Proofs.YtmglaebjmaomnaaGreatDoor
namespace Go.Proofs.YtmglaebjmaomnaaGreatDoor
open Go.ChangeShapes Go.WideShapes Go.ChangeAt Go.RowKit Go.Av.Fn Go.ChangeMaps Go.Av
theorem own:ownKnob Tryz.prog.godebug=none:=by kernel_rfl
theorem door_met(os:Os)(args:Array Value):laidMetH Tryz.prog AP ((World.doorLaid Tryz.prog 4000 os).forCall (fun _ _=>0) ⟨#[],args,[]⟩).memory:=
 laidMetH_of_parts3 (fuel:=8) (laidMet_of_run' 8 (by kernel_rfl) (by kernel_rfl)) (by kernel_rfl) (by kernel_rfl)
theorem MH:Lj Tryz.prog=true:=by kernel_rfl
end Go.Proofs.YtmglaebjmaomnaaGreatDoor
namespace Go.Proofs.YtmglaebjmaomnaaGreatDoor
open Go.ChangeShapes Go.WideShapes Go.ChangeAt Go.RowKit Go.Av.Fn Go.ChangeMaps Go.Av
theorem zck : Tryz.pinned.checked.prog.mainIs = some (true, (("bb766fb570bec7cb2739f021d878634c7761997539a2e05ecd9a98ea531ab34b" : String).toList)) := by kernel_rfl
theorem WA:true=Tryz.pinned.checked.prog.looks []:=by kernel_rfl
end Go.Proofs.YtmglaebjmaomnaaGreatDoor
namespace Go.Proofs.YtmglaebjmaomnaaGreatDoor
open Go.ChangeShapes Go.WideShapes Go.ChangeAt Go.RowKit Go.Av.Fn Go.ChangeMaps Go.Av
end Go.Proofs.YtmglaebjmaomnaaGreatDoor
namespace Go.Proofs.YtmglaebjmaomnaaGreatDoor
open Go.ChangeShapes Go.WideShapes Go.ChangeAt Go.RowKit Go.Av.Fn Go.ChangeMaps Go.Av
set_option maxHeartbeats 3200000 in
theorem ZJ{H:Type}{enc:TypeId×Value→H}{W:World}{base:Nat}{v:Value}{d:DataW H}{ps:List MemPlace}(hv:Value.okWide Tryz.prog W .any base 28 v)(h:DataW.Trod enc Tryz.prog W 0 (fun _=>true) true 28 v d ps) :
  ∃ (nn:Bool) (k:Kt),ku (startA W) (ktV nn k) v∧(nn=true∨k.l.l=[])∧I64 k.v∧I64 k.n∧I64 k.l.b∧∀ e∈k.l.l,Dh e:=by
 have hv0:=hv;obtain⟨l,rfl,hl,hna⟩:=Q4 Tryz.underlying28 hv;obtain⟨fuel,hf⟩:=h;obtain⟨y0,y1,y2,m0,hx,hlen,g0,g1,g2⟩:=Go.Deep.trod_struct3 Tryz.underlying28 hf;have hc5:Tryz.prog.cellsOf 28=5:=by kernel_rfl
 have hc3:Tryz.prog.cellsOf 26=3:=by kernel_rfl
 have hc1:Tryz.prog.cellsOf 3=1:=by kernel_rfl
 have hc2:Tryz.prog.cellsOf 9=1:=by kernel_rfl
 have hc4:Tryz.prog.cellsOf 24=1:=by kernel_rfl
 rw[hc5]at hl
 match l,hl with
 |[a0,a1,a,b,c],_=>
  simp only[Value.cells,bM,hc1,hc2,hc3,hc4,dh,dE,dK]at g0 g1 g2;obtain⟨k0,c0,e0,w0⟩:=DataW.trod_int Tryz.underlying3 g0;obtain⟨k1,c1,e1,w1⟩:=DataW.trod_int Tryz.underlying3 g1;obtain⟨z0,z1,z2,_,_,_,q0,q1,q2⟩:=Go.Deep.trod_struct3 Tryz.underlying26 g2;simp only[hc1,hc2,hc4,bM,dh,dE,dK]at q0 q1 q2;obtain⟨k2,c2,e2,w2⟩:=DataW.trod_int Tryz.underlying3 q0;obtain⟨s,c3,e3,w3⟩:=DataW.trod_string Tryz.underlying9 q1
  have hsp:∀ p len cap,[c]=[.slice (some p) len cap]→p.spot=none:=by
   intro p len cap e;simp only[aQ,and_true]at e;subst e;simp only[Value.okWide,Tryz.underlying28]at hv0;obtain⟨cs,q1,q2,ts,q3,q4,q5⟩:=hv0
   have e1:cs = #[a0,a1,a,b,.slice (some p) len cap]:=by
    cases q1;rfl
   subst e1;obtain⟨u,q6,q7⟩:=q5 4 _ rfl;have hts:Tryz.prog.cellTypes Tryz.prog.depth 28=some ts:=q3
   have:u=24:=by
    have hk:Tryz.prog.cellTypes Tryz.prog.depth 28=some [3,3,3,9,24]:=by kernel_rfl
    rw[hk]at hts;cases hts
    simpa using q6.symm
   subst this;simp only[Cell.okWide,Cell.ok,Tryz.underlying24]at q7;exact q7.2.2.2.1
  obtain⟨nb,es,v',c4,hr,hn,hle,hi⟩:=ZM hsp q2;simp only[aQ,and_true]at c0 c1 c2 c3 c4;subst c0 c1 c2 c3 c4;refine⟨nb,⟨k0,k1,⟨k2,s.data.toList,es⟩⟩,.agg (.cons (.val rfl) (.cons (.val rfl) (.cons (.val rfl) (.cons (Uj s) (.cons hr .nil))))),hn,wf_i64 w0,wf_i64 w1,wf_i64 w2,fun e he => ?_⟩;obtain⟨j1,j2,j3,j4,j5,j6,_⟩:=hi e he;exact⟨j1,j2,j3,j4,j5,j6⟩
end Go.Proofs.YtmglaebjmaomnaaGreatDoor
namespace Go.Av.Fn
open Go.Proofs
section
variable {Γ:jI} {m:Store}
end
def lgE(x y:Lg):Bool:=x.b==y.b&&(x.c==y.c&&decide (x.l=y.l))
section
variable {Γ:jI} {m:Store}
theorem Zz(a b:Bool)(x y:Lg)(hl:x.l.length≤2000000):jB Tryz.prog Γ 40 [lgV a x,lgV b y] m fun o m'=>o = .ret (bo (lgE x y))∧m'=m:=by
 have hna:=ql (k:=0) a x;have hnb:=ql (k:=0) b y;have hla:=kL (k:=0) a x.l;have hlb:=kL (k:=0) b y.l;refine kJ (kM mixed ziJ zkV jY (by simp only[hna,hnb,nbS]) ?_);simp only[F40,lgV,ss0,aC,ag];simp only[jA,ssH,ag,ae,reduceIte,af,ak,ai,aj];cases h1:(x.b==y.b)
 ·simp only[ssH,ag,ae,reduceIte,af,ak,ai,aj];exact jy jC ⟨nbZ,by rw[lgE,h1];rfl⟩
 cases h2:(x.c==y.c)
 ·simp only[h2,ssH,ag,ae,reduceIte,af,ak,ai,aj];exact jy jC ⟨nbZ,by rw[lgE,h1,h2];rfl⟩
 simp only[h2,ssH,ag,ae,reduceIte,af,ak,ai,aj];refine jE (v:=bo (decide (x.l=y.l))) (by intro m;exact Wj (Γ:=Γ) (m:=m) b (t:=if a then .non else .full) x.l y.l (by omega)) (by simp only[hla,hlb,nbS]) (by simp only[bo,nbS]) ?_;simp only[bo,ssH,ag,ae,reduceIte,af,ak,ai,aj];exact jy jC ⟨nbZ,by rw[lgE,h1,h2];rfl⟩
end
end Go.Av.Fn
namespace Go.Av.Fn
open Go.Proofs
section
variable {Γ:jI} {m:Store}
end
section
variable {Γ:jI} {m:Store}
set_option maxHeartbeats 3200000 in
theorem UN{g:FuncId}{X0:Blk}(hX:nbB 0 X0)(hR:∀ σ,xH σ X0=X0){X:List UInt8}(hX2:X.length≤200000)
  (hc:∀ (l:List UInt8) (k:Nat),l≠[]→l.length≤1000→FN Tryz.prog Γ g [.sl (l.map by8) [] (.tip 1 k),.ptr 0 0] [some X0,vW k] 1 fun v h' => ∃ k',v = .sl ((l++X).map by8) [] (.tip 1 k')∧h'=[some X0,vW k'])
  (ns:List Int) (hn:∀ n∈ns,Av.I64 n) (h0:ns≠[]) (h3:ns.length≤10) :
  FN Tryz.prog Γ 43 [.fn (.func g) [] [.ptr 0 0],.sl (ns.map it) [] .full] [some X0] 1 fun v h'=>v=slN (frB (kH ns++X))∧h'=[some X0]:=by
 have hln:=uD hn
 have hne0:kH ns≠[]:=by
  cases ns with
  |nil=>exact absurd rfl h0
  |cons n ns=>simp only[kH];intro h;exact ut n (List.append_eq_nil_iff.1 h).1
 refine QB mixed zdL zhn jY 1 ?_;simp only[F43,ss0,aC,ag];simp only[kE,aH,ssH,ag,ae,reduceIte,af,ak,ai,aj];have hX1:∀ k,nbB k X0:=fun k=>hX.up _;have hnb:=sF (k:=1) ns;have hnb0:=sF (k:=0) ns;refine nC [5,0,10,11,12] 28 (fun n vs h=>∃ (i:Nat) (tk:Tok),vs=[.sl ((kH (ns.take i)).map by8) [] tk,.fn (.func g) [] [.ptr 0 0],.sl (ns.map it) [] .full,it ns.length,it i]∧i+n=ns.length+1∧i≤ns.length∧((i=0∧h=[some X0]∧tk = .full)∨(0<i∧∃ k,h=[some X0,vW k]∧tk = .tip 1 k))) (ns.length+1) (by decide) (by decide) (aK 1) ?_ ?_
 ·refine jZ rfl (by decide) (by decide) (by simp) ?_ ?_ ⟨0,.full,by simp only[kH,dE];rfl,by omega,by omega,.inl ⟨rfl,rfl,rfl⟩⟩
  ·show nbs 1 [.sl [] [] .full,.fn (.func g) [] [.ptr 0 0],.sl (ns.map it) [] .full,it ns.length,it 0];simp only[hnb,nbS]
   try decide
  ·intro a ha x hx;have:a=0:=by omega
   subst this;cases hx;exact hX.up _
 rintro n t h J hJ hlt ⟨i,tk,hv,hi1,hi2,hh⟩;simp only[aZ,aQ,and_true]at hv;obtain⟨g5,g0,g10,g11,g12⟩:=hv
 have hlen:(kH (ns.take i)).length≤100:=by
  have:=uD (l:=ns.take i) fun x hx=>hn x (dQ hx);rw[aW]at this;omega
 obtain⟨pr,hpr⟩:∃ z,z=kH (ns.take i):=⟨_,rfl⟩;rw[←hpr]at g5 hlen;rw[mO hlt];simp only[jW,upTo,g5,g0,g10,g11,g12,aH,ssH,ag,ae,reduceIte,af,ak,ai,aj]
 by_cases hil:i<ns.length
 ·have hx2:ns[i]? = some ns[i]:=aI hil;have hni:Av.I64 ns[i]:=hn _ (dX _);have hst:kH (ns.take (i+1))=kH (ns.take i)++uz ns[i]:=by rw[bg,hx2,Jr];simp[kH]
  generalize ns[i]=a at hx2 hni hst;obtain⟨nx,hnx⟩:∃ z,z=kH (ns.take (i+1)):=⟨_,rfl⟩;have hp:nx=pr++uz a:=by rw[hnx,hpr,hst]
  have hi9:oG 1 (.sl (ns.map it) [] .full) (it i)=some (.elt [it a]):=mD (e:=it a) (by rw[bn,hx2];rfl) rfl;have hne3:nx.map by8≠[]:=lV (by rw[hp];simp[ut])
  have fin:∀ {t':List V} {h':Hl} (j k:Nat),t'.length=28→jS t' 5 = .sl (nx.map by8) [] (.tip j k)→jS t' 0 = .fn (.func g) [] [.ptr 0 0]→jS t' 10 = .sl (ns.map it) [] .full→jS t' 11=it ns.length→jS t' 12=it (i+1:Nat)→lk h' 0=some X0→lk h' j=some (.tip 5 k)→1≤j→∃ names,J names ⟨t',h'⟩:=by
   intro t' h' j k q q5 q0 q10 q11 q12 qc qj hj;refine⟨_,hJ (n-1) _ _ (by omega) (IK (c:=1) (j:=j) (k:=k) (es:=nx.map by8) (more:=[.fn (.func g) [] [.ptr 0 0],.sl (ns.map it) [] .full,it ns.length,it (i+1:Nat)]) [some X0] q (aY _) hj (by decide) qj rfl (by simp only[aZ,q5,q0,q10,q11,q12]) (jG _) (by simp only[hnb,nbS];try decide) ?_ ⟨i+1,.tip 1 k,by rw[←hnx],by omega,by omega,.inr ⟨by omega,k,rfl,rfl⟩⟩)⟩;intro a ha x hx;have:a=0:=by omega
   subst this;cases hx;exact⟨qc,hX.up _⟩
  simp only[show decide ((i:Int)<(ns.length:Int))=true from decide_eq_true (by omega),hi9,ssH,ag,ae,reduceIte,af,ak,ai,aj]
  rcases hh with ⟨hi0,rfl,rfl⟩|⟨hi0,k,rfl,rfl⟩
  ·have hpe:pr=[]:=by rw[hpr,hi0];rfl
   rw[hpe,aB]at hp;subst hpe;simp only[eG];refine F8 (e:=5) (size:=1) (az:=[it a]) (es2:=nx.map by8) (by simp) rfl hne3 (fun m=>by rw[hp];exact qf (Γ:=Γ) (l:=[]) (.inr ⟨rfl,rfl,rfl⟩) hni (by simp)) nbY (jG _) fun k => ?_;simp only[aA,aB,au,ay,jQ (show i<4611686018427387904 by omega),ssH,ag,ae,reduceIte,af,ak,ai,aj];exact fin 1 k rfl rfl rfl rfl rfl rfl rfl rfl (by decide)
  ·have hpn:pr≠[]:=by
    rw[hpr]
    cases ns with
    |nil=>simp at hil
    |cons n ns=>
     cases i with
     |zero=>omega
     |succ i=>simp[kH,ut]
   simp only[vW,ssH,ag,ae,reduceIte,af,ak,ai,aj];refine qw (e:=5) (size:=1) (j:=1) (k:=k) (az:=[it a]) (es:=pr.map by8) (es2:=nx.map by8) (by simp) rfl rfl (lM _) (lV hpn) hne3 (fun m m' v h=>by rw[hp];exact qf (Γ:=Γ) (.inl h) hni (by omega)) (jG _) nbY (jG _) fun k => ?_;simp only[jT,jU,aA,aB,au,ay,jQ (show i<4611686018427387904 by omega),ssH,ag,ae,reduceIte,af,ak,ai,aj];exact fin 2 k rfl rfl rfl rfl rfl rfl rfl rfl (by decide)
 ·simp only[show decide ((i:Int)<(ns.length:Int))=false from decide_eq_false (by omega),ssH,ag,ae,reduceIte,af,ak,ai,aj];have hie:i=ns.length:=by omega
  rw[hie,bK]at hpr;subst hpr
  rcases hh with ⟨hi0,rfl,rfl⟩|⟨hi0,k,rfl,rfl⟩
  ·have:ns=[]:=List.length_eq_zero_iff.1 (by omega);exact absurd this h0
  ·refine EK (args0:=[.sl ((kH ns).map by8) [] (.tip 1 k),.ptr 0 0]) (hs:=[some X0,vW k]) [0] [1] (hc (kH ns) k hne0 (by omega)) (by first|rfl|(simp only[sV,ren,zf,rU,rV];rfl)) (by simp only[kV,au,ay,nbS];try decide) (by simp only[vW,qo,qH,hX1,nbS];try decide) rfl (by decide) (by simp) ?_ (by simp) ?_
   ·simp only[vW,aA,aB,uT,um,G9,hR,rU,rV,and_true]
    first|exact⟨rfl,rfl⟩|rfl
   rintro v h' ⟨k',rfl,rfl⟩;refine⟨⟨by simp,by simp only[kV,au,ay,nbS];try decide,by simp only[vW,qo,qH,hX1,nbS];try decide,by simp⟩,?_⟩;simp only[vW,F5,yK,yB,xg,eF,aZ,G9,hR,ren,sV,Zq,zf,rU,rV,Hu,jT,jU,au,ay,aA,aB,dR,ssH,ag,ae,reduceIte,af,ak,ai,aj];obtain⟨b,hb⟩:∃ z,z=kH ns++X:=⟨_,rfl⟩;have hbl:b.length≤300000:=by rw[hb,aJ];omega
   simp only[←hb];refine Qz (v:=.tup [slN (frB b),it 0]) (x:=.sl [] [] .full) (es:=b.map by8) (more:=[]) rfl (fun m tok'=>kJ (YS b [] tok' (by omega))) nbY (jG _) .nil .nil (by simp only[lW,nbS]) ?_;simp only[ssH,ag,ae,reduceIte,af,ak,ai,aj];exact jy (v:=slN (frB b)) rfl ⟨[0],_,_,EU lW rfl hX,rfl,rfl⟩
set_option maxHeartbeats 3200000 in
theorem zcB{g:FuncId}{X:List UInt8}(hX2:X.length≤200000)
  (hc:∀ (l:List UInt8) (k:Nat),l≠[]→l.length≤1000→FN Tryz.prog Γ g [.sl (l.map by8) [] (.tip 0 k)] [vW k] 0 fun v h' => ∃ k',v = .sl ((l++X).map by8) [] (.tip 0 k')∧h' = [vW k'])
  (ns:List Int) (hn:∀ n∈ns,Av.I64 n) (h0:ns≠[]) (h3:ns.length≤10) :
  FN Tryz.prog Γ 43 [.fn (.func g) [] [],.sl (ns.map it) [] .full] [] 0 fun v h'=>v=slN (frB (kH ns++X))∧h'=[]:=by
 have hln:=uD hn
 have hne0:kH ns≠[]:=by
  cases ns with
  |nil=>exact absurd rfl h0
  |cons n ns=>simp only[kH];intro h;exact ut n (List.append_eq_nil_iff.1 h).1
 refine QB mixed zdL zhn jY 0 ?_;simp only[F43,ss0,aC,ag];simp only[kE,aH,ssH,ag,ae,reduceIte,af,ak,ai,aj];have hnb:=sF (k:=0) ns;have hnb0:=sF (k:=0) ns;refine nC [5,0,10,11,12] 28 (fun n vs h=>∃ (i:Nat) (tk:Tok),vs=[.sl ((kH (ns.take i)).map by8) [] tk,.fn (.func g) [] [],.sl (ns.map it) [] .full,it ns.length,it i]∧i+n=ns.length+1∧i≤ns.length∧((i=0∧h=[]∧tk = .full)∨(0<i∧∃ k,h=[vW k]∧tk = .tip 0 k))) (ns.length+1) (by decide) (by decide) (aK 0) ?_ ?_
 ·refine jZ rfl (by decide) (by decide) (by simp) ?_ ?_ ⟨0,.full,by simp only[kH,dE];rfl,by omega,by omega,.inl ⟨rfl,rfl,rfl⟩⟩
  ·show nbs 0 [.sl [] [] .full,.fn (.func g) [] [],.sl (ns.map it) [] .full,it ns.length,it 0];simp only[hnb,nbS]
   try decide
  ·intro a ha x hx;omega
 rintro n t h J hJ hlt ⟨i,tk,hv,hi1,hi2,hh⟩;simp only[aZ,aQ,and_true]at hv;obtain⟨g5,g0,g10,g11,g12⟩:=hv
 have hlen:(kH (ns.take i)).length≤100:=by
  have:=uD (l:=ns.take i) fun x hx=>hn x (dQ hx);rw[aW]at this;omega
 obtain⟨pr,hpr⟩:∃ z,z=kH (ns.take i):=⟨_,rfl⟩;rw[←hpr]at g5 hlen;rw[mO hlt];simp only[jW,upTo,g5,g0,g10,g11,g12,aH,ssH,ag,ae,reduceIte,af,ak,ai,aj]
 by_cases hil:i<ns.length
 ·have hx2:ns[i]? = some ns[i]:=aI hil;have hni:Av.I64 ns[i]:=hn _ (dX _);have hst:kH (ns.take (i+1))=kH (ns.take i)++uz ns[i]:=by rw[bg,hx2,Jr];simp[kH]
  generalize ns[i]=a at hx2 hni hst;obtain⟨nx,hnx⟩:∃ z,z=kH (ns.take (i+1)):=⟨_,rfl⟩;have hp:nx=pr++uz a:=by rw[hnx,hpr,hst]
  have hi9:oG 1 (.sl (ns.map it) [] .full) (it i)=some (.elt [it a]):=mD (e:=it a) (by rw[bn,hx2];rfl) rfl;have hne3:nx.map by8≠[]:=lV (by rw[hp];simp[ut])
  have fin:∀ {t':List V} {h':Hl} (j k:Nat),t'.length=28→jS t' 5 = .sl (nx.map by8) [] (.tip j k)→jS t' 0 = .fn (.func g) [] []→jS t' 10 = .sl (ns.map it) [] .full→jS t' 11=it ns.length→jS t' 12=it (i+1:Nat)→lk h' j=some (.tip 5 k)→0≤j→∃ names,J names ⟨t',h'⟩:=by
   intro t' h' j k q q5 q0 q10 q11 q12 qj hj;refine⟨_,hJ (n-1) _ _ (by omega) (IK (c:=0) (j:=j) (k:=k) (es:=nx.map by8) (more:=[.fn (.func g) [] [],.sl (ns.map it) [] .full,it ns.length,it (i+1:Nat)]) [] q (aY _) hj (by decide) qj rfl (by simp only[aZ,q5,q0,q10,q11,q12]) (jG _) (by simp only[hnb,nbS];try decide) ?_ ⟨i+1,.tip 0 k,by rw[←hnx],by omega,by omega,.inr ⟨by omega,k,rfl,rfl⟩⟩)⟩;intro a ha x hx;omega
  simp only[show decide ((i:Int)<(ns.length:Int))=true from decide_eq_true (by omega),hi9,ssH,ag,ae,reduceIte,af,ak,ai,aj]
  rcases hh with ⟨hi0,rfl,rfl⟩|⟨hi0,k,rfl,rfl⟩
  ·have hpe:pr=[]:=by rw[hpr,hi0];rfl
   rw[hpe,aB]at hp;subst hpe;simp only[eG];refine F8 (e:=5) (size:=1) (az:=[it a]) (es2:=nx.map by8) (by simp) rfl hne3 (fun m=>by rw[hp];exact qf (Γ:=Γ) (l:=[]) (.inr ⟨rfl,rfl,rfl⟩) hni (by simp)) nbY (jG _) fun k => ?_;simp only[aA,aB,au,ay,jQ (show i<4611686018427387904 by omega),ssH,ag,ae,reduceIte,af,ak,ai,aj];exact fin 0 k rfl rfl rfl rfl rfl rfl rfl (by decide)
  ·have hpn:pr≠[]:=by
    rw[hpr]
    cases ns with
    |nil=>simp at hil
    |cons n ns=>
     cases i with
     |zero=>omega
     |succ i=>simp[kH,ut]
   simp only[vW,ssH,ag,ae,reduceIte,af,ak,ai,aj];refine qw (e:=5) (size:=1) (j:=0) (k:=k) (az:=[it a]) (es:=pr.map by8) (es2:=nx.map by8) (by simp) rfl rfl (lM _) (lV hpn) hne3 (fun m m' v h=>by rw[hp];exact qf (Γ:=Γ) (.inl h) hni (by omega)) (jG _) nbY (jG _) fun k => ?_;simp only[jT,jU,aA,aB,au,ay,jQ (show i<4611686018427387904 by omega),ssH,ag,ae,reduceIte,af,ak,ai,aj];exact fin 1 k rfl rfl rfl rfl rfl rfl rfl (by decide)
 ·simp only[show decide ((i:Int)<(ns.length:Int))=false from decide_eq_false (by omega),ssH,ag,ae,reduceIte,af,ak,ai,aj];have hie:i=ns.length:=by omega
  rw[hie,bK]at hpr;subst hpr
  rcases hh with ⟨hi0,rfl,rfl⟩|⟨hi0,k,rfl,rfl⟩
  ·have:ns=[]:=List.length_eq_zero_iff.1 (by omega);exact absurd this h0
  ·refine EK (args0:=[.sl ((kH ns).map by8) [] (.tip 0 k)]) (hs:=[vW k]) [] [0] (hc (kH ns) k hne0 (by omega)) (by first|rfl|(simp only[sV,ren,zf,rU,rV];rfl)) (by simp only[kV,au,ay,nbS];try decide) (by simp only[vW,qo,qH,nbS];try decide) rfl (by decide) (by simp) ?_ (by simp) ?_
   ·simp only[vW,aA,aB,uT,um,G9,rU,rV,and_true]
    first|exact⟨rfl,rfl⟩|rfl
   rintro v h' ⟨k',rfl,rfl⟩;refine⟨⟨by simp,by simp only[kV,au,ay,nbS];try decide,by simp only[vW,qo,qH,nbS];try decide,by simp⟩,?_⟩;simp only[vW,F5,yK,yB,xg,eF,aZ,G9,ren,sV,Zq,zf,rU,rV,Hu,jT,jU,au,ay,aA,aB,dR,ssH,ag,ae,reduceIte,af,ak,ai,aj];obtain⟨b,hb⟩:∃ z,z=kH ns++X:=⟨_,rfl⟩;have hbl:b.length≤300000:=by rw[hb,aJ];omega
   simp only[←hb];refine Qz (v:=.tup [slN (frB b),it 0]) (x:=.sl [] [] .full) (es:=b.map by8) (more:=[]) rfl (fun m tok'=>kJ (YS b [] tok' (by omega))) nbY (jG _) .nil .nil (by simp only[lW,nbS]) ?_;simp only[ssH,ag,ae,reduceIte,af,ak,ai,aj];exact jy (v:=slN (frB b)) rfl ⟨[],_,_,zfp lW,rfl,rfl⟩
end
def zj6(a b c:V):Option V:=(pq 1 [.val (.int .i64 0),.val (.int .i64 0),.val (.int .i64 0)] [(0,a),(1,b),(2,c)]).map fun es=>.sl es [] .full
def zj7(a b:V):Option V:=(pq 1 [.val (.int .i64 0),.val (.int .i64 0)] [(0,a),(1,b)]).map fun es=>.sl es [] .full
theorem Yo(a b c:Int):zj6 (it a) (it b) (it c)=some (.sl ([a,b,c].map it) [] .full):=rfl
theorem zex(a b:Int):zj7 (it a) (it b)=some (.sl ([a,b].map it) [] .full):=rfl
def rG(ns:List Int)(X:List UInt8):List UInt8:=frB (kH ns++X)
def BG(b:Bool)(x:List UInt8):V:=.tup [if b=true then slN x else .sl [] [] .full,it (if b=true then 0 else 2)]
def Dt(op:Int)(e:Ent):Bool:=decide (1≤op)&&(decide (op≤2147483647)&&nR e)
theorem uq{v n:Int}(h:pW v n=true):Av.I64 v∧Av.I64 n:=by
 simp only[pW,aG,decide_eq_true_eq]at h;exact⟨⟨by omega,by omega⟩,⟨by omega,by omega⟩⟩
section
variable {Γ:jI} {m:Store}
theorem Yp{t:List V}{n:Int}{b c:Nat}{m:Store}:jJ Tryz.prog (ev Γ t) m (.lits 1 [.val (.int .i64 0)] 3 [(0,.const (.int .i64 n)),(1,.tmp b),(2,.tmp c)])=zj6 (it n) (jS t b) (jS t c):=by
 rw[←rD (Γ:=Γ),←rD (Γ:=Γ)];rfl
theorem zey{t:List V}{n:Int}{b:Nat}{m:Store}:jJ Tryz.prog (ev Γ t) m (.lits 1 [.val (.int .i64 0)] 2 [(0,.const (.int .i64 n)),(1,.tmp b)])=zj7 (it n) (jS t b):=by
 rw[←rD (Γ:=Γ)];rfl
set_option maxHeartbeats 1600000 in
theorem JB(v n:Int):jB Tryz.prog Γ 17 [it v,it n] m fun o m'=>o = .ret (BG (pW v n) (rG [1,v,n] []))∧m'=m:=by
 refine kJ (kM mixed zi0 zlt jY nbY ?_);simp only[F17,ss0,aC,ag];simp only[ssH,ag,ae,reduceIte,af,ak,ai,aj];refine jE (v:=bo (pW v n)) (by exact fun m=>Qo v n) nbY (by simp only[bo,nbS]) ?_;cases h:pW v n
 ·simp only[bo,ssH,ag,ae,reduceIte,af,ak,ai,aj];exact jy (v:=BG false (rG [1,v,n] [])) rfl ⟨by simp only[BG,aF,if_false,nbS],rfl⟩
 ·obtain⟨i1,i2⟩:=uq h;simp only[bo,Yp,Yo,ssH,ag,ae,reduceIte,af,ak,ai,aj];refine EK (args0:=[.fn (.func 44) [] [],.sl ([1,v,n].map it) [] .full]) (hs:=[]) [] [] (zcB (X:=[]) (by simp) (fun l k _ _=>WJ l k) [1,v,n] (by intro a ha;simp only[di,bW,or_false]at ha;rcases ha with rfl|rfl|rfl<;>first|assumption|exact⟨by decide,by decide⟩) (by simp) (by simp)) (by simp only[aZ,sV,ren];rfl) (by simp only[sF,nbS]) (by simp only[qH]) rfl (by decide) (by simp) (by simp only[um]) (by simp) ?_;rintro w h' ⟨rfl,rfl⟩;refine⟨⟨by simp,by simp only[lW],by simp only[qH],by simp⟩,?_⟩;simp only[yK,xg,Np lW,eF,aZ,aP,ssH,ag,ae,reduceIte,af,ak,ai,aj];exact jy (v:=.tup [slN (frB (kH [1,v,n])),it 0]) rfl ⟨by simp only[lW,nbS],by simp only[BG,rG,if_true,aP]⟩
set_option maxHeartbeats 1600000 in
theorem Qq(E:Env Γ)(op:Int)(e:Ent)(he:Dh e):jB Tryz.prog Γ 19 [it op,kS e] m fun o m'=>o = .ret (BG (Dt op e) (rG [2,op] (rq e)))∧m'=m:=by
 have hne:=nX (k:=0) e;have hno:Dt op e=false→BG (Dt op e) (rG [2,op] (rq e)) = .tup [.sl [] [] .full,it 2]:=fun h=>by rw[h];rfl
 refine kJ (kM mixed ziV zln jY (by simp only[hne,nbS]) ?_);simp only[F19,kS,ss0,aC,ag];simp only[jA,gt_iff_lt,ssH,ag,ae,reduceIte,af,ak,ai,aj]
 by_cases h1:op<1
 ·simp only[decide_eq_true h1,ssH,ag,ae,reduceIte,af,ak,ai,aj];exact jy (v:=.tup [.sl [] [] .full,it 2]) rfl ⟨nbY,by rw[hno (by rw[Dt,decide_eq_false (by omega)];rfl)]⟩
 by_cases h2:2147483647<op
 ·simp only[decide_eq_false h1,decide_eq_true h2,ssH,ag,ae,reduceIte,af,ak,ai,aj];exact jy (v:=.tup [.sl [] [] .full,it 2]) rfl ⟨nbY,by rw[hno (by rw[Dt,decide_eq_true (by omega:1≤op),decide_eq_false (by omega:¬ op≤2147483647)];rfl)]⟩
 simp only[decide_eq_false h1,decide_eq_false h2,jA,ssH,ag,ae,reduceIte,af,ak,ai,aj];refine jE (by exact fun m=>FQ E e) nbX nbY ?_;have hk:Dt op e=nR e:=by rw[Dt,decide_eq_true (by omega:1≤op),decide_eq_true (by omega:op≤2147483647)];simp only[Bool.true_and]
 cases h3:nR e
 ·simp only[aF,if_false,show((2:Int) != 0)=true from rfl,ssH,ag,ae,reduceIte,af,ak,ai,aj];exact jy (v:=.tup [.sl [] [] .full,it 2]) rfl ⟨nbY,by rw[hno (by rw[hk,h3])]⟩
 ·obtain⟨q1,q2⟩:=IA h3;have hpe:=Hg he (by omega) (by omega);simp only[if_true,show((0:Int) != 0)=false from rfl,zey,zex,ssH,ag,ae,reduceIte,af,ak,ai,aj];refine EK (args0:=[.fn (.func 49) [] [.ptr 0 0],.sl ([2,op].map it) [] .full]) (hs:=[some (Bq e)]) [0] [] (UN (X0:=Bq e) (X:=rq e) (DT e) (fun σ=>by simp only[Bq,xH,sV,ren,bs]) (by omega) (fun l k a b=>WM e he (by omega) l k a b) [2,op] (by intro a ha;simp only[di,bW,or_false]at ha;rcases ha with rfl|rfl<;>first|exact⟨by decide,by decide⟩|exact⟨by omega,by omega⟩) (by simp) (by simp)) (by simp only[aZ,sV,ren];rfl) (by simp only[sF,au,ay,nbS];decide) (by simp only[qo,qH,Bq,nbS]) rfl (by decide) (by simp) (by simp only[aA,aB,uT,um,Bq,xH,sV,ren,bs,and_true];rfl) (by simp) ?_;rintro w h' ⟨rfl,rfl⟩;refine⟨⟨by simp,by simp only[lW],by simp only[qo,qH,Bq,nbS],by simp⟩,?_⟩;simp only[yK,yB,xg,Np lW,eF,aZ,aP,ssH,ag,ae,reduceIte,af,ak,ai,aj];exact jy (v:=BG true (rG [2,op] (rq e))) rfl ⟨by simp only[BG,if_true,lW,nbS],by rw[hk,h3]⟩
set_option maxHeartbeats 1600000 in
theorem Qp(E:Env Γ)(nn:Bool)(k:Kt)(hb:Av.I64 k.l.b)(he:∀ e∈k.l.l,Dh e):jB Tryz.prog Γ 21 [ktV nn k] m fun o m'=>o = .ret (BG (ktB k) (rG [3,k.v,k.n] (vP k.l)))∧m'=m:=by
 have hnl:=kL (k:=0) nn k.l.l;refine kJ (kM mixed ziS zlf jY (by simp only[FU,nbS]) ?_);simp only[F21,ktV,ktC,ss0,aC,ag];simp only[jA,ssH,ag,ae,reduceIte,af,ak,ai,aj];refine jE (by exact fun m=>uI E nn k) (by simp only[hnl,nbS]) nbY ?_;cases h:ktB k
 ·simp only[aF,if_false,show((2:Int) != 0)=true from rfl,ssH,ag,ae,reduceIte,af,ak,ai,aj];exact jy (v:=BG false (rG [3,k.v,k.n] (vP k.l))) rfl ⟨by simp only[BG,aF,if_false,nbS],rfl⟩
 ·have h2:=h;simp only[ktB,aG]at h2;obtain⟨i1,i2⟩:=uq h2.1;have hS:=Si h2.2 hb he;have hpl:=Nz hS;simp only[if_true,show((0:Int) != 0)=false from rfl,Yp,Yo,ssH,ag,ae,reduceIte,af,ak,ai,aj];refine EK (args0:=[.fn (.func 53) [] [.ptr 0 0],.sl ([3,k.v,k.n].map it) [] .full]) (hs:=[some (DX nn k)]) [0] [] (UN (X0:=DX nn k) (X:=vP k.l) (zH 0 nn k) (fun σ=>by show Blk.var _ (sV σ (ktC nn k))=_;rw[Rw (RQ 0 nn k)];rfl) (by omega) (fun l j a b=>WI nn k hS.w l j a b) [3,k.v,k.n] (by intro a ha;simp only[di,bW,or_false]at ha;rcases ha with rfl|rfl|rfl<;>first|assumption|exact⟨by decide,by decide⟩) (by simp) (by simp)) (by simp only[aZ,sV,ren];rfl) (by simp only[sF,au,ay,nbS];decide) (by simp only[qo,qH,zH,nbS]) rfl (by decide) (by simp) (by simp only[aA,aB,uT,um,and_true];show _=some (Blk.var _ (sV _ (ktC nn k)));rw[Rw (RQ 0 nn k)];rfl) (by simp) ?_;rintro w h' ⟨rfl,rfl⟩;refine⟨⟨by simp,by simp only[lW],by simp only[qo,qH,zH,nbS],by simp⟩,?_⟩;simp only[yK,yB,xg,Np lW,eF,aZ,aP,ssH,ag,ae,reduceIte,af,ak,ai,aj];exact jy (v:=BG true (rG [3,k.v,k.n] (vP k.l))) rfl ⟨by simp only[BG,if_true,lW,nbS],rfl⟩
theorem CB{n:Int}(h:0≤n)(h2:n<100):Av.I64 n:=⟨by omega,by omega⟩
end
section
variable {Γ:jI} {m:Store} {rb a:Nat} {s:List UInt8} {e:Int}
end
section
variable {Γ:jI} {m:Store}
end
def ktN(k:Kt):V:=ktV (!k.l.l.isEmpty) k
theorem kR(j:Nat)(k:Kt):nb j (ktN k):=FU j _ k
def lastOf(x:Lg):Int:=if lgB x=true then x.b+x.l.length else 0
theorem Z8(x:Lg):IntKind.i64.wrap (lastOf x+1)=lastOf x+1:=by
 unfold lastOf
 split
 ·rename_i h;simp only[lgB,aG,decide_eq_true_eq]at h;rw[wrap_i64 (by omega) (by omega)]
 ·decide
def okE(k:Kt)(en op err:Int):Bool:=en==0&&(err==0&&op==lastOf k.l+1)
def okW(k:Kt)(en v n:Int)(l:Lg):Bool:=en==0&&(ktB ⟨v,n,l⟩&&(decide (k.v≤v)&&(decide (k.n≤n)&&decide (k.l.b≤l.b))))
def Iq(k:Kt)(s:List UInt8)(a:Nat×Int):Kt×Bool:=
 let op:=qR s a.1 a.2
 let e:=DY s op.2.1 op.2.2
 let r:=doL k.l (lF k.l e.1)
 if okE k (Bv s e.2) op.1 r.2.2=true then (⟨k.v,k.n,r.2.1⟩,true)else (k,false)
def UZ(k:Kt)(s:List UInt8)(a:Nat×Int)(whole:Bool):Kt×Bool:=
 let v:=qR s a.1 a.2
 let n:=qR s v.2.1 v.2.2
 let l:=if whole=true then Ou s n.2.1 n.2.2 else (k.l,n.2)
 if okW k (Bv s l.2) v.1 n.1 l.1=true then (⟨v.1,n.1,l.1⟩,true)else (k,false)
def qV(k:Kt)(s:List UInt8):Kt×Bool:=
 let a:=qR s 0 0
 if a.1=2 then Iq k s a.2 else if a.1=3 then UZ k s a.2 true else if a.1=1 then UZ k s a.2 false else (k,false)
theorem zdz{x:Lg}{e:Ent}(h:(doL x (lF x e)).2.2=0):lgV (doL x (lF x e)).1 (doL x (lF x e)).2.1=lgN (doL x (lF x e)).2.1∧(doL x (lF x e)).1 = !(doL x (lF x e)).2.1.l.isEmpty:=by
 revert h;unfold doL lF
 split
 ·split
  ·split
   ·intro h;exact absurd h (by decide)
   ·intro _;have q:(x.l++[e]).isEmpty=false:=by cases x.l<;>rfl
    simp[lgN,q]
  ·intro h;exact absurd h (by decide)
 ·intro h;exact absurd h (by decide)
theorem zc3(x:Lg):(!x.l.isEmpty)=true∨x.l=[]:=by cases h:x.l<;>simp
section
variable {Γ:jI} {m:Store}
set_option maxHeartbeats 3200000 in
theorem zad(E:Env Γ)(k:Kt)(s:List UInt8)(a:Nat)(e:Int)(ha:a≤s.length)(hs:s.length≤281474976710656):FN Tryz.prog Γ 88 [ktN k,.ptr 0 0] [some (rdB s a e)] 1 fun v h'=>v = .tup [ktN (Iq k s (a,e)).1,bo (Iq k s (a,e)).2]∧∃ a' e',h'=[some (rdB s a' e')]:=by
 have hnl:=kL (k:=0) (!k.l.l.isEmpty) k.l.l;obtain⟨op,a1,e1,h1⟩:∃ x y z,qR s a e=(x,y,z):=⟨_,_,_,rfl⟩;have l1:=nU (e:=e) ha;rw[h1]at l1;obtain⟨en,a2,e2,h2⟩:∃ x y z,DY s a1 e1=(x,y,z):=⟨_,_,_,rfl⟩;have l2:=SL (e:=e1) l1;rw[h2]at l2;simp only at l1 l2;obtain⟨fl,l',er,hr⟩:∃ x y z,doL k.l (lF k.l en)=(x,y,z):=⟨_,_,_,rfl⟩;have hfl:=zdz (x:=k.l) (e:=en);rw[hr]at hfl
 have hF:Iq k s (a,e)=if okE k (Bv s (a2,e2)) op er=true then (⟨k.v,k.n,l'⟩,true)else (k,false):=by
  unfold Iq;simp only[h1,h2,hr]
 have hno:okE k (Bv s (a2,e2)) op er=false→Iq k s (a,e)=(k,false):=fun h=>by rw[hF,h];rfl
 have hap:=fun m=>Wp (Γ:=Γ) (m:=m) E (zc3 k.l) en;simp only[hr]at hap;have hn1:=ql (k:=0) fl l';have hn2:=kL (k:=0) fl l'.l;have bad:∀ {t:List V} {h:Hl} {a':Nat} {e':Int},lk h 0=some (rdB s a' e')→∃ names v2 h2,As 1 names v2 h2 (.tup [ktN k,bo false]) h∧v2 = .tup [ktN k,bo false]∧∃ a' e',h2=[some (rdB s a' e')]:=fun hl=>⟨[0],_,_,EU (by simp only[kR,bo,nbS]) hl kK,rfl,_,_,rfl⟩;refine QB mixed zil zkC jY 1 ?_;simp only[F88,ktN,ktV,ktC,ss0,aC,ag];simp only[jA,aA,aB,au,ay,ssH,ag,ae,reduceIte,af,ak,ai,aj];refine jX (b:=0) (X:=rdB s a e) rfl rfl (fun m b' h=>rY h ha (by omega)) kK kK nbY nbY ?_;simp only[h1,ssH,ag,ae,reduceIte,af,ak,ai,aj];refine jX (b:=0) (X:=rdB s a1 e1) rfl rfl (fun m b' h=>XR E.lib h l1 hs) kK kK nbY (nX _) ?_;simp only[h2,kS,jA,aA,aB,au,ay,ssH,ag,ae,reduceIte,af,ak,ai,aj];refine jE (by exact fun m=>hap m) (by simp only[hnl,nbS]) (by simp only[hn1,nbS]) ?_;simp only[lgV,jA,jD,aA,aB,au,ay,ssH,ag,ae,reduceIte,af,ak,ai,aj];refine kz (b:=0) (X:=rdB s a2 e2) rfl rfl (fun m b' h=>QY h) kK nbY nbY ?_;have he:(if e2≠0 then e2 else if a2<s.length then 5 else 0)=Bv s (a2,e2):=rfl;rw[he]
 by_cases c1:Bv s (a2,e2)=0
 case neg=>
  simp only[bne_iff_ne.2 c1,jA,jD,ssH,ag,ae,reduceIte,af,ak,ai,aj];rw[hno (by rw[okE,beq_eq_false_iff_ne.2 c1];rfl)];exact jy (v:=.tup [ktN k,bo false]) rfl ⟨[0],_,_,EU (by simp only[kR,bo,nbS]) rfl kK,rfl,_,_,rfl⟩
 simp only[c1,show((0:Int) != 0)=false from rfl,ssH,ag,ae,reduceIte,af,ak,ai,aj]
 by_cases c2:er=0
 case neg=>
  simp only[bne_iff_ne.2 c2,jA,jD,ssH,ag,ae,reduceIte,af,ak,ai,aj];rw[hno (by rw[okE,beq_eq_false_iff_ne.2 c2,c1];rfl)];exact jy (v:=.tup [ktN k,bo false]) rfl ⟨[0],_,_,EU (by simp only[kR,bo,nbS]) rfl kK,rfl,_,_,rfl⟩
 subst c2;obtain⟨hf1,hf2⟩:=hfl rfl;simp only[show((0:Int) != 0)=false from rfl,jA,ssH,ag,ae,reduceIte,af,ak,ai,aj];refine jE (v:=it (lastOf k.l)) (by exact fun m=>zbQ E (!k.l.l.isEmpty) k.l) (by simp only[hnl,nbS]) nbY ?_;simp only[Z8,ssH,ag,ae,reduceIte,af,ak,ai,aj]
 by_cases c3:op=lastOf k.l+1
 case neg=>
  simp only[bne_iff_ne.2 c3,jA,jD,ssH,ag,ae,reduceIte,af,ak,ai,aj];rw[hno (by rw[okE,beq_eq_false_iff_ne.2 c3,c1];rfl)];exact jy (v:=.tup [ktN k,bo false]) rfl ⟨[0],_,_,EU (by simp only[kR,bo,nbS]) rfl kK,rfl,_,_,rfl⟩
 have hyes:Iq k s (a,e)=(⟨k.v,k.n,l'⟩,true):=by rw[hF,if_pos (by rw[okE,c1,c3];simp)]
 rw[hyes];simp only[c3,bne_self_eq_false,jA,jD,ssH,ag,ae,reduceIte,af,ak,ai,aj];simp only at hf2;subst hf2;exact jy (v:=.tup [ktN ⟨k.v,k.n,l'⟩,bo true]) rfl ⟨[0],_,_,EU (by simp only[kR,bo,nbS]) rfl kK,rfl,_,_,rfl⟩
end
theorem AX{s x:List UInt8}{n:Nat}(h:frG s=(x,n,0)):4≤n∧n≤s.length:=by
 obtain⟨a,_,_,d⟩:=WW h;rw[pz]at d;omega
theorem SN:(frG []).2.2≠0:=by
 intro h;have:=AX (s:=[]) (x:=(frG []).1) (n:=(frG []).2.1) (by rw[←h]);simp only[ay]at this;omega
def Ha:Nat→Kt→List UInt8→Kt×Nat
 |0,k,_=>(k,0)
 |f+1,k,s=>
  if (frG s).2.2=0∧(qV k (frG s).1).2=true then
   ((Ha f (qV k (frG s).1).1 (s.drop (frG s).2.1)).1,(frG s).2.1+(Ha f (qV k (frG s).1).1 (s.drop (frG s).2.1)).2)
  else (k,0)
def lq(k:Kt)(s:List UInt8):Kt×Nat:=Ha (s.length+1) k s
theorem Nr:∀ (f g:Nat) (k:Kt) (s:List UInt8),s.length<f→s.length<g→Ha f k s=Ha g k s
 |0,_,_,_,h,_=>absurd h (dS _)
 |_+1,0,_,_,_,h=>absurd h (dS _)
 |f+1,g+1,k,s,hf,hg=>by
  rw[Ha,Ha]
  split
  ·rename_i h;have hl:=AX (s:=s) (x:=(frG s).1) (n:=(frG s).2.1) (by rw[←h.1]);rw[Nr f g _ (s.drop _) (by rw[bf];omega) (by rw[bf];omega)]
  ·rfl
theorem zh{k k':Kt}{s x:List UInt8}{n:Nat}(h:frG s=(x,n,0))(hf:qV k x=(k',true)):lq k s=((lq k' (s.drop n)).1,n+(lq k' (s.drop n)).2):=by
 have hl:=AX h;unfold lq;rw[Ha,h];simp only[hf,and_self,if_true];rw[Nr s.length ((s.drop n).length+1) k' (s.drop n) (by rw[bf];omega) (by omega)]
theorem pG{k:Kt}{s:List UInt8}(h:(frG s).2.2≠0∨(qV k (frG s).1).2=false):lq k s=(k,0):=by
 unfold lq;rw[Ha,if_neg];rintro⟨h1,h2⟩
 rcases h with h|h
 ·exact h h1
 ·rw[h2]at h;cases h
theorem PX{P:Kt→List UInt8→Prop}(h0:∀ k s,lq k s=(k,0)→P k s)(h1:∀ k k' s x n,frG s=(x,n,0)→qV k x=(k',true)→P k' (s.drop n)→P k s):∀ k s,P k s:=by
 have:∀ (L:Nat) (k:Kt) (s:List UInt8),s.length≤L→P k s:=by
  intro L
  induction L with
  |zero=>
   intro k s hs;have:s=[]:=List.length_eq_zero_iff.1 (by omega);subst this;exact h0 _ _ (pG (.inl SN))
  |succ L ih=>
   intro k s hs
   by_cases q:(frG s).2.2=0
   ·cases q2:(qV k (frG s).1).2
    ·exact h0 _ _ (pG (.inr q2))
    ·have hf:frG s=((frG s).1,(frG s).2.1,0):=by rw[←q]
     have hl:=AX hf;exact h1 k (qV k (frG s).1).1 s _ _ hf (by rw[←q2]) (ih _ _ (by rw[bf];omega))
   ·exact h0 _ _ (pG (.inl q))
 exact fun k s=>this _ k s (aY _)
structure Le (k k':Kt):Prop where
 v:k.v≤k'.v
 n:k.n≤k'.n
 b:k.l.b≤k'.l.b
theorem Le.refl(k:Kt):Le k k:=⟨eU _,eU _,eU _⟩
theorem Le.trans{a b c:Kt}(h:Le a b)(g:Le b c):Le a c:=⟨iW h.v g.v,iW h.n g.n,iW h.b g.b⟩
theorem Yq{x:Lg}{e:Ent}(hx:lgB x=true)(he:nR e=true)(h1:x.l.length<64)(h2:x.b+x.l.length<2147483647):lgB ⟨x.b,x.c,x.l++[e]⟩=true:=by
 obtain⟨g1,g2,g3,g4,g5,g6,g7⟩:=pR.1 hx;refine pR.2 ⟨g1,g2,g3,g4,?_,?_,?_⟩
 ·simp only[aJ,au,ay];omega
 ·simp only[aJ,au,ay];omega
 ·intro a ha
  rcases List.mem_append.1 ha with ha|ha
  ·exact g7 a ha
  ·rw[List.mem_singleton.1 ha];exact he
theorem zbZ{k:Kt}{en op err:Int}(h:okE k en op err=true):en=0∧err=0∧op=lastOf k.l+1:=by
 simpa only[okE,aG,beq_iff_eq] using h
theorem DN{k:Kt}{en v n:Int}{l:Lg}:okW k en v n l=true↔en=0∧ktB ⟨v,n,l⟩=true∧k.v≤v∧k.n≤n∧k.l.b≤l.b:=by
 simp only[okW,aG,beq_iff_eq,decide_eq_true_eq]
theorem vF{k:Kt}:ktB k=true↔pW k.v k.n=true∧lgB k.l=true:=by simp only[ktB,aG]
theorem zeU{k:Kt}(hk:ktB k=true){s:List UInt8}{a:Nat×Int}{k':Kt}(h:Iq k s a=(k',true)):ktB k'=true∧Le k k':=by
 unfold Iq at h;simp only at h;generalize qR s a.1 a.2=op at h;generalize DY s op.2.1 op.2.2=e at h
 split at h
 ·rename_i q;obtain⟨q1,q2,q3⟩:=zbZ q;obtain⟨k1,k2⟩:=vF.1 hk
  rcases OY k2 e.1 with ⟨p1,p2,p3,p4⟩|⟨n,p1,p2⟩
  ·rw[p1]at h;obtain⟨rfl,_⟩:=dY h;exact⟨vF.2 ⟨k1,Yq k2 p2 p3 p4⟩,eU _,eU _,eU _⟩
  ·rw[p2]at q2;exact absurd q2 p1
 ·exact absurd (dY h).2 (by decide)
theorem YQ{k:Kt}{s:List UInt8}{a:Nat×Int}{w:Bool}{k':Kt}(h:UZ k s a w=(k',true)):ktB k'=true∧Le k k':=by
 unfold UZ at h;simp only at h;generalize qR s a.1 a.2=v at h;generalize qR s v.2.1 v.2.2=n at h;generalize (if w=true then Ou s n.2.1 n.2.2 else (k.l,n.2))=l at h
 split at h
 ·rename_i q;obtain⟨q1,q2,q3,q4,q5⟩:=DN.1 q;obtain⟨rfl,_⟩:=dY h;exact⟨q2,q3,q4,q5⟩
 ·exact absurd (dY h).2 (by decide)
theorem zeT{k:Kt}(hk:ktB k=true){s:List UInt8}{k':Kt}(h:qV k s=(k',true)):ktB k'=true∧Le k k':=by
 unfold qV at h;simp only at h
 split at h
 ·exact zeU hk h
 ·split at h
  ·exact YQ h
  ·split at h
   ·exact YQ h
   ·exact absurd (dY h).2 (by decide)
theorem Nv:∀ (k:Kt) (s:List UInt8),ktB k=true→ktB (lq k s).1=true∧Le k (lq k s).1∧(lq k s).2≤s.length:=by
 refine PX (fun k s h hk => ?_) (fun k k' s x n hg hf ih hk => ?_)
 ·rw[h];exact⟨hk,.refl k,bU _⟩
 ·obtain⟨f1,f2⟩:=zeT hk hf;obtain⟨i1,i2,i3⟩:=ih f1;have hl:=AX hg;rw[bf]at i3;rw[zh hg hf];exact⟨i1,f2.trans i2,by simp only;omega⟩
theorem Jd(c:List UInt8):∀ (k:Kt) (s:List UInt8),lq k (s.take (lq k s).2++c)=((lq (lq k s).1 c).1,(lq k s).2+(lq (lq k s).1 c).2):=by
 refine PX (fun k s h => ?_) (fun k k' s x n hg hf ih => ?_)
 ·rw[h];simp only[dE,aB,Nat.zero_add]
 ·obtain⟨g1,g2,g3,g4⟩:=WW hg;rw[zh hg hf];simp only;rw[List.take_add,g2,aX,zh (LP g3 _) hf,g4];rw[show(frB x++((s.drop n).take (lq k' (s.drop n)).2++c)).drop n=(s.drop n).take (lq k' (s.drop n)).2++c from by rw[←g4,iF],ih];simp only[iP]
theorem PY{k k':Kt}{a:List UInt8}(h:lq k a=(k',a.length))(c:List UInt8):lq k (a++c)=((lq k' c).1,a.length+(lq k' c).2):=by
 have:=Jd c k a
 rwa [h,bK]at this
theorem Ah{k k':Kt}{x:List UInt8}(hx:x.length≤1048576)(hf:qV k x=(k',true))(c:List UInt8):lq k (frB x++c)=((lq k' c).1,(frB x).length+(lq k' c).2):=by
 rw[zh (LP hx c) hf,iF]
theorem Ai(k:Kt):lq k []=(k,0):=pG (.inl SN)
theorem VZ(k:Kt)(s:List UInt8):lq k (s.take (lq k s).2)=lq k s:=by
 have:=Jd [] k s
 rwa [aP,Ai,dR]at this
theorem Zx{k:Kt}{x:List UInt8}(hx:x.length≤1048576){c:Nat}(hc:c<(frB x).length):lq k ((frB x).take c)=(k,0):=pG (.inl (by rw[zeP hx hc];simp))
def k0:Kt:=⟨0,0,lg0⟩
theorem zj9:ktB k0=true:=rfl
theorem F9{a k:Kt}(hk:ktB k=true)(hS:zaX k.l)(h:Le a k):qV a (kH [3,k.v,k.n]++vP k.l)=(k,true):=by
 obtain⟨k1,k2⟩:=vF.1 hk;obtain⟨i1,i2⟩:=uq k1;obtain⟨s,hs⟩:∃ s,s=kH [3,k.v,k.n]++vP k.l:=⟨_,rfl⟩;have e0:s=[]++(uz 3++(uz k.v++(uz k.n++(vP k.l++[])))):=by rw[hs];simp only[kH,aX,aP,aB]
 obtain⟨a1,b1⟩:=gI (CB (by decide) (by decide)) e0;obtain⟨a2,b2⟩:=gI i1 b1;obtain⟨a3,b3⟩:=gI i2 b2;have a4:=gL hS b3;rw[aP]at b3;have hE:Bv s (s.length,0)=0:=by simp[Bv]
 rw[←b3]at a4;rw[←hs];unfold qV;simp only[show qR s 0 0=_ from a1];rw[if_neg (by decide),if_pos trivial];unfold UZ;simp only[a2,a3,if_true,a4];rw[if_pos (DN.2 ⟨hE,hk,h.v,h.n,h.b⟩)]
theorem Ox{a:Kt}{v n:Int}(hv:pW v n=true)(hl:lgB a.l=true)(h1:a.v≤v)(h2:a.n≤n):qV a (kH [1,v,n]++[])=(⟨v,n,a.l⟩,true):=by
 obtain⟨i1,i2⟩:=uq hv;obtain⟨s,hs⟩:∃ s,s=kH [1,v,n]++[]:=⟨_,rfl⟩;have e0:s=[]++(uz 1++(uz v++(uz n++[]))):=by rw[hs];simp only[kH,aX,aP,aB]
 obtain⟨a1,b1⟩:=gI (CB (by decide) (by decide)) e0;obtain⟨a2,b2⟩:=gI i1 b1;obtain⟨a3,b3⟩:=gI i2 b2;rw[aP]at b3;have hE:Bv s (s.length,0)=0:=by simp[Bv]
 rw[←b3]at a3;rw[←hs];unfold qV;simp only[show qR s 0 0=_ from a1];rw[if_neg (by decide),if_neg (by decide),if_pos trivial];unfold UZ;simp only[a2,a3,aF,if_false];rw[if_pos (DN.2 ⟨hE,vF.2 ⟨hv,hl⟩,h1,h2,eU _⟩)]
theorem WY{a:Kt}{e:Ent}(hl:lgB a.l=true)(he:Dh e)(hb:nR e=true)(h1:a.l.l.length<64)(h2:a.l.b+a.l.l.length<2147483647):qV a (kH [2,lastOf a.l+1]++rq e)=(⟨a.v,a.n,⟨a.l.b,a.l.c,a.l.l++[e]⟩⟩,true):=by
 have hbb:=pR.1 hl;have hlast:lastOf a.l=a.l.b+a.l.l.length:=by rw[lastOf,if_pos hl]
 obtain⟨op,hop⟩:∃ op,op=lastOf a.l+1:=⟨_,rfl⟩;have io:Av.I64 op:=⟨by omega,by omega⟩;rw[←hop];obtain⟨s,hs⟩:∃ s,s=kH [2,op]++rq e:=⟨_,rfl⟩;have e0:s=[]++(uz 2++(uz op++(rq e++[]))):=by rw[hs];simp only[kH,aX,aP,aB]
 obtain⟨a1,b1⟩:=gI (CB (by decide) (by decide)) e0;obtain⟨a2,b2⟩:=gI io b1;obtain⟨a3,b3⟩:=gE ⟨he,IA hb⟩ b2;rw[aP]at b3;have hE:Bv s (s.length,0)=0:=by simp[Bv]
 rw[←b3]at a3;rw[←hs]
 have hD:doL a.l (lF a.l e)=(true,⟨a.l.b,a.l.c,a.l.l++[e]⟩,0):=by
  rcases OY hl e with q|⟨n,q1,q2⟩
  ·exact q.1
  ·exfalso;rw[Xf (a:=true) (y:=⟨a.l.b,a.l.c,a.l.l++[e]⟩) hl (by simp only[lF,hb,if_true];rw[if_neg (by omega)])]at q2;exact q1 (dY (dY q2).2).2.symm
 unfold qV;simp only[show qR s 0 0=_ from a1];rw[if_pos trivial];unfold Iq;simp only[a2,a3,hD,hE];rw[if_pos (by simp only[okE,hop,beq_self_eq_true,Bool.and_self])]
theorem JH{a b c d e x y z:V}{v n:Int}:ni [a,b,c,d,e] [(0,1,it v),(1,1,it n),(2,3,.agg [x,y,z])]=some [it v,it n,x,y,z]:=(rfl)
theorem JG{a b c d e x y z:V}:ni [a,b,c,d,e] [(2,3,.agg [x,y,z])]=some [a,b,x,y,z]:=(rfl)
section
variable {Γ:jI} {m:Store}
end
theorem Uh{f:Nat→Nat}{s:List UInt8}{a:Nat}{e:Int}:xH f (rdB s a e)=rdB s a e:=rfl
section
variable {Γ:jI} {m:Store}
set_option maxHeartbeats 12800000 in
theorem WL(E:Env Γ)(k:Kt)(s:List UInt8)(hs:s.length≤100000000):jB Tryz.prog Γ 37 [ktN k,slN s] m fun o m'=>o = .ret (.tup [ktN (qV k s).1,bo (qV k s).2])∧m'=m:=by
 have hnl:=kL (k:=0) (!k.l.l.isEmpty) k.l.l;have hnk:=kR 0 k;have hnk1:=kR 1 k;refine kJ (kM mixed ziK zkW jY (by simp only[hnk,lW,nbS]) ?_);simp only[F37,ktN,ktV,ktC,slN,ss0,aC,ag];simp only[jA,ssH,ag,ae,reduceIte,af,ak,ai,aj];refine KA (Y:=rdB s 0 0) (by simp) rfl (fun m tok'=>XD) (jG _) .nil .nil kK ?_;simp only[jA,jD,aA,aB,au,ay,ssH,ag,ae,reduceIte,af,ak,ai,aj];obtain⟨kd,a1,e1,h1⟩:∃ x y z,qR s 0 0=(x,y,z):=⟨_,_,_,rfl⟩;have l1:=nU (s:=s) (a:=0) (e:=0) (bU _);rw[h1]at l1;simp only at l1;refine jX (b:=2) (X:=rdB s 0 0) rfl rfl (fun m b' h=>rY h (bU _) (by omega)) kK kK nbY nbY ?_;simp only[h1,jA,jD,aA,aB,au,ay,ssH,ag,ae,reduceIte,af,ak,ai,aj]
 by_cases c2:kd=2
 ·subst c2;have hF:qV k s=Iq k s (a1,e1):=by unfold qV;simp only[h1];rw[if_pos trivial]
  simp only[beq_self_eq_true,jA,jD,ssH,ag,ae,reduceIte,af,ak,ai,aj];refine EK (args0:=[ktN k,.ptr 0 0]) (hs:=[some (rdB s a1 e1)]) [2] [] (zad E k s a1 e1 l1 (by omega)) (by simp only[sV,Np (kR 0 k),ren,rU,rV,aA,aB];rfl) (by simp only[hnk1,au,ay,nbS];try decide) (by simp only[qo,qH,kK,nbS]) rfl (by decide) (by simp) ?_ (by simp) ?_
  ·simp only[aA,aB,uT,um,Uh,rU,rV,and_true]
   first|exact⟨rfl,rfl⟩|rfl
  rintro v h' ⟨rfl,a',e',rfl⟩;have hnr:=kR 1 (Iq k s (a1,e1)).1;have hnr0:=kR 0 (Iq k s (a1,e1)).1;refine⟨⟨by simp,by simp only[hnr,bo,au,ay,nbS],by simp only[qo,qH,kK,nbS],by simp⟩,?_⟩;obtain⟨r,b,hr⟩:∃ r b,Iq k s (a1,e1)=(r,b):=⟨_,_,rfl⟩;rw[hr]at hF hnr hnr0 ⊢;have hrn:∀ f,ren f (ktN r)=ktN r:=fun f=>Np hnr0;rw[hF];simp only[ren,sV,hrn,bo,F5,yK,yB,xg,eF,aZ,Uh,rU,rV,Hu,jT,jU,au,ay,aA,aB,dR,ssH,ag,ae,reduceIte,af,ak,ai,aj];simp only[ktN,ktV,ktC,jA,jD,aA,aB,au,ay,ssH,ag,ae,reduceIte,af,ak,ai,aj];exact jy (v:=.tup [ktN r,bo b]) rfl ⟨by simp only[hnr0,bo,nbS],rfl⟩
 simp only[beq_eq_false_iff_ne.2 c2,ssH,ag,ae,reduceIte,af,ak,ai,aj]
 by_cases c3:kd=3
 case pos=>
  subst c3;obtain⟨v,a2,e2,h2⟩:∃ x y z,qR s a1 e1=(x,y,z):=⟨_,_,_,rfl⟩;have l2:=nU (e:=e1) l1;rw[h2]at l2;obtain⟨n,a3,e3,h3⟩:∃ x y z,qR s a2 e2=(x,y,z):=⟨_,_,_,rfl⟩;have l3:=nU (e:=e2) l2;rw[h3]at l3;simp only at l2 l3;obtain⟨l,a4,e4,h4⟩:∃ x y z,Ou s a3 e3=(x,y,z):=⟨_,_,_,rfl⟩;have l4:=zeN (e:=e3) l3;rw[h4]at l4;simp only at l4
  have hF:qV k s=if okW k (Bv s (a4,e4)) v n l=true then (⟨v,n,l⟩,true)else (k,false):=by
   unfold qV;simp only[h1];rw[if_neg (by decide),if_pos trivial];unfold UZ;simp only[h2,h3,if_true,h4]
  have hno:okW k (Bv s (a4,e4)) v n l=false→qV k s=(k,false):=fun h=>by rw[hF,h];rfl
  have hnx:=kL (k:=0) (!l.l.isEmpty) l.l;simp only[beq_self_eq_true,jA,jD,ssH,ag,ae,reduceIte,af,ak,ai,aj];refine jX (b:=2) (X:=rdB s a1 e1) rfl rfl (fun m b' h=>rY h l1 (by omega)) kK kK nbY nbY ?_;simp only[h2,jA,jD,aA,aB,au,ay,ssH,ag,ae,reduceIte,af,ak,ai,aj];refine jX (b:=2) (X:=rdB s a2 e2) rfl rfl (fun m b' h=>rY h l2 (by omega)) kK kK nbY nbY ?_;simp only[h3,beq_self_eq_true,jA,jD,aA,aB,au,ay,ssH,ag,ae,reduceIte,af,ak,ai,aj];refine jX (b:=2) (X:=rdB s a3 e3) rfl rfl (fun m b' h=>zem E.lib h l3 (by omega)) kK kK nbY (ql _ _) ?_;simp only[h4,lgN,lgV,jA,jD,aA,aB,au,ay,ssH,ag,ae,reduceIte,af,ak,ai,aj];refine kz (b:=2) (X:=rdB s a4 e4) rfl rfl (fun m b' h=>QY h) kK nbY nbY ?_;have he:(if e4≠0 then e4 else if a4<s.length then 5 else 0)=Bv s (a4,e4):=rfl;rw[he]
  by_cases q1:Bv s (a4,e4)=0
  case neg=>
   rw[hno (by rw[okW,beq_eq_false_iff_ne.2 q1];rfl)];simp only[bne_iff_ne.2 q1,ssH,ag,ae,reduceIte,af,ak,ai,aj];simp only[ktN,ktV,ktC,jA,jD,ssH,ag,ae,reduceIte,af,ak,ai,aj];exact jy (v:=.tup [ktN k,bo false]) rfl ⟨by simp only[kR,bo,nbS],rfl⟩
  simp only[q1,show((0:Int) != 0)=false from rfl,jA,ssH,ag,ae,reduceIte,af,ak,ai,aj];refine jE (v:=it (if ktB ⟨v,n,l⟩=true then 0 else 2)) (by exact fun m=>uI E (!l.l.isEmpty) ⟨v,n,l⟩) (by simp only[hnx,nbS]) nbY ?_
  by_cases q2:ktB ⟨v,n,l⟩=true
  case neg=>
   have q2':ktB ⟨v,n,l⟩=false:=by simpa using q2
   rw[hno (by rw[okW,q2'];simp)];simp only[if_neg q2,show((2:Int) != 0)=true from rfl,ssH,ag,ae,reduceIte,af,ak,ai,aj];simp only[ktN,ktV,ktC,jA,jD,ssH,ag,ae,reduceIte,af,ak,ai,aj];exact jy (v:=.tup [ktN k,bo false]) rfl ⟨by simp only[kR,bo,nbS],rfl⟩
  simp only[if_pos q2,show((0:Int) != 0)=false from rfl,jA,ssH,ag,ae,reduceIte,af,ak,ai,aj]
  by_cases q3:v<k.v
  case pos=>
   rw[hno (by rw[okW,decide_eq_false (by omega:¬ k.v≤v)];simp)];simp only[decide_eq_true q3,ssH,ag,ae,reduceIte,af,ak,ai,aj];simp only[ktN,ktV,ktC,jA,jD,ssH,ag,ae,reduceIte,af,ak,ai,aj];exact jy (v:=.tup [ktN k,bo false]) rfl ⟨by simp only[kR,bo,nbS],rfl⟩
  simp only[decide_eq_false q3,jA,ssH,ag,ae,reduceIte,af,ak,ai,aj]
  by_cases q4:n<k.n
  case pos=>
   rw[hno (by rw[okW,decide_eq_false (by omega:¬ k.n≤n)];simp)];simp only[decide_eq_true q4,ssH,ag,ae,reduceIte,af,ak,ai,aj];simp only[ktN,ktV,ktC,jA,jD,ssH,ag,ae,reduceIte,af,ak,ai,aj];exact jy (v:=.tup [ktN k,bo false]) rfl ⟨by simp only[kR,bo,nbS],rfl⟩
  simp only[decide_eq_false q4,jA,ssH,ag,ae,reduceIte,af,ak,ai,aj]
  by_cases q5:l.b<k.l.b
  case pos=>
   rw[hno (by rw[okW,decide_eq_false (by omega:¬ k.l.b≤l.b)];simp)];simp only[decide_eq_true q5,ssH,ag,ae,reduceIte,af,ak,ai,aj];simp only[ktN,ktV,ktC,jA,jD,ssH,ag,ae,reduceIte,af,ak,ai,aj];exact jy (v:=.tup [ktN k,bo false]) rfl ⟨by simp only[kR,bo,nbS],rfl⟩
  simp only[decide_eq_false q5,jA,ssH,ag,ae,reduceIte,af,ak,ai,aj];rw[hF,if_pos (DN.2 ⟨q1,q2,by omega,by omega,by omega⟩)];simp only[ktN,ktV,ktC,jA,jD,ssH,ag,ae,reduceIte,af,ak,ai,aj];exact jy (v:=.tup [ktN ⟨v,n,l⟩,bo true]) rfl ⟨by simp only[kR,bo,nbS],rfl⟩
 simp only[beq_eq_false_iff_ne.2 c3,ssH,ag,ae,reduceIte,af,ak,ai,aj]
 by_cases c1:kd=1
 case pos=>
  subst c1;obtain⟨v,a2,e2,h2⟩:∃ x y z,qR s a1 e1=(x,y,z):=⟨_,_,_,rfl⟩;have l2:=nU (e:=e1) l1;rw[h2]at l2;obtain⟨n,a3,e3,h3⟩:∃ x y z,qR s a2 e2=(x,y,z):=⟨_,_,_,rfl⟩;have l3:=nU (e:=e2) l2;rw[h3]at l3;simp only at l2 l3
  have hF:qV k s=if okW k (Bv s (a3,e3)) v n k.l=true then (⟨v,n,k.l⟩,true)else (k,false):=by
   unfold qV;simp only[h1];rw[if_neg (by decide),if_neg (by decide),if_pos trivial];unfold UZ;simp only[h2,h3,aF,if_false]
  have hno:okW k (Bv s (a3,e3)) v n k.l=false→qV k s=(k,false):=fun h=>by rw[hF,h];rfl
  simp only[beq_self_eq_true,jA,jD,ssH,ag,ae,reduceIte,af,ak,ai,aj];refine jX (b:=2) (X:=rdB s a1 e1) rfl rfl (fun m b' h=>rY h l1 (by omega)) kK kK nbY nbY ?_;simp only[h2,jA,jD,aA,aB,au,ay,ssH,ag,ae,reduceIte,af,ak,ai,aj];refine jX (b:=2) (X:=rdB s a2 e2) rfl rfl (fun m b' h=>rY h l2 (by omega)) kK kK nbY nbY ?_;simp only[h3,show((1:Int)==3)=false from rfl,jA,jD,aA,aB,au,ay,ssH,ag,ae,reduceIte,af,ak,ai,aj];refine kz (b:=2) (X:=rdB s a3 e3) rfl rfl (fun m b' h=>QY h) kK nbY nbY ?_;have he:(if e3≠0 then e3 else if a3<s.length then 5 else 0)=Bv s (a3,e3):=rfl;rw[he]
  by_cases q1:Bv s (a3,e3)=0
  case neg=>
   rw[hno (by rw[okW,beq_eq_false_iff_ne.2 q1];rfl)];simp only[bne_iff_ne.2 q1,ssH,ag,ae,reduceIte,af,ak,ai,aj];simp only[ktN,ktV,ktC,jA,jD,ssH,ag,ae,reduceIte,af,ak,ai,aj];exact jy (v:=.tup [ktN k,bo false]) rfl ⟨by simp only[kR,bo,nbS],rfl⟩
  simp only[q1,show((0:Int) != 0)=false from rfl,jA,ssH,ag,ae,reduceIte,af,ak,ai,aj];refine jE (v:=it (if ktB ⟨v,n,k.l⟩=true then 0 else 2)) (by exact fun m=>uI E (!k.l.l.isEmpty) ⟨v,n,k.l⟩) (by simp only[hnl,nbS]) nbY ?_
  by_cases q2:ktB ⟨v,n,k.l⟩=true
  case neg=>
   have q2':ktB ⟨v,n,k.l⟩=false:=by simpa using q2
   rw[hno (by rw[okW,q2'];simp)];simp only[if_neg q2,show((2:Int) != 0)=true from rfl,ssH,ag,ae,reduceIte,af,ak,ai,aj];simp only[ktN,ktV,ktC,jA,jD,ssH,ag,ae,reduceIte,af,ak,ai,aj];exact jy (v:=.tup [ktN k,bo false]) rfl ⟨by simp only[kR,bo,nbS],rfl⟩
  simp only[if_pos q2,show((0:Int) != 0)=false from rfl,jA,ssH,ag,ae,reduceIte,af,ak,ai,aj]
  by_cases q3:v<k.v
  case pos=>
   rw[hno (by rw[okW,decide_eq_false (by omega:¬ k.v≤v)];simp)];simp only[decide_eq_true q3,ssH,ag,ae,reduceIte,af,ak,ai,aj];simp only[ktN,ktV,ktC,jA,jD,ssH,ag,ae,reduceIte,af,ak,ai,aj];exact jy (v:=.tup [ktN k,bo false]) rfl ⟨by simp only[kR,bo,nbS],rfl⟩
  simp only[decide_eq_false q3,jA,ssH,ag,ae,reduceIte,af,ak,ai,aj]
  by_cases q4:n<k.n
  case pos=>
   rw[hno (by rw[okW,decide_eq_false (by omega:¬ k.n≤n)];simp)];simp only[decide_eq_true q4,ssH,ag,ae,reduceIte,af,ak,ai,aj];simp only[ktN,ktV,ktC,jA,jD,ssH,ag,ae,reduceIte,af,ak,ai,aj];exact jy (v:=.tup [ktN k,bo false]) rfl ⟨by simp only[kR,bo,nbS],rfl⟩
  simp only[decide_eq_false q4,jA,ssH,ag,ae,reduceIte,af,ak,ai,aj];simp only[show decide (k.l.b<k.l.b)=false from decide_eq_false (by omega),jA,ssH,ag,ae,reduceIte,af,ak,ai,aj];have q5:¬ k.l.b<k.l.b:=by omega
  rw[hF,if_pos (DN.2 ⟨q1,q2,by omega,by omega,by omega⟩)];simp only[ktN,ktV,ktC,jA,jD,ssH,ag,ae,reduceIte,af,ak,ai,aj];exact jy (v:=.tup [ktN ⟨v,n,k.l⟩,bo true]) rfl ⟨by simp only[kR,bo,nbS],rfl⟩
 have hF:qV k s=(k,false):=by
  unfold qV;simp only[h1];rw[if_neg c2,if_neg c3,if_neg c1]
 rw[hF];simp only[beq_eq_false_iff_ne.2 c1,ktN,ktV,ktC,jA,jD,ssH,ag,ae,reduceIte,af,ak,ai,aj];exact jy (v:=.tup [ktN k,bo false]) rfl ⟨by simp only[kR,bo,nbS],rfl⟩
end
section
variable {Γ:jI} {m:Store}
set_option maxHeartbeats 3200000 in
theorem oM(E:Env Γ)(b mo:List UInt8)(tok:Tok)(hb:b.length≤100000000):jB Tryz.prog Γ 13 [.sl (b.map by8) (mo.map by8) tok] m fun o m'=>o = .ret (.tup [ktN (lq k0 b).1,it (lq k0 b).2])∧m'=m:=by
 refine jB.tok [] [] ?_;have hnb:∀ k,nbs k (b.map by8):=fun k=>by simp only[kV]
 have hnm:∀ k,nbs k (mo.map by8):=fun k=>by simp only[kV]
 refine kJ (kM mixed zjr zlN jY (by simp only[aB,kV,nbS]) ?_);simp only[F13,aB,ss0,aC,ag];simp only[ssH,ag,ae,reduceIte,af,ak,ai,aj];obtain⟨R,N,hR⟩:∃ R N,lq k0 b=(R,N):=⟨_,_,rfl⟩;rw[hR];refine nC [0,2,4,5] 36 (fun n vs h=>∃ (x:Kt) (i:Nat),vs=[.sl (b.map by8) (mo.map by8) .no,.ptr 0 0,.ptr 1 0,it i]∧h=[some (DX false k0),some (DX (!x.l.l.isEmpty) x)]∧i≤b.length∧n+i=b.length+1∧(lq x (b.drop i)).1=R∧i+(lq x (b.drop i)).2=N) (b.length+1) (by decide) (by decide) (aK 2) ?_ ?_
 ·refine jZ rfl (by decide) (by decide) (by simp) ?_ ?_ ⟨k0,0,rfl,rfl,by omega,by omega,by rw[bM,hR],by rw[bM,hR];simp⟩
  ·show nbs 2 [.sl (b.map by8) (mo.map by8) .no,.ptr 0 0,.ptr 1 0,it (0:Nat)];simp only[hnb,hnm,nbS]
   try decide
  ·intro a ha x hx;have:a=0∨a=1:=by omega
   rcases this with rfl|rfl<;>cases hx<;>exact zH 2 false k0
 rintro n t h J hJ hlt ⟨x,i,hv,rfl,hi,hn,r1,r2⟩;simp only[aZ,aQ,and_true]at hv;obtain⟨g0,g2,g4,g5⟩:=hv;have hnx:=kR 0 x;have hnl:=kL (k:=0) (!x.l.l.isEmpty) x.l.l
 have stop:lq x (b.drop i)=(x,0)→R=x∧N=i:=by
  intro h;rw[h]at r1 r2;exact⟨r1.symm,by omega⟩
 rw[mO hlt];simp only[jW,upTo,g0,g2,g4,g5,kE,aH,ssH,ag,ae,reduceIte,af,ak,ai,aj]
 by_cases hil:i<b.length
 case neg=>
  obtain⟨rfl,rfl⟩:=stop (pG (.inl (by rw[List.drop_of_length_le (by omega)];exact SN)));simp only[show decide ((N:Int)<(b.length:Int))=false from decide_eq_false (by omega),DX,ktC,jA,jD,aA,aB,au,ay,ssH,ag,ae,reduceIte,af,ak,ai,aj];exact jy (v:=.tup [ktN R,it N]) rfl ⟨by simp only[hnx,nbS],rfl⟩
 simp only[show decide ((i:Int)<(b.length:Int))=true from decide_eq_true (by omega),ssH,ag,ae,reduceIte,af,ak,ai,aj];obtain⟨s,c,e,hg⟩:∃ s c e,frG (b.drop i)=(s,c,e):=⟨_,_,_,rfl⟩
 have hG:∀ m,jB Tryz.prog Γ 36 [.sl (b.map by8) (mo.map by8) .no,it i] m fun o m'=>o = .ret (.tup [if e=0 then slN s else .sl [] [] .full,it (if e=0 then i+c else 0:Nat),it e])∧m'=m:=by
  intro m;have:=kJ (zeW (Γ:=Γ) (m:=m) b mo .no i hi hb);rw[hg]at this;exact this
 refine jE (by exact hG) (by simp only[kV,nbS]) (by split<;>simp only[lW,nbS]) ?_
 by_cases he:e=0
 case neg=>
  obtain⟨rfl,rfl⟩:=stop (pG (.inl (by rw[hg];exact he)));simp only[if_neg he,bne_iff_ne.2 he,DX,ktC,jA,jD,aA,aB,au,ay,ssH,ag,ae,reduceIte,af,ak,ai,aj];exact jy (v:=.tup [ktN R,it N]) rfl ⟨by simp only[hnx,nbS],rfl⟩
 subst he;obtain⟨f1,f2,f3,f4⟩:=WW hg;have f5:=AX hg;rw[bf]at f5;have hN:∀ k,nb k (slN s):=fun k=>lW;obtain⟨y,ok,hr⟩:∃ y ok,qV x s=(y,ok):=⟨_,_,rfl⟩;have hny:=kR 0 y;simp only[if_true,show((0:Int) != 0)=false from rfl,DX,ktC,jA,jD,aA,aB,au,ay,ssH,ag,ae,reduceIte,af,ak,ai,aj];refine jE (v:=.tup [ktN y,bo ok]) (by intro m;have:=WL (Γ:=Γ) (m:=m) E x s (by omega);rw[hr]at this;exact this) (by simp only[hnl,hN,nbS]) (by simp only[hny,bo,nbS]) ?_;simp only[bo,ktN,ktV,ktC,jA,jD,aA,aB,au,ay,ssH,ag,ae,reduceIte,af,ak,ai,aj];cases ok
 ·obtain⟨rfl,rfl⟩:=stop (pG (.inr (by rw[hg,hr])));simp only[aN,jA,jD,aA,aB,au,ay,ssH,ag,ae,reduceIte,af,ak,ai,aj];exact jy (v:=.tup [ktN R,it N]) rfl ⟨by simp only[hnx,nbS],rfl⟩
 ·simp only[aO,jA,jD,aA,aB,au,ay,ssH,ag,ae,reduceIte,af,ak,ai,aj];have hst:=zh hg hr;rw[hst,cZ]at r1 r2;refine⟨_,hJ (b.length+1-(i+c)) (aK 2) _ (by omega) (jZ rfl (by decide) (by decide) (by simp) ?_ ?_ ⟨y,i+c,rfl,rfl,by omega,by omega,r1,by omega⟩)⟩
  ·show nbs 2 [.sl (b.map by8) (mo.map by8) .no,.ptr 0 0,.ptr 1 0,it (i+c:Nat)];simp only[hnb,hnm,nbS]
   try decide
  ·intro a ha z hz;have:a=0∨a=1:=by omega
   rcases this with rfl|rfl<;>cases hz
   ·exact zH 2 false k0
   ·exact zH 2 _ y
end
section
variable {Γ:jI} {m:Store}
theorem zcp(x:Lg):lgE x x=true:=by simp[lgE]
theorem vK(a b:Bool)(x:Kt)(hl:x.l.l.length≤2000000):jB Tryz.prog Γ 15 [ktV a x,ktV b x] m fun o m'=>o = .ret (bo true)∧m'=m:=by
 have h1:=FU 0 a x;have h2:=FU 0 b x;have h3:=kL (k:=0) a x.l.l;have h4:=kL (k:=0) b x.l.l;refine kJ (kM mixed zjc zlE jY (by simp only[h1,h2,nbS]) ?_);simp only[F15,ktV,ktC,ss0,aC,ag];simp only[beq_self_eq_true,jA,ssH,ag,ae,reduceIte,af,ak,ai,aj];refine jE (v:=bo true) (by intro m;have:=Zz (Γ:=Γ) (m:=m) a b x.l x.l hl;rw[zcp]at this;exact this) (by simp only[h3,h4,nbS]) (by simp only[bo,nbS]) ?_;simp only[bo,ssH,ag,ae,reduceIte,af,ak,ai,aj];exact jy (v:=bo true) rfl ⟨by simp only[bo,nbS],rfl⟩
end
theorem OW{Γ:jI}{Kp:V→Hl→Prop}{h:Hl}{t:List V}{l:List Item}{K:HS→Prop}{d:Option Tmp}{s:List (Tmp×Option (Tmp×Bool)×AOp)}(a mo:List UInt8)(tok:Tok)(ha:a.length≤140737488351232)(hh:h.length<1000000)
  (h0:a=[]→hth Tryz.prog Γ Kp s l K (hput t h d (some (.sl (a.map by8) [] (.zero true)))))
  (h1:a≠[]→hth Tryz.prog Γ Kp s l K (hput t (h++[some (.tip 5 0)]) d (some (.sl (a.map by8) [] (.tip h.length 0))))):uJ Tryz.prog Γ Kp 5 1 1 (.sl [] [] (.zero true)) (.sl (a.map by8) (mo.map by8) tok) d s l K t h:=by
 by_cases e:a=[]
 ·subst e;exact AV rfl (h0 rfl)
 ·refine JD (ys:=a.map by8) rfl (by simpa using e) hh rfl (ul a) (by simp only[aH,ay];omega) ?_
  simpa using h1 e
theorem OX{Γ:jI}{Kp:V→Hl→Prop}{h:Hl}{t:List V}{l:List Item}{K:HS→Prop}{d:Option Tmp}{s:List (Tmp×Option (Tmp×Bool)×AOp)}(a b mo:List UInt8)(tok:Tok)(j k:Nat)(hab:a.length+b.length≤140737488351232)(h0:a≠[])(hj:lk h j=some (.tip 5 k))
  (h1:∀ k',hth Tryz.prog Γ Kp s l K (hput t (hset h j (some (.tip 5 k'))) d (some (.sl ((a++b).map by8) [] (.tip j k'))))):uJ Tryz.prog Γ Kp 5 1 1 (.sl (a.map by8) [] (.tip j k)) (.sl (b.map by8) (mo.map by8) tok) d s l K t h:=by
 refine JE (ys:=b.map by8) rfl (by simpa using h0) hj (lM _) (ul b) (by simp only[aH];omega) ?_;intro k2 _;have:=h1 k2
 rwa [bu]at this
def eL:Ent:=⟨1,1,2,0,[],0,0,[]⟩
def Zw:List UInt8:=rG [1,2,1] []
def zbF:List UInt8:=rG [2,2] (rq eL)
theorem n121:kH [1,2,1]++[]=[2,4,2]:=by kernel_rfl
theorem n111:kH [1,1,1]++[]=[2,2,2]:=by kernel_rfl
theorem n22:(kH [2,2]++rq eL).length=10:=by kernel_rfl
theorem uz3:uz 3=[6]:=by kernel_rfl
theorem zl3:uz 10=[20]:=by kernel_rfl
theorem Ul:Zw.length=8:=by rw[Zw,rG,pz,n121,show uz (([2,4,2]:List UInt8).length:Int)=[6]from uz3];rfl
theorem Zu:(rG [1,1,1] []).length=8:=by rw[rG,pz,n111,show uz (([2,2,2]:List UInt8).length:Int)=[6]from uz3];rfl
theorem zbE:zbF.length=15:=by rw[zbF,rG,pz,n22,show uz ((10:Nat):Int)=[20]from zl3];rfl
theorem Zv:Zw.take 4=[6,2,4,2]:=by kernel_rfl
theorem readA:lq k0 (Zw++rG [1,1,1] [])=(⟨2,1,lg0⟩,8):=by
 have h1:qV k0 (kH [1,2,1]++[])=(⟨2,1,lg0⟩,true):=Ox (v:=2) (n:=1) rfl rfl (by decide) (by decide);have h2:qV ⟨2,1,lg0⟩ (kH [1,1,1]++[])=(⟨2,1,lg0⟩,false):=by kernel_rfl
 have h3:frG (frB (kH [1,1,1]++[]))=(kH [1,1,1]++[],(frB (kH [1,1,1]++[])).length,0):=by
  have:=LP (x:=kH [1,1,1]++[]) (by rw[n111];decide) []
  rwa [aP]at this
 rw[show Zw=frB (kH [1,2,1]++[])from rfl,Ah (by rw[n121];decide) h1,rG,pG (.inr (by rw[h3,h2])),dR,show(frB (kH [1,2,1]++[])).length=8 from Ul]
theorem zjX:lq k0 zbF=(k0,0):=by
 have h2:qV k0 (kH [2,2]++rq eL)=(k0,false):=by kernel_rfl
 have h3:frG (frB (kH [2,2]++rq eL))=(kH [2,2]++rq eL,(frB (kH [2,2]++rq eL)).length,0):=by
  have:=LP (x:=kH [2,2]++rq eL) (by rw[n22];decide) []
  rwa [aP]at this
 exact pG (.inr (by rw[zbF,rG,h3,h2]))
section
variable {Γ:jI} {m:Store}
set_option maxHeartbeats 3200000 in
theorem nZ(E:Env Γ):jB Tryz.prog Γ 12 [] m fun o m'=>o = .ret (bo true)∧m'=m:=by
 have hN:∀ k l,nb k (slN l):=fun k l=>lW;obtain⟨A,hA⟩:∃ A,A=Zw:=⟨_,rfl⟩;obtain⟨B,hB⟩:∃ B,B=rG [1,1,1] []:=⟨_,rfl⟩;obtain⟨C,hC⟩:∃ C,C=zbF:=⟨_,rfl⟩;have lA:A.length=8:=by rw[hA];exact Ul
 have lB:B.length=8:=by rw[hB];exact Zu
 have lC:C.length≤100:=by rw[hC,zbE];decide
 have hAn:A≠[]:=by intro h;rw[h]at lA;simp at lA
 have tA:A.take 4=[6,2,4,2]:=by rw[hA];exact Zv
 have rA:lq k0 (A++B)=(⟨2,1,lg0⟩,8):=by rw[hA,hB];exact readA
 have rC:lq k0 C=(k0,0):=by rw[hC];exact zjX
 have hv1:∀ m,jB Tryz.prog Γ 17 [it 2,it 1] m fun o m'=>o = .ret (.tup [slN A,it 0])∧m'=m:=fun m=>by rw[hA];exact JB 2 1
 have hv2:∀ m,jB Tryz.prog Γ 17 [it 1,it 1] m fun o m'=>o = .ret (.tup [slN B,it 0])∧m'=m:=fun m=>by rw[hB];exact JB 1 1
 have hv3:∀ m,jB Tryz.prog Γ 19 [it 2,kS eL] m fun o m'=>o = .ret (.tup [slN C,it 0])∧m'=m:=fun m=>by
  have:=Qq (Γ:=Γ) (m:=m) E 2 eL (by refine⟨?_,?_,?_,?_,?_,?_⟩<;>exact⟨by decide,by decide⟩);rw[show BG (Dt 2 eL) (rG [2,2] (rq eL)) = .tup [slN C,it 0]from by rw[hC,show Dt 2 eL=true from by kernel_rfl];rfl]at this;exact this
 refine kJ (kM mixed zjy zlS jY nbY ?_);simp only[F12,ss0,aC,ag];simp only[ssH,ag,ae,reduceIte,af,ak,ai,aj];refine jE (by exact hv1) nbY (by simp only[hN,nbS]) ?_;simp only[ssH,ag,ae,reduceIte,af,ak,ai,aj];refine jE (by exact hv2) nbY (by simp only[hN,nbS]) ?_;simp only[wC,slN,ssH,ag,ae,reduceIte,af,ak,ai,aj];refine OW A [] .non (by omega) (by simp) (fun h=>absurd h hAn) (fun _ => ?_);simp only[aA,aB,au,ay,ssH,ag,ae,reduceIte,af,ak,ai,aj];refine OX A B [] .non 0 0 (by omega) hAn rfl (fun k2 => ?_);simp only[jT,jU,aA,aB,au,ay,ssH,ag,ae,reduceIte,af,ak,ai,aj];refine oO (v:=.tup [ktN ⟨2,1,lg0⟩,it 8]) (es:=(A++B).map by8) (more:=[]) rfl (fun m tok'=>by have:=oM (Γ:=Γ) (m:=m) E (A++B) [] tok' (by rw[aJ];omega);rw[rA]at this;exact this) (jG _) .nil .nil (by simp only[kR,nbS]) ?_;simp only[ktN,ktV,ktC,jA,jD,aA,aB,au,ay,ssH,ag,ae,reduceIte,af,ak,ai,aj];refine jE (by exact hv3) nbX (by simp only[hN,nbS]) ?_;simp only[slN,jA,jD,aA,aB,au,ay,ssH,ag,ae,reduceIte,af,ak,ai,aj];refine jE (v:=.tup [ktN k0,it 0]) (by intro m;have:=oM (Γ:=Γ) (m:=m) E C [] .non (by omega);rw[rC]at this;exact this) (by simp only[kV,nbS]) (by simp only[kR,nbS]) ?_;simp only[ktN,ktV,ktC,jA,jD,aA,aB,au,ay,ssH,ag,ae,reduceIte,af,ak,ai,aj];have hcut:pO 1 (.sl (A.map by8) [] .non) (some none) (some (some (4:Int))) (some none)=some (.sl ((A.take 4).map by8) ((A.drop 4).map by8) .no):=zkl (b:=A) (h:=4) (by omega);have hb:zfk (.sl ((A.take 4).map by8) ((A.drop 4).map by8) .no)=some (bs [6,2,4,2]):=by rw[Xq,tA]
 simp only[aH,lA,lw,lH,hcut,OA,hb,beq_self_eq_true,jA,show((8:Nat):Int)=8 from rfl,show V.val (.string (ByteArray.mk #[6,2,4,2]))=bs [6,2,4,2]from rfl,ssH,ag,ae,reduceIte,af,ak,ai,aj];exact jy (v:=bo true) rfl ⟨by simp only[bo,nbS],rfl⟩
end
theorem Aj{b:List UInt8}{k:Kt}{n:Nat}(h:lq k0 b=(k,n)):ktB k=true∧k.l.l.length≤64∧n≤b.length:=by
 obtain⟨h1,_,h3⟩:=Nv k0 b zj9;rw[h]at h1 h3;have:=pR.1 (vF.1 h1).2;exact⟨h1,this.2.2.2.2.1,h3⟩
section
variable {Γ:jI} {m:Store}
end
theorem zkm{b:List UInt8}{h:Nat}(h2:h≤b.length):pO 1 (.sl (b.map by8) [] .no) (some none) (some (some (h:Int))) (some none)=some (.sl ((b.take h).map by8) ((b.drop h).map by8) .no):=by
 have:=zhV (b:=b) (mo:=[]) (l:=0) (h:=h) (bU _) h2;rw[bM,aP]at this;exact this
section
variable {Γ:jI} {m:Store}
set_option maxHeartbeats 6400000 in
theorem zct(E:Env Γ)(a b:List UInt8):jB Tryz.prog Γ 4 [.sl (a.map by8) [] .no,.sl (b.map by8) [] .no] m fun o m'=>o = .ret (bo true)∧m'=m:=by
 refine kJ (kM mixed zkP zmC jY (by simp only[kV,nbS]) ?_);simp only[F4,ss0,aC,ag];simp only[kE,aH,gt_iff_lt,ssH,ag,ae,reduceIte,af,ak,ai,aj]
 by_cases h1:(10000:Int)<(a.length:Int)
 ·simp only[decide_eq_true h1,ssH,ag,ae,reduceIte,af,ak,ai,aj];refine jE (v:=bo true) (by exact fun m=>nZ E) nbY (by simp only[bo,nbS]) ?_;simp only[ssH,ag,ae,reduceIte,af,ak,ai,aj];exact jy (v:=bo true) rfl ⟨by simp only[bo,nbS],rfl⟩
 simp only[decide_eq_false h1,kE,aH,ssH,ag,ae,reduceIte,af,ak,ai,aj]
 by_cases h2:(10000:Int)<(b.length:Int)
 ·simp only[decide_eq_true h2,ssH,ag,ae,reduceIte,af,ak,ai,aj];refine jE (v:=bo true) (by exact fun m=>nZ E) nbY (by simp only[bo,nbS]) ?_;simp only[ssH,ag,ae,reduceIte,af,ak,ai,aj];exact jy (v:=bo true) rfl ⟨by simp only[bo,nbS],rfl⟩
 simp only[decide_eq_false h2,ssH,ag,ae,reduceIte,af,ak,ai,aj];obtain⟨k,n,hR⟩:∃ k n,lq k0 a=(k,n):=⟨_,_,rfl⟩;obtain⟨q1,q2,q3⟩:=Aj hR;obtain⟨x,c,hX⟩:∃ x c,lq k b=(x,c):=⟨_,_,rfl⟩;obtain⟨u1,u2,u3⟩:=Nv k b q1;obtain⟨A,hA⟩:∃ A,A=a.take n:=⟨_,rfl⟩;have hAl:A.length=n:=by rw[hA,aW];omega
 have hRA:lq k0 A=(k,n):=by
  have:=VZ k0 a
  rwa [hR,←hA]at this
 have hRB:lq k0 (A++b)=(x,n+c):=by
  have:=Jd b k0 a
  rwa [hR,←hA,hX]at this
 rw[hX]at u1 u2;obtain⟨v1,v2,v3⟩:=u2;simp only at v1 v2 v3;have hkn:=kL (k:=0) (!k.l.l.isEmpty) k.l.l;have hxn:=kL (k:=0) (!x.l.l.isEmpty) x.l.l;have hcut:=zkm (b:=a) (h:=n) q3;rw[←hA]at hcut;have hm1:max 0 (n:Int)=(n:Int):=by omega
 have hm2:min (n:Int) (a.length:Int)=(n:Int):=by omega
 have hab:A.length+b.length≤140737488351232:=by omega
 refine jE (v:=.tup [ktN k,it n]) (by intro m;have:=oM (Γ:=Γ) (m:=m) E a [] .no (by omega);rw[hR]at this;exact this) (by simp only[kV,nbS]) (by simp only[kR,nbS]) ?_;simp only[ktN,ktV,ktC,jD,jA,wC,V9,EL,Jw,RX,hm1,hm2,kE,aH,aZ,lw,lH,hcut,aA,aB,au,ay,ssH,ag,ae,reduceIte,af,ak,ai,aj];refine OW A (a.drop n) .no (by omega) (by simp) (fun hAe => ?_) (fun hAe => ?_)
 ·have hRb:lq k0 b=(x,n+c):=by rw[hAe]at hRB;exact hRB
  simp only[hAe,eG,jD,jA,aA,aB,au,ay,ssH,ag,ae,reduceIte,af,ak,ai,aj];simp only[hAe,eG]at hcut;refine OW b [] .no (by omega) (by simp) (fun hbe => ?_) (fun hbe => ?_)
  all_goals
   simp only[jD,jA,aA,aB,au,ay,jT,jU,ssH,ag,ae,reduceIte,af,ak,ai,aj];refine oO (v:=.tup [ktN x,it (n+c:Nat)]) (es:=(b).map by8) (more:=[]) rfl (fun m tok'=>by have:=oM (Γ:=Γ) (m:=m) E (b) [] tok' (by first|omega|(simp only[aJ];omega));rw[hRb]at this;exact this) (jG _) .nil .nil (by simp only[kR,nbS]) ?_;simp only[ktN,ktV,ktC,V9,EL,Jw,RX,hm1,hm2,kE,aH,aZ,lw,lH,hcut,jD,jA,aA,aB,au,ay,jT,jU,ssH,ag,ae,reduceIte,af,ak,ai,aj];refine oO (v:=.tup [ktN k,it n]) (es:=[]) (more:=(a.drop n).map by8) rfl (fun m tok'=>by have:=oM (Γ:=Γ) (m:=m) E [] (a.drop n) tok' (by simp);rw[hAe]at hRA;rw[hRA]at this;exact this) .nil (jG _) .nil (by simp only[kR,nbS]) ?_;simp only[ktN,ktV,ktC,show decide ((n:Int)<0)=false from decide_eq_false (by omega),show decide ((a.length:Int)<(n:Int))=false from decide_eq_false (by omega),show decide (((n+c:Nat):Int)<(n:Int))=false from decide_eq_false (by omega),gt_iff_lt,kE,aH,jD,jA,aA,aB,au,ay,jT,jU,ssH,ag,ae,reduceIte,af,ak,ai,aj];refine jE (v:=bo true) (by exact fun m=>vK (!k.l.l.isEmpty) (!k.l.l.isEmpty) k (by omega)) (by simp only[hkn,nbS]) (by simp only[bo,nbS]) ?_;simp only[bo,aO,bne_self_eq_false,jD,jA,aA,aB,au,ay,jT,jU,ssH,ag,ae,reduceIte,af,ak,ai,aj];refine jE (v:=it 0) (by intro m;have:=uI (Γ:=Γ) (m:=m) E (!k.l.l.isEmpty) k;rw[if_pos q1]at this;exact this) (by simp only[hkn,nbS]) nbY ?_;simp only[show((0:Int) != 0)=false from rfl,jD,jA,aA,aB,au,ay,jT,jU,ssH,ag,ae,reduceIte,af,ak,ai,aj];refine jE (v:=it 0) (by intro m;have:=uI (Γ:=Γ) (m:=m) E (!x.l.l.isEmpty) x;rw[if_pos u1]at this;exact this) (by simp only[hxn,nbS]) nbY ?_
   simp only[show((0:Int) != 0)=false from rfl,ge_iff_le,decide_eq_true v1,decide_eq_true v2,decide_eq_true v3,jD,jA,aA,aB,au,ay,jT,jU,ssH,ag,ae,reduceIte,af,ak,ai,aj];refine jE (v:=bo true) (by exact fun m=>nZ E) nbY (by simp only[bo,nbS]) ?_;simp only[bo,ssH,ag,ae,reduceIte,af,ak,ai,aj];exact jy (v:=bo true) rfl ⟨by simp only[bo,nbS],rfl⟩
 ·simp only[jD,jA,aA,aB,au,ay,ssH,ag,ae,reduceIte,af,ak,ai,aj];refine OX A b [] .no 1 0 hab hAe rfl (fun k2 => ?_);simp only[jD,jA,aA,aB,au,ay,jT,jU,ssH,ag,ae,reduceIte,af,ak,ai,aj];refine oO (v:=.tup [ktN x,it (n+c:Nat)]) (es:=(A++b).map by8) (more:=[]) rfl (fun m tok'=>by have:=oM (Γ:=Γ) (m:=m) E (A++b) [] tok' (by first|omega|(simp only[aJ];omega));rw[hRB]at this;exact this) (jG _) .nil .nil (by simp only[kR,nbS]) ?_;simp only[ktN,ktV,ktC,V9,EL,Jw,RX,hm1,hm2,kE,aH,aZ,lw,lH,hcut,jD,jA,aA,aB,au,ay,jT,jU,ssH,ag,ae,reduceIte,af,ak,ai,aj];refine oO (v:=.tup [ktN k,it n]) (es:=A.map by8) (more:=(a.drop n).map by8) rfl (fun m tok'=>by have:=oM (Γ:=Γ) (m:=m) E A (a.drop n) tok' (by omega);rw[hRA]at this;exact this) (jG _) (jG _) .nil (by simp only[kR,nbS]) ?_;simp only[ktN,ktV,ktC,show decide ((n:Int)<0)=false from decide_eq_false (by omega),show decide ((a.length:Int)<(n:Int))=false from decide_eq_false (by omega),show decide (((n+c:Nat):Int)<(n:Int))=false from decide_eq_false (by omega),gt_iff_lt,kE,aH,jD,jA,aA,aB,au,ay,jT,jU,ssH,ag,ae,reduceIte,af,ak,ai,aj];refine jE (v:=bo true) (by exact fun m=>vK (!k.l.l.isEmpty) (!k.l.l.isEmpty) k (by omega)) (by simp only[hkn,nbS]) (by simp only[bo,nbS]) ?_;simp only[bo,aO,bne_self_eq_false,jD,jA,aA,aB,au,ay,jT,jU,ssH,ag,ae,reduceIte,af,ak,ai,aj];refine jE (v:=it 0) (by intro m;have:=uI (Γ:=Γ) (m:=m) E (!k.l.l.isEmpty) k;rw[if_pos q1]at this;exact this) (by simp only[hkn,nbS]) nbY ?_;simp only[show((0:Int) != 0)=false from rfl,jD,jA,aA,aB,au,ay,jT,jU,ssH,ag,ae,reduceIte,af,ak,ai,aj]
  refine jE (v:=it 0) (by intro m;have:=uI (Γ:=Γ) (m:=m) E (!x.l.l.isEmpty) x;rw[if_pos u1]at this;exact this) (by simp only[hxn,nbS]) nbY ?_;simp only[show((0:Int) != 0)=false from rfl,ge_iff_le,decide_eq_true v1,decide_eq_true v2,decide_eq_true v3,jD,jA,aA,aB,au,ay,jT,jU,ssH,ag,ae,reduceIte,af,ak,ai,aj];refine jE (v:=bo true) (by exact fun m=>nZ E) nbY (by simp only[bo,nbS]) ?_;simp only[bo,ssH,ag,ae,reduceIte,af,ak,ai,aj];exact jy (v:=bo true) rfl ⟨by simp only[bo,nbS],rfl⟩
end
def Fq(l:List UInt8)(k:Kt):Bool:=decide (l.length≤20000)&&(decide (k.l.l.length≤70)&&decide (k.l.c.length≤1000))
theorem OH{a b:Nat}:decide ((a:Int)≤(b:Int))=decide (a≤b):=by
 by_cases h:a≤b
 ·rw[decide_eq_true h,decide_eq_true (by omega)]
 ·rw[decide_eq_false h,decide_eq_false (by omega)]
section
variable {Γ:jI} {m:Store}
theorem zae(nn:Bool)(k:Kt)(l:List UInt8)(more:List V)(hm:nbs 0 more)(tok:Tok)(ht:nbT 0 tok):jB Tryz.prog Γ 25 [.sl (l.map by8) more tok,ktV nn k] m fun o m'=>o = .ret (bo (Fq l k))∧m'=m:=by
 have hnk:=FU 0 nn k;refine kJ (kM mixed ziM zk4 jY (by simp only[hnk,kV,hm,ht,nbS]) ?_);simp only[F25,ktV,ktC,ss0,aC,ag];simp only[jA,kE,Qk,pU,aH,ssH,ag,ae,reduceIte,af,ak,ai,aj];have e1:decide ((l.length:Int)≤20000)=decide (l.length≤20000):=OH (b:=20000);have e2:decide ((k.l.l.length:Int)≤70)=decide (k.l.l.length≤70):=OH (b:=70);have e3:decide ((k.l.c.length:Int)≤1000)=decide (k.l.c.length≤1000):=OH (b:=1000);cases h1:decide (l.length≤20000)
 ·simp only[e1,h1,ssH,ag,ae,reduceIte,af,ak,ai,aj];exact jy jC ⟨nbZ,by simp only[Fq,h1];rfl⟩
 simp only[e1,h1,jA,Qk,ssH,ag,ae,reduceIte,af,ak,ai,aj];cases h2:decide (k.l.l.length≤70)
 ·simp only[e2,h2,ssH,ag,ae,reduceIte,af,ak,ai,aj];exact jy jC ⟨nbZ,by simp only[Fq,h1,h2];rfl⟩
 simp only[e2,h2,jA,pU,e3,ssH,ag,ae,reduceIte,af,ak,ai,aj];exact jy jC ⟨nbZ,by simp only[Fq,h1,h2];rfl⟩
set_option maxHeartbeats 6400000 in
theorem zcu(E:Env Γ)(nn:Bool)(k:Kt)(mo:List UInt8)(hb:Av.I64 k.l.b)(he:∀ e∈k.l.l,Dh e):jB Tryz.prog Γ 7 [ktV nn k,.sl (mo.map by8) [] .no] m fun o m'=>o = .ret (bo true)∧m'=m:=by
 have hnk:=FU 0 nn k;have hnl:=kL (k:=0) nn k.l.l;refine kJ (kM mixed zkG zmA jY (by simp only[hnk,kV,nbS]) ?_);simp only[F7,ktV,ktC,ss0,aC,ag];simp only[jA,ssH,ag,ae,reduceIte,af,ak,ai,aj];refine jE (v:=bo (Fq mo k)) (by exact fun m=>zae nn k mo [] .nil .no nbX) (by simp only[hnl,kV,nbS]) (by simp only[bo,nbS]) ?_;cases hs:Fq mo k
 ·simp only[bo,aN,ssH,ag,ae,reduceIte,af,ak,ai,aj];refine jE (v:=bo true) (by exact fun m=>nZ E) nbY (by simp only[bo,nbS]) ?_;simp only[bo,ssH,ag,ae,reduceIte,af,ak,ai,aj];exact jy (v:=bo true) rfl ⟨by simp only[bo,nbS],rfl⟩
 simp only[bo,aO,jA,ssH,ag,ae,reduceIte,af,ak,ai,aj];simp only[Fq,aG,decide_eq_true_eq]at hs;refine jE (v:=it (if ktB k=true then 0 else 2)) (by exact fun m=>uI E nn k) (by simp only[hnl,nbS]) nbY ?_
 by_cases hk:ktB k=true
 case neg=>
  simp only[if_neg hk,show((2:Int) != 0)=true from rfl,ssH,ag,ae,reduceIte,af,ak,ai,aj];refine jE (v:=bo true) (by exact fun m=>nZ E) nbY (by simp only[bo,nbS]) ?_;simp only[bo,ssH,ag,ae,reduceIte,af,ak,ai,aj];exact jy (v:=bo true) rfl ⟨by simp only[bo,nbS],rfl⟩
 obtain⟨k1,k2⟩:=vF.1 hk;obtain⟨i1,i2⟩:=uq k1;have kb:=pR.1 k2;have k3:=k1;simp only[pW,aG,decide_eq_true_eq]at k3;have hS:=Si k2 hb he;have hpl:=Nz hS;have z1:=qZ i1;have z2:=qZ i2;have z3:=qZ (CB (n:=3) (by decide) (by decide));obtain⟨X,hX⟩:∃ X,X=kH [3,k.v,k.n]++vP k.l:=⟨_,rfl⟩;have hXl:X.length≤400000:=by rw[hX];simp only[kH,aJ,ay];omega
 obtain⟨W,hW⟩:∃ W,W=frB X:=⟨_,rfl⟩
 have hWl:W.length≤500000:=by
  have:=qZ (n:=(X.length:Int)) ⟨by omega,by omega⟩;rw[hW,pz];omega
 have hWn:W≠[]:=by
  intro h;have:W.length=0:=by rw[h];rfl
  rw[hW,pz]at this;omega
 have hle:Le k0 k:=⟨by show(0:Int)≤k.v;omega,by show(0:Int)≤k.n;omega,by show(0:Int)≤k.l.b;omega⟩;have hf0:qV k0 X=(k,true):=by rw[hX];exact F9 hk hS hle
 have hf1:qV k X=(k,true):=by rw[hX];exact F9 hk hS (.refl k)
 obtain⟨x,c,hR⟩:∃ x c,lq k mo=(x,c):=⟨_,_,rfl⟩;have hR1:lq k0 (W++mo)=(x,W.length+c):=by rw[hW,Ah (by omega) hf0,hR]
 have hR2:lq k0 (W++W)=(k,W.length+W.length):=by
  have:=Ah (by omega) hf1 [];rw[aP,Ai,dR]at this;rw[hW,Ah (by omega) hf0,this]
 have u2:=(Nv k mo hk).2.1.v;rw[hR]at u2;simp only at u2;have hNW:∀ j,nb j (slN W):=fun j=>lW;have hw2:IntKind.i64.wrap (2*(W.length:Int))=((W.length+W.length:Nat):Int):=by rw[wrap_i64 (by omega) (by omega)];omega
 simp only[if_pos hk,show((0:Int) != 0)=false from rfl,jA,ssH,ag,ae,reduceIte,af,ak,ai,aj];refine jE (v:=.tup [slN W,it 0]) (by intro m;have:=Qp (Γ:=Γ) (m:=m) E nn k hb he;rw[hk,rG,←hX,←hW]at this;exact this) (by simp only[hnl,nbS]) (by simp only[hNW,nbS]) ?_;simp only[show((0:Int) != 0)=false from rfl,wC,slN,jA,ssH,ag,ae,reduceIte,af,ak,ai,aj];refine OW W [] .non (by omega) (by simp) (fun h=>absurd h hWn) (fun _ => ?_);simp only[aA,aB,au,ay,ssH,ag,ae,reduceIte,af,ak,ai,aj];refine OX W mo [] .no 1 0 (by omega) hWn rfl (fun k2 => ?_);simp only[jT,jU,aA,aB,au,ay,ssH,ag,ae,reduceIte,af,ak,ai,aj];refine oO (v:=.tup [ktN x,it (W.length+c:Nat)]) (es:=(W++mo).map by8) (more:=[]) rfl (fun m tok'=>by have:=oM (Γ:=Γ) (m:=m) E (W++mo) [] tok' (by rw[aJ];omega);rw[hR1]at this;exact this) (jG _) .nil .nil (by simp only[kR,nbS]) ?_;simp only[ktN,ktV,ktC,wC,jA,jD,aA,aB,au,ay,ssH,ag,ae,reduceIte,af,ak,ai,aj];refine OW W [] .non (by omega) (by simp) (fun h=>absurd h hWn) (fun _ => ?_);simp only[aA,aB,au,ay,ssH,ag,ae,reduceIte,af,ak,ai,aj];refine OX W W [] .non 3 0 (by omega) hWn rfl (fun k3 => ?_);simp only[jT,jU,aA,aB,au,ay,ssH,ag,ae,reduceIte,af,ak,ai,aj];refine oO (v:=.tup [ktN k,it (W.length+W.length:Nat)]) (es:=(W++W).map by8) (more:=[]) rfl (fun m tok'=>by have:=oM (Γ:=Γ) (m:=m) E (W++W) [] tok' (by rw[aJ];omega);rw[hR2]at this;exact this) (jG _) .nil .nil (by simp only[kR,nbS]) ?_;simp only[ktN,ktV,ktC,kE,aH,ge_iff_le,show decide ((W.length:Int)≤((W.length+c:Nat):Int))=true from decide_eq_true (by omega),decide_eq_true u2,jA,jD,aA,aB,au,ay,ssH,ag,ae,reduceIte,af,ak,ai,aj]
 refine jE (v:=bo true) (by exact fun m=>vK (!k.l.l.isEmpty) nn k (by omega)) (by simp only[hnl,kL,nbS]) (by simp only[bo,nbS]) ?_;simp only[bo,kE,aH,hw2,beq_self_eq_true,ssH,ag,ae,reduceIte,af,ak,ai,aj];refine jE (v:=bo true) (by exact fun m=>nZ E) nbY (by simp only[bo,nbS]) ?_;simp only[bo,ssH,ag,ae,reduceIte,af,ak,ai,aj];exact jy (v:=bo true) rfl ⟨by simp only[bo,nbS],rfl⟩
end
structure JA where
 k:Int
 a:Int
 b:Int
 e:Ent
def jaV(a:JA):V:=.agg [it a.k,it a.a,it a.b,it a.e.c,it a.e.q,it a.e.k,it a.e.n,bs a.e.s,it a.e.ck,it a.e.cn,bs a.e.cs]
theorem zcc{k:Nat}(a:JA):nb k (jaV a):=by simp only[jaV,nbS]
theorem zhN{l:List JA}{more:List V}{tok:Tok}{i:Nat}{a:JA}(h:l[i]? = some a):oG 11 (.sl (l.map jaV) more tok) (it i)=some (.elt [it a.k,it a.a,it a.b,it a.e.c,it a.e.q,it a.e.k,it a.e.n,bs a.e.s,it a.e.ck,it a.e.cn,bs a.e.cs]):=mD (e:=jaV a) (by rw[bn,h];rfl) rfl
def Sz(nn:Bool)(l:List JA):V:=.sl (l.map jaV) [] (if nn then .non else .full)
theorem Ya{k:Nat}(nn:Bool)(l:List JA):nb k (Sz nn l):=by
 cases nn<;>simp only[Sz,aF,if_false,if_true,nbS]<;>exact tZ zcc l
theorem Ia{nn:Bool}{l:List JA}:lenV false (Sz nn l)=some (it l.length):=by
 cases nn<;>simp only[Sz,kE,aH]<;>rfl
def EX(n d:Int):Int:=IntKind.i64.wrap ((IntKind.u64.wrap n).tmod (IntKind.u64.wrap d))
theorem LJ(n:Int){d:Int}(h0:0<d)(hd:d<5000000000):0≤EX n d∧EX n d<d:=by
 obtain⟨D,rfl⟩:=dL (show 0≤d by omega);unfold EX;rw[IntKind.wrap_u64,IntKind.wrap_u64,show(D:Int)%18446744073709551616=(D:Int)by omega];have h1:0≤n%18446744073709551616:=by omega
 obtain⟨k,hk⟩:=dL h1;rw[hk];have h2:(k:Int).tmod (D:Int)=((k%D:Nat):Int):=rfl;have h3:=Nat.mod_lt k (show 0<D by omega);rw[h2,wrap_i64 (by omega) (by omega)];omega
def chg(k:Kt)(a:JA):Kt×List UInt8:=
 if a.k=1 then
  if pW (k.v+EX a.a 9) (k.n+EX a.b (k.v+EX a.a 9-k.n+1))=true then (⟨k.v+EX a.a 9,k.n+EX a.b (k.v+EX a.a 9-k.n+1),k.l⟩,rG [1,k.v+EX a.a 9,k.n+EX a.b (k.v+EX a.a 9-k.n+1)] [])else (k,[])
 else if a.k=2 then
  if ktB k=true then (k,rG [3,k.v,k.n] (vP k.l))else (k,[])
 else if (doL k.l (lF k.l a.e)).2.2=0∧Dt (lastOf (doL k.l (lF k.l a.e)).2.1) a.e=true then
  (⟨k.v,k.n,(doL k.l (lF k.l a.e)).2.1⟩,rG [2,lastOf (doL k.l (lF k.l a.e)).2.1] (rq a.e))
 else (k,[])
structure zaY (k:Kt):Prop where
 b:ktB k=true
 e:∀ e∈k.l.l,Dh e
theorem zka:zaY k0:=⟨rfl,fun e h=>by cases h⟩
theorem Ns{ns:List Int}{X:List UInt8}(h:ns.length≤10)(hn:∀ n∈ns,Av.I64 n):(kH ns++X).length≤100+X.length:=by
 have:=uD hn;rw[aJ];omega
theorem Vw{k:Kt}{a:JA}(hk:zaY k)(ha:Dh a.e):chg k a=(k,[])∨∃ x k',chg k a=(k',frB x)∧x.length≤400000∧qV k x=(k',true)∧zaY k':=by
 obtain⟨k1,k2⟩:=vF.1 hk.b;have k3:=k1;simp only[pW,aG,decide_eq_true_eq]at k3;obtain⟨i1,i2⟩:=uq k1;have hb:=pR.1 k2;unfold chg
 split
 ·obtain⟨m1,m2⟩:=LJ a.a (d:=9) (by decide) (by decide);generalize EX a.a 9=v at m1 m2;obtain⟨m3,m4⟩:=LJ a.b (d:=k.v+v-k.n+1) (by omega) (by omega);generalize EX a.b (k.v+v-k.n+1)=n at m3 m4
  split
  ·rename_i h;obtain⟨j1,j2⟩:=uq h;refine .inr ⟨kH [1,k.v+v,k.n+n]++[],_,rfl,?_,Ox h k2 (by omega) (by omega),vF.2 ⟨h,k2⟩,hk.e⟩;refine dG (Ns (by simp) ?_) (by simp);intro z hz;simp only[di,bW,or_false]at hz
   rcases hz with rfl|rfl|rfl<;>first|assumption|exact CB (by decide) (by decide)
  ·exact .inl rfl
 ·split
  ·rw[if_pos hk.b];have hS:=Si k2 ⟨by omega,by omega⟩ hk.e;have hl:=Nz hS;refine .inr ⟨kH [3,k.v,k.n]++vP k.l,k,rfl,?_,F9 hk.b hS (.refl k),hk⟩;refine dG (Ns (by simp) ?_) (by omega);intro z hz;simp only[di,bW,or_false]at hz
   rcases hz with rfl|rfl|rfl<;>first|assumption|exact CB (by decide) (by decide)
  ·rcases OY k2 a.e with ⟨q1,q2,q3,q4⟩|⟨n,q1,q2⟩
   ·rw[q1];have hla:=Yq k2 q2 q3 q4
    have h3:lastOf ⟨k.l.b,k.l.c,k.l.l++[a.e]⟩=lastOf k.l+1:=by
     rw[lastOf,if_pos hla,lastOf,if_pos k2];simp only[aJ,au,ay];omega
    simp only[h3]
    split
    ·obtain⟨e1,e2⟩:=IA q2;have hpe:=Hg ha (by omega) (by omega);refine .inr ⟨kH [2,lastOf k.l+1]++rq a.e,_,rfl,?_,WY k2 ha q2 q3 q4,vF.2 ⟨k1,hla⟩,?_⟩
     ·have hlo:lastOf k.l=k.l.b+k.l.l.length:=by rw[lastOf,if_pos k2]
      refine dG (Ns (by simp) ?_) (by omega);intro z hz;simp only[di,bW,or_false]at hz
      rcases hz with rfl|rfl
      ·exact CB (by decide) (by decide)
      ·exact⟨by omega,by omega⟩
     ·intro e he
      rcases List.mem_append.1 he with he|he
      ·exact hk.e e he
      ·rw[List.mem_singleton.1 he];exact ha
    ·exact .inl rfl
   ·rw[q2,if_neg (fun h=>q1 h.1)];exact .inl rfl
structure JInv (b:List UInt8) (k:Kt) (K:List Kt) (N:List Nat):Prop where
 len:K.length=N.length
 pos:0<N.length
 zero:N[0]? = some 0
 read:lq k0 b=(k,b.length)
 last:∀ i,i+1=N.length→N[i]? = some b.length
 up:∀ (i j:Nat) (x y:Nat),i≤j→N[i]? = some x→N[j]? = some y→x≤y
 cut:∀ (c i n:Nat) (x:Kt),c≤b.length→K[i]? = some x→N[i]? = some n→n≤c→(∀ z,N[i+1]? = some z→c<z)→lq k0 (b.take c)=(x,n)
theorem WH:JInv [] k0 [k0] [0]:=by
 refine⟨rfl,by simp,rfl,Ai k0,?_,?_,?_⟩
 ·intro i h;have:i=0:=by simp at h;omega
  subst this;rfl
 ·intro i j x y hij hx hy;have h1:=(List.getElem?_eq_some_iff.1 hx).1;have h2:=(List.getElem?_eq_some_iff.1 hy).1;simp at h1 h2;subst h1 h2;cases hx;cases hy;exact aY _
 ·intro c i n x hc hx hn h1 h2;have h1:=(List.getElem?_eq_some_iff.1 hx).1;simp at h1;subst h1;cases hx;cases hn;rw[List.take_nil,Ai]
theorem JInv.le{b:List UInt8}{k:Kt}{K:List Kt}{N:List Nat}(h:JInv b k K N){i n:Nat}(hn:N[i]? = some n):n≤b.length:=by
 have hi:=(List.getElem?_eq_some_iff.1 hn).1;exact h.up i (N.length-1) n b.length (by omega) hn (h.last _ (by omega))
theorem JInv.step{b:List UInt8}{k k':Kt}{K:List Kt}{N:List Nat}(h:JInv b k K N){x:List UInt8}(hx:x.length≤1048576)(hf:qV k x=(k',true)):JInv (b++frB x) k' (K++[k']) (N++[(b++frB x).length]):=by
 have hp:=h.pos
 have hr:lq k0 (b++frB x)=(k',(b++frB x).length):=by
  have:=Ah hx hf [];rw[aP,Ai,dR]at this;rw[PY h.read,this,aJ]
 have hbl:b.length≤(b++frB x).length:=by rw[aJ];omega
 refine⟨by simp[h.len],by simp,by rw[bz hp];exact h.zero,hr,?_,?_,?_⟩
 ·intro i hi;have:i=N.length:=by simp at hi;omega
  subst this;exact cu
 ·intro i j a c hij ha hc;have h1:=(List.getElem?_eq_some_iff.1 hc).1;rw[aJ,iY]at h1
  by_cases hj:j<N.length
  ·rw[bz hj]at hc;rw[bz (by omega)]at ha;exact h.up i j a c hij ha hc
  ·have:j=N.length:=by omega
   subst this;rw[cu]at hc;cases hc
   by_cases hi:i<N.length
   ·rw[bz hi]at ha;exact dG (h.le ha) hbl
   ·have:i=N.length:=by omega
    subst this;rw[cu]at ha;cases ha;exact aY _
 ·intro c i n y hc hy hn h1 h2;have hi:=(List.getElem?_eq_some_iff.1 hn).1;rw[aJ,iY]at hi
  by_cases hl:i<N.length
  ·rw[bz hl]at hn;rw[bz (by rw[h.len];exact hl)]at hy
   by_cases hcb:c≤b.length
   ·rw[eH hcb];refine h.cut c i n y hcb hy hn h1 fun z hz=>h2 z ?_;have:=(List.getElem?_eq_some_iff.1 hz).1;rw[bz this];exact hz
   ·by_cases hl2:i+1<N.length
    ·exfalso;have hz:N[i+1]? = some N[i+1]:=aI hl2;have:=h2 N[i+1] (by rw[bz hl2];exact hz);have:=h.le hz;omega
    ·have hie:i+1=N.length:=by omega
     have hnb:n=b.length:=by
      have:=h.last i hie;rw[hn]at this;exact fH this
     subst hnb;have hcl:c<(b++frB x).length:=h2 _ (by rw[hie];exact cu);rw[aJ]at hcl
     have hyk:y=k:=by
      have h3 := h.cut b.length i b.length y (aY _) hy hn (aY _) (fun z hz => by
       have:=(List.getElem?_eq_some_iff.1 hz).1
       omega)
      rw[bK,h.read]at h3;exact(dY h3).1.symm
     subst hyk;rw[List.take_append,bi (by omega),PY h.read,Zx hx (by omega)];rfl
  ·have:i=N.length:=by omega
   subst this;rw[cu]at hn;cases hn;rw[show N.length=K.length from h.len.symm,cu]at hy;cases hy;rw[bi (by omega)];exact hr
end Go.Av.Fn
namespace Go.Proofs.YtmglaebjmaomnaaGreatDoor
open Go.ChangeShapes Go.WideShapes Go.ChangeAt Go.RowKit Go.Av.Fn Go.ChangeMaps Go.Av
def Oa(a:Go.Av.Fn.JA):List Value:=.int .i64 a.k :: .int .i64 a.a :: .int .i64 a.b::Iz a.e
def zia(a:Go.Av.Fn.JA):Prop:=zgR a.e
instance:Inhabited Go.Av.Fn.JA:=⟨⟨0,0,0,default⟩⟩
theorem zba{H:Type}{enc:TypeId×Value→H}{W:World}{cs:List Value}{x:DataW H×List MemPlace}{fuel:Nat}(h:DataW.trod enc Tryz.prog W 0 (fun _=>true) true fuel 59 cs=some x) :
  ∃ a:Go.Av.Fn.JA,cs=Oa a∧zia a:=by
 obtain⟨xs,n,_,rfl,hl,hlen,hf⟩:=DataW.trod_struct Tryz.underlying59 h;have hcI:Tryz.prog.cellsOf 3=1:=by kernel_rfl
 have hcE:Tryz.prog.cellsOf 42=8:=by kernel_rfl
 have hcA:Tryz.prog.cellsOf 59=11:=by kernel_rfl
 rw[hcA]at hl
 match cs,hl with
 |[p,q,r,a,b,c,d,e,f,g,i],_=>
  match xs,hlen with
  |[y0,y1,y2,y3],_=>
   have h0:DataW.trod enc Tryz.prog W 0 (fun _=>true) true n 3 (([p,q,r,a,b,c,d,e,f,g,i].drop 0).take (Tryz.prog.cellsOf 3))=some y0:=hf 0 _ rfl;have h1:DataW.trod enc Tryz.prog W 0 (fun _=>true) true n 3 (([p,q,r,a,b,c,d,e,f,g,i].drop 1).take (Tryz.prog.cellsOf 3))=some y1:=hf 1 _ rfl;have h2:DataW.trod enc Tryz.prog W 0 (fun _=>true) true n 3 (([p,q,r,a,b,c,d,e,f,g,i].drop 2).take (Tryz.prog.cellsOf 3))=some y2:=hf 2 _ rfl;have h3:DataW.trod enc Tryz.prog W 0 (fun _=>true) true n 42 (([p,q,r,a,b,c,d,e,f,g,i].drop 3).take (Tryz.prog.cellsOf 42))=some y3:=hf 3 _ rfl;simp only[hcI,hcE,bM,dh,dE,dK]at h0 h1 h2 h3;obtain⟨k0,c0,e0,w0⟩:=DataW.trod_int Tryz.underlying3 h0;obtain⟨k1,c1,e1,w1⟩:=DataW.trod_int Tryz.underlying3 h1;obtain⟨k2,c2,e2,w2⟩:=DataW.trod_int Tryz.underlying3 h2;obtain⟨en,c3,hi⟩:=TK h3;simp only[aQ,and_true]at c0 c1 c2;subst c0 c1 c2;exact⟨⟨k0,k1,k2,en⟩,by rw[Oa,←c3],hi⟩
theorem zcC{G:Gh}(a:Go.Av.Fn.JA):kD G (jaV a).cells (Oa a):=.cons (.val rfl) (.cons (.val rfl) (.cons (.val rfl) (Vf a.e)))
theorem UO{G:Gh}:∀ l:List Go.Av.Fn.JA,kD G (flat (l.map jaV)) (l.flatMap Oa)
 |[]=>.nil
 |e::l=>by
  rw[fJ,lG,fG];exact(zcC e).append (UO l)
theorem Yv:∀ (l:List Go.Av.Fn.JA) (j:Nat) (u:Value),(l.flatMap Oa)[j]? = some u→∃ (i k:Nat) (e:Go.Av.Fn.JA),j=i*11+k∧k<11∧l[i]? = some e∧(Oa e)[k]? = some u
 |[],j,u,h=>by simp at h
 |e::l,j,u,h=>by
  rw[fG]at h
  by_cases hj:j<11
  ·rw[bz (by simpa [Oa,Iz] using hj)]at h;exact⟨0,j,e,by omega,hj,rfl,h⟩
  ·rw[iy (by simp[Oa,Iz];omega)]at h;obtain⟨i,k,e',h1,h2,h3,h4⟩:=Yv l _ u h;have h8:(Oa e).length=11:=rfl;rw[h8]at h1;exact⟨i+1,k,e',by omega,h2,by simpa using h3,h4⟩
theorem ZL{H:Type}{enc:TypeId×Value→H}{W:World}{cs:List Value}{x:DataW H×List MemPlace}{fuel:Nat}(hsp:∀ a len cap,cs=[.slice (some a) len cap]→a.spot=none)(h:DataW.trod enc Tryz.prog W 0 (fun _=>true) true fuel 53 cs=some x) :
  ∃ (nn:Bool) (l:List Go.Av.Fn.JA) (v:Value),cs=[v]∧ku (startA W) (Sz nn l) v∧l.length≤maxLen∧∀ e∈l,zia e:=by
 have hc8:Tryz.prog.cellsOf 59=11:=by kernel_rfl
 rcases Go.Deep.open_slice Tryz.underlying53 h with ⟨rfl,rfl⟩|⟨a,len,cap,m,n,D,Pl,rfl,_,h3,h4,h5,h6,h7⟩
 ·exact⟨false,[],_,rfl,.nil rfl,bU _,fun e he=>by cases he⟩
 ·have hs:=hsp a len cap rfl;simp only[if_true]at h5;subst h5
  obtain ⟨f,hf⟩ := Go.Deep.choose_lt (α := Go.Av.Fn.JA) (n := len) (p := fun i e => (∀ k,k < 11 → W.cell? (a.add (i * 11 + k)) = (Oa e)[k]?) ∧ zia e) (fun i hi => by
   obtain⟨cs',g1,g2⟩:=h7 i (by omega);rw[hc8]at g1;obtain⟨e,rfl,he⟩:=zba g2;obtain⟨_,_,g3⟩:=World.cells?_some g1;refine⟨e,fun k hk => ?_,he⟩;have:=g3 k hk;rw[add_plain hs,add_plain rfl]at this
   rw[add_plain hs,←this,iP])
  have hlen:((aK len).map f).length=len:=by simp
  refine⟨true,(aK len).map f,_,rfl,?_,by rw[hlen];omega,?_⟩
  ·have := ku.sl (G := startA W) (es := ((aK len).map f).map jaV) (more := []) (tok := .non) (us := ((aK len).map f).flatMap Oa) (a := a) (cap := m) (s := 11) (by
     intro e he;rw[aP]at he;obtain⟨b,_,rfl⟩:=List.mem_map.1 he
     rfl) (by rw [aP]; exact UO _) (JC hs (by
     intro j u hu;obtain⟨i,k,e,rfl,hk,hi,hu'⟩:=Yv _ _ _ hu;rw[bn]at hi;obtain⟨i',hi',rfl⟩:=Option.map_eq_some_iff.1 hi;obtain⟨hlt,e2⟩:=List.getElem?_eq_some_iff.1 hi';simp only[List.length_range]at hlt;simp only[List.getElem_range]at e2;subst e2;rw[(hf i hlt).1 k hk]
     exact hu')) (by simpa using h3) (by decide) trivial
   rw[aH,hlen]at this;exact this
  ·intro e he;obtain⟨i,hi,rfl⟩:=List.mem_map.1 he;exact(hf i (by simpa using hi)).2
theorem ZK{H:Type}{enc:TypeId×Value→H}{W:World}{base:Nat}{v:Value}{d:DataW H}{ps:List MemPlace}(hv:Value.okWide Tryz.prog W .any base 53 v)(h:DataW.Trod enc Tryz.prog W 0 (fun _=>true) true 53 v d ps) :
  ∃ (nn:Bool) (l:List Go.Av.Fn.JA),ku (startA W) (Sz nn l) v∧∀ a∈l,Dh a.e:=by
 obtain⟨fuel,hf⟩:=h
 have hvc:v.cells.toList=[v]:=by
  simp only[Value.okWide,Tryz.underlying53]at hv;rw[zG (Cf hv)]
 rw[hvc]at hf
 obtain ⟨nn,l,v',e,hr,hle,hi⟩ := ZL (by
  intro a len cap e;simp only[aQ,and_true]at e;subst e;simp only[Value.okWide,Tryz.underlying53,Cell.okWide,Cell.ok]at hv
  exact hv.2.2.2.1) hf
 simp only[aQ,and_true]at e;subst e;refine⟨nn,l,hr,fun a ha => ?_⟩;obtain⟨h1,h2,h3,h4,h5,h6,_⟩:=hi a ha;exact⟨h1,h2,h3,h4,h5,h6⟩
end Go.Proofs.YtmglaebjmaomnaaGreatDoor
namespace Go.Av.Fn
open Go.Proofs
def rcV(r:List UInt8):V:=if r=[]then .sl [] [] .full else slN r
theorem wS:rcV [] = .sl [] [] .full:=rfl
theorem zd8{ns:List Int}{X:List UInt8}:rG ns X≠[]:=by
 intro h;have:(rG ns X).length=0:=by rw[h];rfl
 rw[rG,pz]at this;omega
theorem Et{ns:List Int}{X:List UInt8}:rcV (rG ns X)=slN (rG ns X):=if_neg zd8
theorem zca{k:Nat}{r:List UInt8}:nb k (rcV r):=by
 unfold rcV
 split<;>simp only[lW,nbS]
section
variable {Γ:jI} {m:Store}
set_option maxHeartbeats 12800000 in
theorem WN(E:Env Γ)(k:Kt)(hk:zaY k)(a:JA)(ha:Dh a.e):jB Tryz.prog Γ 24 [ktN k,jaV a] m fun o m'=>o = .ret (.tup [ktN (chg k a).1,rcV (chg k a).2])∧m'=m:=by
 have hnl:=kL (k:=0) (!k.l.l.isEmpty) k.l.l;have hnk:=kR 0 k;obtain⟨k1,k2⟩:=vF.1 hk.b;have k3:=k1;simp only[pW,aG,decide_eq_true_eq]at k3;obtain⟨i1,i2⟩:=uq k1;have hb:=pR.1 k2;have ib:Av.I64 k.l.b:=⟨by omega,by omega⟩;refine kJ (kM mixed ziN zk6 jY (by simp only[hnk,zcc,nbS]) ?_);simp only[F24,ktN,ktV,ktC,jaV,ss0,aC,ag];simp only[jA,ssH,ag,ae,reduceIte,af,ak,ai,aj]
 by_cases c1:a.k=1
 case pos=>
  obtain⟨m1,m2⟩:=LJ a.a (d:=9) (by decide) (by decide);obtain⟨M,hM⟩:∃ M,M=EX a.a 9:=⟨_,rfl⟩;rw[←hM]at m1 m2;obtain⟨m3,m4⟩:=LJ a.b (d:=k.v+M-k.n+1) (by omega) (by omega);obtain⟨N,hN⟩:∃ N,N=EX a.b (k.v+M-k.n+1):=⟨_,rfl⟩;rw[←hN]at m3 m4;have e1:IntKind.i64.wrap ((IntKind.u64.wrap a.a).tmod 9)=M:=hM.symm;have e2:IntKind.i64.wrap (k.v+M)=k.v+M:=wrap_i64 (by omega) (by omega);have e3:IntKind.i64.wrap (k.v+M-k.n)=k.v+M-k.n:=wrap_i64 (by omega) (by omega);have e4:IntKind.i64.wrap (k.v+M-k.n+1)=k.v+M-k.n+1:=wrap_i64 (by omega) (by omega);have e5:IntKind.i64.wrap ((IntKind.u64.wrap a.b).tmod (IntKind.u64.wrap (k.v+M-k.n+1)))=N:=hN.symm;have e6:IntKind.i64.wrap (k.n+N)=k.n+N:=wrap_i64 (by omega) (by omega);have hz:IntKind.u64.wrap (k.v+M-k.n+1)≠0:=by rw[IntKind.wrap_u64];omega
  have hF:chg k a=if pW (k.v+M) (k.n+N)=true then (⟨k.v+M,k.n+N,k.l⟩,rG [1,k.v+M,k.n+N] [])else (k,[]):=by
   unfold chg;rw[if_pos c1,←hM,←hN]
  simp only[c1,beq_self_eq_true,nD,Aa,zZ,LV (show(9:Int)≠0 by decide),LV hz,e1,e2,e3,e4,e5,e6,jA,jD,aA,aB,au,ay,ssH,ag,ae,reduceIte,af,ak,ai,aj];refine jE (by exact fun m=>JB (k.v+M) (k.n+N)) nbY (by simp only[BG];split<;>simp only[lW,nbS]) ?_;cases hv:pW (k.v+M) (k.n+N)
  case false=>
   rw[if_neg (by rw[hv];decide)]at hF;simp only[BG,aF,if_false,show((2:Int) != 0)=true from rfl,jA,jD,aA,aB,au,ay,ssH,ag,ae,reduceIte,af,ak,ai,aj];rw[hF];simp only[wS,Et,ktN,ktV,ktC,JH,JG,jA,jD,aA,aB,au,ay,ssH,ag,ae,reduceIte,af,ak,ai,aj];exact jy (v:=.tup [ktN k,.sl [] [] .full]) rfl ⟨by simp only[kR,lW,nbS],rfl⟩
  rw[if_pos hv]at hF;simp only[BG,if_true,show((0:Int) != 0)=false from rfl,jA,jD,aA,aB,au,ay,ssH,ag,ae,reduceIte,af,ak,ai,aj];rw[hF];simp only[wS,Et,ktN,ktV,ktC,JH,JG,jA,jD,aA,aB,au,ay,ssH,ag,ae,reduceIte,af,ak,ai,aj];exact jy (v:=.tup [ktN ⟨k.v+M,k.n+N,k.l⟩,slN (rG [1,k.v+M,k.n+N] [])]) rfl ⟨by simp only[kR,lW,nbS],rfl⟩
 simp only[beq_eq_false_iff_ne.2 c1,jA,jD,aA,aB,au,ay,ssH,ag,ae,reduceIte,af,ak,ai,aj]
 by_cases c2:a.k=2
 case pos=>
  have hF:chg k a=(k,rG [3,k.v,k.n] (vP k.l)):=by
   unfold chg;rw[if_neg c1,if_pos c2,if_pos hk.b]
  simp only[c2,beq_self_eq_true,jA,jD,aA,aB,au,ay,ssH,ag,ae,reduceIte,af,ak,ai,aj];refine jE (v:=.tup [slN (rG [3,k.v,k.n] (vP k.l)),it 0]) (by intro m;have:=Qp (Γ:=Γ) (m:=m) E (!k.l.l.isEmpty) k ib hk.e;rw[hk.b]at this;exact this) (by simp only[hnl,nbS]) (by simp only[lW,nbS]) ?_;simp only[show((0:Int) != 0)=false from rfl,jA,jD,aA,aB,au,ay,ssH,ag,ae,reduceIte,af,ak,ai,aj];rw[hF];simp only[wS,Et,ktN,ktV,ktC,JH,JG,jA,jD,aA,aB,au,ay,ssH,ag,ae,reduceIte,af,ak,ai,aj];exact jy (v:=.tup [ktN k,slN (rG [3,k.v,k.n] (vP k.l))]) rfl ⟨by simp only[kR,lW,nbS],rfl⟩
 simp only[beq_eq_false_iff_ne.2 c2,jA,jD,aA,aB,au,ay,ssH,ag,ae,reduceIte,af,ak,ai,aj];obtain⟨fl,l',er,hr⟩:∃ x y z,doL k.l (lF k.l a.e)=(x,y,z):=⟨_,_,_,rfl⟩;have hnx:=kL (k:=0) (!l'.l.isEmpty) l'.l;have hap:=fun m=>Rz (Γ:=Γ) (m:=m) (!k.l.l.isEmpty) k.l a.e;simp only[hr]at hap
 have hF:chg k a=if er=0∧Dt (lastOf l') a.e=true then (⟨k.v,k.n,l'⟩,rG [2,lastOf l'] (rq a.e))else (k,[]):=by
  unfold chg;rw[if_neg c1,if_neg c2,hr]
 refine jE (by exact fun m=>hap m) (by simp only[hnl,nbS]) (by simp only[RP,nbS]) ?_
 by_cases c3:er=0
 case neg=>
  rw[if_neg (fun h=>c3 h.1)]at hF;simp only[lgN,lgV,bne_iff_ne.2 c3,jA,jD,aA,aB,au,ay,ssH,ag,ae,reduceIte,af,ak,ai,aj];rw[hF];simp only[wS,Et,ktN,ktV,ktC,JH,JG,jA,jD,aA,aB,au,ay,ssH,ag,ae,reduceIte,af,ak,ai,aj];exact jy (v:=.tup [ktN k,.sl [] [] .full]) rfl ⟨by simp only[kR,lW,nbS],rfl⟩
 simp only[lgN,lgV,c3,show((0:Int) != 0)=false from rfl,jA,jD,aA,aB,au,ay,ssH,ag,ae,reduceIte,af,ak,ai,aj];refine jE (v:=it (lastOf l')) (by exact fun m=>FD (!l'.l.isEmpty) l') (by simp only[hnx,nbS]) nbY ?_;simp only[jA,jD,aA,aB,au,ay,ssH,ag,ae,reduceIte,af,ak,ai,aj];refine jE (by exact fun m=>Qq E (lastOf l') a.e ha) (by simp only[nX,nbS]) (by simp only[BG];split<;>simp only[lW,nbS]) ?_;cases hv:Dt (lastOf l') a.e
 case false=>
  rw[if_neg (fun h=>by rw[hv]at h;exact absurd h.2 (by decide))]at hF;simp only[BG,aF,if_false,show((2:Int) != 0)=true from rfl,jA,jD,aA,aB,au,ay,ssH,ag,ae,reduceIte,af,ak,ai,aj];rw[hF];simp only[wS,Et,ktN,ktV,ktC,JH,JG,jA,jD,aA,aB,au,ay,ssH,ag,ae,reduceIte,af,ak,ai,aj];exact jy (v:=.tup [ktN k,.sl [] [] .full]) rfl ⟨by simp only[kR,lW,nbS],rfl⟩
 rw[if_pos ⟨c3,hv⟩]at hF;simp only[BG,if_true,show((0:Int) != 0)=false from rfl,jA,jD,aA,aB,au,ay,ssH,ag,ae,reduceIte,af,ak,ai,aj];rw[hF];simp only[wS,Et,ktN,ktV,ktC,JH,JG,jA,jD,aA,aB,au,ay,ssH,ag,ae,reduceIte,af,ak,ai,aj];exact jy (v:=.tup [ktN ⟨k.v,k.n,l'⟩,slN (rG [2,lastOf l'] (rq a.e))]) rfl ⟨by simp only[kR,lW,nbS],rfl⟩
end
def zK:List V:=[.val (.int .i64 0),.val (.int .i64 0),.val (.int .i64 0),.val (.string (ByteArray.mk #[])),.sl [] [] .full]
def zj3(v:V):Option V:=(pq 5 [.agg zK] [(0,v)]).map fun es=>.sl es [] .full
theorem NW{a b c d e:V}:zj3 (.agg [a,b,c,d,e])=some (.sl [.agg [a,b,c,d,e]] [] .full):=rfl
def itn(n:Nat):V:=it n
theorem HY(l:List Kt):nbs 0 (l.map ktN):=tZ (fun k=>kR 0 k) l
theorem H5(l:List Nat):nbs 0 (l.map itn):=tZ (fun n=>by simp only[itn,nbS]) l
theorem TN(l:List Kt):ng 5 (l.map ktN)=true:=by
 simp only[ng,List.all_map,gX];intro x _;rfl
theorem TP(l:List Nat):ng 1 (l.map itn)=true:=by
 simp only[ng,List.all_map,gX];intro x _;rfl
theorem QI(k:Kt):rE 5 [ktN k]=true:=by
 simp only[rE,List.all_cons,List.all_nil,ktN,ktV,ktC,V.cells,jD];rfl
theorem zcJ{l:List Kt}{more:List V}{tok:Tok}{i:Nat}{k:Kt}(h:l[i]? = some k):oG 5 (.sl (l.map ktN) more tok) (it i)=some (.elt [it k.v,it k.n,it k.l.b,bs k.l.c,lJ (!k.l.l.isEmpty) k.l.l]):=mD (e:=ktN k) (by rw[bn,h];rfl) rfl
theorem SA{l:List Nat}{more:List V}{tok:Tok}{i:Nat}{k:Nat}(h:l[i]? = some k):oG 1 (.sl (l.map itn) more tok) (it i)=some (.elt [it k]):=mD (e:=itn k) (by rw[bn,h];rfl) rfl
theorem zhk{b:List UInt8}{tok:Tok}{c:Nat}(h:c≤b.length):∃ (m':List UInt8) (tok':Tok),pO 1 (.sl (b.map by8) [] tok) (some none) (some (some (c:Int))) (some none)=some (.sl ((b.take c).map by8) (m'.map by8) tok'):=by
 have hz:ng 1 (b.map by8++[])=true:=by rw[aP];exact lM _
 simp only[pO,hz,if_true,cutV,bQ,bT,aH,Int.toNat_zero,bM,bJ];rw[if_pos ⟨by omega,by omega,by omega⟩]
 by_cases he:c=b.length
 ·rw[if_pos he,he,bK];exact⟨[],_,rfl⟩
 ·rw[if_neg he,if_pos (by omega)];refine⟨b.drop c,.no,?_⟩;rw[aP,←iO,←gB]
theorem zdx{S:List Nat}{L:Nat}{J:List V→Hl→Prop}{t:List V}{h:Hl}{X0:Blk}{e1 e2 e3:TypeId}(j1 j2 j3:Nat){k1 k2 k3:Nat}{es1 es2 es3 more:List V}(h1:t.length=L)(h0:lk h 0=some X0)(hX:nbB 0 X0)
  (g1:lk h j1=some (.tip e1 k1)) (g2:lk h j2=some (.tip e2 k2)) (g3:lk h j3=some (.tip e3 k3)) (d:1≤j1∧1≤j2∧1≤j3∧j1≠j2∧j1≠j3∧j2≠j3)
  (hS:S.map (jS t) = .sl es1 [] (.tip j1 k1) :: .sl es2 [] (.tip j2 k2) :: .sl es3 [] (.tip j3 k3)::more) (n1:nbs 0 es1) (n2:nbs 0 es2) (n3:nbs 0 es3) (nm:nbs 1 more)
  (hJ:J (.sl es1 [] (.tip 1 k1) :: .sl es2 [] (.tip 2 k2) :: .sl es3 [] (.tip 3 k3)::more) [some X0,some (.tip e1 k1),some (.tip e2 k2),some (.tip e3 k3)]):Back S [0,j1,j2,j3] 0 L J ⟨t,h⟩:=by
 have hm':(NB 1).le (Nm [0,j1,j2,j3]):=fun a b ⟨e,l⟩=>by
  subst e;have:a=0:=by omega
  subst this;rfl
 refine⟨h1,fun a ha=>absurd ha (dS _),?_,by simp,_,[some X0,some (.tip e1 k1),some (.tip e2 k2),some (.tip e3 k3)],?_,by simp,?_,hJ⟩
 ·simp only[List.nodup_cons,di,bW,or_false,not_or,List.nodup_nil,and_true,not_false_eq_true];omega
 ·rw[hS];exact .cons (VR.sl (k:=.tip 1 k1) (k':=.tip j1 k1) (n1.up _) .nil ⟨rfl,rfl⟩) (.cons (VR.sl (k:=.tip 2 k2) (k':=.tip j2 k2) (n2.up _) .nil ⟨rfl,rfl⟩) (.cons (VR.sl (k:=.tip 3 k3) (k':=.tip j3 k3) (n3.up _) .nil ⟨rfl,rfl⟩) (LR.mono hm' nm)))
 ·intro a b hab;have hl:=(List.getElem?_eq_some_iff.1 hab).1;simp only[au,ay]at hl;rcases(by omega:a=0∨a=1∨a=2∨a=3)with rfl|rfl|rfl|rfl
  ·cases hab;rw[h0];exact hX.up _
  ·cases hab;rw[g1];exact⟨rfl,rfl⟩
  ·cases hab;rw[g2];exact⟨rfl,rfl⟩
  ·cases hab;rw[g3];exact⟨rfl,rfl⟩
def N8(k:Kt):Blk:=DX (!k.l.l.isEmpty) k
theorem sG{j:Nat}(k:Kt):nbB j (N8 k):=zH j _ k
def MoV(an:Bool)(l:List JA)(n0:Int)(i:Nat):List V:=[Sz an l,it n0,.ptr 0 0,it i]
theorem UE{an:Bool}{l:List JA}{n0:Int}{i:Nat}:nbs 1 (MoV an l n0 i):=by
 have:=Ya (k:=1) an l;simp only[MoV,this,nbS]
 try decide
structure JSt (l:List JA) (n i:Nat) (b:List UInt8) (k:Kt) (K:List Kt) (N:List Nat):Prop where
 le:i≤l.length
 cnt:n+i=l.length+1
 inv:JInv b k K N
 ok:zaY k
 len:b.length≤i*500000
 num:N.length≤i+1
def JI(an:Bool)(l:List JA)(n0:Int)(n:Nat)(vs:List V)(h:Hl):Prop:=
 ∃ (i:Nat) (b:List UInt8) (k:Kt) (K:List Kt) (N:List Nat),JSt l n i b k K N ∧
  ((b = [] ∧ vs = .sl (b.map by8) [] .full :: .sl (K.map ktN) [] .full :: .sl (N.map itn) [] .full :: MoV an l n0 i ∧ h = [some (N8 k)]) ∨
  (b≠[]∧∃ k1 k2 k3,vs = .sl (b.map by8) [] (.tip 1 k1) :: .sl (K.map ktN) [] (.tip 2 k2) :: .sl (N.map itn) [] (.tip 3 k3)::MoV an l n0 i∧h=[some (N8 k),some (.tip 5 k1),some (.tip 28 k2),some (.tip 3 k3)]))
theorem JSt.step{l:List JA}{n i:Nat}{b:List UInt8}{k k':Kt}{K:List Kt}{N:List Nat}(h:JSt l n i b k K N)(hi:i<l.length){x:List UInt8}(hx:x.length≤400000)(hf:qV k x=(k',true))(hk:zaY k'):JSt l (n-1) (i+1) (b++frB x) k' (K++[k']) (N++[(b++frB x).length]):=by
 have h1:=h.cnt;have h2:=h.len;have h3:=h.num;have hz:=qZ (n:=(x.length:Int)) ⟨by omega,by omega⟩;refine⟨by omega,by omega,h.inv.step (by omega) hf,hk,?_,by simp;omega⟩;rw[aJ,pz];omega
theorem JSt.skip{l:List JA}{n i:Nat}{b:List UInt8}{k:Kt}{K:List Kt}{N:List Nat}(h:JSt l n i b k K N)(hi:i<l.length):JSt l (n-1) (i+1) b k K N:=by
 have h1:=h.cnt;have h2:=h.len;have h3:=h.num;exact⟨by omega,by omega,h.inv,h.ok,dG h2 (eX _ (Nat.le_succ i)),by omega⟩
section
variable {Γ:jI} {m:Store}
theorem Sl{t:List V}{b:Nat}{m:Store}:jJ Tryz.prog (ev Γ t) m (.lits 5 [.val (.int .i64 0),.val (.int .i64 0),.val (.int .i64 0),.val (.string (ByteArray.mk #[])),.sl [] [] .full] 1 [(0,.tmp b)])=zj3 (jS t b):=by
 rw[←rD (Γ:=Γ)];rfl
theorem zez{t:List V}{m:Store}:jJ Tryz.prog (ev Γ t) m (.lits 1 [.val (.int .i64 0)] 1 [(0,.const (.int .i64 0))])=some (.sl [it 0] [] .full):=rfl
set_option maxHeartbeats 12800000 in
theorem zcv(E:Env Γ)(an:Bool)(l:List JA)(hl:∀ a∈l,Dh a.e)(n0:Int):jB Tryz.prog Γ 6 [Sz an l,it n0] m fun o m'=>o = .ret (bo true)∧m'=m:=by
 have hnl:=fun k=>Ya (k:=k) an l;refine kJ (kM mixed zkH zmB jY (by simp only[hnl,nbS]) ?_);simp only[F6,ss0,aC,ag];simp only[Ia,gt_iff_lt,ssH,ag,ae,reduceIte,af,ak,ai,aj]
 by_cases h1:(50:Int)<(l.length:Int)
 ·simp only[decide_eq_true h1,ssH,ag,ae,reduceIte,af,ak,ai,aj];refine jE (v:=bo true) (by exact fun m=>nZ E) nbY (by simp only[bo,nbS]) ?_;simp only[ssH,ag,ae,reduceIte,af,ak,ai,aj];exact jy (v:=bo true) rfl ⟨by simp only[bo,nbS],rfl⟩
 simp only[decide_eq_false h1,Sl,NW,zez,wI,wE,jA,aA,aB,au,ay,ssH,ag,ae,reduceIte,af,ak,ai,aj];refine nC [6,7,8,0,1,5,9] 119 (JI an l n0) (l.length+1) (by decide) (by decide) (aK 1) ?_ ?_
 ·refine jZ rfl (by decide) (by decide) (by simp) ?_ ?_ ⟨0,[],k0,[k0],[0],⟨by omega,by omega,WH,zka,by simp,by simp⟩,.inl ⟨rfl,rfl,rfl⟩⟩
  ·show nbs 1 (.sl [] [] .full :: .sl [ktN k0] [] .full :: .sl [it (0:Nat)] [] .full::MoV an l n0 0);simp only[kR,UE,nbS]
  ·intro a ha x hx;have:a=0:=by omega
   subst this;cases hx;exact sG k0
 rintro n t h J hJ hlt ⟨i,b,k,K,N,hst,hh⟩;have hkn:=kL (k:=0) (!k.l.l.isEmpty) k.l.l
 by_cases hil:i<l.length
 case pos=>
  have hx2:l[i]? = some l[i]:=aI hil;have hae:Dh l[i].e:=hl _ (dX _);generalize l[i]=a at hx2 hae;have hix:oG 11 (Sz an l) (it i)=some (.elt [it a.k,it a.a,it a.b,it a.e.c,it a.e.q,it a.e.k,it a.e.n,bs a.e.s,it a.e.ck,it a.e.cn,bs a.e.cs]):=zhN hx2;have hjc:=fun m=>WN (Γ:=Γ) (m:=m) E k hst.ok a hae;have hlt2:decide ((i:Int)<(l.length:Int))=true:=decide_eq_true (by omega);have hnx:=jQ (show i<4611686018427387904 by have:=hst.cnt;omega)
  rcases hh with ⟨rfl,hv,rfl⟩|⟨hbn,k1,k2,k3,hv,rfl⟩
  ·simp only[aZ,MoV,aQ,and_true]at hv;obtain⟨g6,g7,g8,g0,g1,g5,g9⟩:=hv;rw[mO hlt];simp only[jW,upTo,g6,g7,g8,g0,g1,g5,g9,Ia,hlt2,N8,DX,ktC,hix,jA,jD,jT,jU,aA,aB,au,ay,ssH,ag,ae,reduceIte,af,ak,ai,aj]
   rcases Vw hst.ok hae with hc|⟨x,k',hc,hx,hf,hk'⟩
   ·rw[hc]at hjc;refine jE (by exact hjc) (by simp only[hkn,nbS]) (by simp only[kR,wS,nbS]) ?_;simp only[wS,ktN,ktV,ktC,kE,ay,hnx,show(((0:Nat):Int)==0)=true from rfl,jA,jD,jT,jU,aA,aB,au,ay,ssH,ag,ae,reduceIte,af,ak,ai,aj];refine⟨_,hJ (n-1) (aK 1) _ (by have:=hst.cnt;omega) (jZ rfl (by decide) (by decide) (by simp) ?_ ?_ ⟨i+1,[],k,K,N,hst.skip hil,.inl ⟨rfl,rfl,rfl⟩⟩)⟩
    ·show nbs 1 (.sl [] [] .full :: .sl (K.map ktN) [] .full :: .sl (N.map itn) [] .full::MoV an l n0 (i+1));have q1:nbs 1 (K.map ktN):=(HY K).up _;have q2:nbs 1 (N.map itn):=(H5 N).up _;simp only[q1,q2,UE,nbS]
    ·intro a ha z hz;have:a=0:=by omega
     subst this;cases hz;exact sG k
   ·rw[hc]at hjc;obtain⟨r,hr⟩:∃ r,r=frB x:=⟨_,rfl⟩;have hst2:=hst.step hil hx hf hk';rw[←hr]at hst2 hjc
    have hrn:r≠[]:=by
     intro h;have:r.length=0:=by rw[h];rfl
     rw[hr,pz]at this;omega
    have hrl:r.length≤500000:=by
     have hz:=qZ (n:=(x.length:Int)) ⟨by omega,by omega⟩;rw[hr,pz];omega
    have hrv:rcV r = .sl (r.map by8) [] .non:=if_neg hrn;have hr0:((r.length:Int)==0)=false:=beq_eq_false_iff_ne.2 (by have:=List.length_pos_iff.2 hrn;omega);have hKl:=hst.inv.len;have hNl:=hst.num
    have hKn:K≠[]:=by
     intro h;have:=hst.inv.pos;rw[h]at hKl;simp at hKl;omega
    have hNn:N≠[]:=by
     intro h;have:=hst.inv.pos;rw[h]at this;simp at this
    have hkn2:=kL (k:=0) (!k'.l.l.isEmpty) k'.l.l;refine jE (by exact hjc) (by simp only[hkn,nbS]) (by simp only[kR,zca,nbS]) ?_;simp only[hrv,ktN,ktV,ktC,kE,aH,hr0,jA,jD,jT,jU,aA,aB,au,ay,ssH,ag,ae,reduceIte,af,ak,ai,aj];refine sJ (ys:=r.map by8) rfl (by simpa using hrn) (by simp) rfl (ul r) (by simp only[aH,ay];omega) ?_;simp only[eG,ktN,ktV,ktC,Sl,NW,jA,jD,jT,jU,aA,aB,au,ay,ssH,ag,ae,reduceIte,af,ak,ai,aj];refine sJ (ys:=[ktN k']) rfl (by simp) (by simp) (TN K) (QI k') (by simp only[aH,au,ay];have:=hst.le;omega) ?_;simp only[kE,aH,wI,wE,jA,jD,jT,jU,aA,aB,au,ay,ssH,ag,ae,reduceIte,af,ak,ai,aj];refine sJ (ys:=[itn r.length]) rfl (by simp) (by simp) (TP N) rfl (by simp only[aH,au,ay];have:=hst.le;omega) ?_;simp only[hnx,jA,jD,jT,jU,aA,aB,au,ay,ssH,ag,ae,reduceIte,af,ak,ai,aj];refine⟨_,hJ (n-1) [0,2,3,4] _ (by have:=hst.cnt;omega) (zdx (es1:=r.map by8) (es2:=(K++[k']).map ktN) (es3:=(N++[r.length]).map itn) 2 3 4 rfl rfl (sG k') rfl rfl rfl (by decide) ?_ (jG _) (HY _) (H5 _) UE ⟨i+1,r,k',K++[k'],N++[r.length],hst2,.inr ⟨hrn,_,_,_,rfl,rfl⟩⟩)⟩;rw[bu,bu];rfl
  ·simp only[aZ,MoV,aQ,and_true]at hv;obtain⟨g6,g7,g8,g0,g1,g5,g9⟩:=hv;rw[mO hlt];simp only[jW,upTo,g6,g7,g8,g0,g1,g5,g9,Ia,hlt2,N8,DX,ktC,hix,jA,jD,jT,jU,aA,aB,au,ay,ssH,ag,ae,reduceIte,af,ak,ai,aj]
   rcases Vw hst.ok hae with hc|⟨x,k',hc,hx,hf,hk'⟩
   ·rw[hc]at hjc;refine jE (by exact hjc) (by simp only[hkn,nbS]) (by simp only[kR,wS,nbS]) ?_;simp only[wS,ktN,ktV,ktC,kE,ay,hnx,show(((0:Nat):Int)==0)=true from rfl,jA,jD,jT,jU,aA,aB,au,ay,ssH,ag,ae,reduceIte,af,ak,ai,aj];exact⟨_,hJ (n-1) [0,1,2,3] _ (by have:=hst.cnt;omega) (zdx 1 2 3 rfl rfl (sG k) rfl rfl rfl (by decide) rfl (jG _) (HY K) (H5 N) UE ⟨i+1,b,k,K,N,hst.skip hil,.inr ⟨hbn,_,_,_,rfl,rfl⟩⟩)⟩
   ·rw[hc]at hjc;obtain⟨r,hr⟩:∃ r,r=frB x:=⟨_,rfl⟩;have hst2:=hst.step hil hx hf hk';rw[←hr]at hst2 hjc
    have hrn:r≠[]:=by
     intro h;have:r.length=0:=by rw[h];rfl
     rw[hr,pz]at this;omega
    have hrl:r.length≤500000:=by
     have hz:=qZ (n:=(x.length:Int)) ⟨by omega,by omega⟩;rw[hr,pz];omega
    have hrv:rcV r = .sl (r.map by8) [] .non:=if_neg hrn;have hr0:((r.length:Int)==0)=false:=beq_eq_false_iff_ne.2 (by have:=List.length_pos_iff.2 hrn;omega);have hbl:b.length≤25000000:=dG hst.len (dG (eX 500000 (show i≤50 by have:=hst.le;omega)) (by decide));have hNl:=hst.num;have hKl:=hst.inv.len
    have hKn:K≠[]:=by
     intro h;have:=hst.inv.pos;rw[h]at hKl;simp at hKl;omega
    have hNn:N≠[]:=by
     intro h;have:=hst.inv.pos;rw[h]at this;simp at this
    have hkn2:=kL (k:=0) (!k'.l.l.isEmpty) k'.l.l;refine jE (by exact hjc) (by simp only[hkn,nbS]) (by simp only[kR,zca,nbS]) ?_;simp only[hrv,ktN,ktV,ktC,kE,aH,hr0,jA,jD,jT,jU,aA,aB,au,ay,ssH,ag,ae,reduceIte,af,ak,ai,aj];refine OX b r [] .non 1 k1 (by omega) hbn rfl (fun j1 => ?_);simp only[ktN,ktV,ktC,Sl,NW,jA,jD,jT,jU,aA,aB,au,ay,ssH,ag,ae,reduceIte,af,ak,ai,aj];refine JE (ys:=[ktN k']) rfl (by simpa using hKn) (j:=2) (k:=k2) rfl (TN K) (QI k') (by simp only[aH,au,ay];have:=hst.le;omega) (fun j2 _ => ?_);simp only[kE,aH,wI,wE,jA,jD,jT,jU,aA,aB,au,ay,ssH,ag,ae,reduceIte,af,ak,ai,aj];refine JE (ys:=[itn (b++r).length]) rfl (by simpa using hNn) (j:=3) (k:=k3) rfl (TP N) rfl (by simp only[aH,au,ay];have:=hst.le;omega) (fun j3 _ => ?_);simp only[hnx,jA,jD,jT,jU,aA,aB,au,ay,ssH,ag,ae,reduceIte,af,ak,ai,aj];refine⟨_,hJ (n-1) [0,1,2,3] _ (by have:=hst.cnt;omega) (zdx (es1:=(b++r).map by8) (es2:=(K++[k']).map ktN) (es3:=(N++[(b++r).length]).map itn) 1 2 3 rfl rfl (sG k') rfl rfl rfl (by decide) ?_ (jG _) (HY _) (H5 _) UE ⟨i+1,b++r,k',K++[k'],N++[(b++r).length],hst2,.inr ⟨by simp[hbn],_,_,_,rfl,rfl⟩⟩)⟩;rw[bu (f:=ktN),bu (f:=itn)];rfl
 have hil2:decide ((i:Int)<(l.length:Int))=false:=decide_eq_false (by omega);have hI:=hst.inv;have hbl:b.length≤25000000:=dG hst.len (dG (eX 500000 (show i≤50 by have:=hst.le;omega)) (by decide));have hkl:k.l.l.length≤64:=(pR.1 (vF.1 hst.ok.b).2).2.2.2.2.1;obtain⟨c,hc1,hc2⟩:=zkq n0 (b.length+1) (by omega) (by omega);have hw1:IntKind.i64.wrap ((b.length:Int)+1)=((b.length+1:Nat):Int):=jQ (show b.length<4611686018427387904 by omega);have hz:IntKind.u64.wrap ((b.length+1:Nat):Int)≠0:=by rw[IntKind.wrap_u64];omega
 have hKl:=hI.len;have hNl:=hst.num;have hNb:N.length≤100:=by have:=hst.le;omega
 have hnk1:∀ j,nbs j (K.map ktN):=fun j=>(HY K).up _;have hnn1:∀ j,nbs j (N.map itn):=fun j=>(H5 N).up _;have hnb1:∀ j,nbs j (b.map by8):=fun j=>by simp only[kV]
 rcases hh with ⟨hbn,hv,rfl⟩|⟨hbn,k1,k2,k3,hv,rfl⟩
 ·obtain⟨m2,tok2,hcut⟩:=zhk (b:=b) (tok:=.full) (c:=c) (by omega);simp only[aZ,MoV,aQ,and_true]at hv;obtain⟨g6,g7,g8,g0,g1,g5,g9⟩:=hv;rw[mO hlt];simp only[jW,upTo,g6,g7,g8,g0,g1,g5,g9,Ia,hil2,N8,DX,ktC,jA,jD,jT,jU,aA,aB,au,ay,ssH,ag,ae,reduceIte,af,ak,ai,aj];refine oO (v:=.tup [ktN k,it b.length]) (es:=b.map by8) (more:=[]) rfl (fun m tok'=>by have:=oM (Γ:=Γ) (m:=m) E b [] tok' (by omega);rw[hI.read]at this;exact this) (jG _) .nil .nil (by simp only[kR,nbS]) ?_;simp only[ktN,ktV,ktC,jA,jD,jT,jU,aA,aB,au,ay,ssH,ag,ae,reduceIte,af,ak,ai,aj];refine jE (v:=bo true) (by exact fun m=>vK (!k.l.l.isEmpty) (!k.l.l.isEmpty) k (by omega)) (by simp only[hkn,nbS]) (by simp only[bo,nbS]) ?_;simp only[bo,aO,kE,aH,bne_self_eq_false,hw1,nD,Aa,zZ,LV hz,hc2,jA,jD,jT,jU,aA,aB,au,ay,ssH,ag,ae,reduceIte,af,ak,ai,aj];refine nC [6,7,8,14,15] 119 (fun n vs h=>∃ (q:Nat),vs=[.sl (b.map by8) [] .full,.sl (K.map ktN) [] .full,.sl (N.map itn) [] .full,it c,it q]∧h=[some (N8 k),some (N8 k)]∧n+q=N.length∧∃ z,N[q]? = some z∧z≤c) N.length (by decide) (by decide) (aK 2) ?_ ?_
  ·refine jZ rfl (by decide) (by decide) (by simp) ?_ ?_ ⟨0,rfl,rfl,by omega,0,hI.zero,bU _⟩
   ·show nbs 2 [.sl (b.map by8) [] .full,.sl (K.map ktN) [] .full,.sl (N.map itn) [] .full,it c,it (0:Nat)];simp only[hnk1,hnn1,hnb1,nbS]
    try decide
   ·intro a ha y hy;rcases(by omega:a=0∨a=1)with rfl|rfl
    ·cases hy;exact sG k
    ·cases hy;exact sG k
  rintro n2 t2 h2 J2 hJ2 hlt3 ⟨q,hv2,rfl,hq,z,hz1,hz2⟩;simp only[aZ,aQ,and_true]at hv2;obtain⟨f6,f7,f8,f14,f15⟩:=hv2;have hqN:=(List.getElem?_eq_some_iff.1 hz1).1;have hKq:K[q]? = some K[q]:=aI (by omega);generalize K[q]=Kq at hKq;have hkq:=kL (k:=0) (!Kq.l.l.isEmpty) Kq.l.l;have hid:oG 1 (.sl (N.map itn) [] .full) (it q)=some (.elt [it z]):=SA hz1;have hik:oG 5 (.sl (K.map ktN) [] .full) (it q)=some (.elt [it Kq.v,it Kq.n,it Kq.l.b,bs Kq.l.c,lJ (!Kq.l.l.isEmpty) Kq.l.l]):=zcJ hKq;have hqx:=jQ (show q<4611686018427387904 by omega);rw[mO hlt3];simp only[jW,upTo,f6,f7,f8,f14,f15,kE,aH,hqx,jA,jD,jT,jU,aA,aB,au,ay,ssH,ag,ae,reduceIte,af,ak,ai,aj]
  by_cases hq1:q+1<N.length
  ·have hy:N[q+1]? = some N[q+1]:=aI hq1;generalize N[q+1]=y at hy;have hid2:oG 1 (.sl (N.map itn) [] .full) (it (q+1:Nat))=some (.elt [it y]):=SA hy;simp only[show decide (((q+1:Nat):Int)<(N.length:Int))=true from decide_eq_true (by omega),hid2,hqx,jA,jD,jT,jU,aA,aB,au,ay,ssH,ag,ae,reduceIte,af,ak,ai,aj]
   by_cases hyc:y≤c
   ·simp only[show decide ((y:Int)≤(c:Int))=true from decide_eq_true (by omega),hqx,jA,jD,jT,jU,aA,aB,au,ay,ssH,ag,ae,reduceIte,af,ak,ai,aj];refine⟨_,hJ2 (n2-1) (aK 2) _ (by omega) (jZ rfl (by decide) (by decide) (by simp) ?_ ?_ ⟨q+1,rfl,rfl,by omega,y,hy,hyc⟩)⟩
    ·show nbs 2 [.sl (b.map by8) [] .full,.sl (K.map ktN) [] .full,.sl (N.map itn) [] .full,it c,it (q+1:Nat)];simp only[hnk1,hnn1,hnb1,nbS]
     try decide
    ·intro a ha y hy;rcases(by omega:a=0∨a=1)with rfl|rfl
     ·cases hy;exact sG k
     ·cases hy;exact sG k
   ·simp only[show decide ((y:Int)≤(c:Int))=false from decide_eq_false (by omega),jA,jD,jT,jU,aA,aB,au,ay,ssH,ag,ae,reduceIte,af,ak,ai,aj];have hcf:lq k0 (b.take c)=(Kq,z):=hI.cut c q z Kq (by omega) hKq hz1 hz2 (fun z2 h2=>by rw[hy]at h2;cases h2;omega);have hKl2:=(Aj hcf).2.1;simp only[lw,lH,hcut,jA,jD,jT,jU,aA,aB,au,ay,ssH,ag,ae,reduceIte,af,ak,ai,aj];refine oO (v:=.tup [ktN Kq,it z]) (es:=(b.take c).map by8) (more:=m2.map by8) rfl (fun m tok'=>by have:=oM (Γ:=Γ) (m:=m) E (b.take c) m2 tok' (by rw[aW];omega);rw[hcf]at this;exact this) (jG _) (jG _) .nil (by simp only[kR,nbS]) ?_;simp only[ktN,ktV,ktC,hik,jA,jD,jT,jU,aA,aB,au,ay,ssH,ag,ae,reduceIte,af,ak,ai,aj];refine jE (v:=bo true) (by exact fun m=>vK (!Kq.l.l.isEmpty) (!Kq.l.l.isEmpty) Kq (by omega)) (by simp only[hkq,nbS]) (by simp only[bo,nbS]) ?_;simp only[bo,hid,beq_self_eq_true,jA,jD,jT,jU,aA,aB,au,ay,ssH,ag,ae,reduceIte,af,ak,ai,aj];refine jE (v:=bo true) (by exact fun m=>nZ E) nbY (by simp only[bo,nbS]) ?_;simp only[bo,ssH,ag,ae,reduceIte,af,ak,ai,aj];exact jy (v:=bo true) rfl ⟨by simp only[bo,nbS],rfl⟩
  ·simp only[show decide (((q+1:Nat):Int)<(N.length:Int))=false from decide_eq_false (by omega),jA,jD,jT,jU,aA,aB,au,ay,ssH,ag,ae,reduceIte,af,ak,ai,aj];have hcf:lq k0 (b.take c)=(Kq,z):=hI.cut c q z Kq (by omega) hKq hz1 hz2 (fun z2 h2=>by have:=(List.getElem?_eq_some_iff.1 h2).1;omega);have hKl2:=(Aj hcf).2.1;simp only[lw,lH,hcut,jA,jD,jT,jU,aA,aB,au,ay,ssH,ag,ae,reduceIte,af,ak,ai,aj];refine oO (v:=.tup [ktN Kq,it z]) (es:=(b.take c).map by8) (more:=m2.map by8) rfl (fun m tok'=>by have:=oM (Γ:=Γ) (m:=m) E (b.take c) m2 tok' (by rw[aW];omega);rw[hcf]at this;exact this) (jG _) (jG _) .nil (by simp only[kR,nbS]) ?_;simp only[ktN,ktV,ktC,hik,jA,jD,jT,jU,aA,aB,au,ay,ssH,ag,ae,reduceIte,af,ak,ai,aj];refine jE (v:=bo true) (by exact fun m=>vK (!Kq.l.l.isEmpty) (!Kq.l.l.isEmpty) Kq (by omega)) (by simp only[hkq,nbS]) (by simp only[bo,nbS]) ?_;simp only[bo,hid,beq_self_eq_true,jA,jD,jT,jU,aA,aB,au,ay,ssH,ag,ae,reduceIte,af,ak,ai,aj];refine jE (v:=bo true) (by exact fun m=>nZ E) nbY (by simp only[bo,nbS]) ?_;simp only[bo,ssH,ag,ae,reduceIte,af,ak,ai,aj];exact jy (v:=bo true) rfl ⟨by simp only[bo,nbS],rfl⟩
 ·obtain⟨m2,tok2,hcut⟩:=zhk (b:=b) (tok:=(.tip 1 k1)) (c:=c) (by omega);simp only[aZ,MoV,aQ,and_true]at hv;obtain⟨g6,g7,g8,g0,g1,g5,g9⟩:=hv;rw[mO hlt];simp only[jW,upTo,g6,g7,g8,g0,g1,g5,g9,Ia,hil2,N8,DX,ktC,jA,jD,jT,jU,aA,aB,au,ay,ssH,ag,ae,reduceIte,af,ak,ai,aj];refine oO (v:=.tup [ktN k,it b.length]) (es:=b.map by8) (more:=[]) rfl (fun m tok'=>by have:=oM (Γ:=Γ) (m:=m) E b [] tok' (by omega);rw[hI.read]at this;exact this) (jG _) .nil .nil (by simp only[kR,nbS]) ?_;simp only[ktN,ktV,ktC,jA,jD,jT,jU,aA,aB,au,ay,ssH,ag,ae,reduceIte,af,ak,ai,aj];refine jE (v:=bo true) (by exact fun m=>vK (!k.l.l.isEmpty) (!k.l.l.isEmpty) k (by omega)) (by simp only[hkn,nbS]) (by simp only[bo,nbS]) ?_;simp only[bo,aO,kE,aH,bne_self_eq_false,hw1,nD,Aa,zZ,LV hz,hc2,jA,jD,jT,jU,aA,aB,au,ay,ssH,ag,ae,reduceIte,af,ak,ai,aj];refine nC [6,7,8,14,15] 119 (fun n vs h=>∃ (q:Nat),vs=[.sl (b.map by8) [] (.tip 1 k1),.sl (K.map ktN) [] (.tip 2 k2),.sl (N.map itn) [] (.tip 3 k3),it c,it q]∧h=[some (N8 k),some (.tip 5 k1),some (.tip 28 k2),some (.tip 3 k3),some (N8 k)]∧n+q=N.length∧∃ z,N[q]? = some z∧z≤c) N.length (by decide) (by decide) (aK 5) ?_ ?_
  ·refine jZ rfl (by decide) (by decide) (by simp) ?_ ?_ ⟨0,rfl,rfl,by omega,0,hI.zero,bU _⟩
   ·show nbs 5 [.sl (b.map by8) [] (.tip 1 k1),.sl (K.map ktN) [] (.tip 2 k2),.sl (N.map itn) [] (.tip 3 k3),it c,it (0:Nat)];simp only[hnk1,hnn1,hnb1,nbS]
    try decide
   ·intro a ha y hy;rcases(by omega:a=0∨a=1∨a=2∨a=3∨a=4)with rfl|rfl|rfl|rfl|rfl
    ·cases hy;exact sG k
    ·cases hy;simp only[nbS]
    ·cases hy;simp only[nbS]
    ·cases hy;simp only[nbS]
    ·cases hy;exact sG k
  rintro n2 t2 h2 J2 hJ2 hlt3 ⟨q,hv2,rfl,hq,z,hz1,hz2⟩;simp only[aZ,aQ,and_true]at hv2;obtain⟨f6,f7,f8,f14,f15⟩:=hv2;have hqN:=(List.getElem?_eq_some_iff.1 hz1).1;have hKq:K[q]? = some K[q]:=aI (by omega);generalize K[q]=Kq at hKq;have hkq:=kL (k:=0) (!Kq.l.l.isEmpty) Kq.l.l;have hid:oG 1 (.sl (N.map itn) [] (.tip 3 k3)) (it q)=some (.elt [it z]):=SA hz1;have hik:oG 5 (.sl (K.map ktN) [] (.tip 2 k2)) (it q)=some (.elt [it Kq.v,it Kq.n,it Kq.l.b,bs Kq.l.c,lJ (!Kq.l.l.isEmpty) Kq.l.l]):=zcJ hKq;have hqx:=jQ (show q<4611686018427387904 by omega);rw[mO hlt3];simp only[jW,upTo,f6,f7,f8,f14,f15,kE,aH,hqx,jA,jD,jT,jU,aA,aB,au,ay,ssH,ag,ae,reduceIte,af,ak,ai,aj]
  by_cases hq1:q+1<N.length
  ·have hy:N[q+1]? = some N[q+1]:=aI hq1;generalize N[q+1]=y at hy;have hid2:oG 1 (.sl (N.map itn) [] (.tip 3 k3)) (it (q+1:Nat))=some (.elt [it y]):=SA hy;simp only[show decide (((q+1:Nat):Int)<(N.length:Int))=true from decide_eq_true (by omega),hid2,hqx,jA,jD,jT,jU,aA,aB,au,ay,ssH,ag,ae,reduceIte,af,ak,ai,aj]
   by_cases hyc:y≤c
   ·simp only[show decide ((y:Int)≤(c:Int))=true from decide_eq_true (by omega),hqx,jA,jD,jT,jU,aA,aB,au,ay,ssH,ag,ae,reduceIte,af,ak,ai,aj];refine⟨_,hJ2 (n2-1) (aK 5) _ (by omega) (jZ rfl (by decide) (by decide) (by simp) ?_ ?_ ⟨q+1,rfl,rfl,by omega,y,hy,hyc⟩)⟩
    ·show nbs 5 [.sl (b.map by8) [] (.tip 1 k1),.sl (K.map ktN) [] (.tip 2 k2),.sl (N.map itn) [] (.tip 3 k3),it c,it (q+1:Nat)];simp only[hnk1,hnn1,hnb1,nbS]
     try decide
    ·intro a ha y hy;rcases(by omega:a=0∨a=1∨a=2∨a=3∨a=4)with rfl|rfl|rfl|rfl|rfl
     ·cases hy;exact sG k
     ·cases hy;simp only[nbS]
     ·cases hy;simp only[nbS]
     ·cases hy;simp only[nbS]
     ·cases hy;exact sG k
   ·simp only[show decide ((y:Int)≤(c:Int))=false from decide_eq_false (by omega),jA,jD,jT,jU,aA,aB,au,ay,ssH,ag,ae,reduceIte,af,ak,ai,aj];have hcf:lq k0 (b.take c)=(Kq,z):=hI.cut c q z Kq (by omega) hKq hz1 hz2 (fun z2 h2=>by rw[hy]at h2;cases h2;omega);have hKl2:=(Aj hcf).2.1;simp only[lw,lH,hcut,jA,jD,jT,jU,aA,aB,au,ay,ssH,ag,ae,reduceIte,af,ak,ai,aj];refine oO (v:=.tup [ktN Kq,it z]) (es:=(b.take c).map by8) (more:=m2.map by8) rfl (fun m tok'=>by have:=oM (Γ:=Γ) (m:=m) E (b.take c) m2 tok' (by rw[aW];omega);rw[hcf]at this;exact this) (jG _) (jG _) .nil (by simp only[kR,nbS]) ?_;simp only[ktN,ktV,ktC,hik,jA,jD,jT,jU,aA,aB,au,ay,ssH,ag,ae,reduceIte,af,ak,ai,aj];refine jE (v:=bo true) (by exact fun m=>vK (!Kq.l.l.isEmpty) (!Kq.l.l.isEmpty) Kq (by omega)) (by simp only[hkq,nbS]) (by simp only[bo,nbS]) ?_;simp only[bo,hid,beq_self_eq_true,jA,jD,jT,jU,aA,aB,au,ay,ssH,ag,ae,reduceIte,af,ak,ai,aj];refine jE (v:=bo true) (by exact fun m=>nZ E) nbY (by simp only[bo,nbS]) ?_;simp only[bo,ssH,ag,ae,reduceIte,af,ak,ai,aj];exact jy (v:=bo true) rfl ⟨by simp only[bo,nbS],rfl⟩
  ·simp only[show decide (((q+1:Nat):Int)<(N.length:Int))=false from decide_eq_false (by omega),jA,jD,jT,jU,aA,aB,au,ay,ssH,ag,ae,reduceIte,af,ak,ai,aj];have hcf:lq k0 (b.take c)=(Kq,z):=hI.cut c q z Kq (by omega) hKq hz1 hz2 (fun z2 h2=>by have:=(List.getElem?_eq_some_iff.1 h2).1;omega);have hKl2:=(Aj hcf).2.1;simp only[lw,lH,hcut,jA,jD,jT,jU,aA,aB,au,ay,ssH,ag,ae,reduceIte,af,ak,ai,aj];refine oO (v:=.tup [ktN Kq,it z]) (es:=(b.take c).map by8) (more:=m2.map by8) rfl (fun m tok'=>by have:=oM (Γ:=Γ) (m:=m) E (b.take c) m2 tok' (by rw[aW];omega);rw[hcf]at this;exact this) (jG _) (jG _) .nil (by simp only[kR,nbS]) ?_;simp only[ktN,ktV,ktC,hik,jA,jD,jT,jU,aA,aB,au,ay,ssH,ag,ae,reduceIte,af,ak,ai,aj];refine jE (v:=bo true) (by exact fun m=>vK (!Kq.l.l.isEmpty) (!Kq.l.l.isEmpty) Kq (by omega)) (by simp only[hkq,nbS]) (by simp only[bo,nbS]) ?_;simp only[bo,hid,beq_self_eq_true,jA,jD,jT,jU,aA,aB,au,ay,ssH,ag,ae,reduceIte,af,ak,ai,aj];refine jE (v:=bo true) (by exact fun m=>nZ E) nbY (by simp only[bo,nbS]) ?_;simp only[bo,ssH,ag,ae,reduceIte,af,ak,ai,aj];exact jy (v:=bo true) rfl ⟨by simp only[bo,nbS],rfl⟩
end
end Go.Av.Fn
