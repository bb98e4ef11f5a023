/- A log that is put is got, whatever stands ahead and behind: plain laws. No condition. -/
import Derived.ChangeMaps5
import Derived.Deep.Strs
import Derived.LaidHandle
import Derived.Test.YtmglaebjmaomnaaGreatDoorCards
import Derived.Test.YtmglaebjmaomnaaGreatDoorTie
import Derived.Test.YtmglaebjmaomnaaGreatDoorTW20
open Bool renaming and_eq_true→aG, eq_iff_iff→bQ, not_true→aO, not_false→aN, false_eq_true→aF, false_and→dK, and_false→dL
open Int renaming toNat_natCast→bn, reduceBEq→ah, reduceBNe→ai, eq_ofNat_of_zero_le→ed, le_refl→dU, le_trans→iR
open List renaming append_assoc→bg, length_append→aH, append_nil→aS, length_nil→aA, length_map→aK, range→aJ, map→aZ, cons_append→aB, nil_append→aC, getElem?_eq_getElem→aI, take_add_one→aW, getElem?_map→bH, take_length→bJ, length_cons→ax, drop_zero→bK, take_of_length_le→bG, map_append→bC, length_take→bf, mem_of_mem_take→dw, drop_take→dJ, mem_of_mem_drop→iV, drop_drop→bV, take_zero→dM, getElem_mem→dS, length_drop→aV, map_drop→iJ, take_append_of_le_length→gK, mem_cons→dQ, not_mem_nil→dm, take_succ_cons→di, drop_succ_cons→dW, drop_of_length_le→iK
open List.cons renaming injEq→aP
open Nat renaming reduceSub→ay, reduceAdd→ag, reduceLeDiff→ae, reduceEqDiff→af, reduceLT→aj, div_one→fH, zero_add→gz, reduceMul→dZ, xor_lt_two_pow→fG, le_refl→aY, add_sub_cancel_left→dF, zero_le→bW, add_zero→fD, not_lt_zero→dY
open Option renaming map→dX, getD_none→bY, bind_some→bi, getD_some→bZ
open Option.some renaming inj→fZ
open Prod.mk renaming inj→fJ
set_option linter.unusedSimpArgs false
set_option linter.unusedVariables false
set_option maxRecDepth 100000
namespace Go.Av.Fn
open Go.Proofs
theorem gI{s p r:List UInt8}{n:Int}(hn:Av.I64 n)(h:s=p++(uz n++r)):mf s p.length 0=(n,(p++uz n).length,0)∧s=(p++uz n)++r:=by
 refine⟨?_,by rw[h,bg]⟩;rw[h,aH];exact Np hn p r
theorem gT{s p r x:List UInt8}(most:Nat)(hx:x.length≤most)(hm:most<9223372036854775808)(h:s=p++(uz x.length++(x++r))):nJ s p.length 0 most=(x,(p++uz x.length++x).length,0)∧s=(p++uz x.length++x)++r:=by
 refine⟨?_,by rw[h];simp only[bg]⟩;have:=PP (s:=x) (by omega) p r most;rw[if_neg (by omega)]at this;rw[h,show(p++uz x.length++x).length=p.length+((uz x.length).length+x.length)by simp only[aH];omega];exact this
theorem gC{s p r x:List UInt8}{k n:Int}(hk:Av.I64 k)(hn:Av.I64 n)(hx:x.length≤255)(h:s=p++(AL k n x++r)):Bh s p.length 0=((k,n,x),(p++AL k n x).length,0)∧s=(p++AL k n x)++r:=by
 refine⟨?_,by rw[h,bg]⟩;rw[h,aH];exact zcI hk hn hx p r
theorem gE{s p r:List UInt8}{e:Ent}(he:zkw e)(h:s=p++(pX e++r)):zF s p.length 0=(e,(p++pX e).length,0)∧s=(p++pX e)++r:=by
 refine⟨?_,by rw[h,bg]⟩;obtain⟨⟨h1,h2,h3,h4,h5,h6⟩,hs,hc⟩:=he
 have e0:s=p++(uz e.c++(uz e.q++(uz e.k++(uz e.n++(uz e.s.length++(e.s++(AL e.ck e.cn e.cs++r))))))):=by
  rw[h];simp only[pX,kH,bg,aS]
 obtain⟨a1,b1⟩:=gI h1 e0;obtain⟨a2,b2⟩:=gI h2 b1;obtain⟨a3,b3⟩:=gI h3 b2;obtain⟨a4,b4⟩:=gI h4 b3;obtain⟨a5,b5⟩:=gT 255 hs (by decide) b4;obtain⟨a6,b6⟩:=gC h5 h6 hc b5;unfold zF;simp only[a1,a2,a3,a4,show nJ s (p++uz e.c++uz e.q++uz e.k++uz e.n).length 0 255=_ from a5,a6];refine Prod.ext (by simp) (Prod.ext ?_ rfl);simp only[pX,kH,aH,aA];omega
theorem Ot{e:Ent}(h:nN e=true):e.s.length≤255∧e.cs.length≤255:=by
 unfold nN at h;rw[aG]at h
 have hno:∀ e:Ent,AZ e=true→e.cs.length≤255:=by
  intro e h;simp only[AZ,decide_eq_true_eq]at h;rw[h.2.2];decide
 have hs0:∀ s:List UInt8,(s==[])=true→s.length≤255:=by
  intro s h;have:s=[]:=by simpa using h
  rw[this];decide
 have h2:=h.2
 split at h2
 ·simp only[aG]at h2;exact⟨by have:=h2.1.1;unfold nameB at this;simp only[aG,decide_eq_true_eq]at this;omega,hno e h2.2⟩
 ·split at h2
  ·simp only[aG]at h2;exact⟨hs0 _ h2.1.1,hno e h2.2⟩
  ·split at h2
   ·simp only[aG]at h2;exact⟨hs0 _ h2.1.1,hno e h2.2⟩
   ·split at h2
    ·simp only[aG]at h2;exact⟨hs0 _ h2.1.1,(PK h2.2).1⟩
    ·exact absurd h2 (by decide)
theorem XX{x:Lg}(h:lgB x=true)(hb:Av.I64 x.b)(he:∀ e∈x.l,GN e):zfg x:=by
 simp only[lgB,aG,decide_eq_true_eq]at h;refine⟨hb,by omega,by omega,fun e hx=>⟨he e hx,?_⟩⟩;exact Ot (List.all_eq_true.1 h.2 e hx)
structure Rpl where
 e:Int
 n:Int
 s:List UInt8
 deriving DecidableEq
structure Mg where
 k:Int
 f:Int
 t:Int
 v:Int
 nr:Int
 op:Int
 cm:Int
 sq:Int
 e:Ent
 l:Lg
 r:Rpl
def r0:Rpl:=⟨0,0,[]⟩
def ug(s:List UInt8)(x:Nat×Int):Int:=if x.2≠0 then x.2 else if x.1<s.length then 5 else 0
def zm1(nn:Bool)(m:Mg):List V:=[it m.k,it m.f,it m.t,it m.v,it m.nr,it m.op,it m.cm,it m.sq,it m.e.c,it m.e.q,it m.e.k,it m.e.n,bs m.e.s,it m.e.ck,it m.e.cn,bs m.e.cs,it m.l.b,bs m.l.c,lH nn m.l.l,it m.r.e,it m.r.n,bs m.r.s]
abbrev bo(b:Bool):V:=.val (.bool b)
theorem ten(k:Int):k=1∨k=2∨k=3∨k=4∨k=5∨k=6∨k=7∨k=8∨k=9∨k=10∨(k≠1∧k≠2∧k≠3∧k≠4∧k≠5∧k≠6∧k≠7∧k≠8∧k≠9∧k≠10):=by omega
section
variable {Γ:jG} {m:Store}
end
section
variable {Γ:jG} {m:Store}
end
theorem ZN(nn:Bool)(l:List Ent):lenV false (lH nn l)=some (it l.length):=by rw[lH,lV,aK]
section
variable {Γ:jG} {m:Store}
end
section
variable {Γ:jG} {m:Store}
end
end Go.Av.Fn
namespace Go.Av
theorem ku.no{G:Gh}{es more:List V}{tok:Tok}{u:Value}(h:ku G (.sl es more tok) u):ku G (.sl es more .no) u:=by
 cases h with
 |nil _=>exact .nil rfl
 |sl a b c d e f=>exact .sl a b c d e trivial
theorem kE.no{G:Gh}{es more:List V}{tok:Tok}:∀ {a b:List V} {us:List Value},kE G (a ++ .sl es more tok::b) us→kE G (a ++ .sl es more .no::b) us
 |[],b,_,.cons h k=>.cons h.no k
 |x::a,b,_,.cons h k=>.cons h (kE.no (a:=a) k)
theorem jB.tok{P:Program}{Γ:jG}{f:FuncId}{es more:List V}{tok:Tok}{m:Store}{R:Out→Store→Prop}(a b:List V)(h:jB P Γ f (a ++ .sl es more .no::b) m R):jB P Γ f (a ++ .sl es more tok::b) m R:=
 ⟨h.1,fun G B0 mF w cargs hD hR hL=>h.2 G B0 mF w cargs hD hR hL.no⟩
end Go.Av
namespace Go.Av.Fn
open Go.Proofs
theorem Ve{n:Int}:Eh Tryz.prog 140 5 (.val (.int .u32 n))=some (.val (.int .u8 (IntKind.u8.wrap n))):=by kernel_rfl
theorem Vd{n:Int}:Eh Tryz.prog 5 140 (.val (.int .u8 n))=some (.val (.int .u32 (IntKind.u32.wrap n))):=by kernel_rfl
theorem DJ(n:Nat):Eh Tryz.prog 140 5 (u32 n)=some (by8 n.toUInt8):=by rw[u32,Ve,zhN]
theorem Vo(b:UInt8):Eh Tryz.prog 5 140 (by8 b)=some (u32 b.toNat):=by
 have:=b.toNat_lt;rw[by8,Vd,wrap32,u32];congr 3;omega
theorem BZ{P:Program}{T:TypeId}{xo yo:Operand}{yk:IntKind}{a:Nat}(b q:Nat)(hb:b≤31)(hq:2^b=q):kR P .shr T .other xo yo (u32 a) (.val (.int yk (b:Int)))=some (u32 (a / q)):=by
 subst hq;rw[u32,IU (by omega),bn,show min b IntKind.u32.bits=b by show min b 32=b;omega];rw[Int.fdiv_eq_ediv_of_nonneg _ (by exact Int.le_of_lt (by exact_mod_cast Nat.two_pow_pos b))]
 norm_cast
theorem za0{P:Program}{T:TypeId}{xo yo:Operand}{a:Nat}(ha:a<4294967296):kR P .and T .other xo yo (u32 a) (.val (.int .u32 1))=some (u32 (a &&& 1)):=u32_and ha (by decide)
theorem zaZ{P:Program}{T:TypeId}{xo yo:Operand}{a:Nat}(ha:a<4294967296):kR P .and T .other xo yo (u32 a) (.val (.int .u32 3988292384))=some (u32 (a &&& 3988292384)):=u32_and ha (by decide)
theorem zaT{P:Program}{T:TypeId}{xo yo:Operand}{a:Nat}(ha:a<4294967296):kR P .xor T .other xo yo (u32 a) (.val (.int .u32 3988292384))=some (u32 (a ^^^ 3988292384)):=u32_xor ha (by decide)
theorem zej(a:Nat):(if a%2=1 then 4294967295 else 0)<4294967296:=by split<;>decide
def NL(n:Nat):Nat→List V
 |0=>[.val (.int .u8 0),.val (.int .u8 0),.val (.int .u8 0),.val (.int .u8 0)]
 |1=>[by8 n.toUInt8,.val (.int .u8 0),.val (.int .u8 0),.val (.int .u8 0)]
 |2=>[by8 n.toUInt8,by8 (n / 256).toUInt8,.val (.int .u8 0),.val (.int .u8 0)]
 |3=>[by8 n.toUInt8,by8 (n / 256).toUInt8,by8 (n / 65536).toUInt8,.val (.int .u8 0)]
 |_=>[by8 n.toUInt8,by8 (n / 256).toUInt8,by8 (n / 65536).toUInt8,by8 (n / 16777216).toUInt8]
theorem zeh(k n i:Nat):nbs k (NL n i):=by
 unfold NL
 split<;>simp only[nbS]
theorem Iw{n size i b o:Nat}{k:IntKind}(h:i<n):J7 n size (.ptr b o) (.val (.int k (i:Int)))=some (.ptr b (o+i*size)):=by
 simp only[J7];rw[if_pos (by omega)];rfl
theorem Ik{n:Nat}(i:Nat):∀ a<2,∀ x,lk [some (.var 138 (NL n 0)),some (.var 138 (NL n i))] a=some x→nbB 2 x:=by
 intro a ha x hx;have:a=0∨a=1:=by omega
 rcases this with rfl|rfl<;>cases hx<;>simp only[zeh,nbS]
section
variable {Γ:jG} {m:Store}
theorem zca(n:Nat):jB Tryz.prog Γ 84 [u32 n] m fun o m'=>o = .ret (.agg ((le4 n).map by8))∧m'=m:=by
 refine jY (jZ mixed ziu zlj jP (by simp only[u32,nbS]) ?_);simp only[F84,ss0,ay,ag];simp only[ssH,ag,ae,reduceIte,af,aj,ah,ai];refine mi [0,2,3,5] 17 (fun k vs h=>∃ i:Nat,vs=[u32 n,.ptr 0 0,.ptr 1 0,it i]∧i+k=5∧i≤4∧h=[some (.var 138 (NL n 0)),some (.var 138 (NL n i))]) 5 (by decide) (by decide) (aJ 2) (jW rfl (by decide) (by decide) (by simp) (by show nbs 2 [u32 n,.ptr 0 0,.ptr 1 0,it 0];simp only[u32,nbS];decide) (Ik (n:=n) 0) ⟨0,rfl,rfl,by omega,rfl⟩) ?_;rintro k t h J hJ hl ⟨i,hv,hk,hi,rfl⟩;simp only[aZ,aP,and_true]at hv;obtain⟨h0,h2,h3,h5⟩:=hv;rw[mJ hl];simp only[jV,upTo,h0,h2,h3,h5,ssH,ag,ae,reduceIte,af,aj,ah,ai];have:i=0∨i=1∨i=2∨i=3∨i=4:=by omega
 rcases this with rfl|rfl|rfl|rfl|rfl
 ·simp only[NL,show decide (((0:Nat):Int)<4)=true from rfl,show IntKind.i64.wrap (8*((0:Nat):Int))=((0:Nat):Int)from rfl,BZ 0 1 (by decide) rfl,fH,DJ,lq,rq,Iw (show 0<4 by decide),gz,dZ,jQ (show 0<4611686018427387904 by decide),by8,ssH,ag,ae,reduceIte,af,aj,ah,ai];exact⟨_,hJ (k-1) (aJ 2) _ (by omega) (jW rfl (by decide) (by decide) (by simp) (by show nbs 2 [u32 n,.ptr 0 0,.ptr 1 0,it (1:Int)];simp only[u32,nbS];decide) (Ik (n:=n) 1) ⟨1,rfl,by omega,by omega,rfl⟩)⟩
 ·simp only[NL,show decide (((1:Nat):Int)<4)=true from rfl,show IntKind.i64.wrap (8*((1:Nat):Int))=((8:Nat):Int)from rfl,BZ 8 256 (by decide) rfl,fH,DJ,lq,rq,Iw (show 1<4 by decide),gz,dZ,jQ (show 1<4611686018427387904 by decide),by8,ssH,ag,ae,reduceIte,af,aj,ah,ai];exact⟨_,hJ (k-1) (aJ 2) _ (by omega) (jW rfl (by decide) (by decide) (by simp) (by show nbs 2 [u32 n,.ptr 0 0,.ptr 1 0,it (2:Int)];simp only[u32,nbS];decide) (Ik (n:=n) 2) ⟨2,rfl,by omega,by omega,rfl⟩)⟩
 ·simp only[NL,show decide (((2:Nat):Int)<4)=true from rfl,show IntKind.i64.wrap (8*((2:Nat):Int))=((16:Nat):Int)from rfl,BZ 16 65536 (by decide) rfl,fH,DJ,lq,rq,Iw (show 2<4 by decide),gz,dZ,jQ (show 2<4611686018427387904 by decide),by8,ssH,ag,ae,reduceIte,af,aj,ah,ai];exact⟨_,hJ (k-1) (aJ 2) _ (by omega) (jW rfl (by decide) (by decide) (by simp) (by show nbs 2 [u32 n,.ptr 0 0,.ptr 1 0,it (3:Int)];simp only[u32,nbS];decide) (Ik (n:=n) 3) ⟨3,rfl,by omega,by omega,rfl⟩)⟩
 ·simp only[NL,show decide (((3:Nat):Int)<4)=true from rfl,show IntKind.i64.wrap (8*((3:Nat):Int))=((24:Nat):Int)from rfl,BZ 24 16777216 (by decide) rfl,fH,DJ,lq,rq,Iw (show 3<4 by decide),gz,dZ,jQ (show 3<4611686018427387904 by decide),by8,ssH,ag,ae,reduceIte,af,aj,ah,ai];exact⟨_,hJ (k-1) (aJ 2) _ (by omega) (jW rfl (by decide) (by decide) (by simp) (by show nbs 2 [u32 n,.ptr 0 0,.ptr 1 0,it (4:Int)];simp only[u32,nbS];decide) (Ik (n:=n) 4) ⟨4,rfl,by omega,by omega,rfl⟩)⟩
 ·simp only[NL,show decide (((4:Nat):Int)<4)=false from rfl,ssH,ag,ae,reduceIte,af,aj,ah,ai];exact jy (v:=.agg ((le4 n).map by8)) rfl ⟨by simp only[kY,nbS],rfl⟩
theorem XU(c:Nat)(hc:c<4294967296)(l:List UInt8){more:List V}(hm:nbs 0 more)(tok:Tok)(hl:l.length<4611686018427387904) :
  jB Tryz.prog Γ 110 [u32 c,.sl (l.map by8) more tok] m fun o m'=>o = .ret (u32 (Dx c l))∧m'=m:=by
 have hm2:∀ k,nbs k more:=fun k=>NG hm;refine jB.tok [u32 c] [] ?_;refine jY (jZ mixed zgG zkh jP (by simp only[aB,aC,u32,kY,hm,nbS]) ?_);simp only[zki,aB,aC,ss0,ay,ag];simp only[vK,KW hc,aK,ssH,ag,ae,reduceIte,af,aj,ah,ai];refine mi [5,10,11,12] 33 (fun n vs h=>∃ i:Nat,vs=[u32 (FX (4294967295-c) (l.take i)),.sl (l.map by8) more .no,it l.length,it i]∧i+n=l.length+1∧i≤l.length∧h=[]) (l.length+1) (by decide) (by decide) (aJ 0) (jW rfl (by decide) (by decide) (by simp) (by show nbs 0 [u32 (4294967295-c),.sl (l.map by8) more .no,it l.length,it 0];simp only[u32,kY,hm,nbS]) (fun a ha=>by omega) ⟨0,rfl,by omega,by omega,rfl⟩) ?_;rintro k t h J hJ hlt ⟨i,hv,hk,hi,rfl⟩;simp only[aZ,aP,and_true]at hv;obtain⟨h5,h10,h11,h12⟩:=hv;have hs:=QW (c:=4294967295-c) (by omega) (l.take i);rw[mJ hlt];simp only[jV,upTo,h5,h10,h11,h12,ssH,ag,ae,reduceIte,af,aj,ah,ai]
 by_cases hil:i<l.length
 ·have hx:l[i]? = some l[i]:=aI hil
  have hst:FX (4294967295-c) (l.take (i+1))=YB (FX (4294967295-c) (l.take i)) l[i]:=by
   rw[aW,hx,MI];rfl
  generalize l[i]=b at hx hst;generalize FX (4294967295-c) (l.take i)=z at hs hst;have hb:=b.toNat_lt;have hi2:sU 1 (.sl (l.map by8) more .no) (it i)=some (.elt [by8 b]):=oh (e:=by8 b) (by rw[bH,hx];rfl) rfl;simp only[show decide ((i:Int)<(l.length:Int))=true from decide_eq_true (by omega),hi2,u32_xor hs (show b.toNat<4294967296 by omega),lq,Vo,ssH,ag,ae,reduceIte,af,aj,ah,ai];have hx0:z ^^^ b.toNat<4294967296:=fG (n:=32) (by omega) (by omega);refine mi [5,10,11,12,20] 33 (fun n vs h=>∃ j:Nat,vs=[u32 (vU j (z ^^^ b.toNat)),.sl (l.map by8) more .no,it l.length,it i,it j]∧j+n=9∧j≤8∧h=[]) 9 (by decide) (by decide) (aJ 0) (jW rfl (by decide) (by decide) (by simp) (by show nbs 0 [u32 (z ^^^ b.toNat),.sl (l.map by8) more .no,it l.length,it i,it 0];simp only[u32,kY,hm,nbS]) (fun a ha=>by omega) ⟨0,rfl,by omega,by omega,rfl⟩) ?_;rintro k2 t2 h2 J2 hJ2 hlt2 ⟨j,hv2,hk2,hj,rfl⟩;simp only[aZ,aP,and_true]at hv2;obtain⟨g5,g10,g11,g12,g20⟩:=hv2;have hbj:=OE hx0 j;rw[mJ hlt2];simp only[jV,upTo,g5,g10,g11,g12,g20,ssH,ag,ae,reduceIte,af,aj,ah,ai]
  by_cases hj8:j<8
  ·have ha1:vU j (z ^^^ b.toNat) / 2<4294967296:=by omega
   have hm1:=zej (vU j (z ^^^ b.toNat));have hm2:(if vU j (z ^^^ b.toNat)%2=1 then 4294967295 else 0) &&& 3988292384<4294967296:=Nat.and_lt_two_pow (n:=32) _ (by decide);simp only[show decide ((j:Int)<8)=true from decide_eq_true (by omega),zaV,za0 hbj,vK,zaY,zaZ hm1,u32_xor ha1 hm2,ze7,jQ (show j<4611686018427387904 by omega),ssH,ag,ae,reduceIte,af,aj,ah,ai];exact⟨_,hJ2 (k2-1) (aJ 0) _ (by omega) (jW rfl (by decide) (by decide) (by simp) (by show nbs 0 [u32 (zaz (vU j (z ^^^ b.toNat))),.sl (l.map by8) more .no,it l.length,it i,it (j+1:Nat)];simp only[u32,kY,hm,nbS]) (fun a ha=>by omega) ⟨j+1,rfl,by omega,by omega,rfl⟩)⟩
  ·have:j=8:=by omega
   subst this;simp only[show decide (((8:Nat):Int)<8)=false from rfl,jQ (show i<4611686018427387904 by omega),ssH,ag,ae,reduceIte,af,aj,ah,ai];exact⟨_,hJ (k-1) (aJ 0) _ (by omega) (jW rfl (by decide) (by decide) (by simp) (by show nbs 0 [u32 (vU 8 (z ^^^ b.toNat)),.sl (l.map by8) more .no,it l.length,it (i+1:Nat)];simp only[u32,kY,hm,nbS]) (fun a ha=>by omega) ⟨i+1,by rw[hst];rfl,by omega,by omega,rfl⟩)⟩
 ·have:i=l.length:=by omega
  subst this;rw[bJ]at hs;simp only[show decide ((l.length:Int)<(l.length:Int))=false from decide_eq_false (by omega),bJ,vK,KW hs,ssH,ag,ae,reduceIte,af,aj,ah,ai];exact jy (v:=u32 (Dx c l)) rfl ⟨by simp only[u32,nbS],rfl⟩
theorem za8(l:List UInt8){more:List V}(hm:nbs 0 more)(tok:Tok)(hl:l.length<4611686018427387904):jB Tryz.prog Γ 85 [.sl (l.map by8) more tok] m fun o m'=>o = .ret (u32 (yj l))∧m'=m:=by
 refine jB.tok [] [] ?_;refine jY (jZ mixed zit zli jP (by simp only[aC,kY,hm,nbS]) ?_);simp only[F85,aC,ss0,ay,ag];simp only[ssH,ag,ae,reduceIte,af,aj,ah,ai];refine jC (v:=u32 (yj l)) (by exact fun m=>XU 0 (by decide) l hm .no hl) (by simp only[aC,aS,aB,kY,hm,nbS]) (by simp only[u32,nbS]) ?_;simp only[ssH,ag,ae,reduceIte,af,aj,ah,ai];exact jy (v:=u32 (yj l)) rfl ⟨by simp only[u32,nbS],rfl⟩
theorem zaW{P:Program}{T:TypeId}{xo yo:Operand}{a:Nat}:kR P .rem T .other xo yo (u32 a) (.val (.int .u32 2))=some (u32 (a%2)):=by
 rw[u32,LG (by decide)];rfl
theorem zaX{P:Program}{T:TypeId}{xo yo:Operand}{a:Nat}(h:a<4294967296):kR P .quo T .other xo yo (u32 a) (.val (.int .u32 2))=some (u32 (a / 2)):=by
 rw[u32,Dj (by decide),wrap32,u32];congr 3;rw[show(a:Int).tdiv 2=((a / 2:Nat):Int)from rfl];omega
theorem zdN{P:Program}{T:TypeId}{xo yo:Operand}{a:Nat}:kR P .eql T .other xo yo (u32 a) (.val (.int .u32 1))=some (.val (.bool (a==1))):=by
 rw[u32,wW];congr 3;rw[bQ,beq_iff_eq,beq_iff_eq];omega
theorem zcK(c:Nat)(hc:c<4294967296)(l:List UInt8)(hl:l.length<4611686018427387904):jB Tryz.prog Γ 134 [u32 c,bs l] m fun o m'=>o = .ret (u32 (Dx c l))∧m'=m:=by
 refine jY (jZ mixed zgp zjS jP (by simp only[u32,nbS]) ?_);simp only[zjT,ss0,ay,ag];simp only[vK,KW hc,ssH,ag,ae,reduceIte,af,aj,ah,ai];refine mi [1,5,6] 37 (fun n vs h=>∃ i:Nat,vs=[bs l,u32 (FX (4294967295-c) (l.take i)),it i]∧i+n=l.length+1∧i≤l.length∧h=[]) (l.length+1) (by decide) (by decide) (aJ 0) (jW rfl (by decide) (by decide) (by simp) (by show nbs 0 [bs l,u32 (4294967295-c),it 0];simp only[u32,nbS]) (fun a ha=>by omega) ⟨0,rfl,by omega,by omega,rfl⟩) ?_;rintro k t h J hJ hlt ⟨i,hv,hk,hi,rfl⟩;simp only[aZ,aP,and_true]at hv;obtain⟨h1,h5,h6⟩:=hv;have hs:=QW (c:=4294967295-c) (by omega) (l.take i);rw[mJ hlt];simp only[jV,upTo,h1,h5,h6,ssH,ag,ae,reduceIte,af,aj,ah,ai]
 by_cases hil:i<l.length
 ·have hx:l[i]? = some l[i]:=aI hil
  have hst:FX (4294967295-c) (l.take (i+1))=YB (FX (4294967295-c) (l.take i)) l[i]:=by
   rw[aW,hx,MI];rfl
  generalize l[i]=b at hx hst;generalize FX (4294967295-c) (l.take i)=z at hs hst;have hb:=b.toNat_lt;simp only[show decide ((i:Int)<(l.length:Int))=true from decide_eq_true (by omega),nG hx,ssH,ag,ae,reduceIte,af,aj,ah,ai];rw[show V.val (.int .u8 (b.toNat:Int))=by8 b from rfl];simp only[u32_xor hs (show b.toNat<4294967296 by omega),lq,Vo,ssH,ag,ae,reduceIte,af,aj,ah,ai];have hx0:z ^^^ b.toNat<4294967296:=fG (n:=32) (by omega) (by omega);refine mi [1,5,6,7] 37 (fun n vs h=>∃ j:Nat,vs=[bs l,u32 (vU j (z ^^^ b.toNat)),it i,it j]∧j+n=9∧j≤8∧h=[]) 9 (by decide) (by decide) (aJ 0) (jW rfl (by decide) (by decide) (by simp) (by show nbs 0 [bs l,u32 (z ^^^ b.toNat),it i,it 0];simp only[u32,nbS]) (fun a ha=>by omega) ⟨0,rfl,by omega,by omega,rfl⟩) ?_;rintro k2 t2 h2 J2 hJ2 hlt2 ⟨j,hv2,hk2,hj,rfl⟩;simp only[aZ,aP,and_true]at hv2;obtain⟨g1,g5,g6,g7⟩:=hv2;have hbj:=OE hx0 j;rw[mJ hlt2];simp only[jV,upTo,g1,g5,g6,g7,ssH,ag,ae,reduceIte,af,aj,ah,ai]
  by_cases hj8:j<8
  ·have ha1:vU j (z ^^^ b.toNat) / 2<4294967296:=by omega
   have hB:vU (j+1) (z ^^^ b.toNat)=if vU j (z ^^^ b.toNat)%2=1 then (vU j (z ^^^ b.toNat) / 2) ^^^ 3988292384 else vU j (z ^^^ b.toNat) / 2:=rfl
   have hback:∀ (w:Nat),vU (j+1) (z ^^^ b.toNat)=w→∀ t3:List V,t3.length=37→[1,5,6,7].map (jT t3)=[bs l,u32 w,it i,it (j+1:Nat)]→J2 (aJ 0) ⟨t3,[]⟩:=by
    intro w hw t3 ht3 hm3;refine hJ2 (k2-1) (aJ 0) _ (by omega) (jW ht3 (by decide) (by decide) (by simp) ?_ (fun a ha=>by omega) ⟨j+1,by rw[hm3,hw],by omega,by omega,rfl⟩);rw[hm3];simp only[u32,nbS]
   simp only[show decide ((j:Int)<8)=true from decide_eq_true (by omega),zaW,zaX hbj,zdN,ssH,ag,ae,reduceIte,af,aj,ah,ai]
   rcases Nat.mod_two_eq_zero_or_one (vU j (z ^^^ b.toNat))with h0|h0
   ·simp only[h0,show((0:Nat)==1)=false from rfl,jQ (show j<4611686018427387904 by omega),ssH,ag,ae,reduceIte,af,aj,ah,ai];exact⟨_,hback _ (by rw[hB,if_neg (by omega)]) _ rfl rfl⟩
   ·simp only[h0,show((1:Nat)==1)=true from rfl,zaT ha1,jQ (show j<4611686018427387904 by omega),ssH,ag,ae,reduceIte,af,aj,ah,ai];exact⟨_,hback _ (by rw[hB,if_pos (by omega)]) _ rfl rfl⟩
  ·have:j=8:=by omega
   subst this;simp only[show decide (((8:Nat):Int)<8)=false from rfl,jQ (show i<4611686018427387904 by omega),ssH,ag,ae,reduceIte,af,aj,ah,ai];exact⟨_,hJ (k-1) (aJ 0) _ (by omega) (jW rfl (by decide) (by decide) (by simp) (by show nbs 0 [bs l,u32 (vU 8 (z ^^^ b.toNat)),it (i+1:Nat)];simp only[u32,nbS]) (fun a ha=>by omega) ⟨i+1,by rw[hst];rfl,by omega,by omega,rfl⟩)⟩
 ·have:i=l.length:=by omega
  subst this;rw[bJ]at hs;simp only[show decide ((l.length:Int)<(l.length:Int))=false from decide_eq_false (by omega),bJ,vK,KW hs,ssH,ag,ae,reduceIte,af,aj,ah,ai];exact jy (v:=u32 (Dx c l)) rfl ⟨by simp only[u32,nbS],rfl⟩
end
end Go.Av.Fn
namespace Go.Av
theorem ku.notNil{G:Gh}{es more:List V}{u:Value}(h:ku G (.sl es more .no) u)(hn:es≠[]∨more≠[]):ku G (.sl es more .non) u:=by
 cases h with
 |nil _=>rcases hn with h|h<;>exact absurd rfl h
 |sl a b c d e f=>exact .sl a b c d e trivial
theorem jB.notNil{P:Program}{Γ:jG}{f:FuncId}{es more b:List V}{m:Store}{R:Out→Store→Prop}(hn:es≠[]∨more≠[])(h:jB P Γ f (.sl es more .non::b) m R):jB P Γ f (.sl es more .no::b) m R:=
 ⟨h.1,fun G B0 mF w cargs hD hR hL=>h.2 G B0 mF w cargs hD hR (match hL with | .cons h k=>.cons (h.notNil hn) k)⟩
section
variable {P:Program} {Γ:jG} {Kp:V→Hl→Prop} {l:List Item} {K:HS→Prop} {t:List V} {h:Hl} {d:Option Tmp} {s:List (Tmp×Option (Tmp×Bool)×AOp)}
theorem ZY{e:TypeId}{bytes size j k:Nat}{ys:List V}{x:V}(hx:extra (lk h) size x=some ys)(hne:ys≠[])(hj:lk h j=some (.tip e k))(h2:tH size ys=true)(h3:Na ys.length bytes)
  (hr:hth P Γ Kp s l K (hput t (hset h j (some (.tip e (k+1)))) d (some (.sl ys [] (.tip j (k+1)))))):sV P Γ Kp e bytes size (.sl [] [] (.tipz j k size)) x d s l K t h:=by
 unfold sV;simp only[Bd,hx];exact⟨fun q=>absurd q hne,fun _=>⟨rfl,h2,by simpa using h3,trivial,trivial,hj,hr⟩⟩
theorem NI{k j v z:Nat}:nbT k (.tipz j v z)=(j<k):=propext ⟨fun h=>h.1.2,fun h=>⟨⟨rfl,h⟩,rfl,rfl⟩⟩
theorem zhz{x:Operand}:lL (.capS x)=true:=(rfl)
def zk0:V→Option V
 | .sl es [] .full=>some (.val (.int .i64 es.length))
 | .sl [] [] (.zero _)=>some (.val (.int .i64 0))
 | .arr _ _ _ c=>some (.val (.int .i64 c))
 |_=>none
theorem zab{m:Store}{x:Operand}:jJ P (ev Γ t) m (.capS x)=zk0 (ev Γ t x):=(rfl)
theorem zdb:zk0 (.sl [] [] .full)=some (.val (.int .i64 0)):=(rfl)
theorem zbA{n z:Nat}{x:Operand}{lo hi mx:Option Operand}:lL (.sliceP n z x lo hi mx)=true:=(rfl)
theorem zhy{n:Nat}{x:Operand}:lL (.s2ap n x)=true:=(rfl)
theorem zeD{e:TypeId}{bytes size:Nat}{z n:Operand}{i:Nat}(h1:ev Γ t z = .sl [] [] .full)(h2:ev Γ t n = .val (.int .i64 (i:Int)))(hi:0<i)(hb:i*bytes≤140737488355328)(hl:h.length<1000000)
  (hr:hth P Γ Kp s l K (hput t (h++[some (.tip e 0)]) d (some (.res h.length 0 size i)))):hO P Γ Kp (⟨d,none,.appz e bytes size z n,s⟩::l) K (some ⟨t,h⟩):=by
 rw[Sr];simp only[Bd,h1,h2,bn];refine⟨by omega,hb,hl,?_⟩;cases d<;>exact hr
end
end Go.Av
namespace Go.Av.Fn
open Go.Proofs
theorem zeR{xo yo:Operand}{T:TypeId}{l:List UInt8}{more:List V}:kR Tryz.prog .eql T .slice xo yo (.sl (l.map by8) more .non) (.sl [] [] .full)=some (.val (.bool false)):=by
 have hs:nY .slice (.sl (l.map by8) more .non)=true:=by cases l<;>rfl
 unfold kR;rw[hs];rfl
section
variable {Γ:jG} {m:Store}
def slN(l:List UInt8):V:=.sl (l.map by8) [] .non
theorem oP{k:Nat}{l:List UInt8}:nb k (slN l):=by simp only[slN,kY,nbS]
theorem Z8(l mo:List UInt8)(hl:l.length≤100000000)(h:l≠[]∨mo≠[])(tok:Tok):jB Tryz.prog Γ 86 [.sl (l.map by8) (mo.map by8) tok] m fun o m'=>(∃ v,o = .ret v∧v=slN l)∧m'=m:=by
 refine jB.tok [] [] ?_;refine jB.notNil (h.imp lU lU) ?_;refine BN mixed zis zlh jP (by simp only[kY,nbS]) ?_;simp only[F86,ss0,ay,ag];simp only[zeR,Ba,ssH,ag,ae,reduceIte,af,aj,ah,ai]
 by_cases h0:l=[]
 ·subst h0;refine yQ rfl ?_;simp only[ssH,ag,ae,reduceIte,af,aj,ah,ai];exact jy jD ⟨oP (l:=[]),rfl⟩
 ·refine E5 (ys:=l.map by8) rfl (lU h0) (by simp only[ax,aA,ag,aj]) rfl (uu _) (by simp only[aK,aA];omega) ?_;simp only[ssH,ag,ae,reduceIte,af,aj,ah,ai]
  have e:∀ k,wN (.sl (l.map by8) [] (.tip k 0))=slN l:=fun k=>by
   have:wNs (l.map by8)=l.map by8:=GX (fun _=>rfl) l;simp only[wN,this,wNs,slN]
   cases l with
   |nil=>exact absurd rfl h0
   |cons b l=>rfl
  exact jy jD ⟨by simp only[jH,jI,e,oP],by simp only[jH,jI,e]⟩
theorem zcS(n:Nat)(h0:0<n)(hn:n≤100000000):FC Tryz.prog Γ 142 [.sl [] [] .full,it n] [] fun v h'=>v = .sl [] [] (.tipz 0 0 1)∧h'=[some (.tip 5 0)]:=by
 refine fc mixed zgh zjJ jP ?_;simp only[zjK,aA,ss0,ay,ag]
 have w1:IntKind.i64.wrap ((n:Int)-IntKind.i64.wrap (0-((0:Nat):Int)))=(n:Int):=by
  rw[show IntKind.i64.wrap (0-((0:Nat):Int))=0 from rfl,wrap_i64 (by omega) (by omega)];omega
 simp only[show decide ((n:Int)<0)=false from decide_eq_false (by omega),zhz,zab,zdb,w1,gt_iff_lt,show decide ((0:Int)<(n:Int))=true from decide_eq_true (by omega),nV,show sF 1 (V.sl [] [] Tok.full) (some none) (some (some 0)) (some none)=some (.sl [] [] .full)from rfl,ssH,ag,ae,reduceIte,af,aj,ah,ai];refine zeD (i:=n) rfl rfl h0 (by omega) (by decide) ?_;simp only[nV,show ∀ k,sF 1 (.res k 0 1 n) (some none) (some (some ((0:Nat):Int))) (some none)=some (.sl [] [] (.tipz k 0 1))from fun k=>rfl,ssH,ag,ae,reduceIte,af,aj,ah,ai];exact jy jD ⟨rfl,rfl⟩
def Df(lg x mo:List UInt8)(k:Nat):V:=.sl [.sl [] [] .full,.sl (lg.map by8) [] (.tip 0 k),.sl (x.map by8) (mo.map by8) .no,.arr 1 0 4 4] [] .full
theorem RH{n:Nat}(hn:2≤n)(lg x mo:List UInt8)(k:Nat):nb n (Df lg x mo k):=by
 simp only[Df,kY,nbS];refine⟨?_,?_⟩<;>omega
theorem Ip{b o n c:Nat}:lenV false (.arr b o n c)=some (it n):=(rfl)
def szC(lg x:List UInt8):Nat→Nat
 |0=>0
 |1=>0
 |2=>lg.length
 |3=>lg.length+x.length
 |_=>lg.length+x.length+4
def wB(w:List UInt8):Blk:=.var 138 (w.map by8)
theorem zgV{w:List UInt8}{n:Nat}:∀ a<2,∀ x,lk [none,some (wB w)] a=some x→nbB n x:=by
 intro a ha x hx;have:a=0∨a=1:=by omega
 rcases this with rfl|rfl
 ·cases hx
 ·cases hx;simp only[wB,kY,nbS]
theorem znk{w:List UInt8}(hw:w.length=4){x z:Option Blk}:extra (lk [x,some (wB w),z]) 1 (.arr 1 0 4 4)=some (w.map by8):=by
 have h1:((w.map by8).drop 0).take 4=w.map by8:=by rw[bK,bG (by simp[hw])]
 have h2:(w.map by8).all oW=true:=List.all_eq_true.2 fun v hv=>by
  obtain⟨b,_,rfl⟩:=List.mem_map.1 hv;rfl
 show(if 1=1∧0+4≤(w.map by8).length∧(((w.map by8).drop 0).take 4).all oW=true then some (((w.map by8).drop 0).take 4)else none)=_;rw[h1,if_pos ⟨rfl,by simp[hw],h2⟩]
def zaH(lg x w:List UInt8):Nat→List UInt8
 |2=>lg
 |3=>lg++x
 |_=>lg++x++w
def zic(lg x w:List UInt8)(i v:Nat)(out:V):Prop:=(i≤1∧v=0∧out = .sl [] [] (.tipz 2 0 1))∨(2≤i∧out = .sl ((zaH lg x w i).map by8) [] (.tip 2 v))
theorem zd5{lg x w:List UInt8}{i v:Nat}{out:V}(h:zic lg x w i v out):nb 3 out:=by
 rcases h with ⟨_,_,rfl⟩|⟨_,rfl⟩
 ·simp only[NI,nbS];decide
 ·simp only[kY,nbS];decide
theorem WJ(lg x w mo:List UInt8)(k:Nat)(hlg:lg≠[])(hw:w.length=4)(h1:lg.length≤10000000)(h2:x.length≤10000000) :
  FC Tryz.prog Γ 111 [Df lg x mo k] [none,some (wB w)] fun v h'=>∃ j,v = .sl ((lg++x++w).map by8) [] (.tip 2 j)∧h'=[none,some (wB w),some (.tip 5 j)]:=by
 have e0:sU 1 (Df lg x mo k) (it ((0:Nat):Int))=some (.elt [.sl [] [] .full]):=rfl;have e1:sU 1 (Df lg x mo k) (it ((1:Nat):Int))=some (.elt [.sl (lg.map by8) [] (.tip 0 k)]):=rfl;have e2:sU 1 (Df lg x mo k) (it ((2:Nat):Int))=some (.elt [.sl (x.map by8) (mo.map by8) .no]):=rfl;have e3:sU 1 (Df lg x mo k) (it ((3:Nat):Int))=some (.elt [.arr 1 0 4 4]):=rfl;have el:lenV false (Df lg x mo k)=some (it ((4:Nat):Int)):=rfl;have hnb:=RH (n:=2) (by decide) lg x mo k;refine fc mixed zgF zkf jP ?_;simp only[zkg,ax,aA,ss0,ay,ag];simp only[el,ssH,ag,ae,reduceIte,af,aj,ah,ai];refine mi [0,3,9,10,11] 36 (fun n vs h=>∃ i:Nat,vs=[Df lg x mo k,it (szC lg x i:Nat),Df lg x mo k,it ((4:Nat):Int),it (i:Int)]∧i+n=5∧i≤4∧h=[none,some (wB w)]) 5 (by decide) (by decide) (aJ 2) (jW rfl (by decide) (by decide) (by simp) (by show nbs 2 [Df lg x mo k,it 0,Df lg x mo k,it 4,it 0];simp only[hnb,nbS]) zgV ⟨0,rfl,rfl,by omega,rfl⟩) ?_;rintro n t h J hJ hlt ⟨i,hv,hk,hi,rfl⟩;simp only[aZ,aP,and_true]at hv;obtain⟨g0,g3,g9,g10,g11⟩:=hv;rw[mJ hlt];simp only[jV,upTo,g0,g3,g9,g10,g11,ssH,ag,ae,reduceIte,af,aj,ah,ai]
 have hback:∀ (i:Nat),i≤4→5-i<n→∀ t3:List V,t3.length=36→[0,3,9,10,11].map (jT t3)=[Df lg x mo k,it (szC lg x i:Nat),Df lg x mo k,it ((4:Nat):Int),it (i:Int)]→J (aJ 2) ⟨t3,[none,some (wB w)]⟩:=by
  intro i hi4 hn t3 ht3 hm3;refine hJ (5-i) (aJ 2) _ hn (jW ht3 (by decide) (by decide) (by simp) ?_ zgV ⟨i,hm3,by omega,hi4,rfl⟩);rw[hm3];simp only[hnb,nbS]
 have A:∀ (a b c:Nat),a+b=c→c<1000000000→IntKind.i64.wrap ((a:Int)+(b:Int))=(c:Int):=fun a b c h1 h2=>by rw[wrap_i64 (by omega) (by omega)];omega
 have A0:∀ c:Nat,decide ((c:Int)<0)=false:=fun c=>decide_eq_false (by omega);have n4:∀ i:Nat,i<4→decide ((i:Int)<((4:Nat):Int))=true:=fun i h=>decide_eq_true (by omega);have:i=0∨i=1∨i=2∨i=3∨i=4:=by omega
 rcases this with rfl|rfl|rfl|rfl|rfl
 ·simp only[szC,n4 0 (by decide),e0,lV,Ip,aK,aA,A 0 0 0 (by omega) (by omega),A0,jQ (show 0<4611686018427387904 by decide),ssH,ag,ae,reduceIte,af,aj,ah,ai];exact⟨_,hback 1 (by omega) (by omega) _ rfl rfl⟩
 ·simp only[szC,n4 1 (by decide),e1,lV,Ip,aK,aA,A 0 lg.length lg.length (by omega) (by omega),A0,jQ (show 1<4611686018427387904 by decide),ssH,ag,ae,reduceIte,af,aj,ah,ai];exact⟨_,hback 2 (by omega) (by omega) _ rfl rfl⟩
 ·simp only[szC,n4 2 (by decide),e2,lV,Ip,aK,aA,A lg.length x.length (lg.length+x.length) (by omega) (by omega),A0,jQ (show 2<4611686018427387904 by decide),ssH,ag,ae,reduceIte,af,aj,ah,ai];exact⟨_,hback 3 (by omega) (by omega) _ rfl rfl⟩
 ·simp only[szC,n4 3 (by decide),e3,lV,Ip,aK,aA,A (lg.length+x.length) 4 (lg.length+x.length+4) (by omega) (by omega),A0,jQ (show 3<4611686018427387904 by decide),ssH,ag,ae,reduceIte,af,aj,ah,ai];exact⟨_,hback 4 (by omega) (by omega) _ rfl rfl⟩
 ·simp only[szC,show decide (((4:Nat):Int)<((4:Nat):Int))=false from rfl,ssH,ag,ae,reduceIte,af,aj,ah,ai];refine Yd (args0:=[.sl [] [] .full,it ((lg.length+x.length+4:Nat):Int)]) (hs:=[]) [] (zcS (Γ:=Γ) (lg.length+x.length+4) (by omega) (by omega)) rfl nbY trivial rfl (by decide) (by simp) (by trivial) (by simp) ?_;rintro v h' ⟨rfl,rfl⟩;refine⟨⟨by decide,by simp only[NI,nbS];decide,by simp only[qw,qK,nbS],trivial⟩,?_⟩;simp only[ren,tq,Za,xI,Ic,wZ,aZ,dX,el,ssH,ag,ae,reduceIte,af,aj,ah,ai];clear hback hJ
  have blk3:∀ v,∀ a<3,∀ y,lk [none,some (wB w),some (.tip 5 v)] a=some y→nbB 3 y:=by
   intro v a ha y hy;have:a=0∨a=1∨a=2:=by omega
   rcases this with rfl|rfl|rfl
   ·cases hy
   ·cases hy;simp only[wB,kY,nbS]
   ·cases hy;simp only[nbS]
  have hnb3:=RH (n:=3) (by decide) lg x mo k;refine mi [6,25,26,27] 36 (fun n vs h=>∃ (i v:Nat) (out:V),vs=[out,Df lg x mo k,it ((4:Nat):Int),it (i:Int)]∧i+n=5∧i≤4∧zic lg x w i v out∧h=[none,some (wB w),some (.tip 5 v)]) 5 (by decide) (by decide) (aJ 3) (jW rfl (by decide) (by decide) (by simp) (by show nbs 3 [.sl [] [] (.tipz 2 0 1),Df lg x mo k,it 4,it 0];simp only[hnb3,NI,nbS];decide) (blk3 0) ⟨0,0,_,rfl,rfl,by omega,.inl ⟨by omega,rfl,rfl⟩,rfl⟩) ?_;clear hlt g0 g3 g9 g10 g11;rintro n t h J hJ hlt ⟨i,v,out,hv,hk,hi,hO,rfl⟩;simp only[aZ,aP,and_true]at hv;obtain⟨g6,g25,g26,g27⟩:=hv;rw[mJ hlt];simp only[jV,upTo,g6,g25,g26,g27,ssH,ag,ae,reduceIte,af,aj,ah,ai]
  have hback:∀ (i v:Nat) (out:V),i≤4→5-i<n→zic lg x w i v out→∀ t3:List V,t3.length=36→[6,25,26,27].map (jT t3)=[out,Df lg x mo k,it ((4:Nat):Int),it (i:Int)]→J (aJ 3) ⟨t3,[none,some (wB w),some (.tip 5 v)]⟩:=by
   intro i v out hi4 hn hO t3 ht3 hm3;have hob:=zd5 hO;refine hJ (5-i) (aJ 3) _ hn (jW ht3 (by decide) (by decide) (by simp) ?_ (blk3 v) ⟨i,v,out,hm3,by omega,hi4,hO,rfl⟩);rw[hm3];simp only[hnb3,hob,nbS]
  have:i=0∨i=1∨i=2∨i=3∨i=4:=by omega
  rcases this with rfl|rfl|rfl|rfl|rfl
  ·rcases hO with ⟨_,rfl,rfl⟩|⟨q,_⟩
   ·simp only[n4 0 (by decide),e0,ssH,ag,ae,reduceIte,af,aj,ah,ai];refine yQ rfl ?_;simp only[jQ (show 0<4611686018427387904 by decide),ssH,ag,ae,reduceIte,af,aj,ah,ai];exact⟨_,hback 1 0 _ (by omega) (by omega) (.inl ⟨by omega,rfl,rfl⟩) _ rfl rfl⟩
   ·omega
  ·rcases hO with ⟨_,rfl,rfl⟩|⟨q,_⟩
   ·simp only[n4 1 (by decide),e1,ssH,ag,ae,reduceIte,af,aj,ah,ai];refine ZY (j:=2) (k:=0) (ys:=lg.map by8) rfl (lU hlg) rfl (uu _) (.inl (by simp only[aK];omega)) ?_;simp only[jQ (show 1<4611686018427387904 by decide),ssH,ag,ae,reduceIte,af,aj,ah,ai];exact⟨_,hback 2 1 _ (by omega) (by omega) (.inr ⟨by omega,rfl⟩) _ rfl rfl⟩
   ·omega
  ·rcases hO with ⟨q,_⟩|⟨_,rfl⟩
   ·omega
   ·simp only[n4 2 (by decide),e2,zaH,ssH,ag,ae,reduceIte,af,aj,ah,ai]
    by_cases hx:x=[]
    ·subst hx;refine yQ rfl ?_;simp only[jQ (show 2<4611686018427387904 by decide),ssH,ag,ae,reduceIte,af,aj,ah,ai];exact⟨_,hback 3 v _ (by omega) (by omega) (.inr ⟨by omega,by rw[zaH,aS];rfl⟩) _ rfl rfl⟩
    ·refine zD (j:=2) (k:=v) (ys:=x.map by8) rfl (lU hx) (lU hlg) rfl (lJ _) (uu _) (by simp only[aK];omega) ?_;simp only[jQ (show 2<4611686018427387904 by decide),ssH,ag,ae,reduceIte,af,aj,ah,ai];exact⟨_,hback 3 (v+1) _ (by omega) (by omega) (.inr ⟨by omega,by rw[zaH,bC];rfl⟩) _ rfl rfl⟩
  ·rcases hO with ⟨q,_⟩|⟨_,rfl⟩
   ·omega
   ·simp only[n4 3 (by decide),e3,zaH,ssH,ag,ae,reduceIte,af,aj,ah,ai];refine zD (j:=2) (k:=v) (ys:=w.map by8) (znk hw) (lU (by intro h;rw[h]at hw;simp at hw)) (lU (by simp[hlg])) rfl (lJ _) (uu _) (by simp only[aK,aH];omega) ?_;simp only[jQ (show 3<4611686018427387904 by decide),ssH,ag,ae,reduceIte,af,aj,ah,ai];exact⟨_,hback 4 (v+1) _ (by omega) (by omega) (.inr ⟨by omega,by show _=V.sl (((lg++x)++w).map by8) [] (.tip 2 (v+1));rw[bC (l₁:=lg++x)];rfl⟩) _ rfl rfl⟩
  ·rcases hO with ⟨q,_⟩|⟨_,rfl⟩
   ·omega
   ·simp only[show decide (((4:Nat):Int)<((4:Nat):Int))=false from rfl,zaH,ssH,ag,ae,reduceIte,af,aj,ah,ai];exact jy jD ⟨v,rfl,rfl⟩
theorem zo{σ:Nat→Nat}{l:List UInt8}:tq σ (l.map by8)=l.map by8:=Rn (jS l)
theorem UW{P:Program}{t:List V}{m:Store}{n z b o:Nat}{x:Operand}(h:ev Γ t x = .ptr b o):jJ P (ev Γ t) m (.sliceP n z x none none none)=some (.arr b o n n):=by
 simp only[jJ,h,lN,bounds,bY];rw[if_pos ⟨by decide,by omega,by omega,by omega,fun h=>by cases h⟩];simp
theorem zen{P:Program}{t:List V}{m:Store}{a b c d:Tmp}{x y z w:V}(h1:ev Γ t (.tmp a)=x)(h2:ev Γ t (.tmp b)=y)(h3:ev Γ t (.tmp c)=z)(h4:ev Γ t (.tmp d)=w)(k1:x.cells.length=1)(k2:y.cells.length=1)(k3:z.cells.length=1)(k4:w.cells.length=1) :
  jJ P (ev Γ t) m (.lits 1 [.sl [] [] .full] 4 [(0,.tmp a),(1,.tmp b),(2,.tmp c),(3,.tmp d)])=some (.sl [x,y,z,w] [] .full):=by
 show(pI 1 [.sl [] [] .full,.sl [] [] .full,.sl [] [] .full,.sl [] [] .full] [(0,ev Γ t (.tmp a)),(1,ev Γ t (.tmp b)),(2,ev Γ t (.tmp c)),(3,ev Γ t (.tmp d))]).map (fun es=>V.sl es [] .full)=_;rw[h1,h2,h3,h4];simp[pI,k1,k2,k3,k4]
theorem zaQ{l:List UInt8}{j v:Nat}(h:l≠[]):wN (.sl (l.map by8) [] (.tip j v))=slN l:=by
 have e:wNs (l.map by8)=l.map by8:=GX (fun _=>rfl) l;simp only[wN,e,wNs,slN]
 cases l with
 |nil=>exact absurd rfl h
 |cons b l=>rfl
theorem zci(n:Nat):(((le4 n).map by8).length=4∧((le4 n).map by8).all oW=true)=True:=eq_true ⟨rfl,rfl⟩
theorem zes(n:Nat):Ag [V.val (.int .u8 0),V.val (.int .u8 0),V.val (.int .u8 0),V.val (.int .u8 0)] 0 ((le4 n).map by8)=(le4 n).map by8:=rfl
theorem Yx(x mo:List UInt8)(tok:Tok)(hx:x.length≤1048576):jB Tryz.prog Γ 65 [.sl [] [] .full,.sl (x.map by8) (mo.map by8) tok] m fun o m'=>(∃ v,o = .ret v∧v = .tup [slN (frB x),it 0])∧m'=m:=by
 refine jB.tok [.sl [] [] .full] [] ?_;have z1:=ny (n:=(x.length:Int)) ⟨by omega,by omega⟩;refine BN mixed ziE zlp jP (by simp only[aB,aC,kY,nbS]) ?_;simp only[F65,aB,aC,ss0,ay,ag];simp only[aK,gt_iff_lt,show decide ((1048576:Int)<(x.length:Int))=false from decide_eq_false (by omega),ssH,ag,ae,reduceIte,af,aj,ah,ai];refine Gw (e:=5) (size:=1) (az:=[it x.length]) (es2:=(uz x.length).map by8) (by simp) rfl (lU (uB _)) (fun m=>qp (Γ:=Γ) (l:=[]) (.inr ⟨rfl,rfl,rfl⟩) (n:=(x.length:Int)) ⟨by omega,by omega⟩ (by simp)) nbY (jS _) fun k => ?_;simp only[ssH,ag,ae,reduceIte,af,aj,ah,ai];have hc:yj (uz x.length)<4294967296:=zb8 _;refine Iz (v:=u32 (yj (uz x.length))) rfl (fun m tok'=>za8 (uz x.length) .nil tok' (by omega)) (jS _) .nil .nil (by simp only[u32,nbS]) ?_;simp only[ssH,ag,ae,reduceIte,af,aj,ah,ai];refine jC (v:=u32 (yj (hdB x))) (fun m=>by have:=XU (Γ:=Γ) (m:=m) (yj (uz x.length)) hc x (more:=mo.map by8) (jS _) .no (by omega);rw[show Dx (yj (uz x.length)) x=yj (hdB x)from ZJ 0 _ _]at this;exact this) (by simp only[aC,aS,aB,u32,kY,nbS]) (by simp only[u32,nbS]) ?_;simp only[ssH,ag,ae,reduceIte,af,aj,ah,ai];refine jC (v:=.agg ((le4 (yj (hdB x))).map by8)) (fun m=>zca _) (by simp only[aC,aS,aB,u32,nbS]) (by simp only[kY,nbS]) ?_;simp only[jA,zci,if_true,zes,zbA,ssH,ag,ae,reduceIte,af,aj,ah,ai];rw[UW (b:=1) (o:=0) rfl];simp only[ssH,ag,ae,reduceIte,af,aj,ah,ai];rw[zen rfl rfl rfl rfl rfl rfl rfl rfl];simp only[ssH,ag,ae,reduceIte,af,aj,ah,ai];refine Yd (args0:=[Df (uz x.length) x mo k]) (hs:=[none,some (wB (le4 (yj (hdB x))))]) [0,1] (WJ (Γ:=Γ) (uz x.length) x (le4 (yj (hdB x))) mo k (uB _) rfl (by omega) (by omega)) (by simp only[Df,tq,ren,Za,rO,rP,zo];rfl) (by simp only[ax,aA,tZ,RH (show 2≤2 by decide),xZ,and_self]) (by simp only[Uy,qw,qK,wB,kY,nbS]) rfl (by decide) (by simp) (by simp only[Vl,uT,uy,wB,xI,zo];exact⟨rfl,trivial⟩) (by simp) ?_
 rintro v h' ⟨j,rfl,rfl⟩;refine⟨⟨by simp,by simp only[kY,nbS];simp,by simp only[Uy,qw,qK,wB,kY,nbS],by simp[nnl]⟩,?_⟩;simp only[ren,tq,Za,xI,wB,zo,rO,rP,Ic,wZ,yF,aZ,dX,ssH,ag,ae,reduceIte,af,aj,ah,ai];have hne:frB x≠[]:=by intro h;have:=zW x;rw[h]at this;simp at this
 have e2:wN (.tup [.sl ((frB x).map by8) [] (.tip 2 j),it 0]) = .tup [slN (frB x),it 0]:=by
  rw[wN,wNs,wNs,wNs,zaQ hne];rfl
 exact jy (v:=.tup [.sl ((frB x).map by8) [] (.tip 2 j),it 0]) rfl ⟨by rw[e2];simp only[oP,nbS],e2⟩
theorem zky(a b:Int)(d:Nat):kF Tryz.prog (Op.equalIn (d+1) 5 (.int .u8 a) (.int .u8 b))=some (a==b):=Aj (P:=Tryz.prog) (T:=5) (a:=.int .u8 a) (b:=.int .u8 b) (by kernel_rfl)
theorem zgY(a b c d:Value):kF Tryz.prog (part 5 #[a,b,c,d] 0)=some a∧kF Tryz.prog (part 5 #[a,b,c,d] 1)=some b∧kF Tryz.prog (part 5 #[a,b,c,d] 2)=some c∧kF Tryz.prog (part 5 #[a,b,c,d] 3)=some d:=by
 refine⟨?_,?_,?_,?_⟩<;>kernel_rfl
theorem zdL(a b c d a' b' c' d':Int):kF Tryz.prog (Op.equal 138 (.agg #[.int .u8 a,.int .u8 b,.int .u8 c,.int .u8 d]) (.agg #[.int .u8 a',.int .u8 b',.int .u8 c',.int .u8 d']))=some ((a==a')&&((b==b')&&((c==c')&&((d==d')&&true)))):=by
 have hu:Program.underlying Tryz.prog 138=some (.array 4 5):=by kernel_rfl
 have hs:kF Tryz.prog (sizeOf 5)=some 1:=by kernel_rfl
 obtain⟨p0,p1,p2,p3⟩:=zgY (.int .u8 a) (.int .u8 b) (.int .u8 c) (.int .u8 d);obtain⟨q0,q1,q2,q3⟩:=zgY (.int .u8 a') (.int .u8 b') (.int .u8 c') (.int .u8 d');show kF Tryz.prog (Op.equalIn (9998+1+1) 138 _ _)=_;rw[Op.equalIn];simp only[kS,pz hu,bi,hs];simp only[Std.Legacy.Range.forIn_eq_forIn_range',Std.Legacy.Range.size,Nat.sub_zero,Nat.add_one_sub_one,fH];simp only[show List.range' 0 4 1=[0,1,2,3]from rfl,List.forIn_cons,List.forIn_nil,Nat.zero_mul,Nat.mul_one]
 cases h0:a==a'<;>cases h1:b==b'<;>cases h2:c==c'<;>cases h3:d==d' <;>
  simp only[kS,lM,p0,p1,p2,p3,q0,q1,q2,q3,bi,zky,h0,h1,h2,h3,aO,aN,if_true,aF,if_false]<;>rfl
theorem zfe(xo yo:Operand)(x y:List UInt8)(hx:x.length=4)(hy:y.length=4):kR Tryz.prog .neq 138 .other xo yo (.agg (x.map by8)) (.agg (y.map by8))=some (.val (.bool (!decide (x=y)))):=by
 obtain⟨a,b,c,d,rfl⟩:∃ a b c d,x=[a,b,c,d]:=by
  match x,hx with
  |[a,b,c,d],_=>exact⟨a,b,c,d,rfl⟩
 obtain⟨a',b',c',d',rfl⟩:∃ a b c d,y=[a,b,c,d]:=by
  match y,hy with
  |[a,b,c,d],_=>exact⟨a,b,c,d,rfl⟩
 have e0:=zdL a.toNat b.toNat c.toNat d.toNat a'.toNat b'.toNat c'.toNat d'.toNat;have hg:Program.eqGuardType Tryz.prog (Program.depth Tryz.prog) 138=false:=by kernel_rfl
 have g:kF Tryz.prog (eqGuard .neq 138 xo yo (.agg #[.int .u8 a.toNat,.int .u8 b.toNat,.int .u8 c.toNat,.int .u8 d.toNat]) (.agg #[.int .u8 a'.toNat,.int .u8 b'.toNat,.int .u8 c'.toNat,.int .u8 d'.toNat]))=some ():=by
  unfold eqGuard;simp only[aO,aN,aF,if_false,if_true,kS,rJ,bi,hg,lM]
 have r1:raw (.agg ([a,b,c,d].map by8))=some (.agg #[.int .u8 a.toNat,.int .u8 b.toNat,.int .u8 c.toNat,.int .u8 d.toNat]):=rfl;have r2:raw (.agg ([a',b',c',d'].map by8))=some (.agg #[.int .u8 a'.toNat,.int .u8 b'.toNat,.int .u8 c'.toNat,.int .u8 d'.toNat]):=rfl
 have e:((a.toNat:Int)==(a'.toNat:Int)&&((b.toNat:Int)==(b'.toNat:Int)&&((c.toNat:Int)==(c'.toNat:Int)&&((d.toNat:Int)==(d'.toNat:Int)&&true))))=decide ([a,b,c,d]=[a',b',c',d']):=by
  have k:∀ u v:UInt8,((u.toNat:Int)==(v.toNat:Int))=decide (u=v):=by
   intro u v;rw[bQ,beq_iff_eq,decide_eq_true_eq];constructor
   ·intro h;exact UInt8.toNat_inj.1 (by omega)
   ·rintro rfl;rfl
  simp only[k];simp[aP]
 rw[e]at e0;simp only[kR,nY,kZ,zB,dK,Bool.or_self,aF,if_false,r1,r2,kS,g,bi,binOp,e0,lM,lX,if_true]
end
end Go.Av.Fn
namespace Go.Av
end Go.Av
namespace Go.Av.Fn
open Go.Proofs
def mgB(nn:Bool)(x:Mg):Blk:=.var 68 (zm1 nn x)
def btB(l:List UInt8)(j k:Nat):Blk:=.var 22 [.sl (l.map by8) [] (.tip j k)]
theorem Hz{σ:Nat→Nat}{T:TypeId}{v:Nat}:xI σ (.tip T v) = .tip T v:=(rfl)
section
variable {Γ:jG} {m:Store}
def putH(nn:Bool)(x:Mg)(l:List UInt8)(k:Nat):Hl:=[some (mgB nn x),some (btB l 2 k),some (.tip 5 k)]
end
section
variable {Γ:jG} {m:Store} {s:List UInt8}
end
structure Cn (s:List UInt8) (a:Nat) (e:Int) (b:Nat) (w:List UInt8):Prop where
 e0:e=0
 le:b≤s.length
 eq:s.take b=s.take a++w
section
variable {s w w2:List UInt8} {a b c:Nat} {e:Int}
theorem Cn.trans(h:Cn s a e b w)(k:Cn s b 0 c w2):Cn s a e c (w++w2):=⟨h.e0,k.le,by rw[k.eq,h.eq,bg]⟩
end
theorem UN{s:List UInt8}:∀ {n a:Nat} {e:Int},a≤s.length→(vJ n s a e).2.1≤s.length
 |0,a,e,ha=>ha
 |n+1,a,e,ha=>by
  rw[vJ]
  split
  ·exact UN (Ls ha)
  ·exact ha
theorem zeE{s:List UInt8}{a:Nat}{e:Int}(ha:a≤s.length):(IB s a e).2.1≤s.length:=by
 unfold IB;exact UN (EK (zt (lh ha)))
theorem vG{x:Lg}:lgB x=true↔0≤x.b∧x.b≤2147483647∧x.c.length≤65536∧(x.c=[]↔x.b=0)∧x.l.length≤64∧(x.l.length:Int)≤2147483647-x.b∧∀ e∈x.l,nN e=true:=by
 simp only[lgB,aG,decide_eq_true_eq,List.all_eq_true,beq_iff_eq,and_assoc]
 have:((x.c==[])=(x.b==0))↔(x.c=[]↔x.b=0):=by
  rw[bQ];simp
 rw[this]
structure Inv (nn:Bool) (x:Lg) (L:List Ent):Prop where
 nil:nn=true∨x.l=[]
 right:lgB x=true
 len:x.b+x.l.length=L.length
 ent:x.l=L.drop x.b.toNat
 nums:∀ e∈x.l,GN e
theorem Inv.base{nn:Bool}{x:Lg}{L:List Ent}(h:Inv nn x L):0≤x.b∧x.b≤L.length∧x.l.length≤64∧x.b≤2147483647:=by
 have h1:=vG.1 h.right;have h2:=h.len;omega
theorem zdq{x:Lg}(hx:lgB x=true)(e:Ent):(doL x (lT x e)=(true,⟨x.b,x.c,x.l++[e]⟩,0)∧nN e=true∧x.l.length<64∧x.b+x.l.length<2147483647)∨∃ n,n≠0∧doL x (lT x e)=(false,lg0,n):=by
 have hb:=vG.1 hx
 by_cases he:nN e=true
 ·by_cases hf:x.l.length=64∨x.b+x.l.length=2147483647
  ·exact .inr ⟨12,by decide,SL (a:=false) (y:=lg0) hx (by simp only[lT,he,if_true,if_pos hf]) (by decide)⟩
  ·refine .inl ⟨zc3 hx (by simp only[lT,he,if_true,if_neg hf]),he,?_,?_⟩<;>omega
 ·exact .inr ⟨2,by decide,SL (a:=false) (y:=lg0) hx (by simp only[lT,if_neg he]) (by decide)⟩
theorem Inv.cut{nn:Bool}{x:Lg}{L:List Ent}(h:Inv nn x L){n:Nat}(hn:n≤x.l.length):Inv nn ⟨x.b,x.c,x.l.take n⟩ (L.take (x.b+n).toNat):=by
 have hb:=h.base;have hr:=vG.1 h.right;have hl:=h.len;refine⟨h.nil.imp id fun q=>by simp[q],vG.2 ⟨hr.1,hr.2.1,hr.2.2.1,hr.2.2.2.1,?_,?_,?_⟩,?_,?_,?_⟩
 ·simp only[bf];omega
 ·simp only[bf];omega
 ·exact fun e he=>hr.2.2.2.2.2.2 e (dw he)
 ·show x.b+((x.l.take n).length:Int)=((L.take (x.b+n).toNat).length:Int);simp only[bf];omega
 ·show x.l.take n=(L.take (x.b+n).toNat).drop x.b.toNat;rw[h.ent,dJ,show(x.b+(n:Int)).toNat-x.b.toNat=n by omega]
 ·exact fun e he=>h.nums e (dw he)
theorem Inv.comp{nn:Bool}{x:Lg}{L:List Ent}(h:Inv nn x L){n:Nat}(hn:n≤x.l.length)(h0:0<n):Inv nn ⟨x.b+n,[99],x.l.drop n⟩ L:=by
 have hb:=h.base;have hr:=vG.1 h.right;have hl:=h.len;refine⟨h.nil.imp id fun q=>by simp[q],vG.2 ⟨?_,?_,?_,?_,?_,?_,?_⟩,?_,?_,?_⟩
 ·simp only;omega
 ·simp only;omega
 ·simp
 ·simp only[List.cons_ne_nil,false_iff];omega
 ·simp;omega
 ·simp;omega
 ·exact fun e he=>hr.2.2.2.2.2.2 e (iV he)
 ·simp;omega
 ·show x.l.drop n=L.drop (x.b+n).toNat;rw[h.ent,bV];congr 1;omega
 ·exact fun e he=>h.nums e (iV he)
theorem Inv.app{nn:Bool}{x:Lg}{L:List Ent}(h:Inv nn x L){e:Ent}(he:nN e=true)(hn:GN e)(h1:x.l.length<64)(h2:x.b+x.l.length<2147483647):Inv true ⟨x.b,x.c,x.l++[e]⟩ (L++[e]):=by
 have hb:=h.base;have hr:=vG.1 h.right;have hl:=h.len;refine⟨.inl rfl,vG.2 ⟨hr.1,hr.2.1,hr.2.2.1,hr.2.2.2.1,?_,?_,?_⟩,?_,?_,?_⟩
 ·simp;omega
 ·simp;omega
 ·intro y hy
  rcases List.mem_append.1 hy with q|q
  ·exact hr.2.2.2.2.2.2 y q
  ·rw[List.mem_singleton.1 q];exact he
 ·simp;omega
 ·show x.l++[e]=(L++[e]).drop x.b.toNat;rw[List.drop_append_of_le_length (by omega),←h.ent]
 ·intro y hy
  rcases List.mem_append.1 hy with q|q
  ·exact h.nums y q
  ·rw[List.mem_singleton.1 q];exact hn
theorem Inv.again{nn:Bool}{x:Lg}{L:List Ent}(h:Inv nn x L):Inv (!x.l.isEmpty) x L:=⟨zaf,h.right,h.len,h.ent,h.nums⟩
end Go.Av.Fn
namespace Go.Av
def zk4(k:Tok):Prop:=FB (fun _ _=>False) k k
def znq(k:Tok):Prop:=zk4 k∨∃ j v,k = .tip j v∧1≤j
def zk5(k:Tok):Prop:=zk4 k∨∃ v,k = .tip 1 v
theorem zk5.a{k:Tok}(h:zk5 k):znq k:=h.imp id fun ⟨v,e⟩=>⟨1,v,e,aY _⟩
section
variable {t:List V} {h:Hl}
end
end Go.Av
namespace Go.Av.Fn
open Go.Proofs
structure Act where
 k:Int
 op:Int
 e:Ent
section
variable {Γ:jG} {m:Store}
end
def tkB(s:List UInt8)(a:Nat)(e:Int):Blk:=.var 126 [bs s,it a,it e]
theorem kQ{k:Nat}{s:List UInt8}{a:Nat}{e:Int}:nbB k (tkB s a e):=by simp only[tkB,nbS]
section
variable {Γ:jG} {m:Store} {rb a:Nat} {s:List UInt8} {e:Int}
theorem ve(hr:m rb=some (tkB s a e))(ha:a≤s.length)(hs:s.length<4611686018427387904) :
  jB Tryz.prog Γ 72 [.ptr rb 0] m fun o m'=>o = .ret (it (mf s a e).1)∧m'=m.set rb (tkB s (mf s a e).2.1 (mf s a e).2.2):=by
 refine pg (pK mixed ziD zlo jP hr kQ nbY ?_);simp only[F72,tkB,ss0,ay,ag];simp only[ssH,ag,ae,reduceIte,af,aj,ah,ai];refine jC (by exact fun m=>LW s a e ha hs) nbX (by simp only[nS,nbS]) ?_;simp only[rdV,jA,ssH,ag,ae,reduceIte,af,aj,ah,ai];exact jy (v:=it (mf s a e).1) rfl ⟨by simp only[nbS],_,rfl,kQ,rfl,rfl⟩
theorem TF(most:Int)(hr:m rb=some (tkB s a e))(ha:a≤s.length)(hs:s.length<4611686018427387904) :
  jB Tryz.prog Γ 122 [.ptr rb 0,it most] m fun o m'=>o = .ret (bs (nJ s a e most).1)∧m'=m.set rb (tkB s (nJ s a e most).2.1 (nJ s a e most).2.2):=by
 refine pg (pK mixed zgB zj9 jP hr kQ nbY ?_);simp only[zka,tkB,ss0,ay,ag];simp only[ssH,ag,ae,reduceIte,af,aj,ah,ai];refine jC (by exact fun m=>O6 s a e most ha hs) nbX (by simp only[nS,nbS]) ?_;simp only[rdV,jA,ssH,ag,ae,reduceIte,af,aj,ah,ai];exact jy (v:=bs (nJ s a e most).1) rfl ⟨by simp only[nbS],_,rfl,kQ,rfl,rfl⟩
theorem Y3(hr:m rb=some (tkB s a e))(ha:a≤s.length)(hs:s.length<4611686018427387904) :
  jB Tryz.prog Γ 124 [.ptr rb 0] m fun o m'=>o = .ret (it (lI s a e 1048576).1)∧m'=m.set rb (tkB s (lI s a e 1048576).2.1 (lI s a e 1048576).2.2):=by
 refine pg (pK mixed zgz zj5 jP hr kQ nbY ?_);simp only[zj6,tkB,ss0,ay,ag];simp only[ssH,ag,ae,reduceIte,af,aj,ah,ai];refine jC (by exact fun m=>FW s a e 1048576 ha hs) nbX (by simp only[nS,nbS]) ?_;simp only[rdV,jA,ssH,ag,ae,reduceIte,af,aj,ah,ai];exact jy (v:=it (lI s a e 1048576).1) rfl ⟨by simp only[nbS],_,rfl,kQ,rfl,rfl⟩
theorem MH(hr:m rb=some (tkB s a e)):jB Tryz.prog Γ 74 [.ptr rb 0] m fun o m'=>o = .ret (.val (.bool (e==0)))∧m'=m:=by
 refine Fz hr (pK mixed ziC zln jP hr kQ nbY ?_);simp only[F74,tkB,ss0,ay,ag];simp only[ssH,ag,ae,reduceIte,af,aj,ah,ai];exact jy (v:=.val (.bool (e==0))) rfl ⟨by simp only[nbS],_,rfl,kQ,rfl,rfl⟩
set_option maxHeartbeats 1600000 in
theorem Pq(hr:m rb=some (tkB s a e))(ha:a≤s.length)(hs:s.length<4611686018427387904) :
  jB Tryz.prog Γ 76 [.ptr rb 0] m fun o m'=>o = .ret (kM (zF s a e).1)∧m'=m.set rb (tkB s (zF s a e).2.1 (zF s a e).2.2):=by
 unfold zF;obtain⟨c,a1,e1,h1⟩:∃ x y z,mf s a e=(x,y,z):=⟨_,_,_,rfl⟩;have l1:=lh (e:=e) ha;rw[h1]at l1;obtain⟨q,a2,e2,h2⟩:∃ x y z,mf s a1 e1=(x,y,z):=⟨_,_,_,rfl⟩;have l2:=lh (e:=e1) l1;rw[h2]at l2;obtain⟨k,a3,e3,h3⟩:∃ x y z,mf s a2 e2=(x,y,z):=⟨_,_,_,rfl⟩;have l3:=lh (e:=e2) l2;rw[h3]at l3;obtain⟨n,a4,e4,h4⟩:∃ x y z,mf s a3 e3=(x,y,z):=⟨_,_,_,rfl⟩;have l4:=lh (e:=e3) l3;rw[h4]at l4;obtain⟨t,a5,e5,h5⟩:∃ x y z,nJ s a4 e4 255=(x,y,z):=⟨_,_,_,rfl⟩;have l5:=zt (most:=255) (e:=e4) l4;rw[h5]at l5;obtain⟨⟨dk,dn,dt⟩,a6,e6,h6⟩:∃ x y z,Bh s a5 e5=(x,y,z):=⟨_,_,_,rfl⟩;simp only at l1 l2 l3 l4 l5;simp only[h1,h2,h3,h4,h5,h6];refine pg (pK mixed ziB zlm jP hr kQ nbY ?_);simp only[F76,ss0,ay,ag];simp only[ssH,ag,ae,reduceIte,af,aj,ah,ai];refine jO (b:=0) (X:=tkB s a e) rfl rfl (fun m b' h=>ve h ha hs) kQ kQ nbY nbY ?_;simp only[h1,ssH,ag,ae,reduceIte,af,aj,ah,ai];refine jO (b:=0) (X:=tkB s a1 e1) rfl rfl (fun m b' h=>ve h l1 hs) kQ kQ nbY nbY ?_;simp only[h2,ssH,ag,ae,reduceIte,af,aj,ah,ai];refine jO (b:=0) (X:=tkB s a2 e2) rfl rfl (fun m b' h=>ve h l2 hs) kQ kQ nbY nbY ?_;simp only[h3,ssH,ag,ae,reduceIte,af,aj,ah,ai];refine jO (b:=0) (X:=tkB s a3 e3) rfl rfl (fun m b' h=>ve h l3 hs) kQ kQ nbY nbY ?_;simp only[h4,ssH,ag,ae,reduceIte,af,aj,ah,ai];refine jO (b:=0) (az:=[it 255]) (X:=tkB s a4 e4) rfl rfl (fun m b' h=>TF 255 h l4 hs) kQ kQ nbY nbY ?_;simp only[h5,ssH,ag,ae,reduceIte,af,aj,ah,ai];simp only[tkB,ssH,ag,ae,reduceIte,af,aj,ah,ai];refine jC (by exact fun m=>zdI s a5 e5 l5 hs) nbX (by simp only[nS,XN,nbS]) ?_
 simp only[h6,rdV,SY,zK,jA,ssH,ag,ae,reduceIte,af,aj,ah,ai];refine kw (b:=0) (X:=tkB s a6 e6) rfl rfl (fun m b' h=>MH h) kQ nbY nbY ?_;cases he:(e6==0)
 ·have h0:e6≠0:=by simpa using he
  simp only[he,jA,ssH,ag,ae,reduceIte,af,aj,ah,ai];exact jy (v:=kM e0) rfl ⟨lY _,_,rfl,kQ,by rw[if_pos h0],rfl⟩
 ·have h0:e6=0:=by simpa using he
  subst h0;simp only[he,jA,ssH,ag,ae,reduceIte,af,aj,ah,ai];exact jy (v:=kM ⟨c,q,k,n,t,dk,dn,dt⟩) rfl ⟨lY _,_,rfl,kQ,by simp,rfl⟩
set_option maxHeartbeats 1600000 in
theorem Zn(hr:m rb=some (tkB s a e))(ha:a≤s.length)(hs:s.length<4611686018427387904) :
  jB Tryz.prog Γ 77 [.ptr rb 0] m fun o m'=>o = .ret (lgN (IB s a e).1)∧m'=m.set rb (tkB s (IB s a e).2.1 (IB s a e).2.2):=by
 unfold IB;obtain⟨b,a1,e1,h1⟩:∃ x y z,mf s a e=(x,y,z):=⟨_,_,_,rfl⟩;have l1:=lh (e:=e) ha;rw[h1]at l1;obtain⟨c,a2,e2,h2⟩:∃ x y z,nJ s a1 e1 65536=(x,y,z):=⟨_,_,_,rfl⟩;have l2:=zt (most:=65536) (e:=e1) l1;rw[h2]at l2;have hcr:=Nq (s:=s) (a:=a2) (e:=e2);obtain⟨n0,a3,e3,h3⟩:∃ x y z,lI s a2 e2 1048576=(x,y,z):=⟨_,_,_,rfl⟩;have l3:=EK (most:=1048576) (e:=e2) l2;rw[h3]at l3 hcr;simp only at l1 l2 l3 hcr;obtain⟨n1,rfl⟩:=ed hcr.1;simp only[h1,h2,h3,bn];have hn1:n1≤1048576:=by omega
 refine pg (QO mixed ziA zll jP hr kQ nbY ?_);simp only[F77,ss0,ay,ag];simp only[ssH,ag,ae,reduceIte,af,aj,ah,ai];refine jO (b:=0) (X:=tkB s a e) rfl rfl (fun m b' h=>ve h ha hs) kQ kQ nbY nbY ?_;simp only[h1,jA,ssH,ag,ae,reduceIte,af,aj,ah,ai];refine jO (b:=0) (az:=[it 65536]) (X:=tkB s a1 e1) rfl rfl (fun m b' h=>TF 65536 h l1 hs) kQ kQ nbY nbY ?_;simp only[h2,jA,ssH,ag,ae,reduceIte,af,aj,ah,ai];refine jO (b:=0) (X:=tkB s a2 e2) rfl rfl (fun m b' h=>Y3 h l2 hs) kQ kQ nbY nbY ?_;simp only[h3,ssH,ag,ae,reduceIte,af,aj,ah,ai];generalize hQ:uf 0 _=Q
 have tail:∀ {t':List V} {a:Nat} {e:Int} {out:List Ent} {tok:Tok} {r:Hl},t'.length=35→jT t' 0 = .ptr 0 0→jT t' 2 = .ptr 1 0→jT t' 3 = .ptr 2 0→Bo out tok r→vJ n1 s a3 e3=(out,a,e) →
   Q (.exit 0) ⟨t',some (tkB s a e)::some lgZ::some (lgT b c out tok)::r⟩:=by
  intro t' a e out tok r hlt q0 q2 q3 hB hg;rw[←hQ,mJ hlt];simp only[jV,upTo,q0,q2,q3,hg,lgZ,lgT,ssH,ag,ae,reduceIte,af,aj,ah,ai];refine kw (b:=0) (X:=tkB s a e) rfl rfl (fun m b' h=>MH h) kQ nbY nbY ?_;cases he:(e==0)
  ·have h0:e≠0:=by simpa using he
   simp only[he,jA,ssH,ag,ae,reduceIte,af,aj,ah,ai];exact jy (v:=.agg [it 0,bs [],.sl [] [] .full]) rfl ⟨Gn (x:=lg0),_,rfl,kQ,by rw[if_pos h0];rfl,rfl⟩
  ·have h0:e=0:=by simpa using he
   subst h0
   have hw:wN (.agg [it b,bs c,.sl (out.map kM) [] tok])=lgN ⟨b,c,out⟩:=by
    have:=zhn hB;simp only[wN,wNs]at this ⊢;rw[this];rfl
   simp only[he,jA,ssH,ag,ae,reduceIte,af,aj,ah,ai];exact jy (v:=.agg [it b,bs c,.sl (out.map kM) [] tok]) rfl ⟨by rw[hw];exact Gn,_,rfl,kQ,by rw[hw,if_neg (by simp)],rfl⟩
 have blk:∀ {a:Nat} {e:Int} {out:List Ent} {tok:Tok} {r:Hl},Bo out tok r→∀ i<3+r.length,∀ x,lk (some (tkB s a e)::some lgZ::some (lgT b c out tok)::r) i=some x→nbB (3+r.length) x:=by
  intro a e out tok r hB i hi x hx
  cases i with
  |zero=>cases hx;exact kQ
  |succ i=>exact WW (s:=s) (a:=a) (e:=e) (b:=b) (c:=c) hB (i+1) hi x hx
 refine mi [0,2,3,4,5] 35 (fun n vs h=>∃ (i j a:Nat) (e:Int) (out:List Ent) (tok:Tok) (r:Hl),vs=[.ptr 0 0,.ptr 1 0,.ptr 2 0,it n1,it i]∧h=some (tkB s a e)::some lgZ::some (lgT b c out tok)::r∧Bo out tok r∧a≤s.length∧n=j+1∧i+j=n1∧j+out.length≤n1∧vJ n1 s a3 e3=(out++(vJ j s a e).1,(vJ j s a e).2)) (n1+1) (by decide) (by decide) (aJ 3) (jW rfl (by decide) (by decide) (by simp) ?_ ?_ ⟨0,n1,a3,e3,[],.full,[],rfl,rfl,.inl ⟨rfl,rfl,rfl⟩,l3,rfl,by omega,by simp,rfl⟩) ?_
 ·show nbs 3 [.ptr 0 0,.ptr 1 0,.ptr 2 0,it n1,it 0];simp only[nbS];decide
 ·exact blk (r:=[]) (.inl ⟨rfl,rfl,rfl⟩)
 rintro n t h J hJ hlt ⟨i,j,a,e,out,tok,r,hv,rfl,hB,hle,hn,hij,hjo,hg⟩;simp only[aZ,aP,and_true]at hv;obtain⟨g0,g2,g3,g4,g5⟩:=hv;rw[mJ hlt];simp only[jV,upTo,g0,g2,g3,g4,g5,ssH,ag,ae,reduceIte,af,aj,ah,ai]
 by_cases hj:0<j
 ·simp only[show decide ((i:Int)<(n1:Int))=true from decide_eq_true (by omega),ssH,ag,ae,reduceIte,af,aj,ah,ai];refine kw (b:=0) (X:=tkB s a e) rfl rfl (fun m b' h=>MH h) kQ nbY nbY ?_;cases he:(e==0)
  ·have h0:e≠0:=by simpa using he
   rw[Qq h0]at hg;simp only[he,ssH,ag,ae,reduceIte,af,aj,ah,ai];exact tail rfl rfl rfl rfl hB (by rw[hg,aS])
  ·have h0:e=0:=by simpa using he
   subst h0;obtain⟨j,rfl⟩:∃ i,j=i+1:=⟨j-1,by omega⟩;have l4:=Ls (e:=0) hle;obtain⟨x,a4,e4,h4⟩:∃ x y z,zF s a 0=(x,y,z):=⟨_,_,_,rfl⟩;rw[vJ,if_pos rfl,h4]at hg;rw[h4]at l4;simp only[he,lgT,ssH,ag,ae,reduceIte,af,aj,ah,ai];refine jO (b:=0) (X:=tkB s a 0) rfl rfl (fun m b' h=>Pq h hle hs) kQ kQ nbY (lY _) ?_;simp only[h4,kM,Il,Ec,ssH,ag,ae,reduceIte,af,aj,ah,ai];refine zde hB (by omega) fun k => ?_;simp only[rY,vw,jQ (show i<4611686018427387904 by omega),ssH,ag,ae,reduceIte,af,aj,ah,ai];have hB2:Bo (out++[x]) (.tip 3 k) [some (.tip 42 k)]:=.inr ⟨k,rfl,by simp,rfl⟩;refine⟨_,hJ (j+1) (aJ 4) _ (by omega) (jW rfl (by decide) (by decide) (by simp) ?_ (blk hB2 (a:=a4) (e:=e4)) ⟨i+1,j,a4,e4,out++[x],.tip 3 k,_,rfl,rfl,hB2,l4,rfl,by omega,by simp;omega,by rw[hg];simp⟩)⟩;show nbs 4 [.ptr 0 0,.ptr 1 0,.ptr 2 0,it n1,it (i+1:Nat)];simp only[nbS];decide
 ·have hj0:j=0:=by omega
  subst hj0;simp only[show decide ((i:Int)<(n1:Int))=false from decide_eq_false (by omega),ssH,ag,ae,reduceIte,af,aj,ah,ai];rw[vJ]at hg;exact tail rfl rfl rfl rfl hB (by rw[hg,aS])
end
theorem rZ{P:Program}{T:TypeId}{xo yo:Operand}(x y:List UInt8)(h:x.length+y.length≤1000000000000000000):kR P .add T .other xo yo (bs x) (bs y)=some (bs (x++y)):=Td (x:=x) (y:=y) (by omega)
section
variable {Γ:jG} {m:Store}
theorem PQ(e:Ent)(he:zdG e):jB Tryz.prog Γ 52 [kM e] m fun o m'=>o = .ret (bs (pX e))∧m'=m:=by
 have hne:=lY (k:=0) e;obtain⟨⟨h1,h2,h3,h4,h5,h6⟩,hs,hc⟩:=he;have z1:=ny h1;have z2:=ny h2;have z3:=ny h3;have z4:=ny h4;have z5:=ny (n:=(e.s.length:Int)) ⟨by omega,by omega⟩;have z6:=Ui (k:=e.ck) (n:=e.cn) h5 h6 (t:=e.cs) (by omega)
 have e0:pX e=uz e.c++uz e.q++uz e.k++uz e.n++(uz e.s.length++e.s)++AL e.ck e.cn e.cs:=by
  simp only[pX,kH,bg,aS]
 rw[e0];refine jY (jZ mixed ziN zlx jP (by simp only[hne,nbS]) ?_);simp only[F52,kM,ss0,ay,ag];simp only[jA,ssH,ag,ae,reduceIte,af,aj,ah,ai];refine jC (v:=bs (uz e.c)) (by exact fun m=>oU h1) nbY nbY ?_;simp only[ssH,ag,ae,reduceIte,af,aj,ah,ai];refine jC (v:=bs (uz e.q)) (by exact fun m=>oU h2) nbY nbY ?_;simp only[rZ _ _ (show(uz e.c).length+(uz e.q).length≤1000000000000000000 by omega),ssH,ag,ae,reduceIte,af,aj,ah,ai];refine jC (v:=bs (uz e.k)) (by exact fun m=>oU h3) nbY nbY ?_;simp only[rZ _ _ (show(uz e.c++uz e.q).length+(uz e.k).length≤1000000000000000000 by simp only[aH];omega),ssH,ag,ae,reduceIte,af,aj,ah,ai];refine jC (v:=bs (uz e.n)) (by exact fun m=>oU h4) nbY nbY ?_;simp only[rZ _ _ (show(uz e.c++uz e.q++uz e.k).length+(uz e.n).length≤1000000000000000000 by simp only[aH];omega),ssH,ag,ae,reduceIte,af,aj,ah,ai];refine jC (v:=bs (uz e.s.length++e.s)) (by exact fun m=>LV e.s (by omega)) nbY nbY ?_;simp only[rZ _ _ (show(uz e.c++uz e.q++uz e.k++uz e.n).length+(uz e.s.length++e.s).length≤1000000000000000000 by simp only[aH];omega),ssH,ag,ae,reduceIte,af,aj,ah,ai];refine jC (v:=bs (AL e.ck e.cn e.cs)) (by exact fun m=>zdH h5 h6 (by omega)) nbX nbY ?_;simp only[rZ _ _ (show(uz e.c++uz e.q++uz e.k++uz e.n++(uz e.s.length++e.s)).length+(AL e.ck e.cn e.cs).length≤1000000000000000000 by simp only[aH];omega),ssH,ag,ae,reduceIte,af,aj,ah,ai];exact jy (v:=bs (uz e.c++uz e.q++uz e.k++uz e.n++(uz e.s.length++e.s)++AL e.ck e.cn e.cs)) rfl ⟨by simp only[nbS],rfl⟩
theorem Zl(nn:Bool)(x:Lg)(hx:zff x):jB Tryz.prog Γ 56 [lgV nn x] m fun o m'=>o = .ret (bs (xY x))∧m'=m:=by
 have hnb:=pO (k:=0) nn x;have hnl:=kL (k:=0) nn x.l;have hlb:∀ k,nbB k (zA nn x):=fun k=>by have:=kL (k:=k) nn x.l;simp only[zA,this,nbS]
 obtain⟨h1,h2,h3,h4⟩:=id hx;have z1:=ny h1;have z2:=ny (n:=(x.c.length:Int)) ⟨by omega,by omega⟩;have z3:=ny (n:=(x.l.length:Int)) ⟨by omega,by omega⟩;refine jY (jZ mixed ziJ zlt jP (by simp only[hnb,nbS]) ?_);simp only[F56,lgV,ss0,ay,ag];simp only[Bc,jA,ssH,ag,ae,reduceIte,af,aj,ah,ai];refine jC (v:=bs (uz x.b)) (by exact fun m=>oU h1) nbY nbY ?_;simp only[ssH,ag,ae,reduceIte,af,aj,ah,ai];refine jC (v:=bs (uz x.c.length++x.c)) (by exact fun m=>LV x.c (by omega)) nbY nbY ?_;simp only[rZ _ _ (show(uz x.b).length+(uz x.c.length++x.c).length≤1000000000000000000 by simp only[aH];omega),ssH,ag,ae,reduceIte,af,aj,ah,ai];refine jC (v:=bs (uz x.l.length)) (by exact fun m=>oU ⟨by omega,by omega⟩) nbY nbY ?_;simp only[rZ _ _ (show(uz x.b++(uz x.c.length++x.c)).length+(uz x.l.length).length≤1000000000000000000 by simp only[aH];omega),ssH,ag,ae,reduceIte,af,aj,ah,ai];have hpe:xY x=uz x.b++(uz x.c.length++x.c)++uz x.l.length++pW x.l:=rfl;obtain⟨pl,hpl⟩:∃ z,z=uz x.b++(uz x.c.length++x.c)++uz x.l.length:=⟨_,rfl⟩;rw[hpe,←hpl];have hpo:pl.length≤3100000:=by rw[hpl];simp only[aH];omega
 clear hpl hpe;refine mi [1,3,4] 33 (fun n vs h=>∃ i:Nat,vs=[.ptr 0 0,bs (pl++pW (x.l.take i)),it i]∧i+n=x.l.length+1∧i≤x.l.length∧h=[some (zA nn x)]) (x.l.length+1) (by decide) (by decide) (aJ 1) (jW rfl (by decide) (by decide) (by simp) (by show nbs 1 [.ptr 0 0,bs pl,it 0];simp only[nbS];decide) (Ij (hlb 1)) ⟨0,by simp only[dM,pW,aS];rfl,by omega,by omega,rfl⟩) ?_;rintro n t h J hJ hlt ⟨i,hv,hi1,hi2,rfl⟩;simp only[aZ,aP,and_true]at hv;obtain⟨g1,g3,g4⟩:=hv
 have hlen:(pW (x.l.take i)).length≤4000100*1000:=by
  have:=Ns (l:=x.l.take i) fun e he=>h4 e (dw he);rw[bf]at this;omega
 obtain⟨pr,hpr⟩:∃ z,z=pl++pW (x.l.take i):=⟨_,rfl⟩;have hprl:pr.length≤5000000000:=by rw[hpr,aH];omega
 rw[←hpr]at g3;rw[mJ hlt];simp only[jV,upTo,g1,g3,g4,zA,Bc,ssH,ag,ae,reduceIte,af,aj,ah,ai]
 by_cases hil:i<x.l.length
 ·have hx2:x.l[i]? = some x.l[i]:=aI hil;have hei:zdG x.l[i]:=h4 _ (dS _)
  have hst:pl++pW (x.l.take (i+1))=pr++pX x.l[i]:=by
   rw[aW,hx2,PY,hpr];simp[pW]
  generalize x.l[i]=e at hx2 hei hst;have hpel:=DY hei.1 (by have:=hei.2.2;omega) (by have:=hei.2.1;omega);have hel:=hei.2;simp only[show decide ((i:Int)<(x.l.length:Int))=true from decide_eq_true (by omega),lH,CU hx2,jA,ssH,ag,ae,reduceIte,af,aj,ah,ai];refine jC (by exact fun m=>PQ e hei) nbX nbY ?_;simp only[rZ pr (pX e) (by omega),jQ (show i<4611686018427387904 by omega),ssH,ag,ae,reduceIte,af,aj,ah,ai];exact⟨_,hJ (n-1) (aJ 1) _ (by omega) (jW rfl (by decide) (by decide) (by simp) (by show nbs 1 [.ptr 0 0,bs (pr++pX e),it (i+1:Nat)];simp only[nbS];decide) (Ij (hlb 1)) ⟨i+1,by rw[hst];rfl,by omega,by omega,rfl⟩)⟩
 ·simp only[show decide ((i:Int)<(x.l.length:Int))=false from decide_eq_false (by omega),ssH,ag,ae,reduceIte,af,aj,ah,ai];have hie:i=x.l.length:=by omega
  rw[hie,bJ]at hpr;subst hpr;exact jy (v:=bs (pl++pW x.l)) rfl ⟨by simp only[nbS],rfl⟩
end
theorem zaU{P:Program}{T:TypeId}{xo yo:Operand}{yk:IntKind}{a:Nat}:kR P .shr T .other xo yo (u32 a) (.val (.int yk 8))=some (u32 (a / 256)):=BZ 8 256 (by decide) rfl
theorem YY{P:Program}{T:TypeId}{xo yo:Operand}{yk:IntKind}{a:Nat}:kR P .shr T .other xo yo (u32 a) (.val (.int yk 16))=some (u32 (a / 65536)):=BZ 16 65536 (by decide) rfl
theorem YX{P:Program}{T:TypeId}{xo yo:Operand}{yk:IntKind}{a:Nat}:kR P .shr T .other xo yo (u32 a) (.val (.int yk 24))=some (u32 (a / 16777216)):=BZ 24 16777216 (by decide) rfl
theorem zem{P:Program}{Γ:jG}{t:List V}{m:Store}{a b c d:Tmp}{x y z w:UInt8}{l:List UInt8}(hl:[x,y,z,w]=l)(h1:ev Γ t (.tmp a)=by8 x)(h2:ev Γ t (.tmp b)=by8 y)(h3:ev Γ t (.tmp c)=by8 z)(h4:ev Γ t (.tmp d)=by8 w) :
  jJ P (ev Γ t) m (.lits 1 [V.val (Value.int IntKind.u8 0)] 4 [(0,.tmp a),(1,.tmp b),(2,.tmp c),(3,.tmp d)])=some (.sl (l.map by8) [] .full):=by
 subst hl;show(pI 1 [V.val (Value.int IntKind.u8 0),V.val (Value.int IntKind.u8 0),V.val (Value.int IntKind.u8 0),V.val (Value.int IntKind.u8 0)] [(0,ev Γ t (.tmp a)),(1,ev Γ t (.tmp b)),(2,ev Γ t (.tmp c)),(3,ev Γ t (.tmp d))]).map (fun es=>V.sl es [] .full)=_;rw[h1,h2,h3,h4];rfl
section
variable {Γ:jG} {m:Store}
theorem zeG(l:List UInt8)(hl:l.length<4611686018427387904):jB Tryz.prog Γ 96 [bs l] m fun o m'=>o = .ret (u32 (yj l))∧m'=m:=by
 refine jY (jZ mixed zih zk9 jP nbY ?_);simp only[F96,ss0,ay,ag];simp only[ssH,ag,ae,reduceIte,af,aj,ah,ai];refine jC (v:=u32 (yj l)) (by exact fun m=>zcK 0 (by decide) l hl) (by simp only[aC,aS,aB,nbS]) (by simp only[u32,nbS]) ?_;simp only[ssH,ag,ae,reduceIte,af,aj,ah,ai];exact jy (v:=u32 (yj l)) rfl ⟨by simp only[u32,nbS],rfl⟩
theorem E8(x:List UInt8)(hx:x.length≤10000000000):jB Tryz.prog Γ 46 [bs x] m fun o m'=>o = .ret (bs (frB x))∧m'=m:=by
 have z1:=ny (n:=(x.length:Int)) ⟨by omega,by omega⟩;refine jY (jZ mixed ziT zlD jP nbY ?_);simp only[F46,ss0,ay,ag];simp only[ssH,ag,ae,reduceIte,af,aj,ah,ai];refine jC (v:=bs (uz x.length)) (by exact fun m=>oU ⟨by omega,by omega⟩) nbY nbY ?_;simp only[rZ _ _ (show(uz x.length).length+x.length≤1000000000000000000 by omega),ssH,ag,ae,reduceIte,af,aj,ah,ai];refine jC (v:=u32 (yj (uz x.length++x))) (by exact fun m=>zeG _ (by simp only[aH];omega)) nbY (by simp only[u32,nbS]) ?_;simp only[zaU,YY,YX,lq,DJ,ssH,ag,ae,reduceIte,af,aj,ah,ai];rw[zem (l:=le4 (yj (uz x.length++x))) rfl rfl rfl rfl rfl];simp only[xx,Em,rZ (uz x.length++x) (le4 (yj (uz x.length++x))) (by simp only[aH,RU];omega),ssH,ag,ae,reduceIte,af,aj,ah,ai];exact jy (v:=bs (frB x)) rfl ⟨by simp only[nbS],rfl⟩
theorem XC(s:List UInt8)(n:Int)(u:Nat)(e:Int)(h:kD s 1048576=(n,u,e)):lI s 0 0 1048576=if e=0 then (n,u,0)else (0,0,e):=by
 unfold lI;simp only[bK,h]
 by_cases he:e=0
 ·simp[he]
 ·simp[he]
theorem zeH(b:List UInt8)(at_:Nat)(ha:at_≤b.length)(hb:b.length≤1000000000):jB Tryz.prog Γ 38 [bs b,it at_] m fun o m'=>o = .ret (.tup [bs (frG (b.drop at_)).1,it (if (frG (b.drop at_)).2.2=0 then at_+(frG (b.drop at_)).2.1 else 0:Nat),it (frG (b.drop at_)).2.2])∧m'=m:=by
 have hbl:b.length=at_+(b.drop at_).length:=by rw[aV];omega
 have hsl:=@vZ b at_ ha
 have htk:∀ i j,i≤j→at_+j≤b.length→nM (bs b) (some (some ((at_+i:Nat):Int))) (some (some ((at_+j:Nat):Int)))=some (bs (((b.drop at_).take j).drop i)):=by
  intro i j h1 h2;rw[Au (by omega) h2,List.take_drop,bV]
 generalize b.drop at_=s at hbl hsl htk;obtain⟨n,u,e,hc⟩:∃ n u e,kD s 1048576=(n,u,e):=⟨_,_,_,rfl⟩;have hr:=XC s n u e hc;refine jY (jZ mixed zi0 zlL jP nbY ?_);simp only[F38,ss0,ay,ag];simp only[show decide ((at_:Int)<0)=false from decide_eq_false (by omega),gt_iff_lt,show decide ((b.length:Int)<(at_:Int))=false from decide_eq_false (by omega),qG,lN,hsl,ssH,ag,ae,reduceIte,af,aj,ah,ai];refine jC (by exact fun m=>FW s 0 0 1048576 (by omega) (by omega)) (by simp only[rdV,nbS]) (by simp only[nS,nbS]) ?_;rw[hr]
 by_cases he:e=0
 ·subst he;obtain⟨g1,g2,g3,g4,g5,g6⟩:=yl hc;obtain⟨n,rfl⟩:=ed g1;have w1:IntKind.i64.wrap ((b.length:Int)-(at_:Int))=(s.length:Int):=by rw[wrap_i64 (by omega) (by omega)];omega
  have w2:IntKind.i64.wrap ((s.length:Int)-(u:Int))=((s.length-u:Nat):Int):=by rw[wrap_i64 (by omega) (by omega)];omega
  have w3:IntKind.i64.wrap ((n:Int)+4)=((n+4:Nat):Int):=by rw[wrap_i64 (by omega) (by omega)];omega
  have w4:IntKind.i64.wrap ((at_:Int)+(u:Int))=((at_+u:Nat):Int):=by rw[wrap_i64 (by omega) (by omega)];omega
  have w5:IntKind.i64.wrap (((at_+u:Nat):Int)+(n:Int))=((at_+(u+n):Nat):Int):=by rw[wrap_i64 (by omega) (by omega)];omega
  have w6:IntKind.i64.wrap (((at_+(u+n):Nat):Int)+4)=((at_+(u+n+4):Nat):Int):=by rw[wrap_i64 (by omega) (by omega)];omega
  have hz:at_+(u+n+4)≤b.length→nM (bs b) (some (some (at_:Int))) (some (some ((at_+(u+n+4):Nat):Int)))=some (bs (s.take (u+n+4))):=fun h=>by
   have:=htk 0 (u+n+4) (by omega) h;rw[bK]at this;exact this
  simp only[if_true,rdV,jA,show((0:Int) != 0)=false from rfl,w1,w2,w3,ssH,ag,ae,reduceIte,af,aj,ah,ai]
  by_cases hl:s.length<u+n+4
  ·simp only[show decide (((s.length-u:Nat):Int)<((n+4:Nat):Int))=true from decide_eq_true (by omega),ssH,ag,ae,reduceIte,af,aj,ah,ai];refine jy (v:=.tup [bs [],it 0,it 3]) rfl ⟨by simp only[nbS],?_⟩
   have:frG s=([],0,3):=by
    unfold frG;simp only[hc,bn];rw[if_neg (by decide),if_pos hl]
   rw[this];rfl
  ·have hx:(((s.take (u+n)).drop u))=(s.drop u).take n:=by
    rw[dJ];congr 1;omega
   simp only[show decide (((s.length-u:Nat):Int)<((n+4:Nat):Int))=false from decide_eq_false (by omega),w4,w5,w6,qG,lN,htk u (u+n) (by omega) (by omega),hz (by omega),hx,ssH,ag,ae,reduceIte,af,aj,ah,ai];refine jC (v:=bs (frB ((s.drop u).take n))) (by exact fun m=>E8 ((s.drop u).take n) (by rw[bf];omega)) nbY nbY ?_;simp only[xE,ssH,ag,ae,reduceIte,af,aj,ah,ai]
   by_cases hq:s.take (u+n+4)=frB ((s.drop u).take n)
   ·have:frG s=((s.drop u).take n,u+n+4,0):=by
     unfold frG;simp only[hc,bn];rw[if_neg (by decide),if_neg hl,if_pos hq]
    simp only[hq,beq_self_eq_true,aO,this,if_true,ssH,ag,ae,reduceIte,af,aj,ah,ai];exact jy (v:=.tup [bs ((s.drop u).take n),it ((at_+(u+n+4):Nat):Int),it 0]) rfl ⟨by simp only[nbS],rfl⟩
   ·have:frG s=([],0,4):=by
     unfold frG;simp only[hc,bn];rw[if_neg (by decide),if_neg hl,if_neg hq]
    simp only[beq_eq_false_iff_ne.2 hq,aN,this,ssH,ag,ae,reduceIte,af,aj,ah,ai];exact jy (v:=.tup [bs [],it 0,it 4]) rfl ⟨by simp only[nbS],rfl⟩
 ·have:frG s=([],0,e):=by
   unfold frG;simp only[hc];rw[if_pos he]
  simp only[if_neg he,this,rdV,jA,bne_iff_ne.2 he,ssH,ag,ae,reduceIte,af,aj,ah,ai];exact jy (v:=.tup [bs [],it 0,it e]) rfl ⟨by simp only[nbS],rfl⟩
end
theorem zhK{a b:Int}:mmV false [.val (.int .i64 a),.val (.int .i64 b)]=some (.val (.int .i64 (min a b))):=by
 simp only[mmV,mmF,aF,if_false];congr 3
 split<;>omega
theorem zkZ{b mo:List UInt8}{l h:Nat}(h1:l≤h)(h2:h≤b.length):sF 1 (.sl (b.map by8) (mo.map by8) .no) (some (some (l:Int))) (some (some (h:Int))) (some none)=some (.sl (((b.take h).drop l).map by8) (((b++mo).drop h).map by8) .no):=by
 have hz:oq 1 (b.map by8++mo.map by8)=true:=by rw[←bC];exact lJ _
 show(if oq 1 (b.map by8++mo.map by8)=true then cutV (b.map by8) (mo.map by8) .no (some (l:Int)) (some (h:Int)) none else none)=_;rw[if_pos hz];unfold cutV;simp only[bZ,bn,aK];rw[if_pos ⟨by omega,h1,by omega⟩]
 by_cases hh:h=b.length
 ·subst hh;rw[if_pos rfl,bJ,List.drop_left,iJ];rfl
 ·rw[if_neg hh,if_pos (by omega)];simp only[iJ,List.map_take,bC];rw[gK (by simp;omega)]
theorem zaa{P:Program}{Γ:jG}{t:List V}{m:Store}{n:Nat}{x:Operand}:jJ P (ev Γ t) m (.s2ap n x)=Xy n (ev Γ t x):=by
 simp only[jJ,Xy];generalize ev Γ t x=a;cases a<;>rfl
theorem zkA{x mo:List UInt8}(hx:x.length=4):Xy 4 (.sl (x.map by8) (mo.map by8) .no)=some (.elt ((x++mo).map by8)):=by
 have e:∀ l:List UInt8,flat (l.map by8)=l.map by8:=by
  intro l
  induction l with
  |nil=>rfl
  |cons b l ih=>rw[List.map_cons,lD,ih];rfl
 show(if 4≤(x.map by8).length then some (V.elt (flat (x.map by8++mo.map by8)))else none)=_;rw[if_pos (by simp[hx]),←bC,e]
theorem ld4{x mo:List UInt8}{m:Store}(hx:x.length=4):Ea m (some 4) (.elt ((x++mo).map by8))=some (.agg (x.map by8)):=by
 show mW ((x++mo).map by8) 0 (some 4)=_;unfold mW;simp only;rw[if_pos (by simp[hx]),bK,bC,gK (by simp[hx]),bG (by simp[hx])]
section
variable {Γ:jG} {m:Store}
theorem zeN(b mo:List UInt8)(tok:Tok)(at_:Nat)(ha:at_≤b.length)(hb:b.length≤100000000) :
  jB Tryz.prog Γ 36 [.sl (b.map by8) (mo.map by8) tok,it at_] m fun o m'=>(∃ v,o = .ret v∧v = .tup [if (frG (b.drop at_)).2.2=0 then slN (frG (b.drop at_)).1 else .sl [] [] .full,it (if (frG (b.drop at_)).2.2=0 then at_+(frG (b.drop at_)).2.1 else 0:Nat),it (frG (b.drop at_)).2.2])∧m'=m:=by
 refine jB.tok [] [it at_] ?_;have hbl:b.length=at_+(b.drop at_).length:=by rw[aV];omega
 refine BN mixed zi2 zlN jP (by simp only[aC,kY,nbS]) ?_;simp only[F36,aC,ss0,ay,ag];have w0:IntKind.i64.wrap ((at_:Int)+11)=((at_+11:Nat):Int):=by rw[wrap_i64 (by omega) (by omega)];omega
 have wm:min (b.length:Int) ((at_+11:Nat):Int)=((min b.length (at_+11):Nat):Int):=by omega
 simp only[show decide ((at_:Int)<0)=false from decide_eq_false (by omega),gt_iff_lt,aK,show decide ((b.length:Int)<(at_:Int))=false from decide_eq_false (by omega),w0,zbB,Lu,zhK,wm,nV,lN,zkZ (b:=b) (mo:=mo) (show at_≤min b.length (at_+11)by omega) (show min b.length (at_+11)≤b.length by omega),ssH,ag,ae,reduceIte,af,aj,ah,ai]
 have ht:(b.take (min b.length (at_+11))).drop at_=(b.drop at_).take 11:=by
  rw[dJ]
  by_cases h:b.length≤at_+11
  ·rw[Nat.min_eq_left h,bG (by rw[aV];omega),bG (by rw[aV];omega)]
  ·rw[Nat.min_eq_right (by omega),dF]
 rw[ht]
 have hcu:∀ i j,i≤j→at_+j≤b.length→sF 1 (.sl (b.map by8) (mo.map by8) .no) (some (some ((at_+i:Nat):Int))) (some (some ((at_+j:Nat):Int))) (some none)=some (.sl ((((b.drop at_).take j).drop i).map by8) (((b++mo).drop (at_+j)).map by8) .no):=by
  intro i j h1 h2;rw[zkZ (by omega) h2,List.take_drop,bV]
 clear ht;generalize b.drop at_=s at hbl hcu;obtain⟨n,u,e,hc⟩:∃ n u e,kD s 1048576=(n,u,e):=⟨_,_,_,rfl⟩;have hr:=XC (s.take 11) n u e (by rw[Vb s _ (by decide)];exact hc);have hl11:(s.take 11).length≤281474976710656:=by rw[bf];omega
 refine Kr (Y:=rdB (s.take 11) 0 0) (by simp only[ax,aA,ag,aj]) rfl (fun m tok'=>Xk) (jS _) (jS _) .nil kK ?_;simp only[ssH,ag,ae,reduceIte,af,aj,ah,ai];refine jO (b:=0) (az:=[it 1048576]) (X:=rdB (s.take 11) 0 0) rfl rfl (fun m b' h=>Pg 1048576 h (bW _) hl11) kK kK nbY nbY ?_;rw[hr]
 by_cases he:e=0
 ·subst he;obtain⟨g1,g2,g3,g4,g5,g6⟩:=yl hc;obtain⟨n,rfl⟩:=ed g1;simp only[if_true,ssH,ag,ae,reduceIte,af,aj,ah,ai];refine kw (b:=0) rfl rfl (fun m b' h=>xP h) kK nbY nbY ?_;simp only[show((0:Int) != 0)=false from rfl,ssH,ag,ae,reduceIte,af,aj,ah,ai];refine kw (b:=0) rfl rfl (fun m b' h=>zhq h) kK nbY nbY ?_;have w1:IntKind.i64.wrap ((at_:Int)+(u:Int))=((at_+u:Nat):Int):=by rw[wrap_i64 (by omega) (by omega)];omega
  have w2:IntKind.i64.wrap ((b.length:Int)-((at_+u:Nat):Int))=((s.length-u:Nat):Int):=by rw[wrap_i64 (by omega) (by omega)];omega
  have w3:IntKind.i64.wrap ((n:Int)+4)=((n+4:Nat):Int):=by rw[wrap_i64 (by omega) (by omega)];omega
  have w4:IntKind.i64.wrap (((at_+u:Nat):Int)+(n:Int))=((at_+(u+n):Nat):Int):=by rw[wrap_i64 (by omega) (by omega)];omega
  have w5:IntKind.i64.wrap (((at_+(u+n):Nat):Int)+4)=((at_+(u+n+4):Nat):Int):=by rw[wrap_i64 (by omega) (by omega)];omega
  simp only[w1,w2,w3,aK,ssH,ag,ae,reduceIte,af,aj,ah,ai]
  by_cases hl:s.length<u+n+4
  ·simp only[show decide (((s.length-u:Nat):Int)<((n+4:Nat):Int))=true from decide_eq_true (by omega),ssH,ag,ae,reduceIte,af,aj,ah,ai]
   have:frG s=([],0,3):=by
    unfold frG;simp only[hc,bn];rw[if_neg (by decide),if_pos hl]
   rw[this];exact jy (v:=.tup [.sl [] [] .full,it 0,it 3]) rfl ⟨by simp only[wN,wNs,Jc,nbS],rfl⟩
  ·have hz:sF 1 (.sl (b.map by8) (mo.map by8) .no) (some (some (at_:Int))) (some (some ((at_+(u+n):Nat):Int))) (some none)=some (.sl ((s.take (u+n)).map by8) (((b++mo).drop (at_+(u+n))).map by8) .no):=by
    have:=hcu 0 (u+n) (by omega) (by omega);rw[bK]at this;exact this
   have hq4:((s.take (u+n+4)).drop (u+n)).length=4:=by rw[aV,bf];omega
   simp only[show decide (((s.length-u:Nat):Int)<((n+4:Nat):Int))=false from decide_eq_false (by omega),w4,w5,nV,lN,hcu (u+n) (u+n+4) (by omega) (by omega),zhy,zaa,zkA hq4,sN,ld4 hq4,hz,ssH,ag,ae,reduceIte,af,aj,ah,ai];have hlt:(s.take (u+n)).length≤100000000:=by rw[bf];omega
   refine Iz (v:=u32 (yj (s.take (u+n)))) rfl (fun m tok'=>za8 (s.take (u+n)) (jS _) tok' (by omega)) (jS _) (jS _) .nil (by simp only[u32,nbS]) ?_;simp only[sN,ld4 hq4,ssH,ag,ae,reduceIte,af,aj,ah,ai];refine jC (v:=.agg ((le4 (yj (s.take (u+n)))).map by8)) (fun m=>zca _) (by simp only[aC,aS,aB,u32,nbS]) (by simp only[kY,nbS]) ?_
   have hqe:(s.take (u+n+4)).drop (u+n)=(s.drop (u+n)).take 4:=by
    rw[dJ,dF]
   have hiff:=zhT (s:=s) hc (by omega);rw[←hqe]at hiff;simp only[sN,ld4 hq4,zfe _ _ _ _ hq4 (RU _),ssH,ag,ae,reduceIte,af,aj,ah,ai]
   have hxe:(s.take (u+n)).drop u=(s.drop u).take n:=by
    rw[dJ,dF]
   by_cases hq:s.take (u+n+4)=frB ((s.drop u).take n)
   ·have hfr:frG s=((s.drop u).take n,u+n+4,0):=by
     unfold frG;simp only[hc,bn];rw[if_neg (by decide),if_neg hl,if_pos hq]
    simp only[decide_eq_true (hiff.1 hq),aO,w4,w5,nV,lN,hcu u (u+n) (by omega) (by omega),hxe,ssH,ag,ae,reduceIte,af,aj,ah,ai]
    have hne:(b++mo).drop (at_+(u+n))≠[]:=by
     intro h;have:=congrArg List.length h;rw[aV,aH,aA]at this;omega
    refine Ob (Qv:=fun v=>v=slN ((s.drop u).take n)) (by exact fun m=>Z8 ((s.drop u).take n) ((b++mo).drop (at_+(u+n))) (by rw[bf];omega) (.inr hne) .no) (by simp only[aC,aS,kY,nbS]) (by rintro v rfl;exact oP) ?_;rintro v rfl;simp only[hfr,if_true,w4,w5,ssH,ag,ae,reduceIte,af,aj,ah,ai]
    have e2:wN (.tup [slN ((s.drop u).take n),it ((at_+(u+n+4):Nat):Int),it 0]) = .tup [slN ((s.drop u).take n),it ((at_+(u+n+4):Nat):Int),it 0]:=by
     rw[wN,wNs,wNs,wNs,wNs]
     have:wN (slN ((s.drop u).take n))=slN ((s.drop u).take n):=by
      have e:∀ l:List UInt8,wNs (l.map by8)=l.map by8:=GX (fun _=>rfl);simp only[slN,wN,e,wNs];cases (s.drop u).take n<;>rfl
     rw[this];rfl
    exact jy (v:=.tup [slN ((s.drop u).take n),it ((at_+(u+n+4):Nat):Int),it 0]) rfl ⟨by rw[e2];simp only[oP,nbS],e2⟩
   ·have hfr:frG s=([],0,4):=by
     unfold frG;simp only[hc,bn];rw[if_neg (by decide),if_neg hl,if_neg hq]
    simp only[decide_eq_false (fun h=>hq (hiff.2 h)),aN,hfr,ssH,ag,ae,reduceIte,af,aj,ah,ai];exact jy (v:=.tup [.sl [] [] .full,it 0,it 4]) rfl ⟨by simp only[wN,wNs,Jc,nbS],rfl⟩
 ·simp only[if_neg he,ssH,ag,ae,reduceIte,af,aj,ah,ai];refine kw (b:=0) rfl rfl (fun m b' h=>xP h) kK nbY nbY ?_
  have:frG s=([],0,e):=by
   unfold frG;simp only[hc];rw[if_pos he]
  simp only[bne_iff_ne.2 he,this,if_neg he,ssH,ag,ae,reduceIte,af,aj,ah,ai];exact jy (v:=.tup [.sl [] [] .full,it 0,it e]) rfl ⟨by simp only[wN,wNs,Jc,nbS],rfl⟩
end
section
variable {Γ:jG} {m:Store}
end
section
variable {Γ:jG} {m:Store}
end
section
variable {Γ:jG} {m:Store}
end
end Go.Av.Fn
namespace Go.Av.Fn
open Go.Proofs
section
variable {Γ:jG} {m:Store}
theorem zkY{b:List UInt8}{h:Nat}(h2:h<b.length):sF 1 (slN b) (some none) (some (some (h:Int))) (some none)=some (.sl ((b.take h).map by8) ((b.drop h).map by8) .no):=by
 have hz:oq 1 (b.map by8++[])=true:=by rw[aS];exact lJ _
 show(if oq 1 (b.map by8++[])=true then cutV (b.map by8) [] .non none (some (h:Int)) none else none)=_;rw[if_pos hz];unfold cutV;simp only[bZ,bY,bn,aK,Int.toNat_zero,aS,bK,aA,fD];rw[if_pos ⟨by decide,by omega,by omega⟩,if_neg (by omega),if_pos (by omega),List.map_take,iJ]
end
section
variable {Γ:jG} {m:Store}
end
end Go.Av.Fn
namespace Go.Av
theorem Fq{X0:Blk}{h:Hl}{v:V}(hv:nb 0 v)(h0:lk h 0=some X0)(hX:nbB 0 X0):As 1 [0] v [some X0] v h:=by
 refine⟨?_,by simp,hv.up _,rfl,?_⟩
 ·intro a ha;have:a=0:=by omega
  subst this;rfl
 ·intro a b hab;have hl:=(List.getElem?_eq_some_iff.1 hab).1;simp at hl;subst hl;cases hab;rw[h0];exact hX.up _
theorem zfd{h:Hl}{v:V}(hv:nb 0 v):As 0 [] v [] v h:=by
 refine⟨fun a ha=>by omega,by simp,hv.up _,rfl,?_⟩;intro a b hab;cases hab
theorem YH{X0:Blk}{e:TypeId}{es:List V}{h:Hl}{j k:Nat}(hj:1≤j)(h0:lk h 0=some X0)(hX:nbB 0 X0)(he:nbs 0 es)(h2:lk h j=some (.tip e k)) :
  As 1 [0,j] (.sl es [] (.tip 1 k)) [some X0,some (.tip e k)] (.sl es [] (.tip j k)) h:=by
 refine⟨?_,?_,.sl (k:=.tip 1 k) (k':=.tip j k) (he.up _) .nil ⟨rfl,rfl⟩,rfl,?_⟩
 ·intro a ha;have:a=0:=by omega
  subst this;rfl
 ·simp only[List.nodup_cons,dQ,dm,or_false,not_or,List.nodup_nil,and_true,not_false_eq_true];omega
 ·intro a b hab;have hl:=(List.getElem?_eq_some_iff.1 hab).1;simp at hl;have:a=0∨a=1:=by omega
  rcases this with rfl|rfl
  ·cases hab;rw[h0];exact hX.up _
  ·cases hab;rw[h2];exact⟨rfl,rfl⟩
theorem zfc{e:TypeId}{es:List V}{h:Hl}{j k:Nat}(he:nbs 0 es)(h2:lk h j=some (.tip e k)) :
  As 0 [j] (.sl es [] (.tip 0 k)) [some (.tip e k)] (.sl es [] (.tip j k)) h:=by
 refine⟨fun a ha=>by omega,by simp,.sl (k:=.tip 0 k) (k':=.tip j k) (he.up _) .nil ⟨rfl,rfl⟩,rfl,?_⟩;intro a b hab;have hl:=(List.getElem?_eq_some_iff.1 hab).1;simp at hl;subst hl;cases hab;rw[h2];exact⟨rfl,rfl⟩
end Go.Av
namespace Go.Av.Fn
open Go.Proofs
structure Kt where
 v:Int
 n:Int
 l:Lg
def ktC(nn:Bool)(k:Kt):List V:=[it k.v,it k.n,it k.l.b,bs k.l.c,lH nn k.l.l]
def ktV(nn:Bool)(k:Kt):V:=.agg (ktC nn k)
def Ed(nn:Bool)(k:Kt):Blk:=.var 28 (ktC nn k)
theorem RG(j:Nat)(nn:Bool)(k:Kt):nbs j (ktC nn k):=by
 have:=kL (k:=j) nn k.l.l;simp only[ktC,this,nbS]
theorem CJ(j:Nat)(nn:Bool)(k:Kt):nb j (ktV nn k):=by simp only[ktV,RG,nbS]
theorem wR(j:Nat)(nn:Bool)(k:Kt):nbB j (Ed nn k):=by simp only[Ed,RG,nbS]
def ni(v n:Int):Bool:=decide (0≤n)&&(decide (n≤v)&&decide (v≤2147483647))
def ktB(k:Kt):Bool:=ni k.v k.n&&lgB k.l
def vW(k:Nat):Option Blk:=some (.tip 5 k)
section
variable {Γ:jG} {m:Store}
theorem Qe(v n:Int):jB Tryz.prog Γ 41 [it v,it n] m fun o m'=>o = .ret (bo (ni v n))∧m'=m:=by
 refine jY (jZ mixed ziX zlH jP nbY ?_);simp only[F41,ss0,ay,ag];simp only[ge_iff_le,ssH,ag,ae,reduceIte,af,aj,ah,ai];cases h:decide (0≤n)
 ·simp only[h,ssH,ag,ae,reduceIte,af,aj,ah,ai];exact jy jD ⟨nbZ,by simp only[ni,h];rfl⟩
 simp only[h,ssH,ag,ae,reduceIte,af,aj,ah,ai];cases h2:decide (n≤v)
 ·simp only[h2,ssH,ag,ae,reduceIte,af,aj,ah,ai];exact jy jD ⟨nbZ,by simp only[ni,h,h2];rfl⟩
 simp only[h2,ssH,ag,ae,reduceIte,af,aj,ah,ai];exact jy jD ⟨nbZ,by simp only[ni,h,h2];rfl⟩
theorem EY(E:Env Γ)(nn:Bool)(k:Kt):jB Tryz.prog Γ 16 [ktV nn k] m fun o m'=>o = .ret (it (if ktB k=true then 0 else 2))∧m'=m:=by
 have hnl:=kL (k:=0) nn k.l.l;refine jY (jZ mixed zjr zmp jP (by simp only[CJ,nbS]) ?_);simp only[F16,ktV,ktC,ss0,ay,ag];simp only[jA,ssH,ag,ae,reduceIte,af,aj,ah,ai];refine jC (v:=bo (ni k.v k.n)) (by exact fun m=>Qe k.v k.n) nbY (by simp only[bo,nbS]) ?_;cases h:ni k.v k.n
 ·simp only[bo,ssH,ag,ae,reduceIte,af,aj,ah,ai];exact jy jD ⟨nbZ,by simp only[ktB,h];rfl⟩
 simp only[bo,ssH,ag,ae,reduceIte,af,aj,ah,ai];refine jC (by exact fun m=>Js E nn k.l) (by simp only[hnl,nbS]) nbY ?_;cases h2:lgB k.l
 ·simp only[aF,if_false,show((4:Int) != 0)=true from rfl,ssH,ag,ae,reduceIte,af,aj,ah,ai];exact jy jD ⟨nbZ,by simp only[ktB,h,h2];rfl⟩
 ·simp only[if_true,show((0:Int) != 0)=false from rfl,ssH,ag,ae,reduceIte,af,aj,ah,ai];exact jy jD ⟨nbZ,by simp only[ktB,h,h2];rfl⟩
theorem Wp(l:List UInt8)(k:Nat):FN Tryz.prog Γ 44 [.sl (l.map by8) [] (.tip 0 k)] [vW k] 0 fun v h' => ∃ k',v = .sl ((l++[]).map by8) [] (.tip 0 k')∧h' = [vW k']:=by
 refine Qr mixed ziV zlF jP 0 ?_;simp only[F44,vW,ss0,ay,ag];simp only[ssH,ag,ae,reduceIte,af,aj,ah,ai];exact jy (v:=.sl (l.map by8) [] (.tip 0 k)) rfl ⟨[0],_,_,zfc (jS _) rfl,k,by rw[aS],rfl⟩
theorem Ws(e:Ent)(he:GN e)(hs:e.s.length+e.cs.length≤1000)(l:List UInt8)(k:Nat)(hl:l≠[])(hb:l.length≤1000):FN Tryz.prog Γ 49 [.sl (l.map by8) [] (.tip 1 k),.ptr 0 0] [some (BI e),vW k] 1 fun v h' => ∃ k',v = .sl ((l++pX e).map by8) [] (.tip 1 k')∧h'=[some (BI e),vW k']:=by
 have hne:=lY (k:=0) e;refine Qr mixed ziQ zlA jP 1 ?_;simp only[F49,vW,BI,ss0,ay,ag];simp only[ssH,ag,ae,reduceIte,af,aj,ah,ai];refine qA (e:=5) (size:=1) (j:=1) (k:=k) (az:=[kM e]) (es:=l.map by8) (es2:=(l++pX e).map by8) (by simp) rfl rfl (lJ _) (lU hl) (lU (by simp[hl])) (fun m m' v h=>Xw (Γ:=Γ) (.inl h) e he (by omega)) (jS _) (by simp only[hne,nbS]) (jS _) fun k' => ?_;simp only[qY,qZ,aB,aC,ax,aA,ssH,ag,ae,reduceIte,af,aj,ah,ai];exact jy (v:=.sl ((l++pX e).map by8) [] (.tip 2 k')) rfl ⟨[0,2],_,_,YH (by decide) rfl (D8 e) (jS _) rfl,k',rfl,rfl⟩
theorem Wn(nn:Bool)(x:Kt)(hx:zff x.l)(l:List UInt8)(k:Nat)(hl:l≠[])(hb:l.length≤1000):FN Tryz.prog Γ 53 [.sl (l.map by8) [] (.tip 1 k),.ptr 0 0] [some (Ed nn x),vW k] 1 fun v h' => ∃ k',v = .sl ((l++xY x.l).map by8) [] (.tip 1 k')∧h'=[some (Ed nn x),vW k']:=by
 have hnl:=kL (k:=0) nn x.l.l;have hpl:xY x.l≠[]:=by simp[xY,uB]
 refine Qr mixed ziM zlw jP 1 ?_;simp only[F53,vW,Ed,ktC,ss0,ay,ag];simp only[ssH,ag,ae,reduceIte,af,aj,ah,ai];refine qA (e:=5) (size:=1) (j:=1) (k:=k) (az:=[lgV nn x.l]) (es:=l.map by8) (es2:=(l++xY x.l).map by8) (by simp) rfl rfl (lJ _) (lU hl) (lU (by simp[hl])) (fun m m' v h=>zec (Γ:=Γ) (.inl h) nn x.l hx (by omega)) (jS _) (by simp only[lgV,hnl,nbS]) (jS _) fun k' => ?_;simp only[qY,qZ,aB,aC,ax,aA,ssH,ag,ae,reduceIte,af,aj,ah,ai];exact jy (v:=.sl ((l++xY x.l).map by8) [] (.tip 2 k')) rfl ⟨[0,2],_,_,YH (by decide) rfl (wR 0 nn x) (jS _) rfl,k',rfl,rfl⟩
end
end Go.Av.Fn
namespace Go.Proofs.YtmglaebjmaomnaaGreatDoor
open Go.ChangeShapes Go.WideShapes Go.ChangeAt Go.RowKit Go.Av.Fn Go.ChangeMaps Go.Av
theorem wf_i64{n:Int}(h:(Lit.int .i64 n).wf=true):I64 n:=by
 unfold Lit.wf at h;simp only[aG,decide_eq_true_eq]at h;have h1:IntKind.i64.min = -9223372036854775808:=rfl;have h2:IntKind.i64.max=9223372036854775807:=rfl;rw[h1,h2]at h;exact⟨h.1,by omega⟩
end Go.Proofs.YtmglaebjmaomnaaGreatDoor
namespace Go.Av.Fn
open Go.Proofs Go.RowKit Go.Proofs.YtmglaebjmaomnaaGreatDoor
def FO : List (String × DataW Unit) := [("math/bits.deBruijn32tab", Rows.laid_math_bits_deBruijn32tab), ("math/bits.deBruijn64tab", Rows.laid_math_bits_deBruijn64tab), ("internal/strconv.uint64pow10", Rows.laid_internal_strconv_uint64pow10), ("errors.errorType", Rows.laid_errors_errorType), ("strconv.ErrRange", Rows.laid_strconv_ErrRange), ("strconv.ErrSyntax", Rows.laid_strconv_ErrSyntax), ("hindcast/lex.words", Rows.laid_hindcast_lex_words), ("hindcast/lex.signs", Rows.laid_hindcast_lex_signs)]
def zg4 : List (String × DataW Unit) := [("math/bits.deBruijn32tab", Rows.laid_math_bits_deBruijn32tab), ("math/bits.deBruijn64tab", Rows.laid_math_bits_deBruijn64tab), ("internal/strconv.uint64pow10", Rows.laid_internal_strconv_uint64pow10), ("strconv.ErrRange", Rows.laid_strconv_ErrRange), ("strconv.ErrSyntax", Rows.laid_strconv_ErrSyntax), ("hindcast/lex.words", Rows.laid_hindcast_lex_words), ("hindcast/lex.signs", Rows.laid_hindcast_lex_signs)]
theorem ZO : (FO.filter fun x => x.2.handleName?.isSome) = [("errors.errorType", Rows.laid_errors_errorType)] := by kernel_rfl
theorem ZP:(FO.filter fun x=>x.2.handleName?.isNone)=zg4:=by kernel_rfl
theorem zhR : Tryz.prog.globalNamed "hindcast/lex.words" = some 1 := by kernel_rfl
theorem zhS : Tryz.prog.globalNamed "hindcast/lex.signs" = some 0 := by kernel_rfl
theorem zcJ : Tryz.prog.globalNamed "strconv.ErrRange" = some 7 := by kernel_rfl
theorem Yh : Tryz.prog.globalNamed "strconv.ErrSyntax" = some 6 := by kernel_rfl
theorem zkU : Tryz.prog.globalNamed "errors.errorType" = some 3 := by kernel_rfl
theorem zht:(Tryz.prog.globals[1]?).map (·.type)=some 213:=by kernel_rfl
theorem zhu:(Tryz.prog.globals[0]?).map (·.type)=some 211:=by kernel_rfl
theorem zhv:(Tryz.prog.globals[7]?).map (·.type)=some 266:=by kernel_rfl
theorem zdR:(Tryz.prog.globals[6]?).map (·.type)=some 266:=by kernel_rfl
theorem zkT : Tryz.prog.globalNamed "internal/strconv.uint64pow10" = some 2 := by kernel_rfl
theorem zmX:(Tryz.prog.globals[2]?).map (·.type)=some 278:=by kernel_rfl
theorem cells9:Tryz.prog.cellsOf 9=1:=by kernel_rfl
theorem YA:Tryz.prog.cellsOf 385=1:=by kernel_rfl
theorem star : "*" ++ "errors.errorString" = "*errors.errorString" := by decide
theorem zgW (u : TypeId) (h : Tryz.prog.typeName? 3 u = some "*errors.errorString") : u = 383 :=
 typeName_ptr_named (nm := "errors.errorString") (by rw [star]; kernel_rfl) (by kernel_rfl) (by decide) u (by rw [star]; exact h)
theorem zkB : (Tryz.prog.cutTypes.find? (·.1 == "internal/reflectlite.rtype")).map (·.2) = some 333 := by kernel_rfl
theorem oneRow:((aJ Tryz.prog.types.size).filter fun t=>Tryz.prog.rowNamed t [101,114,114,111,114])=[266]:=by kernel_rfl
def gl(p q:Value):jG:=fun g=>if g=0 then some (kV.map bs)else if g=1 then some (lw.map bs)else if g=7 then some [.ifc 383 (.val p)]else if g=6 then some [.ifc 383 (.val q)]else if g=3 then some [.ifc 333 (.agg [.ptr 9 266])]else if g=2 then some zmZ else none
theorem zeQ {W : World} (h : handlesMet Tryz.prog [("errors.errorType", Rows.laid_errors_errorType)] W) : W.cell? ⟨3, 0, none⟩ = some (.iface 333 (.agg #[.pointer (some ⟨9, 266, none⟩)])) := by
 obtain⟨name,u,ty,e1,e2,e3,e4,e5⟩:=h _ (List.mem_singleton.2 rfl);have en:name=[101,114,114,111,114]:=(fZ e1).symm;subst en;obtain rfl:=fZ (zkB.symm.trans e2);have hm:ty∈(aJ Tryz.prog.types.size).filter fun t=>Tryz.prog.rowNamed t [101,114,114,111,114]:=List.mem_filter.2 ⟨List.mem_range.2 e3,e4⟩;rw[oneRow]at hm;obtain rfl:=List.mem_singleton.1 hm;have hh:typeHandle Tryz.prog 266 = .pointer (some ⟨9,266,none⟩):=by kernel_rfl
 rw[hh]at e5
 simpa using World.var?_cell zkU e5 0
theorem XD{G:Gh}:∀ l:List Int,kE G (l.map fun z=>V.val (.int .u64 z)) (l.map fun z=>Value.int .u64 z)
 |[]=>.nil
 |z::l=>.cons (.val rfl) (XD l)
theorem FH{W:World}(hH:laidMetH Tryz.prog FO W):∃ p q,lX p=true∧lX q=true∧Rep (gl p q) W.heap.size (zl (gl p q) W) (fun _=>none) W:=by
 obtain ⟨h, hh⟩ : laidMet Tryz.prog zg4 W ∧ handlesMet Tryz.prog [("errors.errorType", Rows.laid_errors_errorType)] W := by
  unfold laidMetH at hH;rw[ZO,ZP]at hH;exact hH
 have hw:=FD (L:=lw) (Lib.laidMet.reads h (.tail _ (.tail _ (.tail _ (.tail _ (.tail _ (.head _))))))) zhR zht Tryz.underlying213 Tryz.underlying9 cells9;have hs:=FD (L:=kV) (Lib.laidMet.reads h (.tail _ (.tail _ (.tail _ (.tail _ (.tail _ (.tail _ (.head _)))))))) zhS zhu Tryz.underlying211 Tryz.underlying9 cells9;obtain⟨a1,s1,hv1,_⟩:=laid_sentinel h.tail.tail.tail zcJ zhv Tryz.underlying266 zgW Tryz.underlying383 Tryz.underlying385 rfl rfl Tryz.underlying9 YA cells9;obtain⟨a2,s2,hv2,_⟩:=laid_sentinel h.tail.tail.tail.tail Yh zdR Tryz.underlying266 zgW Tryz.underlying383 Tryz.underlying385 rfl rfl Tryz.underlying9 YA cells9;have he1:W.cell? ⟨7,0,none⟩=some (.iface 383 (.pointer (some a1))):=by simpa using World.var?_cell zcJ hv1 0
 have he2:W.cell? ⟨6,0,none⟩=some (.iface 383 (.pointer (some a2))):=by simpa using World.var?_cell Yh hv2 0
 have he3:=zeQ hh
 have hpow : Lib.TabIs Tryz.prog W "internal/strconv.uint64pow10" .u64 Lib.pow10Tab := Lib.tabIs_of_head zkT zmX Tryz.underlying278 Tryz.underlying150 (by kernel_rfl) (by kernel_rfl) h.tail.tail
 have hpc:∃ T fz,W.heap[2]? = some (.cells (Lib.pow10Tab.map fun z=>Value.int .u64 z).toArray T fz):=by
  unfold Lib.TabIs World.var? at hpow;rw[zkT]at hpow;simp only[bi]at hpow
  split at hpow
  ·rename_i cs T fz hcs;cases hpow;exact⟨_,_,hcs⟩
  ·cases hpow
 refine⟨.pointer (some a1),.pointer (some a2),rfl,rfl,Y4 (fun g cs hg => ?_) ?_⟩
 rotate_left
 ·intro g cs hg h20;unfold gl at hg
  split at hg
  ·cases hg;simp[kV]at h20
  ·split at hg
   ·cases hg;simp[lw]at h20
   ·split at hg
    ·cases hg;simp at h20
    ·split at hg
     ·cases hg;simp at h20
     ·split at hg
      ·cases hg;simp at h20
      ·split at hg
       ·rename_i e;subst e;obtain⟨T,fz,hcs⟩:=hpc;exact⟨(Array.getElem?_eq_some_iff.1 hcs).1,_,T,fz,hcs,by simp[Lib.pow10Tab]⟩
       ·cases hg
 have hone:∀ {g:Nat} {v:V} {x:Value},ku (zl (gl (.pointer (some a1)) (.pointer (some a2))) W) v x→W.cell? ⟨g,0,none⟩=some x→∃ us,kE (zl (gl (.pointer (some a1)) (.pointer (some a2))) W) [v] us∧∀ i u,us[i]? = some u→W.cell? ⟨g,i,none⟩=some u:=by
  intro g v x hv hc;refine⟨[x],.cons hv .nil,fun i u hu => ?_⟩
  cases i with
  |zero=>
   simp only[List.getElem?_cons_zero,Option.some.injEq]at hu;rw[←hu];exact hc
  |succ i=>simp at hu
 unfold gl at hg
 split at hg
 ·rename_i h0;subst h0;cases hg;refine⟨_,VN kV,fun i u hu => ?_⟩;rw[bH]at hu;obtain⟨s,h1,rfl⟩:=Option.map_eq_some_iff.1 hu;exact hs i s h1
 ·split at hg
  ·rename_i h0;subst h0;cases hg;refine⟨_,VN lw,fun i u hu => ?_⟩;rw[bH]at hu;obtain⟨s,h1,rfl⟩:=Option.map_eq_some_iff.1 hu;exact hw i s h1
  ·split at hg
   ·rename_i h0;subst h0;cases hg;exact hone (.ifc (.val rfl)) he1
   ·split at hg
    ·rename_i h0;subst h0;cases hg;exact hone (.ifc (.val rfl)) he2
    ·split at hg
     ·rename_i h0;subst h0;cases hg;exact hone (.ifc (.agg (.cons (.ptr _ _) .nil))) he3
     ·split at hg
      ·rename_i h0;subst h0;cases hg;obtain⟨T,fz,hcs⟩:=hpc;refine⟨Lib.pow10Tab.map fun z=>Value.int .u64 z,XD _,fun i u hu => ?_⟩;simp only[World.cell?,hcs,Option.isSome_none,aF,if_false];rw[List.getElem?_toArray];exact hu
      ·cases hg
theorem zcX(p q:Value):znv (gl p q) where
 env:={ lib:=zkN,parse:=zd4 (T:=383) (v:=.val p) rfl,words:=rfl,signs:=rfl,errT:=rfl }
 range:=⟨383,.val p,rfl⟩
 syn:=⟨383,.val q,rfl⟩
end Go.Av.Fn
namespace Go.Proofs.YtmglaebjmaomnaaGreatDoor
open Go.ChangeShapes Go.WideShapes Go.ChangeAt Go.RowKit Go.Av.Fn Go.ChangeMaps Go.Av
end Go.Proofs.YtmglaebjmaomnaaGreatDoor
namespace Go.Proofs.YtmglaebjmaomnaaGreatDoor
open Go.ChangeShapes Go.WideShapes Go.ChangeAt Go.RowKit Go.Av.Fn Go.ChangeMaps Go.Av
def Oq(e:Go.Av.Fn.Ent):List Value:=[.int .i64 e.c,.int .i64 e.q,.int .i64 e.k,.int .i64 e.n,.string ⟨e.s.toArray⟩,.int .i64 e.ck,.int .i64 e.cn,.string ⟨e.cs.toArray⟩]
def zgR(e:Go.Av.Fn.Ent):Prop:=I64 e.c∧I64 e.q∧I64 e.k∧I64 e.n∧I64 e.ck∧I64 e.cn∧e.s.length≤maxLen∧e.cs.length≤maxLen
instance:Inhabited Go.Av.Fn.Ent:=⟨⟨0,0,0,0,[],0,0,[]⟩⟩
theorem zh1(s:ByteArray):(⟨s.data.toList.toArray⟩:ByteArray)=s:=by simp
theorem TB{H:Type}{enc:TypeId×Value→H}{W:World}{cs:List Value}{x:DataW H×List MemPlace}{fuel:Nat}(h:DataW.trod enc Tryz.prog W 0 (fun _=>true) true fuel 42 cs=some x) :
  ∃ e:Go.Av.Fn.Ent,cs=Oq e∧zgR e:=by
 obtain⟨xs,n,_,rfl,hl,hlen,hf⟩:=DataW.trod_struct Tryz.underlying42 h;have hc3:Tryz.prog.cellsOf 40=3:=by kernel_rfl
 have hcI:Tryz.prog.cellsOf 3=1:=by kernel_rfl
 have hcA:Tryz.prog.cellsOf 37=1:=by kernel_rfl
 have hcS:Tryz.prog.cellsOf 9=1:=by kernel_rfl
 have hc1:Tryz.prog.cellsOf 38=1:=by kernel_rfl
 have hc8:Tryz.prog.cellsOf 42=8:=by kernel_rfl
 rw[hc8]at hl
 match cs,hl with
 |[a,b,c,d,e,f,g,i],_=>
  match xs,hlen with
  |[y0,y1,y2,y3,y4,y5],_=>
   have h0:DataW.trod enc Tryz.prog W 0 (fun _=>true) true n 3 (([a,b,c,d,e,f,g,i].drop 0).take (Tryz.prog.cellsOf 3))=some y0:=hf 0 _ rfl;have h1:DataW.trod enc Tryz.prog W 0 (fun _=>true) true n 3 (([a,b,c,d,e,f,g,i].drop 1).take (Tryz.prog.cellsOf 3))=some y1:=hf 1 _ rfl;have h2:DataW.trod enc Tryz.prog W 0 (fun _=>true) true n 37 (([a,b,c,d,e,f,g,i].drop 2).take (Tryz.prog.cellsOf 37))=some y2:=hf 2 _ rfl;have h3:DataW.trod enc Tryz.prog W 0 (fun _=>true) true n 3 (([a,b,c,d,e,f,g,i].drop 3).take (Tryz.prog.cellsOf 3))=some y3:=hf 3 _ rfl;have h4:DataW.trod enc Tryz.prog W 0 (fun _=>true) true n 9 (([a,b,c,d,e,f,g,i].drop 4).take (Tryz.prog.cellsOf 9))=some y4:=hf 4 _ rfl;have h5:DataW.trod enc Tryz.prog W 0 (fun _=>true) true n 40 (([a,b,c,d,e,f,g,i].drop 5).take (Tryz.prog.cellsOf 40))=some y5:=hf 5 _ rfl;simp only[hc3,hcI,hcA,hcS,bK,di,dM,dW]at h0 h1 h2 h3 h4 h5;obtain⟨k0,c0,e0,w0⟩:=DataW.trod_int Tryz.underlying3 h0;obtain⟨k1,c1,e1,w1⟩:=DataW.trod_int Tryz.underlying3 h1;obtain⟨k2,c2,e2,w2⟩:=DataW.trod_int Tryz.underlying37 h2;obtain⟨k3,c3,e3,w3⟩:=DataW.trod_int Tryz.underlying3 h3;obtain⟨s4,c4,e4,w4⟩:=DataW.trod_string Tryz.underlying9 h4;obtain⟨z0,z1,z2,nn,hx,hlen2,g0,g1,g2⟩:=Go.Deep.trod_struct3 Tryz.underlying40 h5;simp only[hc1,hcI,hcS,bK,di,dM,dW]at g0 g1 g2;obtain⟨k5,c5,e5,w5⟩:=DataW.trod_int Tryz.underlying38 g0;obtain⟨k6,c6,e6,w6⟩:=DataW.trod_int Tryz.underlying3 g1;obtain⟨s7,c7,e7,w7⟩:=DataW.trod_string Tryz.underlying9 g2;simp only[aP,and_true]at c0 c1 c2 c3 c4 c5 c6 c7
   subst c0 c1 c2 c3 c4 c5 c6 c7;exact⟨⟨k0,k1,k2,k3,s4.data.toList,k5,k6,s7.data.toList⟩,by simp only[Oq,zh1],wf_i64 w0,wf_i64 w1,wf_i64 w2,wf_i64 w3,wf_i64 w5,wf_i64 w6,w4,w7⟩
theorem U4{G:Gh}(e:Go.Av.Fn.Ent):kE G (kM e).cells (Oq e):=.cons (.val rfl) (.cons (.val rfl) (.cons (.val rfl) (.cons (.val rfl) (.cons (.val rfl) (.cons (.val rfl) (.cons (.val rfl) (.cons (.val rfl) .nil)))))))
theorem U3{G:Gh}:∀ l:List Go.Av.Fn.Ent,kE G (flat (l.map kM)) (l.flatMap Oq)
 |[]=>.nil
 |e::l=>by
  rw[List.map_cons,lD,List.flatMap_cons];exact(U4 e).append (U3 l)
theorem Yy:∀ (l:List Go.Av.Fn.Ent) (j:Nat) (u:Value),(l.flatMap Oq)[j]? = some u→∃ (i k:Nat) (e:Go.Av.Fn.Ent),j=i*8+k∧k<8∧l[i]? = some e∧(Oq e)[k]? = some u
 |[],j,u,h=>by simp at h
 |e::l,j,u,h=>by
  rw[List.flatMap_cons]at h
  by_cases hj:j<8
  ·rw[List.getElem?_append_left (by simpa [Oq] using hj)]at h;exact⟨0,j,e,by omega,hj,rfl,h⟩
  ·rw[List.getElem?_append_right (by simp[Oq];omega)]at h;obtain⟨i,k,e',h1,h2,h3,h4⟩:=Yy l _ u h;have h8:(Oq e).length=8:=rfl;rw[h8]at h1;exact⟨i+1,k,e',by omega,h2,by simpa using h3,h4⟩
theorem Zw{H:Type}{enc:TypeId×Value→H}{W:World}{cs:List Value}{x:DataW H×List MemPlace}{fuel:Nat}(hsp:∀ a len cap,cs=[.slice (some a) len cap]→a.spot=none)(h:DataW.trod enc Tryz.prog W 0 (fun _=>true) true fuel 24 cs=some x) :
  ∃ (nn:Bool) (l:List Go.Av.Fn.Ent) (v:Value),cs=[v]∧ku (startA W) (lH nn l) v∧(nn=true∨l=[])∧l.length≤maxLen∧∀ e∈l,zgR e:=by
 have hc8:Tryz.prog.cellsOf 42=8:=by kernel_rfl
 rcases Go.Deep.open_slice Tryz.underlying24 h with ⟨rfl,rfl⟩|⟨a,len,cap,m,n,D,Pl,rfl,_,h3,h4,h5,h6,h7⟩
 ·exact⟨false,[],_,rfl,.nil rfl,.inr rfl,bW _,fun e he=>by cases he⟩
 ·have hs:=hsp a len cap rfl;simp only[if_true]at h5;subst h5
  obtain ⟨f,hf⟩ := Go.Deep.choose_lt (α := Go.Av.Fn.Ent) (n := len) (p := fun i e => (∀ k,k < 8 → W.cell? (a.add (i * 8 + k)) = (Oq e)[k]?) ∧ zgR e) (fun i hi => by
   obtain⟨cs',g1,g2⟩:=h7 i (by omega);rw[hc8]at g1;obtain⟨e,rfl,he⟩:=TB g2;obtain⟨_,_,g3⟩:=World.cells?_some g1;refine⟨e,fun k hk => ?_,he⟩;have:=g3 k hk;rw[add_plain hs,add_plain rfl]at this
   rw[add_plain hs,←this,Nat.add_assoc])
  have hlen:((aJ len).map f).length=len:=by simp
  refine⟨true,(aJ len).map f,_,rfl,?_,.inl rfl,by rw[hlen];omega,?_⟩
  ·have := ku.sl (G := startA W) (es := ((aJ len).map f).map kM) (more := []) (tok := .non) (us := ((aJ len).map f).flatMap Oq) (a := a) (cap := m) (s := 8) (by
     intro e he;rw[aS]at he;obtain⟨b,_,rfl⟩:=List.mem_map.1 he
     rfl) (by rw [aS]; exact U3 _) (Qo hs (by
     intro j u hu;obtain⟨i,k,e,rfl,hk,hi,hu'⟩:=Yy _ _ _ hu;rw[bH]at hi;obtain⟨i',hi',rfl⟩:=Option.map_eq_some_iff.1 hi;obtain⟨hlt,e2⟩:=List.getElem?_eq_some_iff.1 hi';simp only[List.length_range]at hlt;simp only[List.getElem_range]at e2;subst e2;rw[(hf i hlt).1 k hk]
     exact hu')) (by simpa using h3) (by decide) trivial
   rw[aK,hlen]at this;exact this
  ·intro e he;obtain⟨i,hi,rfl⟩:=List.mem_map.1 he;exact(hf i (by simpa using hi)).2
theorem zbK{H:Type}{enc:TypeId×Value→H}{W:World}{base:Nat}{v:Value}{d:DataW H}{ps:List MemPlace}(hv:Value.okWide Tryz.prog W .any base 42 v)(h:DataW.Trod enc Tryz.prog W 0 (fun _=>true) true 42 v d ps) :
  ∃ e:Go.Av.Fn.Ent,ku (startA W) (kM e) v∧zgR e:=by
 obtain⟨l,rfl,hl,hna⟩:=G9 Tryz.underlying42 hv;obtain⟨fuel,hf⟩:=h;obtain⟨e,hc,he⟩:=TB hf;simp only[Value.cells]at hc;subst hc;exact⟨e,.agg (U4 e),he⟩
theorem open_int{H:Type}{enc:TypeId×Value→H}{W:World}{base:Nat}{v:Value}{d:DataW H}{ps:List MemPlace}(hv:Value.okWide Tryz.prog W .any base 3 v)(h:DataW.Trod enc Tryz.prog W 0 (fun _=>true) true 3 v d ps) :
  ∃ n:Int,v = .int .i64 n∧I64 n:=by
 obtain⟨fuel,hf⟩:=h;obtain⟨n,c0,e0,w0⟩:=DataW.trod_int Tryz.underlying3 hf
 have hn:lX v=true:=by
  simp only[Value.okWide,Tryz.underlying3]at hv;exact Gm hv
 rw[D6 hn]at c0;exact⟨n,by simpa using c0,wf_i64 w0⟩
end Go.Proofs.YtmglaebjmaomnaaGreatDoor
namespace Go.Proofs.YtmglaebjmaomnaaGreatDoor
open Go.ChangeShapes Go.WideShapes Go.ChangeAt Go.RowKit Go.Av.Fn Go.ChangeMaps Go.Av
theorem own:ownKnob Tryz.prog.godebug=none:=by kernel_rfl
theorem door_met(os:Os)(args:Array Value):laidMetH Tryz.prog FO ((World.doorLaid Tryz.prog 4000 os).forCall (fun _ _=>0) ⟨#[],args,[]⟩).memory:=
 laidMetH_of_parts3 (fuel:=8) (laidMet_of_run' 8 (by kernel_rfl) (by kernel_rfl)) (by kernel_rfl) (by kernel_rfl)
theorem TA:KX Tryz.prog=true:=by kernel_rfl
end Go.Proofs.YtmglaebjmaomnaaGreatDoor
namespace Go.Proofs.YtmglaebjmaomnaaGreatDoor
open Go.ChangeShapes Go.WideShapes Go.ChangeAt Go.RowKit Go.Av.Fn Go.ChangeMaps Go.Av
theorem zg1 : Tryz.pinned.checked.prog.mainIs = some (true, (("bb766fb570bec7cb2739f021d878634c7761997539a2e05ecd9a98ea531ab34b" : String).toList)) := by kernel_rfl
theorem zcb:true=Tryz.pinned.checked.prog.looks []:=by kernel_rfl
end Go.Proofs.YtmglaebjmaomnaaGreatDoor
namespace Go.Proofs.YtmglaebjmaomnaaGreatDoor
open Go.ChangeShapes Go.WideShapes Go.ChangeAt Go.RowKit Go.Av.Fn Go.ChangeMaps Go.Av
end Go.Proofs.YtmglaebjmaomnaaGreatDoor
namespace Go.Proofs.YtmglaebjmaomnaaGreatDoor
open Go.ChangeShapes Go.WideShapes Go.ChangeAt Go.RowKit Go.Av.Fn Go.ChangeMaps Go.Av
set_option maxHeartbeats 3200000 in
theorem Zv{H:Type}{enc:TypeId×Value→H}{W:World}{base:Nat}{v:Value}{d:DataW H}{ps:List MemPlace}(hv:Value.okWide Tryz.prog W .any base 28 v)(h:DataW.Trod enc Tryz.prog W 0 (fun _=>true) true 28 v d ps) :
  ∃ (nn:Bool) (k:Kt),ku (startA W) (ktV nn k) v∧(nn=true∨k.l.l=[])∧I64 k.v∧I64 k.n∧I64 k.l.b∧∀ e∈k.l.l,GN e:=by
 have hv0:=hv;obtain⟨l,rfl,hl,hna⟩:=G9 Tryz.underlying28 hv;obtain⟨fuel,hf⟩:=h;obtain⟨y0,y1,y2,m0,hx,hlen,g0,g1,g2⟩:=Go.Deep.trod_struct3 Tryz.underlying28 hf;have hc5:Tryz.prog.cellsOf 28=5:=by kernel_rfl
 have hc3:Tryz.prog.cellsOf 26=3:=by kernel_rfl
 have hc1:Tryz.prog.cellsOf 3=1:=by kernel_rfl
 have hc2:Tryz.prog.cellsOf 9=1:=by kernel_rfl
 have hc4:Tryz.prog.cellsOf 24=1:=by kernel_rfl
 rw[hc5]at hl
 match l,hl with
 |[a0,a1,a,b,c],_=>
  simp only[Value.cells,bK,hc1,hc2,hc3,hc4,di,dM,dW]at g0 g1 g2;obtain⟨k0,c0,e0,w0⟩:=DataW.trod_int Tryz.underlying3 g0;obtain⟨k1,c1,e1,w1⟩:=DataW.trod_int Tryz.underlying3 g1;obtain⟨z0,z1,z2,_,_,_,q0,q1,q2⟩:=Go.Deep.trod_struct3 Tryz.underlying26 g2;simp only[hc1,hc2,hc4,bK,di,dM,dW]at q0 q1 q2;obtain⟨k2,c2,e2,w2⟩:=DataW.trod_int Tryz.underlying3 q0;obtain⟨s,c3,e3,w3⟩:=DataW.trod_string Tryz.underlying9 q1
  have hsp:∀ p len cap,[c]=[.slice (some p) len cap]→p.spot=none:=by
   intro p len cap e;simp only[aP,and_true]at e;subst e;simp only[Value.okWide,Tryz.underlying28]at hv0;obtain⟨cs,q1,q2,ts,q3,q4,q5⟩:=hv0
   have e1:cs = #[a0,a1,a,b,.slice (some p) len cap]:=by
    cases q1;rfl
   subst e1;obtain⟨u,q6,q7⟩:=q5 4 _ rfl;have hts:Tryz.prog.cellTypes Tryz.prog.depth 28=some ts:=q3
   have:u=24:=by
    have hk:Tryz.prog.cellTypes Tryz.prog.depth 28=some [3,3,3,9,24]:=by kernel_rfl
    rw[hk]at hts;cases hts
    simpa using q6.symm
   subst this;simp only[Cell.okWide,Cell.ok,Tryz.underlying24]at q7;exact q7.2.2.2.1
  obtain⟨nb,es,v',c4,hr,hn,hle,hi⟩:=Zw hsp q2;simp only[aP,and_true]at c0 c1 c2 c3 c4;subst c0 c1 c2 c3 c4;refine⟨nb,⟨k0,k1,⟨k2,s.data.toList,es⟩⟩,.agg (.cons (.val rfl) (.cons (.val rfl) (.cons (.val rfl) (.cons (Ua s) (.cons hr .nil))))),hn,wf_i64 w0,wf_i64 w1,wf_i64 w2,fun e he => ?_⟩;obtain⟨j1,j2,j3,j4,j5,j6,_⟩:=hi e he;exact⟨j1,j2,j3,j4,j5,j6⟩
end Go.Proofs.YtmglaebjmaomnaaGreatDoor
namespace Go.Av.Fn
open Go.Proofs
section
variable {Γ:jG} {m:Store}
end
def lgE(x y:Lg):Bool:=x.b==y.b&&(x.c==y.c&&decide (x.l=y.l))
section
variable {Γ:jG} {m:Store}
theorem Zk(a b:Bool)(x y:Lg)(hl:x.l.length≤2000000):jB Tryz.prog Γ 40 [lgV a x,lgV b y] m fun o m'=>o = .ret (bo (lgE x y))∧m'=m:=by
 have hna:=pO (k:=0) a x;have hnb:=pO (k:=0) b y;have hla:=kL (k:=0) a x.l;have hlb:=kL (k:=0) b y.l;refine jY (jZ mixed ziY zlI jP (by simp only[hna,hnb,nbS]) ?_);simp only[F40,lgV,ss0,ay,ag];simp only[jA,ssH,ag,ae,reduceIte,af,aj,ah,ai];cases h1:(x.b==y.b)
 ·simp only[ssH,ag,ae,reduceIte,af,aj,ah,ai];exact jy jD ⟨nbZ,by rw[lgE,h1];rfl⟩
 cases h2:(x.c==y.c)
 ·simp only[h2,ssH,ag,ae,reduceIte,af,aj,ah,ai];exact jy jD ⟨nbZ,by rw[lgE,h1,h2];rfl⟩
 simp only[h2,ssH,ag,ae,reduceIte,af,aj,ah,ai];refine jC (v:=bo (decide (x.l=y.l))) (by intro m;exact VX (Γ:=Γ) (m:=m) b (t:=if a then .non else .full) x.l y.l (by omega)) (by simp only[hla,hlb,nbS]) (by simp only[bo,nbS]) ?_;simp only[bo,ssH,ag,ae,reduceIte,af,aj,ah,ai];exact jy jD ⟨nbZ,by rw[lgE,h1,h2];rfl⟩
end
end Go.Av.Fn
namespace Go.Av.Fn
open Go.Proofs
section
variable {Γ:jG} {m:Store}
end
section
variable {Γ:jG} {m:Store}
set_option maxHeartbeats 3200000 in
theorem UF{g:FuncId}{X0:Blk}(hX:nbB 0 X0)(hR:∀ σ,xI σ X0=X0){X:List UInt8}(hX2:X.length≤200000)
  (hc:∀ (l:List UInt8) (k:Nat),l≠[]→l.length≤1000→FN Tryz.prog Γ g [.sl (l.map by8) [] (.tip 1 k),.ptr 0 0] [some X0,vW k] 1 fun v h' => ∃ k',v = .sl ((l++X).map by8) [] (.tip 1 k')∧h'=[some X0,vW k'])
  (ns:List Int) (hn:∀ n∈ns,Av.I64 n) (h0:ns≠[]) (h3:ns.length≤10) :
  FN Tryz.prog Γ 43 [.fn (.func g) [] [.ptr 0 0],.sl (ns.map it) [] .full] [some X0] 1 fun v h'=>v=slN (frB (kH ns++X))∧h'=[some X0]:=by
 have hln:=wE hn
 have hne0:kH ns≠[]:=by
  cases ns with
  |nil=>exact absurd rfl h0
  |cons n ns=>simp only[kH];intro h;exact uB n (List.append_eq_nil_iff.1 h).1
 refine Qr mixed zdA zhp jP 1 ?_;simp only[F43,ss0,ay,ag];simp only[lV,aK,ssH,ag,ae,reduceIte,af,aj,ah,ai];have hX1:∀ k,nbB k X0:=fun k=>hX.up _;have hnb:=sJ (k:=1) ns;have hnb0:=sJ (k:=0) ns;refine mi [5,0,10,11,12] 28 (fun n vs h=>∃ (i:Nat) (tk:Tok),vs=[.sl ((kH (ns.take i)).map by8) [] tk,.fn (.func g) [] [.ptr 0 0],.sl (ns.map it) [] .full,it ns.length,it i]∧i+n=ns.length+1∧i≤ns.length∧((i=0∧h=[some X0]∧tk = .full)∨(0<i∧∃ k,h=[some X0,vW k]∧tk = .tip 1 k))) (ns.length+1) (by decide) (by decide) (aJ 1) ?_ ?_
 ·refine jW rfl (by decide) (by decide) (by simp) ?_ ?_ ⟨0,.full,by simp only[kH,dM];rfl,by omega,by omega,.inl ⟨rfl,rfl,rfl⟩⟩
  ·show nbs 1 [.sl [] [] .full,.fn (.func g) [] [.ptr 0 0],.sl (ns.map it) [] .full,it ns.length,it 0];simp only[hnb,nbS]
   try decide
  ·intro a ha x hx;have:a=0:=by omega
   subst this;cases hx;exact hX.up _
 rintro n t h J hJ hlt ⟨i,tk,hv,hi1,hi2,hh⟩;simp only[aZ,aP,and_true]at hv;obtain⟨g5,g0,g10,g11,g12⟩:=hv
 have hlen:(kH (ns.take i)).length≤100:=by
  have:=wE (l:=ns.take i) fun x hx=>hn x (dw hx);rw[bf]at this;omega
 obtain⟨pr,hpr⟩:∃ z,z=kH (ns.take i):=⟨_,rfl⟩;rw[←hpr]at g5 hlen;rw[mJ hlt];simp only[jV,upTo,g5,g0,g10,g11,g12,aK,ssH,ag,ae,reduceIte,af,aj,ah,ai]
 by_cases hil:i<ns.length
 ·have hx2:ns[i]? = some ns[i]:=aI hil;have hni:Av.I64 ns[i]:=hn _ (dS _);have hst:kH (ns.take (i+1))=kH (ns.take i)++uz ns[i]:=by rw[aW,hx2,Jw];simp[kH]
  generalize ns[i]=a at hx2 hni hst;obtain⟨nx,hnx⟩:∃ z,z=kH (ns.take (i+1)):=⟨_,rfl⟩;have hp:nx=pr++uz a:=by rw[hnx,hpr,hst]
  have hi9:sU 1 (.sl (ns.map it) [] .full) (it i)=some (.elt [it a]):=oh (e:=it a) (by rw[bH,hx2];rfl) rfl;have hne3:nx.map by8≠[]:=lU (by rw[hp];simp[uB])
  have fin:∀ {t':List V} {h':Hl} (j k:Nat),t'.length=28→jT t' 5 = .sl (nx.map by8) [] (.tip j k)→jT t' 0 = .fn (.func g) [] [.ptr 0 0]→jT t' 10 = .sl (ns.map it) [] .full→jT t' 11=it ns.length→jT t' 12=it (i+1:Nat)→lk h' 0=some X0→lk h' j=some (.tip 5 k)→1≤j→∃ names,J names ⟨t',h'⟩:=by
   intro t' h' j k q q5 q0 q10 q11 q12 qc qj hj;refine⟨_,hJ (n-1) _ _ (by omega) (IW (c:=1) (j:=j) (k:=k) (es:=nx.map by8) (more:=[.fn (.func g) [] [.ptr 0 0],.sl (ns.map it) [] .full,it ns.length,it (i+1:Nat)]) [some X0] q (aY _) hj (by decide) qj rfl (by simp only[aZ,q5,q0,q10,q11,q12]) (jS _) (by simp only[hnb,nbS];try decide) ?_ ⟨i+1,.tip 1 k,by rw[←hnx],by omega,by omega,.inr ⟨by omega,k,rfl,rfl⟩⟩)⟩;intro a ha x hx;have:a=0:=by omega
   subst this;cases hx;exact⟨qc,hX.up _⟩
  simp only[show decide ((i:Int)<(ns.length:Int))=true from decide_eq_true (by omega),hi9,ssH,ag,ae,reduceIte,af,aj,ah,ai]
  rcases hh with ⟨hi0,rfl,rfl⟩|⟨hi0,k,rfl,rfl⟩
  ·have hpe:pr=[]:=by rw[hpr,hi0];rfl
   rw[hpe,aC]at hp;subst hpe;simp only[List.map_nil];refine Gw (e:=5) (size:=1) (az:=[it a]) (es2:=nx.map by8) (by simp) rfl hne3 (fun m=>by rw[hp];exact qp (Γ:=Γ) (l:=[]) (.inr ⟨rfl,rfl,rfl⟩) hni (by simp)) nbY (jS _) fun k => ?_;simp only[aB,aC,ax,aA,jQ (show i<4611686018427387904 by omega),ssH,ag,ae,reduceIte,af,aj,ah,ai];exact fin 1 k rfl rfl rfl rfl rfl rfl rfl rfl (by decide)
  ·have hpn:pr≠[]:=by
    rw[hpr]
    cases ns with
    |nil=>simp at hil
    |cons n ns=>
     cases i with
     |zero=>omega
     |succ i=>simp[kH,uB]
   simp only[vW,ssH,ag,ae,reduceIte,af,aj,ah,ai];refine qA (e:=5) (size:=1) (j:=1) (k:=k) (az:=[it a]) (es:=pr.map by8) (es2:=nx.map by8) (by simp) rfl rfl (lJ _) (lU hpn) hne3 (fun m m' v h=>by rw[hp];exact qp (Γ:=Γ) (.inl h) hni (by omega)) (jS _) nbY (jS _) fun k => ?_;simp only[qY,qZ,aB,aC,ax,aA,jQ (show i<4611686018427387904 by omega),ssH,ag,ae,reduceIte,af,aj,ah,ai];exact fin 2 k rfl rfl rfl rfl rfl rfl rfl rfl (by decide)
 ·simp only[show decide ((i:Int)<(ns.length:Int))=false from decide_eq_false (by omega),ssH,ag,ae,reduceIte,af,aj,ah,ai];have hie:i=ns.length:=by omega
  rw[hie,bJ]at hpr;subst hpr
  rcases hh with ⟨hi0,rfl,rfl⟩|⟨hi0,k,rfl,rfl⟩
  ·have:ns=[]:=List.length_eq_zero_iff.1 (by omega);exact absurd this h0
  ·refine EZ (args0:=[.sl ((kH ns).map by8) [] (.tip 1 k),.ptr 0 0]) (hs:=[some X0,vW k]) [0] [1] (hc (kH ns) k hne0 (by omega)) (by first|rfl|(simp only[tq,ren,zo,rO,rP];rfl)) (by simp only[kY,ax,aA,nbS];try decide) (by simp only[vW,qw,qK,hX1,nbS];try decide) rfl (by decide) (by simp) ?_ (by simp) ?_
   ·simp only[vW,aB,aC,uT,uy,Hz,hR,rO,rP,and_true]
    first|exact⟨rfl,rfl⟩|rfl
   rintro v h' ⟨k',rfl,rfl⟩;refine⟨⟨by simp,by simp only[kY,ax,aA,nbS];try decide,by simp only[vW,qw,qK,hX1,nbS];try decide,by simp⟩,?_⟩;simp only[vW,Gv,yP,yF,wZ,dX,aZ,Hz,hR,ren,tq,Za,zo,rO,rP,Ic,qY,qZ,ax,aA,aB,aC,fD,ssH,ag,ae,reduceIte,af,aj,ah,ai];obtain⟨b,hb⟩:∃ z,z=kH ns++X:=⟨_,rfl⟩;have hbl:b.length≤300000:=by rw[hb,aH];omega
   simp only[←hb];refine Qn (v:=.tup [slN (frB b),it 0]) (x:=.sl [] [] .full) (es:=b.map by8) (more:=[]) rfl (fun m tok'=>jY (Yx b [] tok' (by omega))) nbY (jS _) .nil .nil (by simp only[oP,nbS]) ?_;simp only[ssH,ag,ae,reduceIte,af,aj,ah,ai];exact jy (v:=slN (frB b)) rfl ⟨[0],_,_,Fq oP rfl hX,rfl,rfl⟩
set_option maxHeartbeats 3200000 in
theorem zcq{g:FuncId}{X:List UInt8}(hX2:X.length≤200000)
  (hc:∀ (l:List UInt8) (k:Nat),l≠[]→l.length≤1000→FN Tryz.prog Γ g [.sl (l.map by8) [] (.tip 0 k)] [vW k] 0 fun v h' => ∃ k',v = .sl ((l++X).map by8) [] (.tip 0 k')∧h' = [vW k'])
  (ns:List Int) (hn:∀ n∈ns,Av.I64 n) (h0:ns≠[]) (h3:ns.length≤10) :
  FN Tryz.prog Γ 43 [.fn (.func g) [] [],.sl (ns.map it) [] .full] [] 0 fun v h'=>v=slN (frB (kH ns++X))∧h'=[]:=by
 have hln:=wE hn
 have hne0:kH ns≠[]:=by
  cases ns with
  |nil=>exact absurd rfl h0
  |cons n ns=>simp only[kH];intro h;exact uB n (List.append_eq_nil_iff.1 h).1
 refine Qr mixed zdA zhp jP 0 ?_;simp only[F43,ss0,ay,ag];simp only[lV,aK,ssH,ag,ae,reduceIte,af,aj,ah,ai];have hnb:=sJ (k:=0) ns;have hnb0:=sJ (k:=0) ns;refine mi [5,0,10,11,12] 28 (fun n vs h=>∃ (i:Nat) (tk:Tok),vs=[.sl ((kH (ns.take i)).map by8) [] tk,.fn (.func g) [] [],.sl (ns.map it) [] .full,it ns.length,it i]∧i+n=ns.length+1∧i≤ns.length∧((i=0∧h=[]∧tk = .full)∨(0<i∧∃ k,h=[vW k]∧tk = .tip 0 k))) (ns.length+1) (by decide) (by decide) (aJ 0) ?_ ?_
 ·refine jW rfl (by decide) (by decide) (by simp) ?_ ?_ ⟨0,.full,by simp only[kH,dM];rfl,by omega,by omega,.inl ⟨rfl,rfl,rfl⟩⟩
  ·show nbs 0 [.sl [] [] .full,.fn (.func g) [] [],.sl (ns.map it) [] .full,it ns.length,it 0];simp only[hnb,nbS]
   try decide
  ·intro a ha x hx;omega
 rintro n t h J hJ hlt ⟨i,tk,hv,hi1,hi2,hh⟩;simp only[aZ,aP,and_true]at hv;obtain⟨g5,g0,g10,g11,g12⟩:=hv
 have hlen:(kH (ns.take i)).length≤100:=by
  have:=wE (l:=ns.take i) fun x hx=>hn x (dw hx);rw[bf]at this;omega
 obtain⟨pr,hpr⟩:∃ z,z=kH (ns.take i):=⟨_,rfl⟩;rw[←hpr]at g5 hlen;rw[mJ hlt];simp only[jV,upTo,g5,g0,g10,g11,g12,aK,ssH,ag,ae,reduceIte,af,aj,ah,ai]
 by_cases hil:i<ns.length
 ·have hx2:ns[i]? = some ns[i]:=aI hil;have hni:Av.I64 ns[i]:=hn _ (dS _);have hst:kH (ns.take (i+1))=kH (ns.take i)++uz ns[i]:=by rw[aW,hx2,Jw];simp[kH]
  generalize ns[i]=a at hx2 hni hst;obtain⟨nx,hnx⟩:∃ z,z=kH (ns.take (i+1)):=⟨_,rfl⟩;have hp:nx=pr++uz a:=by rw[hnx,hpr,hst]
  have hi9:sU 1 (.sl (ns.map it) [] .full) (it i)=some (.elt [it a]):=oh (e:=it a) (by rw[bH,hx2];rfl) rfl;have hne3:nx.map by8≠[]:=lU (by rw[hp];simp[uB])
  have fin:∀ {t':List V} {h':Hl} (j k:Nat),t'.length=28→jT t' 5 = .sl (nx.map by8) [] (.tip j k)→jT t' 0 = .fn (.func g) [] []→jT t' 10 = .sl (ns.map it) [] .full→jT t' 11=it ns.length→jT t' 12=it (i+1:Nat)→lk h' j=some (.tip 5 k)→0≤j→∃ names,J names ⟨t',h'⟩:=by
   intro t' h' j k q q5 q0 q10 q11 q12 qj hj;refine⟨_,hJ (n-1) _ _ (by omega) (IW (c:=0) (j:=j) (k:=k) (es:=nx.map by8) (more:=[.fn (.func g) [] [],.sl (ns.map it) [] .full,it ns.length,it (i+1:Nat)]) [] q (aY _) hj (by decide) qj rfl (by simp only[aZ,q5,q0,q10,q11,q12]) (jS _) (by simp only[hnb,nbS];try decide) ?_ ⟨i+1,.tip 0 k,by rw[←hnx],by omega,by omega,.inr ⟨by omega,k,rfl,rfl⟩⟩)⟩;intro a ha x hx;omega
  simp only[show decide ((i:Int)<(ns.length:Int))=true from decide_eq_true (by omega),hi9,ssH,ag,ae,reduceIte,af,aj,ah,ai]
  rcases hh with ⟨hi0,rfl,rfl⟩|⟨hi0,k,rfl,rfl⟩
  ·have hpe:pr=[]:=by rw[hpr,hi0];rfl
   rw[hpe,aC]at hp;subst hpe;simp only[List.map_nil];refine Gw (e:=5) (size:=1) (az:=[it a]) (es2:=nx.map by8) (by simp) rfl hne3 (fun m=>by rw[hp];exact qp (Γ:=Γ) (l:=[]) (.inr ⟨rfl,rfl,rfl⟩) hni (by simp)) nbY (jS _) fun k => ?_;simp only[aB,aC,ax,aA,jQ (show i<4611686018427387904 by omega),ssH,ag,ae,reduceIte,af,aj,ah,ai];exact fin 0 k rfl rfl rfl rfl rfl rfl rfl (by decide)
  ·have hpn:pr≠[]:=by
    rw[hpr]
    cases ns with
    |nil=>simp at hil
    |cons n ns=>
     cases i with
     |zero=>omega
     |succ i=>simp[kH,uB]
   simp only[vW,ssH,ag,ae,reduceIte,af,aj,ah,ai];refine qA (e:=5) (size:=1) (j:=0) (k:=k) (az:=[it a]) (es:=pr.map by8) (es2:=nx.map by8) (by simp) rfl rfl (lJ _) (lU hpn) hne3 (fun m m' v h=>by rw[hp];exact qp (Γ:=Γ) (.inl h) hni (by omega)) (jS _) nbY (jS _) fun k => ?_;simp only[qY,qZ,aB,aC,ax,aA,jQ (show i<4611686018427387904 by omega),ssH,ag,ae,reduceIte,af,aj,ah,ai];exact fin 1 k rfl rfl rfl rfl rfl rfl rfl (by decide)
 ·simp only[show decide ((i:Int)<(ns.length:Int))=false from decide_eq_false (by omega),ssH,ag,ae,reduceIte,af,aj,ah,ai];have hie:i=ns.length:=by omega
  rw[hie,bJ]at hpr;subst hpr
  rcases hh with ⟨hi0,rfl,rfl⟩|⟨hi0,k,rfl,rfl⟩
  ·have:ns=[]:=List.length_eq_zero_iff.1 (by omega);exact absurd this h0
  ·refine EZ (args0:=[.sl ((kH ns).map by8) [] (.tip 0 k)]) (hs:=[vW k]) [] [0] (hc (kH ns) k hne0 (by omega)) (by first|rfl|(simp only[tq,ren,zo,rO,rP];rfl)) (by simp only[kY,ax,aA,nbS];try decide) (by simp only[vW,qw,qK,nbS];try decide) rfl (by decide) (by simp) ?_ (by simp) ?_
   ·simp only[vW,aB,aC,uT,uy,Hz,rO,rP,and_true]
    first|exact⟨rfl,rfl⟩|rfl
   rintro v h' ⟨k',rfl,rfl⟩;refine⟨⟨by simp,by simp only[kY,ax,aA,nbS];try decide,by simp only[vW,qw,qK,nbS];try decide,by simp⟩,?_⟩;simp only[vW,Gv,yP,yF,wZ,dX,aZ,Hz,ren,tq,Za,zo,rO,rP,Ic,qY,qZ,ax,aA,aB,aC,fD,ssH,ag,ae,reduceIte,af,aj,ah,ai];obtain⟨b,hb⟩:∃ z,z=kH ns++X:=⟨_,rfl⟩;have hbl:b.length≤300000:=by rw[hb,aH];omega
   simp only[←hb];refine Qn (v:=.tup [slN (frB b),it 0]) (x:=.sl [] [] .full) (es:=b.map by8) (more:=[]) rfl (fun m tok'=>jY (Yx b [] tok' (by omega))) nbY (jS _) .nil .nil (by simp only[oP,nbS]) ?_;simp only[ssH,ag,ae,reduceIte,af,aj,ah,ai];exact jy (v:=slN (frB b)) rfl ⟨[],_,_,zfd oP,rfl,rfl⟩
end
def zkL(a b c:V):Option V:=(pI 1 [.val (.int .i64 0),.val (.int .i64 0),.val (.int .i64 0)] [(0,a),(1,b),(2,c)]).map fun es=>.sl es [] .full
def zkM(a b:V):Option V:=(pI 1 [.val (.int .i64 0),.val (.int .i64 0)] [(0,a),(1,b)]).map fun es=>.sl es [] .full
theorem X5(a b c:Int):zkL (it a) (it b) (it c)=some (.sl ([a,b,c].map it) [] .full):=rfl
theorem zeo(a b:Int):zkM (it a) (it b)=some (.sl ([a,b].map it) [] .full):=rfl
def tX(ns:List Int)(X:List UInt8):List UInt8:=frB (kH ns++X)
def GH(b:Bool)(x:List UInt8):V:=.tup [if b=true then slN x else .sl [] [] .full,it (if b=true then 0 else 2)]
def KT(b:Bool)(x:List UInt8):V:=.tup [bs (if b=true then x else []),it (if b=true then 0 else 2)]
def xy(op:Int)(e:Ent):Bool:=decide (1≤op)&&(decide (op≤2147483647)&&nN e)
theorem Ar{v n:Int}(h:ni v n=true):Av.I64 v∧Av.I64 n:=by
 simp only[ni,aG,decide_eq_true_eq]at h;exact⟨⟨by omega,by omega⟩,⟨by omega,by omega⟩⟩
section
variable {Γ:jG} {m:Store}
theorem X6{t:List V}{n:Int}{b c:Nat}{m:Store}:jJ Tryz.prog (ev Γ t) m (.lits 1 [.val (.int .i64 0)] 3 [(0,.const (.int .i64 n)),(1,.tmp b),(2,.tmp c)])=zkL (it n) (jT t b) (jT t c):=by
 rw[←rV (Γ:=Γ),←rV (Γ:=Γ)];rfl
theorem zep{t:List V}{n:Int}{b:Nat}{m:Store}:jJ Tryz.prog (ev Γ t) m (.lits 1 [.val (.int .i64 0)] 2 [(0,.const (.int .i64 n)),(1,.tmp b)])=zkM (it n) (jT t b):=by
 rw[←rV (Γ:=Γ)];rfl
set_option maxHeartbeats 1600000 in
theorem JE(v n:Int):jB Tryz.prog Γ 17 [it v,it n] m fun o m'=>o = .ret (GH (ni v n) (tX [1,v,n] []))∧m'=m:=by
 refine jY (jZ mixed zjj zml jP nbY ?_);simp only[F17,ss0,ay,ag];simp only[ssH,ag,ae,reduceIte,af,aj,ah,ai];refine jC (v:=bo (ni v n)) (by exact fun m=>Qe v n) nbY (by simp only[bo,nbS]) ?_;cases h:ni v n
 ·simp only[bo,ssH,ag,ae,reduceIte,af,aj,ah,ai];exact jy (v:=GH false (tX [1,v,n] [])) rfl ⟨by simp only[GH,aF,if_false,nbS],rfl⟩
 ·obtain⟨i1,i2⟩:=Ar h;simp only[bo,X6,X5,ssH,ag,ae,reduceIte,af,aj,ah,ai];refine EZ (args0:=[.fn (.func 44) [] [],.sl ([1,v,n].map it) [] .full]) (hs:=[]) [] [] (zcq (X:=[]) (by simp) (fun l k _ _=>Wp l k) [1,v,n] (by intro a ha;simp only[dQ,dm,or_false]at ha;rcases ha with rfl|rfl|rfl<;>first|assumption|exact⟨by decide,by decide⟩) (by simp) (by simp)) (by simp only[aZ,tq,ren];rfl) (by simp only[sJ,nbS]) (by simp only[qK]) rfl (by decide) (by simp) (by simp only[uy]) (by simp) ?_;rintro w h' ⟨rfl,rfl⟩;refine⟨⟨by simp,by simp only[oP],by simp only[qK],by simp⟩,?_⟩;simp only[yP,wZ,Nh oP,dX,aZ,aS,ssH,ag,ae,reduceIte,af,aj,ah,ai];exact jy (v:=.tup [slN (frB (kH [1,v,n])),it 0]) rfl ⟨by simp only[oP,nbS],by simp only[GH,tX,if_true,aS]⟩
set_option maxHeartbeats 1600000 in
theorem Qg(E:Env Γ)(op:Int)(e:Ent)(he:GN e):jB Tryz.prog Γ 19 [it op,kM e] m fun o m'=>o = .ret (GH (xy op e) (tX [2,op] (pX e)))∧m'=m:=by
 have hne:=lY (k:=0) e;have hno:xy op e=false→GH (xy op e) (tX [2,op] (pX e)) = .tup [.sl [] [] .full,it 2]:=fun h=>by rw[h];rfl
 refine jY (jZ mixed zjd zme jP (by simp only[hne,nbS]) ?_);simp only[F19,kM,ss0,ay,ag];simp only[jA,gt_iff_lt,ssH,ag,ae,reduceIte,af,aj,ah,ai]
 by_cases h1:op<1
 ·simp only[decide_eq_true h1,ssH,ag,ae,reduceIte,af,aj,ah,ai];exact jy (v:=.tup [.sl [] [] .full,it 2]) rfl ⟨nbY,by rw[hno (by rw[xy,decide_eq_false (by omega)];rfl)]⟩
 by_cases h2:2147483647<op
 ·simp only[decide_eq_false h1,decide_eq_true h2,ssH,ag,ae,reduceIte,af,aj,ah,ai];exact jy (v:=.tup [.sl [] [] .full,it 2]) rfl ⟨nbY,by rw[hno (by rw[xy,decide_eq_true (by omega:1≤op),decide_eq_false (by omega:¬ op≤2147483647)];rfl)]⟩
 simp only[decide_eq_false h1,decide_eq_false h2,jA,ssH,ag,ae,reduceIte,af,aj,ah,ai];refine jC (by exact fun m=>Gl E e) nbX nbY ?_;have hk:xy op e=nN e:=by rw[xy,decide_eq_true (by omega:1≤op),decide_eq_true (by omega:op≤2147483647)];simp only[Bool.true_and]
 cases h3:nN e
 ·simp only[aF,if_false,show((2:Int) != 0)=true from rfl,ssH,ag,ae,reduceIte,af,aj,ah,ai];exact jy (v:=.tup [.sl [] [] .full,it 2]) rfl ⟨nbY,by rw[hno (by rw[hk,h3])]⟩
 ·obtain⟨q1,q2⟩:=Ot h3;have hpe:=DY he (by omega) (by omega);simp only[if_true,show((0:Int) != 0)=false from rfl,zep,zeo,ssH,ag,ae,reduceIte,af,aj,ah,ai];refine EZ (args0:=[.fn (.func 49) [] [.ptr 0 0],.sl ([2,op].map it) [] .full]) (hs:=[some (BI e)]) [0] [] (UF (X0:=BI e) (X:=pX e) (D8 e) (fun σ=>by simp only[BI,xI,tq,ren,bs]) (by omega) (fun l k a b=>Ws e he (by omega) l k a b) [2,op] (by intro a ha;simp only[dQ,dm,or_false]at ha;rcases ha with rfl|rfl<;>first|exact⟨by decide,by decide⟩|exact⟨by omega,by omega⟩) (by simp) (by simp)) (by simp only[aZ,tq,ren];rfl) (by simp only[sJ,ax,aA,nbS];decide) (by simp only[qw,qK,BI,nbS]) rfl (by decide) (by simp) (by simp only[aB,aC,uT,uy,BI,xI,tq,ren,bs,and_true];rfl) (by simp) ?_;rintro w h' ⟨rfl,rfl⟩;refine⟨⟨by simp,by simp only[oP],by simp only[qw,qK,BI,nbS],by simp⟩,?_⟩;simp only[yP,yF,wZ,Nh oP,dX,aZ,aS,ssH,ag,ae,reduceIte,af,aj,ah,ai];exact jy (v:=GH true (tX [2,op] (pX e))) rfl ⟨by simp only[GH,if_true,oP,nbS],by rw[hk,h3]⟩
set_option maxHeartbeats 1600000 in
theorem ZU(E:Env Γ)(nn:Bool)(k:Kt)(hb:Av.I64 k.l.b)(he:∀ e∈k.l.l,GN e):jB Tryz.prog Γ 21 [ktV nn k] m fun o m'=>o = .ret (GH (ktB k) (tX [3,k.v,k.n] (xY k.l)))∧m'=m:=by
 have hnl:=kL (k:=0) nn k.l.l;refine jY (jZ mixed zi9 zl5 jP (by simp only[CJ,nbS]) ?_);simp only[F21,ktV,ktC,ss0,ay,ag];simp only[jA,ssH,ag,ae,reduceIte,af,aj,ah,ai];refine jC (by exact fun m=>EY E nn k) (by simp only[hnl,nbS]) nbY ?_;cases h:ktB k
 ·simp only[aF,if_false,show((2:Int) != 0)=true from rfl,ssH,ag,ae,reduceIte,af,aj,ah,ai];exact jy (v:=GH false (tX [3,k.v,k.n] (xY k.l))) rfl ⟨by simp only[GH,aF,if_false,nbS],rfl⟩
 ·have h2:=h;simp only[ktB,aG]at h2;obtain⟨i1,i2⟩:=Ar h2.1;have hS:=XX h2.2 hb he;have hpl:=Uh hS;simp only[if_true,show((0:Int) != 0)=false from rfl,X6,X5,ssH,ag,ae,reduceIte,af,aj,ah,ai];refine EZ (args0:=[.fn (.func 53) [] [.ptr 0 0],.sl ([3,k.v,k.n].map it) [] .full]) (hs:=[some (Ed nn k)]) [0] [] (UF (X0:=Ed nn k) (X:=xY k.l) (wR 0 nn k) (fun σ=>by show Blk.var _ (tq σ (ktC nn k))=_;rw[Rn (RG 0 nn k)];rfl) (by omega) (fun l j a b=>Wn nn k hS.w l j a b) [3,k.v,k.n] (by intro a ha;simp only[dQ,dm,or_false]at ha;rcases ha with rfl|rfl|rfl<;>first|assumption|exact⟨by decide,by decide⟩) (by simp) (by simp)) (by simp only[aZ,tq,ren];rfl) (by simp only[sJ,ax,aA,nbS];decide) (by simp only[qw,qK,wR,nbS]) rfl (by decide) (by simp) (by simp only[aB,aC,uT,uy,and_true];show _=some (Blk.var _ (tq _ (ktC nn k)));rw[Rn (RG 0 nn k)];rfl) (by simp) ?_;rintro w h' ⟨rfl,rfl⟩;refine⟨⟨by simp,by simp only[oP],by simp only[qw,qK,wR,nbS],by simp⟩,?_⟩;simp only[yP,yF,wZ,Nh oP,dX,aZ,aS,ssH,ag,ae,reduceIte,af,aj,ah,ai];exact jy (v:=GH true (tX [3,k.v,k.n] (xY k.l))) rfl ⟨by simp only[GH,if_true,oP,nbS],rfl⟩
theorem Fh(v n:Int):jB Tryz.prog Γ 45 [it v,it n] m fun o m'=>o = .ret (bo (ni v n))∧m'=m:=by
 refine jY (jZ mixed ziU zlE jP nbY ?_);simp only[F45,ss0,ay,ag];simp only[ge_iff_le,ssH,ag,ae,reduceIte,af,aj,ah,ai];cases h:decide (0≤n)
 ·simp only[h,ssH,ag,ae,reduceIte,af,aj,ah,ai];exact jy jD ⟨nbZ,by simp only[ni,h];rfl⟩
 simp only[h,ssH,ag,ae,reduceIte,af,aj,ah,ai];cases h2:decide (n≤v)
 ·simp only[h2,ssH,ag,ae,reduceIte,af,aj,ah,ai];exact jy jD ⟨nbZ,by simp only[ni,h,h2];rfl⟩
 simp only[h2,ssH,ag,ae,reduceIte,af,aj,ah,ai];exact jy jD ⟨nbZ,by simp only[ni,h,h2];rfl⟩
theorem QD(nn:Bool)(k:Kt):jB Tryz.prog Γ 55 [ktV nn k] m fun o m'=>o = .ret (bo (ktB k))∧m'=m:=by
 have hnl:=kL (k:=0) nn k.l.l;refine jY (jZ mixed ziK zlu jP (by simp only[CJ,nbS]) ?_);simp only[F55,ktV,ktC,ss0,ay,ag];simp only[jA,ssH,ag,ae,reduceIte,af,aj,ah,ai];refine jC (v:=bo (ni k.v k.n)) (by exact fun m=>Fh k.v k.n) nbY (by simp only[bo,nbS]) ?_;cases h:ni k.v k.n
 ·simp only[bo,ssH,ag,ae,reduceIte,af,aj,ah,ai];exact jy jD ⟨nbZ,by simp only[ktB,h];rfl⟩
 simp only[bo,ssH,ag,ae,reduceIte,af,aj,ah,ai];refine jC (v:=bo (lgB k.l)) (by exact fun m=>zT nn k.l) (by simp only[hnl,nbS]) (by simp only[bo,nbS]) ?_;simp only[bo,ssH,ag,ae,reduceIte,af,aj,ah,ai];exact jy jD ⟨nbZ,by simp only[ktB,h];rfl⟩
theorem zaq(nn:Bool)(k:Kt):jB Tryz.prog Γ 23 [ktV nn k] m fun o m'=>o = .ret (it (if ktB k=true then 0 else 2))∧m'=m:=by
 have hnl:=kL (k:=0) nn k.l.l;refine jY (jZ mixed zi3 zl1 jP (by simp only[CJ,nbS]) ?_);simp only[F23,ktV,ktC,ss0,ay,ag];simp only[jA,ssH,ag,ae,reduceIte,af,aj,ah,ai];refine jC (v:=bo (ktB k)) (by exact fun m=>QD nn k) (by simp only[hnl,nbS]) (by simp only[bo,nbS]) ?_;cases h:ktB k
 ·simp only[bo,ssH,ag,ae,reduceIte,af,aj,ah,ai];exact jy jD ⟨nbZ,rfl⟩
 ·simp only[bo,ssH,ag,ae,reduceIte,af,aj,ah,ai];exact jy jD ⟨nbZ,rfl⟩
theorem CV{n:Int}(h:0≤n)(h2:n<100):Av.I64 n:=⟨by omega,by omega⟩
theorem zan(v n:Int):jB Tryz.prog Γ 18 [it v,it n] m fun o m'=>o = .ret (KT (ni v n) (tX [1,v,n] []))∧m'=m:=by
 refine jY (jZ mixed zjg zmg jP nbY ?_);simp only[F18,ss0,ay,ag];simp only[ssH,ag,ae,reduceIte,af,aj,ah,ai];refine jC (v:=bo (ni v n)) (by exact fun m=>Fh v n) nbY (by simp only[bo,nbS]) ?_;cases h:ni v n
 ·simp only[bo,ssH,ag,ae,reduceIte,af,aj,ah,ai];exact jy (v:=KT false (tX [1,v,n] [])) rfl ⟨by simp only[KT,nbS],rfl⟩
 ·obtain⟨i1,i2⟩:=Ar h;have z1:=ny i1;have z2:=ny i2;have z3:=ny (CV (n:=1) (by decide) (by decide));simp only[bo,ssH,ag,ae,reduceIte,af,aj,ah,ai];refine jC (v:=bs (uz 1)) (by exact fun m=>oU (CV (by decide) (by decide))) nbY nbY ?_;simp only[ssH,ag,ae,reduceIte,af,aj,ah,ai];refine jC (v:=bs (uz v)) (by exact fun m=>oU i1) nbY nbY ?_;simp only[rZ (uz 1) (uz v) (by omega),ssH,ag,ae,reduceIte,af,aj,ah,ai];refine jC (v:=bs (uz n)) (by exact fun m=>oU i2) nbY nbY ?_;simp only[rZ (uz 1++uz v) (uz n) (by rw[aH];omega),ssH,ag,ae,reduceIte,af,aj,ah,ai];refine jC (v:=bs (frB (uz 1++uz v++uz n))) (by exact fun m=>E8 _ (by simp only[aH];omega)) nbY nbY ?_;simp only[ssH,ag,ae,reduceIte,af,aj,ah,ai];exact jy (v:=.tup [bs (frB (uz 1++uz v++uz n)),it 0]) rfl ⟨nbY,by simp only[KT,tX,kH,if_true,aS,bg]⟩
theorem zao(op:Int)(e:Ent)(he:GN e):jB Tryz.prog Γ 20 [it op,kM e] m fun o m'=>o = .ret (KT (xy op e) (tX [2,op] (pX e)))∧m'=m:=by
 have hne:=lY (k:=0) e;have hno:xy op e=false→KT (xy op e) (tX [2,op] (pX e)) = .tup [bs [],it 2]:=fun h=>by rw[h];rfl
 refine jY (jZ mixed zja zl6 jP (by simp only[hne,nbS]) ?_);simp only[F20,kM,ss0,ay,ag];simp only[jA,gt_iff_lt,ssH,ag,ae,reduceIte,af,aj,ah,ai]
 by_cases h1:op<1
 ·simp only[decide_eq_true h1,ssH,ag,ae,reduceIte,af,aj,ah,ai];exact jy (v:=.tup [bs [],it 2]) rfl ⟨nbY,by rw[hno (by rw[xy,decide_eq_false (by omega)];rfl)]⟩
 by_cases h2:2147483647<op
 ·simp only[decide_eq_false h1,decide_eq_true h2,ssH,ag,ae,reduceIte,af,aj,ah,ai];exact jy (v:=.tup [bs [],it 2]) rfl ⟨nbY,by rw[hno (by rw[xy,decide_eq_true (by omega:1≤op),decide_eq_false (by omega:¬ op≤2147483647)];rfl)]⟩
 simp only[decide_eq_false h1,decide_eq_false h2,jA,ssH,ag,ae,reduceIte,af,aj,ah,ai];refine jC (v:=bo (nN e)) (by exact fun m=>DW e) nbX (by simp only[bo,nbS]) ?_;have hk:xy op e=nN e:=by rw[xy,decide_eq_true (by omega:1≤op),decide_eq_true (by omega:op≤2147483647)];simp only[Bool.true_and]
 cases h3:nN e
 ·simp only[bo,ssH,ag,ae,reduceIte,af,aj,ah,ai];exact jy (v:=.tup [bs [],it 2]) rfl ⟨nbY,by rw[hno (by rw[hk,h3])]⟩
 ·obtain⟨q1,q2⟩:=Ot h3;have hpe:=DY he (by omega) (by omega);have io:Av.I64 op:=⟨by omega,by omega⟩;have z2:=ny io;have z3:=ny (CV (n:=2) (by decide) (by decide));simp only[bo,jA,ssH,ag,ae,reduceIte,af,aj,ah,ai];refine jC (v:=bs (uz 2)) (by exact fun m=>oU (CV (by decide) (by decide))) nbY nbY ?_;simp only[jA,ssH,ag,ae,reduceIte,af,aj,ah,ai];refine jC (v:=bs (uz op)) (by exact fun m=>oU io) nbY nbY ?_;simp only[rZ (uz 2) (uz op) (by omega),jA,ssH,ag,ae,reduceIte,af,aj,ah,ai];refine jC (v:=bs (pX e)) (by exact fun m=>PQ e ⟨he,by omega,by omega⟩) nbX nbY ?_;simp only[rZ (uz 2++uz op) (pX e) (by rw[aH];omega),ssH,ag,ae,reduceIte,af,aj,ah,ai];refine jC (v:=bs (frB (uz 2++uz op++pX e))) (by exact fun m=>E8 _ (by simp only[aH];omega)) nbY nbY ?_;simp only[ssH,ag,ae,reduceIte,af,aj,ah,ai];exact jy (v:=.tup [bs (frB (uz 2++uz op++pX e)),it 0]) rfl ⟨nbY,by rw[hk,h3];simp only[KT,tX,kH,if_true,aS,aC,bg]⟩
theorem zam(nn:Bool)(k:Kt)(hb:Av.I64 k.l.b)(he:∀ e∈k.l.l,GN e):jB Tryz.prog Γ 22 [ktV nn k] m fun o m'=>o = .ret (KT (ktB k) (tX [3,k.v,k.n] (xY k.l)))∧m'=m:=by
 have hnl:=kL (k:=0) nn k.l.l;refine jY (jZ mixed zi7 zl2 jP (by simp only[CJ,nbS]) ?_);simp only[F22,ktV,ktC,ss0,ay,ag];simp only[jA,ssH,ag,ae,reduceIte,af,aj,ah,ai];refine jC (v:=bo (ktB k)) (by exact fun m=>QD nn k) (by simp only[hnl,nbS]) (by simp only[bo,nbS]) ?_;cases h:ktB k
 ·simp only[bo,ssH,ag,ae,reduceIte,af,aj,ah,ai];exact jy (v:=KT false (tX [3,k.v,k.n] (xY k.l))) rfl ⟨by simp only[KT,nbS],rfl⟩
 ·have h2:=h;simp only[ktB,aG]at h2;obtain⟨i1,i2⟩:=Ar h2.1;have hS:=XX h2.2 hb he;have hpl:=Uh hS;have z1:=ny i1;have z2:=ny i2;have z3:=ny (CV (n:=3) (by decide) (by decide));simp only[bo,jA,ssH,ag,ae,reduceIte,af,aj,ah,ai];refine jC (v:=bs (uz 3)) (by exact fun m=>oU (CV (by decide) (by decide))) nbY nbY ?_;simp only[jA,ssH,ag,ae,reduceIte,af,aj,ah,ai];refine jC (v:=bs (uz k.v)) (by exact fun m=>oU i1) nbY nbY ?_;simp only[rZ (uz 3) (uz k.v) (by omega),jA,ssH,ag,ae,reduceIte,af,aj,ah,ai];refine jC (v:=bs (uz k.n)) (by exact fun m=>oU i2) nbY nbY ?_;simp only[rZ (uz 3++uz k.v) (uz k.n) (by rw[aH];omega),jA,ssH,ag,ae,reduceIte,af,aj,ah,ai];refine jC (v:=bs (xY k.l)) (by exact fun m=>Zl nn k.l hS.w) (by simp only[hnl,nbS]) nbY ?_;simp only[rZ (uz 3++uz k.v++uz k.n) (xY k.l) (by simp only[aH];omega),ssH,ag,ae,reduceIte,af,aj,ah,ai];refine jC (v:=bs (frB (uz 3++uz k.v++uz k.n++xY k.l))) (by exact fun m=>E8 _ (by simp only[aH];omega)) nbY nbY ?_;simp only[ssH,ag,ae,reduceIte,af,aj,ah,ai];exact jy (v:=.tup [bs (frB (uz 3++uz k.v++uz k.n++xY k.l)),it 0]) rfl ⟨nbY,by simp only[KT,tX,kH,if_true,aS,aC,bg]⟩
end
theorem zhU{a b c x y z:V}:ng [a,b,c] [(0,3,.agg [x,y,z])]=some [x,y,z]:=(rfl)
section
variable {Γ:jG} {m:Store} {rb a:Nat} {s:List UInt8} {e:Int}
theorem QQ(s:List UInt8)(a:Nat)(e:Int):jB Tryz.prog Γ 79 [rdV s a e] m fun o m'=>o = .ret (it (ug s (a,e)))∧m'=m:=by
 refine jY (jZ mixed ziz zlk jP (by simp only[nS,nbS]) ?_);simp only[F79,rdV,ss0,ay,ag];simp only[jA,oV,ssH,ag,ae,reduceIte,af,aj,ah,ai]
 by_cases h:e=0
 ·subst h;simp only[show((0:Int)==0)=true from rfl,oV,ssH,ag,ae,reduceIte,af,aj,ah,ai]
  by_cases h2:a<s.length
  ·simp only[show decide ((a:Int)<(s.length:Int))=true from decide_eq_true (by omega),ssH,ag,ae,reduceIte,af,aj,ah,ai];exact jy (v:=it 5) rfl ⟨nbY,by simp[ug,h2]⟩
  ·simp only[show decide ((a:Int)<(s.length:Int))=false from decide_eq_false (by omega),ssH,ag,ae,reduceIte,af,aj,ah,ai];exact jy (v:=it 0) rfl ⟨nbY,by simp[ug,h2]⟩
 ·simp only[show(e==0)=false from beq_eq_false_iff_ne.2 h,ssH,ag,ae,reduceIte,af,aj,ah,ai];exact jy (v:=it e) rfl ⟨nbY,by simp[ug,h]⟩
end
section
variable {Γ:jG} {m:Store}
end
def ktN(k:Kt):V:=ktV (!k.l.l.isEmpty) k
theorem kU(j:Nat)(k:Kt):nb j (ktN k):=CJ j _ k
def lastOf(x:Lg):Int:=if lgB x=true then x.b+x.l.length else 0
theorem Qa(x:Lg):IntKind.i64.wrap (lastOf x+1)=lastOf x+1:=by
 unfold lastOf
 split
 ·rename_i h;simp only[lgB,aG,decide_eq_true_eq]at h;rw[wrap_i64 (by omega) (by omega)]
 ·decide
def okE(k:Kt)(en op err:Int):Bool:=en==0&&(err==0&&op==lastOf k.l+1)
def okW(k:Kt)(en v n:Int)(l:Lg):Bool:=en==0&&(ktB ⟨v,n,l⟩&&(decide (k.v≤v)&&(decide (k.n≤n)&&decide (k.l.b≤l.b))))
def IG(k:Kt)(s:List UInt8)(a:Nat×Int):Kt×Bool:=
 let op:=mf s a.1 a.2
 let e:=zF s op.2.1 op.2.2
 let r:=doL k.l (lT k.l e.1)
 if okE k (ug s e.2) op.1 r.2.2=true then (⟨k.v,k.n,r.2.1⟩,true)else (k,false)
def SA(k:Kt)(s:List UInt8)(a:Nat×Int)(whole:Bool):Kt×Bool:=
 let v:=mf s a.1 a.2
 let n:=mf s v.2.1 v.2.2
 let l:=if whole=true then IB s n.2.1 n.2.2 else (k.l,n.2)
 if okW k (ug s l.2) v.1 n.1 l.1=true then (⟨v.1,n.1,l.1⟩,true)else (k,false)
def pR(k:Kt)(s:List UInt8):Kt×Bool:=
 let a:=mf s 0 0
 if a.1=2 then IG k s a.2 else if a.1=3 then SA k s a.2 true else if a.1=1 then SA k s a.2 false else (k,false)
theorem zdp{x:Lg}{e:Ent}(h:(doL x (lT x e)).2.2=0):lgV (doL x (lT x e)).1 (doL x (lT x e)).2.1=lgN (doL x (lT x e)).2.1∧(doL x (lT x e)).1 = !(doL x (lT x e)).2.1.l.isEmpty:=by
 revert h;unfold doL lT
 split
 ·split
  ·split
   ·intro h;exact absurd h (by decide)
   ·intro _;have q:(x.l++[e]).isEmpty=false:=by cases x.l<;>rfl
    simp[lgN,q]
  ·intro h;exact absurd h (by decide)
 ·intro h;exact absurd h (by decide)
theorem zcR(x:Lg):(!x.l.isEmpty)=true∨x.l=[]:=by cases h:x.l<;>simp
section
variable {Γ:jG} {m:Store}
set_option maxHeartbeats 3200000 in
theorem ZT(E:Env Γ)(k:Kt)(s:List UInt8)(a:Nat)(e:Int)(ha:a≤s.length)(hs:s.length≤281474976710656):FN Tryz.prog Γ 88 [ktN k,.ptr 0 0] [some (rdB s a e)] 1 fun v h'=>v = .tup [ktN (IG k s (a,e)).1,bo (IG k s (a,e)).2]∧∃ a' e',h'=[some (rdB s a' e')]:=by
 have hnl:=kL (k:=0) (!k.l.l.isEmpty) k.l.l;obtain⟨op,a1,e1,h1⟩:∃ x y z,mf s a e=(x,y,z):=⟨_,_,_,rfl⟩;have l1:=lh (e:=e) ha;rw[h1]at l1;obtain⟨en,a2,e2,h2⟩:∃ x y z,zF s a1 e1=(x,y,z):=⟨_,_,_,rfl⟩;have l2:=Ls (e:=e1) l1;rw[h2]at l2;simp only at l1 l2;obtain⟨fl,l',er,hr⟩:∃ x y z,doL k.l (lT k.l en)=(x,y,z):=⟨_,_,_,rfl⟩;have hfl:=zdp (x:=k.l) (e:=en);rw[hr]at hfl
 have hF:IG k s (a,e)=if okE k (ug s (a2,e2)) op er=true then (⟨k.v,k.n,l'⟩,true)else (k,false):=by
  unfold IG;simp only[h1,h2,hr]
 have hno:okE k (ug s (a2,e2)) op er=false→IG k s (a,e)=(k,false):=fun h=>by rw[hF,h];rfl
 have hap:=fun m=>V3 (Γ:=Γ) (m:=m) E (zcR k.l) en;simp only[hr]at hap;have hn1:=pO (k:=0) fl l';have hn2:=kL (k:=0) fl l'.l;have bad:∀ {t:List V} {h:Hl} {a':Nat} {e':Int},lk h 0=some (rdB s a' e')→∃ names v2 h2,As 1 names v2 h2 (.tup [ktN k,bo false]) h∧v2 = .tup [ktN k,bo false]∧∃ a' e',h2=[some (rdB s a' e')]:=fun hl=>⟨[0],_,_,Fq (by simp only[kU,bo,nbS]) hl kK,rfl,_,_,rfl⟩;refine Qr mixed ziq zlg jP 1 ?_;simp only[F88,ktN,ktV,ktC,ss0,ay,ag];simp only[jA,aB,aC,ax,aA,ssH,ag,ae,reduceIte,af,aj,ah,ai];refine jO (b:=0) (X:=rdB s a e) rfl rfl (fun m b' h=>su h ha (by omega)) kK kK nbY nbY ?_;simp only[h1,ssH,ag,ae,reduceIte,af,aj,ah,ai];refine jO (b:=0) (X:=rdB s a1 e1) rfl rfl (fun m b' h=>Xx E.lib h l1 hs) kK kK nbY (lY _) ?_;simp only[h2,kM,jA,aB,aC,ax,aA,ssH,ag,ae,reduceIte,af,aj,ah,ai];refine jC (by exact fun m=>hap m) (by simp only[hnl,nbS]) (by simp only[hn1,nbS]) ?_;simp only[lgV,jA,jL,aB,aC,ax,aA,ssH,ag,ae,reduceIte,af,aj,ah,ai];refine kw (b:=0) (X:=rdB s a2 e2) rfl rfl (fun m b' h=>QT h) kK nbY nbY ?_;have he:(if e2≠0 then e2 else if a2<s.length then 5 else 0)=ug s (a2,e2):=rfl;rw[he]
 by_cases c1:ug s (a2,e2)=0
 case neg=>
  simp only[bne_iff_ne.2 c1,jA,jL,ssH,ag,ae,reduceIte,af,aj,ah,ai];rw[hno (by rw[okE,beq_eq_false_iff_ne.2 c1];rfl)];exact jy (v:=.tup [ktN k,bo false]) rfl ⟨[0],_,_,Fq (by simp only[kU,bo,nbS]) rfl kK,rfl,_,_,rfl⟩
 simp only[c1,show((0:Int) != 0)=false from rfl,ssH,ag,ae,reduceIte,af,aj,ah,ai]
 by_cases c2:er=0
 case neg=>
  simp only[bne_iff_ne.2 c2,jA,jL,ssH,ag,ae,reduceIte,af,aj,ah,ai];rw[hno (by rw[okE,beq_eq_false_iff_ne.2 c2,c1];rfl)];exact jy (v:=.tup [ktN k,bo false]) rfl ⟨[0],_,_,Fq (by simp only[kU,bo,nbS]) rfl kK,rfl,_,_,rfl⟩
 subst c2;obtain⟨hf1,hf2⟩:=hfl rfl;simp only[show((0:Int) != 0)=false from rfl,jA,ssH,ag,ae,reduceIte,af,aj,ah,ai];refine jC (v:=it (lastOf k.l)) (by exact fun m=>zbH E (!k.l.l.isEmpty) k.l) (by simp only[hnl,nbS]) nbY ?_;simp only[Qa,ssH,ag,ae,reduceIte,af,aj,ah,ai]
 by_cases c3:op=lastOf k.l+1
 case neg=>
  simp only[bne_iff_ne.2 c3,jA,jL,ssH,ag,ae,reduceIte,af,aj,ah,ai];rw[hno (by rw[okE,beq_eq_false_iff_ne.2 c3,c1];rfl)];exact jy (v:=.tup [ktN k,bo false]) rfl ⟨[0],_,_,Fq (by simp only[kU,bo,nbS]) rfl kK,rfl,_,_,rfl⟩
 have hyes:IG k s (a,e)=(⟨k.v,k.n,l'⟩,true):=by rw[hF,if_pos (by rw[okE,c1,c3];simp)]
 rw[hyes];simp only[c3,bne_self_eq_false,jA,jL,ssH,ag,ae,reduceIte,af,aj,ah,ai];simp only at hf2;subst hf2;exact jy (v:=.tup [ktN ⟨k.v,k.n,l'⟩,bo true]) rfl ⟨[0],_,_,Fq (by simp only[kU,bo,nbS]) rfl kK,rfl,_,_,rfl⟩
end
theorem zG{s x:List UInt8}{n:Nat}(h:frG s=(x,n,0)):4≤n∧n≤s.length:=by
 obtain⟨a,_,_,d⟩:=WE h;rw[zW]at d;omega
theorem Sz:(frG []).2.2≠0:=by
 intro h;have:=zG (s:=[]) (x:=(frG []).1) (n:=(frG []).2.1) (by rw[←h]);simp only[aA]at this;omega
def HY:Nat→Kt→List UInt8→Kt×Nat
 |0,k,_=>(k,0)
 |f+1,k,s=>
  if (frG s).2.2=0∧(pR k (frG s).1).2=true then
   ((HY f (pR k (frG s).1).1 (s.drop (frG s).2.1)).1,(frG s).2.1+(HY f (pR k (frG s).1).1 (s.drop (frG s).2.1)).2)
  else (k,0)
def oO(k:Kt)(s:List UInt8):Kt×Nat:=HY (s.length+1) k s
theorem Nk:∀ (f g:Nat) (k:Kt) (s:List UInt8),s.length<f→s.length<g→HY f k s=HY g k s
 |0,_,_,_,h,_=>absurd h (dY _)
 |_+1,0,_,_,_,h=>absurd h (dY _)
 |f+1,g+1,k,s,hf,hg=>by
  rw[HY,HY]
  split
  ·rename_i h;have hl:=zG (s:=s) (x:=(frG s).1) (n:=(frG s).2.1) (by rw[←h.1]);rw[Nk f g _ (s.drop _) (by rw[aV];omega) (by rw[aV];omega)]
  ·rfl
theorem CB{k k':Kt}{s x:List UInt8}{n:Nat}(h:frG s=(x,n,0))(hf:pR k x=(k',true)):oO k s=((oO k' (s.drop n)).1,n+(oO k' (s.drop n)).2):=by
 have hl:=zG h;unfold oO;rw[HY,h];simp only[hf,and_self,if_true];rw[Nk s.length ((s.drop n).length+1) k' (s.drop n) (by rw[aV];omega) (by omega)]
theorem oN{k:Kt}{s:List UInt8}(h:(frG s).2.2≠0∨(pR k (frG s).1).2=false):oO k s=(k,0):=by
 unfold oO;rw[HY,if_neg];rintro⟨h1,h2⟩
 rcases h with h|h
 ·exact h h1
 ·rw[h2]at h;cases h
theorem Zi{P:Kt→List UInt8→Prop}(h0:∀ k s,oO k s=(k,0)→P k s)(h1:∀ k k' s x n,frG s=(x,n,0)→pR k x=(k',true)→P k' (s.drop n)→P k s):∀ k s,P k s:=by
 have:∀ (L:Nat) (k:Kt) (s:List UInt8),s.length≤L→P k s:=by
  intro L
  induction L with
  |zero=>
   intro k s hs;have:s=[]:=List.length_eq_zero_iff.1 (by omega);subst this;exact h0 _ _ (oN (.inl Sz))
  |succ L ih=>
   intro k s hs
   by_cases q:(frG s).2.2=0
   ·cases q2:(pR k (frG s).1).2
    ·exact h0 _ _ (oN (.inr q2))
    ·have hf:frG s=((frG s).1,(frG s).2.1,0):=by rw[←q]
     have hl:=zG hf;exact h1 k (pR k (frG s).1).1 s _ _ hf (by rw[←q2]) (ih _ _ (by rw[aV];omega))
   ·exact h0 _ _ (oN (.inl q))
 exact fun k s=>this _ k s (aY _)
structure O5 (k k':Kt):Prop where
 v:k.v≤k'.v
 n:k.n≤k'.n
 b:k.l.b≤k'.l.b
theorem O5.refl(k:Kt):O5 k k:=⟨dU _,dU _,dU _⟩
theorem O5.trans{a b c:Kt}(h:O5 a b)(g:O5 b c):O5 a c:=⟨iR h.v g.v,iR h.n g.n,iR h.b g.b⟩
theorem zeq{x:Lg}{e:Ent}(hx:lgB x=true)(he:nN e=true)(h1:x.l.length<64)(h2:x.b+x.l.length<2147483647):lgB ⟨x.b,x.c,x.l++[e]⟩=true:=by
 obtain⟨g1,g2,g3,g4,g5,g6,g7⟩:=vG.1 hx;refine vG.2 ⟨g1,g2,g3,g4,?_,?_,?_⟩
 ·simp only[aH,ax,aA];omega
 ·simp only[aH,ax,aA];omega
 ·intro a ha
  rcases List.mem_append.1 ha with ha|ha
  ·exact g7 a ha
  ·rw[List.mem_singleton.1 ha];exact he
theorem zbR{k:Kt}{en op err:Int}(h:okE k en op err=true):en=0∧err=0∧op=lastOf k.l+1:=by
 simpa only[okE,aG,beq_iff_eq] using h
theorem AY{k:Kt}{en v n:Int}{l:Lg}:okW k en v n l=true↔en=0∧ktB ⟨v,n,l⟩=true∧k.v≤v∧k.n≤n∧k.l.b≤l.b:=by
 simp only[okW,aG,beq_iff_eq,decide_eq_true_eq]
theorem CQ{k:Kt}:ktB k=true↔ni k.v k.n=true∧lgB k.l=true:=by simp only[ktB,aG]
theorem zeL{k:Kt}(hk:ktB k=true){s:List UInt8}{a:Nat×Int}{k':Kt}(h:IG k s a=(k',true)):ktB k'=true∧O5 k k':=by
 unfold IG at h;simp only at h;generalize mf s a.1 a.2=op at h;generalize zF s op.2.1 op.2.2=e at h
 split at h
 ·rename_i q;obtain⟨q1,q2,q3⟩:=zbR q;obtain⟨k1,k2⟩:=CQ.1 hk
  rcases zdq k2 e.1 with ⟨p1,p2,p3,p4⟩|⟨n,p1,p2⟩
  ·rw[p1]at h;obtain⟨rfl,_⟩:=fJ h;exact⟨CQ.2 ⟨k1,zeq k2 p2 p3 p4⟩,dU _,dU _,dU _⟩
  ·rw[p2]at q2;exact absurd q2 p1
 ·exact absurd (fJ h).2 (by decide)
theorem Yu{k:Kt}{s:List UInt8}{a:Nat×Int}{w:Bool}{k':Kt}(h:SA k s a w=(k',true)):ktB k'=true∧O5 k k':=by
 unfold SA at h;simp only at h;generalize mf s a.1 a.2=v at h;generalize mf s v.2.1 v.2.2=n at h;generalize (if w=true then IB s n.2.1 n.2.2 else (k.l,n.2))=l at h
 split at h
 ·rename_i q;obtain⟨q1,q2,q3,q4,q5⟩:=AY.1 q;obtain⟨rfl,_⟩:=fJ h;exact⟨q2,q3,q4,q5⟩
 ·exact absurd (fJ h).2 (by decide)
theorem Yv{k:Kt}(hk:ktB k=true){s:List UInt8}{k':Kt}(h:pR k s=(k',true)):ktB k'=true∧O5 k k':=by
 unfold pR at h;simp only at h
 split at h
 ·exact zeL hk h
 ·split at h
  ·exact Yu h
  ·split at h
   ·exact Yu h
   ·exact absurd (fJ h).2 (by decide)
theorem zbx:∀ (k:Kt) (s:List UInt8),ktB k=true→ktB (oO k s).1=true∧O5 k (oO k s).1∧(oO k s).2≤s.length:=by
 refine Zi (fun k s h hk => ?_) (fun k k' s x n hg hf ih hk => ?_)
 ·rw[h];exact⟨hk,.refl k,bW _⟩
 ·obtain⟨f1,f2⟩:=Yv hk hf;obtain⟨i1,i2,i3⟩:=ih f1;have hl:=zG hg;rw[aV]at i3;rw[CB hg hf];exact⟨i1,f2.trans i2,by simp only;omega⟩
theorem Zg{k k':Kt}{x:List UInt8}(hx:x.length≤1048576)(hf:pR k x=(k',true))(c:List UInt8):oO k (frB x++c)=((oO k' c).1,(frB x).length+(oO k' c).2):=by
 rw[CB (Sv hx c) hf,List.drop_left]
def k0:Kt:=⟨0,0,lg0⟩
theorem zg5:ktB k0=true:=rfl
theorem WF{a:Kt}{v n:Int}(hv:ni v n=true)(hl:lgB a.l=true)(h1:a.v≤v)(h2:a.n≤n):pR a (kH [1,v,n]++[])=(⟨v,n,a.l⟩,true):=by
 obtain⟨i1,i2⟩:=Ar hv;obtain⟨s,hs⟩:∃ s,s=kH [1,v,n]++[]:=⟨_,rfl⟩;have e0:s=[]++(uz 1++(uz v++(uz n++[]))):=by rw[hs];simp only[kH,bg,aS,aC]
 obtain⟨a1,b1⟩:=gI (CV (by decide) (by decide)) e0;obtain⟨a2,b2⟩:=gI i1 b1;obtain⟨a3,b3⟩:=gI i2 b2;rw[aS]at b3;have hE:ug s (s.length,0)=0:=by simp[ug]
 rw[←b3]at a3;rw[←hs];unfold pR;simp only[show mf s 0 0=_ from a1];rw[if_neg (by decide),if_neg (by decide),if_pos trivial];unfold SA;simp only[a2,a3,aF,if_false];rw[if_pos (AY.2 ⟨hE,CQ.2 ⟨hv,hl⟩,h1,h2,dU _⟩)]
theorem rU{a b c d e x y z:V}{v n:Int}:ng [a,b,c,d,e] [(0,1,it v),(1,1,it n),(2,3,.agg [x,y,z])]=some [it v,it n,x,y,z]:=(rfl)
theorem rQ{a b c d e x y z:V}:ng [a,b,c,d,e] [(2,3,.agg [x,y,z])]=some [a,b,x,y,z]:=(rfl)
section
variable {Γ:jG} {m:Store}
set_option maxHeartbeats 12800000 in
theorem WO(k:Kt)(s:List UInt8)(hk:lgB k.l=true)(hs:s.length≤100000000):jB Tryz.prog Γ 39 [ktN k,bs s] m fun o m'=>o = .ret (.tup [ktN (pR k s).1,bo (pR k s).2])∧m'=m:=by
 have hnl:=kL (k:=0) (!k.l.l.isEmpty) k.l.l;have hnk:=kU 0 k;refine jY (jZ mixed ziZ zlK jP (by simp only[hnk,nbS]) ?_);simp only[F39,ktN,ktV,ktC,ss0,ay,ag];simp only[jA,zhU,ssH,ag,ae,reduceIte,af,aj,ah,ai];have hs2:s.length<4611686018427387904:=by omega
 obtain⟨kd,a1,e1,h1⟩:∃ x y z,mf s 0 0=(x,y,z):=⟨_,_,_,rfl⟩;have l1:=lh (s:=s) (a:=0) (e:=0) (bW _);rw[h1]at l1;simp only at l1;refine jO (b:=2) (X:=tkB s 0 0) rfl rfl (fun m b' h=>ve h (bW _) hs2) kQ kQ nbY nbY ?_;simp only[h1,jA,jL,aB,aC,ax,aA,ssH,ag,ae,reduceIte,af,aj,ah,ai]
 by_cases c1:kd=1
 case pos=>
  subst c1;obtain⟨v,a2,e2,h2⟩:∃ x y z,mf s a1 e1=(x,y,z):=⟨_,_,_,rfl⟩;have l2:=lh (e:=e1) l1;rw[h2]at l2;obtain⟨n,a3,e3,h3⟩:∃ x y z,mf s a2 e2=(x,y,z):=⟨_,_,_,rfl⟩;have l3:=lh (e:=e2) l2;rw[h3]at l3;simp only at l2 l3
  have hF:pR k s=if okW k (ug s (a3,e3)) v n k.l=true then (⟨v,n,k.l⟩,true)else (k,false):=by
   unfold pR;simp only[h1];rw[if_neg (by decide),if_neg (by decide),if_pos trivial];unfold SA;simp only[h2,h3,aF,if_false]
  have hno:okW k (ug s (a3,e3)) v n k.l=false→pR k s=(k,false):=fun h=>by rw[hF,h];rfl
  simp only[beq_self_eq_true,jA,jL,aB,aC,ax,aA,ssH,ag,ae,reduceIte,af,aj,ah,ai];refine jO (b:=2) (X:=tkB s a1 e1) rfl rfl (fun m b' h=>ve h l1 hs2) kQ kQ nbY nbY ?_;simp only[h2,jA,jL,aB,aC,ax,aA,ssH,ag,ae,reduceIte,af,aj,ah,ai];refine jO (b:=2) (X:=tkB s a2 e2) rfl rfl (fun m b' h=>ve h l2 hs2) kQ kQ nbY nbY ?_;simp only[h3,jA,jL,aB,aC,ax,aA,ssH,ag,ae,reduceIte,af,aj,ah,ai];simp only[tkB,jA,jL,aB,aC,ax,aA,ssH,ag,ae,reduceIte,af,aj,ah,ai];refine jC (v:=it (ug s (a3,e3))) (by exact fun m=>QQ s a3 e3) nbX nbX ?_
  by_cases q1:ug s (a3,e3)=0
  case neg=>
   rw[hno (by rw[okW,beq_eq_false_iff_ne.2 q1];rfl)];simp only[bne_iff_ne.2 q1,ssH,ag,ae,reduceIte,af,aj,ah,ai];simp only[ktN,ktV,ktC,rU,rQ,jA,jL,aB,aC,ax,aA,ssH,ag,ae,reduceIte,af,aj,ah,ai];exact jy (v:=.tup [ktN k,bo false]) rfl ⟨by simp only[kU,bo,nbS],rfl⟩
  simp only[q1,show((0:Int) != 0)=false from rfl,jA,ssH,ag,ae,reduceIte,af,aj,ah,ai];refine jC (v:=bo (ni v n)) (by exact fun m=>Fh v n) nbY (by simp only[bo,nbS]) ?_;cases q2:ni v n
  case false=>
   rw[hno (by simp only[okW,ktB,q2,dK,dL])];simp only[bo,aN,ssH,ag,ae,reduceIte,af,aj,ah,ai];simp only[ktN,ktV,ktC,rU,rQ,jA,jL,aB,aC,ax,aA,ssH,ag,ae,reduceIte,af,aj,ah,ai];exact jy (v:=.tup [ktN k,bo false]) rfl ⟨by simp only[kU,bo,nbS],rfl⟩
  simp only[bo,aO,jA,ssH,ag,ae,reduceIte,af,aj,ah,ai]
  by_cases q3:v<k.v
  case pos=>
   rw[hno (by rw[okW,decide_eq_false (by omega:¬ k.v≤v)];simp)];simp only[decide_eq_true q3,ssH,ag,ae,reduceIte,af,aj,ah,ai];simp only[ktN,ktV,ktC,rU,rQ,jA,jL,aB,aC,ax,aA,ssH,ag,ae,reduceIte,af,aj,ah,ai];exact jy (v:=.tup [ktN k,bo false]) rfl ⟨by simp only[kU,bo,nbS],rfl⟩
  simp only[decide_eq_false q3,jA,ssH,ag,ae,reduceIte,af,aj,ah,ai]
  by_cases q4:n<k.n
  case pos=>
   rw[hno (by rw[okW,decide_eq_false (by omega:¬ k.n≤n)];simp)];simp only[decide_eq_true q4,ssH,ag,ae,reduceIte,af,aj,ah,ai];simp only[ktN,ktV,ktC,rU,rQ,jA,jL,aB,aC,ax,aA,ssH,ag,ae,reduceIte,af,aj,ah,ai];exact jy (v:=.tup [ktN k,bo false]) rfl ⟨by simp only[kU,bo,nbS],rfl⟩
  simp only[decide_eq_false q4,jA,ssH,ag,ae,reduceIte,af,aj,ah,ai];rw[hF,if_pos (AY.2 ⟨q1,CQ.2 ⟨q2,hk⟩,by omega,by omega,dU _⟩)];simp only[ktN,ktV,ktC,rU,rQ,jA,jL,aB,aC,ax,aA,ssH,ag,ae,reduceIte,af,aj,ah,ai];exact jy (v:=.tup [ktN ⟨v,n,k.l⟩,bo true]) rfl ⟨by simp only[kU,bo,nbS],rfl⟩
 simp only[beq_eq_false_iff_ne.2 c1,ssH,ag,ae,reduceIte,af,aj,ah,ai]
 by_cases c2:kd=2
 case pos=>
  subst c2;obtain⟨op,a2,e2,h2⟩:∃ x y z,mf s a1 e1=(x,y,z):=⟨_,_,_,rfl⟩;have l2:=lh (e:=e1) l1;rw[h2]at l2;simp only at l2;obtain⟨en,a3,e3,h3⟩:∃ x y z,zF s a2 e2=(x,y,z):=⟨_,_,_,rfl⟩;obtain⟨fl,l',er,hr⟩:∃ x y z,doL k.l (lT k.l en)=(x,y,z):=⟨_,_,_,rfl⟩
  have hF:pR k s=if okE k (ug s (a3,e3)) op er=true then (⟨k.v,k.n,l'⟩,true)else (k,false):=by
   unfold pR;simp only[h1];rw[if_pos trivial];unfold IG;simp only[h2,h3,hr]
  have hno:okE k (ug s (a3,e3)) op er=false→pR k s=(k,false):=fun h=>by rw[hF,h];rfl
  have hap:=fun m=>Rt (Γ:=Γ) (m:=m) (!k.l.l.isEmpty) k.l en;simp only[hr]at hap;have hnx:=kL (k:=0) (!l'.l.isEmpty) l'.l;simp only[beq_self_eq_true,jA,jL,aB,aC,ax,aA,ssH,ag,ae,reduceIte,af,aj,ah,ai];refine jO (b:=2) (X:=tkB s a1 e1) rfl rfl (fun m b' h=>ve h l1 hs2) kQ kQ nbY nbY ?_;simp only[h2,jA,jL,aB,aC,ax,aA,ssH,ag,ae,reduceIte,af,aj,ah,ai];refine jO (b:=2) (X:=tkB s a2 e2) rfl rfl (fun m b' h=>Pq h l2 hs2) kQ kQ nbY (lY _) ?_;simp only[h3,kM,jA,jL,aB,aC,ax,aA,ssH,ag,ae,reduceIte,af,aj,ah,ai];refine jC (by exact fun m=>hap m) (by simp only[hnl,nbS]) (by simp only[Gn,nbS]) ?_;simp only[lgN,lgV,jA,jL,aB,aC,ax,aA,ssH,ag,ae,reduceIte,af,aj,ah,ai];simp only[tkB,jA,jL,aB,aC,ax,aA,ssH,ag,ae,reduceIte,af,aj,ah,ai];refine jC (v:=it (ug s (a3,e3))) (by exact fun m=>QQ s a3 e3) nbX nbX ?_
  by_cases q1:ug s (a3,e3)=0
  case neg=>
   rw[hno (by rw[okE,beq_eq_false_iff_ne.2 q1];rfl)];simp only[bne_iff_ne.2 q1,ssH,ag,ae,reduceIte,af,aj,ah,ai];simp only[ktN,ktV,ktC,rU,rQ,jA,jL,aB,aC,ax,aA,ssH,ag,ae,reduceIte,af,aj,ah,ai];exact jy (v:=.tup [ktN k,bo false]) rfl ⟨by simp only[kU,bo,nbS],rfl⟩
  simp only[q1,show((0:Int) != 0)=false from rfl,jA,ssH,ag,ae,reduceIte,af,aj,ah,ai]
  by_cases q2:er=0
  case neg=>
   rw[hno (by rw[okE,beq_eq_false_iff_ne.2 q2,q1];rfl)];simp only[bne_iff_ne.2 q2,ssH,ag,ae,reduceIte,af,aj,ah,ai];simp only[ktN,ktV,ktC,rU,rQ,jA,jL,aB,aC,ax,aA,ssH,ag,ae,reduceIte,af,aj,ah,ai];exact jy (v:=.tup [ktN k,bo false]) rfl ⟨by simp only[kU,bo,nbS],rfl⟩
  simp only[q2,show((0:Int) != 0)=false from rfl,jA,ssH,ag,ae,reduceIte,af,aj,ah,ai];refine jC (v:=it (lastOf k.l)) (by exact fun m=>F9 (!k.l.l.isEmpty) k.l) (by simp only[hnl,nbS]) nbY ?_;simp only[Qa,ssH,ag,ae,reduceIte,af,aj,ah,ai]
  by_cases q3:op=lastOf k.l+1
  case neg=>
   rw[hno (by rw[okE,beq_eq_false_iff_ne.2 q3,q1];simp)];simp only[bne_iff_ne.2 q3,ssH,ag,ae,reduceIte,af,aj,ah,ai];simp only[ktN,ktV,ktC,rU,rQ,jA,jL,aB,aC,ax,aA,ssH,ag,ae,reduceIte,af,aj,ah,ai];exact jy (v:=.tup [ktN k,bo false]) rfl ⟨by simp only[kU,bo,nbS],rfl⟩
  rw[hF,if_pos (by rw[okE,q1,q2,q3];simp)];simp only[q3,bne_self_eq_false,jA,ssH,ag,ae,reduceIte,af,aj,ah,ai];simp only[ktN,ktV,ktC,rU,rQ,jA,jL,aB,aC,ax,aA,ssH,ag,ae,reduceIte,af,aj,ah,ai];exact jy (v:=.tup [ktN ⟨k.v,k.n,l'⟩,bo true]) rfl ⟨by simp only[kU,bo,nbS],rfl⟩
 simp only[beq_eq_false_iff_ne.2 c2,ssH,ag,ae,reduceIte,af,aj,ah,ai]
 by_cases c3:kd=3
 case pos=>
  subst c3;obtain⟨v,a2,e2,h2⟩:∃ x y z,mf s a1 e1=(x,y,z):=⟨_,_,_,rfl⟩;have l2:=lh (e:=e1) l1;rw[h2]at l2;obtain⟨n,a3,e3,h3⟩:∃ x y z,mf s a2 e2=(x,y,z):=⟨_,_,_,rfl⟩;have l3:=lh (e:=e2) l2;rw[h3]at l3;simp only at l2 l3;obtain⟨l,a4,e4,h4⟩:∃ x y z,IB s a3 e3=(x,y,z):=⟨_,_,_,rfl⟩
  have hF:pR k s=if okW k (ug s (a4,e4)) v n l=true then (⟨v,n,l⟩,true)else (k,false):=by
   unfold pR;simp only[h1];rw[if_neg (by decide),if_pos trivial];unfold SA;simp only[h2,h3,if_true,h4]
  have hno:okW k (ug s (a4,e4)) v n l=false→pR k s=(k,false):=fun h=>by rw[hF,h];rfl
  simp only[beq_self_eq_true,jA,jL,aB,aC,ax,aA,ssH,ag,ae,reduceIte,af,aj,ah,ai];refine jO (b:=2) (X:=tkB s a1 e1) rfl rfl (fun m b' h=>ve h l1 hs2) kQ kQ nbY nbY ?_;simp only[h2,jA,jL,aB,aC,ax,aA,ssH,ag,ae,reduceIte,af,aj,ah,ai];refine jO (b:=2) (X:=tkB s a2 e2) rfl rfl (fun m b' h=>ve h l2 hs2) kQ kQ nbY nbY ?_;simp only[h3,jA,jL,aB,aC,ax,aA,ssH,ag,ae,reduceIte,af,aj,ah,ai];have hnx:=kL (k:=0) (!l.l.isEmpty) l.l;refine jO (b:=2) (X:=tkB s a3 e3) rfl rfl (fun m b' h=>Zn h l3 hs2) kQ kQ nbY Gn ?_;simp only[h4,lgN,lgV,jA,jL,aB,aC,ax,aA,ssH,ag,ae,reduceIte,af,aj,ah,ai];simp only[tkB,jA,jL,aB,aC,ax,aA,ssH,ag,ae,reduceIte,af,aj,ah,ai];refine jC (v:=it (ug s (a4,e4))) (by exact fun m=>QQ s a4 e4) nbX nbX ?_
  by_cases q1:ug s (a4,e4)=0
  case neg=>
   rw[hno (by rw[okW,beq_eq_false_iff_ne.2 q1];rfl)];simp only[bne_iff_ne.2 q1,ssH,ag,ae,reduceIte,af,aj,ah,ai];simp only[ktN,ktV,ktC,rU,rQ,jA,jL,aB,aC,ax,aA,ssH,ag,ae,reduceIte,af,aj,ah,ai];exact jy (v:=.tup [ktN k,bo false]) rfl ⟨by simp only[kU,bo,nbS],rfl⟩
  simp only[q1,show((0:Int) != 0)=false from rfl,jA,ssH,ag,ae,reduceIte,af,aj,ah,ai];refine jC (v:=bo (ni v n)) (by exact fun m=>Fh v n) nbY (by simp only[bo,nbS]) ?_;cases q2:ni v n
  case false=>
   rw[hno (by simp only[okW,ktB,q2,dK,dL])];simp only[bo,aN,ssH,ag,ae,reduceIte,af,aj,ah,ai];simp only[ktN,ktV,ktC,rU,rQ,jA,jL,aB,aC,ax,aA,ssH,ag,ae,reduceIte,af,aj,ah,ai];exact jy (v:=.tup [ktN k,bo false]) rfl ⟨by simp only[kU,bo,nbS],rfl⟩
  simp only[bo,aO,jA,ssH,ag,ae,reduceIte,af,aj,ah,ai]
  by_cases q3:v<k.v
  case pos=>
   rw[hno (by rw[okW,decide_eq_false (by omega:¬ k.v≤v)];simp)];simp only[decide_eq_true q3,ssH,ag,ae,reduceIte,af,aj,ah,ai];simp only[ktN,ktV,ktC,rU,rQ,jA,jL,aB,aC,ax,aA,ssH,ag,ae,reduceIte,af,aj,ah,ai];exact jy (v:=.tup [ktN k,bo false]) rfl ⟨by simp only[kU,bo,nbS],rfl⟩
  simp only[decide_eq_false q3,jA,ssH,ag,ae,reduceIte,af,aj,ah,ai]
  by_cases q4:n<k.n
  case pos=>
   rw[hno (by rw[okW,decide_eq_false (by omega:¬ k.n≤n)];simp)];simp only[decide_eq_true q4,ssH,ag,ae,reduceIte,af,aj,ah,ai];simp only[ktN,ktV,ktC,rU,rQ,jA,jL,aB,aC,ax,aA,ssH,ag,ae,reduceIte,af,aj,ah,ai];exact jy (v:=.tup [ktN k,bo false]) rfl ⟨by simp only[kU,bo,nbS],rfl⟩
  simp only[decide_eq_false q4,jA,ssH,ag,ae,reduceIte,af,aj,ah,ai];refine jC (v:=bo (lgB l)) (by exact fun m=>zT (!l.l.isEmpty) l) (by simp only[hnx,nbS]) (by simp only[bo,nbS]) ?_;cases q5:lgB l
  case false=>
   rw[hno (by simp only[okW,ktB,q5,dK,dL])];simp only[bo,aN,ssH,ag,ae,reduceIte,af,aj,ah,ai];simp only[ktN,ktV,ktC,rU,rQ,jA,jL,aB,aC,ax,aA,ssH,ag,ae,reduceIte,af,aj,ah,ai];exact jy (v:=.tup [ktN k,bo false]) rfl ⟨by simp only[kU,bo,nbS],rfl⟩
  simp only[bo,aO,jA,ssH,ag,ae,reduceIte,af,aj,ah,ai]
  by_cases q6:l.b<k.l.b
  case pos=>
   rw[hno (by rw[okW,decide_eq_false (by omega:¬ k.l.b≤l.b)];simp)];simp only[decide_eq_true q6,ssH,ag,ae,reduceIte,af,aj,ah,ai];simp only[ktN,ktV,ktC,rU,rQ,jA,jL,aB,aC,ax,aA,ssH,ag,ae,reduceIte,af,aj,ah,ai];exact jy (v:=.tup [ktN k,bo false]) rfl ⟨by simp only[kU,bo,nbS],rfl⟩
  simp only[decide_eq_false q6,jA,ssH,ag,ae,reduceIte,af,aj,ah,ai];rw[hF,if_pos (AY.2 ⟨q1,CQ.2 ⟨q2,q5⟩,by omega,by omega,by omega⟩)];simp only[ktN,ktV,ktC,rU,rQ,jA,jL,aB,aC,ax,aA,ssH,ag,ae,reduceIte,af,aj,ah,ai];exact jy (v:=.tup [ktN ⟨v,n,l⟩,bo true]) rfl ⟨by simp only[kU,bo,nbS],rfl⟩
 have hF:pR k s=(k,false):=by
  unfold pR;simp only[h1];rw[if_neg c2,if_neg c3,if_neg c1]
 rw[hF];simp only[beq_eq_false_iff_ne.2 c3,ssH,ag,ae,reduceIte,af,aj,ah,ai];simp only[ktN,ktV,ktC,rU,rQ,jA,jL,aB,aC,ax,aA,ssH,ag,ae,reduceIte,af,aj,ah,ai];exact jy (v:=.tup [ktN k,bo false]) rfl ⟨by simp only[kU,bo,nbS],rfl⟩
end
theorem TY{f:Nat→Nat}{s:List UInt8}{a:Nat}{e:Int}:xI f (rdB s a e)=rdB s a e:=rfl
section
variable {Γ:jG} {m:Store}
set_option maxHeartbeats 12800000 in
theorem Wq(E:Env Γ)(k:Kt)(s:List UInt8)(hs:s.length≤100000000):jB Tryz.prog Γ 37 [ktN k,slN s] m fun o m'=>o = .ret (.tup [ktN (pR k s).1,bo (pR k s).2])∧m'=m:=by
 have hnl:=kL (k:=0) (!k.l.l.isEmpty) k.l.l;have hnk:=kU 0 k;have hnk1:=kU 1 k;refine jY (jZ mixed zi1 zlM jP (by simp only[hnk,oP,nbS]) ?_);simp only[F37,ktN,ktV,ktC,slN,ss0,ay,ag];simp only[jA,ssH,ag,ae,reduceIte,af,aj,ah,ai];refine Kr (Y:=rdB s 0 0) (by simp) rfl (fun m tok'=>Xk) (jS _) .nil .nil kK ?_;simp only[jA,jL,aB,aC,ax,aA,ssH,ag,ae,reduceIte,af,aj,ah,ai];obtain⟨kd,a1,e1,h1⟩:∃ x y z,mf s 0 0=(x,y,z):=⟨_,_,_,rfl⟩;have l1:=lh (s:=s) (a:=0) (e:=0) (bW _);rw[h1]at l1;simp only at l1;refine jO (b:=2) (X:=rdB s 0 0) rfl rfl (fun m b' h=>su h (bW _) (by omega)) kK kK nbY nbY ?_;simp only[h1,jA,jL,aB,aC,ax,aA,ssH,ag,ae,reduceIte,af,aj,ah,ai]
 by_cases c2:kd=2
 ·subst c2;have hF:pR k s=IG k s (a1,e1):=by unfold pR;simp only[h1];rw[if_pos trivial]
  simp only[beq_self_eq_true,jA,jL,ssH,ag,ae,reduceIte,af,aj,ah,ai];refine EZ (args0:=[ktN k,.ptr 0 0]) (hs:=[some (rdB s a1 e1)]) [2] [] (ZT E k s a1 e1 l1 (by omega)) (by simp only[tq,Nh (kU 0 k),ren,rO,rP,aB,aC];rfl) (by simp only[hnk1,ax,aA,nbS];try decide) (by simp only[qw,qK,kK,nbS]) rfl (by decide) (by simp) ?_ (by simp) ?_
  ·simp only[aB,aC,uT,uy,TY,rO,rP,and_true]
   first|exact⟨rfl,rfl⟩|rfl
  rintro v h' ⟨rfl,a',e',rfl⟩;have hnr:=kU 1 (IG k s (a1,e1)).1;have hnr0:=kU 0 (IG k s (a1,e1)).1;refine⟨⟨by simp,by simp only[hnr,bo,ax,aA,nbS],by simp only[qw,qK,kK,nbS],by simp⟩,?_⟩;obtain⟨r,b,hr⟩:∃ r b,IG k s (a1,e1)=(r,b):=⟨_,_,rfl⟩;rw[hr]at hF hnr hnr0 ⊢;have hrn:∀ f,ren f (ktN r)=ktN r:=fun f=>Nh hnr0;rw[hF];simp only[ren,tq,hrn,bo,Gv,yP,yF,wZ,dX,aZ,TY,rO,rP,Ic,qY,qZ,ax,aA,aB,aC,fD,ssH,ag,ae,reduceIte,af,aj,ah,ai];simp only[ktN,ktV,ktC,jA,jL,aB,aC,ax,aA,ssH,ag,ae,reduceIte,af,aj,ah,ai];exact jy (v:=.tup [ktN r,bo b]) rfl ⟨by simp only[hnr0,bo,nbS],rfl⟩
 simp only[beq_eq_false_iff_ne.2 c2,ssH,ag,ae,reduceIte,af,aj,ah,ai]
 by_cases c3:kd=3
 case pos=>
  subst c3;obtain⟨v,a2,e2,h2⟩:∃ x y z,mf s a1 e1=(x,y,z):=⟨_,_,_,rfl⟩;have l2:=lh (e:=e1) l1;rw[h2]at l2;obtain⟨n,a3,e3,h3⟩:∃ x y z,mf s a2 e2=(x,y,z):=⟨_,_,_,rfl⟩;have l3:=lh (e:=e2) l2;rw[h3]at l3;simp only at l2 l3;obtain⟨l,a4,e4,h4⟩:∃ x y z,IB s a3 e3=(x,y,z):=⟨_,_,_,rfl⟩;have l4:=zeE (e:=e3) l3;rw[h4]at l4;simp only at l4
  have hF:pR k s=if okW k (ug s (a4,e4)) v n l=true then (⟨v,n,l⟩,true)else (k,false):=by
   unfold pR;simp only[h1];rw[if_neg (by decide),if_pos trivial];unfold SA;simp only[h2,h3,if_true,h4]
  have hno:okW k (ug s (a4,e4)) v n l=false→pR k s=(k,false):=fun h=>by rw[hF,h];rfl
  have hnx:=kL (k:=0) (!l.l.isEmpty) l.l;simp only[beq_self_eq_true,jA,jL,ssH,ag,ae,reduceIte,af,aj,ah,ai];refine jO (b:=2) (X:=rdB s a1 e1) rfl rfl (fun m b' h=>su h l1 (by omega)) kK kK nbY nbY ?_;simp only[h2,jA,jL,aB,aC,ax,aA,ssH,ag,ae,reduceIte,af,aj,ah,ai];refine jO (b:=2) (X:=rdB s a2 e2) rfl rfl (fun m b' h=>su h l2 (by omega)) kK kK nbY nbY ?_;simp only[h3,beq_self_eq_true,jA,jL,aB,aC,ax,aA,ssH,ag,ae,reduceIte,af,aj,ah,ai];refine jO (b:=2) (X:=rdB s a3 e3) rfl rfl (fun m b' h=>zed E.lib h l3 (by omega)) kK kK nbY (pO _ _) ?_;simp only[h4,lgN,lgV,jA,jL,aB,aC,ax,aA,ssH,ag,ae,reduceIte,af,aj,ah,ai];refine kw (b:=2) (X:=rdB s a4 e4) rfl rfl (fun m b' h=>QT h) kK nbY nbY ?_;have he:(if e4≠0 then e4 else if a4<s.length then 5 else 0)=ug s (a4,e4):=rfl;rw[he]
  by_cases q1:ug s (a4,e4)=0
  case neg=>
   rw[hno (by rw[okW,beq_eq_false_iff_ne.2 q1];rfl)];simp only[bne_iff_ne.2 q1,ssH,ag,ae,reduceIte,af,aj,ah,ai];simp only[ktN,ktV,ktC,jA,jL,ssH,ag,ae,reduceIte,af,aj,ah,ai];exact jy (v:=.tup [ktN k,bo false]) rfl ⟨by simp only[kU,bo,nbS],rfl⟩
  simp only[q1,show((0:Int) != 0)=false from rfl,jA,ssH,ag,ae,reduceIte,af,aj,ah,ai];refine jC (v:=it (if ktB ⟨v,n,l⟩=true then 0 else 2)) (by exact fun m=>EY E (!l.l.isEmpty) ⟨v,n,l⟩) (by simp only[hnx,nbS]) nbY ?_
  by_cases q2:ktB ⟨v,n,l⟩=true
  case neg=>
   have q2':ktB ⟨v,n,l⟩=false:=by simpa using q2
   rw[hno (by rw[okW,q2'];simp)];simp only[if_neg q2,show((2:Int) != 0)=true from rfl,ssH,ag,ae,reduceIte,af,aj,ah,ai];simp only[ktN,ktV,ktC,jA,jL,ssH,ag,ae,reduceIte,af,aj,ah,ai];exact jy (v:=.tup [ktN k,bo false]) rfl ⟨by simp only[kU,bo,nbS],rfl⟩
  simp only[if_pos q2,show((0:Int) != 0)=false from rfl,jA,ssH,ag,ae,reduceIte,af,aj,ah,ai]
  by_cases q3:v<k.v
  case pos=>
   rw[hno (by rw[okW,decide_eq_false (by omega:¬ k.v≤v)];simp)];simp only[decide_eq_true q3,ssH,ag,ae,reduceIte,af,aj,ah,ai];simp only[ktN,ktV,ktC,jA,jL,ssH,ag,ae,reduceIte,af,aj,ah,ai];exact jy (v:=.tup [ktN k,bo false]) rfl ⟨by simp only[kU,bo,nbS],rfl⟩
  simp only[decide_eq_false q3,jA,ssH,ag,ae,reduceIte,af,aj,ah,ai]
  by_cases q4:n<k.n
  case pos=>
   rw[hno (by rw[okW,decide_eq_false (by omega:¬ k.n≤n)];simp)];simp only[decide_eq_true q4,ssH,ag,ae,reduceIte,af,aj,ah,ai];simp only[ktN,ktV,ktC,jA,jL,ssH,ag,ae,reduceIte,af,aj,ah,ai];exact jy (v:=.tup [ktN k,bo false]) rfl ⟨by simp only[kU,bo,nbS],rfl⟩
  simp only[decide_eq_false q4,jA,ssH,ag,ae,reduceIte,af,aj,ah,ai]
  by_cases q5:l.b<k.l.b
  case pos=>
   rw[hno (by rw[okW,decide_eq_false (by omega:¬ k.l.b≤l.b)];simp)];simp only[decide_eq_true q5,ssH,ag,ae,reduceIte,af,aj,ah,ai];simp only[ktN,ktV,ktC,jA,jL,ssH,ag,ae,reduceIte,af,aj,ah,ai];exact jy (v:=.tup [ktN k,bo false]) rfl ⟨by simp only[kU,bo,nbS],rfl⟩
  simp only[decide_eq_false q5,jA,ssH,ag,ae,reduceIte,af,aj,ah,ai];rw[hF,if_pos (AY.2 ⟨q1,q2,by omega,by omega,by omega⟩)];simp only[ktN,ktV,ktC,jA,jL,ssH,ag,ae,reduceIte,af,aj,ah,ai];exact jy (v:=.tup [ktN ⟨v,n,l⟩,bo true]) rfl ⟨by simp only[kU,bo,nbS],rfl⟩
 simp only[beq_eq_false_iff_ne.2 c3,ssH,ag,ae,reduceIte,af,aj,ah,ai]
 by_cases c1:kd=1
 case pos=>
  subst c1;obtain⟨v,a2,e2,h2⟩:∃ x y z,mf s a1 e1=(x,y,z):=⟨_,_,_,rfl⟩;have l2:=lh (e:=e1) l1;rw[h2]at l2;obtain⟨n,a3,e3,h3⟩:∃ x y z,mf s a2 e2=(x,y,z):=⟨_,_,_,rfl⟩;have l3:=lh (e:=e2) l2;rw[h3]at l3;simp only at l2 l3
  have hF:pR k s=if okW k (ug s (a3,e3)) v n k.l=true then (⟨v,n,k.l⟩,true)else (k,false):=by
   unfold pR;simp only[h1];rw[if_neg (by decide),if_neg (by decide),if_pos trivial];unfold SA;simp only[h2,h3,aF,if_false]
  have hno:okW k (ug s (a3,e3)) v n k.l=false→pR k s=(k,false):=fun h=>by rw[hF,h];rfl
  simp only[beq_self_eq_true,jA,jL,ssH,ag,ae,reduceIte,af,aj,ah,ai];refine jO (b:=2) (X:=rdB s a1 e1) rfl rfl (fun m b' h=>su h l1 (by omega)) kK kK nbY nbY ?_;simp only[h2,jA,jL,aB,aC,ax,aA,ssH,ag,ae,reduceIte,af,aj,ah,ai];refine jO (b:=2) (X:=rdB s a2 e2) rfl rfl (fun m b' h=>su h l2 (by omega)) kK kK nbY nbY ?_;simp only[h3,show((1:Int)==3)=false from rfl,jA,jL,aB,aC,ax,aA,ssH,ag,ae,reduceIte,af,aj,ah,ai];refine kw (b:=2) (X:=rdB s a3 e3) rfl rfl (fun m b' h=>QT h) kK nbY nbY ?_;have he:(if e3≠0 then e3 else if a3<s.length then 5 else 0)=ug s (a3,e3):=rfl;rw[he]
  by_cases q1:ug s (a3,e3)=0
  case neg=>
   rw[hno (by rw[okW,beq_eq_false_iff_ne.2 q1];rfl)];simp only[bne_iff_ne.2 q1,ssH,ag,ae,reduceIte,af,aj,ah,ai];simp only[ktN,ktV,ktC,jA,jL,ssH,ag,ae,reduceIte,af,aj,ah,ai];exact jy (v:=.tup [ktN k,bo false]) rfl ⟨by simp only[kU,bo,nbS],rfl⟩
  simp only[q1,show((0:Int) != 0)=false from rfl,jA,ssH,ag,ae,reduceIte,af,aj,ah,ai];refine jC (v:=it (if ktB ⟨v,n,k.l⟩=true then 0 else 2)) (by exact fun m=>EY E (!k.l.l.isEmpty) ⟨v,n,k.l⟩) (by simp only[hnl,nbS]) nbY ?_
  by_cases q2:ktB ⟨v,n,k.l⟩=true
  case neg=>
   have q2':ktB ⟨v,n,k.l⟩=false:=by simpa using q2
   rw[hno (by rw[okW,q2'];simp)];simp only[if_neg q2,show((2:Int) != 0)=true from rfl,ssH,ag,ae,reduceIte,af,aj,ah,ai];simp only[ktN,ktV,ktC,jA,jL,ssH,ag,ae,reduceIte,af,aj,ah,ai];exact jy (v:=.tup [ktN k,bo false]) rfl ⟨by simp only[kU,bo,nbS],rfl⟩
  simp only[if_pos q2,show((0:Int) != 0)=false from rfl,jA,ssH,ag,ae,reduceIte,af,aj,ah,ai]
  by_cases q3:v<k.v
  case pos=>
   rw[hno (by rw[okW,decide_eq_false (by omega:¬ k.v≤v)];simp)];simp only[decide_eq_true q3,ssH,ag,ae,reduceIte,af,aj,ah,ai];simp only[ktN,ktV,ktC,jA,jL,ssH,ag,ae,reduceIte,af,aj,ah,ai];exact jy (v:=.tup [ktN k,bo false]) rfl ⟨by simp only[kU,bo,nbS],rfl⟩
  simp only[decide_eq_false q3,jA,ssH,ag,ae,reduceIte,af,aj,ah,ai]
  by_cases q4:n<k.n
  case pos=>
   rw[hno (by rw[okW,decide_eq_false (by omega:¬ k.n≤n)];simp)];simp only[decide_eq_true q4,ssH,ag,ae,reduceIte,af,aj,ah,ai];simp only[ktN,ktV,ktC,jA,jL,ssH,ag,ae,reduceIte,af,aj,ah,ai];exact jy (v:=.tup [ktN k,bo false]) rfl ⟨by simp only[kU,bo,nbS],rfl⟩
  simp only[decide_eq_false q4,jA,ssH,ag,ae,reduceIte,af,aj,ah,ai];simp only[show decide (k.l.b<k.l.b)=false from decide_eq_false (by omega),jA,ssH,ag,ae,reduceIte,af,aj,ah,ai];have q5:¬ k.l.b<k.l.b:=by omega
  rw[hF,if_pos (AY.2 ⟨q1,q2,by omega,by omega,by omega⟩)];simp only[ktN,ktV,ktC,jA,jL,ssH,ag,ae,reduceIte,af,aj,ah,ai];exact jy (v:=.tup [ktN ⟨v,n,k.l⟩,bo true]) rfl ⟨by simp only[kU,bo,nbS],rfl⟩
 have hF:pR k s=(k,false):=by
  unfold pR;simp only[h1];rw[if_neg c2,if_neg c3,if_neg c1]
 rw[hF];simp only[beq_eq_false_iff_ne.2 c1,ktN,ktV,ktC,jA,jL,ssH,ag,ae,reduceIte,af,aj,ah,ai];exact jy (v:=.tup [ktN k,bo false]) rfl ⟨by simp only[kU,bo,nbS],rfl⟩
end
section
variable {Γ:jG} {m:Store}
set_option maxHeartbeats 3200000 in
theorem NV(E:Env Γ)(b mo:List UInt8)(tok:Tok)(hb:b.length≤100000000):jB Tryz.prog Γ 13 [.sl (b.map by8) (mo.map by8) tok] m fun o m'=>o = .ret (.tup [ktN (oO k0 b).1,it (oO k0 b).2])∧m'=m:=by
 refine jB.tok [] [] ?_;have hnb:∀ k,nbs k (b.map by8):=fun k=>by simp only[kY]
 have hnm:∀ k,nbs k (mo.map by8):=fun k=>by simp only[kY]
 refine jY (jZ mixed zjP zmG jP (by simp only[aC,kY,nbS]) ?_);simp only[F13,aC,ss0,ay,ag];simp only[ssH,ag,ae,reduceIte,af,aj,ah,ai];obtain⟨R,N,hR⟩:∃ R N,oO k0 b=(R,N):=⟨_,_,rfl⟩;rw[hR];refine mi [0,2,4,5] 36 (fun n vs h=>∃ (x:Kt) (i:Nat),vs=[.sl (b.map by8) (mo.map by8) .no,.ptr 0 0,.ptr 1 0,it i]∧h=[some (Ed false k0),some (Ed (!x.l.l.isEmpty) x)]∧i≤b.length∧n+i=b.length+1∧(oO x (b.drop i)).1=R∧i+(oO x (b.drop i)).2=N) (b.length+1) (by decide) (by decide) (aJ 2) ?_ ?_
 ·refine jW rfl (by decide) (by decide) (by simp) ?_ ?_ ⟨k0,0,rfl,rfl,by omega,by omega,by rw[bK,hR],by rw[bK,hR];simp⟩
  ·show nbs 2 [.sl (b.map by8) (mo.map by8) .no,.ptr 0 0,.ptr 1 0,it (0:Nat)];simp only[hnb,hnm,nbS]
   try decide
  ·intro a ha x hx;have:a=0∨a=1:=by omega
   rcases this with rfl|rfl<;>cases hx<;>exact wR 2 false k0
 rintro n t h J hJ hlt ⟨x,i,hv,rfl,hi,hn,r1,r2⟩;simp only[aZ,aP,and_true]at hv;obtain⟨g0,g2,g4,g5⟩:=hv;have hnx:=kU 0 x;have hnl:=kL (k:=0) (!x.l.l.isEmpty) x.l.l
 have stop:oO x (b.drop i)=(x,0)→R=x∧N=i:=by
  intro h;rw[h]at r1 r2;exact⟨r1.symm,by omega⟩
 rw[mJ hlt];simp only[jV,upTo,g0,g2,g4,g5,lV,aK,ssH,ag,ae,reduceIte,af,aj,ah,ai]
 by_cases hil:i<b.length
 case neg=>
  obtain⟨rfl,rfl⟩:=stop (oN (.inl (by rw[iK (by omega)];exact Sz)));simp only[show decide ((N:Int)<(b.length:Int))=false from decide_eq_false (by omega),Ed,ktC,jA,jL,aB,aC,ax,aA,ssH,ag,ae,reduceIte,af,aj,ah,ai];exact jy (v:=.tup [ktN R,it N]) rfl ⟨by simp only[hnx,nbS],rfl⟩
 simp only[show decide ((i:Int)<(b.length:Int))=true from decide_eq_true (by omega),ssH,ag,ae,reduceIte,af,aj,ah,ai];obtain⟨s,c,e,hg⟩:∃ s c e,frG (b.drop i)=(s,c,e):=⟨_,_,_,rfl⟩
 have hG:∀ m,jB Tryz.prog Γ 36 [.sl (b.map by8) (mo.map by8) .no,it i] m fun o m'=>o = .ret (.tup [if e=0 then slN s else .sl [] [] .full,it (if e=0 then i+c else 0:Nat),it e])∧m'=m:=by
  intro m;have:=jY (zeN (Γ:=Γ) (m:=m) b mo .no i hi hb);rw[hg]at this;exact this
 refine jC (by exact hG) (by simp only[kY,nbS]) (by split<;>simp only[oP,nbS]) ?_
 by_cases he:e=0
 case neg=>
  obtain⟨rfl,rfl⟩:=stop (oN (.inl (by rw[hg];exact he)));simp only[if_neg he,bne_iff_ne.2 he,Ed,ktC,jA,jL,aB,aC,ax,aA,ssH,ag,ae,reduceIte,af,aj,ah,ai];exact jy (v:=.tup [ktN R,it N]) rfl ⟨by simp only[hnx,nbS],rfl⟩
 subst he;obtain⟨f1,f2,f3,f4⟩:=WE hg;have f5:=zG hg;rw[aV]at f5;have hN:∀ k,nb k (slN s):=fun k=>oP;obtain⟨y,ok,hr⟩:∃ y ok,pR x s=(y,ok):=⟨_,_,rfl⟩;have hny:=kU 0 y;simp only[if_true,show((0:Int) != 0)=false from rfl,Ed,ktC,jA,jL,aB,aC,ax,aA,ssH,ag,ae,reduceIte,af,aj,ah,ai];refine jC (v:=.tup [ktN y,bo ok]) (by intro m;have:=Wq (Γ:=Γ) (m:=m) E x s (by omega);rw[hr]at this;exact this) (by simp only[hnl,hN,nbS]) (by simp only[hny,bo,nbS]) ?_;simp only[bo,ktN,ktV,ktC,jA,jL,aB,aC,ax,aA,ssH,ag,ae,reduceIte,af,aj,ah,ai];cases ok
 ·obtain⟨rfl,rfl⟩:=stop (oN (.inr (by rw[hg,hr])));simp only[aN,jA,jL,aB,aC,ax,aA,ssH,ag,ae,reduceIte,af,aj,ah,ai];exact jy (v:=.tup [ktN R,it N]) rfl ⟨by simp only[hnx,nbS],rfl⟩
 ·simp only[aO,jA,jL,aB,aC,ax,aA,ssH,ag,ae,reduceIte,af,aj,ah,ai];have hst:=CB hg hr;rw[hst,bV]at r1 r2;refine⟨_,hJ (b.length+1-(i+c)) (aJ 2) _ (by omega) (jW rfl (by decide) (by decide) (by simp) ?_ ?_ ⟨y,i+c,rfl,rfl,by omega,by omega,r1,by omega⟩)⟩
  ·show nbs 2 [.sl (b.map by8) (mo.map by8) .no,.ptr 0 0,.ptr 1 0,it (i+c:Nat)];simp only[hnb,hnm,nbS]
   try decide
  ·intro a ha z hz;have:a=0∨a=1:=by omega
   rcases this with rfl|rfl<;>cases hz
   ·exact wR 2 false k0
   ·exact wR 2 _ y
end
section
variable {Γ:jG} {m:Store}
set_option maxHeartbeats 3200000 in
theorem zc5(b:List UInt8)(hb:b.length≤100000000):jB Tryz.prog Γ 14 [bs b] m fun o m'=>o = .ret (.tup [ktN (oO k0 b).1,it (oO k0 b).2])∧m'=m:=by
 refine jY (jZ mixed zjG zmA jP nbY ?_);simp only[F14,ss0,ay,ag];simp only[ssH,ag,ae,reduceIte,af,aj,ah,ai];obtain⟨R,N,hR⟩:∃ R N,oO k0 b=(R,N):=⟨_,_,rfl⟩;rw[hR];refine mi [0,2,4,5] 40 (fun n vs h=>∃ (x:Kt) (i:Nat),vs=[bs b,.ptr 0 0,.ptr 1 0,it i]∧h=[some (Ed false k0),some (Ed (!x.l.l.isEmpty) x)]∧i≤b.length∧n+i=b.length+1∧ktB x=true∧(oO x (b.drop i)).1=R∧i+(oO x (b.drop i)).2=N) (b.length+1) (by decide) (by decide) (aJ 2) ?_ ?_
 ·refine jW rfl (by decide) (by decide) (by simp) ?_ ?_ ⟨k0,0,rfl,rfl,by omega,by omega,zg5,by rw[bK,hR],by rw[bK,hR];simp⟩
  ·show nbs 2 [bs b,.ptr 0 0,.ptr 1 0,it (0:Nat)];simp only[nbS]
   try decide
  ·intro a ha x hx;have:a=0∨a=1:=by omega
   rcases this with rfl|rfl<;>cases hx<;>exact wR 2 false k0
 rintro n t h J hJ hlt ⟨x,i,hv,rfl,hi,hn,hx,r1,r2⟩;simp only[aZ,aP,and_true]at hv;obtain⟨g0,g2,g4,g5⟩:=hv;have hnx:=kU 0 x;have hnl:=kL (k:=0) (!x.l.l.isEmpty) x.l.l
 have stop:oO x (b.drop i)=(x,0)→R=x∧N=i:=by
  intro h;rw[h]at r1 r2;exact⟨r1.symm,by omega⟩
 rw[mJ hlt];simp only[jV,upTo,g0,g2,g4,g5,oV,ssH,ag,ae,reduceIte,af,aj,ah,ai]
 by_cases hil:i<b.length
 case neg=>
  obtain⟨rfl,rfl⟩:=stop (oN (.inl (by rw[iK (by omega)];exact Sz)));simp only[show decide ((N:Int)<(b.length:Int))=false from decide_eq_false (by omega),Ed,ktC,jA,jL,aB,aC,ax,aA,ssH,ag,ae,reduceIte,af,aj,ah,ai];exact jy (v:=.tup [ktN R,it N]) rfl ⟨by simp only[hnx,nbS],rfl⟩
 simp only[show decide ((i:Int)<(b.length:Int))=true from decide_eq_true (by omega),ssH,ag,ae,reduceIte,af,aj,ah,ai];obtain⟨s,c,e,hg⟩:∃ s c e,frG (b.drop i)=(s,c,e):=⟨_,_,_,rfl⟩
 have hG:∀ m,jB Tryz.prog Γ 38 [bs b,it i] m fun o m'=>o = .ret (.tup [bs s,it (if e=0 then i+c else 0:Nat),it e])∧m'=m:=by
  intro m;have:=zeH (Γ:=Γ) (m:=m) b i hi (by omega);rw[hg]at this;exact this
 refine jC (by exact hG) nbY nbY ?_
 by_cases he:e=0
 case neg=>
  obtain⟨rfl,rfl⟩:=stop (oN (.inl (by rw[hg];exact he)));simp only[if_neg he,bne_iff_ne.2 he,Ed,ktC,jA,jL,aB,aC,ax,aA,ssH,ag,ae,reduceIte,af,aj,ah,ai];exact jy (v:=.tup [ktN R,it N]) rfl ⟨by simp only[hnx,nbS],rfl⟩
 subst he;obtain⟨f1,f2,f3,f4⟩:=WE hg;have f5:=zG hg;rw[aV]at f5;obtain⟨y,ok,hr⟩:∃ y ok,pR x s=(y,ok):=⟨_,_,rfl⟩;have hny:=kU 0 y;simp only[if_true,show((0:Int) != 0)=false from rfl,Ed,ktC,jA,jL,aB,aC,ax,aA,ssH,ag,ae,reduceIte,af,aj,ah,ai];refine jC (v:=.tup [ktN y,bo ok]) (by intro m;have:=WO (Γ:=Γ) (m:=m) x s (CQ.1 hx).2 (by omega);rw[hr]at this;exact this) (by simp only[hnl,nbS]) (by simp only[hny,bo,nbS]) ?_;simp only[bo,ktN,ktV,ktC,jA,jL,aB,aC,ax,aA,ssH,ag,ae,reduceIte,af,aj,ah,ai];cases ok
 ·obtain⟨rfl,rfl⟩:=stop (oN (.inr (by rw[hg,hr])));simp only[aN,jA,jL,aB,aC,ax,aA,ssH,ag,ae,reduceIte,af,aj,ah,ai];exact jy (v:=.tup [ktN R,it N]) rfl ⟨by simp only[hnx,nbS],rfl⟩
 ·simp only[aO,jA,jL,aB,aC,ax,aA,ssH,ag,ae,reduceIte,af,aj,ah,ai];have hst:=CB hg hr;rw[hst,bV]at r1 r2;refine⟨_,hJ (b.length+1-(i+c)) (aJ 2) _ (by omega) (jW rfl (by decide) (by decide) (by simp) ?_ ?_ ⟨y,i+c,rfl,rfl,by omega,by omega,(Yv hx hr).1,r1,by omega⟩)⟩
  ·show nbs 2 [bs b,.ptr 0 0,.ptr 1 0,it (i+c:Nat)];simp only[nbS]
   try decide
  ·intro a ha z hz;have:a=0∨a=1:=by omega
   rcases this with rfl|rfl<;>cases hz
   ·exact wR 2 false k0
   ·exact wR 2 _ y
theorem zcf(x:Lg):lgE x x=true:=by simp[lgE]
theorem zc4(a b:Bool)(x:Kt)(hl:x.l.l.length≤2000000):jB Tryz.prog Γ 15 [ktV a x,ktV b x] m fun o m'=>o = .ret (bo true)∧m'=m:=by
 have h1:=CJ 0 a x;have h2:=CJ 0 b x;have h3:=kL (k:=0) a x.l.l;have h4:=kL (k:=0) b x.l.l;refine jY (jZ mixed zjw zmw jP (by simp only[h1,h2,nbS]) ?_);simp only[F15,ktV,ktC,ss0,ay,ag];simp only[beq_self_eq_true,jA,ssH,ag,ae,reduceIte,af,aj,ah,ai];refine jC (v:=bo true) (by intro m;have:=Zk (Γ:=Γ) (m:=m) a b x.l x.l hl;rw[zcf]at this;exact this) (by simp only[h3,h4,nbS]) (by simp only[bo,nbS]) ?_;simp only[bo,ssH,ag,ae,reduceIte,af,aj,ah,ai];exact jy (v:=bo true) rfl ⟨by simp only[bo,nbS],rfl⟩
end
theorem zia{Γ:jG}{Kp:V→Hl→Prop}{h:Hl}{t:List V}{l:List Item}{K:HS→Prop}{d:Option Tmp}{s:List (Tmp×Option (Tmp×Bool)×AOp)}(a mo:List UInt8)(tok:Tok)(ha:a.length≤140737488351232)(hh:h.length<1000000)
  (h0:a=[]→hth Tryz.prog Γ Kp s l K (hput t h d (some (.sl (a.map by8) [] (.zero true)))))
  (h1:a≠[]→hth Tryz.prog Γ Kp s l K (hput t (h++[some (.tip 5 0)]) d (some (.sl (a.map by8) [] (.tip h.length 0))))):sV Tryz.prog Γ Kp 5 1 1 (.sl [] [] (.zero true)) (.sl (a.map by8) (mo.map by8) tok) d s l K t h:=by
 by_cases e:a=[]
 ·subst e;exact yQ rfl (h0 rfl)
 ·refine E5 (ys:=a.map by8) rfl (by simpa using e) hh rfl (uu a) (by simp only[aK,aA];omega) ?_
  simpa using h1 e
theorem zib{Γ:jG}{Kp:V→Hl→Prop}{h:Hl}{t:List V}{l:List Item}{K:HS→Prop}{d:Option Tmp}{s:List (Tmp×Option (Tmp×Bool)×AOp)}(a b mo:List UInt8)(tok:Tok)(j k:Nat)(hab:a.length+b.length≤140737488351232)(h0:a≠[])(hj:lk h j=some (.tip 5 k))
  (h1:∀ k',hth Tryz.prog Γ Kp s l K (hput t (hset h j (some (.tip 5 k'))) d (some (.sl ((a++b).map by8) [] (.tip j k'))))):sV Tryz.prog Γ Kp 5 1 1 (.sl (a.map by8) [] (.tip j k)) (.sl (b.map by8) (mo.map by8) tok) d s l K t h:=by
 refine ZZ (ys:=b.map by8) rfl (by simpa using h0) hj (lJ _) (uu b) (by simp only[aK];omega) ?_;intro k2 _;have:=h1 k2
 rwa [bC]at this
def eL:Ent:=⟨1,1,2,0,[],0,0,[]⟩
def Zf:List UInt8:=tX [1,2,1] []
def zbv:List UInt8:=tX [2,2] (pX eL)
theorem n121:kH [1,2,1]++[]=[2,4,2]:=by kernel_rfl
theorem n111:kH [1,1,1]++[]=[2,2,2]:=by kernel_rfl
theorem n22:(kH [2,2]++pX eL).length=10:=by kernel_rfl
theorem uz3:uz 3=[6]:=by kernel_rfl
theorem zmW:uz 10=[20]:=by kernel_rfl
theorem Uc:Zf.length=8:=by rw[Zf,tX,zW,n121,show uz (([2,4,2]:List UInt8).length:Int)=[6]from uz3];rfl
theorem Zd:(tX [1,1,1] []).length=8:=by rw[tX,zW,n111,show uz (([2,2,2]:List UInt8).length:Int)=[6]from uz3];rfl
theorem zbu:zbv.length=15:=by rw[zbv,tX,zW,n22,show uz ((10:Nat):Int)=[20]from zmW];rfl
theorem Ze:Zf.take 4=[6,2,4,2]:=by kernel_rfl
theorem readA:oO k0 (Zf++tX [1,1,1] [])=(⟨2,1,lg0⟩,8):=by
 have h1:pR k0 (kH [1,2,1]++[])=(⟨2,1,lg0⟩,true):=WF (v:=2) (n:=1) rfl rfl (by decide) (by decide);have h2:pR ⟨2,1,lg0⟩ (kH [1,1,1]++[])=(⟨2,1,lg0⟩,false):=by kernel_rfl
 have h3:frG (frB (kH [1,1,1]++[]))=(kH [1,1,1]++[],(frB (kH [1,1,1]++[])).length,0):=by
  have:=Sv (x:=kH [1,1,1]++[]) (by rw[n111];decide) []
  rwa [aS]at this
 rw[show Zf=frB (kH [1,2,1]++[])from rfl,Zg (by rw[n121];decide) h1,tX,oN (.inr (by rw[h3,h2])),fD,show(frB (kH [1,2,1]++[])).length=8 from Uc]
theorem zkD:oO k0 zbv=(k0,0):=by
 have h2:pR k0 (kH [2,2]++pX eL)=(k0,false):=by kernel_rfl
 have h3:frG (frB (kH [2,2]++pX eL))=(kH [2,2]++pX eL,(frB (kH [2,2]++pX eL)).length,0):=by
  have:=Sv (x:=kH [2,2]++pX eL) (by rw[n22];decide) []
  rwa [aS]at this
 exact oN (.inr (by rw[zbv,tX,h3,h2]))
section
variable {Γ:jG} {m:Store}
set_option maxHeartbeats 3200000 in
theorem CO(E:Env Γ):jB Tryz.prog Γ 12 [] m fun o m'=>o = .ret (bo true)∧m'=m:=by
 have hN:∀ k l,nb k (slN l):=fun k l=>oP;obtain⟨A,hA⟩:∃ A,A=Zf:=⟨_,rfl⟩;obtain⟨B,hB⟩:∃ B,B=tX [1,1,1] []:=⟨_,rfl⟩;obtain⟨C,hC⟩:∃ C,C=zbv:=⟨_,rfl⟩;have lA:A.length=8:=by rw[hA];exact Uc
 have lB:B.length=8:=by rw[hB];exact Zd
 have lC:C.length≤100:=by rw[hC,zbu];decide
 have hAn:A≠[]:=by intro h;rw[h]at lA;simp at lA
 have tA:A.take 4=[6,2,4,2]:=by rw[hA];exact Ze
 have rA:oO k0 (A++B)=(⟨2,1,lg0⟩,8):=by rw[hA,hB];exact readA
 have rC:oO k0 C=(k0,0):=by rw[hC];exact zkD
 have hv1:∀ m,jB Tryz.prog Γ 17 [it 2,it 1] m fun o m'=>o = .ret (.tup [slN A,it 0])∧m'=m:=fun m=>by rw[hA];exact JE 2 1
 have hv2:∀ m,jB Tryz.prog Γ 17 [it 1,it 1] m fun o m'=>o = .ret (.tup [slN B,it 0])∧m'=m:=fun m=>by rw[hB];exact JE 1 1
 have hv3:∀ m,jB Tryz.prog Γ 19 [it 2,kM eL] m fun o m'=>o = .ret (.tup [slN C,it 0])∧m'=m:=fun m=>by
  have:=Qg (Γ:=Γ) (m:=m) E 2 eL (by refine⟨?_,?_,?_,?_,?_,?_⟩<;>exact⟨by decide,by decide⟩);rw[show GH (xy 2 eL) (tX [2,2] (pX eL)) = .tup [slN C,it 0]from by rw[hC,show xy 2 eL=true from by kernel_rfl];rfl]at this;exact this
 refine jY (jZ mixed zj2 zmL jP nbY ?_);simp only[F12,ss0,ay,ag];simp only[ssH,ag,ae,reduceIte,af,aj,ah,ai];refine jC (by exact hv1) nbY (by simp only[hN,nbS]) ?_;simp only[ssH,ag,ae,reduceIte,af,aj,ah,ai];refine jC (by exact hv2) nbY (by simp only[hN,nbS]) ?_;simp only[Ba,slN,ssH,ag,ae,reduceIte,af,aj,ah,ai];refine zia A [] .non (by omega) (by simp) (fun h=>absurd h hAn) (fun _ => ?_);simp only[aB,aC,ax,aA,ssH,ag,ae,reduceIte,af,aj,ah,ai];refine zib A B [] .non 0 0 (by omega) hAn rfl (fun k2 => ?_);simp only[qY,qZ,aB,aC,ax,aA,ssH,ag,ae,reduceIte,af,aj,ah,ai];refine Iz (v:=.tup [ktN ⟨2,1,lg0⟩,it 8]) (es:=(A++B).map by8) (more:=[]) rfl (fun m tok'=>by have:=NV (Γ:=Γ) (m:=m) E (A++B) [] tok' (by rw[aH];omega);rw[rA]at this;exact this) (jS _) .nil .nil (by simp only[kU,nbS]) ?_;simp only[ktN,ktV,ktC,jA,jL,aB,aC,ax,aA,ssH,ag,ae,reduceIte,af,aj,ah,ai];refine jC (by exact hv3) nbX (by simp only[hN,nbS]) ?_;simp only[slN,jA,jL,aB,aC,ax,aA,ssH,ag,ae,reduceIte,af,aj,ah,ai];refine jC (v:=.tup [ktN k0,it 0]) (by intro m;have:=NV (Γ:=Γ) (m:=m) E C [] .non (by omega);rw[rC]at this;exact this) (by simp only[kY,nbS]) (by simp only[kU,nbS]) ?_;simp only[ktN,ktV,ktC,jA,jL,aB,aC,ax,aA,ssH,ag,ae,reduceIte,af,aj,ah,ai];have hcut:sF 1 (.sl (A.map by8) [] .non) (some none) (some (some (4:Int))) (some none)=some (.sl ((A.take 4).map by8) ((A.drop 4).map by8) .no):=zkY (b:=A) (h:=4) (by omega);have hb:zdn (.sl ((A.take 4).map by8) ((A.drop 4).map by8) .no)=some (bs [6,2,4,2]):=by rw[Em,tA]
 simp only[aK,lA,nV,lN,hcut,xx,hb,beq_self_eq_true,jA,show((8:Nat):Int)=8 from rfl,show V.val (.string (ByteArray.mk #[6,2,4,2]))=bs [6,2,4,2]from rfl,ssH,ag,ae,reduceIte,af,aj,ah,ai];exact jy (v:=bo true) rfl ⟨by simp only[bo,nbS],rfl⟩
end
theorem JK(b:Bool)(x:List UInt8):∃ (w:V) (p:List UInt8) (e:Int),GH b x = .tup [w,it e]∧KT b x = .tup [bs p,it e]∧nb 0 w∧zdn w=some (bs p):=by
 cases b
 ·exact⟨.sl [] [] .full,[],2,rfl,rfl,by simp only[nbS],rfl⟩
 ·exact⟨slN x,x,0,rfl,rfl,oP,Em⟩
section
variable {Γ:jG} {m:Store}
set_option maxHeartbeats 3200000 in
theorem zcj(E:Env Γ)(nn:Bool)(k:Kt)(op:Int)(e:Ent)(hb:Av.I64 k.l.b)(hl:∀ a∈k.l.l,GN a)(he:GN e):jB Tryz.prog Γ 5 [ktV nn k,it op,kM e] m fun o m'=>o = .ret (bo true)∧m'=m:=by
 have hnk:=CJ 0 nn k;have hnl:=kL (k:=0) nn k.l.l;have hne:=lY (k:=0) e;refine jY (jZ mixed zlq znt jP (by simp only[hnk,hne,nbS]) ?_);simp only[F5,ktV,ktC,kM,ss0,ay,ag];simp only[jA,ZN,gt_iff_lt,ssH,ag,ae,reduceIte,af,aj,ah,ai]
 by_cases h1:(100:Int)<(k.l.l.length:Int)
 ·simp only[decide_eq_true h1,ssH,ag,ae,reduceIte,af,aj,ah,ai];refine jC (v:=bo true) (by exact fun m=>CO E) nbY (by simp only[bo,nbS]) ?_;simp only[ssH,ag,ae,reduceIte,af,aj,ah,ai];exact jy (v:=bo true) rfl ⟨by simp only[bo,nbS],rfl⟩
 simp only[decide_eq_false h1,jA,ssH,ag,ae,reduceIte,af,aj,ah,ai];obtain⟨wa,pa,ea,a1,a2,a3,a4⟩:=JK (ni k.v k.n) (tX [1,k.v,k.n] []);obtain⟨wb,pb,eb,b1,b2,b3,b4⟩:=JK (xy op e) (tX [2,op] (pX e));obtain⟨wc,pc,ec,c1,c2,c3,c4⟩:=JK (ktB k) (tX [3,k.v,k.n] (xY k.l));obtain⟨ek,hek⟩:∃ n:Int,n=(if ktB k=true then 0 else 2):=⟨_,rfl⟩;refine jC (v:=.tup [wa,it ea]) (by intro m;rw[←a1];exact JE k.v k.n) nbY (by simp only[a3,nbS]) ?_;simp only[jA,ssH,ag,ae,reduceIte,af,aj,ah,ai];refine jC (v:=.tup [bs pa,it ea]) (by intro m;rw[←a2];exact zan k.v k.n) nbY nbX ?_;simp only[jA,ssH,ag,ae,reduceIte,af,aj,ah,ai];refine jC (v:=.tup [wb,it eb]) (by intro m;rw[←b1];exact Qg E op e he) (by simp only[hne,nbS]) (by simp only[b3,nbS]) ?_;simp only[jA,ssH,ag,ae,reduceIte,af,aj,ah,ai];refine jC (v:=.tup [bs pb,it eb]) (by intro m;rw[←b2];exact zao op e he) (by simp only[hne,nbS]) nbX ?_;simp only[jA,ssH,ag,ae,reduceIte,af,aj,ah,ai];refine jC (v:=.tup [wc,it ec]) (by intro m;rw[←c1];exact ZU E nn k hb hl) (by simp only[hnl,nbS]) (by simp only[c3,nbS]) ?_;simp only[jA,ssH,ag,ae,reduceIte,af,aj,ah,ai];refine jC (v:=.tup [bs pc,it ec]) (by intro m;rw[←c2];exact zam nn k hb hl) (by simp only[hnl,nbS]) nbX ?_;simp only[xx,a4,b4,c4,beq_self_eq_true,jA,ssH,ag,ae,reduceIte,af,aj,ah,ai];refine jC (v:=it ek) (by intro m;rw[hek];exact EY E nn k) (by simp only[hnl,nbS]) nbY ?_;simp only[jA,ssH,ag,ae,reduceIte,af,aj,ah,ai];refine⟨by first|exact rfl|exact fun _=>rfl,?_⟩;refine jC (v:=it ek) (by intro m;rw[hek];exact zaq nn k) (by simp only[hnl,nbS]) nbY ?_
 simp only[beq_self_eq_true,ssH,ag,ae,reduceIte,af,aj,ah,ai];refine jC (v:=bo true) (by exact fun m=>CO E) nbY (by simp only[bo,nbS]) ?_;simp only[bo,ssH,ag,ae,reduceIte,af,aj,ah,ai];exact jy (v:=bo true) rfl ⟨by simp only[bo,nbS],rfl⟩
end
theorem Zh{b:List UInt8}{k:Kt}{n:Nat}(h:oO k0 b=(k,n)):ktB k=true∧k.l.l.length≤64∧n≤b.length:=by
 obtain⟨h1,_,h3⟩:=zbx k0 b zg5;rw[h]at h1 h3;have:=vG.1 (CQ.1 h1).2;exact⟨h1,this.2.2.2.2.1,h3⟩
section
variable {Γ:jG} {m:Store}
set_option maxHeartbeats 3200000 in
theorem zck(E:Env Γ)(da:List UInt8):jB Tryz.prog Γ 3 [.sl (da.map by8) [] .no] m fun o m'=>o = .ret (bo true)∧m'=m:=by
 refine jY (jZ mixed zlJ znu jP (by simp only[kY,nbS]) ?_);simp only[F3,ss0,ay,ag];simp only[lV,aK,gt_iff_lt,ssH,ag,ae,reduceIte,af,aj,ah,ai]
 by_cases h3:(20000:Int)<(da.length:Int)
 ·simp only[decide_eq_true h3,ssH,ag,ae,reduceIte,af,aj,ah,ai];refine jC (v:=bo true) (by exact fun m=>CO E) nbY (by simp only[bo,nbS]) ?_;simp only[ssH,ag,ae,reduceIte,af,aj,ah,ai];exact jy (v:=bo true) rfl ⟨by simp only[bo,nbS],rfl⟩
 simp only[decide_eq_false h3,Ba,ssH,ag,ae,reduceIte,af,aj,ah,ai];obtain⟨x,n,hR⟩:∃ x n,oO k0 da=(x,n):=⟨_,_,rfl⟩;obtain⟨_,hl,_⟩:=Zh hR;have hln:=kL (k:=0) (!x.l.l.isEmpty) x.l.l;refine zaE da (by omega) (by simp) (fun _ => ?_) (fun _ => ?_)
 all_goals
  simp only[aB,aC,ax,aA,ssH,ag,ae,reduceIte,af,aj,ah,ai];refine Iz (v:=.tup [ktN x,it n]) (es:=da.map by8) (more:=[]) rfl (fun m tok'=>by have:=NV (Γ:=Γ) (m:=m) E da [] tok' (by omega);rw[hR]at this;exact this) (jS _) .nil .nil (by simp only[kU,nbS]) ?_;simp only[ktN,ktV,ktC,jL,jA,aB,aC,ax,aA,xx,Em,ssH,ag,ae,reduceIte,af,aj,ah,ai];refine jC (v:=.tup [ktN x,it n]) (by intro m;have:=zc5 (Γ:=Γ) (m:=m) da (by omega);rw[hR]at this;exact this) nbY (by simp only[kU,nbS]) ?_;simp only[ktN,ktV,ktC,jL,jA,aB,aC,ax,aA,xx,Em,ssH,ag,ae,reduceIte,af,aj,ah,ai];refine jC (v:=bo true) (by exact fun m=>zc4 (!x.l.l.isEmpty) (!x.l.l.isEmpty) x (by omega)) (by simp only[hln,nbS]) (by simp only[bo,nbS]) ?_;simp only[bo,beq_self_eq_true,ssH,ag,ae,reduceIte,af,aj,ah,ai];refine jC (v:=bo true) (by exact fun m=>CO E) nbY (by simp only[bo,nbS]) ?_;simp only[bo,ssH,ag,ae,reduceIte,af,aj,ah,ai];exact jy (v:=bo true) rfl ⟨by simp only[bo,nbS],rfl⟩
end
end Go.Av.Fn
