/- The library's functions, told over abstract values. No condition. -/
import Derived.KernelRfl
import Derived.Lib.AppendIntMem
import Derived.Lib.ItoaLen
import Derived.Lib.ParseIntBCases
import Derived.Lib.UnsafeStr
import Derived.Shelf.RegionOpenPlain
import Derived.WalkKit
import Derived.Test.YtmglaebjmaomnaaGreatDoorTSb
open Array renaming getElem?_modify→dG
open Bool renaming or_eq_true→cZ, false_eq_true→aF, and_eq_true→aG, not_eq_true'→eH, false_and→dK, and_false→dL, not_false→aN, true_and→dD, not_true→aO, eq_iff_iff→bQ
open Int renaming reduceBEq→ah, reduceBNe→ai, toNat_natCast→bn, tmod_eq_emod_of_nonneg→eG, tdiv_eq_ediv_of_nonneg→gY, eq_ofNat_of_zero_le→ed
open List renaming mem_cons_self→aU, mem_cons_of_mem→aX, map_cons→fU, append_nil→aS, length_map→aK, mem_of_getElem? → bI, append_assoc→bg, length_append→aH, suffix_cons→bD, suffix_rfl→df, length_cons→ax, getElem?_map→bH, mem_cons→dQ, not_mem_nil→dm, map→aZ, range→aJ, getElem?_eq_getElem→aI, take_add_one→aW, mem_singleton→cO, length_nil→aA, take_length→bJ, headD_cons→fC, take_of_length_le→bG, cons_append→aB, map_nil→gy, map_append→bC, length_take→bf, length_drop→aV, mem_of_mem_take→dw, getElem_mem→dS
open List.cons renaming injEq→aP
open Nat renaming reduceSub→ay, reduceAdd→ag, reduceLeDiff→ae, reduceEqDiff→af, add_assoc→iI, reduceLT→aj, le_refl→aY, zero_le→bW
open Option renaming map_some→dV, toList→fQ, bind_some→bi
open Option.some renaming injEq→au, inj→fZ
open Prod.mk renaming injEq→bz
set_option linter.unusedSimpArgs false
set_option linter.unusedVariables false
set_option maxRecDepth 100000
namespace Go.Proofs
open Go.Shelf Go.RowKit
variable {P:Program} {ρ:Ren}
theorem Wi{e:TypeId}(hc:P.cellsOf e=1)(count off n:Nat)(hn:off+n≤count):liesAt P P.depth e count off e n=true:=by
 have hd:P.depth=(2*(P.types.size+Made.depth)+1)+1:=rfl;rw[hd];simp only[liesAt,cZ];left;rw[hd];simp[rowAt,hc,hn,sameLayout,Nat.mod_one]
theorem KN(w:World)(pt it ty e:TypeId)(hp:P.underlying pt=some (.pointer e))(hc:P.cellsOf e=1)(a:Addr)(cells:Nat)(hsh:w.shape? a.block=some (e,cells))(l:List UInt8)(h0:l≠[])(hn:a.off+l.length≤cells)(h63:l.length≤9223372036854775807)
  (hcell:∀ j x,l[j]? = some x→w.cell? (a.add j)=some (.int .u8 x.toNat)) :
  (Builtin.unsafeString_ #[pt,it] ty #[.pointer (some a),.int .i64 l.length]).run P w = .ok (.string ⟨l.toArray⟩) (w.freeze a l.length):=by
 have hl:l.length≠0:=by simpa using h0
 have hlb:=Lib.run_loadBytes (P:=P) w l a .empty hcell;have hlies:=Wi (P:=P) hc (cells / P.cellsOf e) a.off l.length (by rw[hc];simpa using hn);have h63':¬ (9223372036854775807:Int)<(l.length:Int):=by omega
 have hdef:Builtin.unsafeString_ #[pt,it] ty #[.pointer (some a),.int .i64 l.length] =
   (do
    let n ←asInt (.int .i64 l.length)
    if n < 0 then runtimePanic (.error "unsafe.String: len out of range")
    if n > IntKind.i64.max then unsupported (.unsafePointer "String: a length above the largest int")
    if n=0 then pure (.string .empty)
    else if ←variablesAt a (←elemOf pt) n.toNat then do
     let s ←loadBytes a .empty n.toNat
     freeze a n.toNat
     pure (.string s)
    else unsupported (.unsafePointer "String: not so many bytes at ptr")) := rfl
 rw[hdef];have hmax:IntKind.i64.max=9223372036854775807:=rfl;have hneg:¬ (l.length:Int)<0:=by omega
 simp[asInt,asIntOf,hmax,h63',hneg,hl,variablesAt,hsh,elemOf,run_underlying hp,hlies,hlb]
set_option maxHeartbeats 1000000 in
set_option maxRecDepth 100000 in
theorem JL(L:Lays.n169 P ρ)(X:Builder.Extra P ρ)(b:Nat)(p:Value)(a:Addr)(cap n:Nat)(l:List UInt8)(w:World)(hbk:w.heap[b]? = some (.cells #[p,.slice (some a) l.length cap] (ρ.t 72) (0,0)))(h0:l≠[])(hcap:l.length≤cap)(h63:l.length≤9223372036854775807)
  (hsh:w.shape? a.block=some (ρ.t 5,n)) (hn:a.off+l.length≤n) (hcell:∀ j x,l[j]? = some x→w.cell? (a.add j)=some (.int .u8 x.toNat)) :
  Calls P (ρ.f 169) #[.pointer (some ⟨b,0,none⟩)] w fun e w'=>e = .returned (.string ⟨l.toArray⟩)∧w'=w.drew.freeze a l.length:=by
 have hl0:l.length≠0:=by simpa using h0
 have c1:w.drew.cell? ⟨b,1,none⟩=some (.slice (some a) l.length cap):=by
  have:w.drew.heap[b]? = some (.cells #[p,.slice (some a) l.length cap] (ρ.t 72) (0,0)):=hbk;rw[Lib.cell_of_heap this];rfl
 have hSD:(Builtin.unsafeSliceData_ #[(ρ.t 37)] (ρ.t 127) #[.slice (some a) l.length cap]).run P w.drew = .ok (.pointer (some a)) w.drew:=
  Lib.run_unsafeSliceData_row _ _ _ _ _ _ (by omega)
 have hUS:(Builtin.unsafeString_ #[(ρ.t 127),(ρ.t 3)] (ρ.t 9) #[.pointer (some a),.int .i64 l.length]).run P w.drew = .ok (.string ⟨l.toArray⟩) (w.drew.freeze a l.length):=
  KN w.drew (ρ.t 127) (ρ.t 3) (ρ.t 9) (ρ.t 5) L.t127 X.cellsByte a n hsh l h0 hn h63 hcell
 have mixed:=L.mixed;have t72:=L.t72;have a72:=L.a72;have z72:=L.z72;have v72:=L.v72;have u72:=run_underlying L.t72
 have t70:=L.t70;have a70:=L.a70;have z70:=L.z70;have v70:=L.v70;have u70:=run_underlying L.t70
 have t37:=L.t37;have a37:=L.a37;have z37:=L.z37;have v37:=L.v37;have u37:=run_underlying L.t37
 have t127:=L.t127;have a127:=L.a127;have z127:=L.z127;have v127:=L.v127;have u127:=run_underlying L.t127
 have t3:=L.t3;have a3:=L.a3;have z3:=L.z3;have v3:=L.v3;have u3:=run_underlying L.t3
 have t9:=L.t9;have a9:=L.a9;have z9:=L.z9;have v9:=L.v9;have u9:=run_underlying L.t9
 have t5:=X.t5;have a5:=X.a5;have z5:=X.z5;have v5:=X.v5;have u5:=run_underlying X.t5
 go_enter L.f169,Body.n169_ntmps ρ
 go_wp2
 go_region_o
 all_goals (go_wp2;go_ret;exact⟨rfl,rfl⟩)
end Go.Proofs
namespace Go.Av
open Go.RowKit
section
variable {P:Program} {Γ:jG} {B0:Nat} {G:Gh} {m:Store} {w:World}
theorem oQ{a:Addr}{n b:Nat}(h:b≠a.block):(w.freeze a n).heap[b]? = w.heap[b]? := by
 unfold World.freeze
 split
 ·rfl
 ·simp only[dG];rw[if_neg (fun e=>h e.symm)]
theorem KA{a c:Addr}{n:Nat}:(w.freeze a n).cell? c=w.cell? c:=by
 by_cases h:c.block=a.block
 ·unfold World.freeze
  split
  ·rfl
  ·simp only[World.cell?,dG,h,if_true]
   cases hb:w.heap[a.block]? with
   |none=>rfl
   |some o=>cases o<;>rfl
 ·exact World.cell?_of_block (oQ h)
theorem zN{a:Addr}{n:Nat}:(w.freeze a n).heap.size=w.heap.size:=by
 unfold World.freeze
 split
 ·rfl
 ·simp
theorem Rep.freeze(h:Rep Γ B0 G m w){t:Nat}{T:TypeId}{k:Nat}(ht:m t=some (.tip T k)){a:Addr}{E C n:Nat}(hH:G.H t k=some (a.block,E,C)):Rep Γ B0 G (fun c=>if c=t then none else m c) (w.freeze a n):=by
 obtain⟨_,B,E',C',q1,q2,q3,q4,⟨cs0,fz0,q5⟩,_⟩:=h.tip t T k ht;rw[hH]at q1;simp only[au,bz]at q1;obtain⟨rfl,rfl,rfl⟩:=q1
 have sub:∀ b x,(if b=t then none else m b)=some x→b≠t∧m b=some x:=by
  intro b x hb
  by_cases e:b=t
  ·simp[e]at hb
  ·exact⟨e,by simpa [e] using hb⟩
 exact {
  K:=fun b o u hu=>by rw[KA];exact h.K b o u hu
  base:=by rw[zN];exact h.base
  hist:=fun t' v x hx=>by rw[zN];exact⟨(h.hist t' v x hx).1,fun T' v' hv=>(h.hist t' v x hx).2 T' v' (sub _ _ hv).2⟩
  var:=fun b T' cs hb=>by
   obtain⟨h1,⟨us,h2,h3⟩,h4⟩:=h.var b T' cs (sub _ _ hb).2;have hne:b≠a.block:=by rintro rfl;exact q4 _ _ (sub _ _ hb).2
   exact⟨h1,⟨us,by rw[oQ hne];exact h2,h3⟩,h4⟩
  tip:=fun t' T' v ht'=>by
   rw[zN];obtain⟨hne,ht''⟩:=sub _ _ ht';obtain⟨p1,B',E',C',p2,p3,p4,p5,⟨y1,y2,y3⟩,p6⟩:=h.tip t' T' v ht''
   have hB:B'≠a.block:=by
    rintro rfl;exact h.apart t' T' v t T k a.block E' C' E C ht'' ht hne p2 hH
   refine⟨p1,B',E',C',p2,p3,p4,fun T2 cs hc=>p5 T2 cs (sub _ _ hc).2,⟨y1,y2,by rw[oQ hB];exact y3⟩,fun o h1 h2 => ?_⟩;obtain⟨f1,f2,f3⟩:=p6 o h1 h2;exact⟨by rw[KA];exact f1,by rw[World.frozen?_of_block (w:=w) (oQ hB)];exact f2,f3⟩
  own:=fun t' v B E C k=>by rw[zN];exact⟨(h.own t' v B E C k).1,(h.own t' v B E C k).2.1,fun T cs hc=>(h.own t' v B E C k).2.2 T cs (sub _ _ hc).2⟩
  apart:=fun t1 T1 v1 t2 T2 v2 B E C E' C' k1 k2=>h.apart t1 T1 v1 t2 T2 v2 B E C E' C' (sub _ _ k1).2 (sub _ _ k2).2
  glob:=h.glob
  gsz:=fun g cs hg h20=>by
   obtain⟨a1,us',T',fz,b',c'⟩:=h.gsz g cs hg h20;exact⟨a1,us',T',fz,by rw[oQ (by omega)];exact b',c'⟩
  loop:=fun b r f t' ps x y D hb=>by
   obtain⟨h1,us,h2,h3⟩:=h.loop b r f t' ps x y D (sub _ _ hb).2;have hne:b≠a.block:=by rintro rfl;rw[q5.1]at h2;cases h2
   exact⟨h1,us,by rw[oQ hne];exact h2,h3⟩
  defer:=fun b hb=>by
   obtain⟨h1,h2⟩:=h.defer b (sub _ _ hb).2;have hne:b≠a.block:=by rintro rfl;rw[q5.1]at h2;cases h2
   exact⟨h1,by rw[oQ hne];exact h2⟩ }
theorem Vp:∀ {l:List UInt8} {us:List Value},kE G (l.map by8) us→us=l.map fun b=>Value.int .u8 b.toNat
 |[],us,h=>h.kN
 |b::l,us,h=>by
  obtain⟨y,ys,rfl,r1,r2⟩:=h.cons_inv;cases r1;rw[Vp r2];rfl
end
end Go.Av
namespace Go.Av.Fn
open Go.Proofs Go.RowKit
theorem zeA(s:List UInt8)(c:UInt8):Lib.indexByte s c=N7 s c:=by
 unfold N7
 induction s with
 |nil=>rfl
 |cons b s ih=>
  rw[List.findIdx?_cons,Lib.indexByte]
  by_cases h:(b==c)=true
  ·simp[h]
  ·simp only[h,aF,if_false];rw[ih]
   cases List.findIdx? (· == c) s with
   |none=>rfl
   |some i=>
    simp only[dV]
    have:¬ ((i:Int) == -1)=true:=by
     intro k;have:=eq_of_beq k;omega
    rw[if_neg this];rfl
theorem Um:∀ (l:List UInt8) (acc u:Nat),Lib.parseUintM (2^64-1) acc l = .ok u→acc≤u
 |[],acc,u,h=>by
  simp only[Lib.parseUintM,Lib.NumEnd.ok.injEq]at h;omega
 |c::r,acc,u,h=>by
  simp only[Lib.parseUintM]at h
  split at h
  ·split at h
   ·cases h
   ·split at h
    ·cases h
    ·have:=Um r _ u h;omega
  ·cases h
theorem Ul:∀ (l:List UInt8) (acc:Nat),(∀ c∈l,dig c=true)→(∃ u,Lib.parseUintM (2^64-1) acc l = .ok u)∨Lib.parseUintM (2^64-1) acc l = .range
 |[],acc,_=>.inl ⟨acc,rfl⟩
 |c::r,acc,hd=>by
  have hc:=hd c (aU ..);simp only[dig,aG,decide_eq_true_eq]at hc;have hc':48≤c.toNat∧c.toNat≤57:=hc;simp only[Lib.parseUintM,if_pos hc']
  split
  ·exact .inr rfl
  ·split
   ·exact .inr rfl
   ·exact Ul r _ (fun c hc=>hd c (aX _ hc))
theorem PZ:∀ (l:List UInt8) (acc:Nat),(∀ c∈l,dig c=true)→acc<9223372036854775808 →
  (∃ u,Lib.parseUintM (2^64-1) acc l = .ok u∧numL acc l=if u<9223372036854775808 then some u else none)∨(Lib.parseUintM (2^64-1) acc l = .range∧numL acc l=none)
 |[],acc,_,ha=>.inl ⟨acc,rfl,by simp only[numL];rw[if_pos ha]⟩
 |c::r,acc,hd,ha=>by
  have hc:=hd c (aU ..);simp only[dig,aG,decide_eq_true_eq]at hc;have hc':48≤c.toNat∧c.toNat≤57:=hc;simp only[Lib.parseUintM,numL,if_pos hc'];have key:(acc>(9223372036854775807-(c.toNat-48)) / 10)↔9223372036854775807<10*acc+(c.toNat-48):=by omega
  have e10:acc*10+(c.toNat-48)=10*acc+(c.toNat-48):=by omega
  rw[e10]
  by_cases h1:1844674407370955162≤acc
  ·rw[if_pos h1,if_pos (key.2 (by omega))];exact .inr ⟨rfl,rfl⟩
  ·rw[if_neg h1]
   by_cases h2:2^64-1<10*acc+(c.toNat-48)
   ·rw[if_pos h2,if_pos (key.2 (by omega))];exact .inr ⟨rfl,rfl⟩
   ·rw[if_neg h2]
    by_cases h3:9223372036854775807<10*acc+(c.toNat-48)
    ·rw[if_pos (key.2 h3)]
     rcases Ul r (10*acc+(c.toNat-48)) (fun c hc=>hd c (aX _ hc))with ⟨u,hp⟩|hp
     ·have:=Um r _ u hp;exact .inl ⟨u,hp,by rw[if_neg (by omega)]⟩
     ·exact .inr ⟨hp,rfl⟩
    ·rw[if_neg (fun k=>h3 (key.1 k))];exact PZ r _ (fun c hc=>hd c (aX _ hc)) (by omega)
theorem zhF{s:List UInt8}(hne:s≠[])(hd:∀ c∈s,dig c=true):match numL 0 s with
  |some n=>Lib.parseIntB 64 s = .ok (n:Int)
  |none=>Lib.parseIntB 64 s = .range:=by
 obtain⟨c,r,rfl⟩:∃ c r,s=c::r:=by
  cases s with
  |nil=>exact absurd rfl hne
  |cons c r=>exact⟨c,r,rfl⟩
 have hc:=hd c (aU ..);simp only[dig,aG,decide_eq_true_eq]at hc;have h1:¬ (c.toNat=43∨c.toNat=45):=by omega
 have h2:¬ c.toNat=45:=by omega
 have hU:Lib.parseUintB 64 (c::r)=Lib.parseUintM (2^64-1) 0 (c::r):=by
  unfold Lib.parseUintB;rw[if_neg (List.cons_ne_nil c r)]
 have hok:∀ u,Lib.parseUintM (2^64-1) 0 (c::r) = .ok u→Lib.parseIntB 64 (c::r)=if 9223372036854775808≤u then .range else .ok (u:Int):=by
  intro u hu;unfold Lib.parseIntB;simp only;rw[if_neg h1,hU,hu];simp[h2]
 have hra:Lib.parseUintM (2^64-1) 0 (c::r) = .range→Lib.parseIntB 64 (c::r) = .range:=by
  intro hu;unfold Lib.parseIntB;simp only;rw[if_neg h1,hU,hu]
 rcases PZ (c::r) 0 hd (by omega)with ⟨u,e1,e2⟩|⟨e1,e2⟩
 ·rw[e2]
  by_cases hu:u<9223372036854775808
  ·rw[if_pos hu];simp only;rw[hok u e1,if_neg (by omega)]
  ·rw[if_neg hu];simp only;rw[hok u e1,if_pos (by omega)]
 ·rw[e2];exact hra e1
theorem ze3{Γ:jG}(m:Store)(s:List UInt8)(hs:s.length≤281474976710656):jB Tryz.prog Γ 163 [bs s] m fun o m'=>o = .ret (bs s)∧m'=m:=
 jB.XG (xs:=[.string ⟨s.toArray⟩]) (u:=.string ⟨s.toArray⟩) (by kernel_rfl) rfl (fun w=>Tryz.stringslite_Clone ⟨s.toArray⟩ w (by simpa [ByteArray.size] using hs))
theorem zex{Γ:jG}(m:Store)(s:List UInt8)(c:UInt8):jB Tryz.prog Γ 275 [bs s,by8 c] m fun o m'=>o = .ret (it (N7 s c))∧m'=m:=
 jB.XG (xs := [.string ⟨s.toArray⟩,.int .u8 c.toNat]) (u := .int .i64 (N7 s c)) (by kernel_rfl) rfl (fun w => (Tryz.strings_IndexByte ⟨s.toArray⟩ c.toNat w).mono (by
  rintro e w' ⟨rfl,rfl⟩;refine⟨?_,Below.refl _ _⟩;have e1:(c.toNat:Int).toNat.toUInt8=c:=by simp
  rw[e1,←zeA]))
theorem zd4{Γ:jG}{T:TypeId}{v:V}(hΓ:Γ 7=some [.ifc T v]):Ad Γ:=by
 intro m s hne hs hd;have hp:=zhF hne hd;refine⟨by kernel_rfl,fun G B0 mF w cargs hD hR hL => ?_⟩;obtain⟨c1,r1,rfl,h1,hL⟩:=hL.cons_inv;obtain⟨c2,r2,rfl,h2,hL⟩:=hL.cons_inv;obtain⟨c3,r3,rfl,h3,hL⟩:=hL.cons_inv;obtain rfl:=hL.kN;cases h1;cases h2;cases h3;have hsz:(⟨s.toArray⟩:ByteArray).data.toList=s:=by simp
 have hsz2:(⟨s.toArray⟩:ByteArray).size=s.length:=by simp[ByteArray.size]
 cases hn:numL 0 s with
 |some n=>
  rw[hn]at hp;refine(Tryz.strconv_ParseInt_10_at64_ok ⟨s.toArray⟩ (by omega) n (by rw[hsz];exact hp) w).mono ?_;rintro e w' ⟨rfl,hw⟩
  have hB:Below w.heap.size w w':=by
   rcases hw with rfl|⟨t,rfl⟩
   ·exact Below.refl _ _
   ·exact Lib.bytesWorld_below w 5 t
  exact⟨G,m,.ret (.tup [it n,.val .nilIface]),Gh.le.refl G,hD,hR.below hB,hB.mono hR.base,.ret (.tup (.cons (.val rfl) (.cons (.val rfl) .nil))),rfl,rfl⟩
 |none=>
  rw[hn]at hp;obtain⟨us,g1,g2⟩:=hR.glob 7 _ hΓ;obtain⟨u,ys,rfl,g3,g4⟩:=g1.cons_inv;obtain rfl:=g4.kN;have hcell:=hR.K 7 0 u (g2.2 0 u rfl)
  cases g3 with
  |ifc g3=>
   refine(Tryz.strconv_ParseInt_10_at64_range ⟨s.toArray⟩ (by omega) (by rw[hsz];exact hp) _ w hcell (.inr ⟨_,_,rfl⟩)).mono ?_;rintro e w' ⟨N,rfl,_,_,hB⟩;exact⟨G,m,.ret (.tup [it (Lib.intSat 64 (ByteArray.mk s.toArray).data.toList),.ifc 375 (.ptr N 0)]),Gh.le.refl G,hD,hR.below hB,hB.mono hR.base,.ret (.tup (.cons (.val rfl) (.cons (.ifc (.ptr _ _)) .nil))),⟨_,_,_,rfl⟩,rfl⟩
theorem zhY{Γ:jG}(m:Store)(b:Nat)(p u:V)(h:m b=some (.var 369 [p,u]))(hp:RN b p):jB Tryz.prog Γ 284 [.ptr b 0] m fun o m'=>o = .ret (.tup [])∧m'=m.set b (.var 369 [.ptr b 0,u]):=by
 refine⟨by kernel_rfl,fun G B0 mF w cargs hD hR hL => ?_⟩;obtain⟨c1,r1,rfl,h1,hL⟩:=hL.cons_inv;obtain rfl:=hL.kN;cases h1;have hb:=oC (f:=mF) h;obtain⟨hB0,⟨us,hw,hu⟩,hK⟩:=hR.var b 369 _ hb;obtain⟨x,us1,rfl,r1,hu⟩:=hu.cons_inv;obtain⟨y,us2,rfl,r2,hu⟩:=hu.cons_inv;obtain rfl:=hu.kN
 rcases hp with rfl|rfl
 ·cases r1;refine(Any.Builder_copyCheck_fresh Tryz.lays240 Tryz.Builder_X72_240 b w (by simp[World.cell?,hw]) (by simp[World.shape?,hw];rfl) (by simp[World.frozen?,hw])).mono ?_;rintro e w' ⟨rfl,rfl⟩;have hst:=hR.store hb (o:=0) (ku.ptr (G:=G) b 0);rw[←xK]at hst;exact⟨G,_,.ret (.tup []),Gh.le.refl G,hD.set _ (hD.CG h),hst,(Below.refl B0 w).setCell (p:=⟨b,0,none⟩) hB0 _,.ret (.tup .nil),rfl,rfl⟩
 ·cases r1;refine(Any.Builder_copyCheck_used Tryz.lays240 Tryz.Builder_X72_240 b w (by simp[World.cell?,hw])).mono ?_;rintro e w' ⟨rfl,rfl⟩;exact⟨G,m,.ret (.tup []),Gh.le.refl G,hD,hR,Below.refl _ _,.ret (.tup .nil),rfl,(Store.sZ m h).symm⟩
theorem za9{Γ:jG}(m:Store)(b:Nat)(p u:V)(l:List UInt8)(h:m b=some (.var 369 [p,u]))(hl:l.length≤4096)(hu:(l=[]∧u = .sl [] [] .full)∨(l≠[]∧∃ t k,m t=some (.tip 5 k)∧u = .sl (l.map by8) [] (.tip t k))) :
  jB Tryz.prog Γ 274 [.ptr b 0] m fun o m'=>o = .ret (bs l)∧∀ c x,m c=some x→(∀ l2 k,u ≠ .sl l2 [] (.tip c k))→m' c=some x:=by
 refine⟨by kernel_rfl,fun G B0 mF w cargs hD hR hL => ?_⟩;obtain⟨c1,r1,rfl,h1,hL⟩:=hL.cons_inv;obtain rfl:=hL.kN;cases h1;have hb:=oC (f:=mF) h;obtain⟨hB0,⟨us,hw,hus⟩,hK⟩:=hR.var b 369 _ hb;obtain⟨x,us1,rfl,r1,hus⟩:=hus.cons_inv;obtain⟨y,us2,rfl,r2,hus⟩:=hus.cons_inv;obtain rfl:=hus.kN
 rcases hu with ⟨rfl,rfl⟩|⟨hne,t,k,ht,rfl⟩
 ·have hy:y = .slice none 0 0:=by
   cases r2 with
   |nil _=>rfl
   |sl q1 q2 q3 q4 q5 q6=>exact absurd rfl q6.2
  subst hy;refine(Any.Builder_String_nil Tryz.lays169 Tryz.Builder_Extra_169 w.heap.size b x w hw).mono ?_;rintro e w' ⟨rfl,hB⟩;exact⟨G,m,.ret (bs []),Gh.le.refl G,hD,hR.below hB,hB.mono hR.base,.ret (.val rfl),rfl,fun c x hc _=>hc⟩
 ·have hy:∃ (a:Addr) (cap:Nat),y = .slice (some a) l.length cap∧l.length≤cap∧G.has a (l.map fun b=>Value.int .u8 b.toNat)∧G.H t k=some (a.block,a.off+l.length,a.off+cap):=by
   obtain⟨c,r,rfl⟩:∃ c r,l=c::r:=by
    cases l with
    |nil=>exact absurd rfl hne
    |cons c r=>exact⟨c,r,rfl⟩
   cases r2 with
   | @sl _ _ _ us a cap sz q1 q2 q3 q4 q5 q6=>
    have hsz:sz=1:=(q1 (by8 c) (by simp)).symm;subst hsz
    have hfl:flat ((c::r).map by8++[])=(c::r).map by8:=by
     have:∀ l:List UInt8,flat (l.map by8)=l.map by8:=by
      intro l
      induction l with
      |nil=>rfl
      |cons b l ih=>rw[fU,lD,ih];rfl
     rw[aS,this]
    rw[hfl]at q2;have hus:=Vp q2;subst hus;have q6':G.H t k=some (a.block,a.off+((c::r).map by8).length*1,a.off+cap*1):=q6;rw[aK,Nat.mul_one,Nat.mul_one]at q6';exact⟨a,cap,by rw[aK],by simpa using q4,q3,q6'⟩
  obtain⟨a,cap,rfl,hcap,hhas,hH⟩:=hy;have htm:=oC (f:=mF) ht;obtain⟨_,B,E,C,p1,p2,p3,p4,⟨cs,fz,p5⟩,p6⟩:=hR.tip t 5 k htm;rw[hH]at p1;simp only[au,bz]at p1;obtain⟨rfl,rfl,rfl⟩:=p1
  have hcell:∀ j x,l[j]? = some x→w.cell? (a.add j)=some (.int .u8 x.toNat):=by
   intro j x hx;have hk:=hhas.2 j (.int .u8 x.toNat) (by simp[hx]);have:=hR.K _ _ _ hk;rw[add_plain hhas.1];exact this
  have hsz:a.off+l.length≤cs.size:=by
   have hl0:0<l.length:=by cases l with|nil=>exact absurd rfl hne|cons _ _=>simp
   have:=hcell (l.length-1) l[l.length-1] (by simp[hl0]);rw[add_plain hhas.1]at this;simp only[World.cell?,p5]at this;have h2:=(Array.getElem?_eq_some_iff.1 this).1;omega
  refine(JL Tryz.lays169 Tryz.Builder_Extra_169 b x a cap cs.size l w hw hne hcap (by omega) (by simp[World.shape?,p5];rfl) hsz hcell).mono ?_;rintro e w' ⟨rfl,rfl⟩;have hfz:=hR.drew.freeze htm (a:=a) (n:=l.length) hH
  have hor:(fun c=>if c=t then none else (m.or mF) c)=Store.or (fun c=>if c=t then none else m c) mF:=by
   funext c
   by_cases e:c=t
   ·subst e;have:=hD.CG ht;simp[Store.or,this]
   ·simp[Store.or,e]
  rw[hor]at hfz;refine⟨G,_,.ret (bs l),Gh.le.refl G,fun c => ?_,hfz,Lib.below_freeze (Below.drew (Below.refl B0 w)) p2 _,.ret (.val rfl),rfl,fun c x hc hk => ?_⟩
  ·rcases hD c with h|h
   ·left
    by_cases e:c=t
    ·simp[e]
    ·simp[e,h]
   ·exact .inr h
  ·have:c≠t:=by rintro rfl;exact hk _ _ rfl
   simp[this,hc]
theorem zkN{Γ:jG}:xG Γ where
 clone:=ze3
 copyCheck:=zhY
 string:=za9
 indexByte:=fun m s c _=>zex m s c
def zmZ:List V:=Lib.pow10Tab.map fun z=>.val (.int .u64 z)
section
variable {Γ:jG} {m:Store}
theorem c1:((1:Nat):Int)=1:=rfl
theorem c3:((3:Nat):Int)=3:=rfl
end
end Go.Av.Fn
namespace Go.Av.Fn
open Go.Proofs
structure znv (Γ:jG):Prop where
 env:Env Γ
 range:∃ T v,Γ 7=some [.ifc T v]
 syn:∃ T v,Γ 6=some [.ifc T v]
section
variable {Γ:jG} {m:Store}
end
end Go.Av.Fn
namespace Go.Av
end Go.Av
namespace Go.Av.Fn
open Go.Proofs
section
variable {Γ:jG} {m:Store}
end
theorem PK{k n:Int}{s:List UInt8}(h:lK k n s=true):s.length≤255∧0≤n∧n≤4294967296:=by
 unfold lK at h
 split at h
 ·cases h
 ·rename_i h1;simp only[cZ,not_or,aG,eH,decide_eq_true_eq]at h1;obtain⟨⟨⟨⟨h1,h2⟩,h3⟩,h4⟩,h5⟩:=h1
  have hl:0≤(lQ k).least:=by
   have hall:∀ f∈forms,0≤f.least:=by decide
   unfold lQ
   split
   ·decide
   ·cases hg:forms[k.toNat]? with
    |none=>decide
    |some f=>exact hall f (bI hg)
  refine⟨?_,by omega,by omega⟩
  split at h
  ·rename_i h6;simp only[cZ,aG,eH]at h6
   rcases h6 with h6|⟨_,h6⟩
   ·have:s=[]:=by
     cases hs:(s==[])with
     |true=>exact eq_of_beq hs
     |false=>exact absurd ⟨h6,hs⟩ h3
    subst this;simp
   ·rw[eq_of_beq h6];simp
  ·unfold pq at h;simp only[aG,decide_eq_true_eq]at h;exact h.2
theorem Td{P:Program}{T:TypeId}{xo yo:Operand}{x y:List UInt8}(h:x.length+y.length≤9223372036854775807):kR P .add T .other xo yo (bs x) (bs y)=some (bs (x++y)):=Vs h
section
variable {Γ:jG} {m:Store}
end
end Go.Av.Fn
namespace Go.Av.Fn
open Go.Proofs
section
variable {Γ:jG} {m:Store}
end
def Bh(s:List UInt8)(a:Nat)(e:Int):(Int×Int×List UInt8)×Nat×Int:=
 let k:=mf s a e
 let n:=mf s k.2.1 k.2.2
 let t:=nJ s n.2.1 n.2.2 255
 (if t.2.2≠0 then (0,0,[])else (k.1,n.1,t.1),t.2.1,t.2.2)
def SY(c:Int×Int×List UInt8):V:=zK c.1 c.2.1 c.2.2
def AL(k n:Int)(s:List UInt8):List UInt8:=Lib.uvarint (Lib.zigzag k)++Lib.uvarint (Lib.zigzag n)++(Lib.uvarint (Lib.zigzag s.length)++s)
section
variable {Γ:jG} {m:Store} {rb a:Nat} {s:List UInt8} {e:Int}
theorem zhQ(L:xG Γ)(hr:m rb=some (rdB s a e))(ha:a≤s.length)(hs:s.length≤281474976710656) :
  jB Tryz.prog Γ 144 [.ptr rb 0] m fun o m'=>o = .ret (SY (Bh s a e).1)∧m'=m.set rb (rdB s (Bh s a e).2.1 (Bh s a e).2.2):=by
 refine jB.less (A:=fun o m'=>o = .ret (SY (Bh s a e).1)∧mO (m.set rb (rdB s (Bh s a e).2.1 (Bh s a e).2.2)) m') ?_ fun o m' h=>⟨_,h.2,h.1,rfl⟩;refine jE mixed zgg (by rintro v m b x _ ⟨⟨⟩,_⟩) ?_;unfold Bh;obtain⟨k,a1,e1,h1⟩:∃ k a1 e1,mf s a e=(k,a1,e1):=⟨_,_,_,rfl⟩;have l1:=lh (e:=e) ha;rw[h1]at l1;obtain⟨n,a2,e2,h2⟩:∃ n a2 e2,mf s a1 e1=(n,a2,e2):=⟨_,_,_,rfl⟩;have l2:=lh (e:=e1) l1;rw[h2]at l2;obtain⟨t,a3,e3,h3⟩:∃ t a3 e3,nJ s a2 e2 255=(t,a3,e3):=⟨_,_,_,rfl⟩;simp only at l1 l2;simp only[h1,h2,h3];simp only[zmF,ss0,ay,ag];simp only[ssS,ag,ae,reduceIte,af];refine kz fun b2 hb2 => ?_;have hn2:=jU hr hb2;simp only[ssS,ag,ae,reduceIte,af];refine lm (su (a:=a) (e:=e) (s:=s) (by rw[Store.jw _ _ hn2];exact hr) ha (by omega)) ?_;simp only[h1,ssS,ag,ae,reduceIte,af];refine kz fun b3 hb3 => ?_;have hn3:rb≠b3:=jU (Store.jv _ _ _) hb3;have h23:b2≠b3:=jU (by rw[Store.jw _ _ hn2.symm,Store.jv]) hb3;simp only[Store.jv,Store.kC,ssS,ag,ae,reduceIte,af];refine lm (su (a:=a1) (e:=e1) (s:=s) (by rw[Store.jw _ _ hn3,Store.jv]) l1 (by omega)) ?_;simp only[h2,Store.jv,Store.kC,Store.jw _ _ hn3.symm,ssS,ag,ae,reduceIte,af];refine lm (Md L 255 (a:=a2) (e:=e2) (s:=s) (by rw[Store.jw _ _ hn3,Store.jv]) l2 hs) ?_;simp only[h3,Store.jv,Store.kC,Store.jw _ _ hn3.symm,ssS,ag,ae,reduceIte,af];refine jK (xP (a:=a3) (e:=e3) (s:=s) (by rw[Store.jw _ _ hn3,Store.jv])) ?_
 have hfin:∀ (M:Store),M rb=some (rdB s a3 e3)→(∀ c x,m c=some x→c≠rb→c≠b2→c≠b3→M c=some x)→∀ x,mO (m.set rb (rdB s a3 e3)) (M.set b2 x):=by
  intro M hM hs2 x c y hc
  by_cases h1:c=rb
  ·subst h1;rw[Store.jv]at hc;cases hc;rw[Store.jw _ _ hn2];exact hM
  ·rw[Store.jw _ _ h1]at hc;have h2:c≠b2:=jU hc hb2;rw[Store.jw _ _ h2];refine hs2 c y hc h1 h2 ?_;rintro rfl;rw[Store.jw _ _ hn3.symm,Store.jw _ _ h23.symm,hc]at hb3;cases hb3
 cases he:(e3 != 0)
 ·have h0:e3=0:=by simpa using he
  subst h0;simp only[show((0:Int) != 0)=false from rfl,Store.jv,Store.kC,Store.jw _ _ hn3.symm,Store.jw _ _ h23,Store.jw _ _ hn2.symm,ssS,ag,ae,reduceIte,af];refine jF ((wo (b:=b2) rfl (Store.jv _ _ _)).trans rfl) ⟨?_,hfin _ ?_ ?_ _⟩
  ·simp only[ne_eq,not_true_eq_false,if_false,SY,zK];rfl
  ·first
    |exact Store.jv _ _ _
    |(rw[Store.jw _ _ hn3,Store.jv])
  ·intro c x hc k1 k2 k3;simp only[Store.jw _ _ k1,Store.jw _ _ k2,Store.jw _ _ k3];exact hc
 ·have h0:e3≠0:=by simpa using he
  simp only[he,Store.jv,Store.kC,Store.jw _ _ hn3.symm,Store.jw _ _ h23,Store.jw _ _ hn2.symm,ssS,ag,ae,reduceIte,af];refine jF ((wo (b:=b2) rfl (Store.jv _ _ _)).trans rfl) ⟨?_,hfin _ ?_ ?_ _⟩
  ·simp only[ne_eq,h0,not_false_eq_true,if_true,SY,zK];rfl
  ·first
    |exact Store.jv _ _ _
    |(rw[Store.jw _ _ hn3,Store.jv])
  ·intro c x hc k1 k2 k3;simp only[Store.jw _ _ k1,Store.jw _ _ k2,Store.jw _ _ k3];exact hc
theorem zhD{m':Store}{v:V}{l t:List UInt8}{k n:Int}(h:GR 5 1 m m' v (l.map by8))(hk:Av.I64 k)(hn:Av.I64 n)(hl:l.length+t.length+100≤140737488355328)(hl2:l.length+100<1099511627776) :
  jB Tryz.prog Γ 102 [v,zK k n t] m' fun o m2=>∃ v2,o = .ret v2∧Buf 5 1 m m2 v2 ((l++AL k n t).map by8):=by
 refine jB.less (A:=fun o m2=>∃ v2 M,o = .ret v2∧mO M m2∧Buf 5 1 m M v2 ((l++AL k n t).map by8)) ?_ fun o m' ⟨v2,M,h1,h2,h3⟩=>⟨M,h2,v2,h1,h3⟩;refine jE mixed zgO (by rintro v m b x _ ⟨_,_,⟨⟩,_⟩) ?_;simp only[zmS,zK,ss0,ay,ag];simp only[ssS,ag,ae,reduceIte,af];refine kz fun b3 hb3 => ?_
 have hm3:m b3=none:=by
  cases hc:m b3 with
  |none=>rfl
  |some x=>rw[h.sub _ _ hc]at hb3;cases hb3
 have z1:=Lib.uvarint_length64 (Av.zigzag_u64 hk);have z2:=Lib.uvarint_length64 (Av.zigzag_u64 hn);simp only[Store.jv,ssS,ag,ae,reduceIte,af];refine pJ (qp (h.add (x:=.var 40 [it k,it n,bs t]) hb3) hk (by omega)) ?_ (by rintro v m' ⟨_,⟨⟩,_⟩);rintro v2 m2 ⟨_,⟨⟩,hB⟩;have hb2:=hB.sub b3 _ (Store.jv _ _ _);simp only[vX,vY,xm,hb2,ssS,ag,ae,reduceIte,af];refine pJ (qp (.inl hB) hn (by simp;omega)) ?_ (by rintro v m' ⟨_,⟨⟩,_⟩);rintro v3 m3 ⟨_,⟨⟩,hB3⟩;have hb3':=hB3.sub b3 _ (Store.jv _ _ _);simp only[vX,vY,xm,hb3',ssS,ag,ae,reduceIte,af];refine pJ (Gg hB3 (by simp;omega) (by simp;omega)) ?_ (by rintro v m' ⟨_,⟨⟩,_⟩);rintro v4 m4 ⟨_,⟨⟩,hB4⟩;simp only[ssS,ag,ae,reduceIte,af];obtain⟨q1,M,q2,q3,q4⟩:=hB4.del hm3;refine jF jD ⟨v4,M,rfl,?_,?_⟩
 ·intro c x hc;have hne:c≠b3:=by rintro rfl;rw[q3]at hc;cases hc
  have:=congrArg (fun f:Store=>f c) (q4 (.var 40 []));simp only[Store.jw _ _ hne]at this;rw[this];exact hc
 ·simp only[AL,bg]at q2 ⊢;exact q2
end
end Go.Av.Fn
namespace Go.Av.Fn
open Go.Lib
theorem U7{α:Type}(a b:List α):(a++b).drop a.length=b:=by simp
theorem Np{n:Int}(h:Av.I64 n)(a r:List UInt8):mf (a++(uvarint (zigzag n)++r)) a.length 0=(n,a.length+(uvarint (zigzag n)).length,0):=by
 unfold mf;rw[U7,Av.numL_put h r];simp
theorem Ov{n:Nat}(h:Av.I64 n)(r:List UInt8)(most:Int)(hm:0≤most):kD (uvarint (zigzag n)++r) most=if (n:Int)>most then (0,0,5)else ((n:Int),(uvarint (zigzag n)).length,0):=by
 unfold kD;rw[Av.numL_put h r];simp only[ne_eq,not_true_eq_false,if_false];rw[if_neg (by omega),Int.max_eq_right hm]
theorem Y1{s:List UInt8}(hs:s.length<9223372036854775808)(r:List UInt8)(most:Nat) :
  xN (uvarint (zigzag s.length)++(s++r)) most=if s.length>most then ([],0,5)else (s,(uvarint (zigzag s.length)).length+s.length,0):=by
 have hi:Av.I64 (s.length:Int):=by unfold Av.I64;omega
 unfold xN;rw[Ov hi _ _ (by omega)]
 by_cases h:s.length>most
 ·have h':(s.length:Int)>(most:Int):=by omega
  rw[if_pos h',if_pos h];simp
 ·have h':¬ (s.length:Int)>(most:Int):=by omega
  rw[if_neg h',if_neg h];simp only[ne_eq,not_true_eq_false,if_false]
  have hc:¬ (s.length:Int)>((uvarint (zigzag s.length)++(s++r)).length:Int)-((uvarint (zigzag s.length)).length:Int):=by
   simp only[aH];omega
  rw[if_neg hc];simp
theorem PP{s:List UInt8}(hs:s.length<9223372036854775808)(a r:List UInt8)(most:Nat) :
  nJ (a++(uvarint (zigzag s.length)++(s++r))) a.length 0 most=if s.length>most then ([],a.length,5)else (s,a.length+((uvarint (zigzag s.length)).length+s.length),0):=by
 unfold nJ;rw[U7,Y1 hs]
 by_cases h:s.length>most
 ·simp[h]
 ·simp[h]
theorem zhO{α:Type}{n:Nat}(h:n≤255)(x y:α):(if n>255 then x else y)=y:=if_neg (by omega)
theorem zcI{k n:Int}{s:List UInt8}(hk:Av.I64 k)(hn:Av.I64 n)(hs:s.length≤255)(a r:List UInt8):Bh (a++(AL k n s++r)) a.length 0=((k,n,s),a.length+(AL k n s).length,0):=by
 unfold Bh AL;have e1:a++(uvarint (zigzag k)++uvarint (zigzag n)++(uvarint (zigzag s.length)++s)++r)=a++(uvarint (zigzag k)++(uvarint (zigzag n)++(uvarint (zigzag s.length)++(s++r)))):=by simp
 rw[e1,Np hk];have e2:a++(uvarint (zigzag k)++(uvarint (zigzag n)++(uvarint (zigzag s.length)++(s++r))))=(a++uvarint (zigzag k))++(uvarint (zigzag n)++(uvarint (zigzag s.length)++(s++r))):=by simp
 have l2:a.length+(uvarint (zigzag k)).length=(a++uvarint (zigzag k)).length:=by simp
 simp only;rw[e2,l2,Np hn];have e3:(a++uvarint (zigzag k))++(uvarint (zigzag n)++(uvarint (zigzag s.length)++(s++r)))=(a++uvarint (zigzag k)++uvarint (zigzag n))++(uvarint (zigzag s.length)++(s++r)):=by simp
 have l3:(a++uvarint (zigzag k)).length+(uvarint (zigzag n)).length=(a++uvarint (zigzag k)++uvarint (zigzag n)).length:=by simp[iI]
 simp only;rw[e3,l3];have:=PP (s:=s) (by omega) (a++uvarint (zigzag k)++uvarint (zigzag n)) r 255;rw[show((255:Nat):Int)=255 from rfl]at this;rw[this,zhO hs];simp;omega
end Go.Av.Fn
namespace Go.Av.Fn
open Go.Proofs
theorem kK{k:Nat}{s:List UInt8}{a:Nat}{e:Int}:nbB k (rdB s a e):=by
 unfold rdB;simp only[nbS]
theorem XN{k:Nat}(c:Int×Int×List UInt8):nb k (SY c):=by
 unfold SY zK;simp only[nbS]
theorem XM{k:Nat}(a b:Int)(c:List UInt8):nb k (zK a b c):=by
 unfold zK;simp only[nbS]
theorem zbY(a b:Int)(c:List UInt8):nbs 0 [zK a b c]:=by
 simp only[tZ,XM,xZ,and_self]
theorem Ui{k n:Int}{t:List UInt8}(hk:Av.I64 k)(hn:Av.I64 n)(ht:t.length<9223372036854775808):(AL k n t).length≤t.length+30:=by
 have z1:=Lib.uvarint_length64 (Av.zigzag_u64 hk);have z2:=Lib.uvarint_length64 (Av.zigzag_u64 hn);have z3:=Lib.uvarint_length64 (Av.zigzag_u64 (n:=(t.length:Int)) (by unfold Av.I64;omega));simp only[AL,aH];omega
end Go.Av.Fn
namespace Go.Av.Fn
def pV:PR→List Tk
 | .ok _ l=>l
 | .st l=>l
def Dt:PR→Bool
 | .ok _ _=>false
 | .st _=>true
def Sfx(l:List Tk)(r:Option PR):Prop:=∀ p,r=some p→pV p <:+ l
theorem Sfx.mono{l l':List Tk}{r:Option PR}(h:Sfx l r)(hl:l <:+ l'):Sfx l' r:=fun p hp=>(h p hp).trans hl
theorem uD{l l':List Tk}{r:Option PR}{k:Ex→List Tk→Option PR}(h:Sfx l r)(hl:l <:+ l')(hk:∀ e l1,l1 <:+ l→Sfx l' (k e l1)):Sfx l' (bind1 r k):=by
 intro p hp
 rcases o9 hp with ⟨e,l1,h1,h2⟩|⟨l1,h1,rfl⟩
 ·exact hk e l1 (h _ h1) p h2
 ·exact(h _ h1).trans hl
theorem EH{l l':List Tk}{r:Option PR}{k:List Ex→List Tk→Option PR}(h:Sfx l r)(hl:l <:+ l')(hk:∀ e l1,l1 <:+ l→Sfx l' (k e l1)):Sfx l' (bindL r k):=by
 intro p hp
 rcases sO hp with ⟨e,l1,h1,h2⟩|⟨l1,h1,rfl⟩
 ·exact hk e l1 (h _ h1) p h2
 ·exact(h _ h1).trans hl
theorem uo{l l':List Tk}{es:List Ex}(h:l <:+ l'):Sfx l' (some (.ok es l)):=by
 intro p hp;cases hp;exact h
theorem VF{l l':List Tk}(h:l <:+ l'):Sfx l' (some (.st l)):=by
 intro p hp;cases hp;exact h
theorem DL{s:List UInt8}{l l':List Tk}{k:List Tk→Option PR}(hl:l <:+ l')(hk:∀ l1,l1 <:+ l→Sfx l' (k l1)):Sfx l' (mP s l k):=by
 unfold mP
 cases l with
 |nil=>intro p hp;cases hp
 |cons t r=>
  simp only
  split
  ·exact hk r (bD t r)
  ·exact VF hl
theorem TP{l l':List Tk}{k:List UInt8→List Tk→Option PR}(hl:l <:+ l')(hk:∀ s l1,l1 <:+ l→Sfx l' (k s l1)):Sfx l' (Dw l k):=by
 unfold Dw
 cases l with
 |nil=>intro p hp;cases hp
 |cons t r=>
  simp only
  split
  ·exact hk t.s r (bD t r)
  ·exact VF hl
theorem zQ:∀ (n:Nat) (r:BP) (l:List Tk),Sfx l (run n r l)
 |0,r,l=>by intro p hp;cases hp
 |n+1,r,[]=>by intro p hp;cases hp
 |n+1,r,t::l=>by
  have ih:=zQ n;have hc:l <:+ t::l:=bD t l;have hrow:∀ l',Sfx l' (Jg (run n) l'):=fun l'=>uD (ih (.ex 0) l') df fun e l1 h1=>(ih (.ro [e]) l1).mono h1
  have hunt:∀ s l',Sfx l' (xH (run n) s l'):=by
   intro s l';unfold xH
   cases l' with
   |nil=>intro p hp;cases hp
   |cons t' r' =>
    simp only
    split
    ·exact uo (bD t' r')
    ·exact EH (hrow _) df fun es l1 h1=>DL h1 fun l2 h2=>uo (h2.trans h1)
  show Sfx (t::l) (step (run n) t l r)
  cases r with
  |ex line=>
   simp only[step]
   split
   ·exact ih _ _
   ·exact uD (ih _ _) df fun e l1 h1=>(ih _ _).mono h1
  |lp line e=>
   simp only[step]
   split
   ·exact uD (ih _ _) hc fun e2 l2 h2=>(ih _ _).mono (h2.trans hc)
   ·exact uo df
  |un=>
   simp only[step]
   split
   ·exact uD (ih _ _) hc fun e l1 h1=>uo (h1.trans hc)
   ·exact uD (ih _ _) df fun e l1 h1=>(ih _ _).mono h1
  |po e=>
   simp only[step]
   split
   ·exact uD (ih _ _) hc fun e2 l2 h2=>DL (h2.trans hc) fun l3 h3=>(ih _ _).mono (h3.trans (h2.trans hc))
   ·split
    ·exact TP hc fun s l2 h2=>(ih _ _).mono (h2.trans hc)
    ·exact uo df
  |ro out=>
   simp only[step]
   split
   ·exact uD (ih _ _) hc fun e l1 h1=>(ih _ _).mono (h1.trans hc)
   ·exact uo df
  |si=>
   simp only[step,EG]
   split
   ·exact uo hc
   ·split
    ·exact uo hc
    ·split
     ·unfold QH
      cases l with
      |nil=>intro p hp;cases hp
      |cons t2 l2=>
       have hc2:l2 <:+ t::t2::l2:=(bD t2 l2).trans hc;simp only
       split
       ·exact EH (hunt _ _) hc2 fun es l3 h3=>uo (h3.trans hc2)
       ·exact uo hc
     ·split
      ·exact uo hc
      ·split
       ·exact uo hc
       ·split
        ·exact TP hc fun s l2 h2=>DL (h2.trans hc) fun l3 h3=>EH (hunt _ _) (h3.trans (h2.trans hc)) fun es l4 h4=>uo (h4.trans (h3.trans (h2.trans hc)))
        ·split
         ·exact EH (hrow _) hc fun es l2 h2=>DL (h2.trans hc) fun l3 h3=>uo (h3.trans (h2.trans hc))
         ·split
          ·exact uD (ih _ _) hc fun e l2 h2=>DL (h2.trans hc) fun l3 h3=>uo (h3.trans (h2.trans hc))
          ·exact VF df
def rdR(L:List Tk)(a:Nat)(bad:Bool):Blk:=.var 226 [.sl (L.map tkV) [] .no,it a,.val (.bool bad)]
def rdS(L l:List Tk)(bad:Bool):Blk:=rdR L (L.length-l.length) bad
theorem zbg{L l:List Tk}(h:l <:+ L):L.drop (L.length-l.length)=l:=by
 obtain⟨p,rfl⟩:=h;simp
theorem zbf{L l:List Tk}{t:Tk}(h:t::l <:+ L):L.length-(t::l).length+1=L.length-l.length:=by
 have:=h.length_le;simp only[ax]at this ⊢;omega
theorem vC{k:Nat}(t:Tk):nb k (tkV t):=by
 unfold tkV;simp only[nbS]
theorem jM{k:Nat}{L:List Tk}{a:Nat}{b:Bool}:nbB k (rdR L a b):=by
 unfold rdR;simp only[Ii,tZ,XL,xZ,Jz,NH,and_true];exact x8 (fun t=>vC t) L
mutual
theorem zy{k:Nat}:∀ e:Ex,nb k (exV e)
 | .mk a s n kids l=>by
  simp only[exV,V9,tZ,NH,zb5,XL,xZ,Jz,and_true,true_and];exact xk kids
theorem xk{k:Nat}:∀ l:List Ex,nbs k (lS l)
 |[]=>by rw[lS];exact .nil
 |e::r=>by
  rw[lS,tZ];exact⟨zy e,xk r⟩
end
theorem zey{L l:List Tk}{t:Tk}(h:t::l <:+ L):sU 5 (.sl (L.map tkV) [] .no) (it (L.length-(t::l).length:Nat))=some (.elt [it t.k,bs t.s,it t.n,it t.l,it t.a]):=by
 have hd:=zbg h
 have hg:L[L.length-(t::l).length]? = some t:=by
  have:=congrArg (fun x:List Tk=>x[0]?) hd
  simpa using this
 exact oh (e:=tkV t) (by rw[bH,hg];rfl) rfl
end Go.Av.Fn
namespace Go.Av
theorem Fz{P:Program}{Γ:jG}{f:FuncId}{args:List V}{m:Store}{rb:Nat}{X:Blk}{v:V}(hr:m rb=some X)(h:jB P Γ f args m fun o m' => ∃ v' Y,o = .ret v' ∧ m'=m.set rb Y∧(v'=v∧Y=X)):jB P Γ f args m fun o m'=>o = .ret v∧m'=m:=by
 refine h.mono ?_;rintro o m' ⟨v',Y,rfl,rfl,rfl,rfl⟩;exact⟨rfl,Store.sZ m hr⟩
end Go.Av
namespace Go.Av.Fn
open Go.Proofs
theorem zcw{L l:List Tk}{t:Tk}(h:t::l <:+ L):sU 5 (.sl (L.map tkV) [] .no) (it (L.length-(l.length+1):Nat))=some (.elt [it t.k,bs t.s,it t.n,it t.l,it t.a]):=zey h
theorem yD{L l:List Tk}{t:Tk}(h:t::l <:+ L):L.length-(l.length+1)+1=L.length-l.length:=zbf h
section
variable {Γ:jG} {m:Store} {rb:Nat} {L l:List Tk} {t:Tk} {s:List UInt8} {b:Bool}
theorem vH(hs:t::l <:+ L)(hr:m rb=some (rdS L (t::l) b)):jB Tryz.prog Γ 177 [.ptr rb 0] m fun o m'=>o = .ret (tkV t)∧m'=m:=by
 refine Fz hr (pK mixed zfS zjm jP hr jM nbY ?_);simp only[zjn,ss0,ay,ag];simp only[rdS,rdR,zcw hs,ssH,ag,ae,reduceIte,af,aj,ah,ai];exact jy (v:=tkV t) rfl ⟨vC t,_,rfl,jM (L:=L),rfl,rfl⟩
theorem zcn(hs:t::l <:+ L)(hr:m rb=some (rdS L (t::l) b)):jB Tryz.prog Γ 231 [.ptr rb 0,bs s] m fun o m'=>o = .ret (.val (.bool (!b&&isS s t)))∧m'=m:=by
 refine Fz hr (pK mixed zfv zi4 jP hr jM nbY ?_);simp only[zi5,ss0,ay,ag];simp only[ssH,ag,ae,reduceIte,af,aj,ah,ai];refine kw (b:=0) rfl rfl (fun m b' h=>vH hs h) jM nbY (vC t) ?_;simp only[tkV,rdS,rdR,ssH,ag,ae,reduceIte,af,aj,ah,ai];cases b
 ·cases h4:(t.k==4)
  ·cases h5:(t.k==5)
   ·simp only[h4,h5,ssH,ag,ae,reduceIte,af,aj,ah,ai];exact jy jD ⟨nbZ,_,rfl,jM (L:=L),by simp[jT,isS,h4,h5],rfl⟩
   ·simp only[h4,h5,ssH,ag,ae,reduceIte,af,aj,ah,ai];exact jy jD ⟨nbZ,_,rfl,jM (L:=L),by simp[jT,isS,h4,h5],rfl⟩
  ·simp only[h4,ssH,ag,ae,reduceIte,af,aj,ah,ai];exact jy jD ⟨nbZ,_,rfl,jM (L:=L),by simp[jT,isS,h4],rfl⟩
 ·simp only[ssH,ag,ae,reduceIte,af,aj,ah,ai];exact jy jD ⟨nbZ,_,rfl,jM (L:=L),by simp[jT],rfl⟩
theorem mY(hs:t::l <:+ L)(hr:m rb=some (rdS L (t::l) b))(h:(!b&&isS s t)=false):jB Tryz.prog Γ 208 [.ptr rb 0,bs s] m fun o m'=>o = .ret (.val (.bool false))∧m'=m:=by
 refine Fz hr (pK mixed YS zdE jP hr jM nbY ?_);simp only[zfB,ss0,ay,ag];simp only[ssH,ag,ae,reduceIte,af,aj,ah,ai];refine kw (b:=0) (az:=[bs s]) (v:=.val (.bool false)) rfl rfl (fun m b' hh=>by have:=zcn (Γ:=Γ) (s:=s) hs hh;rw[h]at this;exact this) jM nbY nbY ?_;simp only[ssH,ag,ae,reduceIte,af,aj,ah,ai];exact jy jD ⟨nbZ,_,rfl,jM (L:=L),rfl,rfl⟩
theorem o7(hL:L.length<4611686018427387904)(hs:t::l <:+ L)(hr:m rb=some (rdS L (t::l) false))(h:isS s t=true):jB Tryz.prog Γ 208 [.ptr rb 0,bs s] m fun o m'=>o = .ret (.val (.bool true))∧m'=m.set rb (rdS L l false):=by
 refine pg (pK mixed YS zdE jP hr jM nbY ?_);simp only[zfB,ss0,ay,ag];simp only[ssH,ag,ae,reduceIte,af,aj,ah,ai];refine kw (b:=0) (az:=[bs s]) (v:=.val (.bool true)) rfl rfl (fun m b' hh=>by have:=zcn (Γ:=Γ) (s:=s) hs hh;rw[h]at this;exact this) jM nbY nbY ?_;simp only[rdS,rdR,jQ (show L.length-(l.length+1)<4611686018427387904 by omega),yD hs,ssH,ag,ae,reduceIte,af,aj,ah,ai];exact jy jD ⟨nbZ,_,rfl,jM (L:=L),rfl,rfl⟩
theorem vI(hs:t::l <:+ L)(hr:m rb=some (rdS L (t::l) b))(h:(!b&&isS s t)=false):jB Tryz.prog Γ 210 [.ptr rb 0,bs s] m fun o m'=>o = .ret (.tup [])∧m'=m.set rb (rdS L (t::l) true):=by
 refine pg (pK mixed YR zdD jP hr jM nbY ?_);simp only[zfz,ss0,ay,ag];simp only[ssH,ag,ae,reduceIte,af,aj,ah,ai];refine kw (b:=0) (az:=[bs s]) (v:=.val (.bool false)) rfl rfl (fun m b' hh=>mY hs hh h) jM nbY nbY ?_;simp only[rdS,rdR,ssH,ag,ae,reduceIte,af,aj,ah,ai];exact IQ rfl ⟨nbY,_,rfl,jM (L:=L),rfl,rfl⟩
theorem EX(hL:L.length<4611686018427387904)(hs:t::l <:+ L)(hr:m rb=some (rdS L (t::l) false))(h:isS s t=true):jB Tryz.prog Γ 210 [.ptr rb 0,bs s] m fun o m'=>o = .ret (.tup [])∧m'=m.set rb (rdS L l false):=by
 refine pg (pK mixed YR zdD jP hr jM nbY ?_);simp only[zfz,ss0,ay,ag];simp only[ssH,ag,ae,reduceIte,af,aj,ah,ai];refine jO (b:=0) (az:=[bs s]) (v:=.val (.bool true)) rfl rfl (fun m b' hh=>o7 hL hs hh h) jM jM nbY nbY ?_;simp only[ssH,ag,ae,reduceIte,af,aj,ah,ai];exact IQ rfl ⟨nbY,_,rfl,jM (L:=L),rfl,rfl⟩
theorem Qb(hL:L.length<4611686018427387904)(hs:t::l <:+ L)(hr:m rb=some (rdS L (t::l) false))(h:t.k=1):jB Tryz.prog Γ 211 [.ptr rb 0] m fun o m'=>o = .ret (bs t.s)∧m'=m.set rb (rdS L l false):=by
 refine pg (pK mixed YQ zdC jP hr jM nbY ?_);simp only[zfy,ss0,ay,ag];simp only[ssH,ag,ae,reduceIte,af,aj,ah,ai];refine kw (b:=0) rfl rfl (fun m b' hh=>vH hs hh) jM nbY (vC t) ?_;simp only[tkV,rdS,rdR,h,jQ (show L.length-(l.length+1)<4611686018427387904 by omega),yD hs,ssH,ag,ae,reduceIte,af,aj,ah,ai];exact jy jD ⟨nbZ,_,rfl,jM (L:=L),rfl,rfl⟩
theorem UE(hs:t::l <:+ L)(hr:m rb=some (rdS L (t::l) b))(h:b=true∨t.k≠1):jB Tryz.prog Γ 211 [.ptr rb 0] m fun o m'=>o = .ret (bs [])∧m'=m.set rb (rdS L (t::l) true):=by
 refine pg (pK mixed YQ zdC jP hr jM nbY ?_);simp only[zfy,ss0,ay,ag];simp only[ssH,ag,ae,reduceIte,af,aj,ah,ai];refine kw (b:=0) rfl rfl (fun m b' hh=>vH hs hh) jM nbY (vC t) ?_;cases b
 ·have hk:(t.k != 1)=true:=by
   rcases h with h|h
   ·cases h
   ·simpa using h
  simp only[tkV,rdS,rdR,hk,ssH,ag,ae,reduceIte,af,aj,ah,ai];exact jy jD ⟨nbZ,_,rfl,jM (L:=L),rfl,rfl⟩
 ·simp only[tkV,rdS,rdR,ssH,ag,ae,reduceIte,af,aj,ah,ai];exact jy jD ⟨nbZ,_,rfl,jM (L:=L),rfl,rfl⟩
end
end Go.Av.Fn
namespace Go.Av
mutual
theorem VR.wk{R:Ren}:∀ {v v':V},VR R v v'→VR R (weak v) (weak v')
 |_,_,.val v=>.val v
 |_,_,.ptr o r=>.ptr o r
 |_,_,.elt r=>.elt r
 |_,_,.sl a b c=>by
  simp only[Av.weak];exact .sl (LR.wk a) (LR.wk b) trivial
 |_,_,.fn h a b=>.fn h a b
 |_,_,.ifc r=>.ifc r
 |_,_,.agg r=>by
  simp only[Av.weak];exact .agg (LR.wk r)
 |_,_,.tup r=>by
  simp only[Av.weak];exact .tup (LR.wk r)
 |_,_,.arr o l c r=>.arr o l c r
 |_,_,.res v z n r=>.res v z n r
theorem LR.wk{R:Ren}:∀ {v v':List V},LR R v v'→LR R (kW v) (kW v')
 |_,_,.nil=>.nil
 |_,_,.cons a b=>.cons (VR.wk a) (LR.wk b)
end
section
variable {P:Program} {Γ:jG} {H:Nat→List (Nat×List Nat)×List Nat} {f:FuncId} {F:AFn} {gs:List Nat} {m:Store}
theorem BO(hm:P.follows .mixedOrders=true)(hF:qO P H f=some F)(hok:F.body.okH gs=true)(hG:GOk Γ gs){rb o:Nat}{az:List V}{X:Blk}(hb:m rb=some X)(hX:nbB 0 X)(ha:nbs 0 az){Q:V→Blk→Prop}
  (h:qB P Γ (fun _ _=>False) 1 F.body (uU F.res fun v h'=>nb 0 (weak v)∧∃ Y,lk h' 0=some Y∧nbB 0 Y∧Q (weak v) Y) ⟨start F.ntmps (.ptr 0 o::az),[some X]⟩) :
  jB P Γ f (.ptr rb o::az) m fun o m'=>∃ v Y,o = .ret v∧m'=m.set rb Y∧Q v Y:=by
 have h1:=uh (P:=P) (Γ:=Γ) (R0:=fun a c=>a=0∧c=rb) (N:=1) (m:=one rb X) hm hF hok hG (args0:=.ptr 0 o::az) (args:=.ptr rb o::az) (.cons (.ptr o ⟨rfl,rfl⟩) (ha.up _)) (Sl hX) (fun _ _ q=>by omega) (Q:=fun o h'=>match o with | .ret v=>nb 0 (weak v)∧∃ Y,lk h' 0=some Y∧nbB 0 Y∧Q (weak v) Y | .pan _=>False) h;have h2:=h1.frame (Ia rb X (m:=m));rw[Lm hb]at h2;refine jB.weak (R:=fun o m'=>∃ v Y,o = .ret v∧m'=m.set rb Y∧Q (weak v) Y) (jB.less h2 ?_) ?_ ?_
 ·rintro o m'' ⟨m',rfl,d,S,o0,h',s1,s2,s3,s4⟩
  cases o0 with
  |pan v=>exact s4.elim
  |ret v=>
   cases o with
   |pan v'=>exact s3.elim
   |ret v' =>
    obtain⟨q1,Y,q2,q3,q4⟩:=s4;obtain⟨Y',g1,g2⟩:=s2.blk _ _ _ (s1 _ _ ⟨rfl,rfl⟩) q2;obtain rfl:=Gp q3 g2;have e3:weak v'=weak v:=D7 q1 (VR.wk s3);refine⟨m.set rb Y',?_,v',Y',rfl,rfl,by rw[e3];exact q4⟩;intro b x hx
    by_cases e:b=rb
    ·subst e;rw[Store.jv]at hx;cases hx;simp only[Store.or,g1]
    ·rw[Store.jw _ _ e]at hx
     rcases d b with q|q
     ·simp only[Store.or,q,del,if_neg e];exact hx
     ·simp only[del,if_neg e]at q;rw[q]at hx;cases hx
 ·rintro v m' ⟨v',Y,e,e2,q⟩;cases e;exact⟨_,Y,rfl,e2,q⟩
 ·rintro v m' ⟨v',Y,e,_⟩;cases e
end
end Go.Av
namespace Go.Av.Fn
open Go.Proofs
def OV:List (List (List UInt8)):=[[[124,124]],[[38,38]],[[61,61],[33,61]],[[60],[60,61],[62],[62,61]],[[43],[45]],[[42],[47],[37]]]
def Cm(r:List (List UInt8)):V:=.sl (r.map bs) [] .full
def OU:V:=.sl (OV.map Cm) [] .full
theorem Y2{i k:Nat}{r:List (List UInt8)}{x:List UInt8}(hr:OV[i]? = some r)(hx:r[k]? = some x):level x=i:=by
 have hi:i<6:=(List.getElem?_eq_some_iff.1 hr).1;have:i=0∨i=1∨i=2∨i=3∨i=4∨i=5:=by omega
 have hm:=bI hx
 rcases this with rfl|rfl|rfl|rfl|rfl|rfl<;>cases hr<;>simp only[dQ,dm,or_false]at hm
 ·subst hm;rfl
 ·subst hm;rfl
 ·rcases hm with rfl|rfl<;>rfl
 ·rcases hm with rfl|rfl|rfl|rfl<;>rfl
 ·rcases hm with rfl|rfl<;>rfl
 ·rcases hm with rfl|rfl|rfl<;>rfl
theorem za5{s:List UInt8}(h:∀ r∈OV,s∉r):level s = -1:=by
 simp only[OV,dQ,dm,or_false,forall_eq_or_imp,forall_eq,not_or]at h;obtain⟨h0,h1,⟨h2,h3⟩,⟨h4,h5,h6,h7⟩,⟨h8,h9⟩,h10,h11,h12⟩:=h;simp[level,h0,h1,h2,h3,h4,h5,h6,h7,h8,h9,h10,h11,h12]
theorem RF{k:Nat}:nb k OU:=by
 unfold OU OV;simp only[aZ,Cm,nbS]
theorem zdY:∀ i:Nat,i<6→∃ r,OV[i]? = some r∧r.length≤4:=by
 intro i hi;have:i=0∨i=1∨i=2∨i=3∨i=4∨i=5:=by omega
 rcases this with rfl|rfl|rfl|rfl|rfl|rfl<;>exact⟨_,rfl,by decide⟩
theorem X9{i:Nat}{r:List (List UInt8)}(h:OV[i]? = some r):sU 1 (.sl (OV.map Cm) [] .full) (it i)=some (.elt [Cm r]):=oh (e:=Cm r) (by rw[bH,h];rfl) rfl
theorem zez{r:List (List UInt8)}{k:Nat}{x:List UInt8}(h:r[k]? = some x):sU 1 (.sl (r.map bs) [] .full) (it k)=some (.elt [bs x]):=oh (e:=bs x) (by rw[bH,h];rfl) rfl
theorem zcm{Γ:jG}{m:Store}{s:List UInt8}:jB Tryz.prog Γ 190 [bs s] m fun o m'=>o = .ret (it (level s))∧m'=m:=by
 refine jY (jZ mixed zfK zje jP nbY ?_);simp only[zjf,ss0,ay,ag];have e7:∀ {t:List V} {m:Store},jJ Tryz.prog (ev Γ t) m (.lits 1 [V.val (Value.string (ByteArray.mk #[]))] 1 [(0,.const (.string (ByteArray.mk #[124,124])))])=some (Cm [[124,124]]):=fun {t m}=>rfl;have e8:∀ {t:List V} {m:Store},jJ Tryz.prog (ev Γ t) m (.lits 1 [V.val (Value.string (ByteArray.mk #[]))] 1 [(0,.const (.string (ByteArray.mk #[38,38])))])=some (Cm [[38,38]]):=fun {t m}=>rfl;have e9:∀ {t:List V} {m:Store},jJ Tryz.prog (ev Γ t) m (.lits 1 [V.val (Value.string (ByteArray.mk #[]))] 2 [(0,.const (.string (ByteArray.mk #[61,61]))),(1,.const (.string (ByteArray.mk #[33,61])))])=some (Cm [[61,61],[33,61]]):=fun {t m}=>rfl;have e10:∀ {t:List V} {m:Store},jJ Tryz.prog (ev Γ t) m (.lits 1 [V.val (Value.string (ByteArray.mk #[]))] 4 [(0,.const (.string (ByteArray.mk #[60]))),(1,.const (.string (ByteArray.mk #[60,61]))),(2,.const (.string (ByteArray.mk #[62]))),(3,.const (.string (ByteArray.mk #[62,61])))])=some (Cm [[60],[60,61],[62],[62,61]]):=fun {t m}=>rfl;have e11:∀ {t:List V} {m:Store},jJ Tryz.prog (ev Γ t) m (.lits 1 [V.val (Value.string (ByteArray.mk #[]))] 2 [(0,.const (.string (ByteArray.mk #[43]))),(1,.const (.string (ByteArray.mk #[45])))])=some (Cm [[43],[45]]):=fun {t m}=>rfl;have e12:∀ {t:List V} {m:Store},jJ Tryz.prog (ev Γ t) m (.lits 1 [V.val (Value.string (ByteArray.mk #[]))] 3 [(0,.const (.string (ByteArray.mk #[42]))),(1,.const (.string (ByteArray.mk #[47]))),(2,.const (.string (ByteArray.mk #[37])))])=some (Cm [[42],[47],[37]]):=fun {t m}=>rfl
 have e13:∀ {t:List V} {m:Store},jT t 6=Cm [[124,124]]→jT t 7=Cm [[38,38]]→jT t 8=Cm [[61,61],[33,61]]→jT t 9=Cm [[60],[60,61],[62],[62,61]]→jT t 10=Cm [[43],[45]]→jT t 11=Cm [[42],[47],[37]]→jJ Tryz.prog (ev Γ t) m (.lits 1 [V.sl [] [] Tok.full] 6 [(0,.tmp 6),(1,.tmp 7),(2,.tmp 8),(3,.tmp 9),(4,.tmp 10),(5,.tmp 11)])=some OU:=by
  intro t m h6 h7 h8 h9 h10 h11;show(pI 1 [V.sl [] [] Tok.full,V.sl [] [] Tok.full,V.sl [] [] Tok.full,V.sl [] [] Tok.full,V.sl [] [] Tok.full,V.sl [] [] Tok.full] [(0,ev Γ t (.tmp 6)),(1,ev Γ t (.tmp 7)),(2,ev Γ t (.tmp 8)),(3,ev Γ t (.tmp 9)),(4,ev Γ t (.tmp 10)),(5,ev Γ t (.tmp 11))]).map (fun es=>V.sl es [] .full)=_;simp only[rV];rw[h6,h7,h8,h9,h10,h11];rfl
 simp only[e7,e8,e9,e10,e11,e12,ssH,ag,ae,reduceIte,af,aj,ah,ai];rw[e13 rfl rfl rfl rfl rfl rfl];simp only[ssH,ag,ae,reduceIte,af,aj,ah,ai];clear e7 e8 e9 e10 e11 e12 e13;refine mi [0,3,4] 38 (fun n vs h=>∃ i:Nat,vs=[bs s,OU,it i]∧i+n=7∧i≤6∧∀ r∈OV.take i,s∉r) 7 (by decide) (by decide) (aJ 0) (jW rfl (aY _) (by decide) (by simp) (by simp only[aZ,jH,jI,RF,nbS]) (fun a ha=>by omega) ⟨0,rfl,rfl,by omega,by simp⟩) ?_;rintro n t h J hJ hl ⟨i,hv,hn,hi,hs⟩;simp only[aZ,aP,and_true]at hv;obtain⟨h0,h3,h4⟩:=hv;have hlen:OV.length=6:=rfl;rw[mJ hl];simp only[jV,upTo,h0,h3,h4,ssH,ag,ae,reduceIte,af,aj,ah,ai];simp only[OU,aK,hlen,ssH,ag,ae,reduceIte,af,aj,ah,ai]
 by_cases h6:i<6
 ·obtain⟨r,hr,hr4⟩:=zdY i h6;rw[show decide ((i:Int)<((6:Nat):Int))=true by simp;omega];simp only[ssH,ag,ae,reduceIte,af,aj,ah,ai];refine mi [0,3,4,5] 38 (fun n vs h=>∃ k:Nat,vs=[bs s,OU,it i,it k]∧k+n=5∧k≤r.length∧s∉r.take k) 5 (by decide) (by decide) (aJ 0) (jW rfl (aY _) (by decide) (by simp) (by show nbs 0 [bs s,OU,it i,it 0];simp only[RF,nbS]) (fun a ha=>by omega) ⟨0,rfl,rfl,by omega,by simp⟩) ?_;rintro n2 t2 h2 J2 hJ2 hl2 ⟨k,hv,hn2,hk,hs2⟩;simp only[aZ,aP,and_true]at hv;obtain⟨h0,h3,h4,h5⟩:=hv;rw[mJ hl2];simp only[jV,upTo,h0,h3,h4,h5,OU,X9 hr,Cm,aK,ssH,ag,ae,reduceIte,af,aj,ah,ai]
  by_cases hkr:k<r.length
  ·have hx:r[k]? = some r[k]:=aI hkr;generalize r[k]=x at hx;rw[show decide ((k:Int)<(r.length:Int))=true by simp;omega];simp only[X9 hr,Cm,zez hx,ssH,ag,ae,reduceIte,af,aj,ah,ai];cases he:(x==s)
   ·simp only[jQ (show k<4611686018427387904 by omega),ssH,ag,ae,reduceIte,af,aj,ah,ai];refine⟨_,hJ2 (n2-1) (aJ 0) _ (by omega) (jW rfl (aY _) (by decide) (by simp) (by show nbs 0 [bs s,OU,it i,it (k+1:Nat)];simp only[RF,nbS]) (fun a ha=>by omega) ⟨k+1,rfl,by omega,by omega,?_⟩)⟩;rw[aW,hx];intro hm
    rcases List.mem_append.1 hm with hm|hm
    ·exact hs2 hm
    ·simp only[fQ,cO]at hm;subst hm;simp at he
   ·simp only[ssH,ag,ae,reduceIte,af,aj,ah,ai];have e:x=s:=by simpa using he
    exact jy jD ⟨nbZ,by rw[←e,Y2 hr hx];rfl⟩
  ·rw[show decide ((k:Int)<(r.length:Int))=false by simp;omega];simp only[jQ (show i<4611686018427387904 by omega),ssH,ag,ae,reduceIte,af,aj,ah,ai];refine⟨_,hJ (n-1) (aJ 0) _ (by omega) (jW rfl (aY _) (by decide) (by simp) (by show nbs 0 [bs s,OU,it (i+1:Nat)];simp only[RF,nbS]) (fun a ha=>by omega) ⟨i+1,rfl,by omega,by omega,?_⟩)⟩;rw[aW,hr];intro q hq
   rcases List.mem_append.1 hq with hq|hq
   ·exact hs q hq
   ·simp only[fQ,cO]at hq;have:k=r.length:=by omega
    subst this;rw[hq]
    simpa using hs2
 ·rw[show decide ((i:Int)<((6:Nat):Int))=false by simp;omega];simp only[ssH,ag,ae,reduceIte,af,aj,ah,ai];have:i=6:=by omega
  subst this;exact jy jD ⟨nbZ,by rw[za5 hs];rfl⟩
end Go.Av.Fn
namespace Go.Av.Fn
open Go.Proofs
def WX:Ex→List V→Prop
 | .mk k s nn kids ln,cs=>∃ vs tok,cs=[it k,bs s,it nn,.sl vs [] tok,it ln]∧kW vs=lS kids∧nbs 0 vs∧nbT 0 tok
theorem Ja:∀ g:Ex,WX g (exV g).cells
 | .mk k s nn kids ln=>⟨lS kids,.no,rfl,lG kids,xk kids,by rw[Jz];trivial⟩
theorem zdJ{g:Ex}{cs:List V}(h:WX g cs):weak (.agg cs)=exV g:=by
 obtain⟨k,s,nn,kids,ln⟩:=g;obtain⟨vs,tok,rfl,hv,_,_⟩:=h;simp only[weak,kW,exV,hv,bs]
theorem zkx{g:Ex}{cs:List V}(h:WX g cs):nbs 0 cs:=by
 obtain⟨k,s,nn,kids,ln⟩:=g;obtain⟨vs,tok,rfl,hv,h1,h2⟩:=h;simp only[nbS];exact⟨h1,h2⟩
theorem zhI{k:Nat}{g:Ex}{cs:List V}(h:WX g cs):nbs k cs:=NG (zkx h)
def zX:List V:=[.val (.int .i64 0),.val (.string ⟨#[]⟩),.val (.int .i64 0),.sl [] [] .full,.val (.int .i64 0)]
theorem zkG{k:Nat}:nbs k zX:=by
 unfold zX;simp only[nbS]
theorem zei{k:Nat}{A B C:Blk}{r:Hl}(hA:nbB k A)(hB:nbB k B)(hC:nbB k C):∀ a<3,∀ x,lk (some A::some B::some C::r) a=some x→nbB k x:=by
 intro a ha x hx;have:a=0∨a=1∨a=2:=by omega
 rcases this with rfl|rfl|rfl<;>cases hx<;>assumption
theorem RI{k:Nat}{T:TypeId}{g:Ex}{cs:List V}(h:WX g cs):nbB k (.var T cs):=by
 rw[Ii];exact zhI h
theorem JB{k:Nat}{T:TypeId}:nbB k (.var T zX):=by
 rw[Ii];exact zkG
def KQ(L:List Tk)(p:PR)(v:V)(Y:Blk):Prop:=∃ g:Ex,v=exV g∧Y=rdS L (pV p) (Dt p)∧∀ e l,p = .ok [e] l→g=e
theorem Ir{L:List Tk}{p:PR}:∀ v Y,KQ L p v Y→nb 0 v∧nbB 0 Y:=by
 rintro v Y ⟨g,rfl,rfl,_⟩;exact⟨zy g,jM⟩
def KEx(Γ:jG)(L:List Tk)(n:Nat):Prop:=∀ (line:Nat) (l:List Tk) (p:PR) (m:Store) (rb:Nat),line≤6→l <:+ L→Sgl p→m rb=some (rdS L l false)→run n (.ex line) l=some p →
 jB Tryz.prog Γ 176 [.ptr rb 0,it line] m fun o m'=>∃ v Y,o = .ret v∧m'=m.set rb Y∧KQ L p v Y
def KUn(Γ:jG)(L:List Tk)(n:Nat):Prop:=∀ (l:List Tk) (p:PR) (m:Store) (rb:Nat),l <:+ L→Sgl p→m rb=some (rdS L l false)→run n .un l=some p →
 jB Tryz.prog Γ 189 [.ptr rb 0] m fun o m'=>∃ v Y,o = .ret v∧m'=m.set rb Y∧KQ L p v Y
def KSi(Γ:jG)(L:List Tk)(n:Nat):Prop:=∀ (l:List Tk) (p:PR) (m:Store) (rb:Nat),l <:+ L→Sgl p→m rb=some (rdS L l false)→run n .si l=some p →
 jB Tryz.prog Γ 209 [.ptr rb 0] m fun o m'=>∃ v Y,o = .ret v∧m'=m.set rb Y∧KQ L p v Y
theorem uA{r:Option PR}{k:Ex→List Tk→Option PR}{p:PR}(h:bind1 r k=some p):∃ p1,r=some p1∧Sgl p1∧∀ g,(∀ e l,p1 = .ok [e] l→g=e)→(Dt p1=true∧p = .st (pV p1)∨Dt p1=false∧k g (pV p1)=some p):=by
 rcases o9 h with ⟨e1,l1,k1,k2⟩|⟨l1,k1,rfl⟩
 ·exact⟨_,k1,⟨e1,rfl⟩,fun g hq=>.inr ⟨rfl,by rw[hq _ _ rfl];exact k2⟩⟩
 ·exact⟨_,k1,trivial,fun g hq=>.inl ⟨rfl,rfl⟩⟩
theorem xM{L:List Tk}{p:PR}{g:Ex}{t:List V}{h:Hl}{cs:List V}{i:Nat}(hw:WX g cs)(ht:resV [.cell i (some 5)] ⟨t,lk h⟩=some (.agg cs))(h0:lk h 0=some (rdS L (pV p) (Dt p)))(hq:∀ e l,p = .ok [e] l→g=e) :
  uU [oZ.cell i (some 5)] (fun v h'=>nb 0 (weak v)∧∃ Y,lk h' 0=some Y∧nbB 0 Y∧KQ L p (weak v) Y) .ret ⟨t,h⟩:=by
 have e:=zdJ hw;exact jy ht ⟨by rw[e];exact zy g,_,h0,jM,g,e,rfl,hq⟩
theorem zcp{Γ:jG}{L:List Tk}{n:Nat}(hL:L.length<4611686018427387904)(h:∀ k<n,KEx Γ L k∧KUn Γ L k):KEx Γ L n:=by
 intro line l p m rb hl hs hp1 hr hp;obtain⟨j,t,l',rfl,rfl,hg⟩:=oz hp;clear hp;simp only[step]at hg;refine BO mixed zfT zjo jP hr jM nbY ?_;simp only[zjq,ss0,ay,ag];simp only[ssH,ag,ae,reduceIte,af,aj,ah,ai]
 by_cases h6:line=6
 ·subst h6;rw[if_pos rfl]at hg;rw[show(((6:Nat):Int)==6)=true from rfl];simp only[ssH,ag,ae,reduceIte,af,aj,ah,ai];refine lZ (b:=0) (az:=[]) rfl rfl (fun m b' hh=>(h j (by omega)).2 _ p m b' hs hp1 hh hg) jM nbY Ir ?_;rintro v Y ⟨⟨k,s,nn,kids,ln⟩,rfl,rfl,hq⟩;simp only[exV,ssH,ag,ae,reduceIte,af,aj,ah,ai];exact xM (Ja (.mk k s nn kids ln)) rfl rfl hq
 ·rw[if_neg h6]at hg;rw[show((line:Int)==6)=false by simp;omega];simp only[jQ (show line<4611686018427387904 by omega),ssH,ag,ae,reduceIte,af,aj,ah,ai];obtain⟨p1,k1,hs1,hf⟩:=uA hg;refine lZ (b:=0) (az:=[it (line+1:Nat)]) rfl rfl (fun m b' hh=>(h j (by omega)).1 (line+1) _ p1 m b' (by omega) hs hs1 hh k1) jM nbY Ir ?_;rintro v Y ⟨⟨k,s,nn,kids,ln⟩,rfl,rfl,hq⟩;have hf:=hf _ hq;have hsx:pV p1 <:+ L:=(zQ j _ _ _ k1).trans hs;simp only[exV,ssH,ag,ae,reduceIte,af,aj,ah,ai];refine mi [0,1,4,5] 55 (fun n vs h=>∃ g l1 b cs,vs=[.ptr 0 0,it line,.ptr 1 0,.ptr 2 0]∧h=[some (rdS L l1 b),some (.var 206 zX),some (.var 206 cs)]∧WX g cs∧l1 <:+ L∧n≤j∧(b=true∧p = .st l1∨b=false∧run n (.lp line g) l1=some p)) j (by decide) (by decide) (aJ 3) (jW rfl (by decide) (by decide) (by simp) (by show nbs 3 [.ptr 0 0,it line,.ptr 1 0,.ptr 2 0];simp only[nbS];decide) (zei jM JB (RI (Ja (.mk k s nn kids ln)))) ⟨.mk k s nn kids ln,pV p1,Dt p1,_,rfl,rfl,Ja _,hsx,aY _,hf⟩) ?_
  ·rintro n tt hh J hJ hl2 ⟨⟨k,s,nn,kids,ln⟩,l1,b,cs,hv,rfl,hw,hsx,hn,hc⟩;have hwk:=hw;obtain⟨vs,tok,rfl,hw1,hw2,hw3⟩:=hw;simp only[aZ,aP,and_true]at hv;obtain⟨h0,h1,h4,h5⟩:=hv;rw[mJ hl2];simp only[jV,upTo,h0,h1,h4,h5,rdS,rdR,ssH,ag,ae,reduceIte,af,aj,ah,ai]
   rcases hc with ⟨rfl,rfl⟩|⟨rfl,hc⟩
   ·simp only[zX,ssH,ag,ae,reduceIte,af,aj,ah,ai];exact xM hwk rfl rfl (by rintro e l ⟨⟩)
   ·obtain⟨i,tk,l2,rfl,rfl,hg2⟩:=oz hc;clear hc;simp only[step]at hg2;simp only[ssH,ag,ae,reduceIte,af,aj,ah,ai];refine kw (b:=0) (az:=[]) rfl rfl (fun m b' hh=>vH hsx hh) jM nbY (vC tk) ?_;simp only[tkV,ssH,ag,ae,reduceIte,af,aj,ah,ai];cases hk:(tk.k==4)
    ·simp only[hk,dK,aF,if_false,au]at hg2;subst hg2;simp only[zX,ssH,ag,ae,reduceIte,af,aj,ah,ai];exact xM hwk rfl rfl (by rintro e l ⟨⟩;rfl)
    ·simp only[ssH,ag,ae,reduceIte,af,aj,ah,ai];refine kw (b:=0) (az:=[]) rfl rfl (fun m b' hh=>vH hsx hh) jM nbY (vC tk) ?_;simp only[tkV,ssH,ag,ae,reduceIte,af,aj,ah,ai];refine jC (v:=it (level tk.s)) (by exact fun m=>zcm) nbY nbY ?_;simp only[ssH,ag,ae,reduceIte,af,aj,ah,ai];cases hlv:(level tk.s==(line:Int))
     ·simp only[hk,hlv,dL,aF,if_false,au]at hg2;subst hg2;simp only[zX,ssH,ag,ae,reduceIte,af,aj,ah,ai];exact xM hwk rfl rfl (by rintro e l ⟨⟩;rfl)
     ·simp only[hk,hlv,Bool.and_self,if_true]at hg2;simp only[ssH,ag,ae,reduceIte,af,aj,ah,ai];refine kw (b:=0) (az:=[]) rfl rfl (fun m b' hh=>vH hsx hh) jM nbY (vC tk) ?_;simp only[tkV,jQ (show L.length-(l2.length+1)<4611686018427387904 by omega),jQ (show line<4611686018427387904 by omega),yD hsx,ssH,ag,ae,reduceIte,af,aj,ah,ai];obtain⟨p2,k2,hs2,hf2⟩:=uA hg2;have hsx2:l2 <:+ L:=(bD tk l2).trans hsx;have hsx3:pV p2 <:+ L:=(zQ i _ _ _ k2).trans hsx2;refine lZ (b:=0) (az:=[it (line+1:Nat)]) rfl rfl (fun m b' hh=>(h i (by omega)).1 (line+1) l2 p2 m b' (by omega) hsx2 hs2 hh k2) (jM (L:=L)) nbY Ir ?_;rintro v Y ⟨e2,rfl,rfl,hq2⟩;have hf2:=hf2 _ hq2;simp only[Io,EW (v:=.agg [it k,bs s,it nn,.sl vs [] tok,it ln]) (u:=exV e2) rfl (o8 e2),zX,ssH,ag,ae,reduceIte,af,aj,ah,ai];refine⟨_,hJ i (aJ 3) _ (by omega) (jW rfl (by decide) (by decide) (by simp) (by show nbs 3 [.ptr 0 0,it line,.ptr 1 0,.ptr 2 0];simp only[nbS];decide) (zei jM JB (RI (g:=.mk 7 tk.s 0 [.mk k s nn kids ln,e2] ln) ?_)) ⟨.mk 7 tk.s 0 [.mk k s nn kids ln,e2] ln,pV p2,Dt p2,_,rfl,rfl,?_,hsx3,by omega,hf2⟩)⟩
      all_goals
       refine⟨[.agg [it k,bs s,it nn,.sl vs [] tok,it ln],exV e2],.full,rfl,?_,?_,by rw[A8];trivial⟩
       ·simp only[kW,weak,lS,exV,hw1,uY,bs]
       ·simp only[nbS];exact⟨⟨hw2,hw3⟩,zy e2⟩
def Ne(r:Option PR):Prop:=∀ l1,r=some (.st l1)→l1≠[]
theorem xh{r:Option PR}{k:Ex→List Tk→Option PR}(h:Ne r)(hk:∀ e l1,Ne (k e l1)):Ne (bind1 r k):=by
 intro l hp
 rcases o9 hp with ⟨e,l1,h1,h2⟩|⟨l1,h1,h2⟩
 ·exact hk e l1 _ h2
 ·cases h2;exact h _ h1
theorem Ih{r:Option PR}{k:List Ex→List Tk→Option PR}(h:Ne r)(hk:∀ e l1,Ne (k e l1)):Ne (bindL r k):=by
 intro l hp
 rcases sO hp with ⟨e,l1,h1,h2⟩|⟨l1,h1,h2⟩
 ·exact hk e l1 _ h2
 ·cases h2;exact h _ h1
theorem zx{es:List Ex}{l:List Tk}:Ne (some (.ok es l)):=fun _ h=>by cases h
theorem Ig{s:List UInt8}{l:List Tk}{k:List Tk→Option PR}(hk:∀ l1,Ne (k l1)):Ne (mP s l k):=by
 unfold mP
 cases l with
 |nil=>intro p hp;cases hp
 |cons t r=>
  simp only
  split
  ·exact hk r
  ·rintro l1 ⟨⟩ ⟨⟩
theorem XJ{l:List Tk}{k:List UInt8→List Tk→Option PR}(hk:∀ s l1,Ne (k s l1)):Ne (Dw l k):=by
 unfold Dw
 cases l with
 |nil=>intro p hp;cases hp
 |cons t r=>
  simp only
  split
  ·exact hk _ r
  ·rintro l1 ⟨⟩ ⟨⟩
theorem VI:∀ (n:Nat) (r:BP) (l:List Tk),Ne (run n r l)
 |0,r,l=>by intro p hp;cases hp
 |n+1,r,[]=>by intro p hp;cases hp
 |n+1,r,t::l=>by
  have ih:=VI n;have hrow:∀ l',Ne (Jg (run n) l'):=fun l'=>xh (ih (.ex 0) l') fun e l1=>ih (.ro [e]) l1
  have hunt:∀ s l',Ne (xH (run n) s l'):=by
   intro s l';unfold xH
   cases l' with
   |nil=>intro p hp;cases hp
   |cons t' r' =>
    simp only
    split
    ·exact zx
    ·exact Ih (hrow _) fun es l1=>Ig fun l2=>zx
  show Ne (step (run n) t l r)
  cases r with
  |ex line=>
   simp only[step]
   split
   ·exact ih _ _
   ·exact xh (ih _ _) fun e l1=>ih _ _
  |lp line e=>
   simp only[step]
   split
   ·exact xh (ih _ _) fun e2 l2=>ih _ _
   ·exact zx
  |un=>
   simp only[step]
   split
   ·exact xh (ih _ _) fun e l1=>zx
   ·exact xh (ih _ _) fun e l1=>ih _ _
  |po e=>
   simp only[step]
   split
   ·exact xh (ih _ _) fun e2 l2=>Ig fun l3=>ih _ _
   ·split
    ·exact XJ fun s l2=>ih _ _
    ·exact zx
  |ro out=>
   simp only[step]
   split
   ·exact xh (ih _ _) fun e l1=>ih _ _
   ·exact zx
  |si=>
   simp only[step,EG]
   split
   ·exact zx
   ·split
    ·exact zx
    ·split
     ·unfold QH
      cases l with
      |nil=>intro p hp;cases hp
      |cons t2 l2=>
       simp only
       split
       ·exact Ih (hunt _ _) fun es l3=>zx
       ·exact zx
     ·split
      ·exact zx
      ·split
       ·exact zx
       ·split
        ·exact XJ fun s l2=>Ig fun l3=>Ih (hunt _ _) fun es l4=>zx
        ·split
         ·exact Ih (hrow _) fun es l2=>Ig fun l3=>zx
         ·split
          ·exact xh (ih _ _) fun e l2=>Ig fun l3=>zx
          ·rintro l1 ⟨⟩ ⟨⟩
def KL(L:List Tk)(p:PR)(v:V)(Y:Blk):Prop:=∃ gs:List Ex,v = .sl (lS gs) [] .no∧Y=rdS L (pV p) (Dt p)∧∀ es l,p = .ok es l→gs=es
theorem UD{L:List Tk}{p:PR}:∀ v Y,KL L p v Y→nb 0 v∧nbB 0 Y:=by
 rintro v Y ⟨g,rfl,rfl,_⟩;refine⟨?_,jM⟩;simp only[nbS];exact xk g
def Bf(out:List Ex)(tok:Tok)(r:Hl):Prop:=tok = .full∧out=[]∧r=[]∨∃ k,tok = .tip 1 k∧out≠[]∧r=[some (.tip 206 k)]
theorem WZ{X:Blk}{out:List Ex}{tok:Tok}{r:Hl}(h:Bf out tok r)(hX:∀ k,nbB k X):∀ a<1+r.length,∀ x,lk (some X::r) a=some x→nbB (1+r.length) x:=by
 intro a ha x hx
 rcases h with ⟨rfl,rfl,rfl⟩|⟨k,rfl,_,rfl⟩
 ·have:a=0:=by simp at ha;omega
  subst this;cases hx;exact hX _
 ·have:a=0∨a=1:=by simp at ha;omega
  rcases this with rfl|rfl
  ·cases hx;exact hX _
  ·cases hx;simp only[nbS]
theorem zh5{P:Program}{Γ:jG}{Kp:V→Hl→Prop}{s:List (Tmp×Option (Tmp×Bool)×AOp)}{l:List Item}{K:HS→Prop}{t:List V}{d:Option Tmp}{X:Blk}{out:List Ex}{tok:Tok}{r:Hl}{e:Ex}(h:Bf out tok r)(hb:out.length≤1099511627776)
  (hr:∀ k,hth P Γ Kp s l K (hput t [some X,some (.tip 206 k)] d (some (.sl (lS (out++[e])) [] (.tip 1 k))))):sV P Γ Kp 206 64 5 (.sl (lS out) [] tok) (.sl [exV e] [] .full) d s l K t (some X::r):=by
 have he:tH 5 [exV e]=true:=by
  obtain⟨k,s,n,kids,ln⟩:=e;rfl
 rw[Kv]at hr
 rcases h with ⟨rfl,rfl,rfl⟩|⟨k,rfl,h0,rfl⟩
 ·exact wG (ys:=[exV e]) rfl (by simp) (by simp) rfl he (by simp[lS]) (hr 0)
 ·have hne:lS out≠[]:=by
   cases out with
   |nil=>exact absurd rfl h0
   |cons x y=>simp[lS]
  exact zD (j:=1) (k:=k) (x:=.sl [exV e] [] .full) (ys:=[exV e]) rfl (by simp) hne rfl (QV out) he (by rw[xw];simp;omega) (hr (k+1))
theorem zcg{L:List Tk}{p:PR}{gs:List Ex}{tok:Tok}{t:List V}{h:Hl}{i:Nat}(ht:jT t i = .sl (lS gs) [] tok)(h0:lk h 0=some (rdS L (pV p) (Dt p)))(hq:∀ es l,p = .ok es l→gs=es) :
  uU [oZ.tmp i] (fun v h'=>nb 0 (weak v)∧∃ Y,lk h' 0=some Y∧nbB 0 Y∧KL L p (weak v) Y) .ret ⟨t,h⟩:=by
 have e:weak (.sl (lS gs) [] tok) = .sl (lS gs) [] .no:=by simp only[weak,kW,lG]
 refine jy jD ⟨?_,_,h0,jM,gs,?_,rfl,hq⟩
 ·rw[ht,e];simp only[nbS];exact xk gs
 ·rw[ht,e]
def NS(f:BP→List Tk→Option PR)(s:List UInt8)(one:Bool)(t:Tk)(l:List Tk):Option PR:=if (!one&&isS s t)=true then some (.ok [] l)else bindL (Jg f (t::l)) fun es l2=>mP s l2 fun l3=>some (.ok es l3)
section
variable {Γ:jG} {m:Store} {rb n:Nat} {L l:List Tk} {t:Tk} {s:List UInt8} {one:Bool} {p:PR}
theorem NU(hL:L.length<4611686018427387904)(hn0:n≤1099511627776)(h:∀ k≤n,KEx Γ L k)(hs:t::l <:+ L)(hr:m rb=some (rdS L (t::l) false))(hp:NS (run n) s one t l=some p) :
  jB Tryz.prog Γ 232 [.ptr rb 0,bs s,.val (.bool one)] m fun o m'=>∃ v Y,o = .ret v∧m'=m.set rb Y∧KL L p v Y:=by
 refine BO mixed YN zdB jP hr jM nbY ?_;simp only[zfu,ss0,ay,ag];simp only[ssH,ag,ae,reduceIte,af,aj,ah,ai]
 by_cases hc:(!one&&isS s t)=true
 ·obtain⟨rfl,hi⟩:one=false∧isS s t=true:=by simpa using hc
  have:p = .ok [] l:=by simpa [NS,hi] using hp.symm
  subst this;simp only[ssH,ag,ae,reduceIte,af,aj,ah,ai];refine jO (b:=0) (az:=[bs s]) (v:=.val (.bool true)) rfl rfl (fun m b' hh=>o7 hL hs hh hi) jM jM nbY nbY ?_;simp only[ssH,ag,ae,reduceIte,af,aj,ah,ai];exact zcg (gs:=[]) (tok:=.full) rfl rfl (by rintro es l ⟨⟩;rfl)
 ·have hloop:bindL (Jg (run n) (t::l)) (fun es l2=>mP s l2 fun l3=>some (.ok es l3))=some p:=by
   simpa [NS,hc] using hp
  obtain⟨q,hq,hq2⟩:∃ q,Jg (run n) (t::l)=some q∧(∀ out l1,q = .ok out l1→mP s l1 (fun l3=>some (.ok out l3))=some p)∧(∀ l1,q = .st l1→p = .st l1):=by
   rcases sO hloop with ⟨es,l1,h1,h2⟩|⟨l1,h1,h2⟩
   ·exact⟨_,h1,(fun out l1 e=>by cases e;exact h2),(fun l1 e=>by cases e)⟩
   ·exact⟨_,h1,(fun out l1 e=>by cases e),(fun l1 e=>by cases e;exact h2)⟩
  cases one
  case' false=>
   have hi:isS s t=false:=by simpa using hc
   simp only[ssH,ag,ae,reduceIte,af,aj,ah,ai];refine kw (b:=0) (az:=[bs s]) (v:=.val (.bool false)) rfl rfl (fun m b' hh=>mY hs hh (by rw[hi];rfl)) jM nbY nbY ?_
  all_goals
   simp only[ssH,ag,ae,reduceIte,af,aj,ah,ai];refine mi [0,1,7] 32 (fun j vs h=>∃ out l1 tok r,vs=[.ptr 0 0,bs s,.sl (lS out) [] tok]∧h=some (rdS L l1 false)::r∧Bf out tok r∧l1 <:+ L∧out.length+j≤n∧bind1 (run j (.ex 0) l1) (fun e l2=>run j (.ro (out++[e])) l2)=some q) n (by decide) (by decide) (aJ 1) (jW rfl (by decide) (by decide) (by simp) (by show nbs 1 [.ptr 0 0,bs s,.sl [] [] .full];simp only[nbS];decide) (WZ (.inl ⟨rfl,rfl,rfl⟩) fun k=>jM) ⟨[],t::l,.full,[],rfl,rfl,.inl ⟨rfl,rfl,rfl⟩,hs,by simp,hq⟩) ?_;rintro j tt hh J hJ hl2 ⟨out,l1,tok,r,hv,rfl,hb,hsx,hn,hg⟩;simp only[aZ,aP,and_true]at hv;obtain⟨h0,h1,h7⟩:=hv;rw[mJ hl2];simp only[jV,upTo,h0,h1,h7,rdS,rdR,ssH,ag,ae,reduceIte,af,aj,ah,ai];obtain⟨p1,k1,hs1,hf⟩:=uA hg;have hsx1:pV p1 <:+ L:=(zQ j _ _ _ k1).trans hsx;refine lZ (b:=0) (az:=[it ((0:Nat):Int)]) rfl rfl (fun m b' hh=>h j (by omega) 0 l1 p1 m b' (by omega) hsx hs1 hh k1) (jM (L:=L)) nbY Ir ?_;rintro v Y ⟨e,rfl,rfl,hq1⟩;have hf:=hf _ hq1;simp only[zU,uJ (o8 e),ssH,ag,ae,reduceIte,af,aj,ah,ai];refine zh5 hb (by omega) fun k => ?_;simp only[ssH,ag,ae,reduceIte,af,aj,ah,ai]
   rcases hf with ⟨hbad,hqq⟩|⟨hgood,hqq⟩
   ·obtain⟨t2,l2,rfl⟩:∃ t2 l2,p1 = .st (t2::l2):=by
     cases p1 with
     |ok es l=>cases hbad
     |st l=>
      cases l with
      |nil=>exact absurd rfl (VI _ _ _ _ k1)
      |cons t2 l2=>exact⟨t2,l2,rfl⟩
    have hpp:=hq2.2 _ hqq;simp only[pV,Dt]at hsx1 hpp ⊢;subst hpp;refine kw (b:=0) (az:=[bs [44]]) (v:=.val (.bool false)) rfl rfl (fun m b' hh=>mY hsx1 hh rfl) jM nbY nbY ?_;simp only[ssH,ag,ae,reduceIte,af,aj,ah,ai];refine jO (b:=0) (az:=[bs s]) (v:=.tup []) rfl rfl (fun m b' hh=>vI hsx1 hh rfl) jM jM nbY nbY ?_;simp only[ssH,ag,ae,reduceIte,af,aj,ah,ai];exact zcg (gs:=out++[e]) (tok:=.tip 1 k) rfl rfl (by rintro es l ⟨⟩)
   ·obtain⟨i,t2,l2,rfl,hl3,hg2⟩:=oz hqq;simp only[step]at hg2;rw[hl3]at hsx1 ⊢;rw[hgood];cases hcm:isS [44] t2
    ·simp only[hcm,aF,if_false,au]at hg2;have hpp:=hq2.1 _ _ hg2.symm;refine kw (b:=0) (az:=[bs [44]]) (v:=.val (.bool false)) rfl rfl (fun m b' hh=>mY hsx1 hh (by rw[hcm];rfl)) jM nbY nbY ?_;simp only[ssH,ag,ae,reduceIte,af,aj,ah,ai];simp only[mP]at hpp;cases hmm:isS s t2
     ·simp only[hmm,aF,if_false,au]at hpp;subst hpp;refine jO (b:=0) (az:=[bs s]) (v:=.tup []) rfl rfl (fun m b' hh=>vI hsx1 hh (by rw[hmm];rfl)) jM jM nbY nbY ?_;simp only[ssH,ag,ae,reduceIte,af,aj,ah,ai];exact zcg (gs:=out++[e]) (tok:=.tip 1 k) rfl rfl (by rintro es l ⟨⟩)
     ·simp only[hmm,if_true,au]at hpp;subst hpp;refine jO (b:=0) (az:=[bs s]) (v:=.tup []) rfl rfl (fun m b' hh=>EX hL hsx1 hh hmm) jM jM nbY nbY ?_;simp only[ssH,ag,ae,reduceIte,af,aj,ah,ai];exact zcg (gs:=out++[e]) (tok:=.tip 1 k) rfl rfl (by rintro es l ⟨⟩;rfl)
    ·simp only[hcm,if_true]at hg2;refine jO (b:=0) (az:=[bs [44]]) (v:=.val (.bool true)) rfl rfl (fun m b' hh=>o7 hL hsx1 hh hcm) jM jM nbY nbY ?_;simp only[ssH,ag,ae,reduceIte,af,aj,ah,ai];have hB:Bf (out++[e]) (.tip 1 k) [some (.tip 206 k)]:=.inr ⟨k,rfl,by simp,rfl⟩;refine⟨_,hJ i (aJ 2) _ (by omega) (jW rfl (by decide) (by decide) (by simp) ?_ (WZ hB fun k=>jM) ⟨out++[e],l2,_,_,rfl,rfl,hB,(bD t2 l2).trans hsx1,by simp only[aH,ax,aA];omega,hg2⟩)⟩;show nbs 2 [.ptr 0 0,bs s,.sl (lS (out++[e])) [] (.tip 1 k)];simp only[nbS];exact⟨by decide,xk _,by decide⟩
end
def sg:Nat→List UInt8
 |0=>[45]
 |_=>[33]
def sgV:V:=.sl [bs [45],bs [33]] [] .full
theorem zhP{i:Nat}(h:i<2):sU 1 (.sl [bs [45],bs [33]] [] .full) (it i)=some (.elt [bs (sg i)]):=by
 have:i=0∨i=1:=by omega
 rcases this with rfl|rfl
 ·exact oh (e:=bs [45]) rfl rfl
 ·exact oh (e:=bs [33]) rfl rfl
theorem zkH{k:Nat}{A B:Blk}{r:Hl}(hA:nbB k A)(hB:nbB k B):∀ a<2,∀ x,lk (some A::some B::r) a=some x→nbB k x:=by
 intro a ha x hx;have:a=0∨a=1:=by omega
 rcases this with rfl|rfl<;>cases hx<;>assumption
theorem Xu{n:Nat}{r:BP}{l:List Tk}{p1:PR}(k1:run n r l=some p1)(hbad:Dt p1=true):∃ t2 l2,p1 = .st (t2::l2):=by
 cases p1 with
 |ok es l=>cases hbad
 |st l=>
  cases l with
  |nil=>exact absurd rfl (VI _ _ _ _ k1)
  |cons t2 l2=>exact⟨t2,l2,rfl⟩
theorem ZQ{Γ:jG}{L:List Tk}{n:Nat}(hL:L.length<4611686018427387904)(h:∀ k<n,KEx Γ L k∧KUn Γ L k∧KSi Γ L k):KUn Γ L n:=by
 intro l p m rb hs hp1 hr hp;obtain⟨j,t,l',rfl,rfl,hg⟩:=oz hp;clear hp;simp only[step]at hg;refine BO mixed zfL zjh jP hr jM nbY ?_;simp only[zji,ss0,ay,ag];have e10:∀ {t:List V} {m:Store},jJ Tryz.prog (ev Γ t) m (.lits 1 [V.val (Value.string (ByteArray.mk #[]))] 2 [(0,.const (.string (ByteArray.mk #[45]))),(1,.const (.string (ByteArray.mk #[33])))])=some sgV:=fun {t m}=>rfl;simp only[ssH,ag,ae,reduceIte,af,aj,ah,ai];refine kw (b:=0) (az:=[]) rfl rfl (fun m b' hh=>vH hs hh) jM nbY (vC t) ?_;simp only[tkV,e10,ssH,ag,ae,reduceIte,af,aj,ah,ai];simp only[sgV,ax,aA,ssH,ag,ae,reduceIte,af,aj,ah,ai];refine mi [0,2,3,10,11,12] 57 (fun n vs h=>∃ i:Nat,vs=[.ptr 0 0,.ptr 1 0,it t.l,sgV,it (2:Nat),it i]∧h=[some (rdS L (t::l') false),some (.var 206 zX)]∧i+n=3∧i≤2∧∀ a<i,isS (sg a) t=false) 3 (by decide) (by decide) (aJ 2) (jW rfl (by decide) (by decide) (by simp) (by show nbs 2 [.ptr 0 0,.ptr 1 0,it t.l,sgV,it (2:Nat),it (0:Nat)];simp only[sgV,nbS];decide) (zkH jM JB) ⟨0,rfl,rfl,rfl,by decide,fun a ha=>by omega⟩) ?_;rintro n tt hh J hJ hl2 ⟨i,hv,rfl,hn,hi,hno⟩;simp only[aZ,aP,and_true]at hv;obtain⟨h0,h2,h3,h10,h11,h12⟩:=hv;rw[mJ hl2];simp only[jV,upTo,h0,h2,h3,h10,h11,h12,rdS,rdR,ssH,ag,ae,reduceIte,af,aj,ah,ai]
 by_cases h6:i<2
 ·rw[show decide ((i:Int)<((2:Nat):Int))=true by simp;omega];simp only[sgV,zhP h6,ssH,ag,ae,reduceIte,af,aj,ah,ai];cases hi2:isS (sg i) t
  ·refine kw (b:=0) (az:=[bs (sg i)]) (v:=.val (.bool false)) rfl rfl (fun m b' hh=>mY hs hh (by rw[hi2];rfl)) jM nbY nbY ?_;simp only[jQ (show i<4611686018427387904 by omega),ssH,ag,ae,reduceIte,af,aj,ah,ai];refine⟨_,hJ (n-1) (aJ 2) _ (by omega) (jW rfl (by decide) (by decide) (by simp) (by show nbs 2 [.ptr 0 0,.ptr 1 0,it t.l,sgV,it (2:Nat),it (i+1:Nat)];simp only[sgV,nbS];decide) (zkH jM JB) ⟨i+1,rfl,rfl,by omega,by omega,?_⟩)⟩;intro a ha
   by_cases e:a=i
   ·rw[e];exact hi2
   ·exact hno a (by omega)
  ·have hg2:bind1 (run j .un l') (fun e l1=>some (.ok [.mk 6 t.s 0 [e] t.l] l1))=some p:=by
    rw[if_pos]at hg
    ·exact hg
    ·have:i=0∨i=1:=by omega
     rcases this with rfl|rfl<;>simp only[sg]at hi2<;>rw[hi2]<;>simp
   have hts:t.s=sg i:=by
    simp only[isS,aG,beq_iff_eq]at hi2;exact hi2.2
   obtain⟨p1,k1,hs1,hf⟩:=uA hg2;have hs' : l' <:+ L:=(bD t l').trans hs;refine jO (b:=0) (az:=[bs (sg i)]) (v:=.val (.bool true)) rfl rfl (fun m b' hh=>o7 hL hs hh hi2) jM jM nbY nbY ?_;simp only[ssH,ag,ae,reduceIte,af,aj,ah,ai];refine lZ (b:=0) (az:=[]) rfl rfl (fun m b' hh=>(h j (by omega)).2.1 l' p1 m b' hs' hs1 hh k1) jM nbY Ir ?_;rintro v Y ⟨e,rfl,rfl,hq1⟩;have hf:=hf _ hq1;simp only[zU,uJ (o8 e),zX,ssH,ag,ae,reduceIte,af,aj,ah,ai];have hw:WX (.mk 6 (sg i) 0 [e] t.l) [it 6,bs (sg i),it 0,.sl [exV e] [] .full,it t.l]:=⟨[exV e],.full,rfl,by simp only[kW,uY,lS],by simp only[nbS];exact zy e,by rw[A8];trivial⟩
   rcases hf with ⟨hb,rfl⟩|⟨hb,hpp⟩
   ·exact xM hw rfl (by rw[hb];rfl) (by rintro e l ⟨⟩)
   ·simp only[au]at hpp;subst hpp;exact xM hw rfl (by rw[hb];rfl) (by rintro e l ⟨⟩;rw[hts])
 ·rw[show decide ((i:Int)<((2:Nat):Int))=false by simp;omega];have:i=2:=by omega
  subst this;have ha:isS [45] t=false:=hno 0 (by decide);have hb:isS [33] t=false:=hno 1 (by decide);simp only[ha,hb,Bool.or_self,aF,if_false]at hg;obtain⟨p1,k1,hs1,hf⟩:=uA hg;have hsx1:pV p1 <:+ L:=(zQ j _ _ _ k1).trans hs;simp only[ssH,ag,ae,reduceIte,af,aj,ah,ai];refine lZ (b:=0) (az:=[]) rfl rfl (fun m b' hh=>(h j (by omega)).2.2 _ p1 m b' hs hs1 hh k1) jM nbY Ir ?_;rintro v Y ⟨⟨k,s,nn,kids,ln⟩,rfl,rfl,hq1⟩;have hf:=hf _ hq1;simp only[exV,ssH,ag,ae,reduceIte,af,aj,ah,ai];refine mi [0,2,6] 57 (fun n vs h=>∃ g l1 b cs,vs=[.ptr 0 0,.ptr 1 0,.ptr 2 0]∧h=[some (rdS L l1 b),some (.var 206 zX),some (.var 206 cs)]∧WX g cs∧l1 <:+ L∧n≤j∧(b=true∧p = .st l1∨b=false∧run n (.po g) l1=some p)) j (by decide) (by decide) (aJ 3) (jW rfl (by decide) (by decide) (by simp) (by show nbs 3 [.ptr 0 0,.ptr 1 0,.ptr 2 0];simp only[nbS];decide) (zei jM JB (RI (Ja (.mk k s nn kids ln)))) ⟨.mk k s nn kids ln,pV p1,Dt p1,_,rfl,rfl,Ja _,hsx1,aY _,hf⟩) ?_;clear hf hq1 k1 hs1 hsx1 hJ hg;rintro n tt hh J hJ hl2 ⟨⟨k,s,nn,kids,ln⟩,l1,b,cs,hv,rfl,hw,hsx,hn,hc⟩;have hwk:=hw;obtain⟨vs,tok,rfl,hw1,hw2,hw3⟩:=hw;simp only[aZ,aP,and_true]at hv;obtain⟨h0,h2,h6⟩:=hv;rw[mJ hl2];simp only[jV,upTo,h0,h2,h6,rdS,rdR,ssH,ag,ae,reduceIte,af,aj,ah,ai]
  rcases hc with ⟨rfl,rfl⟩|⟨rfl,hc⟩
  ·simp only[zX,ssH,ag,ae,reduceIte,af,aj,ah,ai];exact xM hwk rfl rfl (by rintro e l ⟨⟩)
  ·obtain⟨i,tk,l2,rfl,rfl,hg⟩:=oz hc;clear hc;simp only[step]at hg;have hsx2:l2 <:+ L:=(bD tk l2).trans hsx
   have hnx:∀ (K:Int) (S:List UInt8) (KE:List Ex) (KS:List V) (l3:List Tk) (b:Bool) (tt':List V),tt'.length=57→jT tt' 0 = .ptr 0 0→jT tt' 2 = .ptr 1 0→jT tt' 6 = .ptr 2 0→kW KS=lS KE→nbs 0 KS→l3 <:+ L→(b=true∧p = .st l3∨b=false∧run i (.po (.mk K S 0 KE ln)) l3=some p) →
     ∃ names,J names ⟨tt',[some (rdS L l3 b),some (.var 206 zX),some (.var 206 [it K,bs S,it 0,.sl KS [] .full,it ln])]⟩:=by
    intro K S KE KS l3 b tt' q0 q1 q2 q3 q4 q5 q6 q7;have hw:WX (.mk K S 0 KE ln) [it K,bs S,it 0,.sl KS [] .full,it ln]:=⟨KS,.full,rfl,q4,q5,by rw[A8];trivial⟩;refine⟨_,hJ i (aJ 3) _ (by omega) (jW q0 (by decide) (by decide) (by simp) ?_ (zei jM JB (RI hw)) ⟨.mk K S 0 KE ln,l3,b,_,?_,rfl,hw,q6,by omega,q7⟩)⟩
    ·simp only[aZ,q1,q2,q3,nbS];decide
    ·simp only[aZ,q1,q2,q3]
   simp only[ssH,ag,ae,reduceIte,af,aj,ah,ai];cases hi1:isS [91] tk
   ·refine kw (b:=0) (az:=[bs [91]]) (v:=.val (.bool false)) rfl rfl (fun m b' hh=>mY hsx hh (by rw[hi1];rfl)) jM nbY nbY ?_;simp only[ssH,ag,ae,reduceIte,af,aj,ah,ai];cases hi2:isS [46] tk
    ·refine kw (b:=0) (az:=[bs [46]]) (v:=.val (.bool false)) rfl rfl (fun m b' hh=>mY hsx hh (by rw[hi2];rfl)) jM nbY nbY ?_;simp only[hi1,hi2,aF,if_false,au]at hg;subst hg;simp only[zX,ssH,ag,ae,reduceIte,af,aj,ah,ai];exact xM hwk rfl rfl (by rintro e l ⟨⟩;rfl)
    ·refine jO (b:=0) (az:=[bs [46]]) (v:=.val (.bool true)) rfl rfl (fun m b' hh=>o7 hL hsx hh hi2) jM jM nbY nbY ?_;simp only[hi1,hi2,aF,if_false,if_true]at hg;simp only[zU,uJ (v:=.agg [it k,bs s,it nn,.sl vs [] tok,it ln]) rfl,ssH,ag,ae,reduceIte,af,aj,ah,ai]
     cases l2 with
     |nil=>cases hg
     |cons t3 l3=>
      have hsx3:l3 <:+ L:=(bD t3 l3).trans hsx2;simp only[Dw]at hg
      by_cases hk:t3.k=1
      ·rw[if_pos hk]at hg;refine jO (b:=0) (az:=[]) (v:=bs t3.s) rfl rfl (fun m b' hh=>Qb hL hsx2 hh hk) jM jM nbY nbY ?_;simp only[ssH,ag,ae,reduceIte,af,aj,ah,ai];exact hnx 9 t3.s [.mk k s nn kids ln] [.agg [it k,bs s,it nn,.sl vs [] tok,it ln]] l3 false _ rfl rfl rfl rfl (by simp only[kW,weak,lS,exV,hw1,bs]) (by simp only[nbS];exact⟨hw2,hw3⟩) hsx3 (.inr ⟨rfl,hg⟩)
      ·rw[if_neg hk]at hg;simp only[au]at hg;refine jO (b:=0) (az:=[]) (v:=bs []) rfl rfl (fun m b' hh=>UE hsx2 hh (.inr hk)) jM jM nbY nbY ?_;simp only[ssH,ag,ae,reduceIte,af,aj,ah,ai];exact hnx 9 [] [.mk k s nn kids ln] [.agg [it k,bs s,it nn,.sl vs [] tok,it ln]] (t3::l3) true _ rfl rfl rfl rfl (by simp only[kW,weak,lS,exV,hw1,bs]) (by simp only[nbS];exact⟨hw2,hw3⟩) hsx2 (.inl ⟨rfl,hg.symm⟩)
   ·refine jO (b:=0) (az:=[bs [91]]) (v:=.val (.bool true)) rfl rfl (fun m b' hh=>o7 hL hsx hh hi1) jM jM nbY nbY ?_;simp only[hi1,if_true]at hg;simp only[ssH,ag,ae,reduceIte,af,aj,ah,ai];obtain⟨p2,k2,hs2,hf2⟩:=uA hg;have hsx3:pV p2 <:+ L:=(zQ i _ _ _ k2).trans hsx2;refine lZ (b:=0) (az:=[it ((0:Nat):Int)]) rfl rfl (fun m b' hh=>(h i (by omega)).1 0 l2 p2 m b' (by omega) hsx2 hs2 hh k2) jM nbY Ir ?_;rintro v Y ⟨e2,rfl,rfl,hq2⟩;have hf2:=hf2 _ hq2;simp only[Io,EW (v:=.agg [it k,bs s,it nn,.sl vs [] tok,it ln]) (u:=exV e2) rfl (o8 e2),ssH,ag,ae,reduceIte,af,aj,ah,ai];have hv1:kW [.agg [it k,bs s,it nn,.sl vs [] tok,it ln],exV e2]=lS [.mk k s nn kids ln,e2]:=by simp only[kW,weak,lS,exV,hw1,uY,bs]
    have hv2:nbs 0 [.agg [it k,bs s,it nn,.sl vs [] tok,it ln],exV e2]:=by
     simp only[nbS];exact⟨⟨hw2,hw3⟩,zy e2⟩
    rcases hf2 with ⟨hbad,hqq⟩|⟨hgood,hqq⟩
    ·obtain⟨t2,l3,rfl⟩:=Xu k2 hbad;simp only[pV,Dt]at hsx3 hqq ⊢;refine jO (b:=0) (az:=[bs [93]]) (v:=.tup []) rfl rfl (fun m b' hh=>vI hsx3 hh rfl) jM jM nbY nbY ?_;simp only[ssH,ag,ae,reduceIte,af,aj,ah,ai];exact hnx 8 [] [.mk k s nn kids ln,e2] _ (t2::l3) true _ rfl rfl rfl rfl hv1 hv2 hsx3 (.inl ⟨rfl,hqq⟩)
    ·rw[hgood];generalize pV p2=l3 at hqq hsx3
     cases l3 with
     |nil=>cases hqq
     |cons t3 l3=>
      have hsx4:l3 <:+ L:=(bD t3 l3).trans hsx3;simp only[mP]at hqq;cases hmm:isS [93] t3
      ·simp only[hmm,aF,if_false,au]at hqq;refine jO (b:=0) (az:=[bs [93]]) (v:=.tup []) rfl rfl (fun m b' hh=>vI hsx3 hh (by rw[hmm];rfl)) jM jM nbY nbY ?_;simp only[ssH,ag,ae,reduceIte,af,aj,ah,ai];exact hnx 8 [] [.mk k s nn kids ln,e2] _ (t3::l3) true _ rfl rfl rfl rfl hv1 hv2 hsx3 (.inl ⟨rfl,hqq.symm⟩)
      ·simp only[hmm,if_true]at hqq;refine jO (b:=0) (az:=[bs [93]]) (v:=.tup []) rfl rfl (fun m b' hh=>EX hL hsx3 hh hmm) jM jM nbY nbY ?_;simp only[ssH,ag,ae,reduceIte,af,aj,ah,ai];exact hnx 8 [] [.mk k s nn kids ln,e2] _ l3 false _ rfl rfl rfl rfl hv1 hv2 hsx4 (.inr ⟨rfl,hqq⟩)
theorem zkO{t:Tk}(h4:t.k≠4)(h5:t.k≠5)(s:List UInt8):isS s t=false:=by
 simp[isS,h4,h5]
section
variable {Γ:jG} {m:Store} {rb n:Nat} {L l:List Tk} {t:Tk} {s:List UInt8} {one:Bool} {p:PR}
theorem Qc(hs:t::l <:+ L)(hr:m rb=some (rdS L (t::l) true)) :
  jB Tryz.prog Γ 232 [.ptr rb 0,bs s,.val (.bool one)] m fun o m'=>∃ v Y,o = .ret v∧m'=m.set rb Y∧KL L (.st (t::l)) v Y:=by
 refine BO mixed YN zdB jP hr jM nbY ?_;simp only[zfu,ss0,ay,ag];simp only[ssH,ag,ae,reduceIte,af,aj,ah,ai];cases one
 case' false=>
  simp only[ssH,ag,ae,reduceIte,af,aj,ah,ai];refine kw (b:=0) (az:=[bs s]) (v:=.val (.bool false)) rfl rfl (fun m b' hh=>mY hs hh rfl) jM nbY nbY ?_
 all_goals
  simp only[ssH,ag,ae,reduceIte,af,aj,ah,ai];refine mi [0,1,7] 32 (fun j vs h=>vs=[.ptr 0 0,bs s,.sl [] [] .full]∧h=[some (rdS L (t::l) true)]) 0 (by decide) (by decide) (aJ 1) (jW rfl (by decide) (by decide) (by simp) (by show nbs 1 [.ptr 0 0,bs s,.sl [] [] .full];simp only[nbS];decide) (WZ (.inl ⟨rfl,rfl,rfl⟩) fun k=>jM) ⟨rfl,rfl⟩) ?_;rintro j tt hh J hJ hl2 ⟨hv,rfl⟩;simp only[aZ,aP,and_true]at hv;obtain⟨h0,h1,h7⟩:=hv;rw[mJ hl2];simp only[jV,upTo,h0,h1,h7,rdS,rdR,ssH,ag,ae,reduceIte,af,aj,ah,ai];refine jO (b:=0) (az:=[bs s]) (v:=.tup []) rfl rfl (fun m b' hh=>vI hs hh rfl) jM jM nbY nbY ?_;simp only[ssH,ag,ae,reduceIte,af,aj,ah,ai];exact zcg (gs:=[]) (tok:=.full) rfl rfl (by rintro es l ⟨⟩)
end
theorem OG{r:Option PR}{k:List Ex→List Tk→Option PR}{p:PR}(h:bindL r k=some p):∃ q,r=some q∧∀ g,(∀ es l,q = .ok es l→g=es)→(Dt q=true∧p = .st (pV q)∨Dt q=false∧k g (pV q)=some p):=by
 rcases sO h with ⟨es,l1,k1,k2⟩|⟨l1,k1,rfl⟩
 ·exact⟨_,k1,fun g hq=>.inr ⟨rfl,by rw[hq _ _ rfl];exact k2⟩⟩
 ·exact⟨_,k1,fun g hq=>.inl ⟨rfl,rfl⟩⟩
theorem NR{f:BP→List Tk→Option PR}{s:List UInt8}{t:Tk}{l:List Tk}:NS f s false t l=xH f s (t::l):=by
 simp only[NS,xH,aN,dD]
theorem zce{f:BP→List Tk→Option PR}{s:List UInt8}{t:Tk}{l:List Tk}:NS f s true t l=bindL (Jg f (t::l)) fun es l2=>mP s l2 fun l3=>some (.ok es l3):=by
 simp only[NS,aO,dK,aF,if_false]
theorem zdX{n:Nat}:Jg (run n) []=none:=by
 cases n<;>rfl
theorem zbn{f:BP→List Tk→Option PR}{s:List UInt8}{l:List Tk}{k:List Ex→List Tk→Option PR}{p:PR}(h:(bindL (Jg f l) fun es l2=>mP s l2 fun l3=>k es l3)=some p):∃ q,(bindL (Jg f l) fun es l2=>mP s l2 fun l3=>some (.ok es l3))=some q∧∀ g,(∀ es l,q = .ok es l→g=es)→(Dt q=true∧p = .st (pV q)∨Dt q=false∧k g (pV q)=some p):=by
 rcases sO h with ⟨es,l1,k1,k2⟩|⟨l1,k1,rfl⟩
 ·rw[k1]
  cases l1 with
  |nil=>cases k2
  |cons t2 l2=>
   simp only[mP,bindL]at k2 ⊢
   split at k2
   ·rename_i hm;rw[if_pos hm];exact⟨_,rfl,fun g hq=>.inr ⟨rfl,by rw[hq _ _ rfl];exact k2⟩⟩
   ·rename_i hm;rw[if_neg hm];cases k2;exact⟨_,rfl,fun g hq=>.inl ⟨rfl,rfl⟩⟩
 ·rw[k1];exact⟨_,rfl,fun g hq=>.inl ⟨rfl,rfl⟩⟩
theorem Wl{Γ:jG}{L:List Tk}{n:Nat}(hL:L.length<4611686018427387904)(hn0:n≤1099511627776)(h:∀ k<n,KEx Γ L k):KSi Γ L n:=by
 intro l p m rb hs hp1 hr hp;obtain⟨j,t,l',rfl,rfl,hg⟩:=oz hp;clear hp;simp only[step,EG]at hg;have hs' : l' <:+ L:=(bD t l').trans hs;have hw:∀ (K:Int) (S:List UInt8) (N:Int) (KE:List Ex) (tok:Tok),nbT 0 tok→WX (.mk K S N KE t.l) [it K,bs S,it N,.sl (lS KE) [] tok,it t.l]:=fun K S N KE tok ht=>⟨lS KE,tok,rfl,lG KE,xk KE,ht⟩;have hf:nbT 0 .full:=by rw[A8];trivial
 have hz:nbT 0 .no:=by rw[Jz];trivial
 refine BO mixed zfA zjb jP hr jM nbY ?_;simp only[zjc,ss0,ay,ag];simp only[ssH,ag,ae,reduceIte,af,aj,ah,ai];refine kw (b:=0) (az:=[]) rfl rfl (fun m b' hh=>vH hs hh) jM nbY (vC t) ?_;simp only[tkV,rdS,rdR,ssH,ag,ae,reduceIte,af,aj,ah,ai]
 by_cases h2:t.k=2
 ·rw[if_pos h2]at hg;simp only[au]at hg;subst hg;simp only[h2,jQ (show L.length-(l'.length+1)<4611686018427387904 by omega),yD hs,ssH,ag,ae,reduceIte,af,aj,ah,ai];exact xM (hw 1 [] t.n [] .full hf) rfl rfl (by rintro e l ⟨⟩;rfl)
 rw[if_neg h2]at hg;have b2:(t.k==2)=false:=by simpa using h2
 simp only[b2,ssH,ag,ae,reduceIte,af,aj,ah,ai]
 by_cases h3:t.k=3
 ·rw[if_pos h3]at hg;simp only[au]at hg;subst hg;simp only[h3,jQ (show L.length-(l'.length+1)<4611686018427387904 by omega),yD hs,ssH,ag,ae,reduceIte,af,aj,ah,ai];exact xM (hw 3 t.s 0 [] .full hf) rfl rfl (by rintro e l ⟨⟩;rfl)
 rw[if_neg h3]at hg;have b3:(t.k==3)=false:=by simpa using h3
 simp only[b3,ssH,ag,ae,reduceIte,af,aj,ah,ai]
 by_cases h1:t.k=1
 ·rw[if_pos h1]at hg;have hi:∀ x,isS x t=false:=zkO (by omega) (by omega);refine kw (b:=0) (az:=[bs [116,114,117,101]]) (v:=.val (.bool false)) rfl rfl (fun m b' hh=>mY hs hh (by rw[hi];rfl)) (jM (L:=L)) nbY nbY ?_;simp only[ssH,ag,ae,reduceIte,af,aj,ah,ai];refine kw (b:=0) (az:=[bs [102,97,108,115,101]]) (v:=.val (.bool false)) rfl rfl (fun m b' hh=>mY hs hh (by rw[hi];rfl)) (jM (L:=L)) nbY nbY ?_;simp only[ssH,ag,ae,reduceIte,af,aj,ah,ai];refine kw (b:=0) (az:=[bs [110,101,119]]) (v:=.val (.bool false)) rfl rfl (fun m b' hh=>mY hs hh (by rw[hi];rfl)) (jM (L:=L)) nbY nbY ?_;simp only[ssH,ag,ae,reduceIte,af,aj,ah,ai];refine kw (b:=0) (az:=[bs [91]]) (v:=.val (.bool false)) rfl rfl (fun m b' hh=>mY hs hh (by rw[hi];rfl)) (jM (L:=L)) nbY nbY ?_;simp only[ssH,ag,ae,reduceIte,af,aj,ah,ai];refine kw (b:=0) (az:=[bs [40]]) (v:=.val (.bool false)) rfl rfl (fun m b' hh=>mY hs hh (by rw[hi];rfl)) (jM (L:=L)) nbY nbY ?_;simp only[ssH,ag,ae,reduceIte,af,aj,ah,ai];simp only[h1,jQ (show L.length-(l'.length+1)<4611686018427387904 by omega),yD hs,ssH,ag,ae,reduceIte,af,aj,ah,ai]
  cases l' with
  |nil=>cases hg
  |cons t2 l2=>
   simp only[QH]at hg;have hs2:l2 <:+ L:=(bD t2 l2).trans hs';cases hp2:isS [40] t2
   ·simp only[hp2,aF,if_false,au]at hg;subst hg;refine kw (b:=0) (az:=[bs [40]]) (v:=.val (.bool false)) rfl rfl (fun m b' hh=>mY hs' hh (by rw[hp2];rfl)) (jM (L:=L)) nbY nbY ?_;simp only[ssH,ag,ae,reduceIte,af,aj,ah,ai];exact xM (hw 4 t.s 0 [] .full hf) rfl rfl (by rintro e l ⟨⟩;rfl)
   ·simp only[hp2,if_true]at hg;refine jO (b:=0) (az:=[bs [40]]) (v:=.val (.bool true)) rfl rfl (fun m b' hh=>o7 hL hs' hh hp2) (jM (L:=L)) jM nbY nbY ?_;simp only[ssH,ag,ae,reduceIte,af,aj,ah,ai]
    cases l2 with
    |nil=>cases hg
    |cons t3 l3=>
     obtain⟨q,hq,hq2⟩:=OG hg;refine lZ (b:=0) (az:=[bs [41],.val (.bool false)]) rfl rfl (fun m b' hh=>NU (n:=j) (t:=t3) (l:=l3) (s:=[41]) (one:=false) (p:=q) hL (by omega) (fun k hk=>h k (by omega)) hs2 hh (by rw[NR];exact hq)) (jM (L:=L)) nbY UD ?_;rintro v Y ⟨es,rfl,rfl,hq3⟩;have hq2:=hq2 _ hq3;simp only[ssH,ag,ae,reduceIte,af,aj,ah,ai]
     rcases hq2 with ⟨hb,rfl⟩|⟨hb,hpp⟩
     ·exact xM (hw 5 t.s 0 es .no hz) rfl (by rw[hb];rfl) (by rintro e l ⟨⟩)
     ·simp only[au]at hpp;subst hpp;exact xM (hw 5 t.s 0 es .no hz) rfl (by rw[hb];rfl) (by rintro e l ⟨⟩;rfl)
 rw[if_neg h1]at hg;have b1:(t.k==1)=false:=by simpa using h1
 by_cases h_true:isS [116,114,117,101] t=true
 ·rw[if_pos h_true]at hg;simp only[au]at hg;subst hg;refine jO (b:=0) (az:=[bs [116,114,117,101]]) (v:=.val (.bool true)) rfl rfl (fun m b' hh=>o7 hL hs hh h_true) (jM (L:=L)) jM nbY nbY ?_;simp only[ssH,ag,ae,reduceIte,af,aj,ah,ai];exact xM (hw 2 [] 1 [] .full hf) rfl rfl (by rintro e l ⟨⟩;rfl)
 rw[if_neg h_true]at hg;refine kw (b:=0) (az:=[bs [116,114,117,101]]) (v:=.val (.bool false)) rfl rfl (fun m b' hh=>mY hs hh (by rw[Bool.eq_false_iff.2 h_true];rfl)) (jM (L:=L)) nbY nbY ?_;simp only[ssH,ag,ae,reduceIte,af,aj,ah,ai]
 by_cases h_false:isS [102,97,108,115,101] t=true
 ·rw[if_pos h_false]at hg;simp only[au]at hg;subst hg;refine jO (b:=0) (az:=[bs [102,97,108,115,101]]) (v:=.val (.bool true)) rfl rfl (fun m b' hh=>o7 hL hs hh h_false) (jM (L:=L)) jM nbY nbY ?_;simp only[ssH,ag,ae,reduceIte,af,aj,ah,ai];exact xM (hw 2 [] 0 [] .full hf) rfl rfl (by rintro e l ⟨⟩;rfl)
 rw[if_neg h_false]at hg;refine kw (b:=0) (az:=[bs [102,97,108,115,101]]) (v:=.val (.bool false)) rfl rfl (fun m b' hh=>mY hs hh (by rw[Bool.eq_false_iff.2 h_false];rfl)) (jM (L:=L)) nbY nbY ?_;simp only[ssH,ag,ae,reduceIte,af,aj,ah,ai]
 by_cases h_new:isS [110,101,119] t=true
 ·rw[if_pos h_new]at hg;refine jO (b:=0) (az:=[bs [110,101,119]]) (v:=.val (.bool true)) rfl rfl (fun m b' hh=>o7 hL hs hh h_new) (jM (L:=L)) jM nbY nbY ?_;simp only[ssH,ag,ae,reduceIte,af,aj,ah,ai]
  cases l' with
  |nil=>cases hg
  |cons t2 l2=>
   have hs2:l2 <:+ L:=(bD t2 l2).trans hs';simp only[Dw]at hg
   by_cases hk:t2.k=1
   ·rw[if_pos hk]at hg;refine jO (b:=0) (az:=[]) (v:=bs t2.s) rfl rfl (fun m b' hh=>Qb hL hs' hh hk) (jM (L:=L)) jM nbY nbY ?_;simp only[ssH,ag,ae,reduceIte,af,aj,ah,ai]
    cases l2 with
    |nil=>cases hg
    |cons t3 l3=>
     have hs3:l3 <:+ L:=(bD t3 l3).trans hs2;simp only[mP]at hg;cases hm:isS [40] t3
     ·simp only[hm,aF,if_false,au]at hg;subst hg;refine jO (b:=0) (az:=[bs [40]]) (v:=.tup []) rfl rfl (fun m b' hh=>vI hs2 hh (by rw[hm];rfl)) (jM (L:=L)) jM nbY nbY ?_;simp only[ssH,ag,ae,reduceIte,af,aj,ah,ai];refine lZ (b:=0) (az:=[bs [41],.val (.bool false)]) rfl rfl (fun m b' hh=>Qc (s:=[41]) (one:=false) hs2 hh) (jM (L:=L)) nbY UD ?_;rintro v Y ⟨es,rfl,rfl,hq3⟩;simp only[ssH,ag,ae,reduceIte,af,aj,ah,ai];exact xM (hw 11 t2.s 0 es .no hz) rfl rfl (by rintro e l ⟨⟩)
     ·simp only[hm,if_true]at hg;refine jO (b:=0) (az:=[bs [40]]) (v:=.tup []) rfl rfl (fun m b' hh=>EX hL hs2 hh hm) (jM (L:=L)) jM nbY nbY ?_;simp only[ssH,ag,ae,reduceIte,af,aj,ah,ai]
      cases l3 with
      |nil=>cases hg
      |cons t4 l4=>
       obtain⟨q,hq,hq2⟩:=OG hg;refine lZ (b:=0) (az:=[bs [41],.val (.bool false)]) rfl rfl (fun m b' hh=>NU (n:=j) (t:=t4) (l:=l4) (s:=[41]) (one:=false) (p:=q) hL (by omega) (fun k hk=>h k (by omega)) hs3 hh (by rw[NR];exact hq)) (jM (L:=L)) nbY UD ?_;rintro v Y ⟨es,rfl,rfl,hq3⟩;have hq2:=hq2 _ hq3;simp only[ssH,ag,ae,reduceIte,af,aj,ah,ai]
       rcases hq2 with ⟨hb,rfl⟩|⟨hb,hpp⟩
       ·exact xM (hw 11 t2.s 0 es .no hz) rfl (by rw[hb];rfl) (by rintro e l ⟨⟩)
       ·simp only[au]at hpp;subst hpp;exact xM (hw 11 t2.s 0 es .no hz) rfl (by rw[hb];rfl) (by rintro e l ⟨⟩;rfl)
   ·rw[if_neg hk]at hg;simp only[au]at hg;subst hg;refine jO (b:=0) (az:=[]) (v:=bs []) rfl rfl (fun m b' hh=>UE hs' hh (.inr hk)) (jM (L:=L)) jM nbY nbY ?_;simp only[ssH,ag,ae,reduceIte,af,aj,ah,ai];refine jO (b:=0) (az:=[bs [40]]) (v:=.tup []) rfl rfl (fun m b' hh=>vI hs' hh rfl) (jM (L:=L)) jM nbY nbY ?_;simp only[ssH,ag,ae,reduceIte,af,aj,ah,ai];refine lZ (b:=0) (az:=[bs [41],.val (.bool false)]) rfl rfl (fun m b' hh=>Qc (s:=[41]) (one:=false) hs' hh) (jM (L:=L)) nbY UD ?_;rintro v Y ⟨es,rfl,rfl,hq3⟩;simp only[ssH,ag,ae,reduceIte,af,aj,ah,ai];exact xM (hw 11 [] 0 es .no hz) rfl rfl (by rintro e l ⟨⟩)
 rw[if_neg h_new]at hg;refine kw (b:=0) (az:=[bs [110,101,119]]) (v:=.val (.bool false)) rfl rfl (fun m b' hh=>mY hs hh (by rw[Bool.eq_false_iff.2 h_new];rfl)) (jM (L:=L)) nbY nbY ?_;simp only[ssH,ag,ae,reduceIte,af,aj,ah,ai]
 by_cases h_br:isS [91] t=true
 ·rw[if_pos h_br]at hg;refine jO (b:=0) (az:=[bs [91]]) (v:=.val (.bool true)) rfl rfl (fun m b' hh=>o7 hL hs hh h_br) (jM (L:=L)) jM nbY nbY ?_;simp only[ssH,ag,ae,reduceIte,af,aj,ah,ai]
  cases l' with
  |nil=>exact absurd hg (by rw[zdX];simp[bindL])
  |cons t2 l2=>
   obtain⟨q,hq,hq2⟩:=zbn hg;refine lZ (b:=0) (az:=[bs [93],.val (.bool true)]) rfl rfl (fun m b' hh=>NU (n:=j) (t:=t2) (l:=l2) (s:=[93]) (one:=true) (p:=q) hL (by omega) (fun k hk=>h k (by omega)) hs' hh (by rw[zce];exact hq)) (jM (L:=L)) nbY UD ?_;rintro v Y ⟨es,rfl,rfl,hq3⟩;have hq2:=hq2 _ hq3;simp only[ssH,ag,ae,reduceIte,af,aj,ah,ai]
   rcases hq2 with ⟨hb,rfl⟩|⟨hb,hpp⟩
   ·exact xM (hw 10 [] 0 es .no hz) rfl (by rw[hb];rfl) (by rintro e l ⟨⟩)
   ·simp only[au]at hpp;subst hpp;exact xM (hw 10 [] 0 es .no hz) rfl (by rw[hb];rfl) (by rintro e l ⟨⟩;rfl)
 rw[if_neg h_br]at hg;refine kw (b:=0) (az:=[bs [91]]) (v:=.val (.bool false)) rfl rfl (fun m b' hh=>mY hs hh (by rw[Bool.eq_false_iff.2 h_br];rfl)) (jM (L:=L)) nbY nbY ?_;simp only[ssH,ag,ae,reduceIte,af,aj,ah,ai]
 by_cases h_pa:isS [40] t=true
 ·rw[if_pos h_pa]at hg;refine jO (b:=0) (az:=[bs [40]]) (v:=.val (.bool true)) rfl rfl (fun m b' hh=>o7 hL hs hh h_pa) (jM (L:=L)) jM nbY nbY ?_;simp only[ssH,ag,ae,reduceIte,af,aj,ah,ai];obtain⟨p1,k1,hs1,hf1⟩:=uA hg;have hsx:pV p1 <:+ L:=(zQ j _ _ _ k1).trans hs';refine lZ (b:=0) (az:=[it ((0:Nat):Int)]) rfl rfl (fun m b' hh=>h j (by omega) 0 l' p1 m b' (by omega) hs' hs1 hh k1) (jM (L:=L)) nbY Ir ?_;rintro v Y ⟨⟨K,S,N,KE,ln⟩,rfl,rfl,hq1⟩;have hf1:=hf1 _ hq1;have hwx:=Ja (.mk K S N KE ln);simp only[exV,ssH,ag,ae,reduceIte,af,aj,ah,ai]
  rcases hf1 with ⟨hbad,rfl⟩|⟨hgood,hpp⟩
  ·obtain⟨t2,l2,rfl⟩:=Xu k1 hbad;simp only[pV,Dt]at hsx ⊢;refine jO (b:=0) (az:=[bs [41]]) (v:=.tup []) rfl rfl (fun m b' hh=>vI hsx hh rfl) (jM (L:=L)) jM nbY nbY ?_;simp only[ssH,ag,ae,reduceIte,af,aj,ah,ai];exact xM hwx rfl rfl (by rintro e l ⟨⟩)
  ·rw[hgood];generalize pV p1=l2 at hpp hsx
   cases l2 with
   |nil=>cases hpp
   |cons t2 l2=>
    simp only[mP]at hpp;cases hm:isS [41] t2
    ·simp only[hm,aF,if_false,au]at hpp;subst hpp;refine jO (b:=0) (az:=[bs [41]]) (v:=.tup []) rfl rfl (fun m b' hh=>vI hsx hh (by rw[hm];rfl)) (jM (L:=L)) jM nbY nbY ?_;simp only[ssH,ag,ae,reduceIte,af,aj,ah,ai];exact xM hwx rfl rfl (by rintro e l ⟨⟩)
    ·simp only[hm,if_true,au]at hpp;subst hpp;refine jO (b:=0) (az:=[bs [41]]) (v:=.tup []) rfl rfl (fun m b' hh=>EX hL hsx hh hm) (jM (L:=L)) jM nbY nbY ?_;simp only[ssH,ag,ae,reduceIte,af,aj,ah,ai];exact xM hwx rfl rfl (by rintro e l ⟨⟩;rfl)
 rw[if_neg h_pa]at hg;refine kw (b:=0) (az:=[bs [40]]) (v:=.val (.bool false)) rfl rfl (fun m b' hh=>mY hs hh (by rw[Bool.eq_false_iff.2 h_pa];rfl)) (jM (L:=L)) nbY nbY ?_;simp only[ssH,ag,ae,reduceIte,af,aj,ah,ai];simp only[au]at hg;subst hg;simp only[b1,ssH,ag,ae,reduceIte,af,aj,ah,ai];exact xM (hw 0 [] 0 [] .full hf) rfl rfl (by rintro e l ⟨⟩)
end Go.Av.Fn
namespace Go.Av
section
variable {P:Program} {Γ:jG} {Kp:V→Hl→Prop} {t:List V} {h:Hl}
theorem zcA{mx:Bool}{xs:List Operand}{m:Store}:jJ P (ev Γ t) m (.mm mx xs)=mmV mx (xs.map (ev Γ t)):=rfl
end
end Go.Av
namespace Go.Av.Fn
open Go.Proofs
theorem zbm{Γ:jG}{L:List Tk}(hL:L.length<4611686018427387904):∀ n,n≤1099511627776→KEx Γ L n∧KUn Γ L n∧KSi Γ L n:=by
 intro n
 induction n using Nat.strongRecOn with
 |_ n ih=>
  intro hn;have h:∀ k<n,KEx Γ L k∧KUn Γ L k∧KSi Γ L k:=fun k hk=>ih k hk (by omega);exact⟨zcp hL fun k hk=>⟨(h k hk).1,(h k hk).2.1⟩,ZQ hL h,Wl hL hn fun k hk=>(h k hk).1⟩
theorem Qd{Γ:jG}:∀ (N:Nat) (e:Ex) (m:Store),lW e≤N→N≤1099511627776→jB Tryz.prog Γ 178 [exV e] m fun o m'=>o = .ret (it (qN e))∧m'=m
 |0,e,m,h,_=>by
  obtain⟨k,s,n,kids,l⟩:=e;simp only[lW]at h;omega
 |N+1,e,m,h,hN=>by
  have hex:=zy (k:=0) e;obtain⟨k,s,n,kids,l⟩:=e;simp only[lW]at h;have hle:=CP kids;refine jY (jZ mixed zfR zjk jP (by rw[tZ];exact⟨hex,by rw[xZ];trivial⟩) ?_);simp only[zjl,exV,ss0,ay,ag];simp only[ssH,ag,ae,reduceIte,af,aj,ah,ai]
  have hB:nbB 1 (.var 206 [it k,bs s,it n,.sl (lS kids) [] .no,it l]):=by
   simp only[nbS];exact xk kids
  have hB1:∀ a<1,∀ x,lk [some (.var 206 [it k,bs s,it n,.sl (lS kids) [] .no,it l])] a=some x→nbB 1 x:=by
   intro a ha x hx;have:a=0:=by omega
   subst this;cases hx;exact hB
  refine mi [1,3,4] 22 (fun j vs h=>∃ i:Nat,vs=[.ptr 0 0,it (depths (kids.take i)),it i]∧h=[some (.var 206 [it k,bs s,it n,.sl (lS kids) [] .no,it l])]∧i+j=kids.length) kids.length (by decide) (by decide) (aJ 1) (jW rfl (by decide) (by decide) (by simp) (by show nbs 1 [.ptr 0 0,it (0:Nat),it (0:Nat)];simp only[nbS];decide) hB1 ⟨0,rfl,rfl,by omega⟩) ?_;rintro j tt hh J hJ hl2 ⟨i,hv,rfl,hij⟩;simp only[aZ,aP,and_true]at hv;obtain⟨h1,h3,h4⟩:=hv;rw[mJ hl2];simp only[jV,upTo,h1,h3,h4,ssH,ag,ae,reduceIte,af,aj,ah,ai]
  by_cases hlt:i<kids.length
  ·have hget:kids[i]? = some kids[i]:=aI hlt;generalize kids[i]=ei at hget
   have hsz:lW ei≤N:=by
    have:=MO (bI hget);omega
   have hei:=zy (k:=0) ei;obtain⟨k2,s2,n2,kids2,l2⟩:=ei;rw[xw,show decide ((i:Int)<(kids.length:Int))=true by simp;omega];simp only[zcx rfl hget,ssH,ag,ae,reduceIte,af,aj,ah,ai];refine jC (v:=it (qN (.mk k2 s2 n2 kids2 l2))) (by exact fun m=>Qd N (.mk k2 s2 n2 kids2 l2) m hsz (by omega)) (by show nbs 0 [exV (.mk k2 s2 n2 kids2 l2)];rw[tZ];exact⟨hei,by rw[xZ];trivial⟩) nbY ?_;simp only[zcA,zbB,RJ,jQ (show i<4611686018427387904 by omega),ssH,ag,ae,reduceIte,af,aj,ah,ai];refine⟨_,hJ (j-1) (aJ 1) _ (by omega) (jW rfl (by decide) (by decide) (by simp) (by simp only[aZ,jH,jI,nbS];decide) hB1 ⟨i+1,?_,rfl,by omega⟩)⟩;simp only[aZ,jH,jI,aP,and_true,true_and];show it _=it _;congr 2;rw[aW,hget,Ak];simp only[fQ,depths];omega
  ·have hge:i=kids.length:=by omega
   have hd:=yh kids;rw[xw,show decide ((i:Int)<(kids.length:Int))=false by simp;omega]
   have hw:IntKind.i64.wrap ((depths (kids.take i):Int)+1)=((qN (.mk k s n kids l):Nat):Int):=by
    rw[hge,bJ,wrap_i64 (by omega) (by omega)];simp only[qN];omega
   simp only[hw,ssH,ag,ae,reduceIte,af,aj,ah,ai];exact jy jD ⟨nbZ,rfl⟩
theorem zcl{Γ:jG}{m:Store}(s:List UInt8):jB Tryz.prog Γ 175 [bs s] m fun o m'=>o = .ret (zO (tN s))∧m'=m:=by
 refine jB.weak (VO s) ?_ ?_
 ·rintro v m' ⟨h,rfl⟩;refine⟨?_,rfl⟩;unfold Ac at h
  split at h
  ·rename_i l hl;obtain⟨tok,h⟩:=h;cases h;rw[hl];simp only[zO,weak,kW,Jb Xi]
  ·rename_i a e hl;cases h;rw[hl];simp only[zO,weak,kW]
 ·rintro v m' ⟨h,_⟩;exfalso;unfold Ac at h
  split at h
  ·obtain⟨_,h⟩:=h;cases h
  ·cases h
end Go.Av.Fn
namespace Go.Av
section
variable {P:Program} {Γ:jG} {H:Nat→List (Nat×List Nat)×List Nat} {f:FuncId} {F:AFn} {gs:List Nat} {m:Store}
theorem zaI(hm:P.follows .mixedOrders=true)(hF:qO P H f=some F)(hok:F.body.okH gs=true)(hG:GOk Γ gs){args:List V}(ha:nbs 0 args){Qv:V→Prop}
  (h:qB P Γ (fun _ _=>False) 0 F.body (uU F.res fun v _=>nb 0 (weak v)∧Qv (weak v)) ⟨start F.ntmps args,[]⟩):jB P Γ f args m fun o m'=>(∃ v,o = .ret v∧Qv v)∧m'=m:=by
 have h1:=uh (P:=P) (Γ:=Γ) (R0:=fun _ _=>False) (N:=0) (m:=fun _=>none) hm hF hok hG (ha.up _) (WB _ (fun _ _ q=>q) _) (fun _ _ q=>q.elim) (Q:=fun o h=>match o with | .ret v=>nb 0 (weak v)∧Qv (weak v) | .pan _=>False) h;have hD:mQ (fun _=>none) m:=fun b=>.inl rfl;have e:Store.or (fun _=>none) m=m:=by funext b;rfl
 have h2:=h1.frame hD;rw[e]at h2;refine jB.weak (R:=fun o m'=>(∃ v,o = .ret v∧Qv (weak v))∧m'=m) (jB.less h2 ?_) ?_ ?_
 ·rintro o m'' ⟨m',rfl,d,S,o0,h',s1,s2,s3,s4⟩;refine⟨m,?_,?_,rfl⟩
  ·intro b x hb
   rcases d b with q|q
   ·simp only[Store.or,q];exact hb
   ·rw[q]at hb;cases hb
  ·cases o0 with
   |ret v=>
    cases o with
    |ret v' =>
     have e3:weak v'=weak v:=D7 s4.1 (VR.wk s3);exact⟨v',rfl,by rw[e3];exact s4.2⟩
    |pan v'=>exact s3.elim
   |pan v=>exact s4.elim
 ·rintro v m' ⟨⟨v',e9,q⟩,h9⟩;cases e9;exact⟨⟨_,rfl,q⟩,h9⟩
 ·rintro v m' ⟨⟨v',e9,q⟩,_⟩;cases e9
end
end Go.Av
namespace Go.Av.Fn
open Go.Proofs
theorem zb1{k:Nat}(r:Except (Nat×Int) (List Tk)):nb k (zO r):=by
 cases r with
 |ok l=>
  simp only[zO,nbS];exact x8 (fun t=>vC t) l
 |error x=>
  obtain⟨a,e⟩:=x;simp only[zO,nbS]
theorem EC{a e:Int}:weak (.tup [.agg zX,it a,it e])=zJ (none,a,e):=by
 simp only[weak,kW,zJ,exO,exV,lS,zX,bs]
theorem XK{k:Nat}(r:Option Ex×Int×Int):nb k (zJ r):=by
 obtain⟨x,a,e⟩:=r
 cases x with
 |none=>
  simp only[zJ,exO,nbS];exact zy _
 |some g=>
  simp only[zJ,exO,nbS];exact zy _
theorem rd0(L:List Tk):Blk.var 226 [.sl (L.map tkV) [] .no,it 0,.val (.bool false)]=rdS L L false:=by
 simp[rdS,rdR]
theorem zcY{s:List UInt8}{t:List V}{h:Hl}{v:V}{rs:List oZ}(hv:resV rs ⟨t,lk h⟩=some v)(e:weak v=zJ (qC s)):uU rs (fun v _=>nb 0 (weak v)∧weak v=zJ (qC s)) .ret ⟨t,h⟩:=
 jy hv ⟨by rw[e];exact XK _,e⟩
theorem zbz{Γ:jG}{m:Store}(s:List UInt8):jB Tryz.prog Γ 162 [bs s] m fun o m'=>o = .ret (zJ (qC s))∧m'=m:=by
 refine jY (zaI mixed zf1 zju jP nbY ?_);simp only[zjv,ss0,ay,ag];simp only[ssH,ag,ae,reduceIte,af,aj,ah,ai];refine jC (v:=zO (tN s)) (by exact fun m=>zcl s) nbY (zb1 _) ?_
 cases hsc:tN s with
 |error x=>
  obtain⟨a,e⟩:=x;have hne:=TQ hsc
  have hE:qC s=(none,(a:Int),e):=by
   simp[qC,qF,hsc,hne]
  have hb:(e != 0)=true:=by simpa using hne
  simp only[zO,ssH,ag,ae,reduceIte,af,aj,ah,ai];simp only[hb,ssH,ag,ae,reduceIte,af,aj,ah,ai];refine zcY (v:=.tup [.agg zX,it a,it e]) rfl (by rw[hE];exact EC)
 |ok L=>
  simp only[zO,ssH,ag,ae,reduceIte,af,aj,ah,ai];rw[rd0];obtain⟨p,hp,hsg,hfit⟩:=MR (F7 hsc);have hlen:=Jf hsc;refine lZ (b:=1) (az:=[it ((0:Nat):Int)]) rfl rfl (fun m b' hh=>(zbm (Γ:=Γ) (L:=L) (by omega) (10*L.length+9) (by omega)).1 0 L p m b' (by omega) df hsg hh hp) jM nbY Ir ?_;rintro v Y ⟨⟨k,s',nn,kids,ln⟩,rfl,rfl,hq⟩;have hsx:pV p <:+ L:=zQ _ _ _ _ hp
  cases p with
  |st l1=>
   obtain⟨tk,l2,rfl⟩:=hfit.1.ne;simp only[pV,Dt]at hsx ⊢
   have hE:qC s=(none,tk.a,6):=by
    simp[qC,qF,hsc,DV,hp]
   simp only[exV,rdS,rdR,ssH,ag,ae,reduceIte,af,aj,ah,ai];refine kw (b:=1) (az:=[]) rfl rfl (fun m b' hh=>vH hsx hh) (jM (L:=L)) nbY (vC tk) ?_;simp only[tkV,ssH,ag,ae,reduceIte,af,aj,ah,ai];refine zcY (v:=.tup [.agg zX,it tk.a,it 6]) rfl (by rw[hE];exact EC)
  |ok es l1=>
   obtain⟨tk,l2,rfl⟩:=hfit.1.ne;obtain⟨e,rfl⟩:=hsg;have he:Ex.mk k s' nn kids ln=e:=hq _ _ rfl;subst he;simp only[pV,Dt]at hsx ⊢;simp only[exV,rdS,rdR,ssH,ag,ae,reduceIte,af,aj,ah,ai];refine kw (b:=1) (az:=[]) rfl rfl (fun m b' hh=>vH hsx hh) (jM (L:=L)) nbY (vC tk) ?_;simp only[tkV,ssH,ag,ae,reduceIte,af,aj,ah,ai]
   by_cases hk:tk.k=0
   ·have hR:qF s=(some (.mk k s' nn kids ln),0,0):=by
     simp[qF,hsc,DV,hp,hk]
    have hsz:=Nl hR;simp only[hk,ssH,ag,ae,reduceIte,af,aj,ah,ai];refine jC (v:=it (qN (.mk k s' nn kids ln))) (by exact fun m=>Qd 4097 (.mk k s' nn kids ln) m hsz (by omega)) (by show nbs 0 [exV (.mk k s' nn kids ln)];rw[tZ];exact⟨zy _,by rw[xZ];trivial⟩) nbY ?_;simp only[ssH,ag,ae,reduceIte,af,aj,ah,ai]
    by_cases hd:qN (.mk k s' nn kids ln)>24
    ·have hE:qC s=(none,0,7):=by
      simp[qC,hR,hd]
     rw[show decide ((24:Int)<(qN (.mk k s' nn kids ln):Int))=true by simp;omega];simp only[ssH,ag,ae,reduceIte,af,aj,ah,ai];refine zcY (v:=.tup [.agg zX,it 0,it 7]) rfl (by rw[hE];exact EC)
    ·have hE:qC s=(some (.mk k s' nn kids ln),0,0):=by
      simp[qC,hR,hd]
     rw[show decide ((24:Int)<(qN (.mk k s' nn kids ln):Int))=false by simp;omega];simp only[ssH,ag,ae,reduceIte,af,aj,ah,ai];refine zcY (v:=.tup [exV (.mk k s' nn kids ln),it 0,it 0]) rfl (by rw[hE];simp only[weak,kW,zJ,exO,uY])
   ·have hE:qC s=(none,tk.a,6):=by
     simp[qC,qF,hsc,DV,hp,hk]
    have hb:(tk.k != 0)=true:=by simpa using hk
    simp only[hb,ssH,ag,ae,reduceIte,af,aj,ah,ai];refine kw (b:=1) (az:=[]) rfl rfl (fun m b' hh=>vH hsx hh) (jM (L:=L)) nbY (vC tk) ?_;simp only[tkV,ssH,ag,ae,reduceIte,af,aj,ah,ai];refine zcY (v:=.tup [.agg zX,it tk.a,it 6]) rfl (by rw[hE];exact EC)
end Go.Av.Fn
namespace Go.Av.Fn
open Go.Lib
theorem Z5:forms.length=18:=rfl
theorem Nb{k n:Int}{t:List UInt8}(h:lK k n t=true):lQ k≠mg∧((lQ k).n=false→n=0)∧((lQ k).s=false→t=[])∧0≤n∧n≤4294967296:=by
 have hl:=PK h;unfold lK at h
 split at h
 ·cases h
 ·rename_i hc;simp only[cZ,aG,decide_eq_true_eq,eH,bne_iff_ne,not_or,not_and,Bool.not_eq_false,beq_eq_false_iff_ne]at hc;obtain⟨⟨⟨⟨c1,c2⟩,c3⟩,c4⟩,c5⟩:=hc;refine⟨c1,fun hn => ?_,fun hs => ?_,hl.2.1,hl.2.2⟩
  ·have:=c2 hn
   simpa using this
  ·have:=c3 hs
   simpa using this
theorem Oi{k:Int}(h:lQ k≠mg):∃ j:Nat,k=j∧1≤j∧j<18:=by
 unfold lQ at h
 split at h
 ·exact absurd rfl h
 ·rename_i hk
  cases hg:forms[k.toNat]? with
  |none=>rw[hg]at h;exact absurd rfl h
  |some f=>
   have hlt:=(List.getElem?_eq_some_iff.1 hg).1;rw[Z5]at hlt;refine⟨k.toNat,by omega,?_,hlt⟩
   by_cases e:k.toNat=0
   ·rw[hg]at h;rw[e]at hg;cases hg;exact absurd rfl h
   ·omega
end Go.Av.Fn
namespace Go.Av.Fn
open Go.Proofs
theorem ze2(xo yo:Operand)(k n k' n':Int)(s s':List UInt8):kR Tryz.prog .neq 40 .other xo yo (.agg [it k,it n,bs s]) (.agg [it k',it n',bs s'])=some (.val (.bool (!decide (k=k' ∧ n=n' ∧ s=s')))):=by
 have h := (Pv (P := Tryz.prog) (T := 40) (xo := xo) (yo := yo) (cs := [it k,it n,bs s]) (cs' := [it k',it n',bs s'])
  (xs:=[.int .i64 k,.int .i64 n,.string ⟨s.toArray⟩]) (ys:=[.int .i64 k',.int .i64 n',.string ⟨s'.toArray⟩])
  (r:=(k==k'&&(n==n'&&((ByteArray.mk s.toArray).toList==(ByteArray.mk s'.toArray).toList&&true))))
  (by kernel_rfl) (by kernel_rfl) (by kernel_rfl) rfl rfl (by kernel_rfl)).2
 have e:(k==k'&&(n==n'&&((ByteArray.mk s.toArray).toList==(ByteArray.mk s'.toArray).toList&&true)))=decide (k=k' ∧ n=n' ∧ s=s'):=by
  rw[ru,ru,bQ];simp
 rw[e]at h;exact h
theorem zbZ(a b:Int)(c:List UInt8):nbs 0 [.agg [it a,it b,bs c]]:=zbY a b c
def DC(k n:Int)(s:List UInt8):Bool:=decide (lQ k≠mg)&&((lQ k).n||n==0)&&((lQ k).s||s==[])
theorem Ap{P:Program}{T:TypeId}{xo yo:Operand}{s:List UInt8}:kR P .eql T .other xo yo (bs s) (.val (.string (ByteArray.mk #[])))=some (.val (.bool (s==[]))):=zI (x:=s) (y:=[])
theorem JM{P:Program}{T:TypeId}{xo yo:Operand}{s:List UInt8}:kR P .neq T .other xo yo (bs s) (.val (.string (ByteArray.mk #[])))=some (.val (.bool (!(s==[])))):=xE (x:=s) (y:=[])
theorem Uw(k n:Int)(s:List UInt8):nbs 0 [zK k n s]:=by
 simp only[XM,nbS]
section
variable {Γ:jG} {m:Store}
theorem J6(s:List UInt8):jB Tryz.prog Γ 141 [bs s] m fun o m'=>o = .ret (.val (.bool (pq s)))∧m'=m:=by
 refine jY (jZ mixed zgi zjL jP nbY ?_);simp only[zjM,ss0,ay,ag];simp only[ssH,ag,ae,reduceIte,af,aj,ah,ai];refine jC (by exact fun m=>zbz s) nbY (XK _) ?_
 obtain⟨k,s',nn,kids,ln,he⟩:∃ k s' nn kids ln,exO (qC s).1=exV (.mk k s' nn kids ln):=by
  cases (qC s).1 with
  |none=>exact⟨0,[],0,[],0,rfl⟩
  |some e=>
   obtain⟨k,s',nn,kids,ln⟩:=e;exact⟨k,s',nn,kids,ln,rfl⟩
 simp only[zJ,he,exV,ssH,ag,ae,reduceIte,af,aj,ah,ai];cases h0:((qC s).2.2==0)
 ·simp only[ssH,ag,ae,reduceIte,af,aj,ah,ai];exact jy jD ⟨nbZ,by simp[jT,pq,h0];try omega⟩
 ·simp only[ssH,ag,ae,reduceIte,af,aj,ah,ai];exact jy jD ⟨nbZ,by simp[jT,pq,h0];try omega⟩
theorem zco(k n:Int)(s:List UInt8):jB Tryz.prog Γ 140 [zK k n s] m fun o m'=>o = .ret (.val (.bool (DC k n s)))∧m'=m:=by
 refine jY (jZ mixed zgj zjN jP (Uw _ _ _) ?_);simp only[zjO,zK,ss0,ay,ag];simp only[ssH,ag,ae,reduceIte,af,aj,ah,ai]
 by_cases hk:1≤k∧k≤17
 ·have:k=1∨k=2∨k=3∨k=4∨k=5∨k=6∨k=7∨k=8∨k=9∨k=10∨k=11∨k=12∨k=13∨k=14∨k=15∨k=16∨k=17:=by omega
  rcases this with rfl|rfl|rfl|rfl|rfl|rfl|rfl|rfl|rfl|rfl|rfl|rfl|rfl|rfl|rfl|rfl|rfl
  all_goals
   simp only[ge_iff_le,gt_iff_lt,Int.reduceLE,Int.reduceLT,decide_true,decide_false,Ap,ssH,ag,ae,reduceIte,af,aj,ah,ai]
   first
    |exact jy jD ⟨nbZ,by simp[jT,DC,lQ,forms,mg]⟩
    |(cases hn:(n==0)<;>simp only[Ap,ssH,ag,ae,reduceIte,af,aj,ah,ai]<;>exact jy jD ⟨nbZ,by simp[jT,DC,lQ,forms,mg,hn]⟩)
 ·have hno:lQ k=mg:=by
   by_cases e:lQ k=mg
   ·exact e
   ·obtain⟨j,rfl,h1,h2⟩:=Oi e;omega
  have hq:∀ c:Int,1≤c→c≤17→(k==c)=false:=by
   intro c h1 h2;have:k≠c:=by omega
   simpa using this
  rcases(show k<1∨17<k by omega)with h|h
  ·simp only[ge_iff_le,gt_iff_lt,show decide (1≤k)=false by simp;omega,show decide (12≤k)=false by simp;omega,hq 15 (by decide) (by decide),hq 16 (by decide) (by decide),hq 9 (by decide) (by decide),hq 11 (by decide) (by decide),hq 17 (by decide) (by decide),hq 10 (by decide) (by decide),ssH,ag,ae,reduceIte,af,aj,ah,ai];exact jy jD ⟨nbZ,by simp[jT,DC,hno]⟩
  ·simp only[ge_iff_le,gt_iff_lt,show decide (1≤k)=true by simp;omega,show decide (12≤k)=true by simp;omega,show decide (k≤8)=false by simp;omega,show decide (k≤14)=false by simp;omega,hq 15 (by decide) (by decide),hq 16 (by decide) (by decide),hq 9 (by decide) (by decide),hq 11 (by decide) (by decide),hq 17 (by decide) (by decide),hq 10 (by decide) (by decide),ssH,ag,ae,reduceIte,af,aj,ah,ai];exact jy jD ⟨nbZ,by simp[jT,DC,hno]⟩
end
end Go.Av.Fn
namespace Go.Av.Fn
open Go.Proofs Go.Lib
end Go.Av.Fn
namespace Go.Av.Fn
open Go.Proofs Go.Lib
theorem WG{k n:Int}{s:List UInt8}(h:lK k n s=true):DC k n s=true:=by
  obtain⟨h1, h2, h3, _, _⟩:=Nb h;unfold DC
  cases a:(lQ k).n<;>cases b:(lQ k).s<;>simp[h1]<;>first|exact⟨h2 a, h3 b⟩|exact h2 a|exact h3 b|skip
theorem WH{k n:Int}{s:List UInt8}(h:DC k n s=true):k=1∨k=2∨k=3∨k=4∨k=5∨k=6∨k=7∨k=8∨k=9∨k=10∨k=11∨k=12∨k=13∨k=14∨k=15∨k=16∨k=17:=by
  unfold DC at h;simp only[aG, decide_eq_true_eq]at h;obtain⟨j, rfl, h1, h2⟩:=Oi h.1.1;omega
section
variable {Γ:jG} {m:Store}
theorem Nc{b:Bool}{k n:Int}{s:List UInt8}{t:List V}{h:Hl}(ht:jT t 2 = .val (.bool b))(e:lK k n s=b):uU [oZ.tmp 2] (fun v _=>nb 0 v∧v = .val (.bool (lK k n s))) .ret ⟨t, h⟩:=
  jy jD ⟨by rw[show(⟨t, lk h⟩:St).t=t from rfl, ht];exact .val _, by rw[show(⟨t, lk h⟩:St).t=t from rfl, ht, e]⟩
theorem ZR(k n:Int)(s:List UInt8):jB Tryz.prog Γ 105 [zK k n s] m fun o m'=>o = .ret (.val (.bool (lK k n s)))∧m'=m:=by
  refine jY (jZ mixed zgL zko jP (Uw _ _ _) ?_);simp only[zkp, zK, ss0, ay, ag];simp only[ssH, ag, ae, reduceIte, af, aj, ah, ai];refine jC (v:=.val (.bool (DC k n s))) (by exact fun m=>zco k n s) (zbZ _ _ _) nbY ?_;cases hf:DC k n s
  · simp only[ssH, ag, ae, reduceIte, af, aj, ah, ai]
    refine Nc rfl ?_;cases hr:lK k n s
    · rfl
    · rw[WG hr]at hf
      cases hf
  · by_cases hn:0≤n∧n≤4294967296
    · obtain⟨hn1, hn2⟩:=hn
      simp only[gt_iff_lt, show decide (n<0)=false by simp;omega, show decide (4294967296<n)=false by simp;omega, ssH, ag, ae, reduceIte, af, aj, ah, ai]
      rcases WH hf with rfl|rfl|rfl|rfl|rfl|rfl|rfl|rfl|rfl|rfl|rfl|rfl|rfl|rfl|rfl|rfl|rfl
      all_goals simp only[DC, lQ, forms, mg]at hf
      all_goals simp at hf
      all_goals simp only[ge_iff_le, gt_iff_lt, Ap, ssH, ag, ae, reduceIte, af, aj, ah, ai]
      all_goals first
        | (have hh : n = 0 ∧ s = [] := hf
           obtain⟨rfl, rfl⟩:=hh
           exact Nc rfl (by simp[lK, lQ, forms, mg]))
        | (have hv : lK 9 n s = true := by (simp [lK, lQ, forms, mg, hf]; omega)
           exact Nc rfl hv)
        | (subst hf
           refine jC (v:=.val (.bool (pq s))) (by exact fun m=>J6 s) nbY nbY ?_;simp only[ssH, ag, ae, reduceIte, af, aj, ah, ai]
           exact Nc rfl (by simp[lK, lQ, forms, mg]))
        | (subst hf
           by_cases h1:1≤n
           · exact Nc (b:=true) (by simp[jT, h1]) (by simp[lK, lQ, forms, mg];omega)
           · exact Nc (b:=false) (by simp[jT, h1]) (by simp[lK, lQ, forms, mg];omega))
        |skip
      by_cases h1:1≤n
      · rw[show decide (1≤n)=true by simp[h1]]
        simp only[Ap, ssH, ag, ae, reduceIte, af, aj, ah, ai];cases hs:(s==[])
        · simp only[ssH, ag, ae, reduceIte, af, aj, ah, ai]
          refine jC (v:=.val (.bool (pq s))) (by exact fun m=>J6 s) nbY nbY ?_;simp only[ssH, ag, ae, reduceIte, af, aj, ah, ai];exact Nc rfl (by simp only[lK, lQ, forms, mg];simp[hs];omega)
        · simp only[ssH, ag, ae, reduceIte, af, aj, ah, ai]
          exact Nc rfl (by simp only[lK, lQ, forms, mg];simp[hs];omega)
      · rw[show decide (1≤n)=false by simp[h1]]
        simp only[ssH, ag, ae, reduceIte, af, aj, ah, ai];exact Nc rfl (by simp only[lK, lQ, forms, mg];simp;omega)
    · have hr:lK k n s=false:=by
        cases hr:lK k n s
        · rfl
        · obtain⟨_, _, _, h1, h2⟩:=Nb hr
          exact absurd ⟨h1, h2⟩ hn
      by_cases h0:n<0
      · simp only[gt_iff_lt, show decide (n<0)=true by simp[h0], ssH, ag, ae, reduceIte, af, aj, ah, ai]
        exact Nc rfl hr
      · simp only[gt_iff_lt, show decide (n<0)=false by simp;omega, show decide (4294967296<n)=true by simp;omega, ssH, ag, ae, reduceIte, af, aj, ah, ai]
        exact Nc rfl hr
end
section
variable {Γ:jG} {m:Store}
end
end Go.Av.Fn
namespace Go.Av.Fn
open Go.Proofs
end Go.Av.Fn
namespace Go.Av.Fn
open Go.Proofs
def qR(n:Int):Bool:=decide (1≤n)&&decide (n≤2147483647)
section
variable {Γ:jG} {m:Store}
theorem JJ(n:Int):jB Tryz.prog Γ 98 [it n] m fun o m'=>o = .ret (.val (.bool (qR n)))∧m'=m:=by
 refine jY (jZ mixed zie zk7 jP nbY ?_);simp only[F98,ss0,ay,ag];simp only[ge_iff_le,ssH,ag,ae,reduceIte,af,aj,ah,ai];cases h:decide (1≤n)
 ·simp only[h,ssH,ag,ae,reduceIte,af,aj,ah,ai];exact jy jD ⟨nbZ,by simp only[qR,h];rfl⟩
 ·simp only[h,ssH,ag,ae,reduceIte,af,aj,ah,ai];exact jy jD ⟨nbZ,by simp only[qR,h];rfl⟩
def nameB(s:List UInt8):Bool:=!(s==[])&&decide (s.length≤20) && !(dig (s.headD 0)) && !(lw.contains s)&&decide ((s.takeWhile fun b=>xn b||dig b).length=s.length)
theorem ZL(b:UInt8):jB Tryz.prog Γ 166 [by8 b] m fun o m'=>o = .ret (.val (.bool (xn b||dig b)))∧m'=m:=by
 refine jY (jZ mixed zfY zjs jP nbY ?_);simp only[zjt,ss0,ay,ag];simp only[ssH,ag,ae,reduceIte,af,aj,ah,ai];refine jC (by exact fun m=>JD b) nbY nbY ?_;cases h:xn b
 ·simp only[ssH,ag,ae,reduceIte,af,aj,ah,ai];refine jC (by exact fun m=>digit_ok b) nbY nbY ?_;simp only[ssH,ag,ae,reduceIte,af,aj,ah,ai];exact jy jD ⟨nbZ,by simp[jT]⟩
 ·simp only[ssH,ag,ae,reduceIte,af,aj,ah,ai];exact jy jD ⟨nbZ,by simp[jT]⟩
theorem zcd(hw:Γ 1=some (lw.map bs))(s:List UInt8):jB Tryz.prog Γ 153 [bs s] m fun o m'=>o = .ret (.val (.bool (nameB s)))∧m'=m:=by
 refine jY (jZ mixed zf7 zjy jP nbY ?_);simp only[zjz,ss0,ay,ag];simp only[JM,ssH,ag,ae,reduceIte,af,aj,ah,ai]
 cases s with
 |nil=>
  have h0:(([]:List UInt8)==[])=true:=rfl;have hn:nameB []=false:=rfl;simp only[h0,aO,hn,ssH,ag,ae,reduceIte,af,aj,ah,ai];exact jy jD ⟨nbZ,rfl⟩
 |cons b r=>
  have h0:((b::r)==[])=false:=rfl;have hx:zV (bs (b::r)) (.val (.int .i64 0))=some (by8 b):=nG (i:=0) rfl
  by_cases hl:(b::r).length≤20
  ·have hd:decide (((r.length+1:Nat):Int)≤20)=true:=by
    simp only[ax]at hl;simp;omega
   have hl2:decide ((b::r).length≤20)=true:=by simpa using hl
   simp only[h0,aN,hd,hx,ssH,ag,ae,reduceIte,af,aj,ah,ai];refine jC (by exact fun m=>digit_ok b) nbY nbY ?_;cases h1:dig b
   ·simp only[ssH,ag,ae,reduceIte,af,aj,ah,ai];refine jC (by exact fun m=>YJ hw (b::r)) nbY nbY ?_;cases h2:lw.contains (b::r)
    ·simp only[ssH,ag,ae,reduceIte,af,aj,ah,ai];refine jC (by exact fun m=>Rj (b::r) (by omega) (p:=fun b=>xn b||dig b) (fun b=>ZL b)) nbY nbY ?_;simp only[ssH,ag,ae,reduceIte,af,aj,ah,ai];refine jy jD ⟨nbZ,?_⟩
     have e:(((((b::r).takeWhile fun b=>xn b||dig b).length:Nat):Int)==((r.length+1:Nat):Int))=nameB (b::r):=by
      simp only[nameB,h0,hl2,fC,h1,h2,aN,dD];rw[bQ,beq_iff_eq,decide_eq_true_eq,ax];omega
     exact congrArg (fun b=>V.val (.bool b)) e
    ·simp only[ssH,ag,ae,reduceIte,af,aj,ah,ai];exact jy jD ⟨nbZ,by simp only[jH,jI,nameB,h0,hl2,fC,h1,h2];rfl⟩
   ·simp only[ssH,ag,ae,reduceIte,af,aj,ah,ai];exact jy jD ⟨nbZ,by simp only[jH,jI,nameB,h0,hl2,fC,h1];rfl⟩
  ·have hd:decide (((r.length+1:Nat):Int)≤20)=false:=by
    simp only[ax]at hl;simp;omega
   have hl2:decide ((b::r).length≤20)=false:=by simpa using hl
   simp only[h0,aN,hd,ssH,ag,ae,reduceIte,af,aj,ah,ai];exact jy jD ⟨nbZ,by simp only[jH,jI,nameB,h0,hl2];rfl⟩
end
section
variable {Γ:jG} {m:Store}
theorem RY(hw:Γ 1=some (lw.map bs))(s:List UInt8):jB Tryz.prog Γ 135 [.agg [it 1,bs s,it 0,it 0,it 0]] m fun o m'=>o = .ret (.tup [bs (if nameB s=true then s else []),it (if nameB s=true then 0 else 2)])∧m'=m:=by
 refine jY (jZ mixed zgo zjQ jP nbY ?_);simp only[zjR,ss0,ay,ag];simp only[ssH,ag,ae,reduceIte,af,aj,ah,ai];refine jC (by exact fun m=>zcd hw s) nbY nbY ?_;cases h:nameB s
 ·simp only[aF,if_false,ssH,ag,ae,reduceIte,af,aj,ah,ai];exact jy TT ⟨nbZ,rfl⟩
 ·simp only[if_true,ssH,ag,ae,reduceIte,af,aj,ah,ai];exact jy TT ⟨nbZ,rfl⟩
theorem zbU(hw:Γ 1=some (lw.map bs))(s:List UInt8):jB Tryz.prog Γ 99 [bs s] m fun o m'=>o = .ret (.val (.bool (nameB s)))∧m'=m:=by
 refine jY (jZ mixed zid zk6 jP nbY ?_);simp only[F99,ss0,ay,ag];simp only[ssH,ag,ae,reduceIte,af,aj,ah,ai];refine jC (by exact fun m=>RY hw s) nbY nbY ?_;cases h:nameB s
 ·simp only[aF,if_false,ssH,ag,ae,reduceIte,af,aj,ah,ai];exact jy jD ⟨nbZ,rfl⟩
 ·simp only[if_true,ssH,ag,ae,reduceIte,af,aj,ah,ai];exact jy jD ⟨nbZ,rfl⟩
end
theorem xA(xo yo:Operand)(k n:Int)(s:List UInt8):kR Tryz.prog .neq 40 .other xo yo (.agg [it k,it n,bs s]) (.agg [.val (.int .i64 0),.val (.int .i64 0),.val (.string (ByteArray.mk #[]))])=some (.val (.bool (!decide (k=0∧n=0∧s=[])))):=ze2 xo yo k n 0 0 s []
structure Ent where
 c:Int
 q:Int
 k:Int
 n:Int
 s:List UInt8
 ck:Int
 cn:Int
 cs:List UInt8
 deriving DecidableEq
def kM(e:Ent):V:=.agg [it e.c,it e.q,it e.k,it e.n,bs e.s,it e.ck,it e.cn,bs e.cs]
def AZ(e:Ent):Bool:=decide (e.ck=0∧e.cn=0∧e.cs=[])
def nN(e:Ent):Bool:=qR e.c&&qR e.q &&
 (if e.k = 1 then nameB e.s && (e.n == 0 || e.n == 1) && AZ e
 else if e.k=4 then e.s==[]&&qR e.n&&AZ e
 else if e.k=2∨e.k=3∨e.k=5∨e.k=6 then e.s==[]&&e.n==0&&AZ e
 else if e.k=7 then e.s==[]&&e.n==0&&lK e.ck e.cn e.cs
 else false)
section
variable {Γ:jG} {m:Store}
set_option maxHeartbeats 3200000 in
theorem Gl(E:Env Γ)(e:Ent):jB Tryz.prog Γ 48 [kM e] m fun o m'=>o = .ret (it (if nN e=true then 0 else 2))∧m'=m:=by
 obtain⟨c,q,k,n,s,ck,cn,cs⟩:=e;refine jY (jZ mixed ziR zlB jP (by simp only[kM,nbS]) ?_);simp only[F48,kM,ss0,ay,ag];simp only[ssH,ag,ae,reduceIte,af,aj,ah,ai];refine jC (by exact fun m=>JJ c) nbY nbY ?_;have hk:k=1∨k=4∨k=2∨k=3∨k=5∨k=6∨k=7∨(k≠1∧k≠4∧k≠2∧k≠3∧k≠5∧k≠6∧k≠7):=by omega
 cases h1:qR c
 ·simp only[ssH,ag,ae,reduceIte,af,aj,ah,ai]
  rcases hk with rfl|rfl|rfl|rfl|rfl|rfl|rfl|⟨n1,n4,n2,n3,n5,n6,n7⟩
  case inr.inr.inr.inr.inr.inr.inr=>
   simp only[show(k==1)=false by simpa using n1,show(k==4)=false by simpa using n4,show(k==2)=false by simpa using n2,show(k==3)=false by simpa using n3,show(k==5)=false by simpa using n5,show(k==6)=false by simpa using n6,show(k==7)=false by simpa using n7,ssH,ag,ae,reduceIte,af,aj,ah,ai];exact jy jD ⟨nbZ,by simp[jT,nN,h1]⟩
  all_goals
   simp only[ssH,ag,ae,reduceIte,af,aj,ah,ai];exact jy jD ⟨nbZ,by simp[jT,nN,h1]⟩
 ·simp only[ssH,ag,ae,reduceIte,af,aj,ah,ai];refine jC (by exact fun m=>JJ q) nbY nbY ?_;simp only[ssH,ag,ae,reduceIte,af,aj,ah,ai];cases h2:qR q
  ·rcases hk with rfl|rfl|rfl|rfl|rfl|rfl|rfl|⟨n1,n4,n2,n3,n5,n6,n7⟩
   case inr.inr.inr.inr.inr.inr.inr=>
    simp only[show(k==1)=false by simpa using n1,show(k==4)=false by simpa using n4,show(k==2)=false by simpa using n2,show(k==3)=false by simpa using n3,show(k==5)=false by simpa using n5,show(k==6)=false by simpa using n6,show(k==7)=false by simpa using n7,ssH,ag,ae,reduceIte,af,aj,ah,ai];exact jy jD ⟨nbZ,by simp[jT,nN,h2]⟩
   all_goals
    simp only[ssH,ag,ae,reduceIte,af,aj,ah,ai];exact jy jD ⟨nbZ,by simp[jT,nN,h2]⟩
  ·rcases hk with rfl|rfl|rfl|rfl|rfl|rfl|rfl|⟨n1,n4,n2,n3,n5,n6,n7⟩
   case inr.inr.inr.inr.inr.inr.inr=>
    simp only[show(k==1)=false by simpa using n1,show(k==4)=false by simpa using n4,show(k==2)=false by simpa using n2,show(k==3)=false by simpa using n3,show(k==5)=false by simpa using n5,show(k==6)=false by simpa using n6,show(k==7)=false by simpa using n7,ssH,ag,ae,reduceIte,af,aj,ah,ai];exact jy jD ⟨nbZ,by simp[jT,nN,n1,n2,n3,n4,n5,n6,n7]⟩
   case inr.inr.inr.inr.inr.inr.inl=>
    cases h3:(s==[])<;>cases h4:(n==0)<;>simp only[JM,bne,h3,h4,aO,aN,ssH,ag,ae,reduceIte,af,aj,ah,ai]
    case true.true=>
     refine jC (by exact fun m=>zav E ck cn cs) (zbZ _ _ _) nbY ?_;simp only[ssH,ag,ae,reduceIte,af,aj,ah,ai];refine jy jD ⟨nbZ,?_⟩;simp only[jH,jI,nN,h1,h2,h3,h4];cases lK ck cn cs<;>rfl
    all_goals exact jy jD ⟨nbZ,by simp only[jH,jI,nN,h1,h2,h3,h4];rfl⟩
   case inl=>
    simp only[ssH,ag,ae,reduceIte,af,aj,ah,ai];refine jC (by exact fun m=>zbU E.words s) nbY nbY ?_;cases h3:nameB s<;>cases h4:(n==0)<;>cases h6:(n==1)<;>cases h5:decide (ck=0∧cn=0∧cs=[])<;>simp only[h4,h6,xA,h5,aO,aN,ssH,ag,ae,reduceIte,af,aj,ah,ai]<;>exact jy jD ⟨nbZ,by simp only[jH,jI,nN,AZ,h1,h2,h3,h4,h5,h6];rfl⟩
   case inr.inl=>
    cases h3:(s==[])
    ·simp only[Ap,h3,ssH,ag,ae,reduceIte,af,aj,ah,ai];exact jy jD ⟨nbZ,by simp only[jH,jI,nN,h1,h2,h3];rfl⟩
    ·simp only[Ap,h3,ssH,ag,ae,reduceIte,af,aj,ah,ai];refine jC (by exact fun m=>JJ n) nbY nbY ?_;cases h4:qR n<;>cases h5:decide (ck=0∧cn=0∧cs=[])<;>simp only[xA,h5,aO,aN,ssH,ag,ae,reduceIte,af,aj,ah,ai]<;>exact jy jD ⟨nbZ,by simp only[jH,jI,nN,AZ,h1,h2,h3,h4,h5];rfl⟩
   all_goals
    cases h3:(s==[])<;>cases h4:(n==0)<;>cases h5:decide (ck=0∧cn=0∧cs=[])<;>simp only[Ap,h3,h4,xA,h5,aO,aN,ssH,ag,ae,reduceIte,af,aj,ah,ai]<;>exact jy jD ⟨nbZ,by simp only[jH,jI,nN,AZ,h1,h2,h3,h4,h5];rfl⟩
end
structure Lg where
 b:Int
 c:List UInt8
 l:List Ent
def lH(nn:Bool)(l:List Ent):V:=.sl (l.map kM) [] (if nn then .non else .full)
def lgV(nn:Bool)(x:Lg):V:=.agg [it x.b,bs x.c,lH nn x.l]
def lgB(x:Lg):Bool:=decide (0≤x.b)&&decide (x.b≤2147483647)&&decide (x.c.length≤65536)&&((x.c==[])==(x.b==0))&&decide (x.l.length≤64)&&decide ((x.l.length:Int)≤2147483647-x.b)&&x.l.all nN
theorem lY{k:Nat}(e:Ent):nb k (kM e):=by simp only[kM,nbS]
theorem kL{k:Nat}(nn:Bool)(l:List Ent):nb k (lH nn l):=by
 cases nn<;>simp only[lH,aF,if_false,if_true,nbS]<;>exact x8 lY l
theorem pO{k:Nat}(nn:Bool)(x:Lg):nb k (lgV nn x):=by
 have:=kL (k:=k) nn x.l;simp only[lgV,this,nbS]
theorem CU{l:List Ent}{more:List V}{tok:Tok}{i:Nat}{e:Ent}(h:l[i]? = some e):sU 8 (.sl (l.map kM) more tok) (it i)=some (.elt [it e.c,it e.q,it e.k,it e.n,bs e.s,it e.ck,it e.cn,bs e.cs]):=oh (e:=kM e) (by rw[bH,h];rfl) rfl
section
variable {Γ:jG} {m:Store}
theorem VY{g:FuncId}{p:Ent→Bool}(hp:∀ e m,jB Tryz.prog Γ g ([]++[kM e]++[]) m fun o m'=>o = .ret (.val (.bool (p e)))∧m'=m)(nn:Bool)(l:List Ent)(hl:l.length<4611686018427387904) :
  jB Tryz.prog Γ 133 [lH nn l,.fn (.func g) [] []] m fun o m'=>(∃ v,o = .ret v∧∃ i:Int,v=it i∧decide (0≤i)=l.any p)∧m'=m:=by
 have hnb:=kL (k:=0) nn l;refine jZ mixed zgq zjU jP (by simp only[hnb,nbS]) ?_;simp only[zjV,ss0,ay,ag];simp only[lH,aK,ssH,ag,ae,reduceIte,af,aj,ah,ai];refine mi [0,1,7,8] 19 (fun n vs h=>∃ i:Nat,vs=[lH nn l,.fn (.func g) [] [],it l.length,it i]∧i+n=l.length+1∧i≤l.length∧(l.take i).any p=false) (l.length+1) (by decide) (by decide) (aJ 0) (jW rfl (aY _) (by decide) (by simp) (by show nbs 0 [lH nn l,.fn (.func g) [] [],it l.length,it 0];simp only[hnb,nbS]) (fun a ha=>by omega) ⟨0,rfl,by omega,by omega,by simp⟩) ?_;rintro n t h J hJ hlt ⟨i,hv,hn,hi,hpre⟩;simp only[aZ,aP,and_true]at hv;obtain⟨h0,h1,h7,h8⟩:=hv;rw[mJ hlt];simp only[jV,upTo,h0,h1,h7,h8,lH,ssH,ag,ae,reduceIte,af,aj,ah,ai]
 by_cases hil:i<l.length
 ·rw[show decide ((i:Int)<(l.length:Int))=true by simp;omega];have hx:l[i]? = some l[i]:=aI hil;generalize l[i]=e at hx;simp only[CU hx,ssH,ag,ae,reduceIte,af,aj,ah,ai];refine jC (by exact fun m=>hp e m) (by have:=lY (k:=0) e;simp only[kM]at this;simp only[this,nbS]) nbY ?_
  have hany:(l.take (i+1)).any p=p e:=by
   rw[aW,hx,List.any_append,hpre];simp
  cases he:p e
  ·simp only[jQ (show i<4611686018427387904 by omega),ssH,ag,ae,reduceIte,af,aj,ah,ai];refine⟨_,hJ (n-1) (aJ 0) _ (by omega) (jW rfl (aY _) (by decide) (by simp) (by show nbs 0 [lH nn l,.fn (.func g) [] [],it l.length,it (i+1:Nat)];simp only[hnb,nbS]) (fun a ha=>by omega) ⟨i+1,rfl,by omega,by omega,by rw[hany,he]⟩)⟩
  ·simp only[ssH,ag,ae,reduceIte,af,aj,ah,ai];refine jy jD ⟨nbZ,i,rfl,?_⟩;rw[decide_eq_true (by omega)];symm;rw[List.any_eq_true];exact⟨e,bI hx,he⟩
 ·rw[show decide ((i:Int)<(l.length:Int))=false by simp;omega];simp only[ssH,ag,ae,reduceIte,af,aj,ah,ai];refine jy jD ⟨nbZ,-1,rfl,?_⟩;rw[show l.take i=l from bG (by omega)]at hpre;rw[hpre];rfl
theorem Rw{g:FuncId}{p:Ent→Bool}(hp:∀ e m,jB Tryz.prog Γ g ([]++[kM e]++[]) m fun o m'=>o = .ret (.val (.bool (p e)))∧m'=m)(nn:Bool)(l:List Ent)(hl:l.length<4611686018427387904) :
  jB Tryz.prog Γ 94 [lH nn l,.fn (.func g) [] []] m fun o m'=>o = .ret (.val (.bool (l.any p)))∧m'=m:=by
 have hnb:=kL (k:=0) nn l;refine jY (jZ mixed zij zlb jP (by simp only[hnb,nbS]) ?_);simp only[F94,ss0,ay,ag];simp only[ssH,ag,ae,reduceIte,af,aj,ah,ai];refine Ob (by exact fun m=>VY hp nn l hl) (by simp only[hnb,nbS]) (by rintro v ⟨i,rfl,_⟩;exact .val _) ?_;rintro v ⟨i,rfl,hi⟩;simp only[ge_iff_le,ssH,ag,ae,reduceIte,af,aj,ah,ai];exact jy jD ⟨nbZ,by rw[←hi];rfl⟩
theorem VZ(E:Env Γ)(e:Ent):jB Tryz.prog Γ 95 [kM e] m fun o m'=>o = .ret (.val (.bool (!nN e)))∧m'=m:=by
 have hnb:=lY (k:=0) e;refine jY (jZ mixed zii zla jP (by simp only[hnb,nbS]) ?_);simp only[F95,ss0,ay,ag];simp only[kM,ssH,ag,ae,reduceIte,af,aj,ah,ai];refine jC (by exact fun m=>Gl E e) (by simp only[kM]at hnb;simp only[hnb,nbS]) nbY ?_;cases h:nN e
 ·simp only[aF,if_false,ssH,ag,ae,reduceIte,af,aj,ah,ai];exact jy jD ⟨nbZ,rfl⟩
 ·simp only[if_true,ssH,ag,ae,reduceIte,af,aj,ah,ai];exact jy jD ⟨nbZ,rfl⟩
end
section
variable {Γ:jG} {m:Store}
theorem Uu(xo yo:Operand)(a b:Bool):kR Tryz.prog .neq 4 .other xo yo (.val (.bool a)) (.val (.bool b))=some (.val (.bool (a != b))):=by cases a<;>cases b<;>kernel_rfl
theorem Js(E:Env Γ)(nn:Bool)(x:Lg):jB Tryz.prog Γ 42 [lgV nn x] m fun o m'=>o = .ret (it (if lgB x=true then 0 else 4))∧m'=m:=by
 obtain⟨b,c,l⟩:=x;have hnb:=pO (k:=0) nn ⟨b,c,l⟩;have hnl:=kL (k:=0) nn l;have hno:lgB ⟨b,c,l⟩≠true→it 4=it (if lgB ⟨b,c,l⟩=true then 0 else 4):=fun h=>by rw[if_neg h]
 refine jY (jZ mixed ziW zlG jP (by simp only[hnb,nbS]) ?_);simp only[F42,lgV,ss0,ay,ag];simp only[lH,aK,gt_iff_lt,Ap,ssH,ag,ae,reduceIte,af,aj,ah,ai]
 by_cases h1:b<0
 ·simp only[decide_eq_true h1,ssH,ag,ae,reduceIte,af,aj,ah,ai];exact jy jD ⟨nbZ,hno fun h=>by simp only[lgB,aG,decide_eq_true_eq]at h;omega⟩
 simp only[decide_eq_false h1,ssH,ag,ae,reduceIte,af,aj,ah,ai]
 by_cases h2:2147483647<b
 ·simp only[decide_eq_true h2,ssH,ag,ae,reduceIte,af,aj,ah,ai];exact jy jD ⟨nbZ,hno fun h=>by simp only[lgB,aG,decide_eq_true_eq]at h;omega⟩
 simp only[decide_eq_false h2,ssH,ag,ae,reduceIte,af,aj,ah,ai]
 by_cases h3:(65536:Int)<(c.length:Int)
 ·simp only[decide_eq_true h3,ssH,ag,ae,reduceIte,af,aj,ah,ai];exact jy jD ⟨nbZ,hno fun h=>by simp only[lgB,aG,decide_eq_true_eq]at h;omega⟩
 simp only[decide_eq_false h3,Uu,ssH,ag,ae,reduceIte,af,aj,ah,ai];cases h4:((c==[]) != (b==0))
 case true=>
  simp only[ssH,ag,ae,reduceIte,af,aj,ah,ai];refine jy jD ⟨nbZ,hno fun h => ?_⟩;simp only[lgB,aG,beq_iff_eq]at h;rw[h.1.1.1.2]at h4;simp at h4
 simp only[ssH,ag,ae,reduceIte,af,aj,ah,ai]
 by_cases h5:(64:Int)<(l.length:Int)
 ·simp only[decide_eq_true h5,ssH,ag,ae,reduceIte,af,aj,ah,ai];exact jy jD ⟨nbZ,hno fun h=>by simp only[lgB,aG,decide_eq_true_eq]at h;omega⟩
 have hw:IntKind.i64.wrap (2147483647-b)=2147483647-b:=wrap_i64 (by omega) (by omega);simp only[decide_eq_false h5,hw,ssH,ag,ae,reduceIte,af,aj,ah,ai]
 by_cases h6:2147483647-b<(l.length:Int)
 ·simp only[decide_eq_true h6,ssH,ag,ae,reduceIte,af,aj,ah,ai];exact jy jD ⟨nbZ,hno fun h=>by simp only[lgB,aG,decide_eq_true_eq]at h;omega⟩
 simp only[decide_eq_false h6,ssH,ag,ae,reduceIte,af,aj,ah,ai];refine jC (by exact fun m=>Rw (p:=fun e => !nN e) (fun e m=>VZ E e) nn l (by omega)) (by simp only[lH]at hnl;simp only[hnl,nbS]) nbY ?_
 have hb:lgB ⟨b,c,l⟩=l.all nN:=by
  have h4':((c==[])==(b==0))=true:=by
   revert h4;cases (c==[])<;>cases (b==0)<;>simp
  simp only[lgB,h4',decide_eq_true (show(0:Int)≤b by omega),decide_eq_true (show b≤2147483647 by omega),decide_eq_true (show c.length≤65536 by omega),decide_eq_true (show l.length≤64 by omega),decide_eq_true (show(l.length:Int)≤2147483647-b by omega),dD]
 have ha:l.any (fun e => !nN e) = !l.all nN:=by
  rw[List.all_eq_not_any_not];simp
 cases h7:l.any fun e => !nN e
 ·simp only[ssH,ag,ae,reduceIte,af,aj,ah,ai];have hy:lgB ⟨b,c,l⟩=true:=by rw[hb];rw[h7]at ha;simpa using ha.symm
  have h0:it 0=it (if lgB ⟨b,c,l⟩=true then 0 else 4):=by rw[if_pos hy]
  exact jy jD ⟨nbZ,h0⟩
 ·simp only[ssH,ag,ae,reduceIte,af,aj,ah,ai];refine jy jD ⟨nbZ,hno ?_⟩;rw[hb];rw[h7]at ha
  simpa using ha.symm
theorem zbH(E:Env Γ)(nn:Bool)(x:Lg):jB Tryz.prog Γ 130 [lgV nn x] m fun o m'=>o = .ret (it (if lgB x=true then x.b+x.l.length else 0))∧m'=m:=by
 have hnb:=pO (k:=0) nn x;have hnl:=kL (k:=0) nn x.l;refine jY (jZ mixed zgt zj0 jP (by simp only[hnb,nbS]) ?_);simp only[zj1,lgV,ss0,ay,ag];simp only[lH,ssH,ag,ae,reduceIte,af,aj,ah,ai];refine jC (by exact fun m=>Js E nn x) (by simp only[lgV,lH]at hnb;simp only[hnb,nbS]) nbY ?_;cases h:lgB x
 ·simp only[aF,if_false,ssH,ag,ae,reduceIte,af,aj,ah,ai];exact jy jD ⟨nbZ,rfl⟩
 ·have hx:0≤x.b∧x.b≤2147483647∧x.l.length≤64:=by simp only[lgB,aG,decide_eq_true_eq]at h;omega
  have hw:IntKind.i64.wrap (x.b+(x.l.length:Int))=x.b+(x.l.length:Int):=wrap_i64 (by omega) (by omega);simp only[if_true,aK,hw,ssH,ag,ae,reduceIte,af,aj,ah,ai];exact jy jD ⟨nbZ,rfl⟩
end
end Go.Av.Fn
namespace Go.Av
def Jc:List V→Tok→Tok
 |[],.full=>.full
 |[],t=>if vz t then .no else .non
 |_::_,_=>.non
mutual
def wN:V→V
 | .agg cs=>.agg (wNs cs)
 | .tup cs=>.tup (wNs cs)
 | .sl es more t=>.sl (wNs es) (wNs more) (Jc es t)
 |v=>v
def wNs:List V→List V
 |[]=>[]
 |v::l=>wN v::wNs l
end
theorem BV:∀ (a b:List V),wNs (a++b)=wNs a++wNs b
 |[],b=>rfl
 |v::l,b=>by rw[aB,wNs,BV l b];rfl
theorem zk:∀ l:List V,(wNs l).length=l.length
 |[]=>rfl
 |v::l=>by rw[wNs,ax,zk l];rfl
theorem GX{α:Type}{f:α→V}(h:∀ x,wN (f x)=f x):∀ l:List α,wNs (l.map f)=l.map f
 |[]=>rfl
 |x::l=>by rw[fU,wNs,h,GX h l]
theorem Tv(v:V):(wN v).cells=wNs v.cells:=by
 cases v<;>rfl
theorem UO:∀ l:List V,flat (wNs l)=wNs (flat l)
 |[]=>rfl
 |v::l=>by rw[wNs,lD,lD,BV,Tv,UO l]
theorem Xj:∀ {l:List V} {e:V},e∈wNs l→∃ x∈l,e=wN x
 |v::l,e,h=>by
  rw[wNs]at h
  rcases List.mem_cons.1 h with rfl|h
  ·exact⟨v,aU ..,rfl⟩
  ·obtain⟨x,hx,rfl⟩:=Xj h;exact⟨x,aX _ hx,rfl⟩
theorem zdP{G:Gh}{es:List V}{t:Tok}{a:Addr}{cap s:Nat}(h:G.MC t a es.length cap s):G.MC (Jc es t) a es.length cap s:=by
 cases es with
 |cons x l=>trivial
 |nil=>
  cases t with
  |full=>exact absurd rfl h.2
  |_=>simp only[Jc];split<;>trivial
theorem za4{t:Tok}(h:vz t=true):vz (Jc [] t)=true:=by
 cases t<;>first|rfl|cases h|(simp only[Jc,h,if_true];rfl)
mutual
theorem ku.wN{G:Gh}:∀ {v:V} {u:Value},ku G v u→ku G (wN v) u
 |_,_,.val h=>.val h
 |_,_,.ptr b o=>.ptr b o
 |_,_,.elt h k=>.elt h k
 |_,_,.nil h=>by
  simp only[Av.wN,wNs];exact .nil (za4 h)
 |_,_,.arr a b c d=>.arr a b c d
 |_,_,.res a b c=>.res a b c
 |_,_,.sl (es:=es) (more:=more) a b c d e f=>by
  simp only[Av.wN];have hb:=kE.wN b;rw[←UO,BV]at hb;have h8:=zdP f;rw[←zk es]at h8 ⊢;refine .sl (fun x hx => ?_) hb c (by rw[zk,zk];exact d) e h8;rw[←BV]at hx;obtain⟨y,hy,rfl⟩:=Xj hx;rw[Tv,zk];exact a y hy
 |_,_,.fn h k=>.fn h k
 |_,_,.ifc h=>.ifc h
 |_,_,.agg h=>by
  simp only[Av.wN];exact .agg (kE.wN h)
 |_,_,.tup h=>by
  simp only[Av.wN];exact .tup (kE.wN h)
theorem kE.wN{G:Gh}:∀ {v:List V} {u:List Value},kE G v u→kE G (wNs v) u
 |_,_,.nil=>.nil
 |_,_,.cons a b=>.cons (ku.wN a) (kE.wN b)
end
theorem zdO{R:Ren}{es es':List V}{k k':Tok}(a:LR R es es')(c:FB R k k'):FB R (Jc es k) (Jc es' k'):=by
 cases a with
 |cons _ _=>trivial
 |nil=>
  have hn:=P8 c
  cases k<;>cases k'<;>first|exact c.elim|trivial|(simp only[Jc,hn];split<;>trivial)
mutual
theorem VR.wN{R:Ren}:∀ {v v':V},VR R v v'→VR R (wN v) (wN v')
 |_,_,.val v=>.val v
 |_,_,.ptr o r=>.ptr o r
 |_,_,.elt r=>.elt r
 |_,_,.sl a b c=>by
  simp only[Av.wN];exact .sl (LR.wN a) (LR.wN b) (zdO a c)
 |_,_,.fn h a b=>.fn h a b
 |_,_,.ifc r=>.ifc r
 |_,_,.agg r=>by
  simp only[Av.wN];exact .agg (LR.wN r)
 |_,_,.tup r=>by
  simp only[Av.wN];exact .tup (LR.wN r)
 |_,_,.arr o l c r=>.arr o l c r
 |_,_,.res v z n r=>.res v z n r
theorem LR.wN{R:Ren}:∀ {v v':List V},LR R v v'→LR R (wNs v) (wNs v')
 |_,_,.nil=>.nil
 |_,_,.cons a b=>.cons (VR.wN a) (LR.wN b)
end
theorem jB.wnd{P:Program}{Γ:jG}{f:FuncId}{args:List V}{m:Store}{R R':Out→Store→Prop}(h:jB P Γ f args m R)(hr:∀ v m',R (.ret v) m' → R' (.ret (Av.wN v)) m')(hp:∀ v m',R (.pan v) m' → R' (.pan v) m'):jB P Γ f args m R':=by
 refine⟨h.1,fun G B0 mF w cargs hD hR hL=>(h.2 G B0 mF w cargs hD hR hL).mono ?_⟩;rintro e w' ⟨G',m',o,a,b,c,d,r,s⟩
 cases o with
 |ret v=>
  cases r with
  |ret r=>exact⟨G',m',.ret (Av.wN v),a,b,c,d,.ret r.wN,hr _ _ s⟩
 |pan v=>exact⟨G',m',.pan v,a,b,c,d,r,hp _ _ s⟩
def BK(pre:List V)(w:Option FuncId)(bs:List Nat):List V:=pre++match w with
 |some f=>[.fn (.func f) [] (bs.map fun b=>.ptr b 0)]
 |none=>bs.map fun b=>.ptr b 0
structure YU (Xs:List Blk) (cs:List Nat) (m:Store):Prop where
 len:cs.length=Xs.length
 nodup:∀ (i j c:Nat),cs[i]? = some c→cs[j]? = some c→i=j
 cell:∀ (i c:Nat) (X:Blk),cs[i]? = some c→Xs[i]? = some X→m c=some X
def O3(m:Store)(cs:List Nat):Store:=fun c=>if c∈cs then none else m c
def OO(P:Program)(Γ:jG)(g:FuncId)(pre:List V)(w:Option FuncId)(Xs:List Blk)(Qv:V→Prop):Prop:=
 ∀ m cs,YU Xs cs m→jB P Γ g (BK pre w cs) m fun o m'=>(∃ v,o = .ret v∧Qv v)∧m'=O3 m cs
section
variable {P:Program} {Γ:jG} {H:Nat→List (Nat×List Nat)×List Nat} {f:FuncId} {F:AFn} {gs:List Nat}
theorem RP{R:Ren}:∀ {bs cs:List Nat},bs.length=cs.length→(∀ (i b c:Nat),bs[i]? = some b→cs[i]? = some c→R b c)→LR R (bs.map fun b=>.ptr b 0) (cs.map fun b=>.ptr b 0)
 |[],[],_,_=>.nil
 |b::bs,c::cs,hl,h=>.cons (.ptr 0 (h 0 b c rfl rfl)) (RP (by simpa using hl) fun i=>h (i+1))
theorem D9{R:Ren}:∀ {bs:List Nat} {vs:List V},LR R (bs.map fun b=>.ptr b 0) vs→∃ cs:List Nat,vs=cs.map (fun b=>V.ptr b 0)∧cs.length=bs.length∧∀ (i b c:Nat),bs[i]? = some b→cs[i]? = some c→R b c
 |[],vs,h=>by cases h;exact⟨[],rfl,rfl,fun i b c hb=>by simp at hb⟩
 |b::bs,vs,h=>by
  cases h with
  |cons h1 h2=>
   cases h1 with
   | @ptr _ c _ r=>
    obtain⟨cs,rfl,hl,hr⟩:=D9 h2;refine⟨c::cs,rfl,by simp[hl],?_⟩;intro i b' c' hb hc
    cases i with
    |zero=>cases hb;cases hc;exact r
    |succ i=>exact hr i b' c' (by simpa using hb) (by simpa using hc)
theorem NK{R:Ren}:∀ {a b:List V} {vs:List V},LR R (a++b) vs→∃ a' b',vs=a' ++ b'∧LR R a a'∧LR R b b'
 |[],b,vs,h=>⟨[],vs,rfl,.nil,h⟩
 |x::a,b,vs,h=>by
  cases h with
  |cons h1 h2=>
   obtain⟨a',b',rfl,r1,r2⟩:=NK h2;exact⟨_::a',b',rfl,.cons h1 r1,r2⟩
theorem zda{R:Ren}{pre:List V}{w:Option FuncId}{bs cs:List Nat}(hp:nbs 0 pre)(hl:bs.length=cs.length)(h:∀ (i b c:Nat),bs[i]? = some b→cs[i]? = some c→R b c):LR R (BK pre w bs) (BK pre w cs):=by
 refine(hp.up R).append ?_
 cases w with
 |none=>exact RP hl h
 |some f=>exact .cons (.fn rfl .nil (RP hl h)) .nil
theorem zat{R:Ren}{pre:List V}{w:Option FuncId}{bs:List Nat}{vs:List V}(hp:nbs 0 pre)(h:LR R (BK pre w bs) vs):∃ cs:List Nat,vs=BK pre w cs∧cs.length=bs.length∧∀ (i b c:Nat),bs[i]? = some b→cs[i]? = some c→R b c:=by
 obtain⟨a',b',rfl,r1,r2⟩:=NK h;obtain rfl:=ou hp r1
 cases w with
 |none=>
  obtain⟨cs,rfl,q1,q2⟩:=D9 r2;exact⟨cs,rfl,q1,q2⟩
 |some f=>
  cases r2 with
  |cons h1 h2=>
   cases h2
   cases h1 with
   |fn _ r3 r4=>
    cases r3;obtain⟨cs,rfl,q1,q2⟩:=D9 r4;exact⟨cs,rfl,q1,q2⟩
theorem IA{Xs:List Blk}:∀ {a:Nat} {x:Blk},lk (Xs.map some) a=some x→Xs[a]? = some x:=by
 induction Xs with
 |nil=>intro a x h;cases a<;>cases h
 |cons X Xs ih=>
  intro a x h
  cases a with
  |zero=>simpa [lk] using h
  |succ a=>simpa using ih (a:=a) h
theorem Zj{n i b:Nat}(h:(aJ n)[i]? = some b):b=i∧i<n:=by
 obtain⟨h1,rfl⟩:=List.getElem?_eq_some_iff.1 h;simp at h1 ⊢;exact h1
theorem Wj(hm:P.follows .mixedOrders=true)(hF:qO P H f=some F)(hok:F.body.okH gs=true)(hG:GOk Γ gs){pre:List V}{w:Option FuncId}{Xs:List Blk}(ha:nbs 0 pre)(hX:∀ X∈Xs,nbB 0 X){Qv:V→Prop}
  (h:qB P Γ (fun _ _=>False) Xs.length F.body (uU F.res fun v _=>nb 0 (wN v)∧Qv (wN v)) ⟨start F.ntmps (BK pre w (aJ Xs.length)),Xs.map some⟩):OO P Γ f pre w Xs Qv:=by
 intro m cs hc
 have hH : HH (fun a c => cs[a]? = some c) (Xs.map some) (fun c => if c ∈ cs then m c else none) := {
  blk:=by
   intro a c x r hx;refine⟨x,?_,(hX x ?_).up _⟩
   ·show(if c∈cs then m c else none)=some x;rw[if_pos (bI r)];exact hc.cell a c x r (IA hx)
   ·exact bI (IA hx)
  left:=by
   intro a c c' r r';rw[r]at r';exact fZ r'
  right:=by
   intro a b c x y r r' _ _;exact hc.nodup a b c r r'
  dom:=by
   intro a c r;left;have:=(List.getElem?_eq_some_iff.1 r).1;rw[hc.len]at this
   simpa using this }
 have h1:=uh (P:=P) (Γ:=Γ) (R0:=fun a c=>cs[a]? = some c) (N:=Xs.length) (m:=fun c=>if c∈cs then m c else none) hm hF hok hG (args0:=BK pre w (aJ Xs.length)) (args:=BK pre w cs)
  (zda ha (by simp[hc.len]) fun i b c hb hc'=>by rw[(Zj hb).1];exact hc') hH (fun b b' r=>by have:=(List.getElem?_eq_some_iff.1 r).1;rw[hc.len]at this;exact this) (Q:=fun o h'=>match o with | .ret v=>nb 0 (wN v)∧Qv (wN v) | .pan _=>False) h
 have hD:mQ (fun c=>if c∈cs then m c else none) (O3 m cs):=by
  intro c;unfold O3
  by_cases e:c∈cs
  ·exact .inr (by simp[e])
  ·exact .inl (by simp[e])
 have e:Store.or (fun c=>if c∈cs then m c else none) (O3 m cs)=m:=by
  funext c;unfold Store.or O3
  by_cases e:c∈cs
  ·simp only[if_pos e];cases m c<;>rfl
  ·simp only[if_neg e]
 have h2:=h1.frame hD;rw[e]at h2;refine jB.wnd (R:=fun o m'=>(∃ v,o = .ret v∧Qv (wN v))∧m'=O3 m cs) (jB.less h2 ?_) ?_ ?_
 ·rintro o m'' ⟨m',rfl,d,S,o0,h',s1,s2,s3,s4⟩;refine⟨O3 m cs,?_,?_,rfl⟩
  ·intro b x hb
   rcases d b with q|q
   ·simp only[Store.or,q];exact hb
   ·rw[q]at hb;cases hb
  ·cases o0 with
   |ret v=>
    cases o with
    |ret v' =>
     have e3:wN v'=wN v:=D7 s4.1 (VR.wN s3);exact⟨v',rfl,by rw[e3];exact s4.2⟩
    |pan v'=>exact s3.elim
   |pan v=>exact s4.elim
 ·rintro v m' ⟨⟨v',e9,q⟩,h9⟩;cases e9;exact⟨⟨_,rfl,q⟩,h9⟩
 ·rintro v m' ⟨⟨v',e9,q⟩,_⟩;cases e9
theorem BN(hm:P.follows .mixedOrders=true)(hF:qO P H f=some F)(hok:F.body.okH gs=true)(hG:GOk Γ gs){args:List V}{m:Store}(ha:nbs 0 args){Qv:V→Prop}
  (h:qB P Γ (fun _ _=>False) 0 F.body (uU F.res fun v _=>nb 0 (wN v)∧Qv (wN v)) ⟨start F.ntmps args,[]⟩):jB P Γ f args m fun o m'=>(∃ v,o = .ret v∧Qv v)∧m'=m:=by
 have:=Wj (pre:=args) (w:=none) (Xs:=[]) hm hF hok hG ha (fun _ h=>by cases h) (Qv:=Qv) (by simpa [BK] using h) m [] ⟨rfl,fun i j c h=>by simp at h,fun i c X h=>by simp at h⟩;have e:O3 m []=m:=by funext c;simp[O3]
 rw[e]at this
 simpa [BK] using this
def hdrop(h:Hl):List Nat→Hl
 |[]=>h
 |b::bs=>hdrop (hset h b none) bs
theorem UJ{R:Ren}{m:Store}:∀ {h:Hl} (bs:List Nat),HH R h m→HH R (hdrop h bs) m
 |h,[],H=>H
 |h,b::bs,H=>UJ bs (H.drop b)
theorem We{h:Hl}{b c:Nat}{x:Blk}(e:lk (hset h b none) c=some x):c≠b∧lk h c=some x:=by
 rw[wS]at e
 split at e
 ·cases e
 ·rename_i k;refine⟨?_,e⟩;rintro rfl;exact k ⟨rfl,Eb e⟩
theorem J5:∀ (bs:List Nat) {h:Hl} {c:Nat} {x:Blk},lk (hdrop h bs) c=some x→c∉bs∧lk h c=some x
 |[],h,c,x,e=>⟨by simp,e⟩
 |b::bs,h,c,x,e=>by
  obtain⟨h1,h2⟩:=J5 bs e;obtain⟨h3,h4⟩:=We h2;exact⟨by simp[h1,h3],h4⟩
section
variable {Γ:jG} {Kp:V→Hl→Prop} {l:List Item} {K:HS→Prop} {t:List V} {h:Hl} {d:Option Tmp} {s:List (Tmp×Option (Tmp×Bool)×AOp)} {g:FuncId} {first args caps:List V}
theorem Yc{pre:List V}{w:Option FuncId}{Xs:List Blk}{Qv:V→Prop}(bs:List Nat)(hA:OO P Γ g pre w Xs Qv)(he:first++args++caps=BK pre w bs)(hl:bs.length=Xs.length)(hn:bs.Nodup)(hb:∀ (i b:Nat) (X:Blk),bs[i]? = some b→Xs[i]? = some X→lk h b=some X)
  (hp:nbs 0 pre) (hX:∀ X∈Xs,nbB 0 X) (hv:∀ v,Qv v→nb 0 v) (hr:∀ v,Qv v→hth P Γ Kp s l K (hput t (hdrop h bs) d (some v))):tC P Γ Kp (.fn (.func g) first caps) args d s l K t h:=by
 intro R args' m' rl H;rw[he]at rl;obtain⟨cs,rfl,c1,c2⟩:=zat hp rl
 have hcell:∀ (i b c:Nat) (X:Blk),bs[i]? = some b→cs[i]? = some c→Xs[i]? = some X→m' c=some X:=by
  intro i b c X h1 h2 h3;obtain⟨x',h4,h5⟩:=H.blk _ _ _ (c2 i b c h1 h2) (hb i b X h1 h3);obtain rfl:=Gp (hX X (bI h3)) h5;exact h4
 have hlen:cs.length=Xs.length:=c1.trans hl
 have hok : YU Xs cs m' := {
  len:=hlen
  nodup:=by
   intro i j c e1 e2;have hi:=(List.getElem?_eq_some_iff.1 e1).1;have hj:=(List.getElem?_eq_some_iff.1 e2).1;have b1:bs[i]? = some (bs[i]'(by omega)):=aI (by omega);have b2:bs[j]? = some (bs[j]'(by omega)):=aI (by omega);have x1:Xs[i]? = some (Xs[i]'(by omega)):=aI (by omega);have x2:Xs[j]? = some (Xs[j]'(by omega)):=aI (by omega);have e:=H.right _ _ _ _ _ (c2 i _ _ b1 e1) (c2 j _ _ b2 e2) (hb i _ _ b1 x1) (hb j _ _ b2 x2);have hp2:=List.pairwise_iff_getElem.1 hn
   rcases Nat.lt_trichotomy i j with k|k|k
   ·exact absurd e (hp2 i j (by omega) (by omega) k)
   ·exact k
   ·exact absurd e.symm (hp2 j i (by omega) (by omega) k)
  cell:=by
   intro i c X h2 h3;have hi:i<bs.length:=by have:=(List.getElem?_eq_some_iff.1 h3).1;omega
   exact hcell i _ c X (aI hi) h2 h3 }
 refine(hA m' cs hok).mono ?_;rintro o m'' ⟨⟨v,rfl,hq⟩,rfl⟩;refine⟨R,.ret v,hdrop h bs,R.le_refl,(UJ bs H).to fun b c x hbc hx => ?_,(hv v hq).up R,hr v hq⟩;unfold O3;rw[if_neg];intro hmem;obtain⟨i,hi⟩:=List.getElem?_of_mem hmem;have hlt:=(List.getElem?_eq_some_iff.1 hi).1;have b1:bs[i]? = some (bs[i]'(by omega)):=aI (by omega);have x1:Xs[i]? = some (Xs[i]'(by omega)):=aI (by omega);obtain⟨h1,h2⟩:=J5 bs hx;have e:=H.right _ _ _ _ _ hbc (c2 i _ _ b1 hi) h2 (hb i _ _ b1 x1);subst e;exact h1 (bI b1)
end
end
end Go.Av
namespace Go.Av.Fn
open Go.Proofs
theorem zdM(e:Ent):wN (kM e)=kM e:=by simp only[kM,wN,wNs];rfl
theorem zaN(l:List Ent):wNs (l.map kM)=l.map kM:=GX zdM l
theorem QR{l:List Ent}{t:Tok}(h:l≠[]∨vz t=false):wN (.sl (l.map kM) [] t)=lH true l:=by
 simp only[wN,zaN,lH,if_true]
 cases l with
 |nil=>
  have ht:vz t=false:=by simpa using h
  have e2:Jc [] t = .non:=by
   cases t with
   |no=>cases ht
   |full=>cases ht
   |zero b=>cases b<;>first|rfl|cases ht
   |_=>rfl
  simp only[gy,wNs,e2]
 |cons e l=>rfl
theorem zaP{nn:Bool}{l:List Ent}(h:nn=true∨l=[]):wN (lH nn l)=lH nn l:=by
 cases nn
 ·have:l=[]:=by simpa using h
  subst this;rfl
 ·exact QR (.inr rfl)
theorem QS{nn:Bool}{x:Lg}(h:nn=true∨x.l=[]):wN (lgV nn x)=lgV nn x:=by
 simp only[lgV,wN,wNs,zaP h,bs]
theorem yC(l:List Ent):oq 8 (l.map kM)=true:=by
 simp only[oq,List.all_map,List.all_eq_true];intro x _;rfl
section
variable {Γ:jG} {m:Store}
end
def zA(nn:Bool)(x:Lg):Blk:=.var 26 [it x.b,bs x.c,lH nn x.l]
theorem Lp(nn:Bool)(x:Lg):nbB 0 (zA nn x):=by
 have:=kL (k:=0) nn x.l;simp only[zA,this,nbS]
theorem jL{nn:Bool}{l:List Ent}:oW (lH nn l)=true:=(rfl)
def upV(nn:Bool)(l:List Ent)(n:Nat):V:=.sl ((l.take n).map kM) [] (if 0<n then .full else if nn then .zero true else .full)
theorem zc6{nn:Bool}{l:List Ent}(h:nn=true∨l=[]){n:Nat}(hn:n≤l.length):sF 8 (lH nn l) (some none) (some (some (n:Int))) (some (some (n:Int)))=some (upV nn l n):=by
 have hs:oq 8 (l.map kM++[])=true:=by rw[aS];exact yC l
 simp only[lH,sF,hs,if_true,cutV,Option.getD_none,Option.getD_some,bn,aK,Int.toNat_zero,List.drop_zero];rw[if_pos ⟨by omega,by omega,by omega,rfl,trivial,by omega,hn⟩,upV,List.map_take];congr 2;simp only[GG]
 by_cases h0:0<n
 ·rw[if_pos h0,if_pos h0]
 ·rw[if_neg h0,if_neg h0]
  cases l with
  |nil=>cases nn<;>rfl
  |cons e l=>
   have:nn=true:=by simpa using h
   subst this;rfl
section
variable {Γ:jG} {m:Store}
theorem QU{X1 X2:Blk}(h1:nbB 0 X1)(h2:nbB 0 X2):∀ X∈[X1,X2],nbB 0 X:=by
 intro X hX;simp only[dQ,dm,or_false]at hX
 rcases hX with rfl|rfl<;>assumption
theorem Xl{h:Hl}{X1 X2:Blk}{a b:Nat}(h1:lk h a=some X1)(h2:lk h b=some X2):∀ (i c:Nat) (X:Blk),[a,b][i]? = some c→[X1,X2][i]? = some X→lk h c=some X:=by
 intro i c X hb hX
 match i with
 |0=>cases hb;cases hX;exact h1
 |1=>cases hb;cases hX;exact h2
 |i+2=>simp at hb
end
theorem zb7(b:UInt8)(r:List UInt8):nameB (b::r)=(decide ((b::r).length≤20)&&xn b && !(lw.contains (b::r))&&r.all fun x=>xn x||dig x):=by
 have hall:∀ l:List UInt8,decide ((l.takeWhile fun x=>xn x||dig x).length=l.length)=l.all fun x=>xn x||dig x:=by
  intro l
  induction l with
  |nil=>rfl
  |cons x l ih=>
   rw[List.takeWhile_cons,List.all_cons];cases hx:(xn x||dig x)
   ·simp
   ·simp only[if_true,ax,dD,Nat.add_right_cancel_iff];exact ih
 have hd:xn b=true→dig b=false:=by
  intro h;cases hd:dig b
  ·rfl
  ·simp only[xn,dig,cZ,aG,decide_eq_true_eq,beq_iff_eq]at h hd;omega
 simp only[nameB,hall,List.all_cons,fC,show((b::r)==[])=false from rfl,aN,dD];cases h1:xn b
 ·cases dig b<;>cases lw.contains (b::r)<;>simp
 ·rw[hd h1];cases lw.contains (b::r)<;>simp
section
variable {Γ:jG} {m:Store}
theorem Gf(n:Int):jB Tryz.prog Γ 103 [it n] m fun o m'=>o = .ret (.val (.bool (qR n)))∧m'=m:=by
 refine jY (jZ mixed zgN zks jP nbY ?_);simp only[zkt,ss0,ay,ag];simp only[ge_iff_le,ssH,ag,ae,reduceIte,af,aj,ah,ai];cases h:decide (1≤n)
 ·simp only[h,ssH,ag,ae,reduceIte,af,aj,ah,ai];exact jy jD ⟨nbZ,by simp only[qR,h];rfl⟩
 ·simp only[h,ssH,ag,ae,reduceIte,af,aj,ah,ai];exact jy jD ⟨nbZ,by simp only[qR,h];rfl⟩
theorem Zm(s:List UInt8):jB Tryz.prog Γ 104 [bs s] m fun o m'=>o = .ret (.val (.bool (nameB s)))∧m'=m:=by
 refine jY (jZ mixed zgM zkq jP nbY ?_);simp only[zkr,ss0,ay,ag];simp only[oV,gt_iff_lt,ssH,ag,ae,reduceIte,af,aj,ah,ai]
 cases s with
 |nil=>
  simp only[show decide ((([]:List UInt8).length:Int)<1)=true from rfl,aA,show decide (((0:Nat):Int)<1)=true from rfl,ssH,ag,ae,reduceIte,af,aj,ah,ai];exact jy jD ⟨nbZ,rfl⟩
 |cons b r=>
  rw[zb7];have hx:zV (bs (b::r)) (.val (.int .i64 0))=some (by8 b):=nG (i:=0) rfl;have hd1:decide ((((b::r).length:Nat):Int)<1)=false:=by simp only[ax];exact decide_eq_false (by omega)
  have hd1':decide (((r.length+1:Nat):Int)<1)=false:=decide_eq_false (by omega)
  by_cases hl:(b::r).length≤20
  ·have hd2:decide ((20:Int)<((r.length+1:Nat):Int))=false:=by simp only[ax]at hl;exact decide_eq_false (by omega)
   have hl2:decide ((b::r).length≤20)=true:=decide_eq_true hl;rw[hl2,dD];simp only[hd1,hd1',hd2,hx,ssH,ag,ae,reduceIte,af,aj,ah,ai];refine jC (by exact fun m=>xX b) nbY nbY ?_;cases h1:xn b
   ·simp only[aN,ssH,ag,ae,reduceIte,af,aj,ah,ai];exact jy jD ⟨nbZ,rfl⟩
   ·simp only[aO,ssH,ag,ae,reduceIte,af,aj,ah,ai];refine jC (by exact fun m=>Nj (b::r)) nbY nbY ?_;cases h2:lw.contains (b::r)
    case true=>
     simp only[ssH,ag,ae,reduceIte,af,aj,ah,ai];exact jy jD ⟨nbZ,rfl⟩
    simp only[aN,dD,ssH,ag,ae,reduceIte,af,aj,ah,ai];refine mi [0,3] 40 (fun n vs h=>∃ i:Nat,vs=[bs (b::r),it (i+1:Nat)]∧i+n=r.length+1∧i≤r.length∧(r.take i).all (fun x=>xn x||dig x)=true) (r.length+1) (by decide) (by decide) (aJ 0) (jW rfl (aY _) (by decide) (by simp) (by show nbs 0 [bs (b::r),it 1];simp only[nbS]) (fun a ha=>by omega) ⟨0,rfl,by omega,by omega,by simp⟩) ?_;rintro n t h J hJ hlt ⟨i,hv,hn,hi,hpre⟩;simp only[aZ,aP,and_true]at hv;obtain⟨g0,g3⟩:=hv;rw[mJ hlt];simp only[jV,upTo,g0,g3,oV,ssH,ag,ae,reduceIte,af,aj,ah,ai]
    by_cases hil:i<r.length
    ·have hx2:(b::r)[i+1]? = some r[i]:=by simp[aI hil]
     have hx3:r[i]? = some r[i]:=aI hil;generalize r[i]=c at hx2 hx3
     have hany:(r.take (i+1)).all (fun x=>xn x||dig x)=(xn c||dig c):=by
      rw[aW,hx3,List.all_append,hpre];simp
     have hfin:(xn c||dig c)=false→r.all (fun x=>xn x||dig x)=false:=by
      intro hc;rw[List.all_eq_false];exact⟨c,bI hx3,by simpa using hc⟩
     simp only[show decide (((i+1:Nat):Int)<((r.length+1:Nat):Int))=true from decide_eq_true (by omega),nG hx2,ssH,ag,ae,reduceIte,af,aj,ah,ai];refine jC (by exact fun m=>xX c) nbY nbY ?_;cases h3:xn c
     ·simp only[aN,nG hx2,ssH,ag,ae,reduceIte,af,aj,ah,ai];refine jC (by exact fun m=>zS c) nbY nbY ?_;cases h4:dig c
      ·simp only[aN,ssH,ag,ae,reduceIte,af,aj,ah,ai];exact jy jD ⟨nbZ,by rw[hfin (by rw[h3,h4];rfl)];rfl⟩
      ·simp only[aO,jQ (show i+1<4611686018427387904 by simp only[ax]at hl;omega),ssH,ag,ae,reduceIte,af,aj,ah,ai];refine⟨_,hJ (n-1) (aJ 0) _ (by omega) (jW rfl (aY _) (by decide) (by simp) (by show nbs 0 [bs (b::r),it (i+1+1:Nat)];simp only[nbS]) (fun a ha=>by omega) ⟨i+1,rfl,by omega,by omega,by rw[hany,h3,h4];rfl⟩)⟩
     ·simp only[aO,jQ (show i+1<4611686018427387904 by simp only[ax]at hl;omega),ssH,ag,ae,reduceIte,af,aj,ah,ai];refine⟨_,hJ (n-1) (aJ 0) _ (by omega) (jW rfl (aY _) (by decide) (by simp) (by show nbs 0 [bs (b::r),it (i+1+1:Nat)];simp only[nbS]) (fun a ha=>by omega) ⟨i+1,rfl,by omega,by omega,by rw[hany,h3];rfl⟩)⟩
    ·simp only[show decide (((i+1:Nat):Int)<((r.length+1:Nat):Int))=false from decide_eq_false (by omega),ssH,ag,ae,reduceIte,af,aj,ah,ai];rw[bG (by omega)]at hpre;exact jy jD ⟨nbZ,by rw[hpre];rfl⟩
  ·have hd2:decide ((20:Int)<((r.length+1:Nat):Int))=true:=by simp only[ax]at hl;exact decide_eq_true (by omega)
   have hl2:decide ((b::r).length≤20)=false:=decide_eq_false hl;rw[hl2];simp only[hd1,hd1',hd2,dK,ssH,ag,ae,reduceIte,af,aj,ah,ai];exact jy jD ⟨nbZ,rfl⟩
end
def lg0:Lg:=⟨0,[],[]⟩
section
variable {Γ:jG} {m:Store}
theorem zbG(E:Env Γ){nn:Bool}{x:Lg}{g:FuncId}{X1 X2:Blk}{a:Bool}{y:Lg}{e:Int}(ha:a=true∨y.l=[])(hX:∀ X∈[X1,X2],nbB 0 X)
  (hdo:lgB x=true→OO Tryz.prog Γ g [] none [X1,X2] fun v=>v = .tup [lgV a y,it e]) :
  OO Tryz.prog Γ 150 [lgV nn x] (some g) [X1,X2] fun v=>v=if lgB x=true then (if e=0 then .tup [lgV a y,it 0]else .tup [lgV false lg0,it e])else .tup [lgV false lg0,it 4]:=by
 have hnb:=pO (k:=0) nn x;have hna:=pO (k:=0) a y;have hn0:=pO (k:=0) false lg0;have hwa:=QS ha;have hw0:=QS (nn:=false) (x:=lg0) (.inr rfl);refine Wj mixed zga zjE jP (by simp only[hnb,nbS]) hX ?_;simp only[zjF,BK,ax,aA,ag,aJ,List.range.loop,aZ,lgV,ss0,ay,ag];simp only[jA,jL,ssH,ag,ae,reduceIte,af,aj,ah,ai];refine jC (by exact fun m=>Js E nn x) (by simp only[lgV]at hnb;simp only[hnb,nbS]) nbY ?_;cases hx:lgB x
 ·simp only[aF,if_false,ssH,ag,ae,reduceIte,af,aj,ah,ai];exact jy (v:=.tup [lgV false lg0,it 4]) rfl ⟨by simp only[wN,wNs,hw0,hn0,nbS],by simp only[wN,wNs,hw0];rfl⟩
 ·simp only[if_true,ssH,ag,ae,reduceIte,af,aj,ah,ai];refine Yc [0,1] (hdo hx) rfl rfl (by decide) (Xl rfl rfl) nbY hX (by rintro v rfl;simp only[hna,nbS]) ?_;rintro v rfl;simp only[hdrop,lgV,jA,jL,ssH,ag,ae,reduceIte,af,aj,ah,ai]
  by_cases he:e=0
  ·subst he;simp only[if_true,jA,jL,ssH,ag,ae,reduceIte,af,aj,ah,ai];exact jy (v:=.tup [lgV a y,it 0]) rfl ⟨by simp only[wN,wNs,hwa,hna,nbS],by simp only[wN,wNs,hwa];rfl⟩
  ·have hb:(e != 0)=true:=by simpa using he
   simp only[hb,if_neg he,jA,jL,ssH,ag,ae,reduceIte,af,aj,ah,ai];exact jy (v:=.tup [lgV false lg0,it e]) rfl ⟨by simp only[wN,wNs,hw0,hn0,nbS],by simp only[wN,wNs,hw0];rfl⟩
def doL(x:Lg)(r:Bool×Lg×Int):Bool×Lg×Int:=if lgB x=true then (if r.2.2=0 then r else (false,lg0,r.2.2))else (false,lg0,4)
theorem zeY{x:Lg}{r:Bool×Lg×Int}(h:r.1=true∨r.2.1.l=[]):(doL x r).1=true∨(doL x r).2.1.l=[]:=by
 unfold doL
 split
 ·split
  ·exact h
  ·exact .inr rfl
 ·exact .inr rfl
theorem zhl{x:Lg}{r:Bool×Lg×Int}:(if lgB x=true then (if r.2.2=0 then V.tup [lgV r.1 r.2.1,it 0]else .tup [lgV false lg0,it r.2.2])else .tup [lgV false lg0,it 4]) = .tup [lgV (doL x r).1 (doL x r).2.1,it (doL x r).2.2]:=by
 unfold doL
 by_cases h:lgB x=true
 ·by_cases he:r.2.2=0
  ·simp only[if_pos h,if_pos he];rw[he]
  ·simp only[if_pos h,if_neg he]
 ·simp only[if_neg h]
end
theorem Ij{k:Nat}{A:Blk}{r:Hl}(hA:nbB k A):∀ a<1,∀ x,lk (some A::r) a=some x→nbB k x:=by
 intro a ha x hx;have:a=0:=by omega
 subst this;cases hx;exact hA
theorem zhJ(a b:Int)(c:List UInt8):nbs 0 [.agg [it a,it b,bs c]]:=by simp only[nbS]
section
variable {Γ:jG} {m:Store}
set_option maxHeartbeats 6400000 in
theorem DW(e:Ent):jB Tryz.prog Γ 51 [kM e] m fun o m'=>o = .ret (.val (.bool (nN e)))∧m'=m:=by
 obtain⟨c,q,k,n,s,ck,cn,cs⟩:=e;refine jY (jZ mixed ziO zly jP (by simp only[kM,nbS]) ?_);simp only[F51,kM,ss0,ay,ag];simp only[jA,ssH,ag,ae,reduceIte,af,aj,ah,ai];refine jC (by exact fun m=>Gf c) nbY nbY ?_;have hk:k=1∨k=4∨k=2∨k=3∨k=5∨k=6∨k=7∨(k≠1∧k≠4∧k≠2∧k≠3∧k≠5∧k≠6∧k≠7):=by omega
 cases h1:qR c
 ·simp only[aN,ssH,ag,ae,reduceIte,af,aj,ah,ai];exact jy jD ⟨nbZ,by simp[jT,nN,h1]⟩
 simp only[aO,ssH,ag,ae,reduceIte,af,aj,ah,ai];refine jC (by exact fun m=>Gf q) nbY nbY ?_;cases h2:qR q
 ·simp only[aN,ssH,ag,ae,reduceIte,af,aj,ah,ai];exact jy jD ⟨nbZ,by simp[jT,nN,h2]⟩
 simp only[aO,ssH,ag,ae,reduceIte,af,aj,ah,ai]
 rcases hk with rfl|rfl|rfl|rfl|rfl|rfl|rfl|⟨n1,n4,n2,n3,n5,n6,n7⟩
 case inr.inr.inr.inr.inr.inr.inr=>
  have b7:(k != 7)=true:=by simpa using n7
  have b1:(k != 1)=true:=by simpa using n1
  cases h5:decide (ck=0∧cn=0∧cs=[])<;>cases h3:(s==[])<;>simp only[b7,b1,xA,h5,JM,h3,aO,aN,ssH,ag,ae,reduceIte,af,aj,ah,ai]
  case true.true=>
   simp only[show(k==1)=false by simpa using n1,show(k==4)=false by simpa using n4,show(k==2)=false by simpa using n2,show(k==3)=false by simpa using n3,show(k==5)=false by simpa using n5,show(k==6)=false by simpa using n6,show(k==7)=false by simpa using n7,ssH,ag,ae,reduceIte,af,aj,ah,ai];exact jy jD ⟨nbZ,by simp[jT,nN,n1,n2,n3,n4,n5,n6,n7]⟩
  all_goals exact jy jD ⟨nbZ,by simp[jT,nN,n1,n2,n3,n4,n5,n6,n7]⟩
 case inr.inr.inr.inr.inr.inr.inl=>
  cases h3:(s==[])<;>cases h4:(n==0)<;>simp only[JM,h3,h4,aO,aN,ssH,ag,ae,reduceIte,af,aj,ah,ai]
  case true.true=>
   refine jC (by exact fun m=>ZR ck cn cs) (zhJ _ _ _) nbY ?_;simp only[ssH,ag,ae,reduceIte,af,aj,ah,ai];exact jy jD ⟨nbZ,by simp only[jH,jI,nN,h1,h2,h3,h4];rfl⟩
  all_goals exact jy jD ⟨nbZ,by simp only[jH,jI,nN,h1,h2,h3,h4];rfl⟩
 case inl=>
  cases h5:decide (ck=0∧cn=0∧cs=[])
  ·simp only[xA,h5,aN,ssH,ag,ae,reduceIte,af,aj,ah,ai];exact jy jD ⟨nbZ,by simp only[jH,jI,nN,AZ,h1,h2,h5,dL];rfl⟩
  ·simp only[xA,h5,aO,ssH,ag,ae,reduceIte,af,aj,ah,ai];refine jC (by exact fun m=>Zm s) nbY nbY ?_;cases h3:nameB s<;>cases h4:(n==0)<;>cases h6:(n==1)<;>simp only[h4,h6,ssH,ag,ae,reduceIte,af,aj,ah,ai]<;>exact jy jD ⟨nbZ,by simp only[jH,jI,nN,AZ,h1,h2,h3,h4,h5,h6];rfl⟩
 case inr.inl=>
  cases h5:decide (ck=0∧cn=0∧cs=[])<;>cases h3:(s==[])<;>simp only[xA,h5,JM,h3,aO,aN,ssH,ag,ae,reduceIte,af,aj,ah,ai]
  case true.true=>
   refine jC (by exact fun m=>Gf n) nbY nbY ?_;simp only[ssH,ag,ae,reduceIte,af,aj,ah,ai];exact jy jD ⟨nbZ,by simp only[jH,jI,nN,AZ,h1,h2,h3,h5];cases qR n<;>rfl⟩
  all_goals exact jy jD ⟨nbZ,by simp only[jH,jI,nN,AZ,h1,h2,h3,h5,dL];rfl⟩
 all_goals
  cases h5:decide (ck=0∧cn=0∧cs=[])<;>cases h3:(s==[])<;>cases h4:(n==0)<;>simp only[xA,h4,h5,JM,h3,aO,aN,ssH,ag,ae,reduceIte,af,aj,ah,ai]<;>exact jy jD ⟨nbZ,by simp only[jH,jI,nN,AZ,h1,h2,h3,h4,h5,dL];rfl⟩
theorem zT(nn:Bool)(x:Lg):jB Tryz.prog Γ 92 [lgV nn x] m fun o m'=>o = .ret (.val (.bool (lgB x)))∧m'=m:=by
 obtain⟨b,c,l⟩:=x;have hnb:=pO (k:=0) nn ⟨b,c,l⟩;have hnl:=kL (k:=0) nn l;have hlb:=Lp nn ⟨b,c,l⟩;have hno:lgB ⟨b,c,l⟩≠true→V.val (.bool false) = .val (.bool (lgB ⟨b,c,l⟩)):=fun h=>by rw[Bool.eq_false_iff.2 h]
 refine jY (jZ mixed zil zld jP (by simp only[hnb,nbS]) ?_);simp only[F92,lgV,ss0,ay,ag];simp only[lH,aK,gt_iff_lt,Ap,jA,ssH,ag,ae,reduceIte,af,aj,ah,ai]
 by_cases h1:b<0
 ·simp only[decide_eq_true h1,ssH,ag,ae,reduceIte,af,aj,ah,ai];exact jy jD ⟨nbZ,hno fun h=>by simp only[lgB,aG,decide_eq_true_eq]at h;omega⟩
 simp only[decide_eq_false h1,ssH,ag,ae,reduceIte,af,aj,ah,ai]
 by_cases h2:2147483647<b
 ·simp only[decide_eq_true h2,ssH,ag,ae,reduceIte,af,aj,ah,ai];exact jy jD ⟨nbZ,hno fun h=>by simp only[lgB,aG,decide_eq_true_eq]at h;omega⟩
 simp only[decide_eq_false h2,ssH,ag,ae,reduceIte,af,aj,ah,ai]
 by_cases h3:(65536:Int)<(c.length:Int)
 ·simp only[decide_eq_true h3,ssH,ag,ae,reduceIte,af,aj,ah,ai];exact jy jD ⟨nbZ,hno fun h=>by simp only[lgB,aG,decide_eq_true_eq]at h;omega⟩
 simp only[decide_eq_false h3,Uu,Ap,ssH,ag,ae,reduceIte,af,aj,ah,ai];cases h4:((c==[]) != (b==0))
 case true=>
  simp only[ssH,ag,ae,reduceIte,af,aj,ah,ai];refine jy jD ⟨nbZ,hno fun h => ?_⟩;simp only[lgB,aG,beq_iff_eq]at h;rw[h.1.1.1.2]at h4;simp at h4
 simp only[aK,gt_iff_lt,ssH,ag,ae,reduceIte,af,aj,ah,ai]
 by_cases h5:(64:Int)<(l.length:Int)
 ·simp only[decide_eq_true h5,ssH,ag,ae,reduceIte,af,aj,ah,ai];exact jy jD ⟨nbZ,hno fun h=>by simp only[lgB,aG,decide_eq_true_eq]at h;omega⟩
 have hw:IntKind.i64.wrap (2147483647-b)=2147483647-b:=wrap_i64 (by omega) (by omega);simp only[decide_eq_false h5,aK,gt_iff_lt,hw,ssH,ag,ae,reduceIte,af,aj,ah,ai]
 by_cases h6:2147483647-b<(l.length:Int)
 ·simp only[decide_eq_true h6,ssH,ag,ae,reduceIte,af,aj,ah,ai];exact jy jD ⟨nbZ,hno fun h=>by simp only[lgB,aG,decide_eq_true_eq]at h;omega⟩
 simp only[decide_eq_false h6,ssH,ag,ae,reduceIte,af,aj,ah,ai]
 have hb:lgB ⟨b,c,l⟩=l.all nN:=by
  have h4':((c==[])==(b==0))=true:=by
   revert h4;cases (c==[])<;>cases (b==0)<;>simp
  simp only[lgB,h4',decide_eq_true (show(0:Int)≤b by omega),decide_eq_true (show b≤2147483647 by omega),decide_eq_true (show c.length≤65536 by omega),decide_eq_true (show l.length≤64 by omega),decide_eq_true (show(l.length:Int)≤2147483647-b by omega),dD]
 rw[hb];refine mi [1,3] 56 (fun n vs h=>∃ i:Nat,vs=[.ptr 0 0,it i]∧h=[some (zA nn ⟨b,c,l⟩)]∧i+n=l.length+1∧i≤l.length∧(l.take i).all nN=true) (l.length+1) (by decide) (by decide) (aJ 1) (jW rfl (bW _) (by decide) (by simp) (by show nbs 1 [.ptr 0 0,it 0];simp only[nbS];decide) (Ij (by have:=kL (k:=1) nn l;simp only[lH,nbS]at this;simp only[this,nbS])) ⟨0,rfl,rfl,by omega,by omega,by simp⟩) ?_;rintro n t h J hJ hlt ⟨i,hv,rfl,hn,hi,hpre⟩;simp only[aZ,aP,and_true]at hv;obtain⟨g1,g3⟩:=hv;rw[mJ hlt];simp only[jV,upTo,g1,g3,zA,lH,aK,ssH,ag,ae,reduceIte,af,aj,ah,ai]
 by_cases hil:i<l.length
 ·rw[show decide ((i:Int)<(l.length:Int))=true by simp;omega];have hx:l[i]? = some l[i]:=aI hil;generalize l[i]=e at hx;have hne:=lY (k:=0) e
  have hall:(l.take (i+1)).all nN=nN e:=by
   rw[aW,hx,List.all_append,hpre];simp
  simp only[CU hx,ssH,ag,ae,reduceIte,af,aj,ah,ai];refine jC (by exact fun m=>DW e) (by simp only[kM]at hne;simp only[hne,nbS]) nbY ?_;cases he:nN e
  ·simp only[aN,ssH,ag,ae,reduceIte,af,aj,ah,ai];refine jy jD ⟨nbZ,?_⟩
   have:l.all nN=false:=by
    rw[List.all_eq_false];exact⟨e,bI hx,by rw[he];decide⟩
   rw[this];rfl
  ·simp only[aO,jQ (show i<4611686018427387904 by omega),ssH,ag,ae,reduceIte,af,aj,ah,ai];refine⟨_,hJ (n-1) (aJ 1) _ (by omega) (jW rfl (bW _) (by decide) (by simp) (by show nbs 1 [.ptr 0 0,it (i+1:Nat)];simp only[nbS];decide) (Ij (by have:=kL (k:=1) nn l;simp only[lH,nbS]at this;simp only[this,nbS])) ⟨i+1,rfl,rfl,by omega,by omega,by rw[hall,he]⟩)⟩
 ·rw[show decide ((i:Int)<(l.length:Int))=false by simp;omega];simp only[ssH,ag,ae,reduceIte,af,aj,ah,ai];rw[bG (by omega)]at hpre;rw[hpre];exact jy jD ⟨nbZ,rfl⟩
theorem F9(nn:Bool)(x:Lg):jB Tryz.prog Γ 58 [lgV nn x] m fun o m'=>o = .ret (it (if lgB x=true then x.b+x.l.length else 0))∧m'=m:=by
 have hnb:=pO (k:=0) nn x;have hnl:=kL (k:=0) nn x.l;refine jY (jZ mixed ziH zlr jP (by simp only[hnb,nbS]) ?_);simp only[F58,lgV,ss0,ay,ag];simp only[jA,ssH,ag,ae,reduceIte,af,aj,ah,ai];refine jC (by exact fun m=>zT nn x) (by simp only[hnl,nbS]) nbY ?_;cases h:lgB x
 ·simp only[aN,aF,if_false,ssH,ag,ae,reduceIte,af,aj,ah,ai];exact jy jD ⟨nbZ,rfl⟩
 ·have hx:0≤x.b∧x.b≤2147483647∧x.l.length≤64:=by simp only[lgB,aG,decide_eq_true_eq]at h;omega
  have hw:IntKind.i64.wrap (x.b+(x.l.length:Int))=x.b+(x.l.length:Int):=wrap_i64 (by omega) (by omega);simp only[aO,if_true,lH,aK,hw,ssH,ag,ae,reduceIte,af,aj,ah,ai];exact jy jD ⟨nbZ,rfl⟩
end
end Go.Av.Fn
namespace Go.Av
section
variable {P:Program}
def zae(P:Program)(T0:TypeId)(xs ys:Array Value):List Field→Option Bool
 |[]=>some true
 | f :: fs => if f.name = "_" then zae P T0 xs ys fs else match kF P (part f.type xs f.offset), kF P (part f.type ys f.offset) with
  |some a,some b=>match (match a,b with | .agg az',.agg bs'=>if f.type=T0 then eqF P az' bs' (P.fieldsOf T0).toList else none|a,b=>LC P f.type a b),zae P T0 xs ys fs with
   |some r,some q=>some (r&&q)
   |_,_=>none
  |_,_=>none
theorem Gx{T0:TypeId}(ht:P.underlying T0=some (.struct (P.fieldsOf T0)))(hp:P.stoodInHeld T0=false){xs ys:Array Value}{d:Nat}:∀ {fs:List Field} {r:Bool},zae P T0 xs ys fs=some r→kF P (Op.eqFields (d+1+1) xs ys fs)=some r
 |[],r,h=>by
  simp only[zae,au]at h;subst h;rfl
 |f::fs,r,h=>by
  simp only[zae]at h
  split at h
  ·rename_i hn;simp only[Op.eqFields,hn,ne_eq,not_true_eq_false,if_false];exact Gx ht hp h
  ·rename_i hn
   split at h
   ·rename_i a b ha hb
    split at h
    ·rename_i q1 q2 h1 h2;simp only[au]at h;subst h
     have key:kF P (Op.equalIn (d+1+1) f.type a b)=some q1:=by
      split at h1
      ·split at h1
       ·rename_i e;rw[e,rD _ _ _ _ ht hp];exact Fe h1
       ·cases h1
      ·exact Aj h1
     simp only[Op.eqFields,ne_eq,hn,not_false_eq_true,if_true,kS,ha,hb,bi,key];cases q1
     ·rfl
     ·simpa using Gx ht hp h2
    ·cases h
   ·cases h
theorem VB{T T0:TypeId}{xo yo:Operand}{cs cs':List V}{xs ys:List Value}{r:Bool}(ht:P.underlying T=some (.struct (P.fieldsOf T)))(hp:P.stoodInHeld T=false)(hg:P.eqGuardType P.depth T=false)
  (ht0:P.underlying T0=some (.struct (P.fieldsOf T0))) (hp0:P.stoodInHeld T0=false)
  (h1:H5 cs=some xs) (h2:H5 cs'=some ys) (he:zae P T0 xs.toArray ys.toArray (P.fieldsOf T).toList=some r) :
  kR P .eql T .other xo yo (.agg cs) (.agg cs')=some (.val (.bool r))∧kR P .neq T .other xo yo (.agg cs) (.agg cs')=some (.val (.bool !r)):=by
 have e0:kF P (Op.equal T (.agg xs.toArray) (.agg ys.toArray))=some r:=by
  show kF P (Op.equalIn (9997+1+1+1) T _ _)=some r;rw[rD _ _ _ _ ht hp];exact Gx ht0 hp0 he
 have g:∀ op,kF P (eqGuard op T xo yo (.agg xs.toArray) (.agg ys.toArray))=some ():=by
  intro op;unfold eqGuard
  split<;>simp only[aO,aN,aF,if_false,if_true,kS,rJ,bi,hg,lM]
 have r1:raw (.agg cs)=some (.agg xs.toArray):=by simp only[raw,h1,dV]
 have r2:raw (.agg cs')=some (.agg ys.toArray):=by simp only[raw,h2,dV]
 refine⟨?_,?_⟩
 ·simp only[kR,nY,kZ,dK,dL,Bool.or_false,aF,if_false,r1,r2,zB,binOp,kS,g,bi,e0,lM];rfl
 ·simp only[kR,nY,kZ,dK,dL,Bool.or_false,aF,if_false,r1,r2,zB,binOp,kS,g,bi,e0,lM];rfl
end
end Go.Av
namespace Go.Av.Fn
open Go.Proofs
theorem zeS(xo yo:Operand)(a b:Ent):kR Tryz.prog .eql 42 .other xo yo (kM a) (kM b)=some (.val (.bool (decide (a=b))))∧kR Tryz.prog .neq 42 .other xo yo (kM a) (kM b)=some (.val (.bool (!decide (a=b)))):=by
 obtain⟨c,q,k,n,s,ck,cn,cs⟩:=a;obtain⟨c',q',k',n',s',ck',cn',cs'⟩:=b
 have h:=VB (P:=Tryz.prog) (T:=42) (T0:=40) (xo:=xo) (yo:=yo) (cs:=[it c,it q,it k,it n,bs s,it ck,it cn,bs cs]) (cs' := [it c',it q',it k',it n',bs s',it ck',it cn',bs cs'])
  (xs:=[.int .i64 c,.int .i64 q,.int .i64 k,.int .i64 n,.string ⟨s.toArray⟩,.int .i64 ck,.int .i64 cn,.string ⟨cs.toArray⟩]) (ys:=[.int .i64 c',.int .i64 q',.int .i64 k',.int .i64 n',.string ⟨s'.toArray⟩,.int .i64 ck',.int .i64 cn',.string ⟨cs'.toArray⟩])
  (r:=(c==c'&&(q==q'&&(k==k'&&(n==n'&&((ByteArray.mk s.toArray).toList==(ByteArray.mk s'.toArray).toList&&((ck==ck'&&(cn==cn'&&((ByteArray.mk cs.toArray).toList==(ByteArray.mk cs'.toArray).toList&&true)))&&true)))))))
  (by kernel_rfl) (by kernel_rfl) (by kernel_rfl) (by kernel_rfl) (by kernel_rfl) rfl rfl (by kernel_rfl)
 have e:(c==c'&&(q==q'&&(k==k'&&(n==n'&&((ByteArray.mk s.toArray).toList==(ByteArray.mk s'.toArray).toList&&((ck==ck'&&(cn==cn'&&((ByteArray.mk cs.toArray).toList==(ByteArray.mk cs'.toArray).toList&&true)))&&true))))))=decide ((⟨c,q,k,n,s,ck,cn,cs⟩:Ent)=⟨c',q',k',n',s',ck',cn',cs'⟩):=by
  simp only[ru];rw[bQ];simp[and_assoc]
 rw[e]at h;exact h
theorem zkC{G:Gh}{es more:List V}{tok:Tok}{u:Value}(h:ku G (.sl es more tok) u):ku G (.sl es more .no) u:=by
 cases h with
 |nil h=>exact .nil rfl
 |sl a b c d e f=>exact .sl a b c d e trivial
theorem Vx{P:Program}{Γ:jG}{f:FuncId}{args args':List V}{m:Store}{R:Out→Store→Prop}(h:∀ G cargs,kE G args cargs→kE G args' cargs)(hc:jB P Γ f args' m R):jB P Γ f args m R:=
 ⟨hc.1,fun G B0 mF w cargs hD hR hL=>hc.2 G B0 mF w cargs hD hR (h G cargs hL)⟩
section
variable {Γ:jG} {m:Store}
theorem Zt(nn:Bool){t:Tok}(la lb:List Ent)(ht:nbT 0 t)(hl:la.length<4611686018427387904) :
  jB Tryz.prog Γ 93 [.sl (la.map kM) [] t,lH nn lb] m fun o m'=>o = .ret (.val (.bool (decide (la=lb))))∧m'=m:=by
 have hnb:=kL (k:=0) nn lb;have hna:=x8 (k:=0) lY la;refine jY (jZ mixed zik zlc jP (by simp only[hnb,hna,ht,nbS]) ?_);simp only[F93,ss0,ay,ag];simp only[lH,aK,ssH,ag,ae,reduceIte,af,aj,ah,ai]
 by_cases h0:la.length=lb.length
 case neg=>
  have hb:((la.length:Int) != (lb.length:Int))=true:=by simp;omega
  simp only[hb,ssH,ag,ae,reduceIte,af,aj,ah,ai];exact jy jD ⟨nbZ,by rw[decide_eq_false (by rintro rfl;exact h0 rfl)];rfl⟩
 have hb:((la.length:Int) != (lb.length:Int))=false:=by simp;omega
 simp only[hb,ssH,ag,ae,reduceIte,af,aj,ah,ai];refine mi [0,1,5] 26 (fun n vs h=>∃ i:Nat,vs=[.sl (la.map kM) [] t,lH nn lb,it i]∧i+n=la.length+1∧i≤la.length∧la.take i=lb.take i) (la.length+1) (by decide) (by decide) (aJ 0) (jW rfl (aY _) (by decide) (by simp) (by show nbs 0 [.sl (la.map kM) [] t,lH nn lb,it 0];simp only[hnb,hna,ht,nbS]) (fun a ha=>by omega) ⟨0,rfl,by omega,by omega,by simp⟩) ?_;rintro n t1 h J hJ hlt ⟨i,hv,hn,hi,hpre⟩;simp only[aZ,aP,and_true]at hv;obtain⟨h0',h1,h5⟩:=hv;rw[mJ hlt];simp only[jV,upTo,h0',h1,h5,lH,aK,ssH,ag,ae,reduceIte,af,aj,ah,ai]
 by_cases hil:i<la.length
 ·rw[show decide ((i:Int)<(la.length:Int))=true by simp;omega];have hx:la[i]? = some la[i]:=aI hil;have hy:lb[i]? = some (lb[i]'(by omega)):=aI (by omega);generalize la[i]=a at hx;generalize (lb[i]'(by omega))=b at hy;have hc:=(zeS (.tmp 20) (.tmp 24) a b).2;simp only[kM]at hc;simp only[CU hx,CU hy,hc,ssH,ag,ae,reduceIte,af,aj,ah,ai]
  by_cases he:a=b
  ·simp only[decide_eq_true he,aO,jQ (show i<4611686018427387904 by omega),ssH,ag,ae,reduceIte,af,aj,ah,ai];refine⟨_,hJ (n-1) (aJ 0) _ (by omega) (jW rfl (aY _) (by decide) (by simp) (by show nbs 0 [.sl (la.map kM) [] t,lH nn lb,it (i+1:Nat)];simp only[hnb,hna,ht,nbS]) (fun a ha=>by omega) ⟨i+1,rfl,by omega,by omega,by rw[aW,aW,hx,hy,hpre,he]⟩)⟩
  ·simp only[decide_eq_false he,aN,ssH,ag,ae,reduceIte,af,aj,ah,ai];refine jy jD ⟨nbZ,?_⟩;rw[decide_eq_false]
   ·rfl
   ·rintro rfl;rw[hx]at hy;exact he (fZ hy)
 ·rw[show decide ((i:Int)<(la.length:Int))=false by simp;omega];simp only[ssH,ag,ae,reduceIte,af,aj,ah,ai];refine jy jD ⟨nbZ,?_⟩;rw[bG (by omega),bG (by omega)]at hpre;rw[decide_eq_true hpre];rfl
theorem VX(nn:Bool){t:Tok}(la lb:List Ent)(hl:la.length<4611686018427387904) :
  jB Tryz.prog Γ 93 [.sl (la.map kM) [] t,lH nn lb] m fun o m'=>o = .ret (.val (.bool (decide (la=lb))))∧m'=m:=by
 refine Vx (fun G cargs h => ?_) (Zt nn (t:=.no) la lb trivial hl)
 cases h with
 |cons a b=>exact .cons (zkC a) b
end
def SX(base a b:Int)(i:Nat):Bool:=decide (a<base+1+i)&&decide (base+1+i≤b)
def bet(base a b:Int):Nat→List Ent→List Ent
 |_,[]=>[]
 |i,e::l=>if SX base a b i=true then e::bet base a b (i+1) l else bet base a b (i+1) l
theorem YF{base a b:Int}:∀ (l1 l2:List Ent) (i:Nat),bet base a b i (l1++l2)=bet base a b i l1++bet base a b (i+l1.length) l2
 |[],l2,i=>rfl
 |e::l1,l2,i=>by
  simp only[aB,bet,ax];rw[YF l1 l2 (i+1),show i+1+l1.length=i+(l1.length+1)by omega]
  split<;>rfl
theorem YE{base a b:Int}:∀ (l:List Ent) (i:Nat),(bet base a b i l).length≤l.length
 |[],i=>aY _
 |e::l,i=>by
  have:=YE (base:=base) (a:=a) (b:=b) l (i+1);simp only[bet,ax]
  split<;>simp<;>omega
theorem Vt{base a b:Int}{n:Nat}:∀ (l:List Ent) (i:Nat),(∀ j,i≤j→j<i+l.length→SX base a b j=decide (n≤j))→bet base a b i l=l.drop (n-i)
 |[],i,_=>by simp[bet]
 |e::l,i,h=>by
  have h0:=h i (aY _) (by simp);have ih:=Vt (base:=base) (a:=a) (b:=b) (n:=n) l (i+1) fun j h1 h2=>h j (by omega) (by simp only[ax];omega);simp only[bet,h0]
  by_cases hn:n≤i
  ·rw[if_pos (decide_eq_true hn),ih,show n-i=0 by omega,show n-(i+1)=0 by omega];rfl
  ·rw[if_neg (by simpa using hn),ih,show n-i=(n-(i+1))+1 by omega];rfl
def zhj(l:List Ent):V:=lH (!l.isEmpty) l
theorem zaf{l:List Ent}:(!l.isEmpty)=true∨l=[]:=by cases l<;>simp
def Be(out:List Ent)(tok:Tok)(r:Hl):Prop:=tok = .full∧out=[]∧r=[]∨∃ k,tok = .tip 1 k∧out≠[]∧r=[some (.tip 42 k)]
theorem zho{out:List Ent}{tok:Tok}{r:Hl}(h:Be out tok r):nb (1+r.length) (.sl (out.map kM) [] tok):=by
 rcases h with ⟨rfl,rfl,rfl⟩|⟨k,rfl,_,rfl⟩
 ·simp only[gy,nbS]
 ·have:=x8 (k:=2) lY out;simp only[ax,aA,this,nbS];decide
theorem zdm{X:Blk}{out:List Ent}{tok:Tok}{r:Hl}(h:Be out tok r)(hX:∀ k,nbB k X):∀ a<1+r.length,∀ x,lk (some X::r) a=some x→nbB (1+r.length) x:=by
 intro a ha x hx
 rcases h with ⟨rfl,rfl,rfl⟩|⟨k,rfl,_,rfl⟩
 ·have:a=0:=by simp at ha;omega
  subst this;cases hx;exact hX _
 ·have:a=0∨a=1:=by simp at ha;omega
  rcases this with rfl|rfl
  ·cases hx;exact hX _
  ·cases hx;simp only[nbS]
theorem zh7{Γ:jG}{Kp:V→Hl→Prop}{s:List (Tmp×Option (Tmp×Bool)×AOp)}{l:List Item}{K:HS→Prop}{t:List V}{d:Option Tmp}{X:Blk}{out:List Ent}{tok:Tok}{r:Hl}{e:Ent}(h:Be out tok r)(hb:out.length≤1000000)
  (hr:∀ k,hth Tryz.prog Γ Kp s l K (hput t [some X,some (.tip 42 k)] d (some (.sl ((out++[e]).map kM) [] (.tip 1 k))))):sV Tryz.prog Γ Kp 42 80 8 (.sl (out.map kM) [] tok) (.sl [kM e] [] .full) d s l K t (some X::r):=by
 have he:tH 8 [kM e]=true:=rfl;rw[bC]at hr
 rcases h with ⟨rfl,rfl,rfl⟩|⟨k,rfl,h0,rfl⟩
 ·exact wG (ys:=[kM e]) rfl (by simp) (by simp) rfl he (by simp) (hr 0)
 ·exact zD (j:=1) (k:=k) (x:=.sl [kM e] [] .full) (ys:=[kM e]) rfl (by simp) (by simpa using h0) rfl (yC out) he (by simp;omega) (hr (k+1))
def zmV:List V:=[.val (.int .i64 0),.val (.int .i64 0),.val (.int .i64 0),.val (.int .i64 0),.val (.string (ByteArray.mk #[])),.val (.int .i64 0),.val (.int .i64 0),.val (.string (ByteArray.mk #[]))]
def zkK(v:V):Option V:=(pI 8 [.agg zmV] [(0,v)]).map fun es=>.sl es [] .full
theorem Il{Γ:jG}{t:List V}{m:Store}{x:Nat}:jJ Tryz.prog (ev Γ t) m (.lits 8 [.val (.int .i64 0),.val (.int .i64 0),.val (.int .i64 0),.val (.int .i64 0),.val (.string (ByteArray.mk #[])),.val (.int .i64 0),.val (.int .i64 0),.val (.string (ByteArray.mk #[]))] 1 [(0,.tmp x)])=zkK (jT t x):=by
 rw[←rV (Γ:=Γ)];rfl
theorem Ec(e:Ent):zkK (.agg [it e.c,it e.q,it e.k,it e.n,bs e.s,it e.ck,it e.cn,bs e.cs])=some (.sl [kM e] [] .full):=rfl
section
variable {Γ:jG} {m:Store}
theorem VT(nn:Bool)(x:Lg)(a b:Int)(hx:lgB x=true){Q:V→Hl→Prop}(hQ:∀ tok r,Be (bet x.b a b 0 x.l) tok r→Q (.sl ((bet x.b a b 0 x.l).map kM) [] tok) (some (zA nn x)::r)) :
  qB Tryz.prog Γ (fun _ _=>False) 0 zaL.body (uU zaL.res Q) ⟨start zaL.ntmps [lgV nn x,it a,it b],[]⟩:=by
 have hlb:∀ k,nbB k (zA nn x):=fun k=>by have:=kL (k:=k) nn x.l;simp only[zA,this,nbS]
 have hb:0≤x.b∧x.b≤2147483647∧x.l.length≤64:=by simp only[lgB,aG,decide_eq_true_eq]at hx;omega
 simp only[zaL,lgV,ss0,ay,ag];simp only[jA,ssH,ag,ae,reduceIte,af,aj,ah,ai];refine mi [1,2,3,7,8] 39 (fun n vs h=>∃ (i:Nat) (out:List Ent) (tok:Tok) (r:Hl),vs=[it a,it b,.ptr 0 0,.sl (out.map kM) [] tok,it i]∧h=some (zA nn x)::r∧Be out tok r∧i+n=x.l.length+1∧i≤x.l.length∧out=bet x.b a b 0 (x.l.take i)) (x.l.length+1) (by decide) (by decide) (aJ 1) (jW rfl (bW _) (by decide) (by simp) (by show nbs 1 [it a,it b,.ptr 0 0,.sl [] [] .full,it 0];simp only[nbS];decide) (Ij (hlb 1)) ⟨0,[],.full,[],rfl,rfl,.inl ⟨rfl,rfl,rfl⟩,by omega,by omega,by simp[bet]⟩) ?_;rintro n t h J hJ hlt ⟨i,out,tok,r,hv,rfl,hB,hn,hi,ho⟩;simp only[aZ,aP,and_true]at hv;obtain⟨g1,g2,g3,g7,g8⟩:=hv
 have hol:out.length≤64:=by
  have:=YE (base:=x.b) (a:=a) (b:=b) (x.l.take i) 0;rw[←ho]at this;rw[bf]at this;omega
 rw[mJ hlt];simp only[jV,upTo,g1,g2,g3,g7,g8,zA,lH,aK,ssH,ag,ae,reduceIte,af,aj,ah,ai]
 by_cases hil:i<x.l.length
 ·have hx2:x.l[i]? = some x.l[i]:=aI hil;generalize x.l[i]=e at hx2;have hw1:IntKind.i64.wrap (x.b+1)=x.b+1:=wrap_i64 (by omega) (by omega);have hw2:IntKind.i64.wrap (x.b+1+(i:Int))=x.b+1+(i:Int):=wrap_i64 (by omega) (by omega)
  have hstep:bet x.b a b 0 (x.l.take (i+1))=out++(if SX x.b a b i=true then [e]else []):=by
   rw[aW,hx2,YF,←ho];simp only[fQ,bet,bf,Nat.min_eq_left hi,Nat.zero_add]
  simp only[show decide ((i:Int)<(x.l.length:Int))=true from decide_eq_true (by omega),hw1,hw2,gt_iff_lt,ssH,ag,ae,reduceIte,af,aj,ah,ai]
  have same:∀ {t':List V} {h':Hl},SX x.b a b i=false→t'.length=39→jT t' 1=it a→jT t' 2=it b→jT t' 3 = .ptr 0 0→jT t' 7 = .sl (out.map kM) [] tok→jT t' 8=it (i+1:Nat)→h'=some (zA nn x)::r→Back [1,2,3,7,8] (aJ (1+r.length)) 0 39 (fun vs h=>∃ (i:Nat) (out:List Ent) (tok:Tok) (r:Hl),vs=[it a,it b,.ptr 0 0,.sl (out.map kM) [] tok,it i]∧h=some (zA nn x)::r∧Be out tok r∧i+(n-1)=x.l.length+1∧i≤x.l.length∧out=bet x.b a b 0 (x.l.take i)) ⟨t',h'⟩:=by
   rintro t' h' hc q0 q1 q2 q3 q7 q8 rfl;refine jW q0 (bW _) (by rcases hB with ⟨_,_,rfl⟩|⟨k,_,_,rfl⟩<;>simp) (by simp;omega) ?_ (zdm hB hlb) ⟨i+1,out,tok,r,by simp only[aZ,q1,q2,q3,q7,q8],by rw[bG];simp;omega,hB,by omega,by omega,by rw[hstep,hc];simp⟩;have hnv:=zho hB;simp only[aZ,q1,q2,q3,q7,q8,hnv,nbS];omega
  cases h1:decide (a<x.b+1+(i:Int))
  ·simp only[jQ (show i<4611686018427387904 by omega),ssH,ag,ae,reduceIte,af,aj,ah,ai];exact⟨_,hJ (n-1) _ _ (by omega) (same (by simp only[SX,h1];rfl) rfl rfl rfl rfl rfl rfl rfl)⟩
  ·cases h2:decide (x.b+1+(i:Int)≤b)
   ·simp only[h2,jQ (show i<4611686018427387904 by omega),ssH,ag,ae,reduceIte,af,aj,ah,ai];exact⟨_,hJ (n-1) _ _ (by omega) (same (by simp only[SX,h1,h2];rfl) rfl rfl rfl rfl rfl rfl rfl)⟩
   ·have hc:SX x.b a b i=true:=by simp only[SX,h1,h2];rfl
    simp only[h2,CU hx2,Il,Ec,ssH,ag,ae,reduceIte,af,aj,ah,ai];refine zh7 hB (by omega) fun k => ?_;simp only[jQ (show i<4611686018427387904 by omega),ssH,ag,ae,reduceIte,af,aj,ah,ai];have hB2:Be (out++[e]) (.tip 1 k) [some (.tip 42 k)]:=.inr ⟨k,rfl,by simp,rfl⟩;have hnv:=zho hB2;simp only[ax,aA]at hnv;refine⟨_,hJ (n-1) (aJ 2) _ (by omega) (jW rfl (bW _) (by decide) (by simp) (by show nbs 2 [it a,it b,.ptr 0 0,.sl ((out++[e]).map kM) [] (.tip 1 k),it (i+1:Nat)];simp only[hnv,nbS];decide) (zdm hB2 hlb) ⟨i+1,out++[e],.tip 1 k,_,rfl,rfl,hB2,by omega,by omega,by rw[hstep,hc];rfl⟩)⟩
 ·simp only[show decide ((i:Int)<(x.l.length:Int))=false from decide_eq_false (by omega),ssH,ag,ae,reduceIte,af,aj,ah,ai];rw[bG (by omega)]at ho;subst ho;exact jy rfl (hQ tok r hB)
end
end Go.Av.Fn
namespace Go.Av
end Go.Av
namespace Go.Av.Fn
open Go.Proofs
def e0:Ent:=⟨0,0,0,0,[],0,0,[]⟩
section
variable {Γ:jG} {m:Store}
end
end Go.Av.Fn
namespace Go.Av.Fn
open Go.Proofs
theorem Bc{nn:Bool}{l:List Ent}:lenV false (lH nn l)=some (it l.length):=by
 simp only[lH,lV,aK]
section
variable {Γ:jG} {m:Store}
end
section
variable {Γ:jG} {m:Store}
end
def BI(e:Ent):Blk:=.var 42 [it e.c,it e.q,it e.k,it e.n,bs e.s,it e.ck,it e.cn,bs e.cs]
theorem D8(e:Ent):nbB 0 (BI e):=by simp only[BI,nbS]
theorem zaO{b:Int}{c:List UInt8}{l:List Ent}{t:Tok}(h:l≠[]):wN (.agg [it b,bs c,.sl (l.map kM) [] t])=lgV true ⟨b,c,l⟩:=by
 simp only[wN,wNs,bs,lgV];rw[show V.sl (wNs (aZ kM l)) [] (Jc (aZ kM l) t)=wN (.sl (l.map kM) [] t)by simp only[wN,wNs],QR (.inl h)]
def lT(x:Lg)(e:Ent):Bool×Lg×Int:=if nN e=true then (if x.l.length=64∨x.b+x.l.length=2147483647 then (false,lg0,12)else (true,⟨x.b,x.c,x.l++[e]⟩,0))else (false,lg0,2)
theorem QM{x:Lg}{e:Ent}:(lT x e).1=true∨(lT x e).2.1.l=[]:=by
 unfold lT
 split
 ·split
  ·exact .inr rfl
  ·exact .inl rfl
 ·exact .inr rfl
section
variable {Γ:jG} {m:Store}
theorem zh9{Kp:V→Hl→Prop}{h:Hl}{t:List V}{li:List Item}{K:HS→Prop}{d:Option Tmp}{s:List (Tmp×Option (Tmp×Bool)×AOp)}{nn:Bool}{l:List Ent}(e:Ent)(hl:l.length≤1000000)(hh:h.length<1000000)
  (hr:hth Tryz.prog Γ Kp s li K (hput t (h++[some (.tip 42 0)]) d (some (.sl ((l++[e]).map kM) [] (.tip h.length 0))))):sV Tryz.prog Γ Kp 42 80 8 (upV nn l l.length) (.sl [kM e] [] .full) d s li K t h:=by
 rw[bC]at hr;unfold upV;rw[bJ]
 by_cases h0:0<l.length
 ·rw[if_pos h0];exact wG (ys:=[kM e]) rfl (by simp) hh (yC l) rfl (by simp;omega) hr
 ·have hn:l=[]:=by cases l with|nil=>rfl|cons a b=>simp at h0
  subst hn;rw[if_neg h0];cases nn
  ·exact wG (ys:=[kM e]) rfl (by simp) hh rfl rfl (by simp) hr
  ·exact E5 (ys:=[kM e]) rfl (by simp) hh rfl rfl (by simp) hr
theorem Un(E:Env Γ){nn:Bool}{x:Lg}(hn:nn=true∨x.l=[])(e:Ent)(hx:lgB x=true) :
  OO Tryz.prog Γ 151 [] none [zA nn x,BI e] fun v=>v = .tup [lgV (lT x e).1 (lT x e).2.1,it (lT x e).2.2]:=by
 have hnl:=kL (k:=0) nn x.l;have hb:0≤x.b∧x.b≤2147483647∧x.l.length≤64:=by simp only[lgB,aG,decide_eq_true_eq]at hx;omega
 have hw:IntKind.i64.wrap (x.b+(x.l.length:Int))=x.b+(x.l.length:Int):=wrap_i64 (by omega) (by omega);have hn0:=pO (k:=0) false lg0;have hw0:=QS (nn:=false) (x:=lg0) (.inr rfl)
 have bad:∀ n:Int,lT x e=(false,lg0,n)→nb 0 (wN (.tup [lgV false lg0,it n]))∧wN (.tup [lgV false lg0,it n]) = .tup [lgV (lT x e).1 (lT x e).2.1,it (lT x e).2.2]:=by
  intro n h;rw[h];simp only[wN,wNs,hw0];exact⟨by simp only[hn0,nbS],trivial⟩
 refine Wj mixed zf9 zjC jP nbY (QU (Lp nn x) (D8 e)) ?_;simp only[zjD,BK,zA,BI,ax,aA,ag,aJ,List.range.loop,aZ,ss0,ay,ag];simp only[Bc,ssH,ag,ae,reduceIte,af,aj,ah,ai];refine jC (by exact fun m=>Gl E e) nbX nbY ?_;cases he:nN e
 ·simp only[aF,if_false,jA,ssH,ag,ae,reduceIte,af,aj,ah,ai];exact jy (v:=.tup [lgV false lg0,it 2]) rfl (bad _ (by simp only[lT,he];rfl))
 ·simp only[if_true,hw,ssH,ag,ae,reduceIte,af,aj,ah,ai]
  by_cases h1:x.l.length=64
  ·simp only[show(((x.l.length:Nat):Int)==64)=true by rw[h1];rfl,jA,ssH,ag,ae,reduceIte,af,aj,ah,ai];exact jy (v:=.tup [lgV false lg0,it 12]) rfl (bad _ (by simp only[lT,he,if_true];rw[if_pos (.inl h1)]))
  ·simp only[show(((x.l.length:Nat):Int)==64)=false by simp;omega,hw,ssH,ag,ae,reduceIte,af,aj,ah,ai]
   by_cases h2:x.b+(x.l.length:Int)=2147483647
   ·simp only[show((x.b+(x.l.length:Int))==2147483647)=true by rw[h2];rfl,jA,ssH,ag,ae,reduceIte,af,aj,ah,ai];exact jy (v:=.tup [lgV false lg0,it 12]) rfl (bad _ (by simp only[lT,he,if_true];rw[if_pos (.inr h2)]))
   ·have hg:lT x e=(true,⟨x.b,x.c,x.l++[e]⟩,0):=by
     simp only[lT,he,if_true];rw[if_neg (by rintro(k|k)<;>omega)]
    rw[hg];have hwl:∀ t,wN (.agg [it x.b,bs x.c,.sl ((x.l++[e]).map kM) [] t])=lgV true ⟨x.b,x.c,x.l++[e]⟩:=fun t=>zaO (by simp);have hnl2:=pO (k:=0) true ⟨x.b,x.c,x.l++[e]⟩;simp only[show((x.b+(x.l.length:Int))==2147483647)=false by simp;omega,nV,lN,zbJ,zc6 hn (aY _),Il,Ec,ssH,ag,ae,reduceIte,af,aj,ah,ai];refine zh9 e (by omega) (by simp only[ax,aA,ag,aj]) ?_;simp only[jA,rY,vw,ssH,ag,ae,reduceIte,af,aj,ah,ai];exact jy (v:=.tup [.agg [it x.b,bs x.c,.sl ((x.l++[e]).map kM) [] (.tip 3 0)],it 0]) rfl ⟨by simp only[wN,wNs]at hwl ⊢;rw[hwl];simp only[hnl2,nbS],by simp only[wN,wNs]at hwl ⊢;rw[hwl]⟩
theorem V3(E:Env Γ){nn:Bool}{x:Lg}(hn:nn=true∨x.l=[])(e:Ent) :
  jB Tryz.prog Γ 129 [lgV nn x,kM e] m fun o m'=>o = .ret (.tup [lgV (doL x (lT x e)).1 (doL x (lT x e)).2.1,it (doL x (lT x e)).2.2])∧m'=m:=by
 have hnb:=pO (k:=0) nn x;have hne:=lY (k:=0) e;have hdn:=zeY (x:=x) (QM (x:=x) (e:=e));refine jY (BN mixed zgu zj3 jP (by simp only[hnb,hne,nbS]) ?_);simp only[zj4,lgV,kM,ss0,ay,ag];simp only[jA,ssH,ag,ae,reduceIte,af,aj,ah,ai];refine Yc [0,1] (zbG E (nn:=nn) (x:=x) (QM (x:=x) (e:=e)) (QU (Lp nn x) (D8 e)) (fun hx=>Un E hn e hx)) rfl rfl (by decide) (Xl rfl rfl) (by simp only[hnb,nbS]) (QU (Lp nn x) (D8 e)) ?_ ?_
 ·rintro v rfl;rw[zhl];simp only[pO,nbS]
 ·rintro v rfl;rw[zhl];generalize doL x (lT x e)=r at hdn;obtain⟨a,y,e⟩:=r;have hwa:=QS hdn;have hna:=pO (k:=0) a y;simp only[hdrop,lgV,jA,jL,ssH,ag,ae,reduceIte,af,aj,ah,ai];exact jy (v:=.tup [lgV a y,it e]) rfl ⟨by simp only[wN,wNs,hwa,hna,nbS],by simp only[wN,wNs,hwa];rfl⟩
end
theorem zh6{x:Lg}{n:Nat}{op:Int}(h2:n≤x.l.length)(h3:op=x.b+n):bet x.b op (x.b+x.l.length) 0 x.l=x.l.drop n:=by
 rw [Vt (n := n) x.l 0 (fun j _ hj => by
  simp only[SX];rw[bQ];simp only[aG,decide_eq_true_eq]
  omega)]
 rfl
theorem YG{x:Lg}:bet x.b x.b (x.b+x.l.length) 0 x.l=x.l:=zh6 (n:=0) (bW _) (by omega)
def lgN(x:Lg):V:=lgV (!x.l.isEmpty) x
theorem Gn{k:Nat}{x:Lg}:nb k (lgN x):=pO _ _
theorem SL{x y:Lg}{a:Bool}{n:Int}{r:Bool×Lg×Int}(hx:lgB x=true)(h:r=(a,y,n))(hn:n≠0):doL x r=(false,lg0,n):=by
 subst h;simp only[doL,hx,if_true,if_neg hn]
theorem zc3{x y:Lg}{a:Bool}{r:Bool×Lg×Int}(hx:lgB x=true)(h:r=(a,y,0)):doL x r=(a,y,0):=by
 subst h;simp only[doL,hx,if_true]
section
variable {Γ:jG} {m:Store}
end
end Go.Av.Fn
namespace Go.Av
section
variable {P:Program} {Γ:jG} {H:Nat→List (Nat×List Nat)×List Nat} {f:FuncId} {F:AFn} {gs:List Nat} {m:Store}
theorem zdu(hm:P.follows .mixedOrders=true)(hF:qO P H f=some F)(hok:F.body.okH gs=true)(hG:GOk Γ gs){args:List V}(ha:nbs 0 args){e:TypeId}{size:Nat}{es:List V}(hz:oq size es=true)(hes:nbs 0 es)
  (h:qB P Γ (fun _ _=>False) 0 F.body (uU F.res fun v h'=>(es=[]∧v = .sl [] [] .full)∨(es≠[]∧∃ j k,v = .sl es [] (.tip j k)∧lk h' j=some (.tip e k))) ⟨start F.ntmps args,[]⟩):jB P Γ f args m fun o m'=>∃ v2,o = .ret v2∧Buf e size m m' v2 es:=by
 have h1:=uh (P:=P) (Γ:=Γ) (R0:=fun _ _=>False) (N:=0) (m:=fun _=>none) hm hF hok hG (ha.up _) (WB _ (fun _ _ q=>q) _) (fun _ _ q=>q.elim) (Q:=fun o h'=>match o with | .ret v=>(es=[]∧v = .sl [] [] .full)∨(es≠[]∧∃ j k,v = .sl es [] (.tip j k)∧lk h' j=some (.tip e k)) | .pan _=>False) h;have hD:mQ (fun _=>none) m:=fun b=>.inl rfl;have e0:Store.or (fun _=>none) m=m:=by funext b;rfl
 have h2:=h1.frame hD;rw[e0]at h2;refine jB.less h2 ?_;rintro o m'' ⟨m',rfl,d,S,o0,h',s1,s2,s3,s4⟩
 cases o0 with
 |pan v=>exact s4.elim
 |ret v=>
  cases o with
  |pan v'=>exact s3.elim
  |ret v' =>
   rcases s4 with ⟨rfl,rfl⟩|⟨hne,j,k,rfl,hj⟩
   ·have:v' = .sl [] [] .full:=D7 (v:=.sl [] [] .full) (.sl .nil .nil trivial) s3;subst this;refine⟨m,?_,_,rfl,hz,.inl ⟨rfl,rfl,rfl⟩⟩;intro b x hb
    rcases d b with q|q
    ·simp only[Store.or,q];exact hb
    ·rw[q]at hb;cases hb
   ·obtain⟨es',mr,k',rfl,ra,rb,rc⟩:=VR.Cf s3;obtain rfl:=ou hes ra;obtain rfl:=rb.kN
    cases k' with
    |tip b k' =>
     obtain⟨r0,rfl⟩:=rc;obtain⟨Y',g1,g2⟩:=s2.blk _ _ _ r0 hj
     cases Y' with
     |tip e' k' =>
      obtain⟨rfl,rfl⟩:=g2
      have hmb:m b=none:=by
       rcases d b with q|q
       ·rw[g1]at q;cases q
       ·exact q
      refine⟨m.set b (.tip e k),?_,_,rfl,hz,.inr ⟨hne,b,k,hmb,rfl,rfl⟩⟩;intro c x hx
      by_cases e:c=b
      ·subst e;rw[Store.jv]at hx;cases hx;simp only[Store.or,g1]
      ·rw[Store.jw _ _ e]at hx
       rcases d c with q|q
       ·simp only[Store.or,q];exact hx
       ·rw[q]at hx;cases hx
     |_=>exact g2.elim
    |_=>exact rc.elim
end
section
variable {P:Program} {Γ:jG} {Kp:V→Hl→Prop} {N:Nat} {l:List Item} {K:HS→Prop} {t:List V} {h:Hl} {d:Option Tmp} {s:List (Tmp×Option (Tmp×Bool)×AOp)} {g:FuncId} {first args caps:List V}
theorem zeC{e:TypeId}{size:Nat}{es:List V}(hl:h.length<1000000)(hA:∀ m,jB P Γ g (first++args++caps) m fun o m2=>∃ v2,o = .ret v2∧Buf e size m m2 v2 es)(ha:nbs 0 (first++args++caps))(hes:nbs 0 es)
  (h0:es=[]→hth P Γ Kp s l K (hput t h d (some (.sl [] [] .full)))) (hr:es≠[]→∀ k,hth P Γ Kp s l K (hput t (h++[some (.tip e k)]) d (some (.sl es [] (.tip h.length k))))):tC P Γ Kp (.fn (.func g) first caps) args d s l K t h:=by
 intro R args' m' rl H;obtain rfl:=ou ha rl;refine(hA m').mono ?_;rintro o m2 ⟨v2,rfl,hb,(⟨q,rfl,rfl⟩|⟨q,b,k,q1,rfl,rfl⟩)⟩
 ·subst q;exact⟨R,.ret _,h,R.le_refl,H,VR.sl (k:=.full) (k':=.full) .nil .nil trivial,h0 rfl⟩
 ·exact⟨R.add h.length b,.ret _,_,R.nD _ _,H.push (x:=.tip e k) (x':=.tip e k) q1 hl ⟨rfl,rfl⟩,VR.sl (k:=.tip h.length k) (k':=.tip b k) (hes.up _) .nil ⟨.inr ⟨rfl,rfl⟩,rfl⟩,hr q k⟩
end
end Go.Av
namespace Go.Av.Fn
open Go.Proofs
section
variable {Γ:jG} {m:Store}
theorem VU(nn:Bool)(x:Lg)(a b:Int)(hx:lgB x=true):jB Tryz.prog Γ 108 [lgV nn x,it a,it b] m fun o m'=>∃ v,o = .ret v∧Buf 42 8 m m' v ((bet x.b a b 0 x.l).map kM):=by
 have hnb:=pO (k:=0) nn x;refine zdu mixed zgI zkj jP (by simp only[hnb,nbS]) (yC _) (x8 lY _) (VT nn x a b hx fun tok r hB => ?_)
 rcases hB with ⟨rfl,h0,rfl⟩|⟨k,rfl,h0,rfl⟩
 ·exact .inl ⟨by rw[h0];rfl,by rw[h0];rfl⟩
 ·exact .inr ⟨by simpa using h0,1,k,rfl,rfl⟩
theorem Rt(nn:Bool)(x:Lg)(e:Ent):jB Tryz.prog Γ 57 [lgV nn x,kM e] m fun o m'=>o = .ret (.tup [lgN (doL x (lT x e)).2.1,it (doL x (lT x e)).2.2])∧m'=m:=by
 have hnb:=pO (k:=0) nn x;have hnl:=kL (k:=0) nn x.l;have hne:=lY (k:=0) e;refine jY (BN mixed ziI zls jP (by simp only[hnb,hne,nbS]) ?_);simp only[F57,lgV,kM,ss0,ay,ag];simp only[jA,ssH,ag,ae,reduceIte,af,aj,ah,ai]
 have fin:∀ (y:Lg) (n:Int) (t:Tok),(doL x (lT x e)).2.1=y→(doL x (lT x e)).2.2=n→(y.l≠[]∨t = .full∧y.l=[])→nb 0 (wN (.tup [.agg [it y.b,bs y.c,.sl (y.l.map kM) [] t],it n]))∧wN (.tup [.agg [it y.b,bs y.c,.sl (y.l.map kM) [] t],it n]) = .tup [lgN (doL x (lT x e)).2.1,it (doL x (lT x e)).2.2]:=by
  intro y n t h1 h2 h3;rw[h1,h2]
  have:wN (.agg [it y.b,bs y.c,.sl (y.l.map kM) [] t])=lgN y:=by
   rcases h3 with h3|⟨rfl,h3⟩
   ·rw[zaO h3];obtain⟨b,c,l⟩:=y
    cases l with
    |nil=>exact absurd rfl h3
    |cons a l=>rfl
   ·obtain⟨b,c,l⟩:=y;cases h3;rfl
  have hny:=Gn (k:=0) (x:=y);simp only[wN,wNs]at this ⊢;rw[this];exact⟨by simp only[hny,nbS],rfl⟩
 refine jC (by exact fun m=>zT nn x) (by simp only[hnl,nbS]) nbY ?_;cases hx:lgB x
 ·have hc:doL x (lT x e)=(false,lg0,4):=by simp only[doL,hx,aF,if_false]
  simp only[jA,ssH,ag,ae,reduceIte,af,aj,ah,ai];exact jy (v:=.tup [.agg [it lg0.b,bs lg0.c,.sl (lg0.l.map kM) [] .full],it 4]) rfl (fin lg0 4 .full (by rw[hc]) (by rw[hc]) (.inr ⟨rfl,rfl⟩))
 ·have hb:0≤x.b∧x.b≤2147483647∧x.l.length≤64∧x.b+x.l.length≤2147483647:=by simp only[lgB,aG,decide_eq_true_eq]at hx;omega
  simp only[ssH,ag,ae,reduceIte,af,aj,ah,ai];refine jC (by exact fun m=>DW e) nbX nbY ?_;cases he:nN e
  ·have hc:doL x (lT x e)=(false,lg0,2):=SL hx (by simp only[lT,he];rfl) (by decide);simp only[jA,ssH,ag,ae,reduceIte,af,aj,ah,ai];exact jy (v:=.tup [.agg [it lg0.b,bs lg0.c,.sl (lg0.l.map kM) [] .full],it 2]) rfl (fin lg0 2 .full (by rw[hc]) (by rw[hc]) (.inr ⟨rfl,rfl⟩))
  ·have full:(x.l.length=64∨x.b+x.l.length=2147483647)→doL x (lT x e)=(false,lg0,12):=fun h=>SL hx (by simp only[lT,he,if_true];rw[if_pos h]) (by decide);simp only[Bc,ssH,ag,ae,reduceIte,af,aj,ah,ai]
   by_cases h64:(64:Int)≤(x.l.length:Int)
   ·have hc:=full (.inl (by omega));simp only[ge_iff_le,decide_eq_true h64,jA,ssH,ag,ae,reduceIte,af,aj,ah,ai];exact jy (v:=.tup [.agg [it lg0.b,bs lg0.c,.sl (lg0.l.map kM) [] .full],it 12]) rfl (fin lg0 12 .full (by rw[hc]) (by rw[hc]) (.inr ⟨rfl,rfl⟩))
   ·simp only[ge_iff_le,decide_eq_false h64,ssH,ag,ae,reduceIte,af,aj,ah,ai];refine jC (by exact fun m=>F9 nn x) (by simp only[hnl,nbS]) nbY ?_;simp only[hx,if_true,ssH,ag,ae,reduceIte,af,aj,ah,ai]
    by_cases hl:(2147483647:Int)≤x.b+(x.l.length:Int)
    ·have hc:=full (.inr (by omega));simp only[ge_iff_le,decide_eq_true hl,jA,ssH,ag,ae,reduceIte,af,aj,ah,ai];exact jy (v:=.tup [.agg [it lg0.b,bs lg0.c,.sl (lg0.l.map kM) [] .full],it 12]) rfl (fin lg0 12 .full (by rw[hc]) (by rw[hc]) (.inr ⟨rfl,rfl⟩))
    ·have hc:doL x (lT x e)=(true,⟨x.b,x.c,x.l++[e]⟩,0):=zc3 hx (by simp only[lT,he,if_true];rw[if_neg (by rintro(k|k)<;>omega)]);simp only[ge_iff_le,decide_eq_false hl,Il,Ec,ssH,ag,ae,reduceIte,af,aj,ah,ai];refine jC (by exact fun m=>F9 nn x) (by simp only[hnl,nbS]) nbY ?_;simp only[hx,if_true,ssH,ag,ae,reduceIte,af,aj,ah,ai];refine zeC (by simp only[ax,aA,ag,aj]) (by exact fun m=>VU nn x x.b (x.b+x.l.length) hx) (by simp only[hnl,nbS]) (x8 lY _) ?_ ?_
     ·intro h0;rw[YG]at h0;have hl0:x.l=[]:=by simpa using h0
      simp only[ssH,ag,ae,reduceIte,af,aj,ah,ai];refine wG (ys:=[kM e]) rfl (by simp) (by simp only[ax,aA,ag,aj]) rfl rfl (by simp) ?_;simp only[rY,jA,vw,ssH,ag,ae,reduceIte,af,aj,ah,ai];exact jy (v:=.tup [.agg [it x.b,bs x.c,.sl ((x.l++[e]).map kM) [] _],it 0]) (by rw[hl0];rfl) (fin ⟨x.b,x.c,x.l++[e]⟩ 0 _ (by rw[hc]) (by rw[hc]) (.inl (by simp)))
     ·intro h0 k;rw[YG]at h0 ⊢;simp only[ssH,ag,ae,reduceIte,af,aj,ah,ai];refine zD (ys:=[kM e]) rfl (by simp) h0 rfl (yC _) rfl (by simp;omega) ?_;simp only[rY,jA,vw,ssH,ag,ae,reduceIte,af,aj,ah,ai];exact jy (v:=.tup [.agg [it x.b,bs x.c,.sl ((x.l++[e]).map kM) [] _],it 0]) (by rw[bC];rfl) (fin ⟨x.b,x.c,x.l++[e]⟩ 0 _ (by rw[hc]) (by rw[hc]) (.inl (by simp)))
end
section
variable {Γ:jG} {m:Store}
end
end Go.Av.Fn
namespace Go.Av.Fn
open Go.Proofs Go.Lib
def Bg(out:List UInt8)(tok:Tok)(r:Hl):Prop:=tok = .full∧out=[]∧r=[]∨∃ k,tok = .tip 0 k∧out≠[]∧r=[some (.tip 5 k)]
theorem zh4{out:List UInt8}{tok:Tok}{r:Hl}(h:Bg out tok r):∀ a<r.length,∀ x,lk r a=some x→nbB r.length x:=by
 intro a ha x hx
 rcases h with ⟨rfl,rfl,rfl⟩|⟨k,rfl,_,rfl⟩
 ·simp at ha
 ·have:a=0:=by simp at ha;omega
  subst this;cases hx;simp only[nbS]
theorem zdl{P:Program}{Γ:jG}{Kp:V→Hl→Prop}{s:List (Tmp×Option (Tmp×Bool)×AOp)}{l:List Item}{K:HS→Prop}{t:List V}{d:Option Tmp}{out:List UInt8}{tok:Tok}{r:Hl}{b:UInt8}(h:Bg out tok r)(hb:out.length≤1099511627776)
  (hr:∀ k,hth P Γ Kp s l K (hput t [some (.tip 5 k)] d (some (.sl ((out++[b]).map by8) [] (.tip 0 k))))):sV P Γ Kp 5 1 1 (.sl (out.map by8) [] tok) (.sl [by8 b] [] .full) d s l K t r:=by
 rw[bC]at hr
 rcases h with ⟨rfl,rfl,rfl⟩|⟨k,rfl,h0,rfl⟩
 ·exact wG (ys:=[by8 b]) rfl (by simp) (by simp) rfl rfl (by simp) (hr 0)
 ·exact zD (j:=0) (k:=k) (x:=.sl [by8 b] [] .full) (ys:=[by8 b]) rfl (by simp) (by simpa using h0) rfl (lJ out) rfl (by simp;omega) (hr (k+1))
section
variable {Γ:jG} {m:Store}
theorem zaM{n:Int}(h:Av.I64 n):jB Tryz.prog Γ 97 [it n] m fun o m'=>o = .ret (.val (.int .u64 (zigzag n)))∧m'=m:=by
 obtain⟨h1,h2⟩:=h;refine jY (jZ mixed zif zk8 jP nbY ?_);simp only[F97,ss0,ay,ag];simp only[ssH,ag,ae,reduceIte,af,aj,ah,ai]
 by_cases hn:n<0
 ·have w1:IntKind.i64.wrap (n+1)=n+1:=wrap_i64 (by omega) (by omega);have w2:IntKind.i64.wrap (0-(n+1))=0-(n+1):=wrap_i64 (by omega) (by omega);simp only[decide_eq_true hn,w1,w2,lq,C9,ssH,ag,ae,reduceIte,af,aj,ah,ai];refine jy jD ⟨nbZ,?_⟩;simp only[jH,jI];congr 2;unfold zigzag;rw[if_neg (by omega),IntKind.wrap_u64,IntKind.wrap_u64,IntKind.wrap_u64];omega
 ·simp only[decide_eq_false hn,lq,C9,ssH,ag,ae,reduceIte,af,aj,ah,ai];refine jy jD ⟨nbZ,?_⟩;simp only[jH,jI];congr 2;unfold zigzag;rw[if_pos (by omega),IntKind.wrap_u64,IntKind.wrap_u64];omega
theorem LU{u:Nat}(h:u<18446744073709551616):jB Tryz.prog Γ 152 [.val (.int .u64 u)] m fun o m'=>o = .ret (it (unzigzag u))∧m'=m:=by
 refine jY (jZ mixed zf8 zjA jP nbY ?_);simp only[zjB,ss0,ay,ag];have e1:((u:Int)).tmod 2=((u%2:Nat):Int):=by rw[eG (by omega)];omega
 have e2:IntKind.u64.wrap (((u:Int)).tdiv 2)=((u / 2:Nat):Int):=by
  rw[IntKind.wrap_u64,gY (by omega)];omega
 have e3:IntKind.i64.wrap ((u / 2:Nat):Int)=((u / 2:Nat):Int):=wrap_i64 (by omega) (by omega);simp only[LG (show(2:Int)≠0 by decide),Dj (show(2:Int)≠0 by decide),e1,e2,lq,yt,e3,ssH,ag,ae,reduceIte,af,aj,ah,ai]
 by_cases hu:u%2=1
 ·have hb:(((u%2:Nat):Int)==1)=true:=by rw[hu];rfl
  have w1:IntKind.i64.wrap (0-((u / 2:Nat):Int))=0-((u / 2:Nat):Int):=wrap_i64 (by omega) (by omega);have w2:IntKind.i64.wrap (0-((u / 2:Nat):Int)-1)=0-((u / 2:Nat):Int)-1:=wrap_i64 (by omega) (by omega);simp only[hb,Dj (show(2:Int)≠0 by decide),e2,lq,yt,e3,w1,w2,ssH,ag,ae,reduceIte,af,aj,ah,ai];refine jy jD ⟨nbZ,?_⟩;simp only[jH,jI];congr 2;unfold unzigzag
  split<;>omega
 ·have hb:(((u%2:Nat):Int)==1)=false:=by
   have:u%2=0:=by omega
   rw[this];rfl
  simp only[hb,Dj (show(2:Int)≠0 by decide),e2,lq,yt,e3,ssH,ag,ae,reduceIte,af,aj,ah,ai];refine jy jD ⟨nbZ,?_⟩;simp only[jH,jI];congr 2;unfold unzigzag
  split<;>omega
theorem oU{n:Int}(h:Av.I64 n):jB Tryz.prog Γ 47 [it n] m fun o m'=>o = .ret (bs (uvarint (zigzag n)))∧m'=m:=by
 refine jY (jZ mixed ziS zlC jP nbY ?_);simp only[F47,ss0,ay,ag];simp only[ssH,ag,ae,reduceIte,af,aj,ah,ai];refine jC (by exact fun m=>zaM h) nbY nbY ?_;simp only[ssH,ag,ae,reduceIte,af,aj,ah,ai];have hlen10:=uvarint_length64 (zigzag_u64 h);refine mi [3,4] 24 (fun j vs hh=>∃ (f:Nat) (out:List UInt8) (tok:Tok) (r:Hl),f=j∧vs=[.val (.int .u64 f),.sl (out.map by8) [] tok]∧hh=r∧Bg out tok r∧f<18446744073709551616∧out++uvarint f=uvarint (zigzag n)) (zigzag n) (by decide) (by decide) (aJ 0) (jW rfl (aY _) (by decide) (by simp) (by show nbs 0 [.val (.int .u64 (zigzag n)),.sl [] [] .full];simp only[nbS]) (fun a ha=>by omega) ⟨zigzag n,[],.full,[],rfl,rfl,rfl,.inl ⟨rfl,rfl,rfl⟩,zigzag_u64 h,rfl⟩) ?_;rintro j t hh J hJ hl ⟨f,out,tok,r,rfl,hv,rfl,hb,hf,he⟩;simp only[aZ,aP,and_true]at hv;obtain⟨h3,h4⟩:=hv
 have htot:out.length+(uvarint f).length=(uvarint (zigzag n)).length:=by
  have:=congrArg List.length he
  simpa using this
 rw[mJ hl];simp only[jV,upTo,h3,h4,ge_iff_le,ssH,ag,ae,reduceIte,af,aj,ah,ai]
 by_cases hk:128≤f
 ·have hd:decide ((128:Int)≤(f:Int))=true:=decide_eq_true (by omega);have e1:((f:Int)).tmod 128=((f%128:Nat):Int):=by rw[eG (by omega)];omega
  have e2:IntKind.u8.wrap ((f%128:Nat):Int)=((f%128:Nat):Int):=by rw[IntKind.wrap_u8];omega
  have e3:IntKind.u8.wrap (((f%128:Nat):Int)+128)=((f%128+128:Nat):Int):=by rw[IntKind.wrap_u8];omega
  have e4:IntKind.u64.wrap (((f:Int)).tdiv 128)=((f / 128:Nat):Int):=by rw[IntKind.wrap_u64,gY (by omega)];omega
  simp only[hd,LG (show(128:Int)≠0 by decide),Dj (show(128:Int)≠0 by decide),e1,lq,zY,e2,e3,YC,y7,by8,yO,ssH,ag,ae,reduceIte,af,aj,ah,ai];refine zdl (b:=(f%128+128).toUInt8) hb (by omega) fun k => ?_;simp only[Dj (show(128:Int)≠0 by decide),e4,ssH,ag,ae,reduceIte,af,aj,ah,ai];have hB:Bg (out++[(f%128+128).toUInt8]) (.tip 0 k) [some (.tip 5 k)]:=.inr ⟨k,rfl,by simp,rfl⟩;refine⟨_,hJ (f / 128) (aJ 1) _ (by omega) (jW rfl (bW _) (by decide) (by simp) (by show nbs 1 [.val (.int .u64 ((f / 128:Nat):Int)),.sl ((out++[(f%128+128).toUInt8]).map by8) [] (.tip 0 k)];simp only[nbS];decide) (zh4 hB) ⟨f / 128,_,_,_,rfl,rfl,rfl,hB,by omega,by rw[bg,←he,uvarint_big hk];rfl⟩)⟩
 ·have hd:decide ((128:Int)≤(f:Int))=false:=decide_eq_false (by omega);simp only[hd,lq,zY,QJ (show f<128 by omega),y7,by8,yO,ssH,ag,ae,reduceIte,af,aj,ah,ai];refine zdl (b:=f.toUInt8) hb (by omega) fun k => ?_;have hfin:(out++[f.toUInt8])=uvarint (zigzag n):=by rw[←he,uvarint_small (by omega)]
  rw[hfin];simp only[xx,Em,ssH,ag,ae,reduceIte,af,aj,ah,ai];exact jy jD ⟨nbZ,rfl⟩
end
def rdV(s:List UInt8)(a:Nat)(e:Int):V:=.agg [bs s,it a,it e]
theorem nS{k:Nat}{s:List UInt8}{a:Nat}{e:Int}:nb k (rdV s a e):=by simp only[rdV,nbS]
def Tm(s:List UInt8)(a:Nat):Nat:=if (Av.numL (s.drop a)).2.2=0 then a+(Av.numL (s.drop a)).2.1 else 0
section
variable {Γ:jG} {m:Store}
theorem LV(s:List UInt8)(hs:s.length<4611686018427387904):jB Tryz.prog Γ 106 [bs s] m fun o m'=>o = .ret (bs (uvarint (zigzag s.length)++s))∧m'=m:=by
 refine jY (jZ mixed zgK zkm jP nbY ?_);simp only[zkn,ss0,ay,ag];have h64:Av.I64 (s.length:Int):=⟨by omega,by omega⟩;have hlen:=uvarint_length64 (zigzag_u64 h64);simp only[ssH,ag,ae,reduceIte,af,aj,ah,ai];refine jC (by exact fun m=>oU h64) nbY nbY ?_;simp only[Td (show(uvarint (zigzag (s.length:Int))).length+s.length≤9223372036854775807 by omega),ssH,ag,ae,reduceIte,af,aj,ah,ai];exact jy jD ⟨nbZ,rfl⟩
theorem LX(s:List UInt8)(a:Nat)(ha:a≤s.length)(hl:s.length<4611686018427387904):jB Tryz.prog Γ 131 [bs s,it a] m fun o m'=>o = .ret (.tup [it (Av.numL (s.drop a)).1,it (Tm s a),it (Av.numL (s.drop a)).2.2])∧m'=m:=by
 refine jY (jZ mixed zgs zjY jP nbY ?_);simp only[zjZ,ss0,ay,ag];simp only[ssH,ag,ae,reduceIte,af,aj,ah,ai]
 have bad:∀ (e:Int),Av.numL (s.drop a)=(0,0,e)→e≠0→(V.tup [it 0,it 0,it e]) = .tup [it (Av.numL (s.drop a)).1,it (Tm s a),it (Av.numL (s.drop a)).2.2]:=by
  intro e h1 h2;unfold Tm;rw[h1];simp only[if_neg h2];rfl
 refine mi [0,1,7,8] 53 (fun k vs h=>∃ i f:Nat,k=10-i∧vs=[bs s,it a,.val (.int .u64 f),it i]∧i≤9∧f<2^(7*i)∧a+i≤s.length∧Av.numGo i f (s.drop (a+i))=Av.numL (s.drop a)) 10 (by decide) (by decide) (aJ 0) (jW rfl (aY _) (by decide) (by simp) (by show nbs 0 [bs s,it a,.val (.int .u64 0),it 0];simp only[nbS]) (fun a ha=>by omega) ⟨0,0,rfl,rfl,by omega,by decide,by omega,rfl⟩) ?_;rintro k t h J hJ hlt ⟨i,f,hk,hv,hi,hf,hil,hgo⟩;simp only[aZ,aP,and_true]at hv;obtain⟨g0,g1,g7,g8⟩:=hv;rw[mJ hlt];have hwa:IntKind.i64.wrap ((a:Int)+(i:Int))=((a+i:Nat):Int):=by rw[wrap_i64 (by omega) (by omega)];omega
 simp only[jV,upTo,g0,g1,g7,g8,show decide ((i:Int)<10)=true from decide_eq_true (by omega),hwa,ge_iff_le,ssH,ag,ae,reduceIte,af,aj,ah,ai]
 by_cases hend:s.length≤a+i
 ·simp only[show decide ((s.length:Int)≤((a+i:Nat):Int))=true from decide_eq_true (by omega),ssH,ag,ae,reduceIte,af,aj,ah,ai];exact jy kJ ⟨nbZ,bad 3 (by rw[←hgo,List.drop_eq_nil_of_le hend];rfl) (by decide)⟩
 have hlt2:a+i<s.length:=by omega
 obtain⟨c,hcs⟩:∃ c,s[a+i]=c:=⟨_,rfl⟩;have hx:s[a+i]? = some c:=by rw[aI hlt2,hcs]
 have hdrop:s.drop (a+i)=c::s.drop (a+(i+1)):=by rw[List.drop_eq_getElem_cons hlt2,hcs,iI]
 have hc:c.toNat<256:=c.toNat_lt
 have hw7:IntKind.i64.wrap (7*(i:Int))=((7*i:Nat):Int):=by
  rw[wrap_i64 (by omega) (by omega)];omega
 have hm128:((c.toNat:Int)).tmod 128=((c.toNat%128:Nat):Int):=by rw[eG (by omega)];omega
 have hw127:IntKind.u64.wrap ((c.toNat%128:Nat):Int)=((c.toNat%128:Nat):Int):=by
  rw[IntKind.wrap_u64];omega
 rw[hdrop]at hgo;simp only[Av.numGo]at hgo;simp only[show decide ((s.length:Int)≤((a+i:Nat):Int))=false from decide_eq_false (by omega),hwa,nG hx,by8,ssH,ag,ae,reduceIte,af,aj,ah,ai];have main:∀ (hc9:i=9→c.toNat=1),True:=fun _=>trivial
 by_cases h9:i=9∧c.toNat≠1
 ·obtain⟨rfl,hc1⟩:=h9;have hb:(((c.toNat:Nat):Int) != 1)=true:=by simp;omega
  rw[if_pos ⟨rfl,hc1⟩]at hgo;simp only[show(((9:Nat):Int)==9)=true from rfl,hb,ssH,ag,ae,reduceIte,af,aj,ah,ai];exact jy kJ ⟨nbZ,bad 4 hgo.symm (by decide)⟩
 rw[if_neg h9]at hgo;have hc9:i=9→c.toNat=1:=fun e=>Classical.byContradiction fun k=>h9 ⟨e,k⟩;have hlt64:=(Av.num_lt hi hc hc9 hf).1;have hadd:IntKind.u64.wrap ((f:Int)+((c.toNat%128*2^(7*i):Nat):Int))=((f+c.toNat%128*2^(7*i):Nat):Int):=by rw[IntKind.wrap_u64];omega
 have step:∀ (T:Nat×(Operand→Operand→Nat)),True:=fun _=>trivial;have e9:((i:Int)==9)=decide (i=9):=by rw[bQ,beq_iff_eq,decide_eq_true_eq];omega
 have hsk:(((c.toNat:Nat):Int) != 1)=decide (c.toNat≠1):=by rw[bQ];simp;omega
 have go:∀ {b:Bool},b=decide (i=9)→(b=true→decide (c.toNat≠1)=false):=by
  rintro b rfl hb;have:=hc9 (of_decide_eq_true hb);simp[this]
 cases hb9:decide (i=9)
 case' true=>have hq:=go rfl hb9
 all_goals
  simp only[e9,hb9,hsk,ssH,ag,ae,reduceIte,af,aj,ah,ai]
 case' true=>simp only[hq,ssH,ag,ae,reduceIte,af,aj,ah,ai]
 all_goals
  simp only[LG (show(128:Int)≠0 by decide),hm128,lq,Eg,hw127,hw7,LD (show(0:Int)≤((7*i:Nat):Int)from Int.natCast_nonneg _),Av.num_shl hi hc hc9,hadd,ssH,ag,ae,reduceIte,af,aj,ah,ai]
  by_cases h128:c.toNat<128
  ·simp only[show decide (((c.toNat:Nat):Int)<128)=true from decide_eq_true (by omega),gt_iff_lt,ssH,ag,ae,reduceIte,af,aj,ah,ai];rw[if_neg (by omega)]at hgo
   by_cases h0:c.toNat=0∧0<i
   ·rw[if_pos h0]at hgo;simp only[show(((c.toNat:Nat):Int)==0)=true by simp;omega,show decide ((0:Int)<(i:Int))=true from decide_eq_true (by omega),ssH,ag,ae,reduceIte,af,aj,ah,ai];exact jy kJ ⟨nbZ,bad 4 hgo.symm (by decide)⟩
   ·rw[if_neg h0]at hgo;have hw1:IntKind.i64.wrap (((a+i:Nat):Int)+1)=((a+i+1:Nat):Int):=by rw[wrap_i64 (by omega) (by omega)];omega
    have hfin:(V.tup [it (unzigzag (f+c.toNat%128*2^(7*i))),it ((a+i+1:Nat):Int),it 0]) = .tup [it (Av.numL (s.drop a)).1,it (Tm s a),it (Av.numL (s.drop a)).2.2]:=by
     unfold Tm;rw[←hgo];simp only[if_true];rw[iI]
    by_cases hz:c.toNat=0
    ·have hi0:i=0:=by omega
     simp only[show(((c.toNat:Nat):Int)==0)=true by simp;omega,show decide ((0:Int)<(i:Int))=false from decide_eq_false (by omega),ssH,ag,ae,reduceIte,af,aj,ah,ai];refine jC (by exact fun m=>LU hlt64) nbY nbY ?_;simp only[hwa,hw1,ssH,ag,ae,reduceIte,af,aj,ah,ai];exact jy kJ ⟨nbZ,hfin⟩
    ·simp only[show(((c.toNat:Nat):Int)==0)=false by simp;omega,ssH,ag,ae,reduceIte,af,aj,ah,ai];refine jC (by exact fun m=>LU hlt64) nbY nbY ?_;simp only[hwa,hw1,ssH,ag,ae,reduceIte,af,aj,ah,ai];exact jy kJ ⟨nbZ,hfin⟩
  ·rw[if_pos (by omega)]at hgo;simp only[show decide (((c.toNat:Nat):Int)<128)=false from decide_eq_false (by omega),jQ (show i<4611686018427387904 by omega),ssH,ag,ae,reduceIte,af,aj,ah,ai]
   have hi8:i≤8:=by
    rcases Nat.lt_or_ge i 9 with q|q
    ·omega
    ·have:=hc9 (by omega);omega
   refine⟨_,hJ (10-(i+1)) (aJ 0) _ (by omega) (jW rfl (aY _) (by decide) (by simp) (by show nbs 0 [bs s,it a,.val (.int .u64 ((f+c.toNat%128*2^(7*i):Nat):Int)),it (i+1:Nat)];simp only[nbS]) (fun a ha=>by omega) ⟨i+1,f+c.toNat%128*2^(7*i),rfl,rfl,by omega,(Av.num_lt hi hc hc9 hf).2 hi8,by omega,hgo⟩)⟩
end
section
variable {Γ:jG} {m:Store}
theorem Aq(s:List UInt8)(a:Nat)(e e2:Int):jB Tryz.prog Γ 132 [rdV s a e,it e2] m fun o m'=>o = .ret (rdV s a e2)∧m'=m:=by
 refine jY (jZ mixed zgr zjW jP (by simp only[nS,nbS]) ?_);simp only[zjX,rdV,ss0,ay,ag];simp only[jA,ssH,ag,ae,reduceIte,af,aj,ah,ai];exact jy (v:=rdV s a e2) rfl ⟨nS,rfl⟩
theorem LW(s:List UInt8)(a:Nat)(e:Int)(ha:a≤s.length)(hl:s.length<4611686018427387904):jB Tryz.prog Γ 121 [rdV s a e] m fun o m'=>o = .ret (.tup [rdV s (mf s a e).2.1 (mf s a e).2.2,it (mf s a e).1])∧m'=m:=by
 refine jY (jZ mixed zgC zkb jP (by simp only[nS,nbS]) ?_);simp only[zkc,rdV,ss0,ay,ag];simp only[jA,ssH,ag,ae,reduceIte,af,aj,ah,ai]
 have fin:∀ (a':Nat) (e' n:Int),mf s a e=(n,a',e')→nb 0 (.tup [rdV s a' e',it n])∧V.tup [rdV s a' e',it n] = .tup [rdV s (mf s a e).2.1 (mf s a e).2.2,it (mf s a e).1]:=by
  intro a' e' n h;rw[h];exact⟨by simp only[nS,nbS],rfl⟩
 cases he:(e != 0)
 ·have h0:e=0:=by simpa using he
  subst h0;simp only[show((0:Int) != 0)=false from rfl,ssH,ag,ae,reduceIte,af,aj,ah,ai];refine jC (by exact fun m=>LX s a ha hl) nbY nbY ?_;cases h1:((Av.numL (s.drop a)).2.2 != 0)
  ·have h2:(Av.numL (s.drop a)).2.2=0:=by simpa using h1
   simp only[h1,jA,ssH,ag,ae,reduceIte,af,aj,ah,ai];refine jy (v:=.tup [rdV s (Tm s a) 0,it (Av.numL (s.drop a)).1]) rfl (fin _ _ _ ?_);simp only[mf,Tm,h2,ne_eq,not_true_eq_false,if_false,if_true]
  ·have h2:(Av.numL (s.drop a)).2.2≠0:=by simpa using h1
   simp only[h1,jA,ssH,ag,ae,reduceIte,af,aj,ah,ai];refine jC (by exact fun m=>Aq s a 0 (Av.numL (s.drop a)).2.2) nbX nS ?_;simp only[rdV,jA,ssH,ag,ae,reduceIte,af,aj,ah,ai];refine jy (v:=.tup [rdV s a (Av.numL (s.drop a)).2.2,it 0]) rfl (fin _ _ _ ?_);simp only[mf,h2,ne_eq,not_true_eq_false,not_false_eq_true,if_false,if_true]
 ·have h0:e≠0:=by simpa using he
  simp only[he,jA,ssH,ag,ae,reduceIte,af,aj,ah,ai];refine jy (v:=.tup [rdV s a e,it 0]) rfl (fin _ _ _ ?_);simp only[mf,h0,ne_eq,not_false_eq_true,if_true]
theorem FW(s:List UInt8)(a:Nat)(e most:Int)(ha:a≤s.length)(hl:s.length<4611686018427387904):jB Tryz.prog Γ 91 [rdV s a e,it most] m fun o m'=>o = .ret (.tup [rdV s (lI s a e most).2.1 (lI s a e most).2.2,it (lI s a e most).1])∧m'=m:=by
 refine jY (jZ mixed zim zle jP (by simp only[nS,nbS]) ?_);simp only[F91,rdV,ss0,ay,ag];simp only[jA,ssH,ag,ae,reduceIte,af,aj,ah,ai]
 have fin:∀ (a':Nat) (e' n:Int),lI s a e most=(n,a',e')→nb 0 (.tup [rdV s a' e',it n])∧V.tup [rdV s a' e',it n] = .tup [rdV s (lI s a e most).2.1 (lI s a e most).2.2,it (lI s a e most).1]:=by
  intro a' e' n h;rw[h];exact⟨by simp only[nS,nbS],rfl⟩
 cases he:(e != 0)
 ·have h0:e=0:=by simpa using he
  subst h0;simp only[show((0:Int) != 0)=false from rfl,ssH,ag,ae,reduceIte,af,aj,ah,ai];refine jC (by exact fun m=>LX s a ha hl) nbY nbY ?_;cases h1:((Av.numL (s.drop a)).2.2 != 0)
  ·have h2:(Av.numL (s.drop a)).2.2=0:=by simpa using h1
   simp only[h1,jA,ssH,ag,ae,reduceIte,af,aj,ah,ai]
   by_cases h3:(Av.numL (s.drop a)).1<0
   ·simp only[decide_eq_true h3,jA,ssH,ag,ae,reduceIte,af,aj,ah,ai];refine jC (by exact fun m=>Aq s a 0 4) nbX nS ?_;simp only[rdV,jA,ssH,ag,ae,reduceIte,af,aj,ah,ai];refine jy (v:=.tup [rdV s a 4,it 0]) rfl (fin _ _ _ ?_);simp only[lI,kD,h2,h3,ne_eq,not_true_eq_false,if_false,if_true];rfl
   ·simp only[decide_eq_false h3,Lu,zbB,RJ,ssH,ag,ae,reduceIte,af,aj,ah,ai]
    by_cases h4:(Av.numL (s.drop a)).1>max 0 most
    ·simp only[decide_eq_true h4,jA,ssH,ag,ae,reduceIte,af,aj,ah,ai];refine jC (by exact fun m=>Aq s a 0 5) nbX nS ?_;simp only[rdV,jA,ssH,ag,ae,reduceIte,af,aj,ah,ai];refine jy (v:=.tup [rdV s a 5,it 0]) rfl (fin _ _ _ ?_);simp only[lI,kD,h2,ne_eq,not_true_eq_false,if_false,if_neg h3,if_pos h4];rfl
    ·simp only[decide_eq_false h4,jA,ssH,ag,ae,reduceIte,af,aj,ah,ai];refine jy (v:=.tup [rdV s (Tm s a) 0,it (Av.numL (s.drop a)).1]) rfl (fin _ _ _ ?_);simp only[lI,kD,Tm,h2,ne_eq,not_true_eq_false,if_false,if_true,if_neg h3,if_neg h4]
  ·have h2:(Av.numL (s.drop a)).2.2≠0:=by simpa using h1
   simp only[h1,jA,ssH,ag,ae,reduceIte,af,aj,ah,ai];refine jC (by exact fun m=>Aq s a 0 (Av.numL (s.drop a)).2.2) nbX nS ?_;simp only[rdV,jA,ssH,ag,ae,reduceIte,af,aj,ah,ai];refine jy (v:=.tup [rdV s a (Av.numL (s.drop a)).2.2,it 0]) rfl (fin _ _ _ ?_);simp only[lI,kD,h2,ne_eq,not_true_eq_false,not_false_eq_true,if_false,if_true]
 ·have h0:e≠0:=by simpa using he
  simp only[he,jA,ssH,ag,ae,reduceIte,af,aj,ah,ai];refine jy (v:=.tup [rdV s a e,it 0]) rfl (fin _ _ _ ?_);simp only[lI,h0,ne_eq,not_false_eq_true,if_true]
theorem O6(s:List UInt8)(a:Nat)(e most:Int)(ha:a≤s.length)(hl:s.length<4611686018427387904):jB Tryz.prog Γ 148 [rdV s a e,it most] m fun o m'=>o = .ret (.tup [rdV s (nJ s a e most).2.1 (nJ s a e most).2.2,bs (nJ s a e most).1])∧m'=m:=by
 refine jY (jZ mixed zgc zjH jP (by simp only[nS,nbS]) ?_);simp only[zjI,rdV,ss0,ay,ag];simp only[jA,ssH,ag,ae,reduceIte,af,aj,ah,ai]
 have fin:∀ (a':Nat) (e':Int) (t:List UInt8),nJ s a e most=(t,a',e')→nb 0 (.tup [rdV s a' e',bs t])∧V.tup [rdV s a' e',bs t] = .tup [rdV s (nJ s a e most).2.1 (nJ s a e most).2.2,bs (nJ s a e most).1]:=by
  intro a' e' n h;rw[h];exact⟨by simp only[nS,nbS],rfl⟩
 refine jC (by exact fun m=>FW s a e most ha hl) nbX (by simp only[nS,nbS]) ?_;have hle:=EK (s:=s) (a:=a) (e:=e) (most:=most) ha;obtain⟨c1,c2,c3⟩:=y9 (s.drop a) most;have hcase:lI s a e most=(if e≠0 then (0,a,e)else if (kD (s.drop a) most).2.2≠0 then (0,a,(kD (s.drop a) most).2.2)else ((kD (s.drop a) most).1,a+(kD (s.drop a) most).2.1,0)):=rfl
 by_cases he:e=0
 ·subst he
  by_cases h1:(kD (s.drop a) most).2.2=0
  ·have hr:lI s a 0 most=((kD (s.drop a) most).1,a+(kD (s.drop a) most).2.1,0):=by rw[hcase];simp only[h1,ne_eq,not_true_eq_false,if_false]
   rw[hr]at hle ⊢;simp only at hle;have hw:IntKind.i64.wrap ((s.length:Int)-((a+(kD (s.drop a) most).2.1:Nat):Int))=(s.length:Int)-((a+(kD (s.drop a) most).2.1:Nat):Int):=wrap_i64 (by omega) (by omega);simp only[rdV,jA,show((0:Int) != 0)=false from rfl,oV,hw,gt_iff_lt,ssH,ag,ae,reduceIte,af,aj,ah,ai]
   by_cases h2:(s.length:Int)-((a+(kD (s.drop a) most).2.1:Nat):Int)<(kD (s.drop a) most).1
   ·simp only[decide_eq_true h2,jA,ssH,ag,ae,reduceIte,af,aj,ah,ai];refine jC (by exact fun m=>Aq s a 0 3) nbX nS ?_;simp only[rdV,jA,ssH,ag,ae,reduceIte,af,aj,ah,ai];refine jy (v:=.tup [rdV s a 3,bs []]) rfl (fin _ _ _ ?_);have h3:(kD (s.drop a) most).1>((s.drop a).length:Int)-((kD (s.drop a) most).2.1:Int):=by rw[aV];omega
    simp only[nJ,xN,h1,h3,ne_eq,not_true_eq_false,if_false,if_true];rfl
   ·obtain⟨n,hn⟩:∃ k:Nat,(kD (s.drop a) most).1=(k:Int):=⟨((kD (s.drop a) most).1).toNat,by omega⟩;rw[aV]at c1
    have hw2:IntKind.i64.wrap (((a+(kD (s.drop a) most).2.1:Nat):Int)+(n:Int))=((a+(kD (s.drop a) most).2.1+n:Nat):Int):=by
     rw[wrap_i64 (by omega) (by omega)];omega
    rw[hn]at h2 ⊢;simp only[decide_eq_false h2,hw2,Au (x:=s) (a:=a+(kD (s.drop a) most).2.1) (b:=a+(kD (s.drop a) most).2.1+n) (by omega) (by omega),jA,ssH,ag,ae,reduceIte,af,aj,ah,ai];refine jy (v:=.tup [rdV s (a+(kD (s.drop a) most).2.1+n) 0,bs ((s.take (a+(kD (s.drop a) most).2.1+n)).drop (a+(kD (s.drop a) most).2.1))]) rfl (fin _ _ _ ?_);have h3:¬ (n:Int)>((s.drop a).length:Int)-((kD (s.drop a) most).2.1:Int):=by rw[aV];omega
    simp only[nJ,xN,h1,hn,h3,ne_eq,not_true_eq_false,if_false,bn];refine Prod.ext ?_ (Prod.ext ?_ rfl)
    ·simp only;rw[List.drop_drop,List.take_drop]
    ·simp only;omega
  ·have hr:lI s a 0 most=(0,a,(kD (s.drop a) most).2.2):=by rw[hcase];simp only[h1,ne_eq,not_true_eq_false,not_false_eq_true,if_false,if_true]
   rw[hr];have hb:((kD (s.drop a) most).2.2 != 0)=true:=by simpa using h1
   simp only[rdV,jA,hb,ssH,ag,ae,reduceIte,af,aj,ah,ai];refine jy (v:=.tup [rdV s a (kD (s.drop a) most).2.2,bs []]) rfl (fin _ _ _ ?_);simp only[nJ,xN,h1,ne_eq,not_true_eq_false,not_false_eq_true,if_false,if_true]
 ·have hr:lI s a e most=(0,a,e):=by rw[hcase];simp only[he,ne_eq,not_false_eq_true,if_true]
  rw[hr];have hb:(e != 0)=true:=by simpa using he
  simp only[rdV,jA,hb,ssH,ag,ae,reduceIte,af,aj,ah,ai];refine jy (v:=.tup [rdV s a e,bs []]) rfl (fin _ _ _ ?_);simp only[nJ,he,ne_eq,not_false_eq_true,if_true]
theorem zdI(s:List UInt8)(a:Nat)(e:Int)(ha:a≤s.length)(hl:s.length<4611686018427387904):jB Tryz.prog Γ 123 [rdV s a e] m fun o m'=>o = .ret (.tup [rdV s (Bh s a e).2.1 (Bh s a e).2.2,SY (Bh s a e).1])∧m'=m:=by
 refine jY (jZ mixed zgA zj7 jP (by simp only[nS,nbS]) ?_);simp only[zj8,rdV,ss0,ay,ag];simp only[jA,ssH,ag,ae,reduceIte,af,aj,ah,ai];obtain⟨k,a1,e1,h1⟩:∃ k a1 e1,mf s a e=(k,a1,e1):=⟨_,_,_,rfl⟩;have l1:=lh (e:=e) ha;rw[h1]at l1;obtain⟨n,a2,e2,h2⟩:∃ n a2 e2,mf s a1 e1=(n,a2,e2):=⟨_,_,_,rfl⟩;have l2:=lh (e:=e1) l1;rw[h2]at l2;obtain⟨t,a3,e3,h3⟩:∃ t a3 e3,nJ s a2 e2 255=(t,a3,e3):=⟨_,_,_,rfl⟩;have hg:Bh s a e=((if e3≠0 then (0,0,[])else (k,n,t)),a3,e3):=by simp only[Bh,h1,h2,h3]
 rw[hg];refine jC (by exact fun m=>LW s a e ha hl) nbX (by simp only[nS,nbS]) ?_;simp only[h1,rdV,jA,ssH,ag,ae,reduceIte,af,aj,ah,ai];refine jC (by exact fun m=>LW s a1 e1 l1 hl) nbX (by simp only[nS,nbS]) ?_;simp only[h2,rdV,jA,ssH,ag,ae,reduceIte,af,aj,ah,ai];refine jC (by exact fun m=>O6 s a2 e2 255 l2 hl) nbX (by simp only[nS,nbS]) ?_;simp only[h3,rdV,jA,ssH,ag,ae,reduceIte,af,aj,ah,ai];cases he:(e3 != 0)
 ·have h0:e3=0:=by simpa using he
  subst h0;simp only[show((0:Int) != 0)=false from rfl,jA,ssH,ag,ae,reduceIte,af,aj,ah,ai];exact jy (v:=.tup [rdV s a3 0,.agg [it k,it n,bs t]]) rfl ⟨by simp only[nS,nbS],rfl⟩
 ·have h0:e3≠0:=by simpa using he
  simp only[he,jA,ssH,ag,ae,reduceIte,af,aj,ah,ai];refine jy (v:=.tup [rdV s a3 e3,.agg [it 0,it 0,bs []]]) rfl ⟨by simp only[nS,nbS],?_⟩;rw[if_pos h0];rfl
theorem zdH{k n:Int}(hk:Av.I64 k)(hn:Av.I64 n){s:List UInt8}(hs:s.length<4611686018427387000):jB Tryz.prog Γ 107 [.agg [it k,it n,bs s]] m fun o m'=>o = .ret (bs (AL k n s))∧m'=m:=by
 refine jY (jZ mixed zgJ zkk jP nbY ?_);simp only[zkl,ss0,ay,ag];have h64:Av.I64 (s.length:Int):=⟨by omega,by omega⟩;have l0:=uvarint_length64 (zigzag_u64 h64);have l1:=uvarint_length64 (zigzag_u64 hk);have l2:=uvarint_length64 (zigzag_u64 hn);simp only[jA,ssH,ag,ae,reduceIte,af,aj,ah,ai];refine jC (by exact fun m=>oU hk) nbY nbY ?_;simp only[ssH,ag,ae,reduceIte,af,aj,ah,ai];refine jC (by exact fun m=>oU hn) nbY nbY ?_;simp only[Td (show(uvarint (zigzag k)).length+(uvarint (zigzag n)).length≤9223372036854775807 by omega),ssH,ag,ae,reduceIte,af,aj,ah,ai];refine jC (by exact fun m=>LV s (by omega)) nbY nbY ?_;simp only[Td (show(uvarint (zigzag k)++uvarint (zigzag n)).length+(uvarint (zigzag s.length)++s).length≤9223372036854775807 by simp only[aH];omega),ssH,ag,ae,reduceIte,af,aj,ah,ai];exact jy jD ⟨nbZ,rfl⟩
end
end Go.Av.Fn
namespace Go.Av.Fn
open Go.Proofs
end Go.Av.Fn
namespace Go.Av
section
variable {P:Program} {Γ:jG} {Kp:V→Hl→Prop} {l:List Item} {K:HS→Prop} {t:List V} {h:Hl} {d:Option Tmp} {s:List (Tmp×Option (Tmp×Bool)×AOp)} {g:FuncId} {first args caps:List V}
end
end Go.Av
namespace Go.Av.Fn
open Go.Proofs
theorem zeF{s:List UInt8}{a:Nat}{e:Int}(ha:a≤s.length):(Bh s a e).2.1≤s.length:=by
 unfold Bh;exact zt (lh (lh ha))
theorem zaE{Γ:jG}{Kp:V→Hl→Prop}{h:Hl}{t:List V}{l:List Item}{K:HS→Prop}{d:Option Tmp}{s:List (Tmp×Option (Tmp×Bool)×AOp)}(a:List UInt8)(ha:a.length≤140737488351232)(hh:h.length<1000000)
  (h0:a=[]→hth Tryz.prog Γ Kp s l K (hput t h d (some (.sl (a.map by8) [] (.zero true)))))
  (h1:a≠[]→hth Tryz.prog Γ Kp s l K (hput t (h++[some (.tip 5 0)]) d (some (.sl (a.map by8) [] (.tip h.length 0))))):sV Tryz.prog Γ Kp 5 1 1 (.sl [] [] (.zero true)) (.sl (a.map by8) [] .no) d s l K t h:=by
 by_cases e:a=[]
 ·subst e;exact yQ rfl (h0 rfl)
 ·refine E5 (ys:=a.map by8) rfl (by simpa using e) hh rfl (uu a) (by simp only[aK,aA];omega) ?_
  simpa using h1 e
end Go.Av.Fn
namespace Go.Av
def BH(e:TypeId)(x0:Option Blk)(tok:Tok)(es:List V):Prop:=(x0=none∧tok = .full)∨∃ k,x0=some (.tip e k)∧tok = .tip 0 k∧es≠[]
section
variable {P:Program} {Γ:jG} {H:Nat→List (Nat×List Nat)×List Nat} {f:FuncId} {F:AFn} {gs:List Nat} {m m':Store}
theorem JO(hm:P.follows .mixedOrders=true)(hF:qO P H f=some F)(hok:F.body.okH gs=true)(hG:GOk Γ gs){e:TypeId}{size:Nat}{es es2 az:List V}{v:V}(hB:GR e size m m' v es)(hes:nbs 0 es)(ha:nbs 0 az)(h2:nbs 0 es2)(hz:oq size es2=true)(hne:es2≠[])
  (h:∀ x0 tok,BH e x0 tok es→qB P Γ (fun _ _=>False) 1 F.body (uU F.res fun v h'=>∃ j k,v = .sl es2 [] (.tip j k)∧lk h' j=some (.tip e k)) ⟨start F.ntmps (.sl es [] tok::az),[x0]⟩) :
  jB P Γ f (v::az) m' fun o m2=>∃ v2,o = .ret v2∧Buf e size m m2 v2 es2:=by
 have full:∀ M:Store,oq size es=true→jB P Γ f (.sl es [] .full::az) M fun o m2=>∃ v2,o = .ret v2∧Buf e size M m2 v2 es2:=by
  intro M hs;have h1:=uh (P:=P) (Γ:=Γ) (R0:=fun _ _=>False) (N:=1) (m:=fun _=>none) (h0:=[none]) hm hF hok hG (args0:=.sl es [] .full::az) (args:=.sl es [] .full::az) (.cons (VR.sl (k:=.full) (k':=.full) (hes.up _) .nil trivial) (ha.up _)) ⟨fun a c x r hx=>r.elim,fun a b c r _=>r.elim,fun a b c x y r _ _ _=>r.elim,fun a b r=>r.elim⟩ (fun _ _ q=>q.elim) (Q:=fun o h'=>match o with | .ret v=>∃ j k,v = .sl es2 [] (.tip j k)∧lk h' j=some (.tip e k) | .pan _=>False) (h none .full (.inl ⟨rfl,rfl⟩));have hD:mQ (fun _=>none) M:=fun b=>.inl rfl;have e0:Store.or (fun _=>none) M=M:=by funext b;rfl
  have h3:=h1.frame hD;rw[e0]at h3;refine jB.less h3 ?_;rintro o m'' ⟨m1,rfl,d,S,o0,h',s1,s2,s3,s4⟩
  cases o0 with
  |pan v=>exact s4.elim
  |ret v=>
   cases o with
   |pan v'=>exact s3.elim
   |ret v' =>
    obtain⟨j,k,rfl,hj⟩:=s4;obtain⟨es',mr,k',rfl,ra,rb,rc⟩:=VR.Cf s3;obtain rfl:=ou h2 ra;obtain rfl:=rb.kN
    cases k' with
    |tip b k' =>
     obtain⟨r0,rfl⟩:=rc;obtain⟨Y',g1,g2⟩:=s2.blk _ _ _ r0 hj
     cases Y' with
     |tip e' k' =>
      obtain⟨rfl,rfl⟩:=g2
      have hmb:M b=none:=by
       rcases d b with q|q
       ·rw[g1]at q;cases q
       ·exact q
      refine⟨M.set b (.tip e k),?_,_,rfl,hz,.inr ⟨hne,b,k,hmb,rfl,rfl⟩⟩;intro c x hx
      by_cases e:c=b
      ·subst e;rw[Store.jv]at hx;cases hx;simp only[Store.or,g1]
      ·rw[Store.jw _ _ e]at hx
       rcases d c with q|q
       ·simp only[Store.or,q];exact hx
       ·rw[q]at hx;cases hx
     |_=>exact g2.elim
    |_=>exact rc.elim
 rcases hB with ⟨hs,(⟨rfl,rfl,rfl⟩|⟨hne0,b,k,hb,rfl,rfl⟩)⟩|⟨hs,rfl,rfl⟩
 ·exact full _ hs
 ·have hmb:(m.set b (.tip e k)) b=some (.tip e k):=Store.jv _ _ _;have h1:=uh (P:=P) (Γ:=Γ) (R0:=fun a c=>a=0∧c=b) (N:=1) (m:=one b (.tip e k)) hm hF hok hG (args0:=.sl es [] (.tip 0 k)::az) (args:=.sl es [] (.tip b k)::az) (.cons (VR.sl (k:=.tip 0 k) (k':=.tip b k) (hes.up _) .nil ⟨⟨rfl,rfl⟩,rfl⟩) (ha.up _)) (Sl (X:=.tip e k) ⟨rfl,rfl⟩) (fun _ _ q=>by omega) (Q:=fun o h'=>match o with | .ret v=>∃ j k,v = .sl es2 [] (.tip j k)∧lk h' j=some (.tip e k) | .pan _=>False) (h _ _ (.inr ⟨k,rfl,rfl,hne0⟩));have h3:=h1.frame (Ia b (.tip e k) (m:=m.set b (.tip e k)));rw[Lm hmb]at h3;refine jB.less h3 ?_;rintro o m'' ⟨m1,rfl,d,S,o0,h',s1,s2,s3,s4⟩
  cases o0 with
  |pan v=>exact s4.elim
  |ret v=>
   cases o with
   |pan v'=>exact s3.elim
   |ret v' =>
    obtain⟨j,k2,rfl,hj⟩:=s4;obtain⟨es',mr,k',rfl,ra,rb,rc⟩:=VR.Cf s3;obtain rfl:=ou h2 ra;obtain rfl:=rb.kN
    cases k' with
    |tip b2 k' =>
     obtain⟨r0,rfl⟩:=rc;obtain⟨Y',g1,g2⟩:=s2.blk _ _ _ r0 hj
     cases Y' with
     |tip e' k' =>
      obtain⟨rfl,rfl⟩:=g2
      have hmb2:m b2=none:=by
       by_cases e:b2=b
       ·rw[e];exact hb
       ·rcases d b2 with q|q
        ·rw[g1]at q;cases q
        ·simp only[del,if_neg e,Store.jw _ _ e]at q;exact q
      refine⟨m.set b2 (.tip e k2),?_,_,rfl,hz,.inr ⟨hne,b2,k2,hmb2,rfl,rfl⟩⟩;intro c x hx
      by_cases e:c=b2
      ·subst e;rw[Store.jv]at hx;cases hx;simp only[Store.or,g1]
      ·rw[Store.jw _ _ e]at hx;have hcb:c≠b:=by rintro rfl;rw[hb]at hx;cases hx
       rcases d c with q|q
       ·simp only[Store.or,q,del,if_neg hcb,Store.jw _ _ hcb];exact hx
       ·simp only[del,if_neg hcb,Store.jw _ _ hcb]at q;rw[q]at hx;cases hx
     |_=>exact g2.elim
    |_=>exact rc.elim
 ·exact full _ hs
end
section
variable {P:Program} {Γ:jG} {Kp:V→Hl→Prop} {N:Nat} {l:List Item} {K:HS→Prop} {t:List V} {r:Hl} {d:Option Tmp} {s:List (Tmp×Option (Tmp×Bool)×AOp)} {g:FuncId} {first args caps:List V}
theorem Oc{e:TypeId}{size:Nat}{az es es2:List V}{x0:Option Blk}{tok:Tok}(hl:r.length<999999)(he:first++args++caps = .sl es [] tok::az)(hB:BH e x0 tok es)(hz:oq size es=true)(hne:es2≠[])
  (hA:∀ m m' v,GR e size m m' v es→jB P Γ g (v::az) m' fun o m2=>∃ v2,o = .ret v2∧Buf e size m m2 v2 es2) (h1:nbs 0 es) (ha:nbs 0 az) (h2:nbs 0 es2)
  (hr:∀ k,hth P Γ Kp s l K (hput t (none::(r++[some (.tip e k)])) d (some (.sl es2 [] (.tip (r.length+1) k))))):tC P Γ Kp (.fn (.func g) first caps) args d s l K t (x0::r):=by
 rcases hB with ⟨rfl,rfl⟩|⟨k0,rfl,rfl,hne0⟩
 ·intro R args' m' rl H;rw[he]at rl;obtain⟨y,ys,rfl,r1,r2⟩:=rl.cons_inv;obtain rfl:=ou ha r2;have:y = .sl es [] .full:=D7 (v:=.sl es [] .full) (VR.sl (k:=.full) (k':=.full) h1 .nil trivial) r1;subst this;refine(hA m' m' _ (.inr ⟨hz,rfl,rfl⟩)).mono ?_;rintro o m2 ⟨v2,rfl,hb,(⟨q,_⟩|⟨_,b,k,q1,rfl,rfl⟩)⟩
  ·exact absurd q hne
  ·have hlen:((none:Option Blk)::r).length=r.length+1:=rfl;exact⟨R.add (r.length+1) b,.ret _,_,R.nD _ _,H.push (x:=.tip e k) (x':=.tip e k) q1 (by rw[hlen];omega) ⟨rfl,rfl⟩,VR.sl (k:=.tip (r.length+1) k) (k':=.tip b k) (h2.up _) .nil ⟨.inr ⟨rfl,rfl⟩,rfl⟩,hr k⟩
 ·refine qA (j:=0) (k:=k0) (e:=e) (size:=size) (es:=es) (es2:=es2) (by simp only[ax];omega) he rfl hz hne0 hne (fun m m' v h=>hA m m' v (.inl h)) h1 ha h2 fun k => ?_;have:=hr k
  simpa only[hset,aB,ax] using this
end
end Go.Av
namespace Go.Av
section
variable {P:Program} {Γ:jG} {t:List V} {h:Hl} {N:Nat}
theorem X4{hs r:Hl}{a:Nat}:lk (hs++r) a=if a<hs.length then lk hs a else lk r (a-hs.length):=by
 induction hs generalizing a with
 |nil=>simp
 |cons x hs ih=>
  cases a with
  |zero=>simp[lk]
  |succ a=>
   simp only[aB,lk,ih,ax,Nat.add_lt_add_iff_right,Nat.add_sub_add_right]
theorem IW{S:List Nat}{c L:Nat}{J:List V→Hl→Prop}{e:TypeId}{j k:Nat}{es more:List V}(hs:Hl)(h1:t.length=L)(hN:N≤c)(hcj:c≤j)(hc2:c<1000000)(hj:lk h j=some (.tip e k))(hlen:hs.length=c)(hS:S.map (jT t) = .sl es [] (.tip j k)::more)(hes:nbs 0 es)(hm:nbs c more)
  (hB:∀ a<c,∀ x,lk hs a=some x→lk h a=some x∧nbB c x) (hJ:J (.sl es [] (.tip c k)::more) (hs++[some (.tip e k)])):Back S (aJ c++[j]) N L J ⟨t,h⟩:=by
 have g1:∀ a<c,(aJ c++[j])[a]? = some a:=by
  intro a ha;rw[List.getElem?_append_left (by simpa using ha)];exact Ie ha
 have g2:(aJ c++[j])[c]? = some j:=by
  rw[List.getElem?_append_right (by simp)];simp
 have hm':(NB c).le (Nm (aJ c++[j])):=fun a b ⟨e,l⟩=>by subst e;exact g1 _ l
 refine⟨h1,fun a ha=>g1 a (by omega),?_,by simp;omega,_,hs++[some (.tip e k)],?_,by simp[hlen],?_,hJ⟩
 ·rw[List.nodup_append];refine⟨List.nodup_range,by simp,?_⟩;intro a ha b hb;simp only[List.mem_range]at ha;simp only[cO]at hb;omega
 ·rw[hS];exact .cons (VR.sl (k:=.tip c k) (k':=.tip j k) (hes.up _) .nil ⟨g2,rfl⟩) (LR.mono hm' hm)
 ·intro a b hab
  by_cases ha:a<c
  ·rw[g1 a ha]at hab;cases hab;simp only;rw[X4,if_pos (by omega)]
   cases hx:lk hs a with
   |none=>trivial
   |some x=>
    obtain⟨q1,q2⟩:=hB a ha x hx;rw[q1];exact BR.mono hm' q2
  ·have hac:a=c:=by
    have:=(List.getElem?_eq_some_iff.1 hab).1;simp at this;omega
   subst hac;rw[g2]at hab;cases hab;simp only;rw[X4,if_neg (by omega),hlen,Nat.sub_self,hj];exact⟨rfl,rfl⟩
end
end Go.Av
namespace Go.Av.Fn
open Go.Proofs
def uz(n:Int):List UInt8:=Lib.uvarint (Lib.zigzag n)
def kH:List Int→List UInt8
 |[]=>[]
 |n::l=>uz n++kH l
theorem Jw(a b:List Int):kH (a++b)=kH a++kH b:=by
 induction a with
 |nil=>rfl
 |cons n a ih=>simp only[aB,kH,ih,bg]
theorem ny{n:Int}(h:Av.I64 n):(uz n).length≤10:=Lib.uvarint_length64 (Av.zigzag_u64 h)
theorem uB(n:Int):uz n≠[]:=by
 unfold uz;rw[Lib.uvarint]
 split<;>simp
theorem wE{l:List Int}(h:∀ n∈l,Av.I64 n):(kH l).length≤10*l.length:=by
 induction l with
 |nil=>exact aY _
 |cons n l ih=>
  have h1:=ny (h n (aU ..));have h2:=ih fun x hx=>h x (aX _ hx);simp only[kH,aH,ax];omega
theorem sJ{k:Nat}(l:List Int):nbs k (l.map it):=x8 (fun n=>by simp only[nbS]) l
theorem lU{l:List UInt8}(h:l≠[]):l.map by8≠[]:=by simpa using h
section
variable {Γ:jG} {m m':Store}
theorem zee{v:V}{l:List UInt8}(hB:GR 5 1 m m' v (l.map by8))(ns:List Int)(hn:∀ n∈ns,Av.I64 n)(hne:ns≠[])(hl:l.length+10*ns.length<1099511627776)(hc:ns.length<1000000) :
  jB Tryz.prog Γ 101 [v,.sl (ns.map it) [] .full] m' fun o m2=>∃ v2,o = .ret v2∧Buf 5 1 m m2 v2 ((l++kH ns).map by8):=by
 have hne2:kH ns≠[]:=by
  cases ns with
  |nil=>exact absurd rfl hne
  |cons n ns=>simp only[kH];intro h;exact uB n (List.append_eq_nil_iff.1 h).1
 refine JO mixed zgP zku jP hB (jS _) (by simp only[sJ,nbS]) (jS _) (lJ _) (lU (by simp[hne2])) fun x0 tok hx => ?_;simp only[zkv,ss0,ay,ag];simp only[ssH,ag,ae,reduceIte,af,aj,ah,ai];refine mi [0,7,8,9] 18 (fun n vs h=>∃ (i:Nat) (tk:Tok),vs=[.sl ((l++kH (ns.take i)).map by8) [] tk,.sl (ns.map it) [] .full,it ns.length,it i]∧i+n=ns.length+1∧i≤ns.length∧((i=0∧h=[x0]∧tk=tok)∨(0<i∧∃ k,h=[none,some (.tip 5 k)]∧tk = .tip 1 k))) (ns.length+1) (by decide) (by decide) (aJ 1) ?_ ?_
 ·have e0:[0,7,8,9].map (jT [.sl (l.map by8) [] tok,.sl (ns.map it) [] .full,un,un,.sl [] [] .full,un,un,.sl (ns.map it) [] .full,it (ns.map it).length,it 0,un,un,un,un,un,un,un,un])=[.sl ((l++kH (ns.take 0)).map by8) [] tok,.sl (ns.map it) [] .full,it ns.length,it ((0:Nat):Int)]:=by
   rw[show l++kH (ns.take 0)=l by simp[kH],aK];rfl
  refine jW rfl (by decide) (by decide) (by simp) ?_ ?_ ⟨0,tok,e0,by omega,by omega,.inl ⟨rfl,rfl,rfl⟩⟩
  ·show nbs 1 [.sl (l.map by8) [] tok,.sl (ns.map it) [] .full,it (ns.map it).length,it 0]
   rcases hx with ⟨rfl,rfl⟩|⟨k,rfl,rfl,_⟩
   ·simp only[sJ,nbS]
   ·simp only[sJ,nbS];decide
  ·intro a ha x hx';have:a=0:=by omega
   subst this
   rcases hx with ⟨rfl,rfl⟩|⟨k,rfl,rfl,_⟩
   ·cases hx'
   ·cases hx';simp only[nbS]
 rintro n t h J hJ hlt ⟨i,tk,hv,hi1,hi2,hh⟩;simp only[aZ,aP,and_true]at hv;obtain⟨g0,g7,g8,g9⟩:=hv
 have hlen:(l++kH (ns.take i)).length≤l.length+10*ns.length:=by
  have:=wE (l:=ns.take i) fun x hx=>hn x (dw hx);rw[bf]at this;simp only[aH];omega
 obtain⟨pr,hpr⟩:∃ z,z=l++kH (ns.take i):=⟨_,rfl⟩;rw[←hpr]at g0 hlen;rw[mJ hlt];simp only[jV,upTo,g0,g7,g8,g9,aK,ssH,ag,ae,reduceIte,af,aj,ah,ai]
 by_cases hil:i<ns.length
 ·have hx2:ns[i]? = some ns[i]:=aI hil;have hni:Av.I64 ns[i]:=hn _ (dS _);have hst:kH (ns.take (i+1))=kH (ns.take i)++uz ns[i]:=by rw[aW,hx2,Jw];simp[kH]
  generalize ns[i]=a at hx2 hni hst;have hnb:=sJ (k:=0) ns;have hnb1:=sJ (k:=1) ns;obtain⟨nx,hnx⟩:∃ z,z=l++kH (ns.take (i+1)):=⟨_,rfl⟩;have hp:nx=pr++uz a:=by rw[hnx,hpr,hst,bg]
  have hcall:∀ (mm mm':Store) (w:V),GR 5 1 mm mm' w (pr.map by8)→jB Tryz.prog Γ 61 [w,it a] mm' fun o m2=>∃ v2,o = .ret v2∧Buf 5 1 mm m2 v2 (nx.map by8):=by
   intro mm mm' w hw;rw[hp];exact qp (Γ:=Γ) hw hni (by omega)
  have hi9:sU 1 (.sl (ns.map it) [] .full) (it i)=some (.elt [it a]):=oh (e:=it a) (by rw[bH,hx2];rfl) rfl;have hne3:nx.map by8≠[]:=lU (by rw[hp];simp[uB])
  have fin:∀ {t':List V} {h':Hl} (j k:Nat),t'.length=18→jT t' 0 = .sl (nx.map by8) [] (.tip j k)→jT t' 7 = .sl (ns.map it) [] .full→jT t' 8=it ns.length→jT t' 9=it (i+1:Nat)→lk h' j=some (.tip 5 k)→1≤j→∃ names,J names ⟨t',h'⟩:=by
   intro t' h' j k q q0 q7 q8 q9 qj hj;refine⟨_,hJ (n-1) _ _ (by omega) (IW (c:=1) (j:=j) (k:=k) (es:=nx.map by8) (more:=[.sl (ns.map it) [] .full,it ns.length,it (i+1:Nat)]) [none] q (aY _) hj (by decide) qj rfl (by simp only[aZ,q0,q7,q8,q9]) (jS _) (by simp only[hnb1,nbS]) ?_ ⟨i+1,.tip 1 k,by rw[←hnx],by omega,by omega,.inr ⟨by omega,k,rfl,rfl⟩⟩)⟩;intro a ha x hx;have:a=0:=by omega
   subst this;cases hx
  simp only[show decide ((i:Int)<(ns.length:Int))=true from decide_eq_true (by omega),hi9,ssH,ag,ae,reduceIte,af,aj,ah,ai]
  rcases hh with ⟨hi0,rfl,rfl⟩|⟨hi0,k,rfl,rfl⟩
  ·have hB0:BH 5 x0 tk (pr.map by8):=by rw[hpr,hi0];simpa [kH] using hx
   refine Oc (size:=1) (az:=[it a]) (by simp) rfl hB0 (lJ _) hne3 hcall (jS _) nbY (jS _) fun k => ?_;simp only[aA,jQ (show i<4611686018427387904 by omega),ssH,ag,ae,reduceIte,af,aj,ah,ai];exact fin 1 k rfl rfl rfl rfl rfl rfl (by decide)
  ·refine qA (j:=1) (size:=1) (az:=[it a]) (by simp) rfl rfl (lJ _) ?_ hne3 (fun mm mm' w hw=>hcall mm mm' w (.inl hw)) (jS _) nbY (jS _) fun k => ?_
   ·refine lU ?_;rw[hpr]
    cases ns with
    |nil=>simp at hil
    |cons n ns=>
     cases i with
     |zero=>omega
     |succ i=>simp[kH,uB]
   simp only[ax,aA,jQ (show i<4611686018427387904 by omega),ssH,ag,ae,reduceIte,af,aj,ah,ai];exact fin 2 k rfl rfl rfl rfl rfl rfl (by decide)
 ·simp only[show decide ((i:Int)<(ns.length:Int))=false from decide_eq_false (by omega),ssH,ag,ae,reduceIte,af,aj,ah,ai];have hie:i=ns.length:=by omega
  rw[hie,bJ]at hpr;subst hpr
  rcases hh with ⟨hi0,rfl,rfl⟩|⟨hi0,k,rfl,rfl⟩
  ·have:ns=[]:=List.length_eq_zero_iff.1 (by omega);exact absurd this hne
  ·exact jy rfl ⟨1,k,rfl,rfl⟩
def pX(e:Ent):List UInt8:=kH [e.c,e.q,e.k,e.n]++(uz e.s.length++e.s)++AL e.ck e.cn e.cs
def GN(e:Ent):Prop:=Av.I64 e.c∧Av.I64 e.q∧Av.I64 e.k∧Av.I64 e.n∧Av.I64 e.ck∧Av.I64 e.cn
def zkJ(a b c d:V):Option V:=(pI 1 [.val (.int .i64 0),.val (.int .i64 0),.val (.int .i64 0),.val (.int .i64 0)] [(0,a),(1,b),(2,c),(3,d)]).map fun es=>.sl es [] .full
theorem zel{t:List V}{a b c d:Nat}:jJ Tryz.prog (ev Γ t) m (.lits 1 [.val (.int .i64 0)] 4 [(0,.tmp a),(1,.tmp b),(2,.tmp c),(3,.tmp d)])=zkJ (jT t a) (jT t b) (jT t c) (jT t d):=by
 rw[←rV (Γ:=Γ),←rV (Γ:=Γ),←rV (Γ:=Γ),←rV (Γ:=Γ)];rfl
theorem zek(a b c d:Int):zkJ (it a) (it b) (it c) (it d)=some (.sl ([a,b,c,d].map it) [] .full):=rfl
theorem DY{e:Ent}(h:GN e)(hs:e.cs.length≤1099511627776)(hs2:e.s.length≤1099511627776):(pX e).length≤80+e.s.length+e.cs.length:=by
 obtain⟨h1,h2,h3,h4,h5,h6⟩:=h;have a:=wE (l:=[e.c,e.q,e.k,e.n]) (by intro n hn;simp only[dQ,dm,or_false]at hn;rcases hn with rfl|rfl|rfl|rfl<;>assumption);have b:=ny (n:=(e.s.length:Int)) ⟨by omega,by omega⟩;have c:=Ui (k:=e.ck) (n:=e.cn) h5 h6 (t:=e.cs) (by omega);simp only[pX,aH,ax,aA]at a ⊢;omega
theorem Xw{v:V}{l:List UInt8}(hB:GR 5 1 m m' v (l.map by8))(e:Ent)(he:GN e)(hl:l.length+e.s.length+e.cs.length+1000<1099511627776) :
  jB Tryz.prog Γ 50 [v,kM e] m' fun o m2=>∃ v2,o = .ret v2∧Buf 5 1 m m2 v2 ((l++pX e).map by8):=by
 have hne:=lY (k:=0) e
 have hn4:∀ n∈[e.c,e.q,e.k,e.n],Av.I64 n:=by
  obtain⟨h1,h2,h3,h4,h5,h6⟩:=he;intro n hn;simp only[dQ,dm,or_false]at hn
  rcases hn with rfl|rfl|rfl|rfl<;>assumption
 have hlen:=wE hn4;simp only[ax,aA]at hlen;have hz:kH [e.c,e.q,e.k,e.n]≠[]:=by simp[kH,uB]
 refine JO mixed ziP zlz jP hB (jS _) (by simp only[hne,nbS]) (jS _) (lJ _) (lU (by simp[pX,hz])) fun x0 tok hx => ?_;simp only[F50,kM,ss0,ay,ag];simp only[zel,zek,jA,ssH,ag,ae,reduceIte,af,aj,ah,ai];have hni:=sJ (k:=0) [e.c,e.q,e.k,e.n];have hb2:=ny (n:=(e.s.length:Int)) ⟨by omega,by omega⟩;refine Oc (size:=1) (az:=[.sl ([e.c,e.q,e.k,e.n].map it) [] .full]) (by simp) rfl hx (lJ _) (es2:=(l++kH [e.c,e.q,e.k,e.n]).map by8) (lU (by simp[hz])) (fun mm mm' w hw=>zee hw _ hn4 (by simp) (by simp;omega) (by simp)) (jS _) (by simp only[hni,nbS]) (jS _) fun k => ?_;simp only[ax,aA,fU,gy,ssH,ag,ae,reduceIte,af,aj,ah,ai];refine qA (e:=5) (j:=2) (size:=1) (az:=[bs e.s]) (by simp) rfl rfl (lJ _) (es2:=(l++kH [e.c,e.q,e.k,e.n]++uz e.s.length++e.s).map by8) (lU (by simp[hz])) (lU (by simp[hz])) (fun mm mm' w hw=>Gg hw (by simp;omega) (by simp;omega)) (jS _) nbY (jS _) fun k2 => ?_;simp only[ax,aA,ssH,ag,ae,reduceIte,af,aj,ah,ai];have e2:l++pX e=l++kH [e.c,e.q,e.k,e.n]++uz e.s.length++e.s++AL e.ck e.cn e.cs:=by simp only[pX,bg]
 rw[e2];refine qA (e:=5) (j:=3) (size:=1) (az:=[zK e.ck e.cn e.cs]) (by simp) rfl rfl (lJ _) (es2:=(l++kH [e.c,e.q,e.k,e.n]++uz e.s.length++e.s++AL e.ck e.cn e.cs).map by8) (lU (by simp[hz])) (lU (by simp[hz])) (fun mm mm' w hw=>zhD (.inl hw) he.2.2.2.2.1 he.2.2.2.2.2 (by simp;omega) (by simp;omega)) (jS _) (by simp only[zK,nbS]) (jS _) fun k3 => ?_;simp only[ax,aA,ssH,ag,ae,reduceIte,af,aj,ah,ai];exact jy rfl ⟨4,k3,rfl,rfl⟩
def pW:List Ent→List UInt8
 |[]=>[]
 |e::l=>pX e++pW l
theorem PY(a b:List Ent):pW (a++b)=pW a++pW b:=by
 induction a with
 |nil=>rfl
 |cons e a ih=>simp only[aB,pW,ih,bg]
def xY(x:Lg):List UInt8:=uz x.b++(uz x.c.length++x.c)++uz x.l.length++pW x.l
def zkw(e:Ent):Prop:=GN e∧e.s.length≤255∧e.cs.length≤255
theorem Zq{l:List Ent}(h:∀ e∈l,zkw e):(pW l).length≤600*l.length:=by
 induction l with
 |nil=>exact aY _
 |cons e l ih=>
  obtain⟨h1,h2,h3⟩:=h e (aU ..);have h4:=ih fun x hx=>h x (aX _ hx);have h5:=DY h1 (by omega) (by omega);simp only[pW,aH,ax];omega
def zfg(x:Lg):Prop:=Av.I64 x.b∧x.c.length≤65536∧x.l.length≤64∧∀ e∈x.l,zkw e
theorem Uh{x:Lg}(h:zfg x):(xY x).length≤110000:=by
 obtain⟨h1,h2,h3,h4⟩:=h;have a:=ny h1;have b:=ny (n:=(x.c.length:Int)) ⟨by omega,by omega⟩;have c:=ny (n:=(x.l.length:Int)) ⟨by omega,by omega⟩;have d:=Zq h4;simp only[xY,aH];omega
def zdG(e:Ent):Prop:=GN e∧e.s.length≤2000000∧e.cs.length≤2000000
theorem Ns{l:List Ent}(h:∀ e∈l,zdG e):(pW l).length≤4000100*l.length:=by
 induction l with
 |nil=>exact aY _
 |cons e l ih=>
  obtain⟨h1,h2,h3⟩:=h e (aU ..);have h4:=ih fun x hx=>h x (aX _ hx);have h5:=DY h1 (by omega) (by omega);simp only[pW,aH,ax];omega
def zff(x:Lg):Prop:=Av.I64 x.b∧x.c.length≤2000000∧x.l.length≤1000∧∀ e∈x.l,zdG e
theorem zfg.w{x:Lg}(h:zfg x):zff x:=⟨h.1,by have:=h.2.1;omega,by have:=h.2.2.1;omega,fun e he=>by have:=h.2.2.2 e he;exact⟨this.1,by have:=this.2.1;omega,by have:=this.2.2;omega⟩⟩
theorem zec{v:V}{l:List UInt8}(hB:GR 5 1 m m' v (l.map by8))(nn:Bool)(x:Lg)(hx:zff x)(hl:l.length≤1000000) :
  jB Tryz.prog Γ 54 [v,lgV nn x] m' fun o m2=>∃ v2,o = .ret v2∧Buf 5 1 m m2 v2 ((l++xY x).map by8):=by
 have hnb:=pO (k:=0) nn x;have hnl:=kL (k:=0) nn x.l;obtain⟨h1,h2,h3,h4⟩:=id hx;have hb2:=ny h1;have hc2:=ny (n:=(x.c.length:Int)) ⟨by omega,by omega⟩;have hd2:=ny (n:=(x.l.length:Int)) ⟨by omega,by omega⟩;refine JO mixed ziL zlv jP hB (jS _) (by simp only[hnb,nbS]) (jS _) (lJ _) (lU (by simp[xY,uB])) fun x0 tok hx0 => ?_;simp only[F54,lgV,ss0,ay,ag];simp only[Bc,jA,ssH,ag,ae,reduceIte,af,aj,ah,ai];refine Oc (e:=5) (size:=1) (az:=[it x.b]) (by simp) rfl hx0 (lJ _) (es2:=(l++uz x.b).map by8) (lU (by simp[uB])) (fun mm mm' w hw=>qp hw h1 (by omega)) (jS _) nbY (jS _) fun k => ?_;simp only[ax,aA,ssH,ag,ae,reduceIte,af,aj,ah,ai];refine qA (e:=5) (j:=2) (size:=1) (az:=[bs x.c]) (by simp) rfl rfl (lJ _) (es2:=(l++uz x.b++uz x.c.length++x.c).map by8) (lU (by simp[uB])) (lU (by simp[uB])) (fun mm mm' w hw=>Gg hw (by simp;omega) (by simp;omega)) (jS _) nbY (jS _) fun k2 => ?_;simp only[ax,aA,ssH,ag,ae,reduceIte,af,aj,ah,ai];refine qA (e:=5) (j:=3) (size:=1) (az:=[it x.l.length]) (by simp) rfl rfl (lJ _) (es2:=(l++uz x.b++uz x.c.length++x.c++uz x.l.length).map by8) (lU (by simp[uB])) (lU (by simp[uB])) (fun mm mm' w hw=>qp (.inl hw) ⟨by omega,by omega⟩ (by simp;omega)) (jS _) nbY (jS _) fun k3 => ?_;obtain⟨pl,hpl⟩:∃ z,z=l++uz x.b++uz x.c.length++x.c++uz x.l.length:=⟨_,rfl⟩;rw[←hpl];simp only[ax,aA,Bc,ssH,ag,ae,reduceIte,af,aj,ah,ai];have hpe:l++xY x=pl++pW x.l:=by rw[hpl];simp only[xY,bg]
 have hpn:pl≠[]:=by rw[hpl];simp[uB]
 have hpo:pl.length≤3100000:=by rw[hpl];simp only[aH];omega
 rw[hpe];clear hpl hpe;have hnl2:=kL (k:=2) nn x.l
 have back:∀ {t':List V} {h' : Hl} (n' i' j k:Nat),t'.length=30→jT t' 0 = .sl ((pl++pW (x.l.take i')).map by8) [] (.tip j k)→jT t' 3 = .ptr 1 0→jT t' 19=lH nn x.l→jT t' 20=it x.l.length→jT t' 21=it i' → lk h' 1=some (zA nn x)→lk h' j=some (.tip 5 k)→2≤j→i' + n'=x.l.length+1→i'≤x.l.length →
   Back [0,3,19,20,21] (aJ 2++[j]) 1 30 (fun vs h=>∃ (i k:Nat),vs=[.sl ((pl++pW (x.l.take i)).map by8) [] (.tip 2 k),.ptr 1 0,lH nn x.l,it x.l.length,it i]∧i+n'=x.l.length+1∧i≤x.l.length∧h=[none,some (zA nn x),some (.tip 5 k)]) ⟨t',h'⟩:=by
  intro t' h' n' i' j k q q0 q3 q19 q20 q21 qb qj hj hn' hi';refine IW (c:=2) (j:=j) (k:=k) (es:=(pl++pW (x.l.take i')).map by8) (more:=[.ptr 1 0,lH nn x.l,it x.l.length,it i']) [none,some (zA nn x)] q (by decide) hj (by decide) qj rfl (by simp only[aZ,q0,q3,q19,q20,q21]) (jS _) (by simp only[hnl2,nbS];decide) ?_ ⟨i',k,rfl,hn',hi',rfl⟩;intro a ha y hy;have:a=0∨a=1:=by omega
  rcases this with rfl|rfl
  ·cases hy
  ·cases hy;exact⟨qb,by simp only[zA,hnl2,nbS]⟩
 refine mi [0,3,19,20,21] 30 (fun n vs h=>∃ (i k:Nat),vs=[.sl ((pl++pW (x.l.take i)).map by8) [] (.tip 2 k),.ptr 1 0,lH nn x.l,it x.l.length,it i]∧i+n=x.l.length+1∧i≤x.l.length∧h=[none,some (zA nn x),some (.tip 5 k)]) (x.l.length+1) (by decide) (by decide) (aJ 2++[4]) (back (x.l.length+1) 0 4 k3 rfl (by simp only[List.take_zero,pW,aS];rfl) rfl rfl rfl rfl rfl rfl (by decide) (by omega) (by omega)) ?_;rintro n t h J hJ hlt ⟨i,k,hv,hi1,hi2,rfl⟩;simp only[aZ,aP,and_true]at hv;obtain⟨g0,g3,g19,g20,g21⟩:=hv
 have hlen:(pW (x.l.take i)).length≤4000100*1000:=by
  have:=Ns (l:=x.l.take i) fun e he=>h4 e (dw he);rw[bf]at this;omega
 obtain⟨pr,hpr⟩:∃ z,z=pl++pW (x.l.take i):=⟨_,rfl⟩;have hprl:pr.length≤5000000000:=by rw[hpr,aH];omega
 have hpr0:pr≠[]:=by rw[hpr];simp[hpn]
 rw[←hpr]at g0;rw[mJ hlt];simp only[jV,upTo,g0,g3,g19,g20,g21,zA,ssH,ag,ae,reduceIte,af,aj,ah,ai]
 by_cases hil:i<x.l.length
 ·have hx2:x.l[i]? = some x.l[i]:=aI hil;have hei:zdG x.l[i]:=h4 _ (dS _)
  have hst:pl++pW (x.l.take (i+1))=pr++pX x.l[i]:=by
   rw[aW,hx2,PY,hpr];simp[pW]
  generalize x.l[i]=e at hx2 hei hst;simp only[show decide ((i:Int)<(x.l.length:Int))=true from decide_eq_true (by omega),lH,CU hx2,jA,ssH,ag,ae,reduceIte,af,aj,ah,ai];refine qA (e:=5) (j:=2) (size:=1) (az:=[kM e]) (by simp) rfl rfl (lJ _) (es2:=(pr++pX e).map by8) (lU hpr0) (lU (by simp[hpr0])) (fun mm mm' w hw=>Xw (.inl hw) e hei.1 (by have:=hei.2;omega)) (jS _) (by simp only[lY,nbS]) (jS _) fun k2 => ?_;simp only[ax,aA,jQ (show i<4611686018427387904 by omega),ssH,ag,ae,reduceIte,af,aj,ah,ai];exact⟨_,hJ (n-1) _ _ (by omega) (back (n-1) (i+1) 4 k2 rfl (by rw[hst];rfl) rfl rfl rfl rfl rfl rfl (by decide) (by omega) (by omega))⟩
 ·simp only[show decide ((i:Int)<(x.l.length:Int))=false from decide_eq_false (by omega),ssH,ag,ae,reduceIte,af,aj,ah,ai];have hie:i=x.l.length:=by omega
  rw[hie,bJ]at hpr;subst hpr;exact jy rfl ⟨2,k,rfl,rfl⟩
end
def hdB(x:List UInt8):List UInt8:=uz x.length++x
def frB(x:List UInt8):List UInt8:=hdB x++le4 (yj (hdB x))
theorem RU(n:Nat):(le4 n).length=4:=rfl
theorem zW(x:List UInt8):(frB x).length=(uz x.length).length+x.length+4:=by simp only[frB,hdB,RU,aH]
def frG(s:List UInt8):List UInt8×Nat×Int:=
 if (kD s 1048576).2.2≠0 then ([],0,(kD s 1048576).2.2)
 else if s.length<(kD s 1048576).2.1+(kD s 1048576).1.toNat+4 then ([],0,3)
 else if s.take ((kD s 1048576).2.1+(kD s 1048576).1.toNat+4)=frB ((s.drop (kD s 1048576).2.1).take (kD s 1048576).1.toNat)then ((s.drop (kD s 1048576).2.1).take (kD s 1048576).1.toNat,(kD s 1048576).2.1+(kD s 1048576).1.toNat+4,0)
 else ([],0,4)
theorem Vb(s:List UInt8)(most:Int){k:Nat}(h:10≤k):kD (s.take k) most=kD s most:=by unfold kD;rw[Av.numL_take s h]
theorem yl{s:List UInt8}{n most:Int}{u:Nat}(h:kD s most=(n,u,0)):0≤n∧n≤max 0 most∧0<u∧u≤10∧u≤s.length∧s.take u=uz n:=by
 unfold kD at h
 split at h
 ·rename_i h1;simp only[bz]at h;exact absurd h.2.2 h1
 ·rename_i h1
  split at h
  ·simp at h
  ·split at h
   ·simp at h
   ·rename_i h2 h3;simp only[bz,and_true]at h;obtain⟨rfl,rfl⟩:=h;have h1':(Av.numL s).2.2=0:=by simpa using h1
    obtain⟨g1,g2,g3,g4⟩:=Av.numL_canon (s:=s) (n:=(Av.numL s).1) (u:=(Av.numL s).2.1) (by rw[←h1']);have:=ny g4;refine⟨by omega,by omega,g1,?_,g2,g3⟩;have e:=congrArg List.length g3;rw[bf]at e;unfold uz at this;omega
theorem zhT{s:List UInt8}{n u:Nat}(h:kD s 1048576=((n:Int),u,0))(hl:u+n+4≤s.length) :
  (s.take (u+n+4)=frB ((s.drop u).take n))↔(s.drop (u+n)).take 4=le4 (yj (s.take (u+n))):=by
 obtain⟨_,_,_,_,h1,h2⟩:=yl h;have hx:((s.drop u).take n).length=n:=by rw[bf,aV];omega
 have e1:hdB ((s.drop u).take n)=s.take (u+n):=by
  rw[hdB,hx,←h2,List.take_add]
 rw[frB,e1,List.take_add,List.append_cancel_left_eq]
theorem SS{x:List UInt8}(h:x.length≤1048576)(r:List UInt8):kD (uz x.length++r) 1048576=((x.length:Int),(uz x.length).length,0):=by
 have hi:Av.I64 (x.length:Int):=⟨by omega,by omega⟩;have:=Ov hi r 1048576 (by decide);rw[if_neg (by omega)]at this;exact this
theorem Sv{x:List UInt8}(h:x.length≤1048576)(r:List UInt8):frG (frB x++r)=(x,(frB x).length,0):=by
 have e:frB x++r=uz x.length++(x++(le4 (yj (hdB x))++r)):=by simp only[frB,hdB,bg]
 have hc:kD (frB x++r) 1048576=((x.length:Int),(uz x.length).length,0):=by rw[e];exact SS h _
 have hd:(frB x++r).drop (uz x.length).length=x++(le4 (yj (hdB x))++r):=by rw[e,List.drop_left]
 have ht:(frB x++r).take ((uz x.length).length+x.length+4)=frB x:=by
  rw[←zW,List.take_left]
 unfold frG;simp only[hc,bn,hd,List.take_left,ht];rw[if_neg (by simp),if_neg (by rw[aH,zW];omega),if_pos trivial,zW]
theorem WE{s x:List UInt8}{n:Nat}(h:frG s=(x,n,0)):n≤s.length∧s.take n=frB x∧x.length≤1048576∧(frB x).length=n:=by
 obtain⟨k,u,e,hc⟩:∃ k u e,kD s 1048576=(k,u,e):=⟨_,_,_,rfl⟩;unfold frG at h;rw[hc]at h;simp only at h
 split at h
 ·rename_i h1;simp only[bz]at h;exact absurd h.2.2 h1
 ·rename_i h1;have:e=0:=by simpa using h1
  subst this;obtain⟨g1,g2,g3,g4,g5,g6⟩:=yl hc;obtain⟨k,rfl⟩:=ed g1;simp only[bn]at h
  split at h
  ·simp at h
  ·rename_i h2
   split at h
   ·rename_i h3;simp only[bz,and_true]at h;obtain⟨rfl,rfl⟩:=h;refine⟨by omega,h3,by rw[bf];omega,?_⟩;rw[←h3,bf];omega
   ·simp at h
end Go.Av.Fn
namespace Go.Av
section
variable {P:Program} {Γ:jG} {H:Nat→List (Nat×List Nat)×List Nat} {f:FuncId} {F:AFn} {gs:List Nat} {m:Store}
theorem QO(hm:P.follows .mixedOrders=true)(hF:qO P H f=some F)(hok:F.body.okH gs=true)(hG:GOk Γ gs){rb o:Nat}{az:List V}{X:Blk}(hb:m rb=some X)(hX:nbB 0 X)(ha:nbs 0 az){Q:V→Blk→Prop}
  (h:qB P Γ (fun _ _=>False) 1 F.body (uU F.res fun v h'=>nb 0 (wN v)∧∃ Y,lk h' 0=some Y∧nbB 0 Y∧Q (wN v) Y) ⟨start F.ntmps (.ptr 0 o::az),[some X]⟩) :
  jB P Γ f (.ptr rb o::az) m fun o m'=>∃ v Y,o = .ret v∧m'=m.set rb Y∧Q v Y:=by
 have h1:=uh (P:=P) (Γ:=Γ) (R0:=fun a c=>a=0∧c=rb) (N:=1) (m:=one rb X) hm hF hok hG (args0:=.ptr 0 o::az) (args:=.ptr rb o::az) (.cons (.ptr o ⟨rfl,rfl⟩) (ha.up _)) (Sl hX) (fun _ _ q=>by omega) (Q:=fun o h'=>match o with | .ret v=>nb 0 (wN v)∧∃ Y,lk h' 0=some Y∧nbB 0 Y∧Q (wN v) Y | .pan _=>False) h;have h2:=h1.frame (Ia rb X (m:=m));rw[Lm hb]at h2;refine jB.wnd (R:=fun o m'=>∃ v Y,o = .ret v∧m'=m.set rb Y∧Q (wN v) Y) (jB.less h2 ?_) ?_ ?_
 ·rintro o m'' ⟨m',rfl,d,S,o0,h',s1,s2,s3,s4⟩
  cases o0 with
  |pan v=>exact s4.elim
  |ret v=>
   cases o with
   |pan v'=>exact s3.elim
   |ret v' =>
    obtain⟨q1,Y,q2,q3,q4⟩:=s4;obtain⟨Y',g1,g2⟩:=s2.blk _ _ _ (s1 _ _ ⟨rfl,rfl⟩) q2;obtain rfl:=Gp q3 g2;have e3:wN v'=wN v:=D7 q1 (VR.wN s3);refine⟨m.set rb Y',?_,v',Y',rfl,rfl,by rw[e3];exact q4⟩;intro b x hx
    by_cases e:b=rb
    ·subst e;rw[Store.jv]at hx;cases hx;simp only[Store.or,g1]
    ·rw[Store.jw _ _ e]at hx
     rcases d b with q|q
     ·simp only[Store.or,q,del,if_neg e];exact hx
     ·simp only[del,if_neg e]at q;rw[q]at hx;cases hx
 ·rintro v m' ⟨v',Y,e,e2,q⟩;cases e;exact⟨_,Y,rfl,e2,q⟩
 ·rintro v m' ⟨v',Y,e,_⟩;cases e
end
end Go.Av
namespace Go.Av.Fn
open Go.Proofs
def zF(s:List UInt8)(a:Nat)(e:Int):Ent×Nat×Int:=
 let c:=mf s a e
 let q:=mf s c.2.1 c.2.2
 let k:=mf s q.2.1 q.2.2
 let n:=mf s k.2.1 k.2.2
 let t:=nJ s n.2.1 n.2.2 255
 let d:=Bh s t.2.1 t.2.2
 (if d.2.2≠0 then e0 else ⟨c.1,q.1,k.1,n.1,t.1,d.1.1,d.1.2.1,d.1.2.2⟩,d.2.1,d.2.2)
theorem Ls{s:List UInt8}{a:Nat}{e:Int}(ha:a≤s.length):(zF s a e).2.1≤s.length:=by
 unfold zF;exact zeF (zt (lh (lh (lh (lh ha)))))
section
variable {Γ:jG} {m:Store} {rb a:Nat} {s:List UInt8} {e:Int}
set_option maxHeartbeats 1600000 in
theorem Xx(L:xG Γ)(hr:m rb=some (rdB s a e))(ha:a≤s.length)(hs:s.length≤281474976710656) :
  jB Tryz.prog Γ 119 [.ptr rb 0] m fun o m'=>o = .ret (kM (zF s a e).1)∧m'=m.set rb (rdB s (zF s a e).2.1 (zF s a e).2.2):=by
 unfold zF;obtain⟨c,a1,e1,h1⟩:∃ x y z,mf s a e=(x,y,z):=⟨_,_,_,rfl⟩;have l1:=lh (e:=e) ha;rw[h1]at l1;obtain⟨q,a2,e2,h2⟩:∃ x y z,mf s a1 e1=(x,y,z):=⟨_,_,_,rfl⟩;have l2:=lh (e:=e1) l1;rw[h2]at l2;obtain⟨k,a3,e3,h3⟩:∃ x y z,mf s a2 e2=(x,y,z):=⟨_,_,_,rfl⟩;have l3:=lh (e:=e2) l2;rw[h3]at l3;obtain⟨n,a4,e4,h4⟩:∃ x y z,mf s a3 e3=(x,y,z):=⟨_,_,_,rfl⟩;have l4:=lh (e:=e3) l3;rw[h4]at l4;obtain⟨t,a5,e5,h5⟩:∃ x y z,nJ s a4 e4 255=(x,y,z):=⟨_,_,_,rfl⟩;have l5:=zt (most:=255) (e:=e4) l4;rw[h5]at l5;obtain⟨⟨dk,dn,dt⟩,a6,e6,h6⟩:∃ x y z,Bh s a5 e5=(x,y,z):=⟨_,_,_,rfl⟩;simp only at l1 l2 l3 l4 l5;simp only[h1,h2,h3,h4,h5,h6];refine pg (pK mixed zgE zkd jP hr kK nbY ?_);simp only[zke,ss0,ay,ag];simp only[ssH,ag,ae,reduceIte,af,aj,ah,ai];refine jO (b:=0) (X:=rdB s a e) rfl rfl (fun m b' h=>su h ha (by omega)) kK kK nbY nbY ?_;simp only[h1,ssH,ag,ae,reduceIte,af,aj,ah,ai];refine jO (b:=0) (X:=rdB s a1 e1) rfl rfl (fun m b' h=>su h l1 (by omega)) kK kK nbY nbY ?_;simp only[h2,ssH,ag,ae,reduceIte,af,aj,ah,ai];refine jO (b:=0) (X:=rdB s a2 e2) rfl rfl (fun m b' h=>su h l2 (by omega)) kK kK nbY nbY ?_;simp only[h3,ssH,ag,ae,reduceIte,af,aj,ah,ai];refine jO (b:=0) (X:=rdB s a3 e3) rfl rfl (fun m b' h=>su h l3 (by omega)) kK kK nbY nbY ?_;simp only[h4,ssH,ag,ae,reduceIte,af,aj,ah,ai];refine jO (b:=0) (az:=[it 255]) (X:=rdB s a4 e4) rfl rfl (fun m b' h=>Md L 255 h l4 hs) kK kK nbY nbY ?_;simp only[h5,ssH,ag,ae,reduceIte,af,aj,ah,ai];refine jO (b:=0) (X:=rdB s a5 e5) rfl rfl (fun m b' h=>zhQ L h l5 hs) kK kK nbY (XN _) ?_
 simp only[h6,SY,zK,jA,ssH,ag,ae,reduceIte,af,aj,ah,ai];refine kw (b:=0) rfl rfl (fun m b' h=>xP h) kK nbY nbY ?_;cases he:(e6 != 0)
 ·have h0:e6=0:=by simpa using he
  subst h0;simp only[he,jA,ssH,ag,ae,reduceIte,af,aj,ah,ai];exact jy (v:=kM ⟨c,q,k,n,t,dk,dn,dt⟩) rfl ⟨lY _,_,rfl,kK,by simp,rfl⟩
 ·have h0:e6≠0:=by simpa using he
  simp only[he,jA,ssH,ag,ae,reduceIte,af,aj,ah,ai];exact jy (v:=kM e0) rfl ⟨lY _,_,rfl,kK,by rw[if_pos h0],rfl⟩
def vJ:Nat→List UInt8→Nat→Int→List Ent×Nat×Int
 |0,_,a,e=>([],a,e)
 |n+1,s,a,e=>if e=0 then ((zF s a e).1::(vJ n s (zF s a e).2.1 (zF s a e).2.2).1,(vJ n s (zF s a e).2.1 (zF s a e).2.2).2)else ([],a,e)
theorem Qq{n:Nat}{s:List UInt8}{a:Nat}{e:Int}(h:e≠0):vJ n s a e=([],a,e):=by
 cases n with
 |zero=>rfl
 |succ n=>rw[vJ,if_neg h]
def IB(s:List UInt8)(a:Nat)(e:Int):Lg×Nat×Int:=
 let b:=mf s a e
 let c:=nJ s b.2.1 b.2.2 65536
 let n:=lI s c.2.1 c.2.2 1048576
 let r:=vJ n.1.toNat s n.2.1 n.2.2
 (if r.2.2≠0 then lg0 else ⟨b.1,c.1,r.1⟩,r.2.1,r.2.2)
theorem Nq{s:List UInt8}{a:Nat}{e:Int}:0≤(lI s a e 1048576).1∧(lI s a e 1048576).1≤1048576:=by
 have hc:(kD (s.drop a) 1048576).1≤1048576:=by
  unfold kD
  (repeat' split)<;>simp<;>omega
 have:=(y9 (s.drop a) 1048576).2.1;unfold lI
 (repeat' split)<;>simp<;>omega
def Bo(out:List Ent)(tok:Tok)(r:Hl):Prop:=tok = .full∧out=[]∧r=[]∨∃ k,tok = .tip 3 k∧out≠[]∧r=[some (.tip 42 k)]
theorem zde{Kp:V→Hl→Prop}{s:List (Tmp×Option (Tmp×Bool)×AOp)}{l:List Item}{K:HS→Prop}{t:List V}{d:Option Tmp}{X0 X1 X2:Option Blk}{out:List Ent}{tok:Tok}{r:Hl}{e:Ent}(h:Bo out tok r)(hb:out.length≤1500000)
  (hr:∀ k,hth Tryz.prog Γ Kp s l K (hput t [X0,X1,X2,some (.tip 42 k)] d (some (.sl ((out++[e]).map kM) [] (.tip 3 k))))):sV Tryz.prog Γ Kp 42 80 8 (.sl (out.map kM) [] tok) (.sl [kM e] [] .full) d s l K t (X0::X1::X2::r):=by
 have he:tH 8 [kM e]=true:=rfl;rw[bC]at hr
 rcases h with ⟨rfl,rfl,rfl⟩|⟨k,rfl,h0,rfl⟩
 ·exact wG (ys:=[kM e]) rfl (by simp) (by simp) rfl he (by simp) (hr 0)
 ·exact zD (j:=3) (k:=k) (x:=.sl [kM e] [] .full) (ys:=[kM e]) rfl (by simp) (by simpa using h0) rfl (yC out) he (by simp;omega) (hr (k+1))
theorem zhn{out:List Ent}{tok:Tok}{r:Hl}(h:Bo out tok r):wN (.sl (out.map kM) [] tok)=zhj out:=by
 rcases h with ⟨rfl,rfl,rfl⟩|⟨k,rfl,h0,rfl⟩
 ·rfl
 ·rw[QR (.inl h0),zhj]
  cases out with
  |nil=>exact absurd rfl h0
  |cons e l=>rfl
theorem zk1{out:List Ent}{tok:Tok}{r:Hl}(h:Bo out tok r):nb (3+r.length) (.sl (out.map kM) [] tok):=by
 rcases h with ⟨rfl,rfl,rfl⟩|⟨k,rfl,_,rfl⟩
 ·simp only[gy,nbS]
 ·have:=x8 (k:=4) lY out;simp only[ax,aA,this,nbS];decide
theorem zh2{out:List Ent}{tok:Tok}{r:Hl}(h:Bo out tok r):r.length≤1:=by
 rcases h with ⟨rfl,rfl,rfl⟩|⟨k,rfl,_,rfl⟩<;>simp
def lgZ:Blk:=.var 26 [it 0,bs [],.sl [] [] .full]
def lgT(b:Int)(c:List UInt8)(out:List Ent)(tok:Tok):Blk:=.var 26 [it b,bs c,.sl (out.map kM) [] tok]
theorem WW{b:Int}{c:List UInt8}{out:List Ent}{tok:Tok}{r:Hl}(h:Bo out tok r):∀ i<3+r.length,∀ x,lk (some (rdB s a e)::some lgZ::some (lgT b c out tok)::r) i=some x→nbB (3+r.length) x:=by
 intro i hi x hx;have hv:=zk1 h;have:i=0∨i=1∨i=2∨i=3:=by have:=zh2 h;omega
 rcases this with rfl|rfl|rfl|rfl
 ·cases hx;exact kK
 ·cases hx;simp only[lgZ,nbS]
 ·cases hx;simp only[lgT,hv,nbS]
 ·rcases h with ⟨rfl,rfl,rfl⟩|⟨k,rfl,_,rfl⟩
  ·cases hx
  ·cases hx;simp only[nbS]
set_option maxHeartbeats 1600000 in
theorem zed(L:xG Γ)(hr:m rb=some (rdB s a e))(ha:a≤s.length)(hs:s.length≤281474976710656) :
  jB Tryz.prog Γ 89 [.ptr rb 0] m fun o m'=>o = .ret (lgN (IB s a e).1)∧m'=m.set rb (rdB s (IB s a e).2.1 (IB s a e).2.2):=by
 unfold IB;obtain⟨b,a1,e1,h1⟩:∃ x y z,mf s a e=(x,y,z):=⟨_,_,_,rfl⟩;have l1:=lh (e:=e) ha;rw[h1]at l1;obtain⟨c,a2,e2,h2⟩:∃ x y z,nJ s a1 e1 65536=(x,y,z):=⟨_,_,_,rfl⟩;have l2:=zt (most:=65536) (e:=e1) l1;rw[h2]at l2;have hcr:=Nq (s:=s) (a:=a2) (e:=e2);obtain⟨n0,a3,e3,h3⟩:∃ x y z,lI s a2 e2 1048576=(x,y,z):=⟨_,_,_,rfl⟩;have l3:=EK (most:=1048576) (e:=e2) l2;rw[h3]at l3 hcr;simp only at l1 l2 l3 hcr;obtain⟨n1,rfl⟩:=ed hcr.1;simp only[h1,h2,h3,bn];have hn1:n1≤1048576:=by omega
 refine pg (QO mixed zio zlf jP hr kK nbY ?_);simp only[F89,ss0,ay,ag];simp only[ssH,ag,ae,reduceIte,af,aj,ah,ai];refine jO (b:=0) (X:=rdB s a e) rfl rfl (fun m b' h=>su h ha (by omega)) kK kK nbY nbY ?_;simp only[h1,ssH,ag,ae,reduceIte,af,aj,ah,ai];refine jO (b:=0) (az:=[it 65536]) (X:=rdB s a1 e1) rfl rfl (fun m b' h=>Md L 65536 h l1 hs) kK kK nbY nbY ?_;simp only[h2,jA,ssH,ag,ae,reduceIte,af,aj,ah,ai];refine jO (b:=0) (az:=[it 1048576]) (X:=rdB s a2 e2) rfl rfl (fun m b' h=>Pg 1048576 h l2 hs) kK kK nbY nbY ?_;simp only[h3,ssH,ag,ae,reduceIte,af,aj,ah,ai];generalize hQ:uf 0 _=Q
 have tail:∀ {t':List V} {a:Nat} {e:Int} {out:List Ent} {tok:Tok} {r:Hl},t'.length=33→jT t' 0 = .ptr 0 0→jT t' 2 = .ptr 1 0→jT t' 3 = .ptr 2 0→Bo out tok r→vJ n1 s a3 e3=(out,a,e) →
   Q (.exit 0) ⟨t',some (rdB s a e)::some lgZ::some (lgT b c out tok)::r⟩:=by
  intro t' a e out tok r hlt q0 q2 q3 hB hg;rw[←hQ,mJ hlt];simp only[jV,upTo,q0,q2,q3,hg,lgZ,lgT,ssH,ag,ae,reduceIte,af,aj,ah,ai];refine kw (b:=0) (X:=rdB s a e) rfl rfl (fun m b' h=>xP h) kK nbY nbY ?_;cases he:(e != 0)
  ·have h0:e=0:=by simpa using he
   subst h0
   have hw:wN (.agg [it b,bs c,.sl (out.map kM) [] tok])=lgN ⟨b,c,out⟩:=by
    have:=zhn hB;simp only[wN,wNs]at this ⊢;rw[this];rfl
   simp only[he,jA,ssH,ag,ae,reduceIte,af,aj,ah,ai];exact jy (v:=.agg [it b,bs c,.sl (out.map kM) [] tok]) rfl ⟨by rw[hw];exact Gn,_,rfl,kK,by rw[hw,if_neg (by simp)],rfl⟩
  ·have h0:e≠0:=by simpa using he
   simp only[he,jA,ssH,ag,ae,reduceIte,af,aj,ah,ai];exact jy (v:=.agg [it 0,bs [],.sl [] [] .full]) rfl ⟨Gn (x:=lg0),_,rfl,kK,by rw[if_pos h0];rfl,rfl⟩
 refine mi [0,2,3,4] 33 (fun n vs h=>∃ (j a:Nat) (e:Int) (out:List Ent) (tok:Tok) (r:Hl),vs=[.ptr 0 0,.ptr 1 0,.ptr 2 0,it j]∧h=some (rdB s a e)::some lgZ::some (lgT b c out tok)::r∧Bo out tok r∧a≤s.length∧n=j+1∧j+out.length≤n1∧vJ n1 s a3 e3=(out++(vJ j s a e).1,(vJ j s a e).2)) (n1+1) (by decide) (by decide) (aJ 3) (jW rfl (by decide) (by decide) (by simp) ?_ ?_ ⟨n1,a3,e3,[],.full,[],rfl,rfl,.inl ⟨rfl,rfl,rfl⟩,l3,rfl,by simp,rfl⟩) ?_
 ·show nbs 3 [.ptr 0 0,.ptr 1 0,.ptr 2 0,it n1];simp only[nbS];decide
 ·exact WW (r:=[]) (.inl ⟨rfl,rfl,rfl⟩)
 rintro n t h J hJ hlt ⟨j,a,e,out,tok,r,hv,rfl,hB,hle,hn,hjo,hg⟩;simp only[aZ,aP,and_true]at hv;obtain⟨g0,g2,g3,g4⟩:=hv;rw[mJ hlt];simp only[jV,upTo,g0,g2,g3,g4,gt_iff_lt,ssH,ag,ae,reduceIte,af,aj,ah,ai]
 by_cases hj:0<j
 ·simp only[show decide ((0:Int)<(j:Int))=true from decide_eq_true (by omega),ssH,ag,ae,reduceIte,af,aj,ah,ai];refine kw (b:=0) (X:=rdB s a e) rfl rfl (fun m b' h=>xP h) kK nbY nbY ?_;cases he:(e==0)
  ·have h0:e≠0:=by simpa using he
   rw[Qq h0]at hg;simp only[he,ssH,ag,ae,reduceIte,af,aj,ah,ai];exact tail rfl rfl rfl rfl hB (by rw[hg,aS])
  ·have h0:e=0:=by simpa using he
   subst h0;obtain⟨j,rfl⟩:∃ i,j=i+1:=⟨j-1,by omega⟩;have l4:=Ls (e:=0) hle;obtain⟨x,a4,e4,h4⟩:∃ x y z,zF s a 0=(x,y,z):=⟨_,_,_,rfl⟩;rw[vJ,if_pos rfl,h4]at hg;rw[h4]at l4;have hw:IntKind.i64.wrap (((j+1:Nat):Int)-1)=(j:Int):=by rw[wrap_i64 (by omega) (by omega)];omega
   simp only[he,lgT,ssH,ag,ae,reduceIte,af,aj,ah,ai];refine jO (b:=0) (X:=rdB s a 0) rfl rfl (fun m b' h=>Xx L h hle hs) kK kK nbY (lY _) ?_;simp only[h4,kM,Il,Ec,ssH,ag,ae,reduceIte,af,aj,ah,ai];refine zde hB (by omega) fun k => ?_;simp only[rY,vw,hw,ssH,ag,ae,reduceIte,af,aj,ah,ai];have hB2:Bo (out++[x]) (.tip 3 k) [some (.tip 42 k)]:=.inr ⟨k,rfl,by simp,rfl⟩;refine⟨_,hJ (j+1) (aJ 4) _ (by omega) (jW rfl (by decide) (by decide) (by simp) ?_ (WW hB2 (s:=s) (a:=a4) (e:=e4) (b:=b) (c:=c)) ⟨j,a4,e4,out++[x],.tip 3 k,_,rfl,rfl,hB2,l4,rfl,by simp;omega,by rw[hg];simp⟩)⟩;show nbs 4 [.ptr 0 0,.ptr 1 0,.ptr 2 0,it j];simp only[nbS];decide
 ·have hj0:j=0:=by omega
  subst hj0;simp only[show decide ((0:Int)<((0:Nat):Int))=false from rfl,ssH,ag,ae,reduceIte,af,aj,ah,ai];rw[vJ]at hg;exact tail rfl rfl rfl rfl hB (by rw[hg,aS])
end
end Go.Av.Fn
