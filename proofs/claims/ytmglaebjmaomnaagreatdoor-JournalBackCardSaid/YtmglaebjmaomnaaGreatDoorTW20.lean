/- The library's functions, told over abstract values. No condition. -/
import Derived.KernelRfl
import Derived.Lib.AppendIntMem
import Derived.Lib.ItoaLen
import Derived.Lib.ParseIntBCases
import Derived.Lib.UnsafeStr
import Derived.Shelf.RegionOpenPlain
import Derived.WalkKit
import Derived.Test.YtmglaebjmaomnaaGreatDoorTSb
open Array renaming getElem?_modify→dM
open Bool renaming or_eq_true→dm, false_eq_true→aF, and_eq_true→aG, not_eq_true'→fA, false_and→fC, and_false→ed, not_false→aN, true_and→dH, not_true→aO, eq_iff_iff→dw
open Int renaming reduceBEq→ai, reduceBNe→aj, toNat_natCast→bJ, eq_ofNat_of_zero_le→dL
open List renaming mem_cons_self→aT, mem_cons_of_mem→aV, map_cons→fJ, append_nil→aP, length_map→aH, mem_of_getElem? → bI, append_assoc→aX, length_append→aJ, suffix_cons→bG, suffix_rfl→dA, length_cons→au, getElem?_map→bn, mem_cons→di, not_mem_nil→bW, map→aZ, range→aK, getElem?_eq_getElem→aI, take_add_one→bg, mem_singleton→df, length_nil→ay, take_length→bK, headD_cons→fP, take_of_length_le→bi, cons_append→aA, map_nil→eG, map_append→bu, length_take→aW, mem_of_mem_take→dQ, getElem_mem→dX, nil_append→aB
open List.cons renaming injEq→aQ
open Nat renaming reduceSub→aC, reduceAdd→ag, reduceLeDiff→ae, reduceEqDiff→af, reduceLT→ak, le_refl→aY, zero_le→bU, zero_add→fQ, div_one→ig, reduceMul→eP
open Option renaming map_some→eu, toList→gz, bind_some→bC
open Option.some renaming injEq→ax, inj→fH
open Prod.mk renaming injEq→bF
set_option linter.unusedSimpArgs false
set_option linter.unusedVariables false
set_option maxRecDepth 100000
namespace Go.Proofs
open Go.Shelf Go.RowKit
variable {P:Program} {ρ:Ren}
theorem WE{e:TypeId}(hc:P.cellsOf e=1)(count off n:Nat)(hn:off+n≤count):liesAt P P.depth e count off e n=true:=by
 have hd:P.depth=(2*(P.types.size+Made.depth)+1)+1:=rfl;rw[hd];simp only[liesAt,dm];left;rw[hd];simp[rowAt,hc,hn,sameLayout,Nat.mod_one]
theorem KY(w:World)(pt it ty e:TypeId)(hp:P.underlying pt=some (.pointer e))(hc:P.cellsOf e=1)(a:Addr)(cells:Nat)(hsh:w.shape? a.block=some (e,cells))(l:List UInt8)(h0:l≠[])(hn:a.off+l.length≤cells)(h63:l.length≤9223372036854775807)
  (hcell:∀ j x,l[j]? = some x→w.cell? (a.add j)=some (.int .u8 x.toNat)) :
  (Builtin.unsafeString_ #[pt,it] ty #[.pointer (some a),.int .i64 l.length]).run P w = .ok (.string ⟨l.toArray⟩) (w.freeze a l.length):=by
 have hl:l.length≠0:=by simpa using h0
 have hlb:=Lib.run_loadBytes (P:=P) w l a .empty hcell;have hlies:=WE (P:=P) hc (cells / P.cellsOf e) a.off l.length (by rw[hc];simpa using hn);have h63':¬ (9223372036854775807:Int)<(l.length:Int):=by omega
 have hdef:Builtin.unsafeString_ #[pt,it] ty #[.pointer (some a),.int .i64 l.length] =
   (do
    let n ←asInt (.int .i64 l.length)
    if n < 0 then runtimePanic (.error "unsafe.String: len out of range")
    if n > IntKind.i64.max then unsupported (.unsafePointer "String: a length above the largest int")
    if n=0 then pure (.string .empty)
    else if ←variablesAt a (←elemOf pt) n.toNat then do
     let s ←loadBytes a .empty n.toNat
     freeze a n.toNat
     pure (.string s)
    else unsupported (.unsafePointer "String: not so many bytes at ptr")) := rfl
 rw[hdef];have hmax:IntKind.i64.max=9223372036854775807:=rfl;have hneg:¬ (l.length:Int)<0:=by omega
 simp[asInt,asIntOf,hmax,h63',hneg,hl,variablesAt,hsh,elemOf,run_underlying hp,hlies,hlb]
set_option maxHeartbeats 1000000 in
set_option maxRecDepth 100000 in
theorem JO(L:Lays.n169 P ρ)(X:Builder.Extra P ρ)(b:Nat)(p:Value)(a:Addr)(cap n:Nat)(l:List UInt8)(w:World)(hbk:w.heap[b]? = some (.cells #[p,.slice (some a) l.length cap] (ρ.t 72) (0,0)))(h0:l≠[])(hcap:l.length≤cap)(h63:l.length≤9223372036854775807)
  (hsh:w.shape? a.block=some (ρ.t 5,n)) (hn:a.off+l.length≤n) (hcell:∀ j x,l[j]? = some x→w.cell? (a.add j)=some (.int .u8 x.toNat)) :
  Calls P (ρ.f 169) #[.pointer (some ⟨b,0,none⟩)] w fun e w'=>e = .returned (.string ⟨l.toArray⟩)∧w'=w.drew.freeze a l.length:=by
 have hl0:l.length≠0:=by simpa using h0
 have c1:w.drew.cell? ⟨b,1,none⟩=some (.slice (some a) l.length cap):=by
  have:w.drew.heap[b]? = some (.cells #[p,.slice (some a) l.length cap] (ρ.t 72) (0,0)):=hbk;rw[Lib.cell_of_heap this];rfl
 have hSD:(Builtin.unsafeSliceData_ #[(ρ.t 37)] (ρ.t 127) #[.slice (some a) l.length cap]).run P w.drew = .ok (.pointer (some a)) w.drew:=
  Lib.run_unsafeSliceData_row _ _ _ _ _ _ (by omega)
 have hUS:(Builtin.unsafeString_ #[(ρ.t 127),(ρ.t 3)] (ρ.t 9) #[.pointer (some a),.int .i64 l.length]).run P w.drew = .ok (.string ⟨l.toArray⟩) (w.drew.freeze a l.length):=
  KY w.drew (ρ.t 127) (ρ.t 3) (ρ.t 9) (ρ.t 5) L.t127 X.cellsByte a n hsh l h0 hn h63 hcell
 have mixed:=L.mixed;have t72:=L.t72;have a72:=L.a72;have z72:=L.z72;have v72:=L.v72;have u72:=run_underlying L.t72
 have t70:=L.t70;have a70:=L.a70;have z70:=L.z70;have v70:=L.v70;have u70:=run_underlying L.t70
 have t37:=L.t37;have a37:=L.a37;have z37:=L.z37;have v37:=L.v37;have u37:=run_underlying L.t37
 have t127:=L.t127;have a127:=L.a127;have z127:=L.z127;have v127:=L.v127;have u127:=run_underlying L.t127
 have t3:=L.t3;have a3:=L.a3;have z3:=L.z3;have v3:=L.v3;have u3:=run_underlying L.t3
 have t9:=L.t9;have a9:=L.a9;have z9:=L.z9;have v9:=L.v9;have u9:=run_underlying L.t9
 have t5:=X.t5;have a5:=X.a5;have z5:=X.z5;have v5:=X.v5;have u5:=run_underlying X.t5
 go_enter L.f169,Body.n169_ntmps ρ
 go_wp2
 go_region_o
 all_goals (go_wp2;go_ret;exact⟨rfl,rfl⟩)
end Go.Proofs
namespace Go.Av
open Go.RowKit
section
variable {P:Program} {Γ:jI} {B0:Nat} {G:Gh} {m:Store} {w:World}
theorem oN{a:Addr}{n b:Nat}(h:b≠a.block):(w.freeze a n).heap[b]? = w.heap[b]? := by
 unfold World.freeze
 split
 ·rfl
 ·simp only[dM];rw[if_neg (fun e=>h e.symm)]
theorem KN{a c:Addr}{n:Nat}:(w.freeze a n).cell? c=w.cell? c:=by
 by_cases h:c.block=a.block
 ·unfold World.freeze
  split
  ·rfl
  ·simp only[World.cell?,dM,h,if_true]
   cases hb:w.heap[a.block]? with
   |none=>rfl
   |some o=>cases o<;>rfl
 ·exact World.cell?_of_block (oN h)
theorem zB{a:Addr}{n:Nat}:(w.freeze a n).heap.size=w.heap.size:=by
 unfold World.freeze
 split
 ·rfl
 ·simp
theorem Rep.freeze(h:Rep Γ B0 G m w){t:Nat}{T:TypeId}{k:Nat}(ht:m t=some (.tip T k)){a:Addr}{E C n:Nat}(hH:G.H t k=some (a.block,E,C)):Rep Γ B0 G (fun c=>if c=t then none else m c) (w.freeze a n):=by
 obtain⟨_,B,E',C',q1,q2,q3,q4,⟨cs0,fz0,q5⟩,_⟩:=h.tip t T k ht;rw[hH]at q1;simp only[ax,bF]at q1;obtain⟨rfl,rfl,rfl⟩:=q1
 have sub:∀ b x,(if b=t then none else m b)=some x→b≠t∧m b=some x:=by
  intro b x hb
  by_cases e:b=t
  ·simp[e]at hb
  ·exact⟨e,by simpa [e] using hb⟩
 exact {
  K:=fun b o u hu=>by rw[KN];exact h.K b o u hu
  base:=by rw[zB];exact h.base
  hist:=fun t' v x hx=>by rw[zB];exact⟨(h.hist t' v x hx).1,fun T' v' hv=>(h.hist t' v x hx).2 T' v' (sub _ _ hv).2⟩
  var:=fun b T' cs hb=>by
   obtain⟨h1,⟨us,h2,h3⟩,h4⟩:=h.var b T' cs (sub _ _ hb).2;have hne:b≠a.block:=by rintro rfl;exact q4 _ _ (sub _ _ hb).2
   exact⟨h1,⟨us,by rw[oN hne];exact h2,h3⟩,h4⟩
  tip:=fun t' T' v ht'=>by
   rw[zB];obtain⟨hne,ht''⟩:=sub _ _ ht';obtain⟨p1,B',E',C',p2,p3,p4,p5,⟨y1,y2,y3⟩,p6⟩:=h.tip t' T' v ht''
   have hB:B'≠a.block:=by
    rintro rfl;exact h.apart t' T' v t T k a.block E' C' E C ht'' ht hne p2 hH
   refine⟨p1,B',E',C',p2,p3,p4,fun T2 cs hc=>p5 T2 cs (sub _ _ hc).2,⟨y1,y2,by rw[oN hB];exact y3⟩,fun o h1 h2 => ?_⟩;obtain⟨f1,f2,f3⟩:=p6 o h1 h2;exact⟨by rw[KN];exact f1,by rw[World.frozen?_of_block (w:=w) (oN hB)];exact f2,f3⟩
  own:=fun t' v B E C k=>by rw[zB];exact⟨(h.own t' v B E C k).1,(h.own t' v B E C k).2.1,fun T cs hc=>(h.own t' v B E C k).2.2 T cs (sub _ _ hc).2⟩
  apart:=fun t1 T1 v1 t2 T2 v2 B E C E' C' k1 k2=>h.apart t1 T1 v1 t2 T2 v2 B E C E' C' (sub _ _ k1).2 (sub _ _ k2).2
  glob:=h.glob
  gsz:=fun g cs hg h20=>by
   obtain⟨a1,us',T',fz,b',c'⟩:=h.gsz g cs hg h20;exact⟨a1,us',T',fz,by rw[oN (by omega)];exact b',c'⟩
  loop:=fun b r f t' ps x y D hb=>by
   obtain⟨h1,us,h2,h3⟩:=h.loop b r f t' ps x y D (sub _ _ hb).2;have hne:b≠a.block:=by rintro rfl;rw[q5.1]at h2;cases h2
   exact⟨h1,us,by rw[oN hne];exact h2,h3⟩
  defer:=fun b hb=>by
   obtain⟨h1,h2⟩:=h.defer b (sub _ _ hb).2;have hne:b≠a.block:=by rintro rfl;rw[q5.1]at h2;cases h2
   exact⟨h1,by rw[oN hne];exact h2⟩ }
theorem Vz:∀ {l:List UInt8} {us:List Value},kD G (l.map by8) us→us=l.map fun b=>Value.int .u8 b.toNat
 |[],us,h=>h.kN
 |b::l,us,h=>by
  obtain⟨y,ys,rfl,r1,r2⟩:=h.cons_inv;cases r1;rw[Vz r2];rfl
end
end Go.Av
namespace Go.Av.Fn
open Go.Proofs Go.RowKit
theorem zeJ(s:List UInt8)(c:UInt8):Lib.indexByte s c=Og s c:=by
 unfold Og
 induction s with
 |nil=>rfl
 |cons b s ih=>
  rw[List.findIdx?_cons,Lib.indexByte]
  by_cases h:(b==c)=true
  ·simp[h]
  ·simp only[h,aF,if_false];rw[ih]
   cases List.findIdx? (· == c) s with
   |none=>rfl
   |some i=>
    simp only[eu]
    have:¬ ((i:Int) == -1)=true:=by
     intro k;have:=eq_of_beq k;omega
    rw[if_neg this];rfl
theorem Uw:∀ (l:List UInt8) (acc u:Nat),Lib.parseUintM (2^64-1) acc l = .ok u→acc≤u
 |[],acc,u,h=>by
  simp only[Lib.parseUintM,Lib.NumEnd.ok.injEq]at h;omega
 |c::r,acc,u,h=>by
  simp only[Lib.parseUintM]at h
  split at h
  ·split at h
   ·cases h
   ·split at h
    ·cases h
    ·have:=Uw r _ u h;omega
  ·cases h
theorem Uu:∀ (l:List UInt8) (acc:Nat),(∀ c∈l,dig c=true)→(∃ u,Lib.parseUintM (2^64-1) acc l = .ok u)∨Lib.parseUintM (2^64-1) acc l = .range
 |[],acc,_=>.inl ⟨acc,rfl⟩
 |c::r,acc,hd=>by
  have hc:=hd c (aT ..);simp only[dig,aG,decide_eq_true_eq]at hc;have hc':48≤c.toNat∧c.toNat≤57:=hc;simp only[Lib.parseUintM,if_pos hc']
  split
  ·exact .inr rfl
  ·split
   ·exact .inr rfl
   ·exact Uu r _ (fun c hc=>hd c (aV _ hc))
theorem Qc:∀ (l:List UInt8) (acc:Nat),(∀ c∈l,dig c=true)→acc<9223372036854775808 →
  (∃ u,Lib.parseUintM (2^64-1) acc l = .ok u∧numL acc l=if u<9223372036854775808 then some u else none)∨(Lib.parseUintM (2^64-1) acc l = .range∧numL acc l=none)
 |[],acc,_,ha=>.inl ⟨acc,rfl,by simp only[numL];rw[if_pos ha]⟩
 |c::r,acc,hd,ha=>by
  have hc:=hd c (aT ..);simp only[dig,aG,decide_eq_true_eq]at hc;have hc':48≤c.toNat∧c.toNat≤57:=hc;simp only[Lib.parseUintM,numL,if_pos hc'];have key:(acc>(9223372036854775807-(c.toNat-48)) / 10)↔9223372036854775807<10*acc+(c.toNat-48):=by omega
  have e10:acc*10+(c.toNat-48)=10*acc+(c.toNat-48):=by omega
  rw[e10]
  by_cases h1:1844674407370955162≤acc
  ·rw[if_pos h1,if_pos (key.2 (by omega))];exact .inr ⟨rfl,rfl⟩
  ·rw[if_neg h1]
   by_cases h2:2^64-1<10*acc+(c.toNat-48)
   ·rw[if_pos h2,if_pos (key.2 (by omega))];exact .inr ⟨rfl,rfl⟩
   ·rw[if_neg h2]
    by_cases h3:9223372036854775807<10*acc+(c.toNat-48)
    ·rw[if_pos (key.2 h3)]
     rcases Uu r (10*acc+(c.toNat-48)) (fun c hc=>hd c (aV _ hc))with ⟨u,hp⟩|hp
     ·have:=Uw r _ u hp;exact .inl ⟨u,hp,by rw[if_neg (by omega)]⟩
     ·exact .inr ⟨hp,rfl⟩
    ·rw[if_neg (fun k=>h3 (key.1 k))];exact Qc r _ (fun c hc=>hd c (aV _ hc)) (by omega)
theorem zhD{s:List UInt8}(hne:s≠[])(hd:∀ c∈s,dig c=true):match numL 0 s with
  |some n=>Lib.parseIntB 64 s = .ok (n:Int)
  |none=>Lib.parseIntB 64 s = .range:=by
 obtain⟨c,r,rfl⟩:∃ c r,s=c::r:=by
  cases s with
  |nil=>exact absurd rfl hne
  |cons c r=>exact⟨c,r,rfl⟩
 have hc:=hd c (aT ..);simp only[dig,aG,decide_eq_true_eq]at hc;have h1:¬ (c.toNat=43∨c.toNat=45):=by omega
 have h2:¬ c.toNat=45:=by omega
 have hU:Lib.parseUintB 64 (c::r)=Lib.parseUintM (2^64-1) 0 (c::r):=by
  unfold Lib.parseUintB;rw[if_neg (List.cons_ne_nil c r)]
 have hok:∀ u,Lib.parseUintM (2^64-1) 0 (c::r) = .ok u→Lib.parseIntB 64 (c::r)=if 9223372036854775808≤u then .range else .ok (u:Int):=by
  intro u hu;unfold Lib.parseIntB;simp only;rw[if_neg h1,hU,hu];simp[h2]
 have hra:Lib.parseUintM (2^64-1) 0 (c::r) = .range→Lib.parseIntB 64 (c::r) = .range:=by
  intro hu;unfold Lib.parseIntB;simp only;rw[if_neg h1,hU,hu]
 rcases Qc (c::r) 0 hd (by omega)with ⟨u,e1,e2⟩|⟨e1,e2⟩
 ·rw[e2]
  by_cases hu:u<9223372036854775808
  ·rw[if_pos hu];simp only;rw[hok u e1,if_neg (by omega)]
  ·rw[if_neg hu];simp only;rw[hok u e1,if_pos (by omega)]
 ·rw[e2];exact hra e1
theorem zfc{Γ:jI}(m:Store)(s:List UInt8)(hs:s.length≤281474976710656):jB Tryz.prog Γ 163 [bs s] m fun o m'=>o = .ret (bs s)∧m'=m:=
 jB.X3 (xs:=[.string ⟨s.toArray⟩]) (u:=.string ⟨s.toArray⟩) (by kernel_rfl) rfl (fun w=>Tryz.stringslite_Clone ⟨s.toArray⟩ w (by simpa [ByteArray.size] using hs))
theorem zeG{Γ:jI}(m:Store)(s:List UInt8)(c:UInt8):jB Tryz.prog Γ 275 [bs s,by8 c] m fun o m'=>o = .ret (it (Og s c))∧m'=m:=
 jB.X3 (xs := [.string ⟨s.toArray⟩,.int .u8 c.toNat]) (u := .int .i64 (Og s c)) (by kernel_rfl) rfl (fun w => (Tryz.strings_IndexByte ⟨s.toArray⟩ c.toNat w).mono (by
  rintro e w' ⟨rfl,rfl⟩;refine⟨?_,Below.refl _ _⟩;have e1:(c.toNat:Int).toNat.toUInt8=c:=by simp
  rw[e1,←zeJ]))
theorem zed{Γ:jI}{T:TypeId}{v:V}(hΓ:Γ 7=some [.ifc T v]):zO Γ:=by
 intro m s hne hs hd;have hp:=zhD hne hd;refine⟨by kernel_rfl,fun G B0 mF w cargs hD hR hL => ?_⟩;obtain⟨c1,r1,rfl,h1,hL⟩:=hL.cons_inv;obtain⟨c2,r2,rfl,h2,hL⟩:=hL.cons_inv;obtain⟨c3,r3,rfl,h3,hL⟩:=hL.cons_inv;obtain rfl:=hL.kN;cases h1;cases h2;cases h3;have hsz:(⟨s.toArray⟩:ByteArray).data.toList=s:=by simp
 have hsz2:(⟨s.toArray⟩:ByteArray).size=s.length:=by simp[ByteArray.size]
 cases hn:numL 0 s with
 |some n=>
  rw[hn]at hp;refine(Tryz.strconv_ParseInt_10_at64_ok ⟨s.toArray⟩ (by omega) n (by rw[hsz];exact hp) w).mono ?_;rintro e w' ⟨rfl,hw⟩
  have hB:Below w.heap.size w w':=by
   rcases hw with rfl|⟨t,rfl⟩
   ·exact Below.refl _ _
   ·exact Lib.bytesWorld_below w 5 t
  exact⟨G,m,.ret (.tup [it n,.val .nilIface]),Gh.le.refl G,hD,hR.below hB,hB.mono hR.base,.ret (.tup (.cons (.val rfl) (.cons (.val rfl) .nil))),rfl,rfl⟩
 |none=>
  rw[hn]at hp;obtain⟨us,g1,g2⟩:=hR.glob 7 _ hΓ;obtain⟨u,ys,rfl,g3,g4⟩:=g1.cons_inv;obtain rfl:=g4.kN;have hcell:=hR.K 7 0 u (g2.2 0 u rfl)
  cases g3 with
  |ifc g3=>
   refine(Tryz.strconv_ParseInt_10_at64_range ⟨s.toArray⟩ (by omega) (by rw[hsz];exact hp) _ w hcell (.inr ⟨_,_,rfl⟩)).mono ?_;rintro e w' ⟨N,rfl,_,_,hB⟩;exact⟨G,m,.ret (.tup [it (Lib.intSat 64 (ByteArray.mk s.toArray).data.toList),.ifc 375 (.ptr N 0)]),Gh.le.refl G,hD,hR.below hB,hB.mono hR.base,.ret (.tup (.cons (.val rfl) (.cons (.ifc (.ptr _ _)) .nil))),⟨_,_,_,rfl⟩,rfl⟩
theorem zhW{Γ:jI}(m:Store)(b:Nat)(p u:V)(h:m b=some (.var 369 [p,u]))(hp:RY b p):jB Tryz.prog Γ 284 [.ptr b 0] m fun o m'=>o = .ret (.tup [])∧m'=m.set b (.var 369 [.ptr b 0,u]):=by
 refine⟨by kernel_rfl,fun G B0 mF w cargs hD hR hL => ?_⟩;obtain⟨c1,r1,rfl,h1,hL⟩:=hL.cons_inv;obtain rfl:=hL.kN;cases h1;have hb:=ou (f:=mF) h;obtain⟨hB0,⟨us,hw,hu⟩,hK⟩:=hR.var b 369 _ hb;obtain⟨x,us1,rfl,r1,hu⟩:=hu.cons_inv;obtain⟨y,us2,rfl,r2,hu⟩:=hu.cons_inv;obtain rfl:=hu.kN
 rcases hp with rfl|rfl
 ·cases r1;refine(Any.Builder_copyCheck_fresh Tryz.lays240 Tryz.Builder_X72_240 b w (by simp[World.cell?,hw]) (by simp[World.shape?,hw];rfl) (by simp[World.frozen?,hw])).mono ?_;rintro e w' ⟨rfl,rfl⟩;have hst:=hR.store hb (o:=0) (ku.ptr (G:=G) b 0);rw[←xJ]at hst;exact⟨G,_,.ret (.tup []),Gh.le.refl G,hD.set _ (hD.Ce h),hst,(Below.refl B0 w).setCell (p:=⟨b,0,none⟩) hB0 _,.ret (.tup .nil),rfl,rfl⟩
 ·cases r1;refine(Any.Builder_copyCheck_used Tryz.lays240 Tryz.Builder_X72_240 b w (by simp[World.cell?,hw])).mono ?_;rintro e w' ⟨rfl,rfl⟩;exact⟨G,m,.ret (.tup []),Gh.le.refl G,hD,hR,Below.refl _ _,.ret (.tup .nil),rfl,(Store.sU m h).symm⟩
theorem zbj{Γ:jI}(m:Store)(b:Nat)(p u:V)(l:List UInt8)(h:m b=some (.var 369 [p,u]))(hl:l.length≤4096)(hu:(l=[]∧u = .sl [] [] .full)∨(l≠[]∧∃ t k,m t=some (.tip 5 k)∧u = .sl (l.map by8) [] (.tip t k))) :
  jB Tryz.prog Γ 274 [.ptr b 0] m fun o m'=>o = .ret (bs l)∧∀ c x,m c=some x→(∀ l2 k,u ≠ .sl l2 [] (.tip c k))→m' c=some x:=by
 refine⟨by kernel_rfl,fun G B0 mF w cargs hD hR hL => ?_⟩;obtain⟨c1,r1,rfl,h1,hL⟩:=hL.cons_inv;obtain rfl:=hL.kN;cases h1;have hb:=ou (f:=mF) h;obtain⟨hB0,⟨us,hw,hus⟩,hK⟩:=hR.var b 369 _ hb;obtain⟨x,us1,rfl,r1,hus⟩:=hus.cons_inv;obtain⟨y,us2,rfl,r2,hus⟩:=hus.cons_inv;obtain rfl:=hus.kN
 rcases hu with ⟨rfl,rfl⟩|⟨hne,t,k,ht,rfl⟩
 ·have hy:y = .slice none 0 0:=by
   cases r2 with
   |nil _=>rfl
   |sl q1 q2 q3 q4 q5 q6=>exact absurd rfl q6.2
  subst hy;refine(Any.Builder_String_nil Tryz.lays169 Tryz.Builder_Extra_169 w.heap.size b x w hw).mono ?_;rintro e w' ⟨rfl,hB⟩;exact⟨G,m,.ret (bs []),Gh.le.refl G,hD,hR.below hB,hB.mono hR.base,.ret (.val rfl),rfl,fun c x hc _=>hc⟩
 ·have hy:∃ (a:Addr) (cap:Nat),y = .slice (some a) l.length cap∧l.length≤cap∧G.has a (l.map fun b=>Value.int .u8 b.toNat)∧G.H t k=some (a.block,a.off+l.length,a.off+cap):=by
   obtain⟨c,r,rfl⟩:∃ c r,l=c::r:=by
    cases l with
    |nil=>exact absurd rfl hne
    |cons c r=>exact⟨c,r,rfl⟩
   cases r2 with
   | @sl _ _ _ us a cap sz q1 q2 q3 q4 q5 q6=>
    have hsz:sz=1:=(q1 (by8 c) (by simp)).symm;subst hsz
    have hfl:flat ((c::r).map by8++[])=(c::r).map by8:=by
     have:∀ l:List UInt8,flat (l.map by8)=l.map by8:=by
      intro l
      induction l with
      |nil=>rfl
      |cons b l ih=>rw[fJ,lG,ih];rfl
     rw[aP,this]
    rw[hfl]at q2;have hus:=Vz q2;subst hus;have q6':G.H t k=some (a.block,a.off+((c::r).map by8).length*1,a.off+cap*1):=q6;rw[aH,Nat.mul_one,Nat.mul_one]at q6';exact⟨a,cap,by rw[aH],by simpa using q4,q3,q6'⟩
  obtain⟨a,cap,rfl,hcap,hhas,hH⟩:=hy;have htm:=ou (f:=mF) ht;obtain⟨_,B,E,C,p1,p2,p3,p4,⟨cs,fz,p5⟩,p6⟩:=hR.tip t 5 k htm;rw[hH]at p1;simp only[ax,bF]at p1;obtain⟨rfl,rfl,rfl⟩:=p1
  have hcell:∀ j x,l[j]? = some x→w.cell? (a.add j)=some (.int .u8 x.toNat):=by
   intro j x hx;have hk:=hhas.2 j (.int .u8 x.toNat) (by simp[hx]);have:=hR.K _ _ _ hk;rw[add_plain hhas.1];exact this
  have hsz:a.off+l.length≤cs.size:=by
   have hl0:0<l.length:=by cases l with|nil=>exact absurd rfl hne|cons _ _=>simp
   have:=hcell (l.length-1) l[l.length-1] (by simp[hl0]);rw[add_plain hhas.1]at this;simp only[World.cell?,p5]at this;have h2:=(Array.getElem?_eq_some_iff.1 this).1;omega
  refine(JO Tryz.lays169 Tryz.Builder_Extra_169 b x a cap cs.size l w hw hne hcap (by omega) (by simp[World.shape?,p5];rfl) hsz hcell).mono ?_;rintro e w' ⟨rfl,rfl⟩;have hfz:=hR.drew.freeze htm (a:=a) (n:=l.length) hH
  have hor:(fun c=>if c=t then none else (m.or mF) c)=Store.or (fun c=>if c=t then none else m c) mF:=by
   funext c
   by_cases e:c=t
   ·subst e;have:=hD.Ce ht;simp[Store.or,this]
   ·simp[Store.or,e]
  rw[hor]at hfz;refine⟨G,_,.ret (bs l),Gh.le.refl G,fun c => ?_,hfz,Lib.below_freeze (Below.drew (Below.refl B0 w)) p2 _,.ret (.val rfl),rfl,fun c x hc hk => ?_⟩
  ·rcases hD c with h|h
   ·left
    by_cases e:c=t
    ·simp[e]
    ·simp[e,h]
   ·exact .inr h
  ·have:c≠t:=by rintro rfl;exact hk _ _ rfl
   simp[this,hc]
theorem zj8{Γ:jI}:xE Γ where
 clone:=zfc
 copyCheck:=zhW
 string:=zbj
 indexByte:=fun m s c _=>zeG m s c
def zdJ(Γ:jI)(n:Int):Prop:=∀ m,jB Tryz.prog Γ 180 [it n,it 10] m fun o m'=>o = .ret (bs (Lib.itoa n))∧m'=m
def zl6:List V:=Lib.pow10Tab.map fun z=>.val (.int .u64 z)
def zmt(s:List UInt8):List UInt8×List UInt8×Bool:=match s.findIdx? (· == 32)with
 |some i=>(s.take i,s.drop (i+1),true)
 |none=>(s,[],false)
section
variable {Γ:jI} {m:Store}
theorem c1:((1:Nat):Int)=1:=rfl
theorem c3:((3:Nat):Int)=3:=rfl
end
end Go.Av.Fn
namespace Go.Av.Fn
open Go.Proofs
structure zmD (Γ:jI):Prop where
 env:Env Γ
 range:∃ T v,Γ 7=some [.ifc T v]
 syn:∃ T v,Γ 6=some [.ifc T v]
def zib(Γ:jI)(s:List UInt8):Prop:=∀ n,Lib.parseIntB 64 (zmt s).1 = .ok n→zdJ Γ n
section
variable {Γ:jI} {m:Store}
end
end Go.Av.Fn
namespace Go.Av
end Go.Av
namespace Go.Av.Fn
open Go.Proofs
section
variable {Γ:jI} {m:Store}
end
theorem PT{k n:Int}{s:List UInt8}(h:lN k n s=true):s.length≤255∧0≤n∧n≤4294967296:=by
 unfold lN at h
 split at h
 ·cases h
 ·rename_i h1;simp only[dm,not_or,aG,fA,decide_eq_true_eq]at h1;obtain⟨⟨⟨⟨h1,h2⟩,h3⟩,h4⟩,h5⟩:=h1
  have hl:0≤(lT k).least:=by
   have hall:∀ f∈forms,0≤f.least:=by decide
   unfold lT
   split
   ·decide
   ·cases hg:forms[k.toNat]? with
    |none=>decide
    |some f=>exact hall f (bI hg)
  refine⟨?_,by omega,by omega⟩
  split at h
  ·rename_i h6;simp only[dm,aG,fA]at h6
   rcases h6 with h6|⟨_,h6⟩
   ·have:s=[]:=by
     cases hs:(s==[])with
     |true=>exact eq_of_beq hs
     |false=>exact absurd ⟨h6,hs⟩ h3
    subst this;simp
   ·rw[eq_of_beq h6];simp
  ·unfold o6 at h;simp only[aG,decide_eq_true_eq]at h;exact h.2
section
variable {Γ:jI} {m:Store}
end
end Go.Av.Fn
namespace Go.Av.Fn
open Go.Proofs
section
variable {Γ:jI} {m:Store}
end
def Il(s:List UInt8)(a:Nat)(e:Int):(Int×Int×List UInt8)×Nat×Int:=
 let k:=qR s a e
 let n:=qR s k.2.1 k.2.2
 let t:=vk s n.2.1 n.2.2 255
 (if t.2.2≠0 then (0,0,[])else (k.1,n.1,t.1),t.2.1,t.2.2)
def Xl(c:Int×Int×List UInt8):V:=Ac c.1 c.2.1 c.2.2
def FM(k n:Int)(s:List UInt8):List UInt8:=Lib.uvarint (Lib.zigzag k)++Lib.uvarint (Lib.zigzag n)++(Lib.uvarint (Lib.zigzag s.length)++s)
section
variable {Γ:jI} {m:Store} {rb a:Nat} {s:List UInt8} {e:Int}
theorem zhO(L:xE Γ)(hr:m rb=some (rdB s a e))(ha:a≤s.length)(hs:s.length≤281474976710656) :
  jB Tryz.prog Γ 144 [.ptr rb 0] m fun o m'=>o = .ret (Xl (Il s a e).1)∧m'=m.set rb (rdB s (Il s a e).2.1 (Il s a e).2.2):=by
 refine jB.less (A:=fun o m'=>o = .ret (Xl (Il s a e).1)∧mJ (m.set rb (rdB s (Il s a e).2.1 (Il s a e).2.2)) m') ?_ fun o m' h=>⟨_,h.2,h.1,rfl⟩;refine jF mixed zgo (by rintro v m b x _ ⟨⟨⟩,_⟩) ?_;unfold Il;obtain⟨k,a1,e1,h1⟩:∃ k a1 e1,qR s a e=(k,a1,e1):=⟨_,_,_,rfl⟩;have l1:=nU (e:=e) ha;rw[h1]at l1;obtain⟨n,a2,e2,h2⟩:∃ n a2 e2,qR s a1 e1=(n,a2,e2):=⟨_,_,_,rfl⟩;have l2:=nU (e:=e1) l1;rw[h2]at l2;obtain⟨t,a3,e3,h3⟩:∃ t a3 e3,vk s a2 e2 255=(t,a3,e3):=⟨_,_,_,rfl⟩;simp only at l1 l2;simp only[h1,h2,h3];simp only[zlM,ss0,aC,ag];simp only[ssS,ag,ae,reduceIte,af];refine kw fun b2 hb2 => ?_;have hn2:=jR hr hb2;simp only[ssS,ag,ae,reduceIte,af];refine lD (rY (a:=a) (e:=e) (s:=s) (by rw[Store.jw _ _ hn2];exact hr) ha (by omega)) ?_;simp only[h1,ssS,ag,ae,reduceIte,af];refine kw fun b3 hb3 => ?_;have hn3:rb≠b3:=jR (Store.jv _ _ _) hb3;have h23:b2≠b3:=jR (by rw[Store.jw _ _ hn2.symm,Store.jv]) hb3;simp only[Store.jv,Store.kC,ssS,ag,ae,reduceIte,af];refine lD (rY (a:=a1) (e:=e1) (s:=s) (by rw[Store.jw _ _ hn3,Store.jv]) l1 (by omega)) ?_;simp only[h2,Store.jv,Store.kC,Store.jw _ _ hn3.symm,ssS,ag,ae,reduceIte,af];refine lD (MF L 255 (a:=a2) (e:=e2) (s:=s) (by rw[Store.jw _ _ hn3,Store.jv]) l2 hs) ?_;simp only[h3,Store.jv,Store.kC,Store.jw _ _ hn3.symm,ssS,ag,ae,reduceIte,af];refine jK (xO (a:=a3) (e:=e3) (s:=s) (by rw[Store.jw _ _ hn3,Store.jv])) ?_
 have hfin:∀ (M:Store),M rb=some (rdB s a3 e3)→(∀ c x,m c=some x→c≠rb→c≠b2→c≠b3→M c=some x)→∀ x,mJ (m.set rb (rdB s a3 e3)) (M.set b2 x):=by
  intro M hM hs2 x c y hc
  by_cases h1:c=rb
  ·subst h1;rw[Store.jv]at hc;cases hc;rw[Store.jw _ _ hn2];exact hM
  ·rw[Store.jw _ _ h1]at hc;have h2:c≠b2:=jR hc hb2;rw[Store.jw _ _ h2];refine hs2 c y hc h1 h2 ?_;rintro rfl;rw[Store.jw _ _ hn3.symm,Store.jw _ _ h23.symm,hc]at hb3;cases hb3
 cases he:(e3 != 0)
 ·have h0:e3=0:=by simpa using he
  subst h0;simp only[show((0:Int) != 0)=false from rfl,Store.jv,Store.kC,Store.jw _ _ hn3.symm,Store.jw _ _ h23,Store.jw _ _ hn2.symm,ssS,ag,ae,reduceIte,af];refine jH ((vZ (b:=b2) rfl (Store.jv _ _ _)).trans rfl) ⟨?_,hfin _ ?_ ?_ _⟩
  ·simp only[ne_eq,not_true_eq_false,if_false,Xl,Ac];rfl
  ·first
    |exact Store.jv _ _ _
    |(rw[Store.jw _ _ hn3,Store.jv])
  ·intro c x hc k1 k2 k3;simp only[Store.jw _ _ k1,Store.jw _ _ k2,Store.jw _ _ k3];exact hc
 ·have h0:e3≠0:=by simpa using he
  simp only[he,Store.jv,Store.kC,Store.jw _ _ hn3.symm,Store.jw _ _ h23,Store.jw _ _ hn2.symm,ssS,ag,ae,reduceIte,af];refine jH ((vZ (b:=b2) rfl (Store.jv _ _ _)).trans rfl) ⟨?_,hfin _ ?_ ?_ _⟩
  ·simp only[ne_eq,h0,not_false_eq_true,if_true,Xl,Ac];rfl
  ·first
    |exact Store.jv _ _ _
    |(rw[Store.jw _ _ hn3,Store.jv])
  ·intro c x hc k1 k2 k3;simp only[Store.jw _ _ k1,Store.jw _ _ k2,Store.jw _ _ k3];exact hc
theorem zhB{m':Store}{v:V}{l t:List UInt8}{k n:Int}(h:Gt 5 1 m m' v (l.map by8))(hk:Av.I64 k)(hn:Av.I64 n)(hl:l.length+t.length+100≤140737488355328)(hl2:l.length+100<1099511627776) :
  jB Tryz.prog Γ 102 [v,Ac k n t] m' fun o m2=>∃ v2,o = .ret v2∧Buf 5 1 m m2 v2 ((l++FM k n t).map by8):=by
 refine jB.less (A:=fun o m2=>∃ v2 M,o = .ret v2∧mJ M m2∧Buf 5 1 m M v2 ((l++FM k n t).map by8)) ?_ fun o m' ⟨v2,M,h1,h2,h3⟩=>⟨M,h2,v2,h1,h3⟩;refine jF mixed zgN (by rintro v m b x _ ⟨_,_,⟨⟩,_⟩) ?_;simp only[zlZ,Ac,ss0,aC,ag];simp only[ssS,ag,ae,reduceIte,af];refine kw fun b3 hb3 => ?_
 have hm3:m b3=none:=by
  cases hc:m b3 with
  |none=>rfl
  |some x=>rw[h.sub _ _ hc]at hb3;cases hb3
 have z1:=Lib.uvarint_length64 (Av.zigzag_u64 hk);have z2:=Lib.uvarint_length64 (Av.zigzag_u64 hn);simp only[Store.jv,ssS,ag,ae,reduceIte,af];refine pF (qf (h.add (x:=.var 40 [it k,it n,bs t]) hb3) hk (by omega)) ?_ (by rintro v m' ⟨_,⟨⟩,_⟩);rintro v2 m2 ⟨_,⟨⟩,hB⟩;have hb2:=hB.sub b3 _ (Store.jv _ _ _);simp only[vX,vY,xq,hb2,ssS,ag,ae,reduceIte,af];refine pF (qf (.inl hB) hn (by simp;omega)) ?_ (by rintro v m' ⟨_,⟨⟩,_⟩);rintro v3 m3 ⟨_,⟨⟩,hB3⟩;have hb3':=hB3.sub b3 _ (Store.jv _ _ _);simp only[vX,vY,xq,hb3',ssS,ag,ae,reduceIte,af];refine pF (FI hB3 (by simp;omega) (by simp;omega)) ?_ (by rintro v m' ⟨_,⟨⟩,_⟩);rintro v4 m4 ⟨_,⟨⟩,hB4⟩;simp only[ssS,ag,ae,reduceIte,af];obtain⟨q1,M,q2,q3,q4⟩:=hB4.del hm3;refine jH jC ⟨v4,M,rfl,?_,?_⟩
 ·intro c x hc;have hne:c≠b3:=by rintro rfl;rw[q3]at hc;cases hc
  have:=congrArg (fun f:Store=>f c) (q4 (.var 40 []));simp only[Store.jw _ _ hne]at this;rw[this];exact hc
 ·simp only[FM,aX]at q2 ⊢;exact q2
end
end Go.Av.Fn
namespace Go.Av.Fn
open Go.Lib
theorem OG{α:Type}(a b:List α):(a++b).drop a.length=b:=by simp
theorem Nw{n:Int}(h:Av.I64 n)(a r:List UInt8):qR (a++(uvarint (zigzag n)++r)) a.length 0=(n,a.length+(uvarint (zigzag n)).length,0):=by
 unfold qR;rw[OG,Av.numL_put h r];simp
theorem Gl{n:Nat}(h:Av.I64 n)(r:List UInt8)(most:Int)(hm:0≤most):kT (uvarint (zigzag n)++r) most=if (n:Int)>most then (0,0,5)else ((n:Int),(uvarint (zigzag n)).length,0):=by
 unfold kT;rw[Av.numL_put h r];simp only[ne_eq,not_true_eq_false,if_false];rw[if_neg (by omega),Int.max_eq_right hm]
theorem Zi{s:List UInt8}(hs:s.length<9223372036854775808)(r:List UInt8)(most:Nat) :
  Af (uvarint (zigzag s.length)++(s++r)) most=if s.length>most then ([],0,5)else (s,(uvarint (zigzag s.length)).length+s.length,0):=by
 have hi:Av.I64 (s.length:Int):=by unfold Av.I64;omega
 unfold Af;rw[Gl hi _ _ (by omega)]
 by_cases h:s.length>most
 ·have h':(s.length:Int)>(most:Int):=by omega
  rw[if_pos h',if_pos h];simp
 ·have h':¬ (s.length:Int)>(most:Int):=by omega
  rw[if_neg h',if_neg h];simp only[ne_eq,not_true_eq_false,if_false]
  have hc:¬ (s.length:Int)>((uvarint (zigzag s.length)++(s++r)).length:Int)-((uvarint (zigzag s.length)).length:Int):=by
   simp only[aJ];omega
  rw[if_neg hc];simp
theorem PZ{s:List UInt8}(hs:s.length<9223372036854775808)(a r:List UInt8)(most:Nat) :
  vk (a++(uvarint (zigzag s.length)++(s++r))) a.length 0 most=if s.length>most then ([],a.length,5)else (s,a.length+((uvarint (zigzag s.length)).length+s.length),0):=by
 unfold vk;rw[OG,Zi hs]
 by_cases h:s.length>most
 ·simp[h]
 ·simp[h]
theorem zhL{α:Type}{n:Nat}(h:n≤255)(x y:α):(if n>255 then x else y)=y:=if_neg (by omega)
theorem zcV{k n:Int}{s:List UInt8}(hk:Av.I64 k)(hn:Av.I64 n)(hs:s.length≤255)(a r:List UInt8):Il (a++(FM k n s++r)) a.length 0=((k,n,s),a.length+(FM k n s).length,0):=by
 unfold Il FM;have e1:a++(uvarint (zigzag k)++uvarint (zigzag n)++(uvarint (zigzag s.length)++s)++r)=a++(uvarint (zigzag k)++(uvarint (zigzag n)++(uvarint (zigzag s.length)++(s++r)))):=by simp
 rw[e1,Nw hk];have e2:a++(uvarint (zigzag k)++(uvarint (zigzag n)++(uvarint (zigzag s.length)++(s++r))))=(a++uvarint (zigzag k))++(uvarint (zigzag n)++(uvarint (zigzag s.length)++(s++r))):=by simp
 have l2:a.length+(uvarint (zigzag k)).length=(a++uvarint (zigzag k)).length:=by simp
 simp only;rw[e2,l2,Nw hn];have e3:(a++uvarint (zigzag k))++(uvarint (zigzag n)++(uvarint (zigzag s.length)++(s++r)))=(a++uvarint (zigzag k)++uvarint (zigzag n))++(uvarint (zigzag s.length)++(s++r)):=by simp
 have l3:(a++uvarint (zigzag k)).length+(uvarint (zigzag n)).length=(a++uvarint (zigzag k)++uvarint (zigzag n)).length:=by simp[Nat.add_assoc]
 simp only;rw[e3,l3];have:=PZ (s:=s) (by omega) (a++uvarint (zigzag k)++uvarint (zigzag n)) r 255;rw[show((255:Nat):Int)=255 from rfl]at this;rw[this,zhL hs];simp;omega
end Go.Av.Fn
namespace Go.Av.Fn
open Go.Proofs
theorem kK{k:Nat}{s:List UInt8}{a:Nat}{e:Int}:nbB k (rdB s a e):=by
 unfold rdB;simp only[nbS]
theorem zer{k:Nat}(c:Int×Int×List UInt8):nb k (Xl c):=by
 unfold Xl Ac;simp only[nbS]
theorem Yb{k:Nat}(a b:Int)(c:List UInt8):nb k (Ac a b c):=by
 unfold Ac;simp only[nbS]
theorem zb6(a b:Int)(c:List UInt8):nbs 0 [Ac a b c]:=by
 simp only[tK,Yb,xX,and_self]
theorem zbM{k n:Int}{t:List UInt8}(hk:Av.I64 k)(hn:Av.I64 n)(ht:t.length<9223372036854775808):(FM k n t).length≤t.length+30:=by
 have z1:=Lib.uvarint_length64 (Av.zigzag_u64 hk);have z2:=Lib.uvarint_length64 (Av.zigzag_u64 hn);have z3:=Lib.uvarint_length64 (Av.zigzag_u64 (n:=(t.length:Int)) (by unfold Av.I64;omega));simp only[FM,aJ];omega
end Go.Av.Fn
namespace Go.Av.Fn
def pK:PR→List Tk
 | .ok _ l=>l
 | .st l=>l
def Df:PR→Bool
 | .ok _ _=>false
 | .st _=>true
def Sfx(l:List Tk)(r:Option PR):Prop:=∀ p,r=some p→pK p <:+ l
theorem Sfx.mono{l l':List Tk}{r:Option PR}(h:Sfx l r)(hl:l <:+ l'):Sfx l' r:=fun p hp=>(h p hp).trans hl
theorem uy{l l':List Tk}{r:Option PR}{k:Ex→List Tk→Option PR}(h:Sfx l r)(hl:l <:+ l')(hk:∀ e l1,l1 <:+ l→Sfx l' (k e l1)):Sfx l' (bind1 r k):=by
 intro p hp
 rcases o5 hp with ⟨e,l1,h1,h2⟩|⟨l1,h1,rfl⟩
 ·exact hk e l1 (h _ h1) p h2
 ·exact(h _ h1).trans hl
theorem En{l l':List Tk}{r:Option PR}{k:List Ex→List Tk→Option PR}(h:Sfx l r)(hl:l <:+ l')(hk:∀ e l1,l1 <:+ l→Sfx l' (k e l1)):Sfx l' (bindL r k):=by
 intro p hp
 rcases sN hp with ⟨e,l1,h1,h2⟩|⟨l1,h1,rfl⟩
 ·exact hk e l1 (h _ h1) p h2
 ·exact(h _ h1).trans hl
theorem uh{l l':List Tk}{es:List Ex}(h:l <:+ l'):Sfx l' (some (.ok es l)):=by
 intro p hp;cases hp;exact h
theorem VO{l l':List Tk}(h:l <:+ l'):Sfx l' (some (.st l)):=by
 intro p hp;cases hp;exact h
theorem Dx{s:List UInt8}{l l':List Tk}{k:List Tk→Option PR}(hl:l <:+ l')(hk:∀ l1,l1 <:+ l→Sfx l' (k l1)):Sfx l' (mM s l k):=by
 unfold mM
 cases l with
 |nil=>intro p hp;cases hp
 |cons t r=>
  simp only
  split
  ·exact hk r (bG t r)
  ·exact VO hl
theorem TZ{l l':List Tk}{k:List UInt8→List Tk→Option PR}(hl:l <:+ l')(hk:∀ s l1,l1 <:+ l→Sfx l' (k s l1)):Sfx l' (Dk l k):=by
 unfold Dk
 cases l with
 |nil=>intro p hp;cases hp
 |cons t r=>
  simp only
  split
  ·exact hk t.s r (bG t r)
  ·exact VO hl
theorem zD:∀ (n:Nat) (r:BK) (l:List Tk),Sfx l (run n r l)
 |0,r,l=>by intro p hp;cases hp
 |n+1,r,[]=>by intro p hp;cases hp
 |n+1,r,t::l=>by
  have ih:=zD n;have hc:l <:+ t::l:=bG t l;have hrow:∀ l',Sfx l' (Ja (run n) l'):=fun l'=>uy (ih (.ex 0) l') dA fun e l1 h1=>(ih (.ro [e]) l1).mono h1
  have hunt:∀ s l',Sfx l' (xG (run n) s l'):=by
   intro s l';unfold xG
   cases l' with
   |nil=>intro p hp;cases hp
   |cons t' r' =>
    simp only
    split
    ·exact uh (bG t' r')
    ·exact En (hrow _) dA fun es l1 h1=>Dx h1 fun l2 h2=>uh (h2.trans h1)
  show Sfx (t::l) (step (run n) t l r)
  cases r with
  |ex line=>
   simp only[step]
   split
   ·exact ih _ _
   ·exact uy (ih _ _) dA fun e l1 h1=>(ih _ _).mono h1
  |lp line e=>
   simp only[step]
   split
   ·exact uy (ih _ _) hc fun e2 l2 h2=>(ih _ _).mono (h2.trans hc)
   ·exact uh dA
  |un=>
   simp only[step]
   split
   ·exact uy (ih _ _) hc fun e l1 h1=>uh (h1.trans hc)
   ·exact uy (ih _ _) dA fun e l1 h1=>(ih _ _).mono h1
  |po e=>
   simp only[step]
   split
   ·exact uy (ih _ _) hc fun e2 l2 h2=>Dx (h2.trans hc) fun l3 h3=>(ih _ _).mono (h3.trans (h2.trans hc))
   ·split
    ·exact TZ hc fun s l2 h2=>(ih _ _).mono (h2.trans hc)
    ·exact uh dA
  |ro out=>
   simp only[step]
   split
   ·exact uy (ih _ _) hc fun e l1 h1=>(ih _ _).mono (h1.trans hc)
   ·exact uh dA
  |si=>
   simp only[step,Em]
   split
   ·exact uh hc
   ·split
    ·exact uh hc
    ·split
     ·unfold QP
      cases l with
      |nil=>intro p hp;cases hp
      |cons t2 l2=>
       have hc2:l2 <:+ t::t2::l2:=(bG t2 l2).trans hc;simp only
       split
       ·exact En (hunt _ _) hc2 fun es l3 h3=>uh (h3.trans hc2)
       ·exact uh hc
     ·split
      ·exact uh hc
      ·split
       ·exact uh hc
       ·split
        ·exact TZ hc fun s l2 h2=>Dx (h2.trans hc) fun l3 h3=>En (hunt _ _) (h3.trans (h2.trans hc)) fun es l4 h4=>uh (h4.trans (h3.trans (h2.trans hc)))
        ·split
         ·exact En (hrow _) hc fun es l2 h2=>Dx (h2.trans hc) fun l3 h3=>uh (h3.trans (h2.trans hc))
         ·split
          ·exact uy (ih _ _) hc fun e l2 h2=>Dx (h2.trans hc) fun l3 h3=>uh (h3.trans (h2.trans hc))
          ·exact VO dA
def rdR(L:List Tk)(a:Nat)(bad:Bool):Blk:=.var 226 [.sl (L.map tkV) [] .no,it a,.val (.bool bad)]
def rdS(L l:List Tk)(bad:Bool):Blk:=rdR L (L.length-l.length) bad
theorem zbq{L l:List Tk}(h:l <:+ L):L.drop (L.length-l.length)=l:=by
 obtain⟨p,rfl⟩:=h;simp
theorem zbp{L l:List Tk}{t:Tk}(h:t::l <:+ L):L.length-(t::l).length+1=L.length-l.length:=by
 have:=h.length_le;simp only[au]at this ⊢;omega
theorem vz{k:Nat}(t:Tk):nb k (tkV t):=by
 unfold tkV;simp only[nbS]
theorem jO{k:Nat}{L:List Tk}{a:Nat}{b:Bool}:nbB k (rdR L a b):=by
 unfold rdR;simp only[H6,tK,X9,xX,Jt,NM,and_true];exact tZ (fun t=>vz t) L
mutual
theorem zl{k:Nat}:∀ e:Ex,nb k (exV e)
 | .mk a s n kids l=>by
  simp only[exV,Wy,tK,NM,zcf,X9,xX,Jt,and_true,true_and];exact xn kids
theorem xn{k:Nat}:∀ l:List Ex,nbs k (lU l)
 |[]=>by rw[lU];exact .nil
 |e::r=>by
  rw[lU,tK];exact⟨zl e,xn r⟩
end
theorem zeH{L l:List Tk}{t:Tk}(h:t::l <:+ L):oG 5 (.sl (L.map tkV) [] .no) (it (L.length-(t::l).length:Nat))=some (.elt [it t.k,bs t.s,it t.n,it t.l,it t.a]):=by
 have hd:=zbq h
 have hg:L[L.length-(t::l).length]? = some t:=by
  have:=congrArg (fun x:List Tk=>x[0]?) hd
  simpa using this
 exact mD (e:=tkV t) (by rw[bn,hg];rfl) rfl
end Go.Av.Fn
namespace Go.Av
theorem JQ{P:Program}{Γ:jI}{f:FuncId}{args:List V}{m:Store}{rb:Nat}{X:Blk}{v:V}(hr:m rb=some X)(h:jB P Γ f args m fun o m' => ∃ v' Y,o = .ret v' ∧ m'=m.set rb Y∧(v'=v∧Y=X)):jB P Γ f args m fun o m'=>o = .ret v∧m'=m:=by
 refine h.mono ?_;rintro o m' ⟨v',Y,rfl,rfl,rfl,rfl⟩;exact⟨rfl,Store.sU m hr⟩
end Go.Av
namespace Go.Av.Fn
open Go.Proofs
theorem zcI{L l:List Tk}{t:Tk}(h:t::l <:+ L):oG 5 (.sl (L.map tkV) [] .no) (it (L.length-(l.length+1):Nat))=some (.elt [it t.k,bs t.s,it t.n,it t.l,it t.a]):=zeH h
theorem yz{L l:List Tk}{t:Tk}(h:t::l <:+ L):L.length-(l.length+1)+1=L.length-l.length:=zbp h
section
variable {Γ:jI} {m:Store} {rb:Nat} {L l:List Tk} {t:Tk} {s:List UInt8} {b:Bool}
theorem vG(hs:t::l <:+ L)(hr:m rb=some (rdS L (t::l) b)):jB Tryz.prog Γ 177 [.ptr rb 0] m fun o m'=>o = .ret (tkV t)∧m'=m:=by
 refine JQ hr (vN mixed zf2 zi3 jY hr jO nbY ?_);simp only[zi4,ss0,aC,ag];simp only[rdS,rdR,zcI hs,ssH,ag,ae,reduceIte,af,ak,ai,aj];exact jy (v:=tkV t) rfl ⟨vz t,_,rfl,jO (L:=L),rfl,rfl⟩
theorem zcy(hs:t::l <:+ L)(hr:m rb=some (rdS L (t::l) b)):jB Tryz.prog Γ 231 [.ptr rb 0,bs s] m fun o m'=>o = .ret (.val (.bool (!b&&isS s t)))∧m'=m:=by
 refine JQ hr (vN mixed zfF ziO jY hr jO nbY ?_);simp only[ziP,ss0,aC,ag];simp only[ssH,ag,ae,reduceIte,af,ak,ai,aj];refine kz (b:=0) rfl rfl (fun m b' h=>vG hs h) jO nbY (vz t) ?_;simp only[tkV,rdS,rdR,ssH,ag,ae,reduceIte,af,ak,ai,aj];cases b
 ·cases h4:(t.k==4)
  ·cases h5:(t.k==5)
   ·simp only[h4,h5,ssH,ag,ae,reduceIte,af,ak,ai,aj];exact jy jC ⟨nbZ,_,rfl,jO (L:=L),by simp[jS,isS,h4,h5],rfl⟩
   ·simp only[h4,h5,ssH,ag,ae,reduceIte,af,ak,ai,aj];exact jy jC ⟨nbZ,_,rfl,jO (L:=L),by simp[jS,isS,h4,h5],rfl⟩
  ·simp only[h4,ssH,ag,ae,reduceIte,af,ak,ai,aj];exact jy jC ⟨nbZ,_,rfl,jO (L:=L),by simp[jS,isS,h4],rfl⟩
 ·simp only[ssH,ag,ae,reduceIte,af,ak,ai,aj];exact jy jC ⟨nbZ,_,rfl,jO (L:=L),by simp[jS],rfl⟩
theorem mX(hs:t::l <:+ L)(hr:m rb=some (rdS L (t::l) b))(h:(!b&&isS s t)=false):jB Tryz.prog Γ 208 [.ptr rb 0,bs s] m fun o m'=>o = .ret (.val (.bool false))∧m'=m:=by
 refine JQ hr (vN mixed Zb zdP jY hr jO nbY ?_);simp only[zfL,ss0,aC,ag];simp only[ssH,ag,ae,reduceIte,af,ak,ai,aj];refine kz (b:=0) (az:=[bs s]) (v:=.val (.bool false)) rfl rfl (fun m b' hh=>by have:=zcy (Γ:=Γ) (s:=s) hs hh;rw[h]at this;exact this) jO nbY nbY ?_;simp only[ssH,ag,ae,reduceIte,af,ak,ai,aj];exact jy jC ⟨nbZ,_,rfl,jO (L:=L),rfl,rfl⟩
theorem oW(hL:L.length<4611686018427387904)(hs:t::l <:+ L)(hr:m rb=some (rdS L (t::l) false))(h:isS s t=true):jB Tryz.prog Γ 208 [.ptr rb 0,bs s] m fun o m'=>o = .ret (.val (.bool true))∧m'=m.set rb (rdS L l false):=by
 refine wM (vN mixed Zb zdP jY hr jO nbY ?_);simp only[zfL,ss0,aC,ag];simp only[ssH,ag,ae,reduceIte,af,ak,ai,aj];refine kz (b:=0) (az:=[bs s]) (v:=.val (.bool true)) rfl rfl (fun m b' hh=>by have:=zcy (Γ:=Γ) (s:=s) hs hh;rw[h]at this;exact this) jO nbY nbY ?_;simp only[rdS,rdR,jQ (show L.length-(l.length+1)<4611686018427387904 by omega),yz hs,ssH,ag,ae,reduceIte,af,ak,ai,aj];exact jy jC ⟨nbZ,_,rfl,jO (L:=L),rfl,rfl⟩
theorem vH(hs:t::l <:+ L)(hr:m rb=some (rdS L (t::l) b))(h:(!b&&isS s t)=false):jB Tryz.prog Γ 210 [.ptr rb 0,bs s] m fun o m'=>o = .ret (.tup [])∧m'=m.set rb (rdS L (t::l) true):=by
 refine wM (vN mixed Za zdO jY hr jO nbY ?_);simp only[zfJ,ss0,aC,ag];simp only[ssH,ag,ae,reduceIte,af,ak,ai,aj];refine kz (b:=0) (az:=[bs s]) (v:=.val (.bool false)) rfl rfl (fun m b' hh=>mX hs hh h) jO nbY nbY ?_;simp only[rdS,rdR,ssH,ag,ae,reduceIte,af,ak,ai,aj];exact IE rfl ⟨nbY,_,rfl,jO (L:=L),rfl,rfl⟩
theorem EI(hL:L.length<4611686018427387904)(hs:t::l <:+ L)(hr:m rb=some (rdS L (t::l) false))(h:isS s t=true):jB Tryz.prog Γ 210 [.ptr rb 0,bs s] m fun o m'=>o = .ret (.tup [])∧m'=m.set rb (rdS L l false):=by
 refine wM (vN mixed Za zdO jY hr jO nbY ?_);simp only[zfJ,ss0,aC,ag];simp only[ssH,ag,ae,reduceIte,af,ak,ai,aj];refine jX (b:=0) (az:=[bs s]) (v:=.val (.bool true)) rfl rfl (fun m b' hh=>oW hL hs hh h) jO jO nbY nbY ?_;simp only[ssH,ag,ae,reduceIte,af,ak,ai,aj];exact IE rfl ⟨nbY,_,rfl,jO (L:=L),rfl,rfl⟩
theorem Ql(hL:L.length<4611686018427387904)(hs:t::l <:+ L)(hr:m rb=some (rdS L (t::l) false))(h:t.k=1):jB Tryz.prog Γ 211 [.ptr rb 0] m fun o m'=>o = .ret (bs t.s)∧m'=m.set rb (rdS L l false):=by
 refine wM (vN mixed Y9 zdN jY hr jO nbY ?_);simp only[zfI,ss0,aC,ag];simp only[ssH,ag,ae,reduceIte,af,ak,ai,aj];refine kz (b:=0) rfl rfl (fun m b' hh=>vG hs hh) jO nbY (vz t) ?_;simp only[tkV,rdS,rdR,h,jQ (show L.length-(l.length+1)<4611686018427387904 by omega),yz hs,ssH,ag,ae,reduceIte,af,ak,ai,aj];exact jy jC ⟨nbZ,_,rfl,jO (L:=L),rfl,rfl⟩
theorem UM(hs:t::l <:+ L)(hr:m rb=some (rdS L (t::l) b))(h:b=true∨t.k≠1):jB Tryz.prog Γ 211 [.ptr rb 0] m fun o m'=>o = .ret (bs [])∧m'=m.set rb (rdS L (t::l) true):=by
 refine wM (vN mixed Y9 zdN jY hr jO nbY ?_);simp only[zfI,ss0,aC,ag];simp only[ssH,ag,ae,reduceIte,af,ak,ai,aj];refine kz (b:=0) rfl rfl (fun m b' hh=>vG hs hh) jO nbY (vz t) ?_;cases b
 ·have hk:(t.k != 1)=true:=by
   rcases h with h|h
   ·cases h
   ·simpa using h
  simp only[tkV,rdS,rdR,hk,ssH,ag,ae,reduceIte,af,ak,ai,aj];exact jy jC ⟨nbZ,_,rfl,jO (L:=L),rfl,rfl⟩
 ·simp only[tkV,rdS,rdR,ssH,ag,ae,reduceIte,af,ak,ai,aj];exact jy jC ⟨nbZ,_,rfl,jO (L:=L),rfl,rfl⟩
end
end Go.Av.Fn
namespace Go.Av
mutual
theorem VR.wk{R:Ren}:∀ {v v':V},VR R v v'→VR R (weak v) (weak v')
 |_,_,.val v=>.val v
 |_,_,.ptr o r=>.ptr o r
 |_,_,.elt r=>.elt r
 |_,_,.sl a b c=>by
  simp only[Av.weak];exact .sl (LR.wk a) (LR.wk b) trivial
 |_,_,.fn h a b=>.fn h a b
 |_,_,.ifc r=>.ifc r
 |_,_,.agg r=>by
  simp only[Av.weak];exact .agg (LR.wk r)
 |_,_,.tup r=>by
  simp only[Av.weak];exact .tup (LR.wk r)
 |_,_,.arr o l c r=>.arr o l c r
 |_,_,.res v z n r=>.res v z n r
theorem LR.wk{R:Ren}:∀ {v v':List V},LR R v v'→LR R (kZ v) (kZ v')
 |_,_,.nil=>.nil
 |_,_,.cons a b=>.cons (VR.wk a) (LR.wk b)
end
section
variable {P:Program} {Γ:jI} {H:Nat→List (Nat×List Nat)×List Nat} {f:FuncId} {F:AFn} {gs:List Nat} {m:Store}
theorem BJ(hm:P.follows .mixedOrders=true)(hF:qK P H f=some F)(hok:F.body.okH gs=true)(hG:GOk Γ gs){rb o:Nat}{az:List V}{X:Blk}(hb:m rb=some X)(hX:nbB 0 X)(ha:nbs 0 az){Q:V→Blk→Prop}
  (h:qy P Γ (fun _ _=>False) 1 F.body (uU F.res fun v h'=>nb 0 (weak v)∧∃ Y,lk h' 0=some Y∧nbB 0 Y∧Q (weak v) Y) ⟨start F.ntmps (.ptr 0 o::az),[some X]⟩) :
  jB P Γ f (.ptr rb o::az) m fun o m'=>∃ v Y,o = .ret v∧m'=m.set rb Y∧Q v Y:=by
 have h1:=tV (P:=P) (Γ:=Γ) (R0:=fun a c=>a=0∧c=rb) (N:=1) (m:=one rb X) hm hF hok hG (args0:=.ptr 0 o::az) (args:=.ptr rb o::az) (.cons (.ptr o ⟨rfl,rfl⟩) (ha.up _)) (SG hX) (fun _ _ q=>by omega) (Q:=fun o h'=>match o with | .ret v=>nb 0 (weak v)∧∃ Y,lk h' 0=some Y∧nbB 0 Y∧Q (weak v) Y | .pan _=>False) h;have h2:=h1.frame (Hr rb X (m:=m));rw[LG hb]at h2;refine jB.weak (R:=fun o m'=>∃ v Y,o = .ret v∧m'=m.set rb Y∧Q (weak v) Y) (jB.less h2 ?_) ?_ ?_
 ·rintro o m'' ⟨m',rfl,d,S,o0,h',s1,s2,s3,s4⟩
  cases o0 with
  |pan v=>exact s4.elim
  |ret v=>
   cases o with
   |pan v'=>exact s3.elim
   |ret v' =>
    obtain⟨q1,Y,q2,q3,q4⟩:=s4;obtain⟨Y',g1,g2⟩:=s2.blk _ _ _ (s1 _ _ ⟨rfl,rfl⟩) q2;obtain rfl:=FV q3 g2;have e3:weak v'=weak v:=DR q1 (VR.wk s3);refine⟨m.set rb Y',?_,v',Y',rfl,rfl,by rw[e3];exact q4⟩;intro b x hx
    by_cases e:b=rb
    ·subst e;rw[Store.jv]at hx;cases hx;simp only[Store.or,g1]
    ·rw[Store.jw _ _ e]at hx
     rcases d b with q|q
     ·simp only[Store.or,q,del,if_neg e];exact hx
     ·simp only[del,if_neg e]at q;rw[q]at hx;cases hx
 ·rintro v m' ⟨v',Y,e,e2,q⟩;cases e;exact⟨_,Y,rfl,e2,q⟩
 ·rintro v m' ⟨v',Y,e,_⟩;cases e
end
end Go.Av
namespace Go.Av.Fn
open Go.Proofs
def O6:List (List (List UInt8)):=[[[124,124]],[[38,38]],[[61,61],[33,61]],[[60],[60,61],[62],[62,61]],[[43],[45]],[[42],[47],[37]]]
def Cb(r:List (List UInt8)):V:=.sl (r.map bs) [] .full
def O5:V:=.sl (O6.map Cb) [] .full
theorem Zj{i k:Nat}{r:List (List UInt8)}{x:List UInt8}(hr:O6[i]? = some r)(hx:r[k]? = some x):level x=i:=by
 have hi:i<6:=(List.getElem?_eq_some_iff.1 hr).1;have:i=0∨i=1∨i=2∨i=3∨i=4∨i=5:=by omega
 have hm:=bI hx
 rcases this with rfl|rfl|rfl|rfl|rfl|rfl<;>cases hr<;>simp only[di,bW,or_false]at hm
 ·subst hm;rfl
 ·subst hm;rfl
 ·rcases hm with rfl|rfl<;>rfl
 ·rcases hm with rfl|rfl|rfl|rfl<;>rfl
 ·rcases hm with rfl|rfl<;>rfl
 ·rcases hm with rfl|rfl|rfl<;>rfl
theorem zbf{s:List UInt8}(h:∀ r∈O6,s∉r):level s = -1:=by
 simp only[O6,di,bW,or_false,forall_eq_or_imp,forall_eq,not_or]at h;obtain⟨h0,h1,⟨h2,h3⟩,⟨h4,h5,h6,h7⟩,⟨h8,h9⟩,h10,h11,h12⟩:=h;simp[level,h0,h1,h2,h3,h4,h5,h6,h7,h8,h9,h10,h11,h12]
theorem RN{k:Nat}:nb k O5:=by
 unfold O5 O6;simp only[aZ,Cb,nbS]
theorem zd5:∀ i:Nat,i<6→∃ r,O6[i]? = some r∧r.length≤4:=by
 intro i hi;have:i=0∨i=1∨i=2∨i=3∨i=4∨i=5:=by omega
 rcases this with rfl|rfl|rfl|rfl|rfl|rfl<;>exact⟨_,rfl,by decide⟩
theorem Yw{i:Nat}{r:List (List UInt8)}(h:O6[i]? = some r):oG 1 (.sl (O6.map Cb) [] .full) (it i)=some (.elt [Cb r]):=mD (e:=Cb r) (by rw[bn,h];rfl) rfl
theorem zeI{r:List (List UInt8)}{k:Nat}{x:List UInt8}(h:r[k]? = some x):oG 1 (.sl (r.map bs) [] .full) (it k)=some (.elt [bs x]):=mD (e:=bs x) (by rw[bn,h];rfl) rfl
theorem zcx{Γ:jI}{m:Store}{s:List UInt8}:jB Tryz.prog Γ 190 [bs s] m fun o m'=>o = .ret (it (level s))∧m'=m:=by
 refine kJ (kM mixed zfU ziW jY nbY ?_);simp only[ziX,ss0,aC,ag];have e7:∀ {t:List V} {m:Store},jJ Tryz.prog (ev Γ t) m (.lits 1 [V.val (Value.string (ByteArray.mk #[]))] 1 [(0,.const (.string (ByteArray.mk #[124,124])))])=some (Cb [[124,124]]):=fun {t m}=>rfl;have e8:∀ {t:List V} {m:Store},jJ Tryz.prog (ev Γ t) m (.lits 1 [V.val (Value.string (ByteArray.mk #[]))] 1 [(0,.const (.string (ByteArray.mk #[38,38])))])=some (Cb [[38,38]]):=fun {t m}=>rfl;have e9:∀ {t:List V} {m:Store},jJ Tryz.prog (ev Γ t) m (.lits 1 [V.val (Value.string (ByteArray.mk #[]))] 2 [(0,.const (.string (ByteArray.mk #[61,61]))),(1,.const (.string (ByteArray.mk #[33,61])))])=some (Cb [[61,61],[33,61]]):=fun {t m}=>rfl;have e10:∀ {t:List V} {m:Store},jJ Tryz.prog (ev Γ t) m (.lits 1 [V.val (Value.string (ByteArray.mk #[]))] 4 [(0,.const (.string (ByteArray.mk #[60]))),(1,.const (.string (ByteArray.mk #[60,61]))),(2,.const (.string (ByteArray.mk #[62]))),(3,.const (.string (ByteArray.mk #[62,61])))])=some (Cb [[60],[60,61],[62],[62,61]]):=fun {t m}=>rfl;have e11:∀ {t:List V} {m:Store},jJ Tryz.prog (ev Γ t) m (.lits 1 [V.val (Value.string (ByteArray.mk #[]))] 2 [(0,.const (.string (ByteArray.mk #[43]))),(1,.const (.string (ByteArray.mk #[45])))])=some (Cb [[43],[45]]):=fun {t m}=>rfl;have e12:∀ {t:List V} {m:Store},jJ Tryz.prog (ev Γ t) m (.lits 1 [V.val (Value.string (ByteArray.mk #[]))] 3 [(0,.const (.string (ByteArray.mk #[42]))),(1,.const (.string (ByteArray.mk #[47]))),(2,.const (.string (ByteArray.mk #[37])))])=some (Cb [[42],[47],[37]]):=fun {t m}=>rfl
 have e13:∀ {t:List V} {m:Store},jS t 6=Cb [[124,124]]→jS t 7=Cb [[38,38]]→jS t 8=Cb [[61,61],[33,61]]→jS t 9=Cb [[60],[60,61],[62],[62,61]]→jS t 10=Cb [[43],[45]]→jS t 11=Cb [[42],[47],[37]]→jJ Tryz.prog (ev Γ t) m (.lits 1 [V.sl [] [] Tok.full] 6 [(0,.tmp 6),(1,.tmp 7),(2,.tmp 8),(3,.tmp 9),(4,.tmp 10),(5,.tmp 11)])=some O5:=by
  intro t m h6 h7 h8 h9 h10 h11;show(pq 1 [V.sl [] [] Tok.full,V.sl [] [] Tok.full,V.sl [] [] Tok.full,V.sl [] [] Tok.full,V.sl [] [] Tok.full,V.sl [] [] Tok.full] [(0,ev Γ t (.tmp 6)),(1,ev Γ t (.tmp 7)),(2,ev Γ t (.tmp 8)),(3,ev Γ t (.tmp 9)),(4,ev Γ t (.tmp 10)),(5,ev Γ t (.tmp 11))]).map (fun es=>V.sl es [] .full)=_;simp only[rD];rw[h6,h7,h8,h9,h10,h11];rfl
 simp only[e7,e8,e9,e10,e11,e12,ssH,ag,ae,reduceIte,af,ak,ai,aj];rw[e13 rfl rfl rfl rfl rfl rfl];simp only[ssH,ag,ae,reduceIte,af,ak,ai,aj];clear e7 e8 e9 e10 e11 e12 e13;refine nC [0,3,4] 38 (fun n vs h=>∃ i:Nat,vs=[bs s,O5,it i]∧i+n=7∧i≤6∧∀ r∈O6.take i,s∉r) 7 (by decide) (by decide) (aK 0) (jZ rfl (aY _) (by decide) (by simp) (by simp only[aZ,jL,jM,RN,nbS]) (fun a ha=>by omega) ⟨0,rfl,rfl,by omega,by simp⟩) ?_;rintro n t h J hJ hl ⟨i,hv,hn,hi,hs⟩;simp only[aZ,aQ,and_true]at hv;obtain⟨h0,h3,h4⟩:=hv;have hlen:O6.length=6:=rfl;rw[mO hl];simp only[jW,upTo,h0,h3,h4,ssH,ag,ae,reduceIte,af,ak,ai,aj];simp only[O5,aH,hlen,ssH,ag,ae,reduceIte,af,ak,ai,aj]
 by_cases h6:i<6
 ·obtain⟨r,hr,hr4⟩:=zd5 i h6;rw[show decide ((i:Int)<((6:Nat):Int))=true by simp;omega];simp only[ssH,ag,ae,reduceIte,af,ak,ai,aj];refine nC [0,3,4,5] 38 (fun n vs h=>∃ k:Nat,vs=[bs s,O5,it i,it k]∧k+n=5∧k≤r.length∧s∉r.take k) 5 (by decide) (by decide) (aK 0) (jZ rfl (aY _) (by decide) (by simp) (by show nbs 0 [bs s,O5,it i,it 0];simp only[RN,nbS]) (fun a ha=>by omega) ⟨0,rfl,rfl,by omega,by simp⟩) ?_;rintro n2 t2 h2 J2 hJ2 hl2 ⟨k,hv,hn2,hk,hs2⟩;simp only[aZ,aQ,and_true]at hv;obtain⟨h0,h3,h4,h5⟩:=hv;rw[mO hl2];simp only[jW,upTo,h0,h3,h4,h5,O5,Yw hr,Cb,aH,ssH,ag,ae,reduceIte,af,ak,ai,aj]
  by_cases hkr:k<r.length
  ·have hx:r[k]? = some r[k]:=aI hkr;generalize r[k]=x at hx;rw[show decide ((k:Int)<(r.length:Int))=true by simp;omega];simp only[Yw hr,Cb,zeI hx,ssH,ag,ae,reduceIte,af,ak,ai,aj];cases he:(x==s)
   ·simp only[jQ (show k<4611686018427387904 by omega),ssH,ag,ae,reduceIte,af,ak,ai,aj];refine⟨_,hJ2 (n2-1) (aK 0) _ (by omega) (jZ rfl (aY _) (by decide) (by simp) (by show nbs 0 [bs s,O5,it i,it (k+1:Nat)];simp only[RN,nbS]) (fun a ha=>by omega) ⟨k+1,rfl,by omega,by omega,?_⟩)⟩;rw[bg,hx];intro hm
    rcases List.mem_append.1 hm with hm|hm
    ·exact hs2 hm
    ·simp only[gz,df]at hm;subst hm;simp at he
   ·simp only[ssH,ag,ae,reduceIte,af,ak,ai,aj];have e:x=s:=by simpa using he
    exact jy jC ⟨nbZ,by rw[←e,Zj hr hx];rfl⟩
  ·rw[show decide ((k:Int)<(r.length:Int))=false by simp;omega];simp only[jQ (show i<4611686018427387904 by omega),ssH,ag,ae,reduceIte,af,ak,ai,aj];refine⟨_,hJ (n-1) (aK 0) _ (by omega) (jZ rfl (aY _) (by decide) (by simp) (by show nbs 0 [bs s,O5,it (i+1:Nat)];simp only[RN,nbS]) (fun a ha=>by omega) ⟨i+1,rfl,by omega,by omega,?_⟩)⟩;rw[bg,hr];intro q hq
   rcases List.mem_append.1 hq with hq|hq
   ·exact hs q hq
   ·simp only[gz,df]at hq;have:k=r.length:=by omega
    subst this;rw[hq]
    simpa using hs2
 ·rw[show decide ((i:Int)<((6:Nat):Int))=false by simp;omega];simp only[ssH,ag,ae,reduceIte,af,ak,ai,aj];have:i=6:=by omega
  subst this;exact jy jC ⟨nbZ,by rw[zbf hs];rfl⟩
end Go.Av.Fn
namespace Go.Av.Fn
open Go.Proofs
def WX:Ex→List V→Prop
 | .mk k s nn kids ln,cs=>∃ vs tok,cs=[it k,bs s,it nn,.sl vs [] tok,it ln]∧kZ vs=lU kids∧nbs 0 vs∧nbT 0 tok
theorem IZ:∀ g:Ex,WX g (exV g).cells
 | .mk k s nn kids ln=>⟨lU kids,.no,rfl,lL kids,xn kids,by rw[Jt];trivial⟩
theorem zdR{g:Ex}{cs:List V}(h:WX g cs):weak (.agg cs)=exV g:=by
 obtain⟨k,s,nn,kids,ln⟩:=g;obtain⟨vs,tok,rfl,hv,_,_⟩:=h;simp only[weak,kZ,exV,hv,bs]
theorem zjR{g:Ex}{cs:List V}(h:WX g cs):nbs 0 cs:=by
 obtain⟨k,s,nn,kids,ln⟩:=g;obtain⟨vs,tok,rfl,hv,h1,h2⟩:=h;simp only[nbS];exact⟨h1,h2⟩
theorem zhG{k:Nat}{g:Ex}{cs:List V}(h:WX g cs):nbs k cs:=NL (zjR h)
def zX:List V:=[.val (.int .i64 0),.val (.string ⟨#[]⟩),.val (.int .i64 0),.sl [] [] .full,.val (.int .i64 0)]
theorem zj0{k:Nat}:nbs k zX:=by
 unfold zX;simp only[nbS]
theorem zes{k:Nat}{A B C:Blk}{r:Hl}(hA:nbB k A)(hB:nbB k B)(hC:nbB k C):∀ a<3,∀ x,lk (some A::some B::some C::r) a=some x→nbB k x:=by
 intro a ha x hx;have:a=0∨a=1∨a=2:=by omega
 rcases this with rfl|rfl|rfl<;>cases hx<;>assumption
theorem RU{k:Nat}{T:TypeId}{g:Ex}{cs:List V}(h:WX g cs):nbB k (.var T cs):=by
 rw[H6];exact zhG h
theorem Jv{k:Nat}{T:TypeId}:nbB k (.var T zX):=by
 rw[H6];exact zj0
def KQ(L:List Tk)(p:PR)(v:V)(Y:Blk):Prop:=∃ g:Ex,v=exV g∧Y=rdS L (pK p) (Df p)∧∀ e l,p = .ok [e] l→g=e
theorem Ig{L:List Tk}{p:PR}:∀ v Y,KQ L p v Y→nb 0 v∧nbB 0 Y:=by
 rintro v Y ⟨g,rfl,rfl,_⟩;exact⟨zl g,jO⟩
def KEx(Γ:jI)(L:List Tk)(n:Nat):Prop:=∀ (line:Nat) (l:List Tk) (p:PR) (m:Store) (rb:Nat),line≤6→l <:+ L→Sgl p→m rb=some (rdS L l false)→run n (.ex line) l=some p →
 jB Tryz.prog Γ 176 [.ptr rb 0,it line] m fun o m'=>∃ v Y,o = .ret v∧m'=m.set rb Y∧KQ L p v Y
def KUn(Γ:jI)(L:List Tk)(n:Nat):Prop:=∀ (l:List Tk) (p:PR) (m:Store) (rb:Nat),l <:+ L→Sgl p→m rb=some (rdS L l false)→run n .un l=some p →
 jB Tryz.prog Γ 189 [.ptr rb 0] m fun o m'=>∃ v Y,o = .ret v∧m'=m.set rb Y∧KQ L p v Y
def KSi(Γ:jI)(L:List Tk)(n:Nat):Prop:=∀ (l:List Tk) (p:PR) (m:Store) (rb:Nat),l <:+ L→Sgl p→m rb=some (rdS L l false)→run n .si l=some p →
 jB Tryz.prog Γ 209 [.ptr rb 0] m fun o m'=>∃ v Y,o = .ret v∧m'=m.set rb Y∧KQ L p v Y
theorem uo{r:Option PR}{k:Ex→List Tk→Option PR}{p:PR}(h:bind1 r k=some p):∃ p1,r=some p1∧Sgl p1∧∀ g,(∀ e l,p1 = .ok [e] l→g=e)→(Df p1=true∧p = .st (pK p1)∨Df p1=false∧k g (pK p1)=some p):=by
 rcases o5 h with ⟨e1,l1,k1,k2⟩|⟨l1,k1,rfl⟩
 ·exact⟨_,k1,⟨e1,rfl⟩,fun g hq=>.inr ⟨rfl,by rw[hq _ _ rfl];exact k2⟩⟩
 ·exact⟨_,k1,trivial,fun g hq=>.inl ⟨rfl,rfl⟩⟩
theorem xK{L:List Tk}{p:PR}{g:Ex}{t:List V}{h:Hl}{cs:List V}{i:Nat}(hw:WX g cs)(ht:resV [.cell i (some 5)] ⟨t,lk h⟩=some (.agg cs))(h0:lk h 0=some (rdS L (pK p) (Df p)))(hq:∀ e l,p = .ok [e] l→g=e) :
  uU [oQ.cell i (some 5)] (fun v h'=>nb 0 (weak v)∧∃ Y,lk h' 0=some Y∧nbB 0 Y∧KQ L p (weak v) Y) .ret ⟨t,h⟩:=by
 have e:=zdR hw;exact jy ht ⟨by rw[e];exact zl g,_,h0,jO,g,e,rfl,hq⟩
theorem zcA{Γ:jI}{L:List Tk}{n:Nat}(hL:L.length<4611686018427387904)(h:∀ k<n,KEx Γ L k∧KUn Γ L k):KEx Γ L n:=by
 intro line l p m rb hl hs hp1 hr hp;obtain⟨j,t,l',rfl,rfl,hg⟩:=oh hp;clear hp;simp only[step]at hg;refine BJ mixed zf3 zi5 jY hr jO nbY ?_;simp only[zi6,ss0,aC,ag];simp only[ssH,ag,ae,reduceIte,af,ak,ai,aj]
 by_cases h6:line=6
 ·subst h6;rw[if_pos rfl]at hg;rw[show(((6:Nat):Int)==6)=true from rfl];simp only[ssH,ag,ae,reduceIte,af,ak,ai,aj];refine lZ (b:=0) (az:=[]) rfl rfl (fun m b' hh=>(h j (by omega)).2 _ p m b' hs hp1 hh hg) jO nbY Ig ?_;rintro v Y ⟨⟨k,s,nn,kids,ln⟩,rfl,rfl,hq⟩;simp only[exV,ssH,ag,ae,reduceIte,af,ak,ai,aj];exact xK (IZ (.mk k s nn kids ln)) rfl rfl hq
 ·rw[if_neg h6]at hg;rw[show((line:Int)==6)=false by simp;omega];simp only[jQ (show line<4611686018427387904 by omega),ssH,ag,ae,reduceIte,af,ak,ai,aj];obtain⟨p1,k1,hs1,hf⟩:=uo hg;refine lZ (b:=0) (az:=[it (line+1:Nat)]) rfl rfl (fun m b' hh=>(h j (by omega)).1 (line+1) _ p1 m b' (by omega) hs hs1 hh k1) jO nbY Ig ?_;rintro v Y ⟨⟨k,s,nn,kids,ln⟩,rfl,rfl,hq⟩;have hf:=hf _ hq;have hsx:pK p1 <:+ L:=(zD j _ _ _ k1).trans hs;simp only[exV,ssH,ag,ae,reduceIte,af,ak,ai,aj];refine nC [0,1,4,5] 55 (fun n vs h=>∃ g l1 b cs,vs=[.ptr 0 0,it line,.ptr 1 0,.ptr 2 0]∧h=[some (rdS L l1 b),some (.var 206 zX),some (.var 206 cs)]∧WX g cs∧l1 <:+ L∧n≤j∧(b=true∧p = .st l1∨b=false∧run n (.lp line g) l1=some p)) j (by decide) (by decide) (aK 3) (jZ rfl (by decide) (by decide) (by simp) (by show nbs 3 [.ptr 0 0,it line,.ptr 1 0,.ptr 2 0];simp only[nbS];decide) (zes jO Jv (RU (IZ (.mk k s nn kids ln)))) ⟨.mk k s nn kids ln,pK p1,Df p1,_,rfl,rfl,IZ _,hsx,aY _,hf⟩) ?_
  ·rintro n tt hh J hJ hl2 ⟨⟨k,s,nn,kids,ln⟩,l1,b,cs,hv,rfl,hw,hsx,hn,hc⟩;have hwk:=hw;obtain⟨vs,tok,rfl,hw1,hw2,hw3⟩:=hw;simp only[aZ,aQ,and_true]at hv;obtain⟨h0,h1,h4,h5⟩:=hv;rw[mO hl2];simp only[jW,upTo,h0,h1,h4,h5,rdS,rdR,ssH,ag,ae,reduceIte,af,ak,ai,aj]
   rcases hc with ⟨rfl,rfl⟩|⟨rfl,hc⟩
   ·simp only[zX,ssH,ag,ae,reduceIte,af,ak,ai,aj];exact xK hwk rfl rfl (by rintro e l ⟨⟩)
   ·obtain⟨i,tk,l2,rfl,rfl,hg2⟩:=oh hc;clear hc;simp only[step]at hg2;simp only[ssH,ag,ae,reduceIte,af,ak,ai,aj];refine kz (b:=0) (az:=[]) rfl rfl (fun m b' hh=>vG hsx hh) jO nbY (vz tk) ?_;simp only[tkV,ssH,ag,ae,reduceIte,af,ak,ai,aj];cases hk:(tk.k==4)
    ·simp only[hk,fC,aF,if_false,ax]at hg2;subst hg2;simp only[zX,ssH,ag,ae,reduceIte,af,ak,ai,aj];exact xK hwk rfl rfl (by rintro e l ⟨⟩;rfl)
    ·simp only[ssH,ag,ae,reduceIte,af,ak,ai,aj];refine kz (b:=0) (az:=[]) rfl rfl (fun m b' hh=>vG hsx hh) jO nbY (vz tk) ?_;simp only[tkV,ssH,ag,ae,reduceIte,af,ak,ai,aj];refine jE (v:=it (level tk.s)) (by exact fun m=>zcx) nbY nbY ?_;simp only[ssH,ag,ae,reduceIte,af,ak,ai,aj];cases hlv:(level tk.s==(line:Int))
     ·simp only[hk,hlv,ed,aF,if_false,ax]at hg2;subst hg2;simp only[zX,ssH,ag,ae,reduceIte,af,ak,ai,aj];exact xK hwk rfl rfl (by rintro e l ⟨⟩;rfl)
     ·simp only[hk,hlv,Bool.and_self,if_true]at hg2;simp only[ssH,ag,ae,reduceIte,af,ak,ai,aj];refine kz (b:=0) (az:=[]) rfl rfl (fun m b' hh=>vG hsx hh) jO nbY (vz tk) ?_;simp only[tkV,jQ (show L.length-(l2.length+1)<4611686018427387904 by omega),jQ (show line<4611686018427387904 by omega),yz hsx,ssH,ag,ae,reduceIte,af,ak,ai,aj];obtain⟨p2,k2,hs2,hf2⟩:=uo hg2;have hsx2:l2 <:+ L:=(bG tk l2).trans hsx;have hsx3:pK p2 <:+ L:=(zD i _ _ _ k2).trans hsx2;refine lZ (b:=0) (az:=[it (line+1:Nat)]) rfl rfl (fun m b' hh=>(h i (by omega)).1 (line+1) l2 p2 m b' (by omega) hsx2 hs2 hh k2) (jO (L:=L)) nbY Ig ?_;rintro v Y ⟨e2,rfl,rfl,hq2⟩;have hf2:=hf2 _ hq2;simp only[H9,EH (v:=.agg [it k,bs s,it nn,.sl vs [] tok,it ln]) (u:=exV e2) rfl (oZ e2),zX,ssH,ag,ae,reduceIte,af,ak,ai,aj];refine⟨_,hJ i (aK 3) _ (by omega) (jZ rfl (by decide) (by decide) (by simp) (by show nbs 3 [.ptr 0 0,it line,.ptr 1 0,.ptr 2 0];simp only[nbS];decide) (zes jO Jv (RU (g:=.mk 7 tk.s 0 [.mk k s nn kids ln,e2] ln) ?_)) ⟨.mk 7 tk.s 0 [.mk k s nn kids ln,e2] ln,pK p2,Df p2,_,rfl,rfl,?_,hsx3,by omega,hf2⟩)⟩
      all_goals
       refine⟨[.agg [it k,bs s,it nn,.sl vs [] tok,it ln],exV e2],.full,rfl,?_,?_,by rw[AO];trivial⟩
       ·simp only[kZ,weak,lU,exV,hw1,uY,bs]
       ·simp only[nbS];exact⟨⟨hw2,hw3⟩,zl e2⟩
def Ne(r:Option PR):Prop:=∀ l1,r=some (.st l1)→l1≠[]
theorem xm{r:Option PR}{k:Ex→List Tk→Option PR}(h:Ne r)(hk:∀ e l1,Ne (k e l1)):Ne (bind1 r k):=by
 intro l hp
 rcases o5 hp with ⟨e,l1,h1,h2⟩|⟨l1,h1,h2⟩
 ·exact hk e l1 _ h2
 ·cases h2;exact h _ h1
theorem Hz{r:Option PR}{k:List Ex→List Tk→Option PR}(h:Ne r)(hk:∀ e l1,Ne (k e l1)):Ne (bindL r k):=by
 intro l hp
 rcases sN hp with ⟨e,l1,h1,h2⟩|⟨l1,h1,h2⟩
 ·exact hk e l1 _ h2
 ·cases h2;exact h _ h1
theorem zk{es:List Ex}{l:List Tk}:Ne (some (.ok es l)):=fun _ h=>by cases h
theorem Hy{s:List UInt8}{l:List Tk}{k:List Tk→Option PR}(hk:∀ l1,Ne (k l1)):Ne (mM s l k):=by
 unfold mM
 cases l with
 |nil=>intro p hp;cases hp
 |cons t r=>
  simp only
  split
  ·exact hk r
  ·rintro l1 ⟨⟩ ⟨⟩
theorem X7{l:List Tk}{k:List UInt8→List Tk→Option PR}(hk:∀ s l1,Ne (k s l1)):Ne (Dk l k):=by
 unfold Dk
 cases l with
 |nil=>intro p hp;cases hp
 |cons t r=>
  simp only
  split
  ·exact hk _ r
  ·rintro l1 ⟨⟩ ⟨⟩
theorem VS:∀ (n:Nat) (r:BK) (l:List Tk),Ne (run n r l)
 |0,r,l=>by intro p hp;cases hp
 |n+1,r,[]=>by intro p hp;cases hp
 |n+1,r,t::l=>by
  have ih:=VS n;have hrow:∀ l',Ne (Ja (run n) l'):=fun l'=>xm (ih (.ex 0) l') fun e l1=>ih (.ro [e]) l1
  have hunt:∀ s l',Ne (xG (run n) s l'):=by
   intro s l';unfold xG
   cases l' with
   |nil=>intro p hp;cases hp
   |cons t' r' =>
    simp only
    split
    ·exact zk
    ·exact Hz (hrow _) fun es l1=>Hy fun l2=>zk
  show Ne (step (run n) t l r)
  cases r with
  |ex line=>
   simp only[step]
   split
   ·exact ih _ _
   ·exact xm (ih _ _) fun e l1=>ih _ _
  |lp line e=>
   simp only[step]
   split
   ·exact xm (ih _ _) fun e2 l2=>ih _ _
   ·exact zk
  |un=>
   simp only[step]
   split
   ·exact xm (ih _ _) fun e l1=>zk
   ·exact xm (ih _ _) fun e l1=>ih _ _
  |po e=>
   simp only[step]
   split
   ·exact xm (ih _ _) fun e2 l2=>Hy fun l3=>ih _ _
   ·split
    ·exact X7 fun s l2=>ih _ _
    ·exact zk
  |ro out=>
   simp only[step]
   split
   ·exact xm (ih _ _) fun e l1=>ih _ _
   ·exact zk
  |si=>
   simp only[step,Em]
   split
   ·exact zk
   ·split
    ·exact zk
    ·split
     ·unfold QP
      cases l with
      |nil=>intro p hp;cases hp
      |cons t2 l2=>
       simp only
       split
       ·exact Hz (hunt _ _) fun es l3=>zk
       ·exact zk
     ·split
      ·exact zk
      ·split
       ·exact zk
       ·split
        ·exact X7 fun s l2=>Hy fun l3=>Hz (hunt _ _) fun es l4=>zk
        ·split
         ·exact Hz (hrow _) fun es l2=>Hy fun l3=>zk
         ·split
          ·exact xm (ih _ _) fun e l2=>Hy fun l3=>zk
          ·rintro l1 ⟨⟩ ⟨⟩
def KL(L:List Tk)(p:PR)(v:V)(Y:Blk):Prop:=∃ gs:List Ex,v = .sl (lU gs) [] .no∧Y=rdS L (pK p) (Df p)∧∀ es l,p = .ok es l→gs=es
theorem UL{L:List Tk}{p:PR}:∀ v Y,KL L p v Y→nb 0 v∧nbB 0 Y:=by
 rintro v Y ⟨g,rfl,rfl,_⟩;refine⟨?_,jO⟩;simp only[nbS];exact xn g
def Bf(out:List Ex)(tok:Tok)(r:Hl):Prop:=tok = .full∧out=[]∧r=[]∨∃ k,tok = .tip 1 k∧out≠[]∧r=[some (.tip 206 k)]
theorem Xp{X:Blk}{out:List Ex}{tok:Tok}{r:Hl}(h:Bf out tok r)(hX:∀ k,nbB k X):∀ a<1+r.length,∀ x,lk (some X::r) a=some x→nbB (1+r.length) x:=by
 intro a ha x hx
 rcases h with ⟨rfl,rfl,rfl⟩|⟨k,rfl,_,rfl⟩
 ·have:a=0:=by simp at ha;omega
  subst this;cases hx;exact hX _
 ·have:a=0∨a=1:=by simp at ha;omega
  rcases this with rfl|rfl
  ·cases hx;exact hX _
  ·cases hx;simp only[nbS]
theorem zh3{P:Program}{Γ:jI}{Kp:V→Hl→Prop}{s:List (Tmp×Option (Tmp×Bool)×AOp)}{l:List Item}{K:HS→Prop}{t:List V}{d:Option Tmp}{X:Blk}{out:List Ex}{tok:Tok}{r:Hl}{e:Ex}(h:Bf out tok r)(hb:out.length≤1099511627776)
  (hr:∀ k,hth P Γ Kp s l K (hput t [some X,some (.tip 206 k)] d (some (.sl (lU (out++[e])) [] (.tip 1 k))))):uJ P Γ Kp 206 64 5 (.sl (lU out) [] tok) (.sl [exV e] [] .full) d s l K t (some X::r):=by
 have he:rE 5 [exV e]=true:=by
  obtain⟨k,s,n,kids,ln⟩:=e;rfl
 rw[KD]at hr
 rcases h with ⟨rfl,rfl,rfl⟩|⟨k,rfl,h0,rfl⟩
 ·exact sJ (ys:=[exV e]) rfl (by simp) (by simp) rfl he (by simp[lU]) (hr 0)
 ·have hne:lU out≠[]:=by
   cases out with
   |nil=>exact absurd rfl h0
   |cons x y=>simp[lU]
  exact AU (j:=1) (k:=k) (x:=.sl [exV e] [] .full) (ys:=[exV e]) rfl (by simp) hne rfl (Q3 out) he (by rw[xy];simp;omega) (hr (k+1))
theorem zcq{L:List Tk}{p:PR}{gs:List Ex}{tok:Tok}{t:List V}{h:Hl}{i:Nat}(ht:jS t i = .sl (lU gs) [] tok)(h0:lk h 0=some (rdS L (pK p) (Df p)))(hq:∀ es l,p = .ok es l→gs=es) :
  uU [oQ.tmp i] (fun v h'=>nb 0 (weak v)∧∃ Y,lk h' 0=some Y∧nbB 0 Y∧KL L p (weak v) Y) .ret ⟨t,h⟩:=by
 have e:weak (.sl (lU gs) [] tok) = .sl (lU gs) [] .no:=by simp only[weak,kZ,lL]
 refine jy jC ⟨?_,_,h0,jO,gs,?_,rfl,hq⟩
 ·rw[ht,e];simp only[nbS];exact xn gs
 ·rw[ht,e]
def NZ(f:BK→List Tk→Option PR)(s:List UInt8)(one:Bool)(t:Tk)(l:List Tk):Option PR:=if (!one&&isS s t)=true then some (.ok [] l)else bindL (Ja f (t::l)) fun es l2=>mM s l2 fun l3=>some (.ok es l3)
section
variable {Γ:jI} {m:Store} {rb n:Nat} {L l:List Tk} {t:Tk} {s:List UInt8} {one:Bool} {p:PR}
theorem N9(hL:L.length<4611686018427387904)(hn0:n≤1099511627776)(h:∀ k≤n,KEx Γ L k)(hs:t::l <:+ L)(hr:m rb=some (rdS L (t::l) false))(hp:NZ (run n) s one t l=some p) :
  jB Tryz.prog Γ 232 [.ptr rb 0,bs s,.val (.bool one)] m fun o m'=>∃ v Y,o = .ret v∧m'=m.set rb Y∧KL L p v Y:=by
 refine BJ mixed Y6 zdM jY hr jO nbY ?_;simp only[zfE,ss0,aC,ag];simp only[ssH,ag,ae,reduceIte,af,ak,ai,aj]
 by_cases hc:(!one&&isS s t)=true
 ·obtain⟨rfl,hi⟩:one=false∧isS s t=true:=by simpa using hc
  have:p = .ok [] l:=by simpa [NZ,hi] using hp.symm
  subst this;simp only[ssH,ag,ae,reduceIte,af,ak,ai,aj];refine jX (b:=0) (az:=[bs s]) (v:=.val (.bool true)) rfl rfl (fun m b' hh=>oW hL hs hh hi) jO jO nbY nbY ?_;simp only[ssH,ag,ae,reduceIte,af,ak,ai,aj];exact zcq (gs:=[]) (tok:=.full) rfl rfl (by rintro es l ⟨⟩;rfl)
 ·have hloop:bindL (Ja (run n) (t::l)) (fun es l2=>mM s l2 fun l3=>some (.ok es l3))=some p:=by
   simpa [NZ,hc] using hp
  obtain⟨q,hq,hq2⟩:∃ q,Ja (run n) (t::l)=some q∧(∀ out l1,q = .ok out l1→mM s l1 (fun l3=>some (.ok out l3))=some p)∧(∀ l1,q = .st l1→p = .st l1):=by
   rcases sN hloop with ⟨es,l1,h1,h2⟩|⟨l1,h1,h2⟩
   ·exact⟨_,h1,(fun out l1 e=>by cases e;exact h2),(fun l1 e=>by cases e)⟩
   ·exact⟨_,h1,(fun out l1 e=>by cases e),(fun l1 e=>by cases e;exact h2)⟩
  cases one
  case' false=>
   have hi:isS s t=false:=by simpa using hc
   simp only[ssH,ag,ae,reduceIte,af,ak,ai,aj];refine kz (b:=0) (az:=[bs s]) (v:=.val (.bool false)) rfl rfl (fun m b' hh=>mX hs hh (by rw[hi];rfl)) jO nbY nbY ?_
  all_goals
   simp only[ssH,ag,ae,reduceIte,af,ak,ai,aj];refine nC [0,1,7] 32 (fun j vs h=>∃ out l1 tok r,vs=[.ptr 0 0,bs s,.sl (lU out) [] tok]∧h=some (rdS L l1 false)::r∧Bf out tok r∧l1 <:+ L∧out.length+j≤n∧bind1 (run j (.ex 0) l1) (fun e l2=>run j (.ro (out++[e])) l2)=some q) n (by decide) (by decide) (aK 1) (jZ rfl (by decide) (by decide) (by simp) (by show nbs 1 [.ptr 0 0,bs s,.sl [] [] .full];simp only[nbS];decide) (Xp (.inl ⟨rfl,rfl,rfl⟩) fun k=>jO) ⟨[],t::l,.full,[],rfl,rfl,.inl ⟨rfl,rfl,rfl⟩,hs,by simp,hq⟩) ?_;rintro j tt hh J hJ hl2 ⟨out,l1,tok,r,hv,rfl,hb,hsx,hn,hg⟩;simp only[aZ,aQ,and_true]at hv;obtain⟨h0,h1,h7⟩:=hv;rw[mO hl2];simp only[jW,upTo,h0,h1,h7,rdS,rdR,ssH,ag,ae,reduceIte,af,ak,ai,aj];obtain⟨p1,k1,hs1,hf⟩:=uo hg;have hsx1:pK p1 <:+ L:=(zD j _ _ _ k1).trans hsx;refine lZ (b:=0) (az:=[it ((0:Nat):Int)]) rfl rfl (fun m b' hh=>h j (by omega) 0 l1 p1 m b' (by omega) hsx hs1 hh k1) (jO (L:=L)) nbY Ig ?_;rintro v Y ⟨e,rfl,rfl,hq1⟩;have hf:=hf _ hq1;simp only[zI,uG (oZ e),ssH,ag,ae,reduceIte,af,ak,ai,aj];refine zh3 hb (by omega) fun k => ?_;simp only[ssH,ag,ae,reduceIte,af,ak,ai,aj]
   rcases hf with ⟨hbad,hqq⟩|⟨hgood,hqq⟩
   ·obtain⟨t2,l2,rfl⟩:∃ t2 l2,p1 = .st (t2::l2):=by
     cases p1 with
     |ok es l=>cases hbad
     |st l=>
      cases l with
      |nil=>exact absurd rfl (VS _ _ _ _ k1)
      |cons t2 l2=>exact⟨t2,l2,rfl⟩
    have hpp:=hq2.2 _ hqq;simp only[pK,Df]at hsx1 hpp ⊢;subst hpp;refine kz (b:=0) (az:=[bs [44]]) (v:=.val (.bool false)) rfl rfl (fun m b' hh=>mX hsx1 hh rfl) jO nbY nbY ?_;simp only[ssH,ag,ae,reduceIte,af,ak,ai,aj];refine jX (b:=0) (az:=[bs s]) (v:=.tup []) rfl rfl (fun m b' hh=>vH hsx1 hh rfl) jO jO nbY nbY ?_;simp only[ssH,ag,ae,reduceIte,af,ak,ai,aj];exact zcq (gs:=out++[e]) (tok:=.tip 1 k) rfl rfl (by rintro es l ⟨⟩)
   ·obtain⟨i,t2,l2,rfl,hl3,hg2⟩:=oh hqq;simp only[step]at hg2;rw[hl3]at hsx1 ⊢;rw[hgood];cases hcm:isS [44] t2
    ·simp only[hcm,aF,if_false,ax]at hg2;have hpp:=hq2.1 _ _ hg2.symm;refine kz (b:=0) (az:=[bs [44]]) (v:=.val (.bool false)) rfl rfl (fun m b' hh=>mX hsx1 hh (by rw[hcm];rfl)) jO nbY nbY ?_;simp only[ssH,ag,ae,reduceIte,af,ak,ai,aj];simp only[mM]at hpp;cases hmm:isS s t2
     ·simp only[hmm,aF,if_false,ax]at hpp;subst hpp;refine jX (b:=0) (az:=[bs s]) (v:=.tup []) rfl rfl (fun m b' hh=>vH hsx1 hh (by rw[hmm];rfl)) jO jO nbY nbY ?_;simp only[ssH,ag,ae,reduceIte,af,ak,ai,aj];exact zcq (gs:=out++[e]) (tok:=.tip 1 k) rfl rfl (by rintro es l ⟨⟩)
     ·simp only[hmm,if_true,ax]at hpp;subst hpp;refine jX (b:=0) (az:=[bs s]) (v:=.tup []) rfl rfl (fun m b' hh=>EI hL hsx1 hh hmm) jO jO nbY nbY ?_;simp only[ssH,ag,ae,reduceIte,af,ak,ai,aj];exact zcq (gs:=out++[e]) (tok:=.tip 1 k) rfl rfl (by rintro es l ⟨⟩;rfl)
    ·simp only[hcm,if_true]at hg2;refine jX (b:=0) (az:=[bs [44]]) (v:=.val (.bool true)) rfl rfl (fun m b' hh=>oW hL hsx1 hh hcm) jO jO nbY nbY ?_;simp only[ssH,ag,ae,reduceIte,af,ak,ai,aj];have hB:Bf (out++[e]) (.tip 1 k) [some (.tip 206 k)]:=.inr ⟨k,rfl,by simp,rfl⟩;refine⟨_,hJ i (aK 2) _ (by omega) (jZ rfl (by decide) (by decide) (by simp) ?_ (Xp hB fun k=>jO) ⟨out++[e],l2,_,_,rfl,rfl,hB,(bG t2 l2).trans hsx1,by simp only[aJ,au,ay];omega,hg2⟩)⟩;show nbs 2 [.ptr 0 0,bs s,.sl (lU (out++[e])) [] (.tip 1 k)];simp only[nbS];exact⟨by decide,xn _,by decide⟩
end
def sg:Nat→List UInt8
 |0=>[45]
 |_=>[33]
def sgV:V:=.sl [bs [45],bs [33]] [] .full
theorem zhM{i:Nat}(h:i<2):oG 1 (.sl [bs [45],bs [33]] [] .full) (it i)=some (.elt [bs (sg i)]):=by
 have:i=0∨i=1:=by omega
 rcases this with rfl|rfl
 ·exact mD (e:=bs [45]) rfl rfl
 ·exact mD (e:=bs [33]) rfl rfl
theorem zj1{k:Nat}{A B:Blk}{r:Hl}(hA:nbB k A)(hB:nbB k B):∀ a<2,∀ x,lk (some A::some B::r) a=some x→nbB k x:=by
 intro a ha x hx;have:a=0∨a=1:=by omega
 rcases this with rfl|rfl<;>cases hx<;>assumption
theorem XO{n:Nat}{r:BK}{l:List Tk}{p1:PR}(k1:run n r l=some p1)(hbad:Df p1=true):∃ t2 l2,p1 = .st (t2::l2):=by
 cases p1 with
 |ok es l=>cases hbad
 |st l=>
  cases l with
  |nil=>exact absurd rfl (VS _ _ _ _ k1)
  |cons t2 l2=>exact⟨t2,l2,rfl⟩
theorem zab{Γ:jI}{L:List Tk}{n:Nat}(hL:L.length<4611686018427387904)(h:∀ k<n,KEx Γ L k∧KUn Γ L k∧KSi Γ L k):KUn Γ L n:=by
 intro l p m rb hs hp1 hr hp;obtain⟨j,t,l',rfl,rfl,hg⟩:=oh hp;clear hp;simp only[step]at hg;refine BJ mixed zfV ziY jY hr jO nbY ?_;simp only[ziZ,ss0,aC,ag];have e10:∀ {t:List V} {m:Store},jJ Tryz.prog (ev Γ t) m (.lits 1 [V.val (Value.string (ByteArray.mk #[]))] 2 [(0,.const (.string (ByteArray.mk #[45]))),(1,.const (.string (ByteArray.mk #[33])))])=some sgV:=fun {t m}=>rfl;simp only[ssH,ag,ae,reduceIte,af,ak,ai,aj];refine kz (b:=0) (az:=[]) rfl rfl (fun m b' hh=>vG hs hh) jO nbY (vz t) ?_;simp only[tkV,e10,ssH,ag,ae,reduceIte,af,ak,ai,aj];simp only[sgV,au,ay,ssH,ag,ae,reduceIte,af,ak,ai,aj];refine nC [0,2,3,10,11,12] 57 (fun n vs h=>∃ i:Nat,vs=[.ptr 0 0,.ptr 1 0,it t.l,sgV,it (2:Nat),it i]∧h=[some (rdS L (t::l') false),some (.var 206 zX)]∧i+n=3∧i≤2∧∀ a<i,isS (sg a) t=false) 3 (by decide) (by decide) (aK 2) (jZ rfl (by decide) (by decide) (by simp) (by show nbs 2 [.ptr 0 0,.ptr 1 0,it t.l,sgV,it (2:Nat),it (0:Nat)];simp only[sgV,nbS];decide) (zj1 jO Jv) ⟨0,rfl,rfl,rfl,by decide,fun a ha=>by omega⟩) ?_;rintro n tt hh J hJ hl2 ⟨i,hv,rfl,hn,hi,hno⟩;simp only[aZ,aQ,and_true]at hv;obtain⟨h0,h2,h3,h10,h11,h12⟩:=hv;rw[mO hl2];simp only[jW,upTo,h0,h2,h3,h10,h11,h12,rdS,rdR,ssH,ag,ae,reduceIte,af,ak,ai,aj]
 by_cases h6:i<2
 ·rw[show decide ((i:Int)<((2:Nat):Int))=true by simp;omega];simp only[sgV,zhM h6,ssH,ag,ae,reduceIte,af,ak,ai,aj];cases hi2:isS (sg i) t
  ·refine kz (b:=0) (az:=[bs (sg i)]) (v:=.val (.bool false)) rfl rfl (fun m b' hh=>mX hs hh (by rw[hi2];rfl)) jO nbY nbY ?_;simp only[jQ (show i<4611686018427387904 by omega),ssH,ag,ae,reduceIte,af,ak,ai,aj];refine⟨_,hJ (n-1) (aK 2) _ (by omega) (jZ rfl (by decide) (by decide) (by simp) (by show nbs 2 [.ptr 0 0,.ptr 1 0,it t.l,sgV,it (2:Nat),it (i+1:Nat)];simp only[sgV,nbS];decide) (zj1 jO Jv) ⟨i+1,rfl,rfl,by omega,by omega,?_⟩)⟩;intro a ha
   by_cases e:a=i
   ·rw[e];exact hi2
   ·exact hno a (by omega)
  ·have hg2:bind1 (run j .un l') (fun e l1=>some (.ok [.mk 6 t.s 0 [e] t.l] l1))=some p:=by
    rw[if_pos]at hg
    ·exact hg
    ·have:i=0∨i=1:=by omega
     rcases this with rfl|rfl<;>simp only[sg]at hi2<;>rw[hi2]<;>simp
   have hts:t.s=sg i:=by
    simp only[isS,aG,beq_iff_eq]at hi2;exact hi2.2
   obtain⟨p1,k1,hs1,hf⟩:=uo hg2;have hs' : l' <:+ L:=(bG t l').trans hs;refine jX (b:=0) (az:=[bs (sg i)]) (v:=.val (.bool true)) rfl rfl (fun m b' hh=>oW hL hs hh hi2) jO jO nbY nbY ?_;simp only[ssH,ag,ae,reduceIte,af,ak,ai,aj];refine lZ (b:=0) (az:=[]) rfl rfl (fun m b' hh=>(h j (by omega)).2.1 l' p1 m b' hs' hs1 hh k1) jO nbY Ig ?_;rintro v Y ⟨e,rfl,rfl,hq1⟩;have hf:=hf _ hq1;simp only[zI,uG (oZ e),zX,ssH,ag,ae,reduceIte,af,ak,ai,aj];have hw:WX (.mk 6 (sg i) 0 [e] t.l) [it 6,bs (sg i),it 0,.sl [exV e] [] .full,it t.l]:=⟨[exV e],.full,rfl,by simp only[kZ,uY,lU],by simp only[nbS];exact zl e,by rw[AO];trivial⟩
   rcases hf with ⟨hb,rfl⟩|⟨hb,hpp⟩
   ·exact xK hw rfl (by rw[hb];rfl) (by rintro e l ⟨⟩)
   ·simp only[ax]at hpp;subst hpp;exact xK hw rfl (by rw[hb];rfl) (by rintro e l ⟨⟩;rw[hts])
 ·rw[show decide ((i:Int)<((2:Nat):Int))=false by simp;omega];have:i=2:=by omega
  subst this;have ha:isS [45] t=false:=hno 0 (by decide);have hb:isS [33] t=false:=hno 1 (by decide);simp only[ha,hb,Bool.or_self,aF,if_false]at hg;obtain⟨p1,k1,hs1,hf⟩:=uo hg;have hsx1:pK p1 <:+ L:=(zD j _ _ _ k1).trans hs;simp only[ssH,ag,ae,reduceIte,af,ak,ai,aj];refine lZ (b:=0) (az:=[]) rfl rfl (fun m b' hh=>(h j (by omega)).2.2 _ p1 m b' hs hs1 hh k1) jO nbY Ig ?_;rintro v Y ⟨⟨k,s,nn,kids,ln⟩,rfl,rfl,hq1⟩;have hf:=hf _ hq1;simp only[exV,ssH,ag,ae,reduceIte,af,ak,ai,aj];refine nC [0,2,6] 57 (fun n vs h=>∃ g l1 b cs,vs=[.ptr 0 0,.ptr 1 0,.ptr 2 0]∧h=[some (rdS L l1 b),some (.var 206 zX),some (.var 206 cs)]∧WX g cs∧l1 <:+ L∧n≤j∧(b=true∧p = .st l1∨b=false∧run n (.po g) l1=some p)) j (by decide) (by decide) (aK 3) (jZ rfl (by decide) (by decide) (by simp) (by show nbs 3 [.ptr 0 0,.ptr 1 0,.ptr 2 0];simp only[nbS];decide) (zes jO Jv (RU (IZ (.mk k s nn kids ln)))) ⟨.mk k s nn kids ln,pK p1,Df p1,_,rfl,rfl,IZ _,hsx1,aY _,hf⟩) ?_;clear hf hq1 k1 hs1 hsx1 hJ hg;rintro n tt hh J hJ hl2 ⟨⟨k,s,nn,kids,ln⟩,l1,b,cs,hv,rfl,hw,hsx,hn,hc⟩;have hwk:=hw;obtain⟨vs,tok,rfl,hw1,hw2,hw3⟩:=hw;simp only[aZ,aQ,and_true]at hv;obtain⟨h0,h2,h6⟩:=hv;rw[mO hl2];simp only[jW,upTo,h0,h2,h6,rdS,rdR,ssH,ag,ae,reduceIte,af,ak,ai,aj]
  rcases hc with ⟨rfl,rfl⟩|⟨rfl,hc⟩
  ·simp only[zX,ssH,ag,ae,reduceIte,af,ak,ai,aj];exact xK hwk rfl rfl (by rintro e l ⟨⟩)
  ·obtain⟨i,tk,l2,rfl,rfl,hg⟩:=oh hc;clear hc;simp only[step]at hg;have hsx2:l2 <:+ L:=(bG tk l2).trans hsx
   have hnx:∀ (K:Int) (S:List UInt8) (KE:List Ex) (KS:List V) (l3:List Tk) (b:Bool) (tt':List V),tt'.length=57→jS tt' 0 = .ptr 0 0→jS tt' 2 = .ptr 1 0→jS tt' 6 = .ptr 2 0→kZ KS=lU KE→nbs 0 KS→l3 <:+ L→(b=true∧p = .st l3∨b=false∧run i (.po (.mk K S 0 KE ln)) l3=some p) →
     ∃ names,J names ⟨tt',[some (rdS L l3 b),some (.var 206 zX),some (.var 206 [it K,bs S,it 0,.sl KS [] .full,it ln])]⟩:=by
    intro K S KE KS l3 b tt' q0 q1 q2 q3 q4 q5 q6 q7;have hw:WX (.mk K S 0 KE ln) [it K,bs S,it 0,.sl KS [] .full,it ln]:=⟨KS,.full,rfl,q4,q5,by rw[AO];trivial⟩;refine⟨_,hJ i (aK 3) _ (by omega) (jZ q0 (by decide) (by decide) (by simp) ?_ (zes jO Jv (RU hw)) ⟨.mk K S 0 KE ln,l3,b,_,?_,rfl,hw,q6,by omega,q7⟩)⟩
    ·simp only[aZ,q1,q2,q3,nbS];decide
    ·simp only[aZ,q1,q2,q3]
   simp only[ssH,ag,ae,reduceIte,af,ak,ai,aj];cases hi1:isS [91] tk
   ·refine kz (b:=0) (az:=[bs [91]]) (v:=.val (.bool false)) rfl rfl (fun m b' hh=>mX hsx hh (by rw[hi1];rfl)) jO nbY nbY ?_;simp only[ssH,ag,ae,reduceIte,af,ak,ai,aj];cases hi2:isS [46] tk
    ·refine kz (b:=0) (az:=[bs [46]]) (v:=.val (.bool false)) rfl rfl (fun m b' hh=>mX hsx hh (by rw[hi2];rfl)) jO nbY nbY ?_;simp only[hi1,hi2,aF,if_false,ax]at hg;subst hg;simp only[zX,ssH,ag,ae,reduceIte,af,ak,ai,aj];exact xK hwk rfl rfl (by rintro e l ⟨⟩;rfl)
    ·refine jX (b:=0) (az:=[bs [46]]) (v:=.val (.bool true)) rfl rfl (fun m b' hh=>oW hL hsx hh hi2) jO jO nbY nbY ?_;simp only[hi1,hi2,aF,if_false,if_true]at hg;simp only[zI,uG (v:=.agg [it k,bs s,it nn,.sl vs [] tok,it ln]) rfl,ssH,ag,ae,reduceIte,af,ak,ai,aj]
     cases l2 with
     |nil=>cases hg
     |cons t3 l3=>
      have hsx3:l3 <:+ L:=(bG t3 l3).trans hsx2;simp only[Dk]at hg
      by_cases hk:t3.k=1
      ·rw[if_pos hk]at hg;refine jX (b:=0) (az:=[]) (v:=bs t3.s) rfl rfl (fun m b' hh=>Ql hL hsx2 hh hk) jO jO nbY nbY ?_;simp only[ssH,ag,ae,reduceIte,af,ak,ai,aj];exact hnx 9 t3.s [.mk k s nn kids ln] [.agg [it k,bs s,it nn,.sl vs [] tok,it ln]] l3 false _ rfl rfl rfl rfl (by simp only[kZ,weak,lU,exV,hw1,bs]) (by simp only[nbS];exact⟨hw2,hw3⟩) hsx3 (.inr ⟨rfl,hg⟩)
      ·rw[if_neg hk]at hg;simp only[ax]at hg;refine jX (b:=0) (az:=[]) (v:=bs []) rfl rfl (fun m b' hh=>UM hsx2 hh (.inr hk)) jO jO nbY nbY ?_;simp only[ssH,ag,ae,reduceIte,af,ak,ai,aj];exact hnx 9 [] [.mk k s nn kids ln] [.agg [it k,bs s,it nn,.sl vs [] tok,it ln]] (t3::l3) true _ rfl rfl rfl rfl (by simp only[kZ,weak,lU,exV,hw1,bs]) (by simp only[nbS];exact⟨hw2,hw3⟩) hsx2 (.inl ⟨rfl,hg.symm⟩)
   ·refine jX (b:=0) (az:=[bs [91]]) (v:=.val (.bool true)) rfl rfl (fun m b' hh=>oW hL hsx hh hi1) jO jO nbY nbY ?_;simp only[hi1,if_true]at hg;simp only[ssH,ag,ae,reduceIte,af,ak,ai,aj];obtain⟨p2,k2,hs2,hf2⟩:=uo hg;have hsx3:pK p2 <:+ L:=(zD i _ _ _ k2).trans hsx2;refine lZ (b:=0) (az:=[it ((0:Nat):Int)]) rfl rfl (fun m b' hh=>(h i (by omega)).1 0 l2 p2 m b' (by omega) hsx2 hs2 hh k2) jO nbY Ig ?_;rintro v Y ⟨e2,rfl,rfl,hq2⟩;have hf2:=hf2 _ hq2;simp only[H9,EH (v:=.agg [it k,bs s,it nn,.sl vs [] tok,it ln]) (u:=exV e2) rfl (oZ e2),ssH,ag,ae,reduceIte,af,ak,ai,aj];have hv1:kZ [.agg [it k,bs s,it nn,.sl vs [] tok,it ln],exV e2]=lU [.mk k s nn kids ln,e2]:=by simp only[kZ,weak,lU,exV,hw1,uY,bs]
    have hv2:nbs 0 [.agg [it k,bs s,it nn,.sl vs [] tok,it ln],exV e2]:=by
     simp only[nbS];exact⟨⟨hw2,hw3⟩,zl e2⟩
    rcases hf2 with ⟨hbad,hqq⟩|⟨hgood,hqq⟩
    ·obtain⟨t2,l3,rfl⟩:=XO k2 hbad;simp only[pK,Df]at hsx3 hqq ⊢;refine jX (b:=0) (az:=[bs [93]]) (v:=.tup []) rfl rfl (fun m b' hh=>vH hsx3 hh rfl) jO jO nbY nbY ?_;simp only[ssH,ag,ae,reduceIte,af,ak,ai,aj];exact hnx 8 [] [.mk k s nn kids ln,e2] _ (t2::l3) true _ rfl rfl rfl rfl hv1 hv2 hsx3 (.inl ⟨rfl,hqq⟩)
    ·rw[hgood];generalize pK p2=l3 at hqq hsx3
     cases l3 with
     |nil=>cases hqq
     |cons t3 l3=>
      have hsx4:l3 <:+ L:=(bG t3 l3).trans hsx3;simp only[mM]at hqq;cases hmm:isS [93] t3
      ·simp only[hmm,aF,if_false,ax]at hqq;refine jX (b:=0) (az:=[bs [93]]) (v:=.tup []) rfl rfl (fun m b' hh=>vH hsx3 hh (by rw[hmm];rfl)) jO jO nbY nbY ?_;simp only[ssH,ag,ae,reduceIte,af,ak,ai,aj];exact hnx 8 [] [.mk k s nn kids ln,e2] _ (t3::l3) true _ rfl rfl rfl rfl hv1 hv2 hsx3 (.inl ⟨rfl,hqq.symm⟩)
      ·simp only[hmm,if_true]at hqq;refine jX (b:=0) (az:=[bs [93]]) (v:=.tup []) rfl rfl (fun m b' hh=>EI hL hsx3 hh hmm) jO jO nbY nbY ?_;simp only[ssH,ag,ae,reduceIte,af,ak,ai,aj];exact hnx 8 [] [.mk k s nn kids ln,e2] _ l3 false _ rfl rfl rfl rfl hv1 hv2 hsx4 (.inr ⟨rfl,hqq⟩)
theorem zkb{t:Tk}(h4:t.k≠4)(h5:t.k≠5)(s:List UInt8):isS s t=false:=by
 simp[isS,h4,h5]
section
variable {Γ:jI} {m:Store} {rb n:Nat} {L l:List Tk} {t:Tk} {s:List UInt8} {one:Bool} {p:PR}
theorem Qm(hs:t::l <:+ L)(hr:m rb=some (rdS L (t::l) true)) :
  jB Tryz.prog Γ 232 [.ptr rb 0,bs s,.val (.bool one)] m fun o m'=>∃ v Y,o = .ret v∧m'=m.set rb Y∧KL L (.st (t::l)) v Y:=by
 refine BJ mixed Y6 zdM jY hr jO nbY ?_;simp only[zfE,ss0,aC,ag];simp only[ssH,ag,ae,reduceIte,af,ak,ai,aj];cases one
 case' false=>
  simp only[ssH,ag,ae,reduceIte,af,ak,ai,aj];refine kz (b:=0) (az:=[bs s]) (v:=.val (.bool false)) rfl rfl (fun m b' hh=>mX hs hh rfl) jO nbY nbY ?_
 all_goals
  simp only[ssH,ag,ae,reduceIte,af,ak,ai,aj];refine nC [0,1,7] 32 (fun j vs h=>vs=[.ptr 0 0,bs s,.sl [] [] .full]∧h=[some (rdS L (t::l) true)]) 0 (by decide) (by decide) (aK 1) (jZ rfl (by decide) (by decide) (by simp) (by show nbs 1 [.ptr 0 0,bs s,.sl [] [] .full];simp only[nbS];decide) (Xp (.inl ⟨rfl,rfl,rfl⟩) fun k=>jO) ⟨rfl,rfl⟩) ?_;rintro j tt hh J hJ hl2 ⟨hv,rfl⟩;simp only[aZ,aQ,and_true]at hv;obtain⟨h0,h1,h7⟩:=hv;rw[mO hl2];simp only[jW,upTo,h0,h1,h7,rdS,rdR,ssH,ag,ae,reduceIte,af,ak,ai,aj];refine jX (b:=0) (az:=[bs s]) (v:=.tup []) rfl rfl (fun m b' hh=>vH hs hh rfl) jO jO nbY nbY ?_;simp only[ssH,ag,ae,reduceIte,af,ak,ai,aj];exact zcq (gs:=[]) (tok:=.full) rfl rfl (by rintro es l ⟨⟩)
end
theorem OQ{r:Option PR}{k:List Ex→List Tk→Option PR}{p:PR}(h:bindL r k=some p):∃ q,r=some q∧∀ g,(∀ es l,q = .ok es l→g=es)→(Df q=true∧p = .st (pK q)∨Df q=false∧k g (pK q)=some p):=by
 rcases sN h with ⟨es,l1,k1,k2⟩|⟨l1,k1,rfl⟩
 ·exact⟨_,k1,fun g hq=>.inr ⟨rfl,by rw[hq _ _ rfl];exact k2⟩⟩
 ·exact⟨_,k1,fun g hq=>.inl ⟨rfl,rfl⟩⟩
theorem NY{f:BK→List Tk→Option PR}{s:List UInt8}{t:Tk}{l:List Tk}:NZ f s false t l=xG f s (t::l):=by
 simp only[NZ,xG,aN,dH]
theorem zco{f:BK→List Tk→Option PR}{s:List UInt8}{t:Tk}{l:List Tk}:NZ f s true t l=bindL (Ja f (t::l)) fun es l2=>mM s l2 fun l3=>some (.ok es l3):=by
 simp only[NZ,aO,fC,aF,if_false]
theorem zd4{n:Nat}:Ja (run n) []=none:=by
 cases n<;>rfl
theorem zbx{f:BK→List Tk→Option PR}{s:List UInt8}{l:List Tk}{k:List Ex→List Tk→Option PR}{p:PR}(h:(bindL (Ja f l) fun es l2=>mM s l2 fun l3=>k es l3)=some p):∃ q,(bindL (Ja f l) fun es l2=>mM s l2 fun l3=>some (.ok es l3))=some q∧∀ g,(∀ es l,q = .ok es l→g=es)→(Df q=true∧p = .st (pK q)∨Df q=false∧k g (pK q)=some p):=by
 rcases sN h with ⟨es,l1,k1,k2⟩|⟨l1,k1,rfl⟩
 ·rw[k1]
  cases l1 with
  |nil=>cases k2
  |cons t2 l2=>
   simp only[mM,bindL]at k2 ⊢
   split at k2
   ·rename_i hm;rw[if_pos hm];exact⟨_,rfl,fun g hq=>.inr ⟨rfl,by rw[hq _ _ rfl];exact k2⟩⟩
   ·rename_i hm;rw[if_neg hm];cases k2;exact⟨_,rfl,fun g hq=>.inl ⟨rfl,rfl⟩⟩
 ·rw[k1];exact⟨_,rfl,fun g hq=>.inl ⟨rfl,rfl⟩⟩
theorem WG{Γ:jI}{L:List Tk}{n:Nat}(hL:L.length<4611686018427387904)(hn0:n≤1099511627776)(h:∀ k<n,KEx Γ L k):KSi Γ L n:=by
 intro l p m rb hs hp1 hr hp;obtain⟨j,t,l',rfl,rfl,hg⟩:=oh hp;clear hp;simp only[step,Em]at hg;have hs' : l' <:+ L:=(bG t l').trans hs;have hw:∀ (K:Int) (S:List UInt8) (N:Int) (KE:List Ex) (tok:Tok),nbT 0 tok→WX (.mk K S N KE t.l) [it K,bs S,it N,.sl (lU KE) [] tok,it t.l]:=fun K S N KE tok ht=>⟨lU KE,tok,rfl,lL KE,xn KE,ht⟩;have hf:nbT 0 .full:=by rw[AO];trivial
 have hz:nbT 0 .no:=by rw[Jt];trivial
 refine BJ mixed zfK ziT jY hr jO nbY ?_;simp only[ziU,ss0,aC,ag];simp only[ssH,ag,ae,reduceIte,af,ak,ai,aj];refine kz (b:=0) (az:=[]) rfl rfl (fun m b' hh=>vG hs hh) jO nbY (vz t) ?_;simp only[tkV,rdS,rdR,ssH,ag,ae,reduceIte,af,ak,ai,aj]
 by_cases h2:t.k=2
 ·rw[if_pos h2]at hg;simp only[ax]at hg;subst hg;simp only[h2,jQ (show L.length-(l'.length+1)<4611686018427387904 by omega),yz hs,ssH,ag,ae,reduceIte,af,ak,ai,aj];exact xK (hw 1 [] t.n [] .full hf) rfl rfl (by rintro e l ⟨⟩;rfl)
 rw[if_neg h2]at hg;have b2:(t.k==2)=false:=by simpa using h2
 simp only[b2,ssH,ag,ae,reduceIte,af,ak,ai,aj]
 by_cases h3:t.k=3
 ·rw[if_pos h3]at hg;simp only[ax]at hg;subst hg;simp only[h3,jQ (show L.length-(l'.length+1)<4611686018427387904 by omega),yz hs,ssH,ag,ae,reduceIte,af,ak,ai,aj];exact xK (hw 3 t.s 0 [] .full hf) rfl rfl (by rintro e l ⟨⟩;rfl)
 rw[if_neg h3]at hg;have b3:(t.k==3)=false:=by simpa using h3
 simp only[b3,ssH,ag,ae,reduceIte,af,ak,ai,aj]
 by_cases h1:t.k=1
 ·rw[if_pos h1]at hg;have hi:∀ x,isS x t=false:=zkb (by omega) (by omega);refine kz (b:=0) (az:=[bs [116,114,117,101]]) (v:=.val (.bool false)) rfl rfl (fun m b' hh=>mX hs hh (by rw[hi];rfl)) (jO (L:=L)) nbY nbY ?_;simp only[ssH,ag,ae,reduceIte,af,ak,ai,aj];refine kz (b:=0) (az:=[bs [102,97,108,115,101]]) (v:=.val (.bool false)) rfl rfl (fun m b' hh=>mX hs hh (by rw[hi];rfl)) (jO (L:=L)) nbY nbY ?_;simp only[ssH,ag,ae,reduceIte,af,ak,ai,aj];refine kz (b:=0) (az:=[bs [110,101,119]]) (v:=.val (.bool false)) rfl rfl (fun m b' hh=>mX hs hh (by rw[hi];rfl)) (jO (L:=L)) nbY nbY ?_;simp only[ssH,ag,ae,reduceIte,af,ak,ai,aj];refine kz (b:=0) (az:=[bs [91]]) (v:=.val (.bool false)) rfl rfl (fun m b' hh=>mX hs hh (by rw[hi];rfl)) (jO (L:=L)) nbY nbY ?_;simp only[ssH,ag,ae,reduceIte,af,ak,ai,aj];refine kz (b:=0) (az:=[bs [40]]) (v:=.val (.bool false)) rfl rfl (fun m b' hh=>mX hs hh (by rw[hi];rfl)) (jO (L:=L)) nbY nbY ?_;simp only[ssH,ag,ae,reduceIte,af,ak,ai,aj];simp only[h1,jQ (show L.length-(l'.length+1)<4611686018427387904 by omega),yz hs,ssH,ag,ae,reduceIte,af,ak,ai,aj]
  cases l' with
  |nil=>cases hg
  |cons t2 l2=>
   simp only[QP]at hg;have hs2:l2 <:+ L:=(bG t2 l2).trans hs';cases hp2:isS [40] t2
   ·simp only[hp2,aF,if_false,ax]at hg;subst hg;refine kz (b:=0) (az:=[bs [40]]) (v:=.val (.bool false)) rfl rfl (fun m b' hh=>mX hs' hh (by rw[hp2];rfl)) (jO (L:=L)) nbY nbY ?_;simp only[ssH,ag,ae,reduceIte,af,ak,ai,aj];exact xK (hw 4 t.s 0 [] .full hf) rfl rfl (by rintro e l ⟨⟩;rfl)
   ·simp only[hp2,if_true]at hg;refine jX (b:=0) (az:=[bs [40]]) (v:=.val (.bool true)) rfl rfl (fun m b' hh=>oW hL hs' hh hp2) (jO (L:=L)) jO nbY nbY ?_;simp only[ssH,ag,ae,reduceIte,af,ak,ai,aj]
    cases l2 with
    |nil=>cases hg
    |cons t3 l3=>
     obtain⟨q,hq,hq2⟩:=OQ hg;refine lZ (b:=0) (az:=[bs [41],.val (.bool false)]) rfl rfl (fun m b' hh=>N9 (n:=j) (t:=t3) (l:=l3) (s:=[41]) (one:=false) (p:=q) hL (by omega) (fun k hk=>h k (by omega)) hs2 hh (by rw[NY];exact hq)) (jO (L:=L)) nbY UL ?_;rintro v Y ⟨es,rfl,rfl,hq3⟩;have hq2:=hq2 _ hq3;simp only[ssH,ag,ae,reduceIte,af,ak,ai,aj]
     rcases hq2 with ⟨hb,rfl⟩|⟨hb,hpp⟩
     ·exact xK (hw 5 t.s 0 es .no hz) rfl (by rw[hb];rfl) (by rintro e l ⟨⟩)
     ·simp only[ax]at hpp;subst hpp;exact xK (hw 5 t.s 0 es .no hz) rfl (by rw[hb];rfl) (by rintro e l ⟨⟩;rfl)
 rw[if_neg h1]at hg;have b1:(t.k==1)=false:=by simpa using h1
 by_cases h_true:isS [116,114,117,101] t=true
 ·rw[if_pos h_true]at hg;simp only[ax]at hg;subst hg;refine jX (b:=0) (az:=[bs [116,114,117,101]]) (v:=.val (.bool true)) rfl rfl (fun m b' hh=>oW hL hs hh h_true) (jO (L:=L)) jO nbY nbY ?_;simp only[ssH,ag,ae,reduceIte,af,ak,ai,aj];exact xK (hw 2 [] 1 [] .full hf) rfl rfl (by rintro e l ⟨⟩;rfl)
 rw[if_neg h_true]at hg;refine kz (b:=0) (az:=[bs [116,114,117,101]]) (v:=.val (.bool false)) rfl rfl (fun m b' hh=>mX hs hh (by rw[Bool.eq_false_iff.2 h_true];rfl)) (jO (L:=L)) nbY nbY ?_;simp only[ssH,ag,ae,reduceIte,af,ak,ai,aj]
 by_cases h_false:isS [102,97,108,115,101] t=true
 ·rw[if_pos h_false]at hg;simp only[ax]at hg;subst hg;refine jX (b:=0) (az:=[bs [102,97,108,115,101]]) (v:=.val (.bool true)) rfl rfl (fun m b' hh=>oW hL hs hh h_false) (jO (L:=L)) jO nbY nbY ?_;simp only[ssH,ag,ae,reduceIte,af,ak,ai,aj];exact xK (hw 2 [] 0 [] .full hf) rfl rfl (by rintro e l ⟨⟩;rfl)
 rw[if_neg h_false]at hg;refine kz (b:=0) (az:=[bs [102,97,108,115,101]]) (v:=.val (.bool false)) rfl rfl (fun m b' hh=>mX hs hh (by rw[Bool.eq_false_iff.2 h_false];rfl)) (jO (L:=L)) nbY nbY ?_;simp only[ssH,ag,ae,reduceIte,af,ak,ai,aj]
 by_cases h_new:isS [110,101,119] t=true
 ·rw[if_pos h_new]at hg;refine jX (b:=0) (az:=[bs [110,101,119]]) (v:=.val (.bool true)) rfl rfl (fun m b' hh=>oW hL hs hh h_new) (jO (L:=L)) jO nbY nbY ?_;simp only[ssH,ag,ae,reduceIte,af,ak,ai,aj]
  cases l' with
  |nil=>cases hg
  |cons t2 l2=>
   have hs2:l2 <:+ L:=(bG t2 l2).trans hs';simp only[Dk]at hg
   by_cases hk:t2.k=1
   ·rw[if_pos hk]at hg;refine jX (b:=0) (az:=[]) (v:=bs t2.s) rfl rfl (fun m b' hh=>Ql hL hs' hh hk) (jO (L:=L)) jO nbY nbY ?_;simp only[ssH,ag,ae,reduceIte,af,ak,ai,aj]
    cases l2 with
    |nil=>cases hg
    |cons t3 l3=>
     have hs3:l3 <:+ L:=(bG t3 l3).trans hs2;simp only[mM]at hg;cases hm:isS [40] t3
     ·simp only[hm,aF,if_false,ax]at hg;subst hg;refine jX (b:=0) (az:=[bs [40]]) (v:=.tup []) rfl rfl (fun m b' hh=>vH hs2 hh (by rw[hm];rfl)) (jO (L:=L)) jO nbY nbY ?_;simp only[ssH,ag,ae,reduceIte,af,ak,ai,aj];refine lZ (b:=0) (az:=[bs [41],.val (.bool false)]) rfl rfl (fun m b' hh=>Qm (s:=[41]) (one:=false) hs2 hh) (jO (L:=L)) nbY UL ?_;rintro v Y ⟨es,rfl,rfl,hq3⟩;simp only[ssH,ag,ae,reduceIte,af,ak,ai,aj];exact xK (hw 11 t2.s 0 es .no hz) rfl rfl (by rintro e l ⟨⟩)
     ·simp only[hm,if_true]at hg;refine jX (b:=0) (az:=[bs [40]]) (v:=.tup []) rfl rfl (fun m b' hh=>EI hL hs2 hh hm) (jO (L:=L)) jO nbY nbY ?_;simp only[ssH,ag,ae,reduceIte,af,ak,ai,aj]
      cases l3 with
      |nil=>cases hg
      |cons t4 l4=>
       obtain⟨q,hq,hq2⟩:=OQ hg;refine lZ (b:=0) (az:=[bs [41],.val (.bool false)]) rfl rfl (fun m b' hh=>N9 (n:=j) (t:=t4) (l:=l4) (s:=[41]) (one:=false) (p:=q) hL (by omega) (fun k hk=>h k (by omega)) hs3 hh (by rw[NY];exact hq)) (jO (L:=L)) nbY UL ?_;rintro v Y ⟨es,rfl,rfl,hq3⟩;have hq2:=hq2 _ hq3;simp only[ssH,ag,ae,reduceIte,af,ak,ai,aj]
       rcases hq2 with ⟨hb,rfl⟩|⟨hb,hpp⟩
       ·exact xK (hw 11 t2.s 0 es .no hz) rfl (by rw[hb];rfl) (by rintro e l ⟨⟩)
       ·simp only[ax]at hpp;subst hpp;exact xK (hw 11 t2.s 0 es .no hz) rfl (by rw[hb];rfl) (by rintro e l ⟨⟩;rfl)
   ·rw[if_neg hk]at hg;simp only[ax]at hg;subst hg;refine jX (b:=0) (az:=[]) (v:=bs []) rfl rfl (fun m b' hh=>UM hs' hh (.inr hk)) (jO (L:=L)) jO nbY nbY ?_;simp only[ssH,ag,ae,reduceIte,af,ak,ai,aj];refine jX (b:=0) (az:=[bs [40]]) (v:=.tup []) rfl rfl (fun m b' hh=>vH hs' hh rfl) (jO (L:=L)) jO nbY nbY ?_;simp only[ssH,ag,ae,reduceIte,af,ak,ai,aj];refine lZ (b:=0) (az:=[bs [41],.val (.bool false)]) rfl rfl (fun m b' hh=>Qm (s:=[41]) (one:=false) hs' hh) (jO (L:=L)) nbY UL ?_;rintro v Y ⟨es,rfl,rfl,hq3⟩;simp only[ssH,ag,ae,reduceIte,af,ak,ai,aj];exact xK (hw 11 [] 0 es .no hz) rfl rfl (by rintro e l ⟨⟩)
 rw[if_neg h_new]at hg;refine kz (b:=0) (az:=[bs [110,101,119]]) (v:=.val (.bool false)) rfl rfl (fun m b' hh=>mX hs hh (by rw[Bool.eq_false_iff.2 h_new];rfl)) (jO (L:=L)) nbY nbY ?_;simp only[ssH,ag,ae,reduceIte,af,ak,ai,aj]
 by_cases h_br:isS [91] t=true
 ·rw[if_pos h_br]at hg;refine jX (b:=0) (az:=[bs [91]]) (v:=.val (.bool true)) rfl rfl (fun m b' hh=>oW hL hs hh h_br) (jO (L:=L)) jO nbY nbY ?_;simp only[ssH,ag,ae,reduceIte,af,ak,ai,aj]
  cases l' with
  |nil=>exact absurd hg (by rw[zd4];simp[bindL])
  |cons t2 l2=>
   obtain⟨q,hq,hq2⟩:=zbx hg;refine lZ (b:=0) (az:=[bs [93],.val (.bool true)]) rfl rfl (fun m b' hh=>N9 (n:=j) (t:=t2) (l:=l2) (s:=[93]) (one:=true) (p:=q) hL (by omega) (fun k hk=>h k (by omega)) hs' hh (by rw[zco];exact hq)) (jO (L:=L)) nbY UL ?_;rintro v Y ⟨es,rfl,rfl,hq3⟩;have hq2:=hq2 _ hq3;simp only[ssH,ag,ae,reduceIte,af,ak,ai,aj]
   rcases hq2 with ⟨hb,rfl⟩|⟨hb,hpp⟩
   ·exact xK (hw 10 [] 0 es .no hz) rfl (by rw[hb];rfl) (by rintro e l ⟨⟩)
   ·simp only[ax]at hpp;subst hpp;exact xK (hw 10 [] 0 es .no hz) rfl (by rw[hb];rfl) (by rintro e l ⟨⟩;rfl)
 rw[if_neg h_br]at hg;refine kz (b:=0) (az:=[bs [91]]) (v:=.val (.bool false)) rfl rfl (fun m b' hh=>mX hs hh (by rw[Bool.eq_false_iff.2 h_br];rfl)) (jO (L:=L)) nbY nbY ?_;simp only[ssH,ag,ae,reduceIte,af,ak,ai,aj]
 by_cases h_pa:isS [40] t=true
 ·rw[if_pos h_pa]at hg;refine jX (b:=0) (az:=[bs [40]]) (v:=.val (.bool true)) rfl rfl (fun m b' hh=>oW hL hs hh h_pa) (jO (L:=L)) jO nbY nbY ?_;simp only[ssH,ag,ae,reduceIte,af,ak,ai,aj];obtain⟨p1,k1,hs1,hf1⟩:=uo hg;have hsx:pK p1 <:+ L:=(zD j _ _ _ k1).trans hs';refine lZ (b:=0) (az:=[it ((0:Nat):Int)]) rfl rfl (fun m b' hh=>h j (by omega) 0 l' p1 m b' (by omega) hs' hs1 hh k1) (jO (L:=L)) nbY Ig ?_;rintro v Y ⟨⟨K,S,N,KE,ln⟩,rfl,rfl,hq1⟩;have hf1:=hf1 _ hq1;have hwx:=IZ (.mk K S N KE ln);simp only[exV,ssH,ag,ae,reduceIte,af,ak,ai,aj]
  rcases hf1 with ⟨hbad,rfl⟩|⟨hgood,hpp⟩
  ·obtain⟨t2,l2,rfl⟩:=XO k1 hbad;simp only[pK,Df]at hsx ⊢;refine jX (b:=0) (az:=[bs [41]]) (v:=.tup []) rfl rfl (fun m b' hh=>vH hsx hh rfl) (jO (L:=L)) jO nbY nbY ?_;simp only[ssH,ag,ae,reduceIte,af,ak,ai,aj];exact xK hwx rfl rfl (by rintro e l ⟨⟩)
  ·rw[hgood];generalize pK p1=l2 at hpp hsx
   cases l2 with
   |nil=>cases hpp
   |cons t2 l2=>
    simp only[mM]at hpp;cases hm:isS [41] t2
    ·simp only[hm,aF,if_false,ax]at hpp;subst hpp;refine jX (b:=0) (az:=[bs [41]]) (v:=.tup []) rfl rfl (fun m b' hh=>vH hsx hh (by rw[hm];rfl)) (jO (L:=L)) jO nbY nbY ?_;simp only[ssH,ag,ae,reduceIte,af,ak,ai,aj];exact xK hwx rfl rfl (by rintro e l ⟨⟩)
    ·simp only[hm,if_true,ax]at hpp;subst hpp;refine jX (b:=0) (az:=[bs [41]]) (v:=.tup []) rfl rfl (fun m b' hh=>EI hL hsx hh hm) (jO (L:=L)) jO nbY nbY ?_;simp only[ssH,ag,ae,reduceIte,af,ak,ai,aj];exact xK hwx rfl rfl (by rintro e l ⟨⟩;rfl)
 rw[if_neg h_pa]at hg;refine kz (b:=0) (az:=[bs [40]]) (v:=.val (.bool false)) rfl rfl (fun m b' hh=>mX hs hh (by rw[Bool.eq_false_iff.2 h_pa];rfl)) (jO (L:=L)) nbY nbY ?_;simp only[ssH,ag,ae,reduceIte,af,ak,ai,aj];simp only[ax]at hg;subst hg;simp only[b1,ssH,ag,ae,reduceIte,af,ak,ai,aj];exact xK (hw 0 [] 0 [] .full hf) rfl rfl (by rintro e l ⟨⟩)
end Go.Av.Fn
namespace Go.Av
section
variable {P:Program} {Γ:jI} {Kp:V→Hl→Prop} {t:List V} {h:Hl}
theorem zcN{mx:Bool}{xs:List Operand}{m:Store}:jJ P (ev Γ t) m (.mm mx xs)=mmV mx (xs.map (ev Γ t)):=rfl
end
end Go.Av
namespace Go.Av.Fn
open Go.Proofs
theorem zbw{Γ:jI}{L:List Tk}(hL:L.length<4611686018427387904):∀ n,n≤1099511627776→KEx Γ L n∧KUn Γ L n∧KSi Γ L n:=by
 intro n
 induction n using Nat.strongRecOn with
 |_ n ih=>
  intro hn;have h:∀ k<n,KEx Γ L k∧KUn Γ L k∧KSi Γ L k:=fun k hk=>ih k hk (by omega);exact⟨zcA hL fun k hk=>⟨(h k hk).1,(h k hk).2.1⟩,zab hL h,WG hL hn fun k hk=>(h k hk).1⟩
theorem Qn{Γ:jI}:∀ (N:Nat) (e:Ex) (m:Store),lX e≤N→N≤1099511627776→jB Tryz.prog Γ 178 [exV e] m fun o m'=>o = .ret (it (qJ e))∧m'=m
 |0,e,m,h,_=>by
  obtain⟨k,s,n,kids,l⟩:=e;simp only[lX]at h;omega
 |N+1,e,m,h,hN=>by
  have hex:=zl (k:=0) e;obtain⟨k,s,n,kids,l⟩:=e;simp only[lX]at h;have hle:=Cj kids;refine kJ (kM mixed zf1 zi1 jY (by rw[tK];exact⟨hex,by rw[xX];trivial⟩) ?_);simp only[zi2,exV,ss0,aC,ag];simp only[ssH,ag,ae,reduceIte,af,ak,ai,aj]
  have hB:nbB 1 (.var 206 [it k,bs s,it n,.sl (lU kids) [] .no,it l]):=by
   simp only[nbS];exact xn kids
  have hB1:∀ a<1,∀ x,lk [some (.var 206 [it k,bs s,it n,.sl (lU kids) [] .no,it l])] a=some x→nbB 1 x:=by
   intro a ha x hx;have:a=0:=by omega
   subst this;cases hx;exact hB
  refine nC [1,3,4] 22 (fun j vs h=>∃ i:Nat,vs=[.ptr 0 0,it (depths (kids.take i)),it i]∧h=[some (.var 206 [it k,bs s,it n,.sl (lU kids) [] .no,it l])]∧i+j=kids.length) kids.length (by decide) (by decide) (aK 1) (jZ rfl (by decide) (by decide) (by simp) (by show nbs 1 [.ptr 0 0,it (0:Nat),it (0:Nat)];simp only[nbS];decide) hB1 ⟨0,rfl,rfl,by omega⟩) ?_;rintro j tt hh J hJ hl2 ⟨i,hv,rfl,hij⟩;simp only[aZ,aQ,and_true]at hv;obtain⟨h1,h3,h4⟩:=hv;rw[mO hl2];simp only[jW,upTo,h1,h3,h4,ssH,ag,ae,reduceIte,af,ak,ai,aj]
  by_cases hlt:i<kids.length
  ·have hget:kids[i]? = some kids[i]:=aI hlt;generalize kids[i]=ei at hget
   have hsz:lX ei≤N:=by
    have:=MS (bI hget);omega
   have hei:=zl (k:=0) ei;obtain⟨k2,s2,n2,kids2,l2⟩:=ei;rw[xy,show decide ((i:Int)<(kids.length:Int))=true by simp;omega];simp only[zcK rfl hget,ssH,ag,ae,reduceIte,af,ak,ai,aj];refine jE (v:=it (qJ (.mk k2 s2 n2 kids2 l2))) (by exact fun m=>Qn N (.mk k2 s2 n2 kids2 l2) m hsz (by omega)) (by show nbs 0 [exV (.mk k2 s2 n2 kids2 l2)];rw[tK];exact⟨hei,by rw[xX];trivial⟩) nbY ?_;simp only[zcN,V9,Jw,jQ (show i<4611686018427387904 by omega),ssH,ag,ae,reduceIte,af,ak,ai,aj];refine⟨_,hJ (j-1) (aK 1) _ (by omega) (jZ rfl (by decide) (by decide) (by simp) (by simp only[aZ,jL,jM,nbS];decide) hB1 ⟨i+1,?_,rfl,by omega⟩)⟩;simp only[aZ,jL,jM,aQ,and_true,true_and];show it _=it _;congr 2;rw[bg,hget,zY];simp only[gz,depths];omega
  ·have hge:i=kids.length:=by omega
   have hd:=yf kids;rw[xy,show decide ((i:Int)<(kids.length:Int))=false by simp;omega]
   have hw:IntKind.i64.wrap ((depths (kids.take i):Int)+1)=((qJ (.mk k s n kids l):Nat):Int):=by
    rw[hge,bK,wrap_i64 (by omega) (by omega)];simp only[qJ];omega
   simp only[hw,ssH,ag,ae,reduceIte,af,ak,ai,aj];exact jy jC ⟨nbZ,rfl⟩
theorem zcw{Γ:jI}{m:Store}(s:List UInt8):jB Tryz.prog Γ 175 [bs s] m fun o m'=>o = .ret (zC (tC s))∧m'=m:=by
 refine jB.weak (VY s) ?_ ?_
 ·rintro v m' ⟨h,rfl⟩;refine⟨?_,rfl⟩;unfold zN at h
  split at h
  ·rename_i l hl;obtain⟨tok,h⟩:=h;cases h;rw[hl];simp only[zC,weak,kZ,I4 XB]
  ·rename_i a e hl;cases h;rw[hl];simp only[zC,weak,kZ]
 ·rintro v m' ⟨h,_⟩;exfalso;unfold zN at h
  split at h
  ·obtain⟨_,h⟩:=h;cases h
  ·cases h
end Go.Av.Fn
namespace Go.Av
section
variable {P:Program} {Γ:jI} {H:Nat→List (Nat×List Nat)×List Nat} {f:FuncId} {F:AFn} {gs:List Nat} {m:Store}
theorem zaT(hm:P.follows .mixedOrders=true)(hF:qK P H f=some F)(hok:F.body.okH gs=true)(hG:GOk Γ gs){args:List V}(ha:nbs 0 args){Qv:V→Prop}
  (h:qy P Γ (fun _ _=>False) 0 F.body (uU F.res fun v _=>nb 0 (weak v)∧Qv (weak v)) ⟨start F.ntmps args,[]⟩):jB P Γ f args m fun o m'=>(∃ v,o = .ret v∧Qv v)∧m'=m:=by
 have h1:=tV (P:=P) (Γ:=Γ) (R0:=fun _ _=>False) (N:=0) (m:=fun _=>none) hm hF hok hG (ha.up _) (WU _ (fun _ _ q=>q) _) (fun _ _ q=>q.elim) (Q:=fun o h=>match o with | .ret v=>nb 0 (weak v)∧Qv (weak v) | .pan _=>False) h;have hD:mP (fun _=>none) m:=fun b=>.inl rfl;have e:Store.or (fun _=>none) m=m:=by funext b;rfl
 have h2:=h1.frame hD;rw[e]at h2;refine jB.weak (R:=fun o m'=>(∃ v,o = .ret v∧Qv (weak v))∧m'=m) (jB.less h2 ?_) ?_ ?_
 ·rintro o m'' ⟨m',rfl,d,S,o0,h',s1,s2,s3,s4⟩;refine⟨m,?_,?_,rfl⟩
  ·intro b x hb
   rcases d b with q|q
   ·simp only[Store.or,q];exact hb
   ·rw[q]at hb;cases hb
  ·cases o0 with
   |ret v=>
    cases o with
    |ret v' =>
     have e3:weak v'=weak v:=DR s4.1 (VR.wk s3);exact⟨v',rfl,by rw[e3];exact s4.2⟩
    |pan v'=>exact s3.elim
   |pan v=>exact s4.elim
 ·rintro v m' ⟨⟨v',e9,q⟩,h9⟩;cases e9;exact⟨⟨_,rfl,q⟩,h9⟩
 ·rintro v m' ⟨⟨v',e9,q⟩,_⟩;cases e9
end
end Go.Av
namespace Go.Av.Fn
open Go.Proofs
theorem zb9{k:Nat}(r:Except (Nat×Int) (List Tk)):nb k (zC r):=by
 cases r with
 |ok l=>
  simp only[zC,nbS];exact tZ (fun t=>vz t) l
 |error x=>
  obtain⟨a,e⟩:=x;simp only[zC,nbS]
theorem Eg{a e:Int}:weak (.tup [.agg zX,it a,it e])=zx (none,a,e):=by
 simp only[weak,kZ,zx,exO,exV,lU,zX,bs]
theorem X8{k:Nat}(r:Option Ex×Int×Int):nb k (zx r):=by
 obtain⟨x,a,e⟩:=r
 cases x with
 |none=>
  simp only[zx,exO,nbS];exact zl _
 |some g=>
  simp only[zx,exO,nbS];exact zl _
theorem rd0(L:List Tk):Blk.var 226 [.sl (L.map tkV) [] .no,it 0,.val (.bool false)]=rdS L L false:=by
 simp[rdS,rdR]
theorem zc9{s:List UInt8}{t:List V}{h:Hl}{v:V}{rs:List oQ}(hv:resV rs ⟨t,lk h⟩=some v)(e:weak v=zx (qA s)):uU rs (fun v _=>nb 0 (weak v)∧weak v=zx (qA s)) .ret ⟨t,h⟩:=
 jy hv ⟨by rw[e];exact X8 _,e⟩
theorem zbI{Γ:jI}{m:Store}(s:List UInt8):jB Tryz.prog Γ 162 [bs s] m fun o m'=>o = .ret (zx (qA s))∧m'=m:=by
 refine kJ (zaT mixed zgb zja jY nbY ?_);simp only[zjb,ss0,aC,ag];simp only[ssH,ag,ae,reduceIte,af,ak,ai,aj];refine jE (v:=zC (tC s)) (by exact fun m=>zcw s) nbY (zb9 _) ?_
 cases hsc:tC s with
 |error x=>
  obtain⟨a,e⟩:=x;have hne:=Ua hsc
  have hE:qA s=(none,(a:Int),e):=by
   simp[qA,qC,hsc,hne]
  have hb:(e != 0)=true:=by simpa using hne
  simp only[zC,ssH,ag,ae,reduceIte,af,ak,ai,aj];simp only[hb,ssH,ag,ae,reduceIte,af,ak,ai,aj];refine zc9 (v:=.tup [.agg zX,it a,it e]) rfl (by rw[hE];exact Eg)
 |ok L=>
  simp only[zC,ssH,ag,ae,reduceIte,af,ak,ai,aj];rw[rd0];obtain⟨p,hp,hsg,hfit⟩:=MX (Fz hsc);have hlen:=I9 hsc;refine lZ (b:=1) (az:=[it ((0:Nat):Int)]) rfl rfl (fun m b' hh=>(zbw (Γ:=Γ) (L:=L) (by omega) (10*L.length+9) (by omega)).1 0 L p m b' (by omega) dA hsg hh hp) jO nbY Ig ?_;rintro v Y ⟨⟨k,s',nn,kids,ln⟩,rfl,rfl,hq⟩;have hsx:pK p <:+ L:=zD _ _ _ _ hp
  cases p with
  |st l1=>
   obtain⟨tk,l2,rfl⟩:=hfit.1.ne;simp only[pK,Df]at hsx ⊢
   have hE:qA s=(none,tk.a,6):=by
    simp[qA,qC,hsc,DF,hp]
   simp only[exV,rdS,rdR,ssH,ag,ae,reduceIte,af,ak,ai,aj];refine kz (b:=1) (az:=[]) rfl rfl (fun m b' hh=>vG hsx hh) (jO (L:=L)) nbY (vz tk) ?_;simp only[tkV,ssH,ag,ae,reduceIte,af,ak,ai,aj];refine zc9 (v:=.tup [.agg zX,it tk.a,it 6]) rfl (by rw[hE];exact Eg)
  |ok es l1=>
   obtain⟨tk,l2,rfl⟩:=hfit.1.ne;obtain⟨e,rfl⟩:=hsg;have he:Ex.mk k s' nn kids ln=e:=hq _ _ rfl;subst he;simp only[pK,Df]at hsx ⊢;simp only[exV,rdS,rdR,ssH,ag,ae,reduceIte,af,ak,ai,aj];refine kz (b:=1) (az:=[]) rfl rfl (fun m b' hh=>vG hsx hh) (jO (L:=L)) nbY (vz tk) ?_;simp only[tkV,ssH,ag,ae,reduceIte,af,ak,ai,aj]
   by_cases hk:tk.k=0
   ·have hR:qC s=(some (.mk k s' nn kids ln),0,0):=by
     simp[qC,hsc,DF,hp,hk]
    have hsz:=Nu hR;simp only[hk,ssH,ag,ae,reduceIte,af,ak,ai,aj];refine jE (v:=it (qJ (.mk k s' nn kids ln))) (by exact fun m=>Qn 4097 (.mk k s' nn kids ln) m hsz (by omega)) (by show nbs 0 [exV (.mk k s' nn kids ln)];rw[tK];exact⟨zl _,by rw[xX];trivial⟩) nbY ?_;simp only[ssH,ag,ae,reduceIte,af,ak,ai,aj]
    by_cases hd:qJ (.mk k s' nn kids ln)>24
    ·have hE:qA s=(none,0,7):=by
      simp[qA,hR,hd]
     rw[show decide ((24:Int)<(qJ (.mk k s' nn kids ln):Int))=true by simp;omega];simp only[ssH,ag,ae,reduceIte,af,ak,ai,aj];refine zc9 (v:=.tup [.agg zX,it 0,it 7]) rfl (by rw[hE];exact Eg)
    ·have hE:qA s=(some (.mk k s' nn kids ln),0,0):=by
      simp[qA,hR,hd]
     rw[show decide ((24:Int)<(qJ (.mk k s' nn kids ln):Int))=false by simp;omega];simp only[ssH,ag,ae,reduceIte,af,ak,ai,aj];refine zc9 (v:=.tup [exV (.mk k s' nn kids ln),it 0,it 0]) rfl (by rw[hE];simp only[weak,kZ,zx,exO,uY])
   ·have hE:qA s=(none,tk.a,6):=by
     simp[qA,qC,hsc,DF,hp,hk]
    have hb:(tk.k != 0)=true:=by simpa using hk
    simp only[hb,ssH,ag,ae,reduceIte,af,ak,ai,aj];refine kz (b:=1) (az:=[]) rfl rfl (fun m b' hh=>vG hsx hh) (jO (L:=L)) nbY (vz tk) ?_;simp only[tkV,ssH,ag,ae,reduceIte,af,ak,ai,aj];refine zc9 (v:=.tup [.agg zX,it tk.a,it 6]) rfl (by rw[hE];exact Eg)
end Go.Av.Fn
namespace Go.Av.Fn
open Go.Lib
theorem zam:forms.length=18:=rfl
theorem Nk{k n:Int}{t:List UInt8}(h:lN k n t=true):lT k≠mf∧((lT k).n=false→n=0)∧((lT k).s=false→t=[])∧0≤n∧n≤4294967296:=by
 have hl:=PT h;unfold lN at h
 split at h
 ·cases h
 ·rename_i hc;simp only[dm,aG,decide_eq_true_eq,fA,bne_iff_ne,not_or,not_and,Bool.not_eq_false,beq_eq_false_iff_ne]at hc;obtain⟨⟨⟨⟨c1,c2⟩,c3⟩,c4⟩,c5⟩:=hc;refine⟨c1,fun hn => ?_,fun hs => ?_,hl.2.1,hl.2.2⟩
  ·have:=c2 hn
   simpa using this
  ·have:=c3 hs
   simpa using this
theorem Ov{k:Int}(h:lT k≠mf):∃ j:Nat,k=j∧1≤j∧j<18:=by
 unfold lT at h
 split at h
 ·exact absurd rfl h
 ·rename_i hk
  cases hg:forms[k.toNat]? with
  |none=>rw[hg]at h;exact absurd rfl h
  |some f=>
   have hlt:=(List.getElem?_eq_some_iff.1 hg).1;rw[zam]at hlt;refine⟨k.toNat,by omega,?_,hlt⟩
   by_cases e:k.toNat=0
   ·rw[hg]at h;rw[e]at hg;cases hg;exact absurd rfl h
   ·omega
end Go.Av.Fn
namespace Go.Av.Fn
open Go.Proofs
def zdK(Γ:jI):Prop:=∀ n:Int,-9223372036854775808≤n→n≤9223372036854775807→zdJ Γ n
theorem zdK.num{Γ:jI}(h:zdK Γ)(s:List UInt8):zib Γ s:=by
 intro n hn;have:=Lib.parseIntB_bounds hn;exact h n (by have:=this.1;simpa using this) (by have:=this.2;simp at this;omega)
theorem zfb(xo yo:Operand)(k n k' n':Int)(s s':List UInt8):kX Tryz.prog .neq 40 .other xo yo (.agg [it k,it n,bs s]) (.agg [it k',it n',bs s'])=some (.val (.bool (!decide (k=k' ∧ n=n' ∧ s=s')))):=by
 have h := (PI (P := Tryz.prog) (T := 40) (xo := xo) (yo := yo) (cs := [it k,it n,bs s]) (cs' := [it k',it n',bs s'])
  (xs:=[.int .i64 k,.int .i64 n,.string ⟨s.toArray⟩]) (ys:=[.int .i64 k',.int .i64 n',.string ⟨s'.toArray⟩])
  (r:=(k==k'&&(n==n'&&((ByteArray.mk s.toArray).toList==(ByteArray.mk s'.toArray).toList&&true))))
  (by kernel_rfl) (by kernel_rfl) (by kernel_rfl) rfl rfl (by kernel_rfl)).2
 have e:(k==k'&&(n==n'&&((ByteArray.mk s.toArray).toList==(ByteArray.mk s'.toArray).toList&&true)))=decide (k=k' ∧ n=n' ∧ s=s'):=by
  rw[qY,qY,dw];simp
 rw[e]at h;exact h
theorem zb7(a b:Int)(c:List UInt8):nbs 0 [.agg [it a,it b,bs c]]:=zb6 a b c
def Dp(k n:Int)(s:List UInt8):Bool:=decide (lT k≠mf)&&((lT k).n||n==0)&&((lT k).s||s==[])
theorem Ae{P:Program}{T:TypeId}{xo yo:Operand}{s:List UInt8}:kX P .eql T .other xo yo (bs s) (.val (.string (ByteArray.mk #[])))=some (.val (.bool (s==[]))):=zu (x:=s) (y:=[])
theorem JP{P:Program}{T:TypeId}{xo yo:Operand}{s:List UInt8}:kX P .neq T .other xo yo (bs s) (.val (.string (ByteArray.mk #[])))=some (.val (.bool (!(s==[])))):=zt (x:=s) (y:=[])
theorem UD(k n:Int)(s:List UInt8):nbs 0 [Ac k n s]:=by
 simp only[Yb,nbS]
section
variable {Γ:jI} {m:Store}
theorem Kr(s:List UInt8):jB Tryz.prog Γ 141 [bs s] m fun o m'=>o = .ret (.val (.bool (o6 s)))∧m'=m:=by
 refine kJ (kM mixed zgq zjm jY nbY ?_);simp only[zjn,ss0,aC,ag];simp only[ssH,ag,ae,reduceIte,af,ak,ai,aj];refine jE (by exact fun m=>zbI s) nbY (X8 _) ?_
 obtain⟨k,s',nn,kids,ln,he⟩:∃ k s' nn kids ln,exO (qA s).1=exV (.mk k s' nn kids ln):=by
  cases (qA s).1 with
  |none=>exact⟨0,[],0,[],0,rfl⟩
  |some e=>
   obtain⟨k,s',nn,kids,ln⟩:=e;exact⟨k,s',nn,kids,ln,rfl⟩
 simp only[zx,he,exV,ssH,ag,ae,reduceIte,af,ak,ai,aj];cases h0:((qA s).2.2==0)
 ·simp only[ssH,ag,ae,reduceIte,af,ak,ai,aj];exact jy jC ⟨nbZ,by simp[jS,o6,h0];try omega⟩
 ·simp only[ssH,ag,ae,reduceIte,af,ak,ai,aj];exact jy jC ⟨nbZ,by simp[jS,o6,h0];try omega⟩
theorem zcz(k n:Int)(s:List UInt8):jB Tryz.prog Γ 140 [Ac k n s] m fun o m'=>o = .ret (.val (.bool (Dp k n s)))∧m'=m:=by
 refine kJ (kM mixed zgr zjo jY (UD _ _ _) ?_);simp only[zjq,Ac,ss0,aC,ag];simp only[ssH,ag,ae,reduceIte,af,ak,ai,aj]
 by_cases hk:1≤k∧k≤17
 ·have:k=1∨k=2∨k=3∨k=4∨k=5∨k=6∨k=7∨k=8∨k=9∨k=10∨k=11∨k=12∨k=13∨k=14∨k=15∨k=16∨k=17:=by omega
  rcases this with rfl|rfl|rfl|rfl|rfl|rfl|rfl|rfl|rfl|rfl|rfl|rfl|rfl|rfl|rfl|rfl|rfl
  all_goals
   simp only[ge_iff_le,gt_iff_lt,Int.reduceLE,Int.reduceLT,decide_true,decide_false,Ae,ssH,ag,ae,reduceIte,af,ak,ai,aj]
   first
    |exact jy jC ⟨nbZ,by simp[jS,Dp,lT,forms,mf]⟩
    |(cases hn:(n==0)<;>simp only[Ae,ssH,ag,ae,reduceIte,af,ak,ai,aj]<;>exact jy jC ⟨nbZ,by simp[jS,Dp,lT,forms,mf,hn]⟩)
 ·have hno:lT k=mf:=by
   by_cases e:lT k=mf
   ·exact e
   ·obtain⟨j,rfl,h1,h2⟩:=Ov e;omega
  have hq:∀ c:Int,1≤c→c≤17→(k==c)=false:=by
   intro c h1 h2;have:k≠c:=by omega
   simpa using this
  rcases(show k<1∨17<k by omega)with h|h
  ·simp only[ge_iff_le,gt_iff_lt,show decide (1≤k)=false by simp;omega,show decide (12≤k)=false by simp;omega,hq 15 (by decide) (by decide),hq 16 (by decide) (by decide),hq 9 (by decide) (by decide),hq 11 (by decide) (by decide),hq 17 (by decide) (by decide),hq 10 (by decide) (by decide),ssH,ag,ae,reduceIte,af,ak,ai,aj];exact jy jC ⟨nbZ,by simp[jS,Dp,hno]⟩
  ·simp only[ge_iff_le,gt_iff_lt,show decide (1≤k)=true by simp;omega,show decide (12≤k)=true by simp;omega,show decide (k≤8)=false by simp;omega,show decide (k≤14)=false by simp;omega,hq 15 (by decide) (by decide),hq 16 (by decide) (by decide),hq 9 (by decide) (by decide),hq 11 (by decide) (by decide),hq 17 (by decide) (by decide),hq 10 (by decide) (by decide),ssH,ag,ae,reduceIte,af,ak,ai,aj];exact jy jC ⟨nbZ,by simp[jS,Dp,hno]⟩
end
end Go.Av.Fn
namespace Go.Av.Fn
open Go.Proofs Go.Lib
end Go.Av.Fn
namespace Go.Av.Fn
open Go.Proofs Go.Lib
theorem WZ{k n:Int}{s:List UInt8}(h:lN k n s=true):Dp k n s=true:=by
  obtain⟨h1, h2, h3, _, _⟩:=Nk h;unfold Dp
  cases a:(lT k).n<;>cases b:(lT k).s<;>simp[h1]<;>first|exact⟨h2 a, h3 b⟩|exact h2 a|exact h3 b|skip
theorem W9{k n:Int}{s:List UInt8}(h:Dp k n s=true):k=1∨k=2∨k=3∨k=4∨k=5∨k=6∨k=7∨k=8∨k=9∨k=10∨k=11∨k=12∨k=13∨k=14∨k=15∨k=16∨k=17:=by
  unfold Dp at h;simp only[aG, decide_eq_true_eq]at h;obtain⟨j, rfl, h1, h2⟩:=Ov h.1.1;omega
section
variable {Γ:jI} {m:Store}
theorem Nl{b:Bool}{k n:Int}{s:List UInt8}{t:List V}{h:Hl}(ht:jS t 2 = .val (.bool b))(e:lN k n s=b):uU [oQ.tmp 2] (fun v _=>nb 0 v∧v = .val (.bool (lN k n s))) .ret ⟨t, h⟩:=
  jy jC ⟨by rw[show(⟨t, lk h⟩:St).t=t from rfl, ht];exact .val _, by rw[show(⟨t, lk h⟩:St).t=t from rfl, ht, e]⟩
theorem zac(k n:Int)(s:List UInt8):jB Tryz.prog Γ 105 [Ac k n s] m fun o m'=>o = .ret (.val (.bool (lN k n s)))∧m'=m:=by
  refine kJ (kM mixed zgK zjI jY (UD _ _ _) ?_);simp only[zjJ, Ac, ss0, aC, ag];simp only[ssH, ag, ae, reduceIte, af, ak, ai, aj];refine jE (v:=.val (.bool (Dp k n s))) (by exact fun m=>zcz k n s) (zb7 _ _ _) nbY ?_;cases hf:Dp k n s
  · simp only[ssH, ag, ae, reduceIte, af, ak, ai, aj]
    refine Nl rfl ?_;cases hr:lN k n s
    · rfl
    · rw[WZ hr]at hf
      cases hf
  · by_cases hn:0≤n∧n≤4294967296
    · obtain⟨hn1, hn2⟩:=hn
      simp only[gt_iff_lt, show decide (n<0)=false by simp;omega, show decide (4294967296<n)=false by simp;omega, ssH, ag, ae, reduceIte, af, ak, ai, aj]
      rcases W9 hf with rfl|rfl|rfl|rfl|rfl|rfl|rfl|rfl|rfl|rfl|rfl|rfl|rfl|rfl|rfl|rfl|rfl
      all_goals simp only[Dp, lT, forms, mf]at hf
      all_goals simp at hf
      all_goals simp only[ge_iff_le, gt_iff_lt, Ae, ssH, ag, ae, reduceIte, af, ak, ai, aj]
      all_goals first
        | (have hh : n = 0 ∧ s = [] := hf
           obtain⟨rfl, rfl⟩:=hh
           exact Nl rfl (by simp[lN, lT, forms, mf]))
        | (have hv : lN 9 n s = true := by (simp [lN, lT, forms, mf, hf]; omega)
           exact Nl rfl hv)
        | (subst hf
           refine jE (v:=.val (.bool (o6 s))) (by exact fun m=>Kr s) nbY nbY ?_;simp only[ssH, ag, ae, reduceIte, af, ak, ai, aj]
           exact Nl rfl (by simp[lN, lT, forms, mf]))
        | (subst hf
           by_cases h1:1≤n
           · exact Nl (b:=true) (by simp[jS, h1]) (by simp[lN, lT, forms, mf];omega)
           · exact Nl (b:=false) (by simp[jS, h1]) (by simp[lN, lT, forms, mf];omega))
        |skip
      by_cases h1:1≤n
      · rw[show decide (1≤n)=true by simp[h1]]
        simp only[Ae, ssH, ag, ae, reduceIte, af, ak, ai, aj];cases hs:(s==[])
        · simp only[ssH, ag, ae, reduceIte, af, ak, ai, aj]
          refine jE (v:=.val (.bool (o6 s))) (by exact fun m=>Kr s) nbY nbY ?_;simp only[ssH, ag, ae, reduceIte, af, ak, ai, aj];exact Nl rfl (by simp only[lN, lT, forms, mf];simp[hs];omega)
        · simp only[ssH, ag, ae, reduceIte, af, ak, ai, aj]
          exact Nl rfl (by simp only[lN, lT, forms, mf];simp[hs];omega)
      · rw[show decide (1≤n)=false by simp[h1]]
        simp only[ssH, ag, ae, reduceIte, af, ak, ai, aj];exact Nl rfl (by simp only[lN, lT, forms, mf];simp;omega)
    · have hr:lN k n s=false:=by
        cases hr:lN k n s
        · rfl
        · obtain⟨_, _, _, h1, h2⟩:=Nk hr
          exact absurd ⟨h1, h2⟩ hn
      by_cases h0:n<0
      · simp only[gt_iff_lt, show decide (n<0)=true by simp[h0], ssH, ag, ae, reduceIte, af, ak, ai, aj]
        exact Nl rfl hr
      · simp only[gt_iff_lt, show decide (n<0)=false by simp;omega, show decide (4294967296<n)=true by simp;omega, ssH, ag, ae, reduceIte, af, ak, ai, aj]
        exact Nl rfl hr
end
section
variable {Γ:jI} {m:Store}
end
end Go.Av.Fn
namespace Go.Av.Fn
open Go.Proofs
end Go.Av.Fn
namespace Go.Av.Fn
open Go.Proofs
def qO(n:Int):Bool:=decide (1≤n)&&decide (n≤2147483647)
section
variable {Γ:jI} {m:Store}
theorem JM(n:Int):jB Tryz.prog Γ 98 [it n] m fun o m'=>o = .ret (.val (.bool (qO n)))∧m'=m:=by
 refine kJ (kM mixed zid zkw jY nbY ?_);simp only[F98,ss0,aC,ag];simp only[ge_iff_le,ssH,ag,ae,reduceIte,af,ak,ai,aj];cases h:decide (1≤n)
 ·simp only[h,ssH,ag,ae,reduceIte,af,ak,ai,aj];exact jy jC ⟨nbZ,by simp only[qO,h];rfl⟩
 ·simp only[h,ssH,ag,ae,reduceIte,af,ak,ai,aj];exact jy jC ⟨nbZ,by simp only[qO,h];rfl⟩
def nameB(s:List UInt8):Bool:=!(s==[])&&decide (s.length≤20) && !(dig (s.headD 0)) && !(lI.contains s)&&decide ((s.takeWhile fun b=>xw b||dig b).length=s.length)
theorem Z5(b:UInt8):jB Tryz.prog Γ 166 [by8 b] m fun o m'=>o = .ret (.val (.bool (xw b||dig b)))∧m'=m:=by
 refine kJ (kM mixed zf8 zi8 jY nbY ?_);simp only[zi9,ss0,aC,ag];simp only[ssH,ag,ae,reduceIte,af,ak,ai,aj];refine jE (by exact fun m=>Jz b) nbY nbY ?_;cases h:xw b
 ·simp only[ssH,ag,ae,reduceIte,af,ak,ai,aj];refine jE (by exact fun m=>digit_ok b) nbY nbY ?_;simp only[ssH,ag,ae,reduceIte,af,ak,ai,aj];exact jy jC ⟨nbZ,by simp[jS]⟩
 ·simp only[ssH,ag,ae,reduceIte,af,ak,ai,aj];exact jy jC ⟨nbZ,by simp[jS]⟩
theorem zcn(hw:Γ 1=some (lI.map bs))(s:List UInt8):jB Tryz.prog Γ 153 [bs s] m fun o m'=>o = .ret (.val (.bool (nameB s)))∧m'=m:=by
 refine kJ (kM mixed zgh zje jY nbY ?_);simp only[zjf,ss0,aC,ag];simp only[JP,ssH,ag,ae,reduceIte,af,ak,ai,aj]
 cases s with
 |nil=>
  have h0:(([]:List UInt8)==[])=true:=rfl;have hn:nameB []=false:=rfl;simp only[h0,aO,hn,ssH,ag,ae,reduceIte,af,ak,ai,aj];exact jy jC ⟨nbZ,rfl⟩
 |cons b r=>
  have h0:((b::r)==[])=false:=rfl;have hx:zJ (bs (b::r)) (.val (.int .i64 0))=some (by8 b):=og (i:=0) rfl
  by_cases hl:(b::r).length≤20
  ·have hd:decide (((r.length+1:Nat):Int)≤20)=true:=by
    simp only[au]at hl;simp;omega
   have hl2:decide ((b::r).length≤20)=true:=by simpa using hl
   simp only[h0,aN,hd,hx,ssH,ag,ae,reduceIte,af,ak,ai,aj];refine jE (by exact fun m=>digit_ok b) nbY nbY ?_;cases h1:dig b
   ·simp only[ssH,ag,ae,reduceIte,af,ak,ai,aj];refine jE (by exact fun m=>Y2 hw (b::r)) nbY nbY ?_;cases h2:lI.contains (b::r)
    ·simp only[ssH,ag,ae,reduceIte,af,ak,ai,aj];refine jE (by exact fun m=>Rq (b::r) (by omega) (p:=fun b=>xw b||dig b) (fun b=>Z5 b)) nbY nbY ?_;simp only[ssH,ag,ae,reduceIte,af,ak,ai,aj];refine jy jC ⟨nbZ,?_⟩
     have e:(((((b::r).takeWhile fun b=>xw b||dig b).length:Nat):Int)==((r.length+1:Nat):Int))=nameB (b::r):=by
      simp only[nameB,h0,hl2,fP,h1,h2,aN,dH];rw[dw,beq_iff_eq,decide_eq_true_eq,au];omega
     exact congrArg (fun b=>V.val (.bool b)) e
    ·simp only[ssH,ag,ae,reduceIte,af,ak,ai,aj];exact jy jC ⟨nbZ,by simp only[jL,jM,nameB,h0,hl2,fP,h1,h2];rfl⟩
   ·simp only[ssH,ag,ae,reduceIte,af,ak,ai,aj];exact jy jC ⟨nbZ,by simp only[jL,jM,nameB,h0,hl2,fP,h1];rfl⟩
  ·have hd:decide (((r.length+1:Nat):Int)≤20)=false:=by
    simp only[au]at hl;simp;omega
   have hl2:decide ((b::r).length≤20)=false:=by simpa using hl
   simp only[h0,aN,hd,ssH,ag,ae,reduceIte,af,ak,ai,aj];exact jy jC ⟨nbZ,by simp only[jL,jM,nameB,h0,hl2];rfl⟩
end
section
variable {Γ:jI} {m:Store}
theorem Sv(hw:Γ 1=some (lI.map bs))(s:List UInt8):jB Tryz.prog Γ 135 [.agg [it 1,bs s,it 0,it 0,it 0]] m fun o m'=>o = .ret (.tup [bs (if nameB s=true then s else []),it (if nameB s=true then 0 else 2)])∧m'=m:=by
 refine kJ (kM mixed zgw zjs jY nbY ?_);simp only[zjt,ss0,aC,ag];simp only[ssH,ag,ae,reduceIte,af,ak,ai,aj];refine jE (by exact fun m=>zcn hw s) nbY nbY ?_;cases h:nameB s
 ·simp only[aF,if_false,ssH,ag,ae,reduceIte,af,ak,ai,aj];exact jy Ud ⟨nbZ,rfl⟩
 ·simp only[if_true,ssH,ag,ae,reduceIte,af,ak,ai,aj];exact jy Ud ⟨nbZ,rfl⟩
theorem zb2(hw:Γ 1=some (lI.map bs))(s:List UInt8):jB Tryz.prog Γ 99 [bs s] m fun o m'=>o = .ret (.val (.bool (nameB s)))∧m'=m:=by
 refine kJ (kM mixed zic zkv jY nbY ?_);simp only[F99,ss0,aC,ag];simp only[ssH,ag,ae,reduceIte,af,ak,ai,aj];refine jE (by exact fun m=>Sv hw s) nbY nbY ?_;cases h:nameB s
 ·simp only[aF,if_false,ssH,ag,ae,reduceIte,af,ak,ai,aj];exact jy jC ⟨nbZ,rfl⟩
 ·simp only[if_true,ssH,ag,ae,reduceIte,af,ak,ai,aj];exact jy jC ⟨nbZ,rfl⟩
end
theorem xA(xo yo:Operand)(k n:Int)(s:List UInt8):kX Tryz.prog .neq 40 .other xo yo (.agg [it k,it n,bs s]) (.agg [.val (.int .i64 0),.val (.int .i64 0),.val (.string (ByteArray.mk #[]))])=some (.val (.bool (!decide (k=0∧n=0∧s=[])))):=zfb xo yo k n 0 0 s []
structure Ent where
 c:Int
 q:Int
 k:Int
 n:Int
 s:List UInt8
 ck:Int
 cn:Int
 cs:List UInt8
 deriving DecidableEq
def kS(e:Ent):V:=.agg [it e.c,it e.q,it e.k,it e.n,bs e.s,it e.ck,it e.cn,bs e.cs]
def AC(e:Ent):Bool:=decide (e.ck=0∧e.cn=0∧e.cs=[])
def nR(e:Ent):Bool:=qO e.c&&qO e.q &&
 (if e.k = 1 then nameB e.s && (e.n == 0 || e.n == 1) && AC e
 else if e.k=4 then e.s==[]&&qO e.n&&AC e
 else if e.k=2∨e.k=3∨e.k=5∨e.k=6 then e.s==[]&&e.n==0&&AC e
 else if e.k=7 then e.s==[]&&e.n==0&&lN e.ck e.cn e.cs
 else false)
section
variable {Γ:jI} {m:Store}
set_option maxHeartbeats 3200000 in
theorem FQ(E:Env Γ)(e:Ent):jB Tryz.prog Γ 48 [kS e] m fun o m'=>o = .ret (it (if nR e=true then 0 else 2))∧m'=m:=by
 obtain⟨c,q,k,n,s,ck,cn,cs⟩:=e;refine kJ (kM mixed ziF zkR jY (by simp only[kS,nbS]) ?_);simp only[F48,kS,ss0,aC,ag];simp only[ssH,ag,ae,reduceIte,af,ak,ai,aj];refine jE (by exact fun m=>JM c) nbY nbY ?_;have hk:k=1∨k=4∨k=2∨k=3∨k=5∨k=6∨k=7∨(k≠1∧k≠4∧k≠2∧k≠3∧k≠5∧k≠6∧k≠7):=by omega
 cases h1:qO c
 ·simp only[ssH,ag,ae,reduceIte,af,ak,ai,aj]
  rcases hk with rfl|rfl|rfl|rfl|rfl|rfl|rfl|⟨n1,n4,n2,n3,n5,n6,n7⟩
  case inr.inr.inr.inr.inr.inr.inr=>
   simp only[show(k==1)=false by simpa using n1,show(k==4)=false by simpa using n4,show(k==2)=false by simpa using n2,show(k==3)=false by simpa using n3,show(k==5)=false by simpa using n5,show(k==6)=false by simpa using n6,show(k==7)=false by simpa using n7,ssH,ag,ae,reduceIte,af,ak,ai,aj];exact jy jC ⟨nbZ,by simp[jS,nR,h1]⟩
  all_goals
   simp only[ssH,ag,ae,reduceIte,af,ak,ai,aj];exact jy jC ⟨nbZ,by simp[jS,nR,h1]⟩
 ·simp only[ssH,ag,ae,reduceIte,af,ak,ai,aj];refine jE (by exact fun m=>JM q) nbY nbY ?_;simp only[ssH,ag,ae,reduceIte,af,ak,ai,aj];cases h2:qO q
  ·rcases hk with rfl|rfl|rfl|rfl|rfl|rfl|rfl|⟨n1,n4,n2,n3,n5,n6,n7⟩
   case inr.inr.inr.inr.inr.inr.inr=>
    simp only[show(k==1)=false by simpa using n1,show(k==4)=false by simpa using n4,show(k==2)=false by simpa using n2,show(k==3)=false by simpa using n3,show(k==5)=false by simpa using n5,show(k==6)=false by simpa using n6,show(k==7)=false by simpa using n7,ssH,ag,ae,reduceIte,af,ak,ai,aj];exact jy jC ⟨nbZ,by simp[jS,nR,h2]⟩
   all_goals
    simp only[ssH,ag,ae,reduceIte,af,ak,ai,aj];exact jy jC ⟨nbZ,by simp[jS,nR,h2]⟩
  ·rcases hk with rfl|rfl|rfl|rfl|rfl|rfl|rfl|⟨n1,n4,n2,n3,n5,n6,n7⟩
   case inr.inr.inr.inr.inr.inr.inr=>
    simp only[show(k==1)=false by simpa using n1,show(k==4)=false by simpa using n4,show(k==2)=false by simpa using n2,show(k==3)=false by simpa using n3,show(k==5)=false by simpa using n5,show(k==6)=false by simpa using n6,show(k==7)=false by simpa using n7,ssH,ag,ae,reduceIte,af,ak,ai,aj];exact jy jC ⟨nbZ,by simp[jS,nR,n1,n2,n3,n4,n5,n6,n7]⟩
   case inr.inr.inr.inr.inr.inr.inl=>
    cases h3:(s==[])<;>cases h4:(n==0)<;>simp only[JP,bne,h3,h4,aO,aN,ssH,ag,ae,reduceIte,af,ak,ai,aj]
    case true.true=>
     refine jE (by exact fun m=>zaG E ck cn cs) (zb7 _ _ _) nbY ?_;simp only[ssH,ag,ae,reduceIte,af,ak,ai,aj];refine jy jC ⟨nbZ,?_⟩;simp only[jL,jM,nR,h1,h2,h3,h4];cases lN ck cn cs<;>rfl
    all_goals exact jy jC ⟨nbZ,by simp only[jL,jM,nR,h1,h2,h3,h4];rfl⟩
   case inl=>
    simp only[ssH,ag,ae,reduceIte,af,ak,ai,aj];refine jE (by exact fun m=>zb2 E.words s) nbY nbY ?_;cases h3:nameB s<;>cases h4:(n==0)<;>cases h6:(n==1)<;>cases h5:decide (ck=0∧cn=0∧cs=[])<;>simp only[h4,h6,xA,h5,aO,aN,ssH,ag,ae,reduceIte,af,ak,ai,aj]<;>exact jy jC ⟨nbZ,by simp only[jL,jM,nR,AC,h1,h2,h3,h4,h5,h6];rfl⟩
   case inr.inl=>
    cases h3:(s==[])
    ·simp only[Ae,h3,ssH,ag,ae,reduceIte,af,ak,ai,aj];exact jy jC ⟨nbZ,by simp only[jL,jM,nR,h1,h2,h3];rfl⟩
    ·simp only[Ae,h3,ssH,ag,ae,reduceIte,af,ak,ai,aj];refine jE (by exact fun m=>JM n) nbY nbY ?_;cases h4:qO n<;>cases h5:decide (ck=0∧cn=0∧cs=[])<;>simp only[xA,h5,aO,aN,ssH,ag,ae,reduceIte,af,ak,ai,aj]<;>exact jy jC ⟨nbZ,by simp only[jL,jM,nR,AC,h1,h2,h3,h4,h5];rfl⟩
   all_goals
    cases h3:(s==[])<;>cases h4:(n==0)<;>cases h5:decide (ck=0∧cn=0∧cs=[])<;>simp only[Ae,h3,h4,xA,h5,aO,aN,ssH,ag,ae,reduceIte,af,ak,ai,aj]<;>exact jy jC ⟨nbZ,by simp only[jL,jM,nR,AC,h1,h2,h3,h4,h5];rfl⟩
end
structure Lg where
 b:Int
 c:List UInt8
 l:List Ent
def lJ(nn:Bool)(l:List Ent):V:=.sl (l.map kS) [] (if nn then .non else .full)
def lgV(nn:Bool)(x:Lg):V:=.agg [it x.b,bs x.c,lJ nn x.l]
def lgB(x:Lg):Bool:=decide (0≤x.b)&&decide (x.b≤2147483647)&&decide (x.c.length≤65536)&&((x.c==[])==(x.b==0))&&decide (x.l.length≤64)&&decide ((x.l.length:Int)≤2147483647-x.b)&&x.l.all nR
theorem nX{k:Nat}(e:Ent):nb k (kS e):=by simp only[kS,nbS]
theorem kL{k:Nat}(nn:Bool)(l:List Ent):nb k (lJ nn l):=by
 cases nn<;>simp only[lJ,aF,if_false,if_true,nbS]<;>exact tZ nX l
theorem ql{k:Nat}(nn:Bool)(x:Lg):nb k (lgV nn x):=by
 have:=kL (k:=k) nn x.l;simp only[lgV,this,nbS]
theorem EJ{l:List Ent}{more:List V}{tok:Tok}{i:Nat}{e:Ent}(h:l[i]? = some e):oG 8 (.sl (l.map kS) more tok) (it i)=some (.elt [it e.c,it e.q,it e.k,it e.n,bs e.s,it e.ck,it e.cn,bs e.cs]):=mD (e:=kS e) (by rw[bn,h];rfl) rfl
section
variable {Γ:jI} {m:Store}
theorem Wl{g:FuncId}{p:Ent→Bool}(hp:∀ e m,jB Tryz.prog Γ g ([]++[kS e]++[]) m fun o m'=>o = .ret (.val (.bool (p e)))∧m'=m)(nn:Bool)(l:List Ent)(hl:l.length<4611686018427387904) :
  jB Tryz.prog Γ 133 [lJ nn l,.fn (.func g) [] []] m fun o m'=>(∃ v,o = .ret v∧∃ i:Int,v=it i∧decide (0≤i)=l.any p)∧m'=m:=by
 have hnb:=kL (k:=0) nn l;refine kM mixed zgx zju jY (by simp only[hnb,nbS]) ?_;simp only[zjv,ss0,aC,ag];simp only[lJ,aH,ssH,ag,ae,reduceIte,af,ak,ai,aj];refine nC [0,1,7,8] 19 (fun n vs h=>∃ i:Nat,vs=[lJ nn l,.fn (.func g) [] [],it l.length,it i]∧i+n=l.length+1∧i≤l.length∧(l.take i).any p=false) (l.length+1) (by decide) (by decide) (aK 0) (jZ rfl (aY _) (by decide) (by simp) (by show nbs 0 [lJ nn l,.fn (.func g) [] [],it l.length,it 0];simp only[hnb,nbS]) (fun a ha=>by omega) ⟨0,rfl,by omega,by omega,by simp⟩) ?_;rintro n t h J hJ hlt ⟨i,hv,hn,hi,hpre⟩;simp only[aZ,aQ,and_true]at hv;obtain⟨h0,h1,h7,h8⟩:=hv;rw[mO hlt];simp only[jW,upTo,h0,h1,h7,h8,lJ,ssH,ag,ae,reduceIte,af,ak,ai,aj]
 by_cases hil:i<l.length
 ·rw[show decide ((i:Int)<(l.length:Int))=true by simp;omega];have hx:l[i]? = some l[i]:=aI hil;generalize l[i]=e at hx;simp only[EJ hx,ssH,ag,ae,reduceIte,af,ak,ai,aj];refine jE (by exact fun m=>hp e m) (by have:=nX (k:=0) e;simp only[kS]at this;simp only[this,nbS]) nbY ?_
  have hany:(l.take (i+1)).any p=p e:=by
   rw[bg,hx,List.any_append,hpre];simp
  cases he:p e
  ·simp only[jQ (show i<4611686018427387904 by omega),ssH,ag,ae,reduceIte,af,ak,ai,aj];refine⟨_,hJ (n-1) (aK 0) _ (by omega) (jZ rfl (aY _) (by decide) (by simp) (by show nbs 0 [lJ nn l,.fn (.func g) [] [],it l.length,it (i+1:Nat)];simp only[hnb,nbS]) (fun a ha=>by omega) ⟨i+1,rfl,by omega,by omega,by rw[hany,he]⟩)⟩
  ·simp only[ssH,ag,ae,reduceIte,af,ak,ai,aj];refine jy jC ⟨nbZ,i,rfl,?_⟩;rw[decide_eq_true (by omega)];symm;rw[List.any_eq_true];exact⟨e,bI hx,he⟩
 ·rw[show decide ((i:Int)<(l.length:Int))=false by simp;omega];simp only[ssH,ag,ae,reduceIte,af,ak,ai,aj];refine jy jC ⟨nbZ,-1,rfl,?_⟩;rw[show l.take i=l from bi (by omega)]at hpre;rw[hpre];rfl
theorem RF{g:FuncId}{p:Ent→Bool}(hp:∀ e m,jB Tryz.prog Γ g ([]++[kS e]++[]) m fun o m'=>o = .ret (.val (.bool (p e)))∧m'=m)(nn:Bool)(l:List Ent)(hl:l.length<4611686018427387904) :
  jB Tryz.prog Γ 94 [lJ nn l,.fn (.func g) [] []] m fun o m'=>o = .ret (.val (.bool (l.any p)))∧m'=m:=by
 have hnb:=kL (k:=0) nn l;refine kJ (kM mixed zif zky jY (by simp only[hnb,nbS]) ?_);simp only[F94,ss0,aC,ag];simp only[ssH,ag,ae,reduceIte,af,ak,ai,aj];refine Ol (by exact fun m=>Wl hp nn l hl) (by simp only[hnb,nbS]) (by rintro v ⟨i,rfl,_⟩;exact .val _) ?_;rintro v ⟨i,rfl,hi⟩;simp only[ge_iff_le,ssH,ag,ae,reduceIte,af,ak,ai,aj];exact jy jC ⟨nbZ,by rw[←hi];rfl⟩
theorem Wn(E:Env Γ)(e:Ent):jB Tryz.prog Γ 95 [kS e] m fun o m'=>o = .ret (.val (.bool (!nR e)))∧m'=m:=by
 have hnb:=nX (k:=0) e;refine kJ (kM mixed zie zkx jY (by simp only[hnb,nbS]) ?_);simp only[F95,ss0,aC,ag];simp only[kS,ssH,ag,ae,reduceIte,af,ak,ai,aj];refine jE (by exact fun m=>FQ E e) (by simp only[kS]at hnb;simp only[hnb,nbS]) nbY ?_;cases h:nR e
 ·simp only[aF,if_false,ssH,ag,ae,reduceIte,af,ak,ai,aj];exact jy jC ⟨nbZ,rfl⟩
 ·simp only[if_true,ssH,ag,ae,reduceIte,af,ak,ai,aj];exact jy jC ⟨nbZ,rfl⟩
end
section
variable {Γ:jI} {m:Store}
theorem UC(xo yo:Operand)(a b:Bool):kX Tryz.prog .neq 4 .other xo yo (.val (.bool a)) (.val (.bool b))=some (.val (.bool (a != b))):=by cases a<;>cases b<;>kernel_rfl
theorem Jn(E:Env Γ)(nn:Bool)(x:Lg):jB Tryz.prog Γ 42 [lgV nn x] m fun o m'=>o = .ret (it (if lgB x=true then 0 else 4))∧m'=m:=by
 obtain⟨b,c,l⟩:=x;have hnb:=ql (k:=0) nn ⟨b,c,l⟩;have hnl:=kL (k:=0) nn l;have hno:lgB ⟨b,c,l⟩≠true→it 4=it (if lgB ⟨b,c,l⟩=true then 0 else 4):=fun h=>by rw[if_neg h]
 refine kJ (kM mixed ziH zkT jY (by simp only[hnb,nbS]) ?_);simp only[F42,lgV,ss0,aC,ag];simp only[lJ,aH,gt_iff_lt,Ae,ssH,ag,ae,reduceIte,af,ak,ai,aj]
 by_cases h1:b<0
 ·simp only[decide_eq_true h1,ssH,ag,ae,reduceIte,af,ak,ai,aj];exact jy jC ⟨nbZ,hno fun h=>by simp only[lgB,aG,decide_eq_true_eq]at h;omega⟩
 simp only[decide_eq_false h1,ssH,ag,ae,reduceIte,af,ak,ai,aj]
 by_cases h2:2147483647<b
 ·simp only[decide_eq_true h2,ssH,ag,ae,reduceIte,af,ak,ai,aj];exact jy jC ⟨nbZ,hno fun h=>by simp only[lgB,aG,decide_eq_true_eq]at h;omega⟩
 simp only[decide_eq_false h2,ssH,ag,ae,reduceIte,af,ak,ai,aj]
 by_cases h3:(65536:Int)<(c.length:Int)
 ·simp only[decide_eq_true h3,ssH,ag,ae,reduceIte,af,ak,ai,aj];exact jy jC ⟨nbZ,hno fun h=>by simp only[lgB,aG,decide_eq_true_eq]at h;omega⟩
 simp only[decide_eq_false h3,UC,ssH,ag,ae,reduceIte,af,ak,ai,aj];cases h4:((c==[]) != (b==0))
 case true=>
  simp only[ssH,ag,ae,reduceIte,af,ak,ai,aj];refine jy jC ⟨nbZ,hno fun h => ?_⟩;simp only[lgB,aG,beq_iff_eq]at h;rw[h.1.1.1.2]at h4;simp at h4
 simp only[ssH,ag,ae,reduceIte,af,ak,ai,aj]
 by_cases h5:(64:Int)<(l.length:Int)
 ·simp only[decide_eq_true h5,ssH,ag,ae,reduceIte,af,ak,ai,aj];exact jy jC ⟨nbZ,hno fun h=>by simp only[lgB,aG,decide_eq_true_eq]at h;omega⟩
 have hw:IntKind.i64.wrap (2147483647-b)=2147483647-b:=wrap_i64 (by omega) (by omega);simp only[decide_eq_false h5,hw,ssH,ag,ae,reduceIte,af,ak,ai,aj]
 by_cases h6:2147483647-b<(l.length:Int)
 ·simp only[decide_eq_true h6,ssH,ag,ae,reduceIte,af,ak,ai,aj];exact jy jC ⟨nbZ,hno fun h=>by simp only[lgB,aG,decide_eq_true_eq]at h;omega⟩
 simp only[decide_eq_false h6,ssH,ag,ae,reduceIte,af,ak,ai,aj];refine jE (by exact fun m=>RF (p:=fun e => !nR e) (fun e m=>Wn E e) nn l (by omega)) (by simp only[lJ]at hnl;simp only[hnl,nbS]) nbY ?_
 have hb:lgB ⟨b,c,l⟩=l.all nR:=by
  have h4':((c==[])==(b==0))=true:=by
   revert h4;cases (c==[])<;>cases (b==0)<;>simp
  simp only[lgB,h4',decide_eq_true (show(0:Int)≤b by omega),decide_eq_true (show b≤2147483647 by omega),decide_eq_true (show c.length≤65536 by omega),decide_eq_true (show l.length≤64 by omega),decide_eq_true (show(l.length:Int)≤2147483647-b by omega),dH]
 have ha:l.any (fun e => !nR e) = !l.all nR:=by
  rw[List.all_eq_not_any_not];simp
 cases h7:l.any fun e => !nR e
 ·simp only[ssH,ag,ae,reduceIte,af,ak,ai,aj];have hy:lgB ⟨b,c,l⟩=true:=by rw[hb];rw[h7]at ha;simpa using ha.symm
  have h0:it 0=it (if lgB ⟨b,c,l⟩=true then 0 else 4):=by rw[if_pos hy]
  exact jy jC ⟨nbZ,h0⟩
 ·simp only[ssH,ag,ae,reduceIte,af,ak,ai,aj];refine jy jC ⟨nbZ,hno ?_⟩;rw[hb];rw[h7]at ha
  simpa using ha.symm
theorem zbQ(E:Env Γ)(nn:Bool)(x:Lg):jB Tryz.prog Γ 130 [lgV nn x] m fun o m'=>o = .ret (it (if lgB x=true then x.b+x.l.length else 0))∧m'=m:=by
 have hnb:=ql (k:=0) nn x;have hnl:=kL (k:=0) nn x.l;refine kJ (kM mixed zgy zjw jY (by simp only[hnb,nbS]) ?_);simp only[zjx,lgV,ss0,aC,ag];simp only[lJ,ssH,ag,ae,reduceIte,af,ak,ai,aj];refine jE (by exact fun m=>Jn E nn x) (by simp only[lgV,lJ]at hnb;simp only[hnb,nbS]) nbY ?_;cases h:lgB x
 ·simp only[aF,if_false,ssH,ag,ae,reduceIte,af,ak,ai,aj];exact jy jC ⟨nbZ,rfl⟩
 ·have hx:0≤x.b∧x.b≤2147483647∧x.l.length≤64:=by simp only[lgB,aG,decide_eq_true_eq]at h;omega
  have hw:IntKind.i64.wrap (x.b+(x.l.length:Int))=x.b+(x.l.length:Int):=wrap_i64 (by omega) (by omega);simp only[if_true,aH,hw,ssH,ag,ae,reduceIte,af,ak,ai,aj];exact jy jC ⟨nbZ,rfl⟩
end
end Go.Av.Fn
namespace Go.Av
def I5:List V→Tok→Tok
 |[],.full=>.full
 |[],t=>if vw t then .no else .non
 |_::_,_=>.non
mutual
def wN:V→V
 | .agg cs=>.agg (wNs cs)
 | .tup cs=>.tup (wNs cs)
 | .sl es more t=>.sl (wNs es) (wNs more) (I5 es t)
 |v=>v
def wNs:List V→List V
 |[]=>[]
 |v::l=>wN v::wNs l
end
theorem BN:∀ (a b:List V),wNs (a++b)=wNs a++wNs b
 |[],b=>rfl
 |v::l,b=>by rw[aA,wNs,BN l b];rfl
theorem yZ:∀ l:List V,(wNs l).length=l.length
 |[]=>rfl
 |v::l=>by rw[wNs,au,yZ l];rfl
theorem Gw{α:Type}{f:α→V}(h:∀ x,wN (f x)=f x):∀ l:List α,wNs (l.map f)=l.map f
 |[]=>rfl
 |x::l=>by rw[fJ,wNs,h,Gw h l]
theorem TI(v:V):(wN v).cells=wNs v.cells:=by
 cases v<;>rfl
theorem U0:∀ l:List V,flat (wNs l)=wNs (flat l)
 |[]=>rfl
 |v::l=>by rw[wNs,lG,lG,BN,TI,U0 l]
theorem XC:∀ {l:List V} {e:V},e∈wNs l→∃ x∈l,e=wN x
 |v::l,e,h=>by
  rw[wNs]at h
  rcases List.mem_cons.1 h with rfl|h
  ·exact⟨v,aT ..,rfl⟩
  ·obtain⟨x,hx,rfl⟩:=XC h;exact⟨x,aV _ hx,rfl⟩
theorem zdW{G:Gh}{es:List V}{t:Tok}{a:Addr}{cap s:Nat}(h:G.MJ t a es.length cap s):G.MJ (I5 es t) a es.length cap s:=by
 cases es with
 |cons x l=>trivial
 |nil=>
  cases t with
  |full=>exact absurd rfl h.2
  |_=>simp only[I5];split<;>trivial
theorem zbe{t:Tok}(h:vw t=true):vw (I5 [] t)=true:=by
 cases t<;>first|rfl|cases h|(simp only[I5,h,if_true];rfl)
mutual
theorem ku.wN{G:Gh}:∀ {v:V} {u:Value},ku G v u→ku G (wN v) u
 |_,_,.val h=>.val h
 |_,_,.ptr b o=>.ptr b o
 |_,_,.elt h k=>.elt h k
 |_,_,.nil h=>by
  simp only[Av.wN,wNs];exact .nil (zbe h)
 |_,_,.arr a b c d=>.arr a b c d
 |_,_,.res a b c=>.res a b c
 |_,_,.sl (es:=es) (more:=more) a b c d e f=>by
  simp only[Av.wN];have hb:=kD.wN b;rw[←U0,BN]at hb;have h8:=zdW f;rw[←yZ es]at h8 ⊢;refine .sl (fun x hx => ?_) hb c (by rw[yZ,yZ];exact d) e h8;rw[←BN]at hx;obtain⟨y,hy,rfl⟩:=XC hx;rw[TI,yZ];exact a y hy
 |_,_,.fn h k=>.fn h k
 |_,_,.ifc h=>.ifc h
 |_,_,.agg h=>by
  simp only[Av.wN];exact .agg (kD.wN h)
 |_,_,.tup h=>by
  simp only[Av.wN];exact .tup (kD.wN h)
theorem kD.wN{G:Gh}:∀ {v:List V} {u:List Value},kD G v u→kD G (wNs v) u
 |_,_,.nil=>.nil
 |_,_,.cons a b=>.cons (ku.wN a) (kD.wN b)
end
theorem zdV{R:Ren}{es es':List V}{k k':Tok}(a:LR R es es')(c:EY R k k'):EY R (I5 es k) (I5 es' k'):=by
 cases a with
 |cons _ _=>trivial
 |nil=>
  have hn:=Qi c
  cases k<;>cases k'<;>first|exact c.elim|trivial|(simp only[I5,hn];split<;>trivial)
mutual
theorem VR.wN{R:Ren}:∀ {v v':V},VR R v v'→VR R (wN v) (wN v')
 |_,_,.val v=>.val v
 |_,_,.ptr o r=>.ptr o r
 |_,_,.elt r=>.elt r
 |_,_,.sl a b c=>by
  simp only[Av.wN];exact .sl (LR.wN a) (LR.wN b) (zdV a c)
 |_,_,.fn h a b=>.fn h a b
 |_,_,.ifc r=>.ifc r
 |_,_,.agg r=>by
  simp only[Av.wN];exact .agg (LR.wN r)
 |_,_,.tup r=>by
  simp only[Av.wN];exact .tup (LR.wN r)
 |_,_,.arr o l c r=>.arr o l c r
 |_,_,.res v z n r=>.res v z n r
theorem LR.wN{R:Ren}:∀ {v v':List V},LR R v v'→LR R (wNs v) (wNs v')
 |_,_,.nil=>.nil
 |_,_,.cons a b=>.cons (VR.wN a) (LR.wN b)
end
theorem jB.wnd{P:Program}{Γ:jI}{f:FuncId}{args:List V}{m:Store}{R R':Out→Store→Prop}(h:jB P Γ f args m R)(hr:∀ v m',R (.ret v) m' → R' (.ret (Av.wN v)) m')(hp:∀ v m',R (.pan v) m' → R' (.pan v) m'):jB P Γ f args m R':=by
 refine⟨h.1,fun G B0 mF w cargs hD hR hL=>(h.2 G B0 mF w cargs hD hR hL).mono ?_⟩;rintro e w' ⟨G',m',o,a,b,c,d,r,s⟩
 cases o with
 |ret v=>
  cases r with
  |ret r=>exact⟨G',m',.ret (Av.wN v),a,b,c,d,.ret r.wN,hr _ _ s⟩
 |pan v=>exact⟨G',m',.pan v,a,b,c,d,r,hp _ _ s⟩
def BC(pre:List V)(w:Option FuncId)(bs:List Nat):List V:=pre++match w with
 |some f=>[.fn (.func f) [] (bs.map fun b=>.ptr b 0)]
 |none=>bs.map fun b=>.ptr b 0
structure Zd (Xs:List Blk) (cs:List Nat) (m:Store):Prop where
 len:cs.length=Xs.length
 nodup:∀ (i j c:Nat),cs[i]? = some c→cs[j]? = some c→i=j
 cell:∀ (i c:Nat) (X:Blk),cs[i]? = some c→Xs[i]? = some X→m c=some X
def Pm(m:Store)(cs:List Nat):Store:=fun c=>if c∈cs then none else m c
def O1(P:Program)(Γ:jI)(g:FuncId)(pre:List V)(w:Option FuncId)(Xs:List Blk)(Qv:V→Prop):Prop:=
 ∀ m cs,Zd Xs cs m→jB P Γ g (BC pre w cs) m fun o m'=>(∃ v,o = .ret v∧Qv v)∧m'=Pm m cs
section
variable {P:Program} {Γ:jI} {H:Nat→List (Nat×List Nat)×List Nat} {f:FuncId} {F:AFn} {gs:List Nat}
theorem RZ{R:Ren}:∀ {bs cs:List Nat},bs.length=cs.length→(∀ (i b c:Nat),bs[i]? = some b→cs[i]? = some c→R b c)→LR R (bs.map fun b=>.ptr b 0) (cs.map fun b=>.ptr b 0)
 |[],[],_,_=>.nil
 |b::bs,c::cs,hl,h=>.cons (.ptr 0 (h 0 b c rfl rfl)) (RZ (by simpa using hl) fun i=>h (i+1))
theorem DU{R:Ren}:∀ {bs:List Nat} {vs:List V},LR R (bs.map fun b=>.ptr b 0) vs→∃ cs:List Nat,vs=cs.map (fun b=>V.ptr b 0)∧cs.length=bs.length∧∀ (i b c:Nat),bs[i]? = some b→cs[i]? = some c→R b c
 |[],vs,h=>by cases h;exact⟨[],rfl,rfl,fun i b c hb=>by simp at hb⟩
 |b::bs,vs,h=>by
  cases h with
  |cons h1 h2=>
   cases h1 with
   | @ptr _ c _ r=>
    obtain⟨cs,rfl,hl,hr⟩:=DU h2;refine⟨c::cs,rfl,by simp[hl],?_⟩;intro i b' c' hb hc
    cases i with
    |zero=>cases hb;cases hc;exact r
    |succ i=>exact hr i b' c' (by simpa using hb) (by simpa using hc)
theorem NR{R:Ren}:∀ {a b:List V} {vs:List V},LR R (a++b) vs→∃ a' b',vs=a' ++ b'∧LR R a a'∧LR R b b'
 |[],b,vs,h=>⟨[],vs,rfl,.nil,h⟩
 |x::a,b,vs,h=>by
  cases h with
  |cons h1 h2=>
   obtain⟨a',b',rfl,r1,r2⟩:=NR h2;exact⟨_::a',b',rfl,.cons h1 r1,r2⟩
theorem zdi{R:Ren}{pre:List V}{w:Option FuncId}{bs cs:List Nat}(hp:nbs 0 pre)(hl:bs.length=cs.length)(h:∀ (i b c:Nat),bs[i]? = some b→cs[i]? = some c→R b c):LR R (BC pre w bs) (BC pre w cs):=by
 refine(hp.up R).append ?_
 cases w with
 |none=>exact RZ hl h
 |some f=>exact .cons (.fn rfl .nil (RZ hl h)) .nil
theorem zaE{R:Ren}{pre:List V}{w:Option FuncId}{bs:List Nat}{vs:List V}(hp:nbs 0 pre)(h:LR R (BC pre w bs) vs):∃ cs:List Nat,vs=BC pre w cs∧cs.length=bs.length∧∀ (i b c:Nat),bs[i]? = some b→cs[i]? = some c→R b c:=by
 obtain⟨a',b',rfl,r1,r2⟩:=NR h;obtain rfl:=nY hp r1
 cases w with
 |none=>
  obtain⟨cs,rfl,q1,q2⟩:=DU r2;exact⟨cs,rfl,q1,q2⟩
 |some f=>
  cases r2 with
  |cons h1 h2=>
   cases h2
   cases h1 with
   |fn _ r3 r4=>
    cases r3;obtain⟨cs,rfl,q1,q2⟩:=DU r4;exact⟨cs,rfl,q1,q2⟩
theorem Ik{Xs:List Blk}:∀ {a:Nat} {x:Blk},lk (Xs.map some) a=some x→Xs[a]? = some x:=by
 induction Xs with
 |nil=>intro a x h;cases a<;>cases h
 |cons X Xs ih=>
  intro a x h
  cases a with
  |zero=>simpa [lk] using h
  |succ a=>simpa using ih (a:=a) h
theorem Zy{n i b:Nat}(h:(aK n)[i]? = some b):b=i∧i<n:=by
 obtain⟨h1,rfl⟩:=List.getElem?_eq_some_iff.1 h;simp at h1 ⊢;exact h1
theorem WF(hm:P.follows .mixedOrders=true)(hF:qK P H f=some F)(hok:F.body.okH gs=true)(hG:GOk Γ gs){pre:List V}{w:Option FuncId}{Xs:List Blk}(ha:nbs 0 pre)(hX:∀ X∈Xs,nbB 0 X){Qv:V→Prop}
  (h:qy P Γ (fun _ _=>False) Xs.length F.body (uU F.res fun v _=>nb 0 (wN v)∧Qv (wN v)) ⟨start F.ntmps (BC pre w (aK Xs.length)),Xs.map some⟩):O1 P Γ f pre w Xs Qv:=by
 intro m cs hc
 have hH : HH (fun a c => cs[a]? = some c) (Xs.map some) (fun c => if c ∈ cs then m c else none) := {
  blk:=by
   intro a c x r hx;refine⟨x,?_,(hX x ?_).up _⟩
   ·show(if c∈cs then m c else none)=some x;rw[if_pos (bI r)];exact hc.cell a c x r (Ik hx)
   ·exact bI (Ik hx)
  left:=by
   intro a c c' r r';rw[r]at r';exact fH r'
  right:=by
   intro a b c x y r r' _ _;exact hc.nodup a b c r r'
  dom:=by
   intro a c r;left;have:=(List.getElem?_eq_some_iff.1 r).1;rw[hc.len]at this
   simpa using this }
 have h1:=tV (P:=P) (Γ:=Γ) (R0:=fun a c=>cs[a]? = some c) (N:=Xs.length) (m:=fun c=>if c∈cs then m c else none) hm hF hok hG (args0:=BC pre w (aK Xs.length)) (args:=BC pre w cs)
  (zdi ha (by simp[hc.len]) fun i b c hb hc'=>by rw[(Zy hb).1];exact hc') hH (fun b b' r=>by have:=(List.getElem?_eq_some_iff.1 r).1;rw[hc.len]at this;exact this) (Q:=fun o h'=>match o with | .ret v=>nb 0 (wN v)∧Qv (wN v) | .pan _=>False) h
 have hD:mP (fun c=>if c∈cs then m c else none) (Pm m cs):=by
  intro c;unfold Pm
  by_cases e:c∈cs
  ·exact .inr (by simp[e])
  ·exact .inl (by simp[e])
 have e:Store.or (fun c=>if c∈cs then m c else none) (Pm m cs)=m:=by
  funext c;unfold Store.or Pm
  by_cases e:c∈cs
  ·simp only[if_pos e];cases m c<;>rfl
  ·simp only[if_neg e]
 have h2:=h1.frame hD;rw[e]at h2;refine jB.wnd (R:=fun o m'=>(∃ v,o = .ret v∧Qv (wN v))∧m'=Pm m cs) (jB.less h2 ?_) ?_ ?_
 ·rintro o m'' ⟨m',rfl,d,S,o0,h',s1,s2,s3,s4⟩;refine⟨Pm m cs,?_,?_,rfl⟩
  ·intro b x hb
   rcases d b with q|q
   ·simp only[Store.or,q];exact hb
   ·rw[q]at hb;cases hb
  ·cases o0 with
   |ret v=>
    cases o with
    |ret v' =>
     have e3:wN v'=wN v:=DR s4.1 (VR.wN s3);exact⟨v',rfl,by rw[e3];exact s4.2⟩
    |pan v'=>exact s3.elim
   |pan v=>exact s4.elim
 ·rintro v m' ⟨⟨v',e9,q⟩,h9⟩;cases e9;exact⟨⟨_,rfl,q⟩,h9⟩
 ·rintro v m' ⟨⟨v',e9,q⟩,_⟩;cases e9
theorem BI(hm:P.follows .mixedOrders=true)(hF:qK P H f=some F)(hok:F.body.okH gs=true)(hG:GOk Γ gs){args:List V}{m:Store}(ha:nbs 0 args){Qv:V→Prop}
  (h:qy P Γ (fun _ _=>False) 0 F.body (uU F.res fun v _=>nb 0 (wN v)∧Qv (wN v)) ⟨start F.ntmps args,[]⟩):jB P Γ f args m fun o m'=>(∃ v,o = .ret v∧Qv v)∧m'=m:=by
 have:=WF (pre:=args) (w:=none) (Xs:=[]) hm hF hok hG ha (fun _ h=>by cases h) (Qv:=Qv) (by simpa [BC] using h) m [] ⟨rfl,fun i j c h=>by simp at h,fun i c X h=>by simp at h⟩;have e:Pm m []=m:=by funext c;simp[Pm]
 rw[e]at this
 simpa [BC] using this
def hdrop(h:Hl):List Nat→Hl
 |[]=>h
 |b::bs=>hdrop (hset h b none) bs
theorem UU{R:Ren}{m:Store}:∀ {h:Hl} (bs:List Nat),HH R h m→HH R (hdrop h bs) m
 |h,[],H=>H
 |h,b::bs,H=>UU bs (H.drop b)
theorem WB{h:Hl}{b c:Nat}{x:Blk}(e:lk (hset h b none) c=some x):c≠b∧lk h c=some x:=by
 rw[wW]at e
 split at e
 ·cases e
 ·rename_i k;refine⟨?_,e⟩;rintro rfl;exact k ⟨rfl,DW e⟩
theorem Ko:∀ (bs:List Nat) {h:Hl} {c:Nat} {x:Blk},lk (hdrop h bs) c=some x→c∉bs∧lk h c=some x
 |[],h,c,x,e=>⟨by simp,e⟩
 |b::bs,h,c,x,e=>by
  obtain⟨h1,h2⟩:=Ko bs e;obtain⟨h3,h4⟩:=WB h2;exact⟨by simp[h1,h3],h4⟩
section
variable {Γ:jI} {Kp:V→Hl→Prop} {l:List Item} {K:HS→Prop} {t:List V} {h:Hl} {d:Option Tmp} {s:List (Tmp×Option (Tmp×Bool)×AOp)} {g:FuncId} {first args caps:List V}
theorem Yz{pre:List V}{w:Option FuncId}{Xs:List Blk}{Qv:V→Prop}(bs:List Nat)(hA:O1 P Γ g pre w Xs Qv)(he:first++args++caps=BC pre w bs)(hl:bs.length=Xs.length)(hn:bs.Nodup)(hb:∀ (i b:Nat) (X:Blk),bs[i]? = some b→Xs[i]? = some X→lk h b=some X)
  (hp:nbs 0 pre) (hX:∀ X∈Xs,nbB 0 X) (hv:∀ v,Qv v→nb 0 v) (hr:∀ v,Qv v→hth P Γ Kp s l K (hput t (hdrop h bs) d (some v))):sZ P Γ Kp (.fn (.func g) first caps) args d s l K t h:=by
 intro R args' m' rl H;rw[he]at rl;obtain⟨cs,rfl,c1,c2⟩:=zaE hp rl
 have hcell:∀ (i b c:Nat) (X:Blk),bs[i]? = some b→cs[i]? = some c→Xs[i]? = some X→m' c=some X:=by
  intro i b c X h1 h2 h3;obtain⟨x',h4,h5⟩:=H.blk _ _ _ (c2 i b c h1 h2) (hb i b X h1 h3);obtain rfl:=FV (hX X (bI h3)) h5;exact h4
 have hlen:cs.length=Xs.length:=c1.trans hl
 have hok : Zd Xs cs m' := {
  len:=hlen
  nodup:=by
   intro i j c e1 e2;have hi:=(List.getElem?_eq_some_iff.1 e1).1;have hj:=(List.getElem?_eq_some_iff.1 e2).1;have b1:bs[i]? = some (bs[i]'(by omega)):=aI (by omega);have b2:bs[j]? = some (bs[j]'(by omega)):=aI (by omega);have x1:Xs[i]? = some (Xs[i]'(by omega)):=aI (by omega);have x2:Xs[j]? = some (Xs[j]'(by omega)):=aI (by omega);have e:=H.right _ _ _ _ _ (c2 i _ _ b1 e1) (c2 j _ _ b2 e2) (hb i _ _ b1 x1) (hb j _ _ b2 x2);have hp2:=List.pairwise_iff_getElem.1 hn
   rcases Nat.lt_trichotomy i j with k|k|k
   ·exact absurd e (hp2 i j (by omega) (by omega) k)
   ·exact k
   ·exact absurd e.symm (hp2 j i (by omega) (by omega) k)
  cell:=by
   intro i c X h2 h3;have hi:i<bs.length:=by have:=(List.getElem?_eq_some_iff.1 h3).1;omega
   exact hcell i _ c X (aI hi) h2 h3 }
 refine(hA m' cs hok).mono ?_;rintro o m'' ⟨⟨v,rfl,hq⟩,rfl⟩;refine⟨R,.ret v,hdrop h bs,R.le_refl,(UU bs H).to fun b c x hbc hx => ?_,(hv v hq).up R,hr v hq⟩;unfold Pm;rw[if_neg];intro hmem;obtain⟨i,hi⟩:=List.getElem?_of_mem hmem;have hlt:=(List.getElem?_eq_some_iff.1 hi).1;have b1:bs[i]? = some (bs[i]'(by omega)):=aI (by omega);have x1:Xs[i]? = some (Xs[i]'(by omega)):=aI (by omega);obtain⟨h1,h2⟩:=Ko bs hx;have e:=H.right _ _ _ _ _ hbc (c2 i _ _ b1 hi) h2 (hb i _ _ b1 x1);subst e;exact h1 (bI b1)
end
end
end Go.Av
namespace Go.Av.Fn
open Go.Proofs
theorem zdU(e:Ent):wN (kS e)=kS e:=by simp only[kS,wN,wNs];rfl
theorem za0(l:List Ent):wNs (l.map kS)=l.map kS:=Gw zdU l
theorem QW{l:List Ent}{t:Tok}(h:l≠[]∨vw t=false):wN (.sl (l.map kS) [] t)=lJ true l:=by
 simp only[wN,za0,lJ,if_true]
 cases l with
 |nil=>
  have ht:vw t=false:=by simpa using h
  have e2:I5 [] t = .non:=by
   cases t with
   |no=>cases ht
   |full=>cases ht
   |zero b=>cases b<;>first|rfl|cases ht
   |_=>rfl
  simp only[eG,wNs,e2]
 |cons e l=>rfl
theorem za2{nn:Bool}{l:List Ent}(h:nn=true∨l=[]):wN (lJ nn l)=lJ nn l:=by
 cases nn
 ·have:l=[]:=by simpa using h
  subst this;rfl
 ·exact QW (.inr rfl)
theorem QX{nn:Bool}{x:Lg}(h:nn=true∨x.l=[]):wN (lgV nn x)=lgV nn x:=by
 simp only[lgV,wN,wNs,za2 h,bs]
theorem yx(l:List Ent):ng 8 (l.map kS)=true:=by
 simp only[ng,List.all_map,List.all_eq_true];intro x _;rfl
section
variable {Γ:jI} {m:Store}
end
def Ci(nn:Bool)(x:Lg):Blk:=.var 26 [it x.b,bs x.c,lJ nn x.l]
theorem LH(nn:Bool)(x:Lg):nbB 0 (Ci nn x):=by
 have:=kL (k:=0) nn x.l;simp only[Ci,this,nbS]
theorem jD{nn:Bool}{l:List Ent}:oP (lJ nn l)=true:=(rfl)
def upV(nn:Bool)(l:List Ent)(n:Nat):V:=.sl ((l.take n).map kS) [] (if 0<n then .full else if nn then .zero true else .full)
theorem zde{nn:Bool}{l:List Ent}(h:nn=true∨l=[]){n:Nat}(hn:n≤l.length):pO 8 (lJ nn l) (some none) (some (some (n:Int))) (some (some (n:Int)))=some (upV nn l n):=by
 have hs:ng 8 (l.map kS++[])=true:=by rw[aP];exact yx l
 simp only[lJ,pO,hs,if_true,cutV,Option.getD_none,Option.getD_some,bJ,aH,Int.toNat_zero,List.drop_zero];rw[if_pos ⟨by omega,by omega,by omega,rfl,trivial,by omega,hn⟩,upV,List.map_take];congr 2;simp only[Gj]
 by_cases h0:0<n
 ·rw[if_pos h0,if_pos h0]
 ·rw[if_neg h0,if_neg h0]
  cases l with
  |nil=>cases nn<;>rfl
  |cons e l=>
   have:nn=true:=by simpa using h
   subst this;rfl
section
variable {Γ:jI} {m:Store}
theorem QZ{X1 X2:Blk}(h1:nbB 0 X1)(h2:nbB 0 X2):∀ X∈[X1,X2],nbB 0 X:=by
 intro X hX;simp only[di,bW,or_false]at hX
 rcases hX with rfl|rfl<;>assumption
theorem XF{h:Hl}{X1 X2:Blk}{a b:Nat}(h1:lk h a=some X1)(h2:lk h b=some X2):∀ (i c:Nat) (X:Blk),[a,b][i]? = some c→[X1,X2][i]? = some X→lk h c=some X:=by
 intro i c X hb hX
 match i with
 |0=>cases hb;cases hX;exact h1
 |1=>cases hb;cases hX;exact h2
 |i+2=>simp at hb
end
theorem zch(b:UInt8)(r:List UInt8):nameB (b::r)=(decide ((b::r).length≤20)&&xw b && !(lI.contains (b::r))&&r.all fun x=>xw x||dig x):=by
 have hall:∀ l:List UInt8,decide ((l.takeWhile fun x=>xw x||dig x).length=l.length)=l.all fun x=>xw x||dig x:=by
  intro l
  induction l with
  |nil=>rfl
  |cons x l ih=>
   rw[List.takeWhile_cons,List.all_cons];cases hx:(xw x||dig x)
   ·simp
   ·simp only[if_true,au,dH,Nat.add_right_cancel_iff];exact ih
 have hd:xw b=true→dig b=false:=by
  intro h;cases hd:dig b
  ·rfl
  ·simp only[xw,dig,dm,aG,decide_eq_true_eq,beq_iff_eq]at h hd;omega
 simp only[nameB,hall,List.all_cons,fP,show((b::r)==[])=false from rfl,aN,dH];cases h1:xw b
 ·cases dig b<;>cases lI.contains (b::r)<;>simp
 ·rw[hd h1];cases lI.contains (b::r)<;>simp
section
variable {Γ:jI} {m:Store}
theorem FH(n:Int):jB Tryz.prog Γ 103 [it n] m fun o m'=>o = .ret (.val (.bool (qO n)))∧m'=m:=by
 refine kJ (kM mixed zgM zjM jY nbY ?_);simp only[zjN,ss0,aC,ag];simp only[ge_iff_le,ssH,ag,ae,reduceIte,af,ak,ai,aj];cases h:decide (1≤n)
 ·simp only[h,ssH,ag,ae,reduceIte,af,ak,ai,aj];exact jy jC ⟨nbZ,by simp only[qO,h];rfl⟩
 ·simp only[h,ssH,ag,ae,reduceIte,af,ak,ai,aj];exact jy jC ⟨nbZ,by simp only[qO,h];rfl⟩
theorem ZA(s:List UInt8):jB Tryz.prog Γ 104 [bs s] m fun o m'=>o = .ret (.val (.bool (nameB s)))∧m'=m:=by
 refine kJ (kM mixed zgL zjK jY nbY ?_);simp only[zjL,ss0,aC,ag];simp only[pU,gt_iff_lt,ssH,ag,ae,reduceIte,af,ak,ai,aj]
 cases s with
 |nil=>
  simp only[show decide ((([]:List UInt8).length:Int)<1)=true from rfl,ay,show decide (((0:Nat):Int)<1)=true from rfl,ssH,ag,ae,reduceIte,af,ak,ai,aj];exact jy jC ⟨nbZ,rfl⟩
 |cons b r=>
  rw[zch];have hx:zJ (bs (b::r)) (.val (.int .i64 0))=some (by8 b):=og (i:=0) rfl;have hd1:decide ((((b::r).length:Nat):Int)<1)=false:=by simp only[au];exact decide_eq_false (by omega)
  have hd1':decide (((r.length+1:Nat):Int)<1)=false:=decide_eq_false (by omega)
  by_cases hl:(b::r).length≤20
  ·have hd2:decide ((20:Int)<((r.length+1:Nat):Int))=false:=by simp only[au]at hl;exact decide_eq_false (by omega)
   have hl2:decide ((b::r).length≤20)=true:=decide_eq_true hl;rw[hl2,dH];simp only[hd1,hd1',hd2,hx,ssH,ag,ae,reduceIte,af,ak,ai,aj];refine jE (by exact fun m=>xW b) nbY nbY ?_;cases h1:xw b
   ·simp only[aN,ssH,ag,ae,reduceIte,af,ak,ai,aj];exact jy jC ⟨nbZ,rfl⟩
   ·simp only[aO,ssH,ag,ae,reduceIte,af,ak,ai,aj];refine jE (by exact fun m=>Nq (b::r)) nbY nbY ?_;cases h2:lI.contains (b::r)
    case true=>
     simp only[ssH,ag,ae,reduceIte,af,ak,ai,aj];exact jy jC ⟨nbZ,rfl⟩
    simp only[aN,dH,ssH,ag,ae,reduceIte,af,ak,ai,aj];refine nC [0,3] 40 (fun n vs h=>∃ i:Nat,vs=[bs (b::r),it (i+1:Nat)]∧i+n=r.length+1∧i≤r.length∧(r.take i).all (fun x=>xw x||dig x)=true) (r.length+1) (by decide) (by decide) (aK 0) (jZ rfl (aY _) (by decide) (by simp) (by show nbs 0 [bs (b::r),it 1];simp only[nbS]) (fun a ha=>by omega) ⟨0,rfl,by omega,by omega,by simp⟩) ?_;rintro n t h J hJ hlt ⟨i,hv,hn,hi,hpre⟩;simp only[aZ,aQ,and_true]at hv;obtain⟨g0,g3⟩:=hv;rw[mO hlt];simp only[jW,upTo,g0,g3,pU,ssH,ag,ae,reduceIte,af,ak,ai,aj]
    by_cases hil:i<r.length
    ·have hx2:(b::r)[i+1]? = some r[i]:=by simp[aI hil]
     have hx3:r[i]? = some r[i]:=aI hil;generalize r[i]=c at hx2 hx3
     have hany:(r.take (i+1)).all (fun x=>xw x||dig x)=(xw c||dig c):=by
      rw[bg,hx3,List.all_append,hpre];simp
     have hfin:(xw c||dig c)=false→r.all (fun x=>xw x||dig x)=false:=by
      intro hc;rw[List.all_eq_false];exact⟨c,bI hx3,by simpa using hc⟩
     simp only[show decide (((i+1:Nat):Int)<((r.length+1:Nat):Int))=true from decide_eq_true (by omega),og hx2,ssH,ag,ae,reduceIte,af,ak,ai,aj];refine jE (by exact fun m=>xW c) nbY nbY ?_;cases h3:xw c
     ·simp only[aN,og hx2,ssH,ag,ae,reduceIte,af,ak,ai,aj];refine jE (by exact fun m=>zF c) nbY nbY ?_;cases h4:dig c
      ·simp only[aN,ssH,ag,ae,reduceIte,af,ak,ai,aj];exact jy jC ⟨nbZ,by rw[hfin (by rw[h3,h4];rfl)];rfl⟩
      ·simp only[aO,jQ (show i+1<4611686018427387904 by simp only[au]at hl;omega),ssH,ag,ae,reduceIte,af,ak,ai,aj];refine⟨_,hJ (n-1) (aK 0) _ (by omega) (jZ rfl (aY _) (by decide) (by simp) (by show nbs 0 [bs (b::r),it (i+1+1:Nat)];simp only[nbS]) (fun a ha=>by omega) ⟨i+1,rfl,by omega,by omega,by rw[hany,h3,h4];rfl⟩)⟩
     ·simp only[aO,jQ (show i+1<4611686018427387904 by simp only[au]at hl;omega),ssH,ag,ae,reduceIte,af,ak,ai,aj];refine⟨_,hJ (n-1) (aK 0) _ (by omega) (jZ rfl (aY _) (by decide) (by simp) (by show nbs 0 [bs (b::r),it (i+1+1:Nat)];simp only[nbS]) (fun a ha=>by omega) ⟨i+1,rfl,by omega,by omega,by rw[hany,h3];rfl⟩)⟩
    ·simp only[show decide (((i+1:Nat):Int)<((r.length+1:Nat):Int))=false from decide_eq_false (by omega),ssH,ag,ae,reduceIte,af,ak,ai,aj];rw[bi (by omega)]at hpre;exact jy jC ⟨nbZ,by rw[hpre];rfl⟩
  ·have hd2:decide ((20:Int)<((r.length+1:Nat):Int))=true:=by simp only[au]at hl;exact decide_eq_true (by omega)
   have hl2:decide ((b::r).length≤20)=false:=decide_eq_false hl;rw[hl2];simp only[hd1,hd1',hd2,fC,ssH,ag,ae,reduceIte,af,ak,ai,aj];exact jy jC ⟨nbZ,rfl⟩
end
def lg0:Lg:=⟨0,[],[]⟩
section
variable {Γ:jI} {m:Store}
theorem zbP(E:Env Γ){nn:Bool}{x:Lg}{g:FuncId}{X1 X2:Blk}{a:Bool}{y:Lg}{e:Int}(ha:a=true∨y.l=[])(hX:∀ X∈[X1,X2],nbB 0 X)
  (hdo:lgB x=true→O1 Tryz.prog Γ g [] none [X1,X2] fun v=>v = .tup [lgV a y,it e]) :
  O1 Tryz.prog Γ 150 [lgV nn x] (some g) [X1,X2] fun v=>v=if lgB x=true then (if e=0 then .tup [lgV a y,it 0]else .tup [lgV false lg0,it e])else .tup [lgV false lg0,it 4]:=by
 have hnb:=ql (k:=0) nn x;have hna:=ql (k:=0) a y;have hn0:=ql (k:=0) false lg0;have hwa:=QX ha;have hw0:=QX (nn:=false) (x:=lg0) (.inr rfl);refine WF mixed zgj zji jY (by simp only[hnb,nbS]) hX ?_;simp only[zjj,BC,au,ay,ag,aK,List.range.loop,aZ,lgV,ss0,aC,ag];simp only[jA,jD,ssH,ag,ae,reduceIte,af,ak,ai,aj];refine jE (by exact fun m=>Jn E nn x) (by simp only[lgV]at hnb;simp only[hnb,nbS]) nbY ?_;cases hx:lgB x
 ·simp only[aF,if_false,ssH,ag,ae,reduceIte,af,ak,ai,aj];exact jy (v:=.tup [lgV false lg0,it 4]) rfl ⟨by simp only[wN,wNs,hw0,hn0,nbS],by simp only[wN,wNs,hw0];rfl⟩
 ·simp only[if_true,ssH,ag,ae,reduceIte,af,ak,ai,aj];refine Yz [0,1] (hdo hx) rfl rfl (by decide) (XF rfl rfl) nbY hX (by rintro v rfl;simp only[hna,nbS]) ?_;rintro v rfl;simp only[hdrop,lgV,jA,jD,ssH,ag,ae,reduceIte,af,ak,ai,aj]
  by_cases he:e=0
  ·subst he;simp only[if_true,jA,jD,ssH,ag,ae,reduceIte,af,ak,ai,aj];exact jy (v:=.tup [lgV a y,it 0]) rfl ⟨by simp only[wN,wNs,hwa,hna,nbS],by simp only[wN,wNs,hwa];rfl⟩
  ·have hb:(e != 0)=true:=by simpa using he
   simp only[hb,if_neg he,jA,jD,ssH,ag,ae,reduceIte,af,ak,ai,aj];exact jy (v:=.tup [lgV false lg0,it e]) rfl ⟨by simp only[wN,wNs,hw0,hn0,nbS],by simp only[wN,wNs,hw0];rfl⟩
def doL(x:Lg)(r:Bool×Lg×Int):Bool×Lg×Int:=if lgB x=true then (if r.2.2=0 then r else (false,lg0,r.2.2))else (false,lg0,4)
theorem ze7{x:Lg}{r:Bool×Lg×Int}(h:r.1=true∨r.2.1.l=[]):(doL x r).1=true∨(doL x r).2.1.l=[]:=by
 unfold doL
 split
 ·split
  ·exact h
  ·exact .inr rfl
 ·exact .inr rfl
theorem zhj{x:Lg}{r:Bool×Lg×Int}:(if lgB x=true then (if r.2.2=0 then V.tup [lgV r.1 r.2.1,it 0]else .tup [lgV false lg0,it r.2.2])else .tup [lgV false lg0,it 4]) = .tup [lgV (doL x r).1 (doL x r).2.1,it (doL x r).2.2]:=by
 unfold doL
 by_cases h:lgB x=true
 ·by_cases he:r.2.2=0
  ·simp only[if_pos h,if_pos he];rw[he]
  ·simp only[if_pos h,if_neg he]
 ·simp only[if_neg h]
end
theorem RV{k:Nat}{A:Blk}{r:Hl}(hA:nbB k A):∀ a<1,∀ x,lk (some A::r) a=some x→nbB k x:=by
 intro a ha x hx;have:a=0:=by omega
 subst this;cases hx;exact hA
theorem zhH(a b:Int)(c:List UInt8):nbs 0 [.agg [it a,it b,bs c]]:=by simp only[nbS]
section
variable {Γ:jI} {m:Store}
set_option maxHeartbeats 6400000 in
theorem J4(e:Ent):jB Tryz.prog Γ 51 [kS e] m fun o m'=>o = .ret (.val (.bool (nR e)))∧m'=m:=by
 obtain⟨c,q,k,n,s,ck,cn,cs⟩:=e;refine kJ (kM mixed ziC zkN jY (by simp only[kS,nbS]) ?_);simp only[F51,kS,ss0,aC,ag];simp only[jA,ssH,ag,ae,reduceIte,af,ak,ai,aj];refine jE (by exact fun m=>FH c) nbY nbY ?_;have hk:k=1∨k=4∨k=2∨k=3∨k=5∨k=6∨k=7∨(k≠1∧k≠4∧k≠2∧k≠3∧k≠5∧k≠6∧k≠7):=by omega
 cases h1:qO c
 ·simp only[aN,ssH,ag,ae,reduceIte,af,ak,ai,aj];exact jy jC ⟨nbZ,by simp[jS,nR,h1]⟩
 simp only[aO,ssH,ag,ae,reduceIte,af,ak,ai,aj];refine jE (by exact fun m=>FH q) nbY nbY ?_;cases h2:qO q
 ·simp only[aN,ssH,ag,ae,reduceIte,af,ak,ai,aj];exact jy jC ⟨nbZ,by simp[jS,nR,h2]⟩
 simp only[aO,ssH,ag,ae,reduceIte,af,ak,ai,aj]
 rcases hk with rfl|rfl|rfl|rfl|rfl|rfl|rfl|⟨n1,n4,n2,n3,n5,n6,n7⟩
 case inr.inr.inr.inr.inr.inr.inr=>
  have b7:(k != 7)=true:=by simpa using n7
  have b1:(k != 1)=true:=by simpa using n1
  cases h5:decide (ck=0∧cn=0∧cs=[])<;>cases h3:(s==[])<;>simp only[b7,b1,xA,h5,JP,h3,aO,aN,ssH,ag,ae,reduceIte,af,ak,ai,aj]
  case true.true=>
   simp only[show(k==1)=false by simpa using n1,show(k==4)=false by simpa using n4,show(k==2)=false by simpa using n2,show(k==3)=false by simpa using n3,show(k==5)=false by simpa using n5,show(k==6)=false by simpa using n6,show(k==7)=false by simpa using n7,ssH,ag,ae,reduceIte,af,ak,ai,aj];exact jy jC ⟨nbZ,by simp[jS,nR,n1,n2,n3,n4,n5,n6,n7]⟩
  all_goals exact jy jC ⟨nbZ,by simp[jS,nR,n1,n2,n3,n4,n5,n6,n7]⟩
 case inr.inr.inr.inr.inr.inr.inl=>
  cases h3:(s==[])<;>cases h4:(n==0)<;>simp only[JP,h3,h4,aO,aN,ssH,ag,ae,reduceIte,af,ak,ai,aj]
  case true.true=>
   refine jE (by exact fun m=>zac ck cn cs) (zhH _ _ _) nbY ?_;simp only[ssH,ag,ae,reduceIte,af,ak,ai,aj];exact jy jC ⟨nbZ,by simp only[jL,jM,nR,h1,h2,h3,h4];rfl⟩
  all_goals exact jy jC ⟨nbZ,by simp only[jL,jM,nR,h1,h2,h3,h4];rfl⟩
 case inl=>
  cases h5:decide (ck=0∧cn=0∧cs=[])
  ·simp only[xA,h5,aN,ssH,ag,ae,reduceIte,af,ak,ai,aj];exact jy jC ⟨nbZ,by simp only[jL,jM,nR,AC,h1,h2,h5,ed];rfl⟩
  ·simp only[xA,h5,aO,ssH,ag,ae,reduceIte,af,ak,ai,aj];refine jE (by exact fun m=>ZA s) nbY nbY ?_;cases h3:nameB s<;>cases h4:(n==0)<;>cases h6:(n==1)<;>simp only[h4,h6,ssH,ag,ae,reduceIte,af,ak,ai,aj]<;>exact jy jC ⟨nbZ,by simp only[jL,jM,nR,AC,h1,h2,h3,h4,h5,h6];rfl⟩
 case inr.inl=>
  cases h5:decide (ck=0∧cn=0∧cs=[])<;>cases h3:(s==[])<;>simp only[xA,h5,JP,h3,aO,aN,ssH,ag,ae,reduceIte,af,ak,ai,aj]
  case true.true=>
   refine jE (by exact fun m=>FH n) nbY nbY ?_;simp only[ssH,ag,ae,reduceIte,af,ak,ai,aj];exact jy jC ⟨nbZ,by simp only[jL,jM,nR,AC,h1,h2,h3,h5];cases qO n<;>rfl⟩
  all_goals exact jy jC ⟨nbZ,by simp only[jL,jM,nR,AC,h1,h2,h3,h5,ed];rfl⟩
 all_goals
  cases h5:decide (ck=0∧cn=0∧cs=[])<;>cases h3:(s==[])<;>cases h4:(n==0)<;>simp only[xA,h4,h5,JP,h3,aO,aN,ssH,ag,ae,reduceIte,af,ak,ai,aj]<;>exact jy jC ⟨nbZ,by simp only[jL,jM,nR,AC,h1,h2,h3,h4,h5,ed];rfl⟩
theorem J3(nn:Bool)(x:Lg):jB Tryz.prog Γ 92 [lgV nn x] m fun o m'=>o = .ret (.val (.bool (lgB x)))∧m'=m:=by
 obtain⟨b,c,l⟩:=x;have hnb:=ql (k:=0) nn ⟨b,c,l⟩;have hnl:=kL (k:=0) nn l;have hlb:=LH nn ⟨b,c,l⟩;have hno:lgB ⟨b,c,l⟩≠true→V.val (.bool false) = .val (.bool (lgB ⟨b,c,l⟩)):=fun h=>by rw[Bool.eq_false_iff.2 h]
 refine kJ (kM mixed zii zkA jY (by simp only[hnb,nbS]) ?_);simp only[F92,lgV,ss0,aC,ag];simp only[lJ,aH,gt_iff_lt,Ae,jA,ssH,ag,ae,reduceIte,af,ak,ai,aj]
 by_cases h1:b<0
 ·simp only[decide_eq_true h1,ssH,ag,ae,reduceIte,af,ak,ai,aj];exact jy jC ⟨nbZ,hno fun h=>by simp only[lgB,aG,decide_eq_true_eq]at h;omega⟩
 simp only[decide_eq_false h1,ssH,ag,ae,reduceIte,af,ak,ai,aj]
 by_cases h2:2147483647<b
 ·simp only[decide_eq_true h2,ssH,ag,ae,reduceIte,af,ak,ai,aj];exact jy jC ⟨nbZ,hno fun h=>by simp only[lgB,aG,decide_eq_true_eq]at h;omega⟩
 simp only[decide_eq_false h2,ssH,ag,ae,reduceIte,af,ak,ai,aj]
 by_cases h3:(65536:Int)<(c.length:Int)
 ·simp only[decide_eq_true h3,ssH,ag,ae,reduceIte,af,ak,ai,aj];exact jy jC ⟨nbZ,hno fun h=>by simp only[lgB,aG,decide_eq_true_eq]at h;omega⟩
 simp only[decide_eq_false h3,UC,Ae,ssH,ag,ae,reduceIte,af,ak,ai,aj];cases h4:((c==[]) != (b==0))
 case true=>
  simp only[ssH,ag,ae,reduceIte,af,ak,ai,aj];refine jy jC ⟨nbZ,hno fun h => ?_⟩;simp only[lgB,aG,beq_iff_eq]at h;rw[h.1.1.1.2]at h4;simp at h4
 simp only[aH,gt_iff_lt,ssH,ag,ae,reduceIte,af,ak,ai,aj]
 by_cases h5:(64:Int)<(l.length:Int)
 ·simp only[decide_eq_true h5,ssH,ag,ae,reduceIte,af,ak,ai,aj];exact jy jC ⟨nbZ,hno fun h=>by simp only[lgB,aG,decide_eq_true_eq]at h;omega⟩
 have hw:IntKind.i64.wrap (2147483647-b)=2147483647-b:=wrap_i64 (by omega) (by omega);simp only[decide_eq_false h5,aH,gt_iff_lt,hw,ssH,ag,ae,reduceIte,af,ak,ai,aj]
 by_cases h6:2147483647-b<(l.length:Int)
 ·simp only[decide_eq_true h6,ssH,ag,ae,reduceIte,af,ak,ai,aj];exact jy jC ⟨nbZ,hno fun h=>by simp only[lgB,aG,decide_eq_true_eq]at h;omega⟩
 simp only[decide_eq_false h6,ssH,ag,ae,reduceIte,af,ak,ai,aj]
 have hb:lgB ⟨b,c,l⟩=l.all nR:=by
  have h4':((c==[])==(b==0))=true:=by
   revert h4;cases (c==[])<;>cases (b==0)<;>simp
  simp only[lgB,h4',decide_eq_true (show(0:Int)≤b by omega),decide_eq_true (show b≤2147483647 by omega),decide_eq_true (show c.length≤65536 by omega),decide_eq_true (show l.length≤64 by omega),decide_eq_true (show(l.length:Int)≤2147483647-b by omega),dH]
 rw[hb];refine nC [1,3] 56 (fun n vs h=>∃ i:Nat,vs=[.ptr 0 0,it i]∧h=[some (Ci nn ⟨b,c,l⟩)]∧i+n=l.length+1∧i≤l.length∧(l.take i).all nR=true) (l.length+1) (by decide) (by decide) (aK 1) (jZ rfl (bU _) (by decide) (by simp) (by show nbs 1 [.ptr 0 0,it 0];simp only[nbS];decide) (RV (by have:=kL (k:=1) nn l;simp only[lJ,nbS]at this;simp only[this,nbS])) ⟨0,rfl,rfl,by omega,by omega,by simp⟩) ?_;rintro n t h J hJ hlt ⟨i,hv,rfl,hn,hi,hpre⟩;simp only[aZ,aQ,and_true]at hv;obtain⟨g1,g3⟩:=hv;rw[mO hlt];simp only[jW,upTo,g1,g3,Ci,lJ,aH,ssH,ag,ae,reduceIte,af,ak,ai,aj]
 by_cases hil:i<l.length
 ·rw[show decide ((i:Int)<(l.length:Int))=true by simp;omega];have hx:l[i]? = some l[i]:=aI hil;generalize l[i]=e at hx;have hne:=nX (k:=0) e
  have hall:(l.take (i+1)).all nR=nR e:=by
   rw[bg,hx,List.all_append,hpre];simp
  simp only[EJ hx,ssH,ag,ae,reduceIte,af,ak,ai,aj];refine jE (by exact fun m=>J4 e) (by simp only[kS]at hne;simp only[hne,nbS]) nbY ?_;cases he:nR e
  ·simp only[aN,ssH,ag,ae,reduceIte,af,ak,ai,aj];refine jy jC ⟨nbZ,?_⟩
   have:l.all nR=false:=by
    rw[List.all_eq_false];exact⟨e,bI hx,by rw[he];decide⟩
   rw[this];rfl
  ·simp only[aO,jQ (show i<4611686018427387904 by omega),ssH,ag,ae,reduceIte,af,ak,ai,aj];refine⟨_,hJ (n-1) (aK 1) _ (by omega) (jZ rfl (bU _) (by decide) (by simp) (by show nbs 1 [.ptr 0 0,it (i+1:Nat)];simp only[nbS];decide) (RV (by have:=kL (k:=1) nn l;simp only[lJ,nbS]at this;simp only[this,nbS])) ⟨i+1,rfl,rfl,by omega,by omega,by rw[hall,he]⟩)⟩
 ·rw[show decide ((i:Int)<(l.length:Int))=false by simp;omega];simp only[ssH,ag,ae,reduceIte,af,ak,ai,aj];rw[bi (by omega)]at hpre;rw[hpre];exact jy jC ⟨nbZ,rfl⟩
theorem FD(nn:Bool)(x:Lg):jB Tryz.prog Γ 58 [lgV nn x] m fun o m'=>o = .ret (it (if lgB x=true then x.b+x.l.length else 0))∧m'=m:=by
 have hnb:=ql (k:=0) nn x;have hnl:=kL (k:=0) nn x.l;refine kJ (kM mixed ziy zkJ jY (by simp only[hnb,nbS]) ?_);simp only[F58,lgV,ss0,aC,ag];simp only[jA,ssH,ag,ae,reduceIte,af,ak,ai,aj];refine jE (by exact fun m=>J3 nn x) (by simp only[hnl,nbS]) nbY ?_;cases h:lgB x
 ·simp only[aN,aF,if_false,ssH,ag,ae,reduceIte,af,ak,ai,aj];exact jy jC ⟨nbZ,rfl⟩
 ·have hx:0≤x.b∧x.b≤2147483647∧x.l.length≤64:=by simp only[lgB,aG,decide_eq_true_eq]at h;omega
  have hw:IntKind.i64.wrap (x.b+(x.l.length:Int))=x.b+(x.l.length:Int):=wrap_i64 (by omega) (by omega);simp only[aO,if_true,lJ,aH,hw,ssH,ag,ae,reduceIte,af,ak,ai,aj];exact jy jC ⟨nbZ,rfl⟩
end
end Go.Av.Fn
namespace Go.Av
section
variable {P:Program}
def zav(P:Program)(T0:TypeId)(xs ys:Array Value):List Field→Option Bool
 |[]=>some true
 | f :: fs => if f.name = "_" then zav P T0 xs ys fs else match kF P (part f.type xs f.offset), kF P (part f.type ys f.offset) with
  |some a,some b=>match (match a,b with | .agg az',.agg bs'=>if f.type=T0 then eqF P az' bs' (P.fieldsOf T0).toList else none|a,b=>LU P f.type a b),zav P T0 xs ys fs with
   |some r,some q=>some (r&&q)
   |_,_=>none
  |_,_=>none
theorem Gf{T0:TypeId}(ht:P.underlying T0=some (.struct (P.fieldsOf T0)))(hp:P.stoodInHeld T0=false){xs ys:Array Value}{d:Nat}:∀ {fs:List Field} {r:Bool},zav P T0 xs ys fs=some r→kF P (Op.eqFields (d+1+1) xs ys fs)=some r
 |[],r,h=>by
  simp only[zav,ax]at h;subst h;rfl
 |f::fs,r,h=>by
  simp only[zav]at h
  split at h
  ·rename_i hn;simp only[Op.eqFields,hn,ne_eq,not_true_eq_false,if_false];exact Gf ht hp h
  ·rename_i hn
   split at h
   ·rename_i a b ha hb
    split at h
    ·rename_i q1 q2 h1 h2;simp only[ax]at h;subst h
     have key:kF P (Op.equalIn (d+1+1) f.type a b)=some q1:=by
      split at h1
      ·split at h1
       ·rename_i e;rw[e,ru _ _ _ _ ht hp];exact EO h1
       ·cases h1
      ·exact zW h1
     simp only[Op.eqFields,ne_eq,hn,not_false_eq_true,if_true,kU,ha,hb,bC,key];cases q1
     ·rfl
     ·simpa using Gf ht hp h2
    ·cases h
   ·cases h
theorem VK{T T0:TypeId}{xo yo:Operand}{cs cs':List V}{xs ys:List Value}{r:Bool}(ht:P.underlying T=some (.struct (P.fieldsOf T)))(hp:P.stoodInHeld T=false)(hg:P.eqGuardType P.depth T=false)
  (ht0:P.underlying T0=some (.struct (P.fieldsOf T0))) (hp0:P.stoodInHeld T0=false)
  (h1:He cs=some xs) (h2:He cs'=some ys) (he:zav P T0 xs.toArray ys.toArray (P.fieldsOf T).toList=some r) :
  kX P .eql T .other xo yo (.agg cs) (.agg cs')=some (.val (.bool r))∧kX P .neq T .other xo yo (.agg cs) (.agg cs')=some (.val (.bool !r)):=by
 have e0:kF P (Op.equal T (.agg xs.toArray) (.agg ys.toArray))=some r:=by
  show kF P (Op.equalIn (9997+1+1+1) T _ _)=some r;rw[ru _ _ _ _ ht hp];exact Gf ht0 hp0 he
 have g:∀ op,kF P (eqGuard op T xo yo (.agg xs.toArray) (.agg ys.toArray))=some ():=by
  intro op;unfold eqGuard
  split<;>simp only[aO,aN,aF,if_false,if_true,kU,rP,bC,hg,lS]
 have r1:raw (.agg cs)=some (.agg xs.toArray):=by simp only[raw,h1,eu]
 have r2:raw (.agg cs')=some (.agg ys.toArray):=by simp only[raw,h2,eu]
 refine⟨?_,?_⟩
 ·simp only[kX,nS,lm,fC,ed,Bool.or_false,aF,if_false,r1,r2,zn,binOp,kU,g,bC,e0,lS];rfl
 ·simp only[kX,nS,lm,fC,ed,Bool.or_false,aF,if_false,r1,r2,zn,binOp,kU,g,bC,e0,lS];rfl
end
end Go.Av
namespace Go.Av.Fn
open Go.Proofs
theorem ze1(xo yo:Operand)(a b:Ent):kX Tryz.prog .eql 42 .other xo yo (kS a) (kS b)=some (.val (.bool (decide (a=b))))∧kX Tryz.prog .neq 42 .other xo yo (kS a) (kS b)=some (.val (.bool (!decide (a=b)))):=by
 obtain⟨c,q,k,n,s,ck,cn,cs⟩:=a;obtain⟨c',q',k',n',s',ck',cn',cs'⟩:=b
 have h:=VK (P:=Tryz.prog) (T:=42) (T0:=40) (xo:=xo) (yo:=yo) (cs:=[it c,it q,it k,it n,bs s,it ck,it cn,bs cs]) (cs' := [it c',it q',it k',it n',bs s',it ck',it cn',bs cs'])
  (xs:=[.int .i64 c,.int .i64 q,.int .i64 k,.int .i64 n,.string ⟨s.toArray⟩,.int .i64 ck,.int .i64 cn,.string ⟨cs.toArray⟩]) (ys:=[.int .i64 c',.int .i64 q',.int .i64 k',.int .i64 n',.string ⟨s'.toArray⟩,.int .i64 ck',.int .i64 cn',.string ⟨cs'.toArray⟩])
  (r:=(c==c'&&(q==q'&&(k==k'&&(n==n'&&((ByteArray.mk s.toArray).toList==(ByteArray.mk s'.toArray).toList&&((ck==ck'&&(cn==cn'&&((ByteArray.mk cs.toArray).toList==(ByteArray.mk cs'.toArray).toList&&true)))&&true)))))))
  (by kernel_rfl) (by kernel_rfl) (by kernel_rfl) (by kernel_rfl) (by kernel_rfl) rfl rfl (by kernel_rfl)
 have e:(c==c'&&(q==q'&&(k==k'&&(n==n'&&((ByteArray.mk s.toArray).toList==(ByteArray.mk s'.toArray).toList&&((ck==ck'&&(cn==cn'&&((ByteArray.mk cs.toArray).toList==(ByteArray.mk cs'.toArray).toList&&true)))&&true))))))=decide ((⟨c,q,k,n,s,ck,cn,cs⟩:Ent)=⟨c',q',k',n',s',ck',cn',cs'⟩):=by
  simp only[qY];rw[dw];simp[and_assoc]
 rw[e]at h;exact h
theorem zjW{G:Gh}{es more:List V}{tok:Tok}{u:Value}(h:ku G (.sl es more tok) u):ku G (.sl es more .no) u:=by
 cases h with
 |nil h=>exact .nil rfl
 |sl a b c d e f=>exact .sl a b c d e trivial
theorem VG{P:Program}{Γ:jI}{f:FuncId}{args args':List V}{m:Store}{R:Out→Store→Prop}(h:∀ G cargs,kD G args cargs→kD G args' cargs)(hc:jB P Γ f args' m R):jB P Γ f args m R:=
 ⟨hc.1,fun G B0 mF w cargs hD hR hL=>hc.2 G B0 mF w cargs hD hR (h G cargs hL)⟩
section
variable {Γ:jI} {m:Store}
theorem ZH(nn:Bool){t:Tok}(la lb:List Ent)(ht:nbT 0 t)(hl:la.length<4611686018427387904) :
  jB Tryz.prog Γ 93 [.sl (la.map kS) [] t,lJ nn lb] m fun o m'=>o = .ret (.val (.bool (decide (la=lb))))∧m'=m:=by
 have hnb:=kL (k:=0) nn lb;have hna:=tZ (k:=0) nX la;refine kJ (kM mixed zih zkz jY (by simp only[hnb,hna,ht,nbS]) ?_);simp only[F93,ss0,aC,ag];simp only[lJ,aH,ssH,ag,ae,reduceIte,af,ak,ai,aj]
 by_cases h0:la.length=lb.length
 case neg=>
  have hb:((la.length:Int) != (lb.length:Int))=true:=by simp;omega
  simp only[hb,ssH,ag,ae,reduceIte,af,ak,ai,aj];exact jy jC ⟨nbZ,by rw[decide_eq_false (by rintro rfl;exact h0 rfl)];rfl⟩
 have hb:((la.length:Int) != (lb.length:Int))=false:=by simp;omega
 simp only[hb,ssH,ag,ae,reduceIte,af,ak,ai,aj];refine nC [0,1,5] 26 (fun n vs h=>∃ i:Nat,vs=[.sl (la.map kS) [] t,lJ nn lb,it i]∧i+n=la.length+1∧i≤la.length∧la.take i=lb.take i) (la.length+1) (by decide) (by decide) (aK 0) (jZ rfl (aY _) (by decide) (by simp) (by show nbs 0 [.sl (la.map kS) [] t,lJ nn lb,it 0];simp only[hnb,hna,ht,nbS]) (fun a ha=>by omega) ⟨0,rfl,by omega,by omega,by simp⟩) ?_;rintro n t1 h J hJ hlt ⟨i,hv,hn,hi,hpre⟩;simp only[aZ,aQ,and_true]at hv;obtain⟨h0',h1,h5⟩:=hv;rw[mO hlt];simp only[jW,upTo,h0',h1,h5,lJ,aH,ssH,ag,ae,reduceIte,af,ak,ai,aj]
 by_cases hil:i<la.length
 ·rw[show decide ((i:Int)<(la.length:Int))=true by simp;omega];have hx:la[i]? = some la[i]:=aI hil;have hy:lb[i]? = some (lb[i]'(by omega)):=aI (by omega);generalize la[i]=a at hx;generalize (lb[i]'(by omega))=b at hy;have hc:=(ze1 (.tmp 20) (.tmp 24) a b).2;simp only[kS]at hc;simp only[EJ hx,EJ hy,hc,ssH,ag,ae,reduceIte,af,ak,ai,aj]
  by_cases he:a=b
  ·simp only[decide_eq_true he,aO,jQ (show i<4611686018427387904 by omega),ssH,ag,ae,reduceIte,af,ak,ai,aj];refine⟨_,hJ (n-1) (aK 0) _ (by omega) (jZ rfl (aY _) (by decide) (by simp) (by show nbs 0 [.sl (la.map kS) [] t,lJ nn lb,it (i+1:Nat)];simp only[hnb,hna,ht,nbS]) (fun a ha=>by omega) ⟨i+1,rfl,by omega,by omega,by rw[bg,bg,hx,hy,hpre,he]⟩)⟩
  ·simp only[decide_eq_false he,aN,ssH,ag,ae,reduceIte,af,ak,ai,aj];refine jy jC ⟨nbZ,?_⟩;rw[decide_eq_false]
   ·rfl
   ·rintro rfl;rw[hx]at hy;exact he (fH hy)
 ·rw[show decide ((i:Int)<(la.length:Int))=false by simp;omega];simp only[ssH,ag,ae,reduceIte,af,ak,ai,aj];refine jy jC ⟨nbZ,?_⟩;rw[bi (by omega),bi (by omega)]at hpre;rw[decide_eq_true hpre];rfl
theorem Wj(nn:Bool){t:Tok}(la lb:List Ent)(hl:la.length<4611686018427387904) :
  jB Tryz.prog Γ 93 [.sl (la.map kS) [] t,lJ nn lb] m fun o m'=>o = .ret (.val (.bool (decide (la=lb))))∧m'=m:=by
 refine VG (fun G cargs h => ?_) (ZH nn (t:=.no) la lb trivial hl)
 cases h with
 |cons a b=>exact .cons (zjW a) b
end
def Tq(base a b:Int)(i:Nat):Bool:=decide (a<base+1+i)&&decide (base+1+i≤b)
def bet(base a b:Int):Nat→List Ent→List Ent
 |_,[]=>[]
 |i,e::l=>if Tq base a b i=true then e::bet base a b (i+1) l else bet base a b (i+1) l
theorem YY{base a b:Int}:∀ (l1 l2:List Ent) (i:Nat),bet base a b i (l1++l2)=bet base a b i l1++bet base a b (i+l1.length) l2
 |[],l2,i=>rfl
 |e::l1,l2,i=>by
  simp only[aA,bet,au];rw[YY l1 l2 (i+1),show i+1+l1.length=i+(l1.length+1)by omega]
  split<;>rfl
theorem YX{base a b:Int}:∀ (l:List Ent) (i:Nat),(bet base a b i l).length≤l.length
 |[],i=>aY _
 |e::l,i=>by
  have:=YX (base:=base) (a:=a) (b:=b) l (i+1);simp only[bet,au]
  split<;>simp<;>omega
theorem VD{base a b:Int}{n:Nat}:∀ (l:List Ent) (i:Nat),(∀ j,i≤j→j<i+l.length→Tq base a b j=decide (n≤j))→bet base a b i l=l.drop (n-i)
 |[],i,_=>by simp[bet]
 |e::l,i,h=>by
  have h0:=h i (aY _) (by simp);have ih:=VD (base:=base) (a:=a) (b:=b) (n:=n) l (i+1) fun j h1 h2=>h j (by omega) (by simp only[au];omega);simp only[bet,h0]
  by_cases hn:n≤i
  ·rw[if_pos (decide_eq_true hn),ih,show n-i=0 by omega,show n-(i+1)=0 by omega];rfl
  ·rw[if_neg (by simpa using hn),ih,show n-i=(n-(i+1))+1 by omega];rfl
def zhh(l:List Ent):V:=lJ (!l.isEmpty) l
theorem zaw{l:List Ent}:(!l.isEmpty)=true∨l=[]:=by cases l<;>simp
def Be(out:List Ent)(tok:Tok)(r:Hl):Prop:=tok = .full∧out=[]∧r=[]∨∃ k,tok = .tip 1 k∧out≠[]∧r=[some (.tip 42 k)]
theorem zhm{out:List Ent}{tok:Tok}{r:Hl}(h:Be out tok r):nb (1+r.length) (.sl (out.map kS) [] tok):=by
 rcases h with ⟨rfl,rfl,rfl⟩|⟨k,rfl,_,rfl⟩
 ·simp only[eG,nbS]
 ·have:=tZ (k:=2) nX out;simp only[au,ay,this,nbS];decide
theorem zdw{X:Blk}{out:List Ent}{tok:Tok}{r:Hl}(h:Be out tok r)(hX:∀ k,nbB k X):∀ a<1+r.length,∀ x,lk (some X::r) a=some x→nbB (1+r.length) x:=by
 intro a ha x hx
 rcases h with ⟨rfl,rfl,rfl⟩|⟨k,rfl,_,rfl⟩
 ·have:a=0:=by simp at ha;omega
  subst this;cases hx;exact hX _
 ·have:a=0∨a=1:=by simp at ha;omega
  rcases this with rfl|rfl
  ·cases hx;exact hX _
  ·cases hx;simp only[nbS]
theorem zh5{Γ:jI}{Kp:V→Hl→Prop}{s:List (Tmp×Option (Tmp×Bool)×AOp)}{l:List Item}{K:HS→Prop}{t:List V}{d:Option Tmp}{X:Blk}{out:List Ent}{tok:Tok}{r:Hl}{e:Ent}(h:Be out tok r)(hb:out.length≤1000000)
  (hr:∀ k,hth Tryz.prog Γ Kp s l K (hput t [some X,some (.tip 42 k)] d (some (.sl ((out++[e]).map kS) [] (.tip 1 k))))):uJ Tryz.prog Γ Kp 42 80 8 (.sl (out.map kS) [] tok) (.sl [kS e] [] .full) d s l K t (some X::r):=by
 have he:rE 8 [kS e]=true:=rfl;rw[bu]at hr
 rcases h with ⟨rfl,rfl,rfl⟩|⟨k,rfl,h0,rfl⟩
 ·exact sJ (ys:=[kS e]) rfl (by simp) (by simp) rfl he (by simp) (hr 0)
 ·exact AU (j:=1) (k:=k) (x:=.sl [kS e] [] .full) (ys:=[kS e]) rfl (by simp) (by simpa using h0) rfl (yx out) he (by simp;omega) (hr (k+1))
def zl2:List V:=[.val (.int .i64 0),.val (.int .i64 0),.val (.int .i64 0),.val (.int .i64 0),.val (.string (ByteArray.mk #[])),.val (.int .i64 0),.val (.int .i64 0),.val (.string (ByteArray.mk #[]))]
def zj5(v:V):Option V:=(pq 8 [.agg zl2] [(0,v)]).map fun es=>.sl es [] .full
theorem LK{Γ:jI}{t:List V}{m:Store}{x:Nat}:jJ Tryz.prog (ev Γ t) m (.lits 8 [.val (.int .i64 0),.val (.int .i64 0),.val (.int .i64 0),.val (.int .i64 0),.val (.string (ByteArray.mk #[])),.val (.int .i64 0),.val (.int .i64 0),.val (.string (ByteArray.mk #[]))] 1 [(0,.tmp x)])=zj5 (jS t x):=by
 rw[←rD (Γ:=Γ)];rfl
theorem H8(e:Ent):zj5 (.agg [it e.c,it e.q,it e.k,it e.n,bs e.s,it e.ck,it e.cn,bs e.cs])=some (.sl [kS e] [] .full):=rfl
section
variable {Γ:jI} {m:Store}
theorem V7(nn:Bool)(x:Lg)(a b:Int)(hx:lgB x=true){Q:V→Hl→Prop}(hQ:∀ tok r,Be (bet x.b a b 0 x.l) tok r→Q (.sl ((bet x.b a b 0 x.l).map kS) [] tok) (some (Ci nn x)::r)) :
  qy Tryz.prog Γ (fun _ _=>False) 0 zaZ.body (uU zaZ.res Q) ⟨start zaZ.ntmps [lgV nn x,it a,it b],[]⟩:=by
 have hlb:∀ k,nbB k (Ci nn x):=fun k=>by have:=kL (k:=k) nn x.l;simp only[Ci,this,nbS]
 have hb:0≤x.b∧x.b≤2147483647∧x.l.length≤64:=by simp only[lgB,aG,decide_eq_true_eq]at hx;omega
 simp only[zaZ,lgV,ss0,aC,ag];simp only[jA,ssH,ag,ae,reduceIte,af,ak,ai,aj];refine nC [1,2,3,7,8] 39 (fun n vs h=>∃ (i:Nat) (out:List Ent) (tok:Tok) (r:Hl),vs=[it a,it b,.ptr 0 0,.sl (out.map kS) [] tok,it i]∧h=some (Ci nn x)::r∧Be out tok r∧i+n=x.l.length+1∧i≤x.l.length∧out=bet x.b a b 0 (x.l.take i)) (x.l.length+1) (by decide) (by decide) (aK 1) (jZ rfl (bU _) (by decide) (by simp) (by show nbs 1 [it a,it b,.ptr 0 0,.sl [] [] .full,it 0];simp only[nbS];decide) (RV (hlb 1)) ⟨0,[],.full,[],rfl,rfl,.inl ⟨rfl,rfl,rfl⟩,by omega,by omega,by simp[bet]⟩) ?_;rintro n t h J hJ hlt ⟨i,out,tok,r,hv,rfl,hB,hn,hi,ho⟩;simp only[aZ,aQ,and_true]at hv;obtain⟨g1,g2,g3,g7,g8⟩:=hv
 have hol:out.length≤64:=by
  have:=YX (base:=x.b) (a:=a) (b:=b) (x.l.take i) 0;rw[←ho]at this;rw[aW]at this;omega
 rw[mO hlt];simp only[jW,upTo,g1,g2,g3,g7,g8,Ci,lJ,aH,ssH,ag,ae,reduceIte,af,ak,ai,aj]
 by_cases hil:i<x.l.length
 ·have hx2:x.l[i]? = some x.l[i]:=aI hil;generalize x.l[i]=e at hx2;have hw1:IntKind.i64.wrap (x.b+1)=x.b+1:=wrap_i64 (by omega) (by omega);have hw2:IntKind.i64.wrap (x.b+1+(i:Int))=x.b+1+(i:Int):=wrap_i64 (by omega) (by omega)
  have hstep:bet x.b a b 0 (x.l.take (i+1))=out++(if Tq x.b a b i=true then [e]else []):=by
   rw[bg,hx2,YY,←ho];simp only[gz,bet,aW,Nat.min_eq_left hi,fQ]
  simp only[show decide ((i:Int)<(x.l.length:Int))=true from decide_eq_true (by omega),hw1,hw2,gt_iff_lt,ssH,ag,ae,reduceIte,af,ak,ai,aj]
  have same:∀ {t':List V} {h':Hl},Tq x.b a b i=false→t'.length=39→jS t' 1=it a→jS t' 2=it b→jS t' 3 = .ptr 0 0→jS t' 7 = .sl (out.map kS) [] tok→jS t' 8=it (i+1:Nat)→h'=some (Ci nn x)::r→Back [1,2,3,7,8] (aK (1+r.length)) 0 39 (fun vs h=>∃ (i:Nat) (out:List Ent) (tok:Tok) (r:Hl),vs=[it a,it b,.ptr 0 0,.sl (out.map kS) [] tok,it i]∧h=some (Ci nn x)::r∧Be out tok r∧i+(n-1)=x.l.length+1∧i≤x.l.length∧out=bet x.b a b 0 (x.l.take i)) ⟨t',h'⟩:=by
   rintro t' h' hc q0 q1 q2 q3 q7 q8 rfl;refine jZ q0 (bU _) (by rcases hB with ⟨_,_,rfl⟩|⟨k,_,_,rfl⟩<;>simp) (by simp;omega) ?_ (zdw hB hlb) ⟨i+1,out,tok,r,by simp only[aZ,q1,q2,q3,q7,q8],by rw[bi];simp;omega,hB,by omega,by omega,by rw[hstep,hc];simp⟩;have hnv:=zhm hB;simp only[aZ,q1,q2,q3,q7,q8,hnv,nbS];omega
  cases h1:decide (a<x.b+1+(i:Int))
  ·simp only[jQ (show i<4611686018427387904 by omega),ssH,ag,ae,reduceIte,af,ak,ai,aj];exact⟨_,hJ (n-1) _ _ (by omega) (same (by simp only[Tq,h1];rfl) rfl rfl rfl rfl rfl rfl rfl)⟩
  ·cases h2:decide (x.b+1+(i:Int)≤b)
   ·simp only[h2,jQ (show i<4611686018427387904 by omega),ssH,ag,ae,reduceIte,af,ak,ai,aj];exact⟨_,hJ (n-1) _ _ (by omega) (same (by simp only[Tq,h1,h2];rfl) rfl rfl rfl rfl rfl rfl rfl)⟩
   ·have hc:Tq x.b a b i=true:=by simp only[Tq,h1,h2];rfl
    simp only[h2,EJ hx2,LK,H8,ssH,ag,ae,reduceIte,af,ak,ai,aj];refine zh5 hB (by omega) fun k => ?_;simp only[jQ (show i<4611686018427387904 by omega),ssH,ag,ae,reduceIte,af,ak,ai,aj];have hB2:Be (out++[e]) (.tip 1 k) [some (.tip 42 k)]:=.inr ⟨k,rfl,by simp,rfl⟩;have hnv:=zhm hB2;simp only[au,ay]at hnv;refine⟨_,hJ (n-1) (aK 2) _ (by omega) (jZ rfl (bU _) (by decide) (by simp) (by show nbs 2 [it a,it b,.ptr 0 0,.sl ((out++[e]).map kS) [] (.tip 1 k),it (i+1:Nat)];simp only[hnv,nbS];decide) (zdw hB2 hlb) ⟨i+1,out++[e],.tip 1 k,_,rfl,rfl,hB2,by omega,by omega,by rw[hstep,hc];rfl⟩)⟩
 ·simp only[show decide ((i:Int)<(x.l.length:Int))=false from decide_eq_false (by omega),ssH,ag,ae,reduceIte,af,ak,ai,aj];rw[bi (by omega)]at ho;subst ho;exact jy rfl (hQ tok r hB)
end
end Go.Av.Fn
namespace Go.Av
end Go.Av
namespace Go.Av.Fn
open Go.Proofs
def e0:Ent:=⟨0,0,0,0,[],0,0,[]⟩
section
variable {Γ:jI} {m:Store}
end
end Go.Av.Fn
namespace Go.Av.Fn
open Go.Proofs
theorem Ib{nn:Bool}{l:List Ent}:lenV false (lJ nn l)=some (it l.length):=by
 simp only[lJ,kE,aH]
section
variable {Γ:jI} {m:Store}
end
section
variable {Γ:jI} {m:Store}
end
def Bq(e:Ent):Blk:=.var 42 [it e.c,it e.q,it e.k,it e.n,bs e.s,it e.ck,it e.cn,bs e.cs]
theorem DT(e:Ent):nbB 0 (Bq e):=by simp only[Bq,nbS]
theorem za1{b:Int}{c:List UInt8}{l:List Ent}{t:Tok}(h:l≠[]):wN (.agg [it b,bs c,.sl (l.map kS) [] t])=lgV true ⟨b,c,l⟩:=by
 simp only[wN,wNs,bs,lgV];rw[show V.sl (wNs (aZ kS l)) [] (I5 (aZ kS l) t)=wN (.sl (l.map kS) [] t)by simp only[wN,wNs],QW (.inl h)]
def lF(x:Lg)(e:Ent):Bool×Lg×Int:=if nR e=true then (if x.l.length=64∨x.b+x.l.length=2147483647 then (false,lg0,12)else (true,⟨x.b,x.c,x.l++[e]⟩,0))else (false,lg0,2)
theorem QT{x:Lg}{e:Ent}:(lF x e).1=true∨(lF x e).2.1.l=[]:=by
 unfold lF
 split
 ·split
  ·exact .inr rfl
  ·exact .inl rfl
 ·exact .inr rfl
section
variable {Γ:jI} {m:Store}
theorem zh7{Kp:V→Hl→Prop}{h:Hl}{t:List V}{li:List Item}{K:HS→Prop}{d:Option Tmp}{s:List (Tmp×Option (Tmp×Bool)×AOp)}{nn:Bool}{l:List Ent}(e:Ent)(hl:l.length≤1000000)(hh:h.length<1000000)
  (hr:hth Tryz.prog Γ Kp s li K (hput t (h++[some (.tip 42 0)]) d (some (.sl ((l++[e]).map kS) [] (.tip h.length 0))))):uJ Tryz.prog Γ Kp 42 80 8 (upV nn l l.length) (.sl [kS e] [] .full) d s li K t h:=by
 rw[bu]at hr;unfold upV;rw[bK]
 by_cases h0:0<l.length
 ·rw[if_pos h0];exact sJ (ys:=[kS e]) rfl (by simp) hh (yx l) rfl (by simp;omega) hr
 ·have hn:l=[]:=by cases l with|nil=>rfl|cons a b=>simp at h0
  subst hn;rw[if_neg h0];cases nn
  ·exact sJ (ys:=[kS e]) rfl (by simp) hh rfl rfl (by simp) hr
  ·exact JD (ys:=[kS e]) rfl (by simp) hh rfl rfl (by simp) hr
theorem Ux(E:Env Γ){nn:Bool}{x:Lg}(hn:nn=true∨x.l=[])(e:Ent)(hx:lgB x=true) :
  O1 Tryz.prog Γ 151 [] none [Ci nn x,Bq e] fun v=>v = .tup [lgV (lF x e).1 (lF x e).2.1,it (lF x e).2.2]:=by
 have hnl:=kL (k:=0) nn x.l;have hb:0≤x.b∧x.b≤2147483647∧x.l.length≤64:=by simp only[lgB,aG,decide_eq_true_eq]at hx;omega
 have hw:IntKind.i64.wrap (x.b+(x.l.length:Int))=x.b+(x.l.length:Int):=wrap_i64 (by omega) (by omega);have hn0:=ql (k:=0) false lg0;have hw0:=QX (nn:=false) (x:=lg0) (.inr rfl)
 have bad:∀ n:Int,lF x e=(false,lg0,n)→nb 0 (wN (.tup [lgV false lg0,it n]))∧wN (.tup [lgV false lg0,it n]) = .tup [lgV (lF x e).1 (lF x e).2.1,it (lF x e).2.2]:=by
  intro n h;rw[h];simp only[wN,wNs,hw0];exact⟨by simp only[hn0,nbS],trivial⟩
 refine WF mixed zgi zjg jY nbY (QZ (LH nn x) (DT e)) ?_;simp only[zjh,BC,Ci,Bq,au,ay,ag,aK,List.range.loop,aZ,ss0,aC,ag];simp only[Ib,ssH,ag,ae,reduceIte,af,ak,ai,aj];refine jE (by exact fun m=>FQ E e) nbX nbY ?_;cases he:nR e
 ·simp only[aF,if_false,jA,ssH,ag,ae,reduceIte,af,ak,ai,aj];exact jy (v:=.tup [lgV false lg0,it 2]) rfl (bad _ (by simp only[lF,he];rfl))
 ·simp only[if_true,hw,ssH,ag,ae,reduceIte,af,ak,ai,aj]
  by_cases h1:x.l.length=64
  ·simp only[show(((x.l.length:Nat):Int)==64)=true by rw[h1];rfl,jA,ssH,ag,ae,reduceIte,af,ak,ai,aj];exact jy (v:=.tup [lgV false lg0,it 12]) rfl (bad _ (by simp only[lF,he,if_true];rw[if_pos (.inl h1)]))
  ·simp only[show(((x.l.length:Nat):Int)==64)=false by simp;omega,hw,ssH,ag,ae,reduceIte,af,ak,ai,aj]
   by_cases h2:x.b+(x.l.length:Int)=2147483647
   ·simp only[show((x.b+(x.l.length:Int))==2147483647)=true by rw[h2];rfl,jA,ssH,ag,ae,reduceIte,af,ak,ai,aj];exact jy (v:=.tup [lgV false lg0,it 12]) rfl (bad _ (by simp only[lF,he,if_true];rw[if_pos (.inr h2)]))
   ·have hg:lF x e=(true,⟨x.b,x.c,x.l++[e]⟩,0):=by
     simp only[lF,he,if_true];rw[if_neg (by rintro(k|k)<;>omega)]
    rw[hg];have hwl:∀ t,wN (.agg [it x.b,bs x.c,.sl ((x.l++[e]).map kS) [] t])=lgV true ⟨x.b,x.c,x.l++[e]⟩:=fun t=>za1 (by simp);have hnl2:=ql (k:=0) true ⟨x.b,x.c,x.l++[e]⟩;simp only[show((x.b+(x.l.length:Int))==2147483647)=false by simp;omega,lw,lH,zbS,zde hn (aY _),LK,H8,ssH,ag,ae,reduceIte,af,ak,ai,aj];refine zh7 e (by omega) (by simp only[au,ay,ag,ak]) ?_;simp only[jA,tN,wV,ssH,ag,ae,reduceIte,af,ak,ai,aj];exact jy (v:=.tup [.agg [it x.b,bs x.c,.sl ((x.l++[e]).map kS) [] (.tip 3 0)],it 0]) rfl ⟨by simp only[wN,wNs]at hwl ⊢;rw[hwl];simp only[hnl2,nbS],by simp only[wN,wNs]at hwl ⊢;rw[hwl]⟩
theorem Wp(E:Env Γ){nn:Bool}{x:Lg}(hn:nn=true∨x.l=[])(e:Ent) :
  jB Tryz.prog Γ 129 [lgV nn x,kS e] m fun o m'=>o = .ret (.tup [lgV (doL x (lF x e)).1 (doL x (lF x e)).2.1,it (doL x (lF x e)).2.2])∧m'=m:=by
 have hnb:=ql (k:=0) nn x;have hne:=nX (k:=0) e;have hdn:=ze7 (x:=x) (QT (x:=x) (e:=e));refine kJ (BI mixed zgz zjz jY (by simp only[hnb,hne,nbS]) ?_);simp only[zjA,lgV,kS,ss0,aC,ag];simp only[jA,ssH,ag,ae,reduceIte,af,ak,ai,aj];refine Yz [0,1] (zbP E (nn:=nn) (x:=x) (QT (x:=x) (e:=e)) (QZ (LH nn x) (DT e)) (fun hx=>Ux E hn e hx)) rfl rfl (by decide) (XF rfl rfl) (by simp only[hnb,nbS]) (QZ (LH nn x) (DT e)) ?_ ?_
 ·rintro v rfl;rw[zhj];simp only[ql,nbS]
 ·rintro v rfl;rw[zhj];generalize doL x (lF x e)=r at hdn;obtain⟨a,y,e⟩:=r;have hwa:=QX hdn;have hna:=ql (k:=0) a y;simp only[hdrop,lgV,jA,jD,ssH,ag,ae,reduceIte,af,ak,ai,aj];exact jy (v:=.tup [lgV a y,it e]) rfl ⟨by simp only[wN,wNs,hwa,hna,nbS],by simp only[wN,wNs,hwa];rfl⟩
end
theorem zh4{x:Lg}{n:Nat}{op:Int}(h2:n≤x.l.length)(h3:op=x.b+n):bet x.b op (x.b+x.l.length) 0 x.l=x.l.drop n:=by
 rw [VD (n := n) x.l 0 (fun j _ hj => by
  simp only[Tq];rw[dw];simp only[aG,decide_eq_true_eq]
  omega)]
 rfl
theorem YZ{x:Lg}:bet x.b x.b (x.b+x.l.length) 0 x.l=x.l:=zh4 (n:=0) (bU _) (by omega)
def lgN(x:Lg):V:=lgV (!x.l.isEmpty) x
theorem RP{k:Nat}{x:Lg}:nb k (lgN x):=ql _ _
theorem Td{x y:Lg}{a:Bool}{n:Int}{r:Bool×Lg×Int}(hx:lgB x=true)(h:r=(a,y,n))(hn:n≠0):doL x r=(false,lg0,n):=by
 subst h;simp only[doL,hx,if_true,if_neg hn]
theorem Xf{x y:Lg}{a:Bool}{r:Bool×Lg×Int}(hx:lgB x=true)(h:r=(a,y,0)):doL x r=(a,y,0):=by
 subst h;simp only[doL,hx,if_true]
section
variable {Γ:jI} {m:Store}
end
end Go.Av.Fn
namespace Go.Av
section
variable {P:Program} {Γ:jI} {H:Nat→List (Nat×List Nat)×List Nat} {f:FuncId} {F:AFn} {gs:List Nat} {m:Store}
theorem zdD(hm:P.follows .mixedOrders=true)(hF:qK P H f=some F)(hok:F.body.okH gs=true)(hG:GOk Γ gs){args:List V}(ha:nbs 0 args){e:TypeId}{size:Nat}{es:List V}(hz:ng size es=true)(hes:nbs 0 es)
  (h:qy P Γ (fun _ _=>False) 0 F.body (uU F.res fun v h'=>(es=[]∧v = .sl [] [] .full)∨(es≠[]∧∃ j k,v = .sl es [] (.tip j k)∧lk h' j=some (.tip e k))) ⟨start F.ntmps args,[]⟩):jB P Γ f args m fun o m'=>∃ v2,o = .ret v2∧Buf e size m m' v2 es:=by
 have h1:=tV (P:=P) (Γ:=Γ) (R0:=fun _ _=>False) (N:=0) (m:=fun _=>none) hm hF hok hG (ha.up _) (WU _ (fun _ _ q=>q) _) (fun _ _ q=>q.elim) (Q:=fun o h'=>match o with | .ret v=>(es=[]∧v = .sl [] [] .full)∨(es≠[]∧∃ j k,v = .sl es [] (.tip j k)∧lk h' j=some (.tip e k)) | .pan _=>False) h;have hD:mP (fun _=>none) m:=fun b=>.inl rfl;have e0:Store.or (fun _=>none) m=m:=by funext b;rfl
 have h2:=h1.frame hD;rw[e0]at h2;refine jB.less h2 ?_;rintro o m'' ⟨m',rfl,d,S,o0,h',s1,s2,s3,s4⟩
 cases o0 with
 |pan v=>exact s4.elim
 |ret v=>
  cases o with
  |pan v'=>exact s3.elim
  |ret v' =>
   rcases s4 with ⟨rfl,rfl⟩|⟨hne,j,k,rfl,hj⟩
   ·have:v' = .sl [] [] .full:=DR (v:=.sl [] [] .full) (.sl .nil .nil trivial) s3;subst this;refine⟨m,?_,_,rfl,hz,.inl ⟨rfl,rfl,rfl⟩⟩;intro b x hb
    rcases d b with q|q
    ·simp only[Store.or,q];exact hb
    ·rw[q]at hb;cases hb
   ·obtain⟨es',mr,k',rfl,ra,rb,rc⟩:=VR.BV s3;obtain rfl:=nY hes ra;obtain rfl:=rb.kN
    cases k' with
    |tip b k' =>
     obtain⟨r0,rfl⟩:=rc;obtain⟨Y',g1,g2⟩:=s2.blk _ _ _ r0 hj
     cases Y' with
     |tip e' k' =>
      obtain⟨rfl,rfl⟩:=g2
      have hmb:m b=none:=by
       rcases d b with q|q
       ·rw[g1]at q;cases q
       ·exact q
      refine⟨m.set b (.tip e k),?_,_,rfl,hz,.inr ⟨hne,b,k,hmb,rfl,rfl⟩⟩;intro c x hx
      by_cases e:c=b
      ·subst e;rw[Store.jv]at hx;cases hx;simp only[Store.or,g1]
      ·rw[Store.jw _ _ e]at hx
       rcases d c with q|q
       ·simp only[Store.or,q];exact hx
       ·rw[q]at hx;cases hx
     |_=>exact g2.elim
    |_=>exact rc.elim
end
section
variable {P:Program} {Γ:jI} {Kp:V→Hl→Prop} {N:Nat} {l:List Item} {K:HS→Prop} {t:List V} {h:Hl} {d:Option Tmp} {s:List (Tmp×Option (Tmp×Bool)×AOp)} {g:FuncId} {first args caps:List V}
theorem zeL{e:TypeId}{size:Nat}{es:List V}(hl:h.length<1000000)(hA:∀ m,jB P Γ g (first++args++caps) m fun o m2=>∃ v2,o = .ret v2∧Buf e size m m2 v2 es)(ha:nbs 0 (first++args++caps))(hes:nbs 0 es)
  (h0:es=[]→hth P Γ Kp s l K (hput t h d (some (.sl [] [] .full)))) (hr:es≠[]→∀ k,hth P Γ Kp s l K (hput t (h++[some (.tip e k)]) d (some (.sl es [] (.tip h.length k))))):sZ P Γ Kp (.fn (.func g) first caps) args d s l K t h:=by
 intro R args' m' rl H;obtain rfl:=nY ha rl;refine(hA m').mono ?_;rintro o m2 ⟨v2,rfl,hb,(⟨q,rfl,rfl⟩|⟨q,b,k,q1,rfl,rfl⟩)⟩
 ·subst q;exact⟨R,.ret _,h,R.le_refl,H,VR.sl (k:=.full) (k':=.full) .nil .nil trivial,h0 rfl⟩
 ·exact⟨R.add h.length b,.ret _,_,R.nz _ _,H.push (x:=.tip e k) (x':=.tip e k) q1 hl ⟨rfl,rfl⟩,VR.sl (k:=.tip h.length k) (k':=.tip b k) (hes.up _) .nil ⟨.inr ⟨rfl,rfl⟩,rfl⟩,hr q k⟩
end
end Go.Av
namespace Go.Av.Fn
open Go.Proofs
section
variable {Γ:jI} {m:Store}
theorem V8(nn:Bool)(x:Lg)(a b:Int)(hx:lgB x=true):jB Tryz.prog Γ 108 [lgV nn x,it a,it b] m fun o m'=>∃ v,o = .ret v∧Buf 42 8 m m' v ((bet x.b a b 0 x.l).map kS):=by
 have hnb:=ql (k:=0) nn x;refine zdD mixed zgJ zjH jY (by simp only[hnb,nbS]) (yx _) (tZ nX _) (V7 nn x a b hx fun tok r hB => ?_)
 rcases hB with ⟨rfl,h0,rfl⟩|⟨k,rfl,h0,rfl⟩
 ·exact .inl ⟨by rw[h0];rfl,by rw[h0];rfl⟩
 ·exact .inr ⟨by simpa using h0,1,k,rfl,rfl⟩
theorem Rz(nn:Bool)(x:Lg)(e:Ent):jB Tryz.prog Γ 57 [lgV nn x,kS e] m fun o m'=>o = .ret (.tup [lgN (doL x (lF x e)).2.1,it (doL x (lF x e)).2.2])∧m'=m:=by
 have hnb:=ql (k:=0) nn x;have hnl:=kL (k:=0) nn x.l;have hne:=nX (k:=0) e;refine kJ (BI mixed ziz zkK jY (by simp only[hnb,hne,nbS]) ?_);simp only[F57,lgV,kS,ss0,aC,ag];simp only[jA,ssH,ag,ae,reduceIte,af,ak,ai,aj]
 have fin:∀ (y:Lg) (n:Int) (t:Tok),(doL x (lF x e)).2.1=y→(doL x (lF x e)).2.2=n→(y.l≠[]∨t = .full∧y.l=[])→nb 0 (wN (.tup [.agg [it y.b,bs y.c,.sl (y.l.map kS) [] t],it n]))∧wN (.tup [.agg [it y.b,bs y.c,.sl (y.l.map kS) [] t],it n]) = .tup [lgN (doL x (lF x e)).2.1,it (doL x (lF x e)).2.2]:=by
  intro y n t h1 h2 h3;rw[h1,h2]
  have:wN (.agg [it y.b,bs y.c,.sl (y.l.map kS) [] t])=lgN y:=by
   rcases h3 with h3|⟨rfl,h3⟩
   ·rw[za1 h3];obtain⟨b,c,l⟩:=y
    cases l with
    |nil=>exact absurd rfl h3
    |cons a l=>rfl
   ·obtain⟨b,c,l⟩:=y;cases h3;rfl
  have hny:=RP (k:=0) (x:=y);simp only[wN,wNs]at this ⊢;rw[this];exact⟨by simp only[hny,nbS],rfl⟩
 refine jE (by exact fun m=>J3 nn x) (by simp only[hnl,nbS]) nbY ?_;cases hx:lgB x
 ·have hc:doL x (lF x e)=(false,lg0,4):=by simp only[doL,hx,aF,if_false]
  simp only[jA,ssH,ag,ae,reduceIte,af,ak,ai,aj];exact jy (v:=.tup [.agg [it lg0.b,bs lg0.c,.sl (lg0.l.map kS) [] .full],it 4]) rfl (fin lg0 4 .full (by rw[hc]) (by rw[hc]) (.inr ⟨rfl,rfl⟩))
 ·have hb:0≤x.b∧x.b≤2147483647∧x.l.length≤64∧x.b+x.l.length≤2147483647:=by simp only[lgB,aG,decide_eq_true_eq]at hx;omega
  simp only[ssH,ag,ae,reduceIte,af,ak,ai,aj];refine jE (by exact fun m=>J4 e) nbX nbY ?_;cases he:nR e
  ·have hc:doL x (lF x e)=(false,lg0,2):=Td hx (by simp only[lF,he];rfl) (by decide);simp only[jA,ssH,ag,ae,reduceIte,af,ak,ai,aj];exact jy (v:=.tup [.agg [it lg0.b,bs lg0.c,.sl (lg0.l.map kS) [] .full],it 2]) rfl (fin lg0 2 .full (by rw[hc]) (by rw[hc]) (.inr ⟨rfl,rfl⟩))
  ·have full:(x.l.length=64∨x.b+x.l.length=2147483647)→doL x (lF x e)=(false,lg0,12):=fun h=>Td hx (by simp only[lF,he,if_true];rw[if_pos h]) (by decide);simp only[Ib,ssH,ag,ae,reduceIte,af,ak,ai,aj]
   by_cases h64:(64:Int)≤(x.l.length:Int)
   ·have hc:=full (.inl (by omega));simp only[ge_iff_le,decide_eq_true h64,jA,ssH,ag,ae,reduceIte,af,ak,ai,aj];exact jy (v:=.tup [.agg [it lg0.b,bs lg0.c,.sl (lg0.l.map kS) [] .full],it 12]) rfl (fin lg0 12 .full (by rw[hc]) (by rw[hc]) (.inr ⟨rfl,rfl⟩))
   ·simp only[ge_iff_le,decide_eq_false h64,ssH,ag,ae,reduceIte,af,ak,ai,aj];refine jE (by exact fun m=>FD nn x) (by simp only[hnl,nbS]) nbY ?_;simp only[hx,if_true,ssH,ag,ae,reduceIte,af,ak,ai,aj]
    by_cases hl:(2147483647:Int)≤x.b+(x.l.length:Int)
    ·have hc:=full (.inr (by omega));simp only[ge_iff_le,decide_eq_true hl,jA,ssH,ag,ae,reduceIte,af,ak,ai,aj];exact jy (v:=.tup [.agg [it lg0.b,bs lg0.c,.sl (lg0.l.map kS) [] .full],it 12]) rfl (fin lg0 12 .full (by rw[hc]) (by rw[hc]) (.inr ⟨rfl,rfl⟩))
    ·have hc:doL x (lF x e)=(true,⟨x.b,x.c,x.l++[e]⟩,0):=Xf hx (by simp only[lF,he,if_true];rw[if_neg (by rintro(k|k)<;>omega)]);simp only[ge_iff_le,decide_eq_false hl,LK,H8,ssH,ag,ae,reduceIte,af,ak,ai,aj];refine jE (by exact fun m=>FD nn x) (by simp only[hnl,nbS]) nbY ?_;simp only[hx,if_true,ssH,ag,ae,reduceIte,af,ak,ai,aj];refine zeL (by simp only[au,ay,ag,ak]) (by exact fun m=>V8 nn x x.b (x.b+x.l.length) hx) (by simp only[hnl,nbS]) (tZ nX _) ?_ ?_
     ·intro h0;rw[YZ]at h0;have hl0:x.l=[]:=by simpa using h0
      simp only[ssH,ag,ae,reduceIte,af,ak,ai,aj];refine sJ (ys:=[kS e]) rfl (by simp) (by simp only[au,ay,ag,ak]) rfl rfl (by simp) ?_;simp only[tN,jA,wV,ssH,ag,ae,reduceIte,af,ak,ai,aj];exact jy (v:=.tup [.agg [it x.b,bs x.c,.sl ((x.l++[e]).map kS) [] _],it 0]) (by rw[hl0];rfl) (fin ⟨x.b,x.c,x.l++[e]⟩ 0 _ (by rw[hc]) (by rw[hc]) (.inl (by simp)))
     ·intro h0 k;rw[YZ]at h0 ⊢;simp only[ssH,ag,ae,reduceIte,af,ak,ai,aj];refine AU (ys:=[kS e]) rfl (by simp) h0 rfl (yx _) rfl (by simp;omega) ?_;simp only[tN,jA,wV,ssH,ag,ae,reduceIte,af,ak,ai,aj];exact jy (v:=.tup [.agg [it x.b,bs x.c,.sl ((x.l++[e]).map kS) [] _],it 0]) (by rw[bu];rfl) (fin ⟨x.b,x.c,x.l++[e]⟩ 0 _ (by rw[hc]) (by rw[hc]) (.inl (by simp)))
end
section
variable {Γ:jI} {m:Store}
end
end Go.Av.Fn
namespace Go.Av.Fn
open Go.Proofs Go.Lib
section
variable {Γ:jI} {m:Store}
end
section
variable {Γ:jI} {m:Store}
end
section
variable {Γ:jI} {m:Store}
end
end Go.Av.Fn
namespace Go.Av.Fn
open Go.Proofs
end Go.Av.Fn
namespace Go.Av
section
variable {P:Program} {Γ:jI} {Kp:V→Hl→Prop} {l:List Item} {K:HS→Prop} {t:List V} {h:Hl} {d:Option Tmp} {s:List (Tmp×Option (Tmp×Bool)×AOp)} {g:FuncId} {first args caps:List V}
end
end Go.Av
namespace Go.Av.Fn
open Go.Proofs
theorem zeO{s:List UInt8}{a:Nat}{e:Int}(ha:a≤s.length):(Il s a e).2.1≤s.length:=by
 unfold Il;exact DI (nU (nU ha))
end Go.Av.Fn
namespace Go.Av
def BH(e:TypeId)(x0:Option Blk)(tok:Tok)(es:List V):Prop:=(x0=none∧tok = .full)∨∃ k,x0=some (.tip e k)∧tok = .tip 0 k∧es≠[]
section
variable {P:Program} {Γ:jI} {H:Nat→List (Nat×List Nat)×List Nat} {f:FuncId} {F:AFn} {gs:List Nat} {m m':Store}
theorem JR(hm:P.follows .mixedOrders=true)(hF:qK P H f=some F)(hok:F.body.okH gs=true)(hG:GOk Γ gs){e:TypeId}{size:Nat}{es es2 az:List V}{v:V}(hB:Gt e size m m' v es)(hes:nbs 0 es)(ha:nbs 0 az)(h2:nbs 0 es2)(hz:ng size es2=true)(hne:es2≠[])
  (h:∀ x0 tok,BH e x0 tok es→qy P Γ (fun _ _=>False) 1 F.body (uU F.res fun v h'=>∃ j k,v = .sl es2 [] (.tip j k)∧lk h' j=some (.tip e k)) ⟨start F.ntmps (.sl es [] tok::az),[x0]⟩) :
  jB P Γ f (v::az) m' fun o m2=>∃ v2,o = .ret v2∧Buf e size m m2 v2 es2:=by
 have full:∀ M:Store,ng size es=true→jB P Γ f (.sl es [] .full::az) M fun o m2=>∃ v2,o = .ret v2∧Buf e size M m2 v2 es2:=by
  intro M hs;have h1:=tV (P:=P) (Γ:=Γ) (R0:=fun _ _=>False) (N:=1) (m:=fun _=>none) (h0:=[none]) hm hF hok hG (args0:=.sl es [] .full::az) (args:=.sl es [] .full::az) (.cons (VR.sl (k:=.full) (k':=.full) (hes.up _) .nil trivial) (ha.up _)) ⟨fun a c x r hx=>r.elim,fun a b c r _=>r.elim,fun a b c x y r _ _ _=>r.elim,fun a b r=>r.elim⟩ (fun _ _ q=>q.elim) (Q:=fun o h'=>match o with | .ret v=>∃ j k,v = .sl es2 [] (.tip j k)∧lk h' j=some (.tip e k) | .pan _=>False) (h none .full (.inl ⟨rfl,rfl⟩));have hD:mP (fun _=>none) M:=fun b=>.inl rfl;have e0:Store.or (fun _=>none) M=M:=by funext b;rfl
  have h3:=h1.frame hD;rw[e0]at h3;refine jB.less h3 ?_;rintro o m'' ⟨m1,rfl,d,S,o0,h',s1,s2,s3,s4⟩
  cases o0 with
  |pan v=>exact s4.elim
  |ret v=>
   cases o with
   |pan v'=>exact s3.elim
   |ret v' =>
    obtain⟨j,k,rfl,hj⟩:=s4;obtain⟨es',mr,k',rfl,ra,rb,rc⟩:=VR.BV s3;obtain rfl:=nY h2 ra;obtain rfl:=rb.kN
    cases k' with
    |tip b k' =>
     obtain⟨r0,rfl⟩:=rc;obtain⟨Y',g1,g2⟩:=s2.blk _ _ _ r0 hj
     cases Y' with
     |tip e' k' =>
      obtain⟨rfl,rfl⟩:=g2
      have hmb:M b=none:=by
       rcases d b with q|q
       ·rw[g1]at q;cases q
       ·exact q
      refine⟨M.set b (.tip e k),?_,_,rfl,hz,.inr ⟨hne,b,k,hmb,rfl,rfl⟩⟩;intro c x hx
      by_cases e:c=b
      ·subst e;rw[Store.jv]at hx;cases hx;simp only[Store.or,g1]
      ·rw[Store.jw _ _ e]at hx
       rcases d c with q|q
       ·simp only[Store.or,q];exact hx
       ·rw[q]at hx;cases hx
     |_=>exact g2.elim
    |_=>exact rc.elim
 rcases hB with ⟨hs,(⟨rfl,rfl,rfl⟩|⟨hne0,b,k,hb,rfl,rfl⟩)⟩|⟨hs,rfl,rfl⟩
 ·exact full _ hs
 ·have hmb:(m.set b (.tip e k)) b=some (.tip e k):=Store.jv _ _ _;have h1:=tV (P:=P) (Γ:=Γ) (R0:=fun a c=>a=0∧c=b) (N:=1) (m:=one b (.tip e k)) hm hF hok hG (args0:=.sl es [] (.tip 0 k)::az) (args:=.sl es [] (.tip b k)::az) (.cons (VR.sl (k:=.tip 0 k) (k':=.tip b k) (hes.up _) .nil ⟨⟨rfl,rfl⟩,rfl⟩) (ha.up _)) (SG (X:=.tip e k) ⟨rfl,rfl⟩) (fun _ _ q=>by omega) (Q:=fun o h'=>match o with | .ret v=>∃ j k,v = .sl es2 [] (.tip j k)∧lk h' j=some (.tip e k) | .pan _=>False) (h _ _ (.inr ⟨k,rfl,rfl,hne0⟩));have h3:=h1.frame (Hr b (.tip e k) (m:=m.set b (.tip e k)));rw[LG hmb]at h3;refine jB.less h3 ?_;rintro o m'' ⟨m1,rfl,d,S,o0,h',s1,s2,s3,s4⟩
  cases o0 with
  |pan v=>exact s4.elim
  |ret v=>
   cases o with
   |pan v'=>exact s3.elim
   |ret v' =>
    obtain⟨j,k2,rfl,hj⟩:=s4;obtain⟨es',mr,k',rfl,ra,rb,rc⟩:=VR.BV s3;obtain rfl:=nY h2 ra;obtain rfl:=rb.kN
    cases k' with
    |tip b2 k' =>
     obtain⟨r0,rfl⟩:=rc;obtain⟨Y',g1,g2⟩:=s2.blk _ _ _ r0 hj
     cases Y' with
     |tip e' k' =>
      obtain⟨rfl,rfl⟩:=g2
      have hmb2:m b2=none:=by
       by_cases e:b2=b
       ·rw[e];exact hb
       ·rcases d b2 with q|q
        ·rw[g1]at q;cases q
        ·simp only[del,if_neg e,Store.jw _ _ e]at q;exact q
      refine⟨m.set b2 (.tip e k2),?_,_,rfl,hz,.inr ⟨hne,b2,k2,hmb2,rfl,rfl⟩⟩;intro c x hx
      by_cases e:c=b2
      ·subst e;rw[Store.jv]at hx;cases hx;simp only[Store.or,g1]
      ·rw[Store.jw _ _ e]at hx;have hcb:c≠b:=by rintro rfl;rw[hb]at hx;cases hx
       rcases d c with q|q
       ·simp only[Store.or,q,del,if_neg hcb,Store.jw _ _ hcb];exact hx
       ·simp only[del,if_neg hcb,Store.jw _ _ hcb]at q;rw[q]at hx;cases hx
     |_=>exact g2.elim
    |_=>exact rc.elim
 ·exact full _ hs
end
section
variable {P:Program} {Γ:jI} {Kp:V→Hl→Prop} {N:Nat} {l:List Item} {K:HS→Prop} {t:List V} {r:Hl} {d:Option Tmp} {s:List (Tmp×Option (Tmp×Bool)×AOp)} {g:FuncId} {first args caps:List V}
theorem Om{e:TypeId}{size:Nat}{az es es2:List V}{x0:Option Blk}{tok:Tok}(hl:r.length<999999)(he:first++args++caps = .sl es [] tok::az)(hB:BH e x0 tok es)(hz:ng size es=true)(hne:es2≠[])
  (hA:∀ m m' v,Gt e size m m' v es→jB P Γ g (v::az) m' fun o m2=>∃ v2,o = .ret v2∧Buf e size m m2 v2 es2) (h1:nbs 0 es) (ha:nbs 0 az) (h2:nbs 0 es2)
  (hr:∀ k,hth P Γ Kp s l K (hput t (none::(r++[some (.tip e k)])) d (some (.sl es2 [] (.tip (r.length+1) k))))):sZ P Γ Kp (.fn (.func g) first caps) args d s l K t (x0::r):=by
 rcases hB with ⟨rfl,rfl⟩|⟨k0,rfl,rfl,hne0⟩
 ·intro R args' m' rl H;rw[he]at rl;obtain⟨y,ys,rfl,r1,r2⟩:=rl.cons_inv;obtain rfl:=nY ha r2;have:y = .sl es [] .full:=DR (v:=.sl es [] .full) (VR.sl (k:=.full) (k':=.full) h1 .nil trivial) r1;subst this;refine(hA m' m' _ (.inr ⟨hz,rfl,rfl⟩)).mono ?_;rintro o m2 ⟨v2,rfl,hb,(⟨q,_⟩|⟨_,b,k,q1,rfl,rfl⟩)⟩
  ·exact absurd q hne
  ·have hlen:((none:Option Blk)::r).length=r.length+1:=rfl;exact⟨R.add (r.length+1) b,.ret _,_,R.nz _ _,H.push (x:=.tip e k) (x':=.tip e k) q1 (by rw[hlen];omega) ⟨rfl,rfl⟩,VR.sl (k:=.tip (r.length+1) k) (k':=.tip b k) (h2.up _) .nil ⟨.inr ⟨rfl,rfl⟩,rfl⟩,hr k⟩
 ·refine qw (j:=0) (k:=k0) (e:=e) (size:=size) (es:=es) (es2:=es2) (by simp only[au];omega) he rfl hz hne0 hne (fun m m' v h=>hA m m' v (.inl h)) h1 ha h2 fun k => ?_;have:=hr k
  simpa only[hset,aA,au] using this
end
end Go.Av
namespace Go.Av
section
variable {P:Program} {Γ:jI} {t:List V} {h:Hl} {N:Nat}
theorem Yn{hs r:Hl}{a:Nat}:lk (hs++r) a=if a<hs.length then lk hs a else lk r (a-hs.length):=by
 induction hs generalizing a with
 |nil=>simp
 |cons x hs ih=>
  cases a with
  |zero=>simp[lk]
  |succ a=>
   simp only[aA,lk,ih,au,Nat.add_lt_add_iff_right,Nat.add_sub_add_right]
theorem IK{S:List Nat}{c L:Nat}{J:List V→Hl→Prop}{e:TypeId}{j k:Nat}{es more:List V}(hs:Hl)(h1:t.length=L)(hN:N≤c)(hcj:c≤j)(hc2:c<1000000)(hj:lk h j=some (.tip e k))(hlen:hs.length=c)(hS:S.map (jS t) = .sl es [] (.tip j k)::more)(hes:nbs 0 es)(hm:nbs c more)
  (hB:∀ a<c,∀ x,lk hs a=some x→lk h a=some x∧nbB c x) (hJ:J (.sl es [] (.tip c k)::more) (hs++[some (.tip e k)])):Back S (aK c++[j]) N L J ⟨t,h⟩:=by
 have g1:∀ a<c,(aK c++[j])[a]? = some a:=by
  intro a ha;rw[List.getElem?_append_left (by simpa using ha)];exact Hw ha
 have g2:(aK c++[j])[c]? = some j:=by
  rw[List.getElem?_append_right (by simp)];simp
 have hm':(NB c).le (Nm (aK c++[j])):=fun a b ⟨e,l⟩=>by subst e;exact g1 _ l
 refine⟨h1,fun a ha=>g1 a (by omega),?_,by simp;omega,_,hs++[some (.tip e k)],?_,by simp[hlen],?_,hJ⟩
 ·rw[List.nodup_append];refine⟨List.nodup_range,by simp,?_⟩;intro a ha b hb;simp only[List.mem_range]at ha;simp only[df]at hb;omega
 ·rw[hS];exact .cons (VR.sl (k:=.tip c k) (k':=.tip j k) (hes.up _) .nil ⟨g2,rfl⟩) (LR.mono hm' hm)
 ·intro a b hab
  by_cases ha:a<c
  ·rw[g1 a ha]at hab;cases hab;simp only;rw[Yn,if_pos (by omega)]
   cases hx:lk hs a with
   |none=>trivial
   |some x=>
    obtain⟨q1,q2⟩:=hB a ha x hx;rw[q1];exact BR.mono hm' q2
  ·have hac:a=c:=by
    have:=(List.getElem?_eq_some_iff.1 hab).1;simp at this;omega
   subst hac;rw[g2]at hab;cases hab;simp only;rw[Yn,if_neg (by omega),hlen,Nat.sub_self,hj];exact⟨rfl,rfl⟩
end
end Go.Av
namespace Go.Av.Fn
open Go.Proofs
def uz(n:Int):List UInt8:=Lib.uvarint (Lib.zigzag n)
def kH:List Int→List UInt8
 |[]=>[]
 |n::l=>uz n++kH l
theorem Jr(a b:List Int):kH (a++b)=kH a++kH b:=by
 induction a with
 |nil=>rfl
 |cons n a ih=>simp only[aA,kH,ih,aX]
theorem qZ{n:Int}(h:Av.I64 n):(uz n).length≤10:=Lib.uvarint_length64 (Av.zigzag_u64 h)
theorem ut(n:Int):uz n≠[]:=by
 unfold uz;rw[Lib.uvarint]
 split<;>simp
theorem uD{l:List Int}(h:∀ n∈l,Av.I64 n):(kH l).length≤10*l.length:=by
 induction l with
 |nil=>exact aY _
 |cons n l ih=>
  have h1:=qZ (h n (aT ..));have h2:=ih fun x hx=>h x (aV _ hx);simp only[kH,aJ,au];omega
theorem sF{k:Nat}(l:List Int):nbs k (l.map it):=tZ (fun n=>by simp only[nbS]) l
theorem lV{l:List UInt8}(h:l≠[]):l.map by8≠[]:=by simpa using h
section
variable {Γ:jI} {m m':Store}
theorem zen{v:V}{l:List UInt8}(hB:Gt 5 1 m m' v (l.map by8))(ns:List Int)(hn:∀ n∈ns,Av.I64 n)(hne:ns≠[])(hl:l.length+10*ns.length<1099511627776)(hc:ns.length<1000000) :
  jB Tryz.prog Γ 101 [v,.sl (ns.map it) [] .full] m' fun o m2=>∃ v2,o = .ret v2∧Buf 5 1 m m2 v2 ((l++kH ns).map by8):=by
 have hne2:kH ns≠[]:=by
  cases ns with
  |nil=>exact absurd rfl hne
  |cons n ns=>simp only[kH];intro h;exact ut n (List.append_eq_nil_iff.1 h).1
 refine JR mixed zgO zjO jY hB (jG _) (by simp only[sF,nbS]) (jG _) (lM _) (lV (by simp[hne2])) fun x0 tok hx => ?_;simp only[zjP,ss0,aC,ag];simp only[ssH,ag,ae,reduceIte,af,ak,ai,aj];refine nC [0,7,8,9] 18 (fun n vs h=>∃ (i:Nat) (tk:Tok),vs=[.sl ((l++kH (ns.take i)).map by8) [] tk,.sl (ns.map it) [] .full,it ns.length,it i]∧i+n=ns.length+1∧i≤ns.length∧((i=0∧h=[x0]∧tk=tok)∨(0<i∧∃ k,h=[none,some (.tip 5 k)]∧tk = .tip 1 k))) (ns.length+1) (by decide) (by decide) (aK 1) ?_ ?_
 ·have e0:[0,7,8,9].map (jS [.sl (l.map by8) [] tok,.sl (ns.map it) [] .full,un,un,.sl [] [] .full,un,un,.sl (ns.map it) [] .full,it (ns.map it).length,it 0,un,un,un,un,un,un,un,un])=[.sl ((l++kH (ns.take 0)).map by8) [] tok,.sl (ns.map it) [] .full,it ns.length,it ((0:Nat):Int)]:=by
   rw[show l++kH (ns.take 0)=l by simp[kH],aH];rfl
  refine jZ rfl (by decide) (by decide) (by simp) ?_ ?_ ⟨0,tok,e0,by omega,by omega,.inl ⟨rfl,rfl,rfl⟩⟩
  ·show nbs 1 [.sl (l.map by8) [] tok,.sl (ns.map it) [] .full,it (ns.map it).length,it 0]
   rcases hx with ⟨rfl,rfl⟩|⟨k,rfl,rfl,_⟩
   ·simp only[sF,nbS]
   ·simp only[sF,nbS];decide
  ·intro a ha x hx';have:a=0:=by omega
   subst this
   rcases hx with ⟨rfl,rfl⟩|⟨k,rfl,rfl,_⟩
   ·cases hx'
   ·cases hx';simp only[nbS]
 rintro n t h J hJ hlt ⟨i,tk,hv,hi1,hi2,hh⟩;simp only[aZ,aQ,and_true]at hv;obtain⟨g0,g7,g8,g9⟩:=hv
 have hlen:(l++kH (ns.take i)).length≤l.length+10*ns.length:=by
  have:=uD (l:=ns.take i) fun x hx=>hn x (dQ hx);rw[aW]at this;simp only[aJ];omega
 obtain⟨pr,hpr⟩:∃ z,z=l++kH (ns.take i):=⟨_,rfl⟩;rw[←hpr]at g0 hlen;rw[mO hlt];simp only[jW,upTo,g0,g7,g8,g9,aH,ssH,ag,ae,reduceIte,af,ak,ai,aj]
 by_cases hil:i<ns.length
 ·have hx2:ns[i]? = some ns[i]:=aI hil;have hni:Av.I64 ns[i]:=hn _ (dX _);have hst:kH (ns.take (i+1))=kH (ns.take i)++uz ns[i]:=by rw[bg,hx2,Jr];simp[kH]
  generalize ns[i]=a at hx2 hni hst;have hnb:=sF (k:=0) ns;have hnb1:=sF (k:=1) ns;obtain⟨nx,hnx⟩:∃ z,z=l++kH (ns.take (i+1)):=⟨_,rfl⟩;have hp:nx=pr++uz a:=by rw[hnx,hpr,hst,aX]
  have hcall:∀ (mm mm':Store) (w:V),Gt 5 1 mm mm' w (pr.map by8)→jB Tryz.prog Γ 61 [w,it a] mm' fun o m2=>∃ v2,o = .ret v2∧Buf 5 1 mm m2 v2 (nx.map by8):=by
   intro mm mm' w hw;rw[hp];exact qf (Γ:=Γ) hw hni (by omega)
  have hi9:oG 1 (.sl (ns.map it) [] .full) (it i)=some (.elt [it a]):=mD (e:=it a) (by rw[bn,hx2];rfl) rfl;have hne3:nx.map by8≠[]:=lV (by rw[hp];simp[ut])
  have fin:∀ {t':List V} {h':Hl} (j k:Nat),t'.length=18→jS t' 0 = .sl (nx.map by8) [] (.tip j k)→jS t' 7 = .sl (ns.map it) [] .full→jS t' 8=it ns.length→jS t' 9=it (i+1:Nat)→lk h' j=some (.tip 5 k)→1≤j→∃ names,J names ⟨t',h'⟩:=by
   intro t' h' j k q q0 q7 q8 q9 qj hj;refine⟨_,hJ (n-1) _ _ (by omega) (IK (c:=1) (j:=j) (k:=k) (es:=nx.map by8) (more:=[.sl (ns.map it) [] .full,it ns.length,it (i+1:Nat)]) [none] q (aY _) hj (by decide) qj rfl (by simp only[aZ,q0,q7,q8,q9]) (jG _) (by simp only[hnb1,nbS]) ?_ ⟨i+1,.tip 1 k,by rw[←hnx],by omega,by omega,.inr ⟨by omega,k,rfl,rfl⟩⟩)⟩;intro a ha x hx;have:a=0:=by omega
   subst this;cases hx
  simp only[show decide ((i:Int)<(ns.length:Int))=true from decide_eq_true (by omega),hi9,ssH,ag,ae,reduceIte,af,ak,ai,aj]
  rcases hh with ⟨hi0,rfl,rfl⟩|⟨hi0,k,rfl,rfl⟩
  ·have hB0:BH 5 x0 tk (pr.map by8):=by rw[hpr,hi0];simpa [kH] using hx
   refine Om (size:=1) (az:=[it a]) (by simp) rfl hB0 (lM _) hne3 hcall (jG _) nbY (jG _) fun k => ?_;simp only[ay,jQ (show i<4611686018427387904 by omega),ssH,ag,ae,reduceIte,af,ak,ai,aj];exact fin 1 k rfl rfl rfl rfl rfl rfl (by decide)
  ·refine qw (j:=1) (size:=1) (az:=[it a]) (by simp) rfl rfl (lM _) ?_ hne3 (fun mm mm' w hw=>hcall mm mm' w (.inl hw)) (jG _) nbY (jG _) fun k => ?_
   ·refine lV ?_;rw[hpr]
    cases ns with
    |nil=>simp at hil
    |cons n ns=>
     cases i with
     |zero=>omega
     |succ i=>simp[kH,ut]
   simp only[au,ay,jQ (show i<4611686018427387904 by omega),ssH,ag,ae,reduceIte,af,ak,ai,aj];exact fin 2 k rfl rfl rfl rfl rfl rfl (by decide)
 ·simp only[show decide ((i:Int)<(ns.length:Int))=false from decide_eq_false (by omega),ssH,ag,ae,reduceIte,af,ak,ai,aj];have hie:i=ns.length:=by omega
  rw[hie,bK]at hpr;subst hpr
  rcases hh with ⟨hi0,rfl,rfl⟩|⟨hi0,k,rfl,rfl⟩
  ·have:ns=[]:=List.length_eq_zero_iff.1 (by omega);exact absurd this hne
  ·exact jy rfl ⟨1,k,rfl,rfl⟩
def rq(e:Ent):List UInt8:=kH [e.c,e.q,e.k,e.n]++(uz e.s.length++e.s)++FM e.ck e.cn e.cs
def Dh(e:Ent):Prop:=Av.I64 e.c∧Av.I64 e.q∧Av.I64 e.k∧Av.I64 e.n∧Av.I64 e.ck∧Av.I64 e.cn
def zj4(a b c d:V):Option V:=(pq 1 [.val (.int .i64 0),.val (.int .i64 0),.val (.int .i64 0),.val (.int .i64 0)] [(0,a),(1,b),(2,c),(3,d)]).map fun es=>.sl es [] .full
theorem zev{t:List V}{a b c d:Nat}:jJ Tryz.prog (ev Γ t) m (.lits 1 [.val (.int .i64 0)] 4 [(0,.tmp a),(1,.tmp b),(2,.tmp c),(3,.tmp d)])=zj4 (jS t a) (jS t b) (jS t c) (jS t d):=by
 rw[←rD (Γ:=Γ),←rD (Γ:=Γ),←rD (Γ:=Γ),←rD (Γ:=Γ)];rfl
theorem zeu(a b c d:Int):zj4 (it a) (it b) (it c) (it d)=some (.sl ([a,b,c,d].map it) [] .full):=rfl
theorem Hg{e:Ent}(h:Dh e)(hs:e.cs.length≤1099511627776)(hs2:e.s.length≤1099511627776):(rq e).length≤80+e.s.length+e.cs.length:=by
 obtain⟨h1,h2,h3,h4,h5,h6⟩:=h;have a:=uD (l:=[e.c,e.q,e.k,e.n]) (by intro n hn;simp only[di,bW,or_false]at hn;rcases hn with rfl|rfl|rfl|rfl<;>assumption);have b:=qZ (n:=(e.s.length:Int)) ⟨by omega,by omega⟩;have c:=zbM (k:=e.ck) (n:=e.cn) h5 h6 (t:=e.cs) (by omega);simp only[rq,aJ,au,ay]at a ⊢;omega
theorem XQ{v:V}{l:List UInt8}(hB:Gt 5 1 m m' v (l.map by8))(e:Ent)(he:Dh e)(hl:l.length+e.s.length+e.cs.length+1000<1099511627776) :
  jB Tryz.prog Γ 50 [v,kS e] m' fun o m2=>∃ v2,o = .ret v2∧Buf 5 1 m m2 v2 ((l++rq e).map by8):=by
 have hne:=nX (k:=0) e
 have hn4:∀ n∈[e.c,e.q,e.k,e.n],Av.I64 n:=by
  obtain⟨h1,h2,h3,h4,h5,h6⟩:=he;intro n hn;simp only[di,bW,or_false]at hn
  rcases hn with rfl|rfl|rfl|rfl<;>assumption
 have hlen:=uD hn4;simp only[au,ay]at hlen;have hz:kH [e.c,e.q,e.k,e.n]≠[]:=by simp[kH,ut]
 refine JR mixed ziD zkO jY hB (jG _) (by simp only[hne,nbS]) (jG _) (lM _) (lV (by simp[rq,hz])) fun x0 tok hx => ?_;simp only[F50,kS,ss0,aC,ag];simp only[zev,zeu,jA,ssH,ag,ae,reduceIte,af,ak,ai,aj];have hni:=sF (k:=0) [e.c,e.q,e.k,e.n];have hb2:=qZ (n:=(e.s.length:Int)) ⟨by omega,by omega⟩;refine Om (size:=1) (az:=[.sl ([e.c,e.q,e.k,e.n].map it) [] .full]) (by simp) rfl hx (lM _) (es2:=(l++kH [e.c,e.q,e.k,e.n]).map by8) (lV (by simp[hz])) (fun mm mm' w hw=>zen hw _ hn4 (by simp) (by simp;omega) (by simp)) (jG _) (by simp only[hni,nbS]) (jG _) fun k => ?_;simp only[au,ay,fJ,eG,ssH,ag,ae,reduceIte,af,ak,ai,aj];refine qw (e:=5) (j:=2) (size:=1) (az:=[bs e.s]) (by simp) rfl rfl (lM _) (es2:=(l++kH [e.c,e.q,e.k,e.n]++uz e.s.length++e.s).map by8) (lV (by simp[hz])) (lV (by simp[hz])) (fun mm mm' w hw=>FI hw (by simp;omega) (by simp;omega)) (jG _) nbY (jG _) fun k2 => ?_;simp only[au,ay,ssH,ag,ae,reduceIte,af,ak,ai,aj];have e2:l++rq e=l++kH [e.c,e.q,e.k,e.n]++uz e.s.length++e.s++FM e.ck e.cn e.cs:=by simp only[rq,aX]
 rw[e2];refine qw (e:=5) (j:=3) (size:=1) (az:=[Ac e.ck e.cn e.cs]) (by simp) rfl rfl (lM _) (es2:=(l++kH [e.c,e.q,e.k,e.n]++uz e.s.length++e.s++FM e.ck e.cn e.cs).map by8) (lV (by simp[hz])) (lV (by simp[hz])) (fun mm mm' w hw=>zhB (.inl hw) he.2.2.2.2.1 he.2.2.2.2.2 (by simp;omega) (by simp;omega)) (jG _) (by simp only[Ac,nbS]) (jG _) fun k3 => ?_;simp only[au,ay,ssH,ag,ae,reduceIte,af,ak,ai,aj];exact jy rfl ⟨4,k3,rfl,rfl⟩
def o7:List Ent→List UInt8
 |[]=>[]
 |e::l=>rq e++o7 l
theorem ZF(a b:List Ent):o7 (a++b)=o7 a++o7 b:=by
 induction a with
 |nil=>rfl
 |cons e a ih=>simp only[aA,o7,ih,aX]
def vP(x:Lg):List UInt8:=uz x.b++(uz x.c.length++x.c)++uz x.l.length++o7 x.l
def zgQ(e:Ent):Prop:=Dh e∧e.s.length≤255∧e.cs.length≤255
theorem ZE{l:List Ent}(h:∀ e∈l,zgQ e):(o7 l).length≤600*l.length:=by
 induction l with
 |nil=>exact aY _
 |cons e l ih=>
  obtain⟨h1,h2,h3⟩:=h e (aT ..);have h4:=ih fun x hx=>h x (aV _ hx);have h5:=Hg h1 (by omega) (by omega);simp only[o7,aJ,au];omega
def zaX(x:Lg):Prop:=Av.I64 x.b∧x.c.length≤65536∧x.l.length≤64∧∀ e∈x.l,zgQ e
theorem Nz{x:Lg}(h:zaX x):(vP x).length≤110000:=by
 obtain⟨h1,h2,h3,h4⟩:=h;have a:=qZ h1;have b:=qZ (n:=(x.c.length:Int)) ⟨by omega,by omega⟩;have c:=qZ (n:=(x.l.length:Int)) ⟨by omega,by omega⟩;have d:=ZE h4;simp only[vP,aJ];omega
def zjQ(e:Ent):Prop:=Dh e∧e.s.length≤2000000∧e.cs.length≤2000000
theorem Wh{l:List Ent}(h:∀ e∈l,zjQ e):(o7 l).length≤4000100*l.length:=by
 induction l with
 |nil=>exact aY _
 |cons e l ih=>
  obtain⟨h1,h2,h3⟩:=h e (aT ..);have h4:=ih fun x hx=>h x (aV _ hx);have h5:=Hg h1 (by omega) (by omega);simp only[o7,aJ,au];omega
def zh9(x:Lg):Prop:=Av.I64 x.b∧x.c.length≤2000000∧x.l.length≤1000∧∀ e∈x.l,zjQ e
theorem zaX.w{x:Lg}(h:zaX x):zh9 x:=⟨h.1,by have:=h.2.1;omega,by have:=h.2.2.1;omega,fun e he=>by have:=h.2.2.2 e he;exact⟨this.1,by have:=this.2.1;omega,by have:=this.2.2;omega⟩⟩
theorem zel{v:V}{l:List UInt8}(hB:Gt 5 1 m m' v (l.map by8))(nn:Bool)(x:Lg)(hx:zh9 x)(hl:l.length≤1000000) :
  jB Tryz.prog Γ 54 [v,lgV nn x] m' fun o m2=>∃ v2,o = .ret v2∧Buf 5 1 m m2 v2 ((l++vP x).map by8):=by
 have hnb:=ql (k:=0) nn x;have hnl:=kL (k:=0) nn x.l;obtain⟨h1,h2,h3,h4⟩:=id hx;have hb2:=qZ h1;have hc2:=qZ (n:=(x.c.length:Int)) ⟨by omega,by omega⟩;have hd2:=qZ (n:=(x.l.length:Int)) ⟨by omega,by omega⟩;refine JR mixed ziA zkL jY hB (jG _) (by simp only[hnb,nbS]) (jG _) (lM _) (lV (by simp[vP,ut])) fun x0 tok hx0 => ?_;simp only[F54,lgV,ss0,aC,ag];simp only[Ib,jA,ssH,ag,ae,reduceIte,af,ak,ai,aj];refine Om (e:=5) (size:=1) (az:=[it x.b]) (by simp) rfl hx0 (lM _) (es2:=(l++uz x.b).map by8) (lV (by simp[ut])) (fun mm mm' w hw=>qf hw h1 (by omega)) (jG _) nbY (jG _) fun k => ?_;simp only[au,ay,ssH,ag,ae,reduceIte,af,ak,ai,aj];refine qw (e:=5) (j:=2) (size:=1) (az:=[bs x.c]) (by simp) rfl rfl (lM _) (es2:=(l++uz x.b++uz x.c.length++x.c).map by8) (lV (by simp[ut])) (lV (by simp[ut])) (fun mm mm' w hw=>FI hw (by simp;omega) (by simp;omega)) (jG _) nbY (jG _) fun k2 => ?_;simp only[au,ay,ssH,ag,ae,reduceIte,af,ak,ai,aj];refine qw (e:=5) (j:=3) (size:=1) (az:=[it x.l.length]) (by simp) rfl rfl (lM _) (es2:=(l++uz x.b++uz x.c.length++x.c++uz x.l.length).map by8) (lV (by simp[ut])) (lV (by simp[ut])) (fun mm mm' w hw=>qf (.inl hw) ⟨by omega,by omega⟩ (by simp;omega)) (jG _) nbY (jG _) fun k3 => ?_;obtain⟨pl,hpl⟩:∃ z,z=l++uz x.b++uz x.c.length++x.c++uz x.l.length:=⟨_,rfl⟩;rw[←hpl];simp only[au,ay,Ib,ssH,ag,ae,reduceIte,af,ak,ai,aj];have hpe:l++vP x=pl++o7 x.l:=by rw[hpl];simp only[vP,aX]
 have hpn:pl≠[]:=by rw[hpl];simp[ut]
 have hpo:pl.length≤3100000:=by rw[hpl];simp only[aJ];omega
 rw[hpe];clear hpl hpe;have hnl2:=kL (k:=2) nn x.l
 have back:∀ {t':List V} {h' : Hl} (n' i' j k:Nat),t'.length=30→jS t' 0 = .sl ((pl++o7 (x.l.take i')).map by8) [] (.tip j k)→jS t' 3 = .ptr 1 0→jS t' 19=lJ nn x.l→jS t' 20=it x.l.length→jS t' 21=it i' → lk h' 1=some (Ci nn x)→lk h' j=some (.tip 5 k)→2≤j→i' + n'=x.l.length+1→i'≤x.l.length →
   Back [0,3,19,20,21] (aK 2++[j]) 1 30 (fun vs h=>∃ (i k:Nat),vs=[.sl ((pl++o7 (x.l.take i)).map by8) [] (.tip 2 k),.ptr 1 0,lJ nn x.l,it x.l.length,it i]∧i+n'=x.l.length+1∧i≤x.l.length∧h=[none,some (Ci nn x),some (.tip 5 k)]) ⟨t',h'⟩:=by
  intro t' h' n' i' j k q q0 q3 q19 q20 q21 qb qj hj hn' hi';refine IK (c:=2) (j:=j) (k:=k) (es:=(pl++o7 (x.l.take i')).map by8) (more:=[.ptr 1 0,lJ nn x.l,it x.l.length,it i']) [none,some (Ci nn x)] q (by decide) hj (by decide) qj rfl (by simp only[aZ,q0,q3,q19,q20,q21]) (jG _) (by simp only[hnl2,nbS];decide) ?_ ⟨i',k,rfl,hn',hi',rfl⟩;intro a ha y hy;have:a=0∨a=1:=by omega
  rcases this with rfl|rfl
  ·cases hy
  ·cases hy;exact⟨qb,by simp only[Ci,hnl2,nbS]⟩
 refine nC [0,3,19,20,21] 30 (fun n vs h=>∃ (i k:Nat),vs=[.sl ((pl++o7 (x.l.take i)).map by8) [] (.tip 2 k),.ptr 1 0,lJ nn x.l,it x.l.length,it i]∧i+n=x.l.length+1∧i≤x.l.length∧h=[none,some (Ci nn x),some (.tip 5 k)]) (x.l.length+1) (by decide) (by decide) (aK 2++[4]) (back (x.l.length+1) 0 4 k3 rfl (by simp only[List.take_zero,o7,aP];rfl) rfl rfl rfl rfl rfl rfl (by decide) (by omega) (by omega)) ?_;rintro n t h J hJ hlt ⟨i,k,hv,hi1,hi2,rfl⟩;simp only[aZ,aQ,and_true]at hv;obtain⟨g0,g3,g19,g20,g21⟩:=hv
 have hlen:(o7 (x.l.take i)).length≤4000100*1000:=by
  have:=Wh (l:=x.l.take i) fun e he=>h4 e (dQ he);rw[aW]at this;omega
 obtain⟨pr,hpr⟩:∃ z,z=pl++o7 (x.l.take i):=⟨_,rfl⟩;have hprl:pr.length≤5000000000:=by rw[hpr,aJ];omega
 have hpr0:pr≠[]:=by rw[hpr];simp[hpn]
 rw[←hpr]at g0;rw[mO hlt];simp only[jW,upTo,g0,g3,g19,g20,g21,Ci,ssH,ag,ae,reduceIte,af,ak,ai,aj]
 by_cases hil:i<x.l.length
 ·have hx2:x.l[i]? = some x.l[i]:=aI hil;have hei:zjQ x.l[i]:=h4 _ (dX _)
  have hst:pl++o7 (x.l.take (i+1))=pr++rq x.l[i]:=by
   rw[bg,hx2,ZF,hpr];simp[o7]
  generalize x.l[i]=e at hx2 hei hst;simp only[show decide ((i:Int)<(x.l.length:Int))=true from decide_eq_true (by omega),lJ,EJ hx2,jA,ssH,ag,ae,reduceIte,af,ak,ai,aj];refine qw (e:=5) (j:=2) (size:=1) (az:=[kS e]) (by simp) rfl rfl (lM _) (es2:=(pr++rq e).map by8) (lV hpr0) (lV (by simp[hpr0])) (fun mm mm' w hw=>XQ (.inl hw) e hei.1 (by have:=hei.2;omega)) (jG _) (by simp only[nX,nbS]) (jG _) fun k2 => ?_;simp only[au,ay,jQ (show i<4611686018427387904 by omega),ssH,ag,ae,reduceIte,af,ak,ai,aj];exact⟨_,hJ (n-1) _ _ (by omega) (back (n-1) (i+1) 4 k2 rfl (by rw[hst];rfl) rfl rfl rfl rfl rfl rfl (by decide) (by omega) (by omega))⟩
 ·simp only[show decide ((i:Int)<(x.l.length:Int))=false from decide_eq_false (by omega),ssH,ag,ae,reduceIte,af,ak,ai,aj];have hie:i=x.l.length:=by omega
  rw[hie,bK]at hpr;subst hpr;exact jy rfl ⟨2,k,rfl,rfl⟩
end
def hdB(x:List UInt8):List UInt8:=uz x.length++x
def frB(x:List UInt8):List UInt8:=hdB x++le4 (CP (hdB x))
theorem Yu(n:Nat):(le4 n).length=4:=rfl
theorem pz(x:List UInt8):(frB x).length=(uz x.length).length+x.length+4:=by simp only[frB,hdB,Yu,aJ]
def frG(s:List UInt8):List UInt8×Nat×Int:=
 if (kT s 1048576).2.2≠0 then ([],0,(kT s 1048576).2.2)
 else if s.length<(kT s 1048576).2.1+(kT s 1048576).1.toNat+4 then ([],0,3)
 else if s.take ((kT s 1048576).2.1+(kT s 1048576).1.toNat+4)=frB ((s.drop (kT s 1048576).2.1).take (kT s 1048576).1.toNat)then ((s.drop (kT s 1048576).2.1).take (kT s 1048576).1.toNat,(kT s 1048576).2.1+(kT s 1048576).1.toNat+4,0)
 else ([],0,4)
theorem Vm(s:List UInt8)(most:Int){k:Nat}(h:10≤k):kT (s.take k) most=kT s most:=by unfold kT;rw[Av.numL_take s h]
theorem CQ{s:List UInt8}{n most:Int}{u:Nat}(h:kT s most=(n,u,0)):0≤n∧n≤max 0 most∧0<u∧u≤10∧u≤s.length∧s.take u=uz n:=by
 unfold kT at h
 split at h
 ·rename_i h1;simp only[bF]at h;exact absurd h.2.2 h1
 ·rename_i h1
  split at h
  ·simp at h
  ·split at h
   ·simp at h
   ·rename_i h2 h3;simp only[bF,and_true]at h;obtain⟨rfl,rfl⟩:=h;have h1':(Av.numL s).2.2=0:=by simpa using h1
    obtain⟨g1,g2,g3,g4⟩:=Av.numL_canon (s:=s) (n:=(Av.numL s).1) (u:=(Av.numL s).2.1) (by rw[←h1']);have:=qZ g4;refine⟨by omega,by omega,g1,?_,g2,g3⟩;have e:=congrArg List.length g3;rw[aW]at e;unfold uz at this;omega
theorem zhR{s:List UInt8}{n u:Nat}(h:kT s 1048576=((n:Int),u,0))(hl:u+n+4≤s.length) :
  (s.take (u+n+4)=frB ((s.drop u).take n))↔(s.drop (u+n)).take 4=le4 (CP (s.take (u+n))):=by
 obtain⟨_,_,_,_,h1,h2⟩:=CQ h;have hx:((s.drop u).take n).length=n:=by rw[aW,List.length_drop];omega
 have e1:hdB ((s.drop u).take n)=s.take (u+n):=by
  rw[hdB,hx,←h2,List.take_add]
 rw[frB,e1,List.take_add,List.append_cancel_left_eq]
theorem IB{x:List UInt8}(h:x.length≤1048576)(r:List UInt8):kT (uz x.length++r) 1048576=((x.length:Int),(uz x.length).length,0):=by
 have hi:Av.I64 (x.length:Int):=⟨by omega,by omega⟩;have:=Gl hi r 1048576 (by decide);rw[if_neg (by omega)]at this;exact this
theorem LP{x:List UInt8}(h:x.length≤1048576)(r:List UInt8):frG (frB x++r)=(x,(frB x).length,0):=by
 have e:frB x++r=uz x.length++(x++(le4 (CP (hdB x))++r)):=by simp only[frB,hdB,aX]
 have hc:kT (frB x++r) 1048576=((x.length:Int),(uz x.length).length,0):=by rw[e];exact IB h _
 have hd:(frB x++r).drop (uz x.length).length=x++(le4 (CP (hdB x))++r):=by rw[e,List.drop_left]
 have ht:(frB x++r).take ((uz x.length).length+x.length+4)=frB x:=by
  rw[←pz,List.take_left]
 unfold frG;simp only[hc,bJ,hd,List.take_left,ht];rw[if_neg (by simp),if_neg (by rw[aJ,pz];omega),if_pos trivial,pz]
theorem Qh:∀ (k u i f c:Nat),u<128^(k+1)→i+k≤9→c<(Lib.uvarint u).length→Av.numGo i f ((Lib.uvarint u).take c)=(0,0,3)
 |k,u,i,f,c,hk,hi,hc=>by
  by_cases hs:u<128
  ·rw[Lib.uvarint_small hs]at hc ⊢;have:c=0:=by simpa using hc
   subst this;rfl
  ·rw[Lib.uvarint_big (by omega)]at hc ⊢
   cases c with
   |zero=>rfl
   |succ c=>
    have e:(u%128+128).toUInt8.toNat=u%128+128:=by
     show(UInt8.ofNat _).toNat=_;rw[UInt8.toNat_ofNat'];omega
    cases k with
    |zero=>simp at hk;omega
    |succ k=>
     rw[List.take_succ_cons,Av.numGo,if_neg (by rw[e];omega),if_pos (by rw[e];omega)];exact Qh k (u / 128) (i+1) _ c (by rw[Nat.pow_succ]at hk;exact Nat.div_lt_of_lt_mul (by rw[Nat.mul_comm];exact hk)) (by omega) (by simpa using hc)
theorem zeP{x:List UInt8}(h:x.length≤1048576){c:Nat}(hc:c<(frB x).length):frG ((frB x).take c)=([],0,3):=by
 have e:frB x=uz x.length++(x++le4 (CP (hdB x))):=by simp only[frB,hdB,aX]
 by_cases h1:c<(uz x.length).length
 ·have hz:Lib.zigzag (x.length:Int)<128^(3+1):=by
   unfold Lib.zigzag;rw[if_pos (by omega)];omega
  have h2:kT ((frB x).take c) 1048576=(0,0,3):=by
   rw[e,List.take_append_of_le_length (by omega)];unfold kT Av.numL;rw[uz,Qh 3 _ 0 0 c hz (by omega) h1];rfl
  unfold frG;simp only[h2];rw[if_pos (by decide)]
 ·have h2:kT ((frB x).take c) 1048576=((x.length:Int),(uz x.length).length,0):=by
   rw[e,List.take_append,bi (by omega)];exact IB h _
  unfold frG;simp only[h2,bJ];rw[if_neg (by simp),if_pos (by rw[aW];rw[pz]at hc ⊢;omega)]
theorem WW{s x:List UInt8}{n:Nat}(h:frG s=(x,n,0)):n≤s.length∧s.take n=frB x∧x.length≤1048576∧(frB x).length=n:=by
 obtain⟨k,u,e,hc⟩:∃ k u e,kT s 1048576=(k,u,e):=⟨_,_,_,rfl⟩;unfold frG at h;rw[hc]at h;simp only at h
 split at h
 ·rename_i h1;simp only[bF]at h;exact absurd h.2.2 h1
 ·rename_i h1;have:e=0:=by simpa using h1
  subst this;obtain⟨g1,g2,g3,g4,g5,g6⟩:=CQ hc;obtain⟨k,rfl⟩:=dL g1;simp only[bJ]at h
  split at h
  ·simp at h
  ·rename_i h2
   split at h
   ·rename_i h3;simp only[bF,and_true]at h;obtain⟨rfl,rfl⟩:=h;refine⟨by omega,h3,by rw[aW];omega,?_⟩;rw[←h3,aW];omega
   ·simp at h
end Go.Av.Fn
namespace Go.Av
section
variable {P:Program} {Γ:jI} {H:Nat→List (Nat×List Nat)×List Nat} {f:FuncId} {F:AFn} {gs:List Nat} {m:Store}
theorem zaV(hm:P.follows .mixedOrders=true)(hF:qK P H f=some F)(hok:F.body.okH gs=true)(hG:GOk Γ gs){rb o:Nat}{az:List V}{X:Blk}(hb:m rb=some X)(hX:nbB 0 X)(ha:nbs 0 az){Q:V→Blk→Prop}
  (h:qy P Γ (fun _ _=>False) 1 F.body (uU F.res fun v h'=>nb 0 (wN v)∧∃ Y,lk h' 0=some Y∧nbB 0 Y∧Q (wN v) Y) ⟨start F.ntmps (.ptr 0 o::az),[some X]⟩) :
  jB P Γ f (.ptr rb o::az) m fun o m'=>∃ v Y,o = .ret v∧m'=m.set rb Y∧Q v Y:=by
 have h1:=tV (P:=P) (Γ:=Γ) (R0:=fun a c=>a=0∧c=rb) (N:=1) (m:=one rb X) hm hF hok hG (args0:=.ptr 0 o::az) (args:=.ptr rb o::az) (.cons (.ptr o ⟨rfl,rfl⟩) (ha.up _)) (SG hX) (fun _ _ q=>by omega) (Q:=fun o h'=>match o with | .ret v=>nb 0 (wN v)∧∃ Y,lk h' 0=some Y∧nbB 0 Y∧Q (wN v) Y | .pan _=>False) h;have h2:=h1.frame (Hr rb X (m:=m));rw[LG hb]at h2;refine jB.wnd (R:=fun o m'=>∃ v Y,o = .ret v∧m'=m.set rb Y∧Q (wN v) Y) (jB.less h2 ?_) ?_ ?_
 ·rintro o m'' ⟨m',rfl,d,S,o0,h',s1,s2,s3,s4⟩
  cases o0 with
  |pan v=>exact s4.elim
  |ret v=>
   cases o with
   |pan v'=>exact s3.elim
   |ret v' =>
    obtain⟨q1,Y,q2,q3,q4⟩:=s4;obtain⟨Y',g1,g2⟩:=s2.blk _ _ _ (s1 _ _ ⟨rfl,rfl⟩) q2;obtain rfl:=FV q3 g2;have e3:wN v'=wN v:=DR q1 (VR.wN s3);refine⟨m.set rb Y',?_,v',Y',rfl,rfl,by rw[e3];exact q4⟩;intro b x hx
    by_cases e:b=rb
    ·subst e;rw[Store.jv]at hx;cases hx;simp only[Store.or,g1]
    ·rw[Store.jw _ _ e]at hx
     rcases d b with q|q
     ·simp only[Store.or,q,del,if_neg e];exact hx
     ·simp only[del,if_neg e]at q;rw[q]at hx;cases hx
 ·rintro v m' ⟨v',Y,e,e2,q⟩;cases e;exact⟨_,Y,rfl,e2,q⟩
 ·rintro v m' ⟨v',Y,e,_⟩;cases e
end
end Go.Av
namespace Go.Av.Fn
open Go.Proofs
def DY(s:List UInt8)(a:Nat)(e:Int):Ent×Nat×Int:=
 let c:=qR s a e
 let q:=qR s c.2.1 c.2.2
 let k:=qR s q.2.1 q.2.2
 let n:=qR s k.2.1 k.2.2
 let t:=vk s n.2.1 n.2.2 255
 let d:=Il s t.2.1 t.2.2
 (if d.2.2≠0 then e0 else ⟨c.1,q.1,k.1,n.1,t.1,d.1.1,d.1.2.1,d.1.2.2⟩,d.2.1,d.2.2)
theorem SL{s:List UInt8}{a:Nat}{e:Int}(ha:a≤s.length):(DY s a e).2.1≤s.length:=by
 unfold DY;exact zeO (DI (nU (nU (nU (nU ha)))))
section
variable {Γ:jI} {m:Store} {rb a:Nat} {s:List UInt8} {e:Int}
set_option maxHeartbeats 1600000 in
theorem XR(L:xE Γ)(hr:m rb=some (rdB s a e))(ha:a≤s.length)(hs:s.length≤281474976710656) :
  jB Tryz.prog Γ 119 [.ptr rb 0] m fun o m'=>o = .ret (kS (DY s a e).1)∧m'=m.set rb (rdB s (DY s a e).2.1 (DY s a e).2.2):=by
 unfold DY;obtain⟨c,a1,e1,h1⟩:∃ x y z,qR s a e=(x,y,z):=⟨_,_,_,rfl⟩;have l1:=nU (e:=e) ha;rw[h1]at l1;obtain⟨q,a2,e2,h2⟩:∃ x y z,qR s a1 e1=(x,y,z):=⟨_,_,_,rfl⟩;have l2:=nU (e:=e1) l1;rw[h2]at l2;obtain⟨k,a3,e3,h3⟩:∃ x y z,qR s a2 e2=(x,y,z):=⟨_,_,_,rfl⟩;have l3:=nU (e:=e2) l2;rw[h3]at l3;obtain⟨n,a4,e4,h4⟩:∃ x y z,qR s a3 e3=(x,y,z):=⟨_,_,_,rfl⟩;have l4:=nU (e:=e3) l3;rw[h4]at l4;obtain⟨t,a5,e5,h5⟩:∃ x y z,vk s a4 e4 255=(x,y,z):=⟨_,_,_,rfl⟩;have l5:=DI (most:=255) (e:=e4) l4;rw[h5]at l5;obtain⟨⟨dk,dn,dt⟩,a6,e6,h6⟩:∃ x y z,Il s a5 e5=(x,y,z):=⟨_,_,_,rfl⟩;simp only at l1 l2 l3 l4 l5;simp only[h1,h2,h3,h4,h5,h6];refine wM (vN mixed zgF zjB jY hr kK nbY ?_);simp only[zjC,ss0,aC,ag];simp only[ssH,ag,ae,reduceIte,af,ak,ai,aj];refine jX (b:=0) (X:=rdB s a e) rfl rfl (fun m b' h=>rY h ha (by omega)) kK kK nbY nbY ?_;simp only[h1,ssH,ag,ae,reduceIte,af,ak,ai,aj];refine jX (b:=0) (X:=rdB s a1 e1) rfl rfl (fun m b' h=>rY h l1 (by omega)) kK kK nbY nbY ?_;simp only[h2,ssH,ag,ae,reduceIte,af,ak,ai,aj];refine jX (b:=0) (X:=rdB s a2 e2) rfl rfl (fun m b' h=>rY h l2 (by omega)) kK kK nbY nbY ?_;simp only[h3,ssH,ag,ae,reduceIte,af,ak,ai,aj];refine jX (b:=0) (X:=rdB s a3 e3) rfl rfl (fun m b' h=>rY h l3 (by omega)) kK kK nbY nbY ?_;simp only[h4,ssH,ag,ae,reduceIte,af,ak,ai,aj];refine jX (b:=0) (az:=[it 255]) (X:=rdB s a4 e4) rfl rfl (fun m b' h=>MF L 255 h l4 hs) kK kK nbY nbY ?_;simp only[h5,ssH,ag,ae,reduceIte,af,ak,ai,aj];refine jX (b:=0) (X:=rdB s a5 e5) rfl rfl (fun m b' h=>zhO L h l5 hs) kK kK nbY (zer _) ?_
 simp only[h6,Xl,Ac,jA,ssH,ag,ae,reduceIte,af,ak,ai,aj];refine kz (b:=0) rfl rfl (fun m b' h=>xO h) kK nbY nbY ?_;cases he:(e6 != 0)
 ·have h0:e6=0:=by simpa using he
  subst h0;simp only[he,jA,ssH,ag,ae,reduceIte,af,ak,ai,aj];exact jy (v:=kS ⟨c,q,k,n,t,dk,dn,dt⟩) rfl ⟨nX _,_,rfl,kK,by simp,rfl⟩
 ·have h0:e6≠0:=by simpa using he
  simp only[he,jA,ssH,ag,ae,reduceIte,af,ak,ai,aj];exact jy (v:=kS e0) rfl ⟨nX _,_,rfl,kK,by rw[if_pos h0],rfl⟩
def xM:Nat→List UInt8→Nat→Int→List Ent×Nat×Int
 |0,_,a,e=>([],a,e)
 |n+1,s,a,e=>if e=0 then ((DY s a e).1::(xM n s (DY s a e).2.1 (DY s a e).2.2).1,(xM n s (DY s a e).2.1 (DY s a e).2.2).2)else ([],a,e)
theorem zak{n:Nat}{s:List UInt8}{a:Nat}{e:Int}(h:e≠0):xM n s a e=([],a,e):=by
 cases n with
 |zero=>rfl
 |succ n=>rw[xM,if_neg h]
def Ou(s:List UInt8)(a:Nat)(e:Int):Lg×Nat×Int:=
 let b:=qR s a e
 let c:=vk s b.2.1 b.2.2 65536
 let n:=rO s c.2.1 c.2.2 1048576
 let r:=xM n.1.toNat s n.2.1 n.2.2
 (if r.2.2≠0 then lg0 else ⟨b.1,c.1,r.1⟩,r.2.1,r.2.2)
theorem V6{s:List UInt8}{a:Nat}{e:Int}:0≤(rO s a e 1048576).1∧(rO s a e 1048576).1≤1048576:=by
 have hc:(kT (s.drop a) 1048576).1≤1048576:=by
  unfold kT
  (repeat' split)<;>simp<;>omega
 have:=(BA (s.drop a) 1048576).2.1;unfold rO
 (repeat' split)<;>simp<;>omega
def Bo(out:List Ent)(tok:Tok)(r:Hl):Prop:=tok = .full∧out=[]∧r=[]∨∃ k,tok = .tip 3 k∧out≠[]∧r=[some (.tip 42 k)]
theorem zh1{Kp:V→Hl→Prop}{s:List (Tmp×Option (Tmp×Bool)×AOp)}{l:List Item}{K:HS→Prop}{t:List V}{d:Option Tmp}{X0 X1 X2:Option Blk}{out:List Ent}{tok:Tok}{r:Hl}{e:Ent}(h:Bo out tok r)(hb:out.length≤1500000)
  (hr:∀ k,hth Tryz.prog Γ Kp s l K (hput t [X0,X1,X2,some (.tip 42 k)] d (some (.sl ((out++[e]).map kS) [] (.tip 3 k))))):uJ Tryz.prog Γ Kp 42 80 8 (.sl (out.map kS) [] tok) (.sl [kS e] [] .full) d s l K t (X0::X1::X2::r):=by
 have he:rE 8 [kS e]=true:=rfl;rw[bu]at hr
 rcases h with ⟨rfl,rfl,rfl⟩|⟨k,rfl,h0,rfl⟩
 ·exact sJ (ys:=[kS e]) rfl (by simp) (by simp) rfl he (by simp) (hr 0)
 ·exact AU (j:=3) (k:=k) (x:=.sl [kS e] [] .full) (ys:=[kS e]) rfl (by simp) (by simpa using h0) rfl (yx out) he (by simp;omega) (hr (k+1))
theorem zko{out:List Ent}{tok:Tok}{r:Hl}(h:Bo out tok r):wN (.sl (out.map kS) [] tok)=zhh out:=by
 rcases h with ⟨rfl,rfl,rfl⟩|⟨k,rfl,h0,rfl⟩
 ·rfl
 ·rw[QW (.inl h0),zhh]
  cases out with
  |nil=>exact absurd rfl h0
  |cons e l=>rfl
theorem zkp{out:List Ent}{tok:Tok}{r:Hl}(h:Bo out tok r):nb (3+r.length) (.sl (out.map kS) [] tok):=by
 rcases h with ⟨rfl,rfl,rfl⟩|⟨k,rfl,_,rfl⟩
 ·simp only[eG,nbS]
 ·have:=tZ (k:=4) nX out;simp only[au,ay,this,nbS];decide
theorem zh0{out:List Ent}{tok:Tok}{r:Hl}(h:Bo out tok r):r.length≤1:=by
 rcases h with ⟨rfl,rfl,rfl⟩|⟨k,rfl,_,rfl⟩<;>simp
def lgZ:Blk:=.var 26 [it 0,bs [],.sl [] [] .full]
def lgT(b:Int)(c:List UInt8)(out:List Ent)(tok:Tok):Blk:=.var 26 [it b,bs c,.sl (out.map kS) [] tok]
theorem zdo{b:Int}{c:List UInt8}{out:List Ent}{tok:Tok}{r:Hl}(h:Bo out tok r):∀ i<3+r.length,∀ x,lk (some (rdB s a e)::some lgZ::some (lgT b c out tok)::r) i=some x→nbB (3+r.length) x:=by
 intro i hi x hx;have hv:=zkp h;have:i=0∨i=1∨i=2∨i=3:=by have:=zh0 h;omega
 rcases this with rfl|rfl|rfl|rfl
 ·cases hx;exact kK
 ·cases hx;simp only[lgZ,nbS]
 ·cases hx;simp only[lgT,hv,nbS]
 ·rcases h with ⟨rfl,rfl,rfl⟩|⟨k,rfl,_,rfl⟩
  ·cases hx
  ·cases hx;simp only[nbS]
set_option maxHeartbeats 1600000 in
theorem zem(L:xE Γ)(hr:m rb=some (rdB s a e))(ha:a≤s.length)(hs:s.length≤281474976710656) :
  jB Tryz.prog Γ 89 [.ptr rb 0] m fun o m'=>o = .ret (lgN (Ou s a e).1)∧m'=m.set rb (rdB s (Ou s a e).2.1 (Ou s a e).2.2):=by
 unfold Ou;obtain⟨b,a1,e1,h1⟩:∃ x y z,qR s a e=(x,y,z):=⟨_,_,_,rfl⟩;have l1:=nU (e:=e) ha;rw[h1]at l1;obtain⟨c,a2,e2,h2⟩:∃ x y z,vk s a1 e1 65536=(x,y,z):=⟨_,_,_,rfl⟩;have l2:=DI (most:=65536) (e:=e1) l1;rw[h2]at l2;have hcr:=V6 (s:=s) (a:=a2) (e:=e2);obtain⟨n0,a3,e3,h3⟩:∃ x y z,rO s a2 e2 1048576=(x,y,z):=⟨_,_,_,rfl⟩;have l3:=P5 (most:=1048576) (e:=e2) l2;rw[h3]at l3 hcr;simp only at l1 l2 l3 hcr;obtain⟨n1,rfl⟩:=dL hcr.1;simp only[h1,h2,h3,bJ];have hn1:n1≤1048576:=by omega
 refine wM (zaV mixed zik zkB jY hr kK nbY ?_);simp only[F89,ss0,aC,ag];simp only[ssH,ag,ae,reduceIte,af,ak,ai,aj];refine jX (b:=0) (X:=rdB s a e) rfl rfl (fun m b' h=>rY h ha (by omega)) kK kK nbY nbY ?_;simp only[h1,ssH,ag,ae,reduceIte,af,ak,ai,aj];refine jX (b:=0) (az:=[it 65536]) (X:=rdB s a1 e1) rfl rfl (fun m b' h=>MF L 65536 h l1 hs) kK kK nbY nbY ?_;simp only[h2,jA,ssH,ag,ae,reduceIte,af,ak,ai,aj];refine jX (b:=0) (az:=[it 1048576]) (X:=rdB s a2 e2) rfl rfl (fun m b' h=>Px 1048576 h l2 hs) kK kK nbY nbY ?_;simp only[h3,ssH,ag,ae,reduceIte,af,ak,ai,aj];generalize hQ:vI 0 _=Q
 have tail:∀ {t':List V} {a:Nat} {e:Int} {out:List Ent} {tok:Tok} {r:Hl},t'.length=33→jS t' 0 = .ptr 0 0→jS t' 2 = .ptr 1 0→jS t' 3 = .ptr 2 0→Bo out tok r→xM n1 s a3 e3=(out,a,e) →
   Q (.exit 0) ⟨t',some (rdB s a e)::some lgZ::some (lgT b c out tok)::r⟩:=by
  intro t' a e out tok r hlt q0 q2 q3 hB hg;rw[←hQ,mO hlt];simp only[jW,upTo,q0,q2,q3,hg,lgZ,lgT,ssH,ag,ae,reduceIte,af,ak,ai,aj];refine kz (b:=0) (X:=rdB s a e) rfl rfl (fun m b' h=>xO h) kK nbY nbY ?_;cases he:(e != 0)
  ·have h0:e=0:=by simpa using he
   subst h0
   have hw:wN (.agg [it b,bs c,.sl (out.map kS) [] tok])=lgN ⟨b,c,out⟩:=by
    have:=zko hB;simp only[wN,wNs]at this ⊢;rw[this];rfl
   simp only[he,jA,ssH,ag,ae,reduceIte,af,ak,ai,aj];exact jy (v:=.agg [it b,bs c,.sl (out.map kS) [] tok]) rfl ⟨by rw[hw];exact RP,_,rfl,kK,by rw[hw,if_neg (by simp)],rfl⟩
  ·have h0:e≠0:=by simpa using he
   simp only[he,jA,ssH,ag,ae,reduceIte,af,ak,ai,aj];exact jy (v:=.agg [it 0,bs [],.sl [] [] .full]) rfl ⟨RP (x:=lg0),_,rfl,kK,by rw[if_pos h0];rfl,rfl⟩
 refine nC [0,2,3,4] 33 (fun n vs h=>∃ (j a:Nat) (e:Int) (out:List Ent) (tok:Tok) (r:Hl),vs=[.ptr 0 0,.ptr 1 0,.ptr 2 0,it j]∧h=some (rdB s a e)::some lgZ::some (lgT b c out tok)::r∧Bo out tok r∧a≤s.length∧n=j+1∧j+out.length≤n1∧xM n1 s a3 e3=(out++(xM j s a e).1,(xM j s a e).2)) (n1+1) (by decide) (by decide) (aK 3) (jZ rfl (by decide) (by decide) (by simp) ?_ ?_ ⟨n1,a3,e3,[],.full,[],rfl,rfl,.inl ⟨rfl,rfl,rfl⟩,l3,rfl,by simp,rfl⟩) ?_
 ·show nbs 3 [.ptr 0 0,.ptr 1 0,.ptr 2 0,it n1];simp only[nbS];decide
 ·exact zdo (r:=[]) (.inl ⟨rfl,rfl,rfl⟩)
 rintro n t h J hJ hlt ⟨j,a,e,out,tok,r,hv,rfl,hB,hle,hn,hjo,hg⟩;simp only[aZ,aQ,and_true]at hv;obtain⟨g0,g2,g3,g4⟩:=hv;rw[mO hlt];simp only[jW,upTo,g0,g2,g3,g4,gt_iff_lt,ssH,ag,ae,reduceIte,af,ak,ai,aj]
 by_cases hj:0<j
 ·simp only[show decide ((0:Int)<(j:Int))=true from decide_eq_true (by omega),ssH,ag,ae,reduceIte,af,ak,ai,aj];refine kz (b:=0) (X:=rdB s a e) rfl rfl (fun m b' h=>xO h) kK nbY nbY ?_;cases he:(e==0)
  ·have h0:e≠0:=by simpa using he
   rw[zak h0]at hg;simp only[he,ssH,ag,ae,reduceIte,af,ak,ai,aj];exact tail rfl rfl rfl rfl hB (by rw[hg,aP])
  ·have h0:e=0:=by simpa using he
   subst h0;obtain⟨j,rfl⟩:∃ i,j=i+1:=⟨j-1,by omega⟩;have l4:=SL (e:=0) hle;obtain⟨x,a4,e4,h4⟩:∃ x y z,DY s a 0=(x,y,z):=⟨_,_,_,rfl⟩;rw[xM,if_pos rfl,h4]at hg;rw[h4]at l4;have hw:IntKind.i64.wrap (((j+1:Nat):Int)-1)=(j:Int):=by rw[wrap_i64 (by omega) (by omega)];omega
   simp only[he,lgT,ssH,ag,ae,reduceIte,af,ak,ai,aj];refine jX (b:=0) (X:=rdB s a 0) rfl rfl (fun m b' h=>XR L h hle hs) kK kK nbY (nX _) ?_;simp only[h4,kS,LK,H8,ssH,ag,ae,reduceIte,af,ak,ai,aj];refine zh1 hB (by omega) fun k => ?_;simp only[tN,wV,hw,ssH,ag,ae,reduceIte,af,ak,ai,aj];have hB2:Bo (out++[x]) (.tip 3 k) [some (.tip 42 k)]:=.inr ⟨k,rfl,by simp,rfl⟩;refine⟨_,hJ (j+1) (aK 4) _ (by omega) (jZ rfl (by decide) (by decide) (by simp) ?_ (zdo hB2 (s:=s) (a:=a4) (e:=e4) (b:=b) (c:=c)) ⟨j,a4,e4,out++[x],.tip 3 k,_,rfl,rfl,hB2,l4,rfl,by simp;omega,by rw[hg];simp⟩)⟩;show nbs 4 [.ptr 0 0,.ptr 1 0,.ptr 2 0,it j];simp only[nbS];decide
 ·have hj0:j=0:=by omega
  subst hj0;simp only[show decide ((0:Int)<((0:Nat):Int))=false from rfl,ssH,ag,ae,reduceIte,af,ak,ai,aj];rw[xM]at hg;exact tail rfl rfl rfl rfl hB (by rw[hg,aP])
end
theorem gI{s p r:List UInt8}{n:Int}(hn:Av.I64 n)(h:s=p++(uz n++r)):qR s p.length 0=(n,(p++uz n).length,0)∧s=(p++uz n)++r:=by
 refine⟨?_,by rw[h,aX]⟩;rw[h,aJ];exact Nw hn p r
theorem gT{s p r x:List UInt8}(most:Nat)(hx:x.length≤most)(hm:most<9223372036854775808)(h:s=p++(uz x.length++(x++r))):vk s p.length 0 most=(x,(p++uz x.length++x).length,0)∧s=(p++uz x.length++x)++r:=by
 refine⟨?_,by rw[h];simp only[aX]⟩;have:=PZ (s:=x) (by omega) p r most;rw[if_neg (by omega)]at this;rw[h,show(p++uz x.length++x).length=p.length+((uz x.length).length+x.length)by simp only[aJ];omega];exact this
theorem gN{s p r:List UInt8}{n:Nat}(hn:n≤1048576)(h:s=p++(uz n++r)):rO s p.length 0 1048576=((n:Int),(p++uz n).length,0)∧s=(p++uz n)++r:=by
 refine⟨?_,by rw[h,aX]⟩;have hi:Av.I64 (n:Int):=⟨by omega,by omega⟩;have:=Gl hi r 1048576 (by decide);rw[if_neg (by omega)]at this;have e:s.drop p.length=Lib.uvarint (Lib.zigzag n)++r:=by rw[h,OG];rfl
 unfold rO;simp only[e,this];simp[uz]
theorem gC{s p r x:List UInt8}{k n:Int}(hk:Av.I64 k)(hn:Av.I64 n)(hx:x.length≤255)(h:s=p++(FM k n x++r)):Il s p.length 0=((k,n,x),(p++FM k n x).length,0)∧s=(p++FM k n x)++r:=by
 refine⟨?_,by rw[h,aX]⟩;rw[h,aJ];exact zcV hk hn hx p r
theorem gE{s p r:List UInt8}{e:Ent}(he:zgQ e)(h:s=p++(rq e++r)):DY s p.length 0=(e,(p++rq e).length,0)∧s=(p++rq e)++r:=by
 refine⟨?_,by rw[h,aX]⟩;obtain⟨⟨h1,h2,h3,h4,h5,h6⟩,hs,hc⟩:=he
 have e0:s=p++(uz e.c++(uz e.q++(uz e.k++(uz e.n++(uz e.s.length++(e.s++(FM e.ck e.cn e.cs++r))))))):=by
  rw[h];simp only[rq,kH,aX,aP]
 obtain⟨a1,b1⟩:=gI h1 e0;obtain⟨a2,b2⟩:=gI h2 b1;obtain⟨a3,b3⟩:=gI h3 b2;obtain⟨a4,b4⟩:=gI h4 b3;obtain⟨a5,b5⟩:=gT 255 hs (by decide) b4;obtain⟨a6,b6⟩:=gC h5 h6 hc b5;unfold DY;simp only[a1,a2,a3,a4,show vk s (p++uz e.c++uz e.q++uz e.k++uz e.n).length 0 255=_ from a5,a6];refine Prod.ext (by simp) (Prod.ext ?_ rfl);simp only[rq,kH,aJ,ay];omega
theorem gEs:∀ {l:List Ent} {s p r:List UInt8},(∀ e∈l,zgQ e)→s=p++(o7 l++r)→xM l.length s p.length 0=(l,(p++o7 l).length,0)∧s=(p++o7 l)++r
 |[],s,p,r,_,h=>⟨by simp[xM,o7],by rw[h];simp[o7]⟩
 |e::l,s,p,r,he,h=>by
  refine⟨?_,by rw[h,aX]⟩;obtain⟨a1,b1⟩:=gE (he e (aT ..)) (h.trans (by rw[o7,aX]):s=p++(rq e++(o7 l++r)));obtain⟨a2,b2⟩:=gEs (fun x hx=>he x (aV _ hx)) b1;rw[au,xM,if_pos rfl,a1];simp only;rw[a2];simp only[o7,aX]
theorem gL{s p r:List UInt8}{x:Lg}(hx:zaX x)(h:s=p++(vP x++r)):Ou s p.length 0=(x,(p++vP x).length,0):=by
 obtain⟨h1,h2,h3,h4⟩:=hx
 have e0:s=p++(uz x.b++(uz x.c.length++(x.c++(uz x.l.length++(o7 x.l++r))))):=by
  rw[h];simp only[vP,aX]
 obtain⟨a1,b1⟩:=gI h1 e0;obtain⟨a2,b2⟩:=gT 65536 h2 (by decide) b1;obtain⟨a3,b3⟩:=gN (by omega) b2;obtain⟨a4,b4⟩:=gEs h4 b3;unfold Ou;simp only[a1,show vk s (p++uz x.b).length 0 65536=_ from a2,a3,bJ,a4];refine Prod.ext (by simp) (Prod.ext ?_ rfl);simp only[vP,aJ];omega
theorem IA{e:Ent}(h:nR e=true):e.s.length≤255∧e.cs.length≤255:=by
 unfold nR at h;rw[aG]at h
 have hno:∀ e:Ent,AC e=true→e.cs.length≤255:=by
  intro e h;simp only[AC,decide_eq_true_eq]at h;rw[h.2.2];decide
 have hs0:∀ s:List UInt8,(s==[])=true→s.length≤255:=by
  intro s h;have:s=[]:=by simpa using h
  rw[this];decide
 have h2:=h.2
 split at h2
 ·simp only[aG]at h2;exact⟨by have:=h2.1.1;unfold nameB at this;simp only[aG,decide_eq_true_eq]at this;omega,hno e h2.2⟩
 ·split at h2
  ·simp only[aG]at h2;exact⟨hs0 _ h2.1.1,hno e h2.2⟩
  ·split at h2
   ·simp only[aG]at h2;exact⟨hs0 _ h2.1.1,hno e h2.2⟩
   ·split at h2
    ·simp only[aG]at h2;exact⟨hs0 _ h2.1.1,(PT h2.2).1⟩
    ·exact absurd h2 (by decide)
theorem Si{x:Lg}(h:lgB x=true)(hb:Av.I64 x.b)(he:∀ e∈x.l,Dh e):zaX x:=by
 simp only[lgB,aG,decide_eq_true_eq]at h;refine⟨hb,by omega,by omega,fun e hx=>⟨he e hx,?_⟩⟩;exact IA (List.all_eq_true.1 h.2 e hx)
structure Rpl where
 e:Int
 n:Int
 s:List UInt8
 deriving DecidableEq
structure Mg where
 k:Int
 f:Int
 t:Int
 v:Int
 nr:Int
 op:Int
 cm:Int
 sq:Int
 e:Ent
 l:Lg
 r:Rpl
def r0:Rpl:=⟨0,0,[]⟩
def Bv(s:List UInt8)(x:Nat×Int):Int:=if x.2≠0 then x.2 else if x.1<s.length then 5 else 0
def zl8(nn:Bool)(m:Mg):List V:=[it m.k,it m.f,it m.t,it m.v,it m.nr,it m.op,it m.cm,it m.sq,it m.e.c,it m.e.q,it m.e.k,it m.e.n,bs m.e.s,it m.e.ck,it m.e.cn,bs m.e.cs,it m.l.b,bs m.l.c,lJ nn m.l.l,it m.r.e,it m.r.n,bs m.r.s]
abbrev bo(b:Bool):V:=.val (.bool b)
theorem ten(k:Int):k=1∨k=2∨k=3∨k=4∨k=5∨k=6∨k=7∨k=8∨k=9∨k=10∨(k≠1∧k≠2∧k≠3∧k≠4∧k≠5∧k≠6∧k≠7∧k≠8∧k≠9∧k≠10):=by omega
section
variable {Γ:jI} {m:Store}
end
section
variable {Γ:jI} {m:Store}
end
theorem Qk(nn:Bool)(l:List Ent):lenV false (lJ nn l)=some (it l.length):=by rw[lJ,kE,aH]
section
variable {Γ:jI} {m:Store}
end
section
variable {Γ:jI} {m:Store}
end
end Go.Av.Fn
namespace Go.Av
theorem ku.no{G:Gh}{es more:List V}{tok:Tok}{u:Value}(h:ku G (.sl es more tok) u):ku G (.sl es more .no) u:=by
 cases h with
 |nil _=>exact .nil rfl
 |sl a b c d e f=>exact .sl a b c d e trivial
theorem kD.no{G:Gh}{es more:List V}{tok:Tok}:∀ {a b:List V} {us:List Value},kD G (a ++ .sl es more tok::b) us→kD G (a ++ .sl es more .no::b) us
 |[],b,_,.cons h k=>.cons h.no k
 |x::a,b,_,.cons h k=>.cons h (kD.no (a:=a) k)
theorem jB.tok{P:Program}{Γ:jI}{f:FuncId}{es more:List V}{tok:Tok}{m:Store}{R:Out→Store→Prop}(a b:List V)(h:jB P Γ f (a ++ .sl es more .no::b) m R):jB P Γ f (a ++ .sl es more tok::b) m R:=
 ⟨h.1,fun G B0 mF w cargs hD hR hL=>h.2 G B0 mF w cargs hD hR hL.no⟩
end Go.Av
namespace Go.Av.Fn
open Go.Proofs
theorem Vp{n:Int}:BB Tryz.prog 140 5 (.val (.int .u32 n))=some (.val (.int .u8 (IntKind.u8.wrap n))):=by kernel_rfl
theorem Vo{n:Int}:BB Tryz.prog 5 140 (.val (.int .u8 n))=some (.val (.int .u32 (IntKind.u32.wrap n))):=by kernel_rfl
theorem Gz(n:Nat):BB Tryz.prog 140 5 (u32 n)=some (by8 n.toUInt8):=by rw[u32,Vp,zhK]
theorem zdl(b:UInt8):BB Tryz.prog 5 140 (by8 b)=some (u32 b.toNat):=by
 have:=b.toNat_lt;rw[by8,Vo,wrap32,u32];congr 3;omega
theorem Lh{P:Program}{T:TypeId}{xo yo:Operand}{yk:IntKind}{a:Nat}(b q:Nat)(hb:b≤31)(hq:2^b=q):kX P .shr T .other xo yo (u32 a) (.val (.int yk (b:Int)))=some (u32 (a / q)):=by
 subst hq;rw[u32,II (by omega),bJ,show min b IntKind.u32.bits=b by show min b 32=b;omega];rw[Int.fdiv_eq_ediv_of_nonneg _ (by exact Int.le_of_lt (by exact_mod_cast Nat.two_pow_pos b))]
 norm_cast
theorem za9{P:Program}{T:TypeId}{xo yo:Operand}{a:Nat}(ha:a<4294967296):kX P .and T .other xo yo (u32 a) (.val (.int .u32 1))=some (u32 (a &&& 1)):=u32_and ha (by decide)
theorem za8{P:Program}{T:TypeId}{xo yo:Operand}{a:Nat}(ha:a<4294967296):kX P .and T .other xo yo (u32 a) (.val (.int .u32 3988292384))=some (u32 (a &&& 3988292384)):=u32_and ha (by decide)
theorem zet(a:Nat):(if a%2=1 then 4294967295 else 0)<4294967296:=by split<;>decide
def NS(n:Nat):Nat→List V
 |0=>[.val (.int .u8 0),.val (.int .u8 0),.val (.int .u8 0),.val (.int .u8 0)]
 |1=>[by8 n.toUInt8,.val (.int .u8 0),.val (.int .u8 0),.val (.int .u8 0)]
 |2=>[by8 n.toUInt8,by8 (n / 256).toUInt8,.val (.int .u8 0),.val (.int .u8 0)]
 |3=>[by8 n.toUInt8,by8 (n / 256).toUInt8,by8 (n / 65536).toUInt8,.val (.int .u8 0)]
 |_=>[by8 n.toUInt8,by8 (n / 256).toUInt8,by8 (n / 65536).toUInt8,by8 (n / 16777216).toUInt8]
theorem zeq(k n i:Nat):nbs k (NS n i):=by
 unfold NS
 split<;>simp only[nbS]
theorem Ii{n size i b o:Nat}{k:IntKind}(h:i<n):Ku n size (.ptr b o) (.val (.int k (i:Int)))=some (.ptr b (o+i*size)):=by
 simp only[Ku];rw[if_pos (by omega)];rfl
theorem H7{n:Nat}(i:Nat):∀ a<2,∀ x,lk [some (.var 138 (NS n 0)),some (.var 138 (NS n i))] a=some x→nbB 2 x:=by
 intro a ha x hx;have:a=0∨a=1:=by omega
 rcases this with rfl|rfl<;>cases hx<;>simp only[zeq,nbS]
section
variable {Γ:jI} {m:Store}
theorem zcl(n:Nat):jB Tryz.prog Γ 84 [u32 n] m fun o m'=>o = .ret (.agg ((le4 n).map by8))∧m'=m:=by
 refine kJ (kM mixed ziq zkF jY (by simp only[u32,nbS]) ?_);simp only[F84,ss0,aC,ag];simp only[ssH,ag,ae,reduceIte,af,ak,ai,aj];refine nC [0,2,3,5] 17 (fun k vs h=>∃ i:Nat,vs=[u32 n,.ptr 0 0,.ptr 1 0,it i]∧i+k=5∧i≤4∧h=[some (.var 138 (NS n 0)),some (.var 138 (NS n i))]) 5 (by decide) (by decide) (aK 2) (jZ rfl (by decide) (by decide) (by simp) (by show nbs 2 [u32 n,.ptr 0 0,.ptr 1 0,it 0];simp only[u32,nbS];decide) (H7 (n:=n) 0) ⟨0,rfl,rfl,by omega,rfl⟩) ?_;rintro k t h J hJ hl ⟨i,hv,hk,hi,rfl⟩;simp only[aZ,aQ,and_true]at hv;obtain⟨h0,h2,h3,h5⟩:=hv;rw[mO hl];simp only[jW,upTo,h0,h2,h3,h5,ssH,ag,ae,reduceIte,af,ak,ai,aj];have:i=0∨i=1∨i=2∨i=3∨i=4:=by omega
 rcases this with rfl|rfl|rfl|rfl|rfl
 ·simp only[NS,show decide (((0:Nat):Int)<4)=true from rfl,show IntKind.i64.wrap (8*((0:Nat):Int))=((0:Nat):Int)from rfl,Lh 0 1 (by decide) rfl,ig,Gz,nD,qX,Ii (show 0<4 by decide),fQ,eP,jQ (show 0<4611686018427387904 by decide),by8,ssH,ag,ae,reduceIte,af,ak,ai,aj];exact⟨_,hJ (k-1) (aK 2) _ (by omega) (jZ rfl (by decide) (by decide) (by simp) (by show nbs 2 [u32 n,.ptr 0 0,.ptr 1 0,it (1:Int)];simp only[u32,nbS];decide) (H7 (n:=n) 1) ⟨1,rfl,by omega,by omega,rfl⟩)⟩
 ·simp only[NS,show decide (((1:Nat):Int)<4)=true from rfl,show IntKind.i64.wrap (8*((1:Nat):Int))=((8:Nat):Int)from rfl,Lh 8 256 (by decide) rfl,ig,Gz,nD,qX,Ii (show 1<4 by decide),fQ,eP,jQ (show 1<4611686018427387904 by decide),by8,ssH,ag,ae,reduceIte,af,ak,ai,aj];exact⟨_,hJ (k-1) (aK 2) _ (by omega) (jZ rfl (by decide) (by decide) (by simp) (by show nbs 2 [u32 n,.ptr 0 0,.ptr 1 0,it (2:Int)];simp only[u32,nbS];decide) (H7 (n:=n) 2) ⟨2,rfl,by omega,by omega,rfl⟩)⟩
 ·simp only[NS,show decide (((2:Nat):Int)<4)=true from rfl,show IntKind.i64.wrap (8*((2:Nat):Int))=((16:Nat):Int)from rfl,Lh 16 65536 (by decide) rfl,ig,Gz,nD,qX,Ii (show 2<4 by decide),fQ,eP,jQ (show 2<4611686018427387904 by decide),by8,ssH,ag,ae,reduceIte,af,ak,ai,aj];exact⟨_,hJ (k-1) (aK 2) _ (by omega) (jZ rfl (by decide) (by decide) (by simp) (by show nbs 2 [u32 n,.ptr 0 0,.ptr 1 0,it (3:Int)];simp only[u32,nbS];decide) (H7 (n:=n) 3) ⟨3,rfl,by omega,by omega,rfl⟩)⟩
 ·simp only[NS,show decide (((3:Nat):Int)<4)=true from rfl,show IntKind.i64.wrap (8*((3:Nat):Int))=((24:Nat):Int)from rfl,Lh 24 16777216 (by decide) rfl,ig,Gz,nD,qX,Ii (show 3<4 by decide),fQ,eP,jQ (show 3<4611686018427387904 by decide),by8,ssH,ag,ae,reduceIte,af,ak,ai,aj];exact⟨_,hJ (k-1) (aK 2) _ (by omega) (jZ rfl (by decide) (by decide) (by simp) (by show nbs 2 [u32 n,.ptr 0 0,.ptr 1 0,it (4:Int)];simp only[u32,nbS];decide) (H7 (n:=n) 4) ⟨4,rfl,by omega,by omega,rfl⟩)⟩
 ·simp only[NS,show decide (((4:Nat):Int)<4)=false from rfl,ssH,ag,ae,reduceIte,af,ak,ai,aj];exact jy (v:=.agg ((le4 n).map by8)) rfl ⟨by simp only[kV,nbS],rfl⟩
theorem Yh(c:Nat)(hc:c<4294967296)(l:List UInt8){more:List V}(hm:nbs 0 more)(tok:Tok)(hl:l.length<4611686018427387904) :
  jB Tryz.prog Γ 110 [u32 c,.sl (l.map by8) more tok] m fun o m'=>o = .ret (u32 (E8 c l))∧m'=m:=by
 have hm2:∀ k,nbs k more:=fun k=>NL hm;refine jB.tok [u32 c] [] ?_;refine kJ (kM mixed zgH zjF jY (by simp only[aA,aB,u32,kV,hm,nbS]) ?_);simp only[zjG,aA,aB,ss0,aC,ag];simp only[yc,XE hc,aH,ssH,ag,ae,reduceIte,af,ak,ai,aj];refine nC [5,10,11,12] 33 (fun n vs h=>∃ i:Nat,vs=[u32 (MM (4294967295-c) (l.take i)),.sl (l.map by8) more .no,it l.length,it i]∧i+n=l.length+1∧i≤l.length∧h=[]) (l.length+1) (by decide) (by decide) (aK 0) (jZ rfl (by decide) (by decide) (by simp) (by show nbs 0 [u32 (4294967295-c),.sl (l.map by8) more .no,it l.length,it 0];simp only[u32,kV,hm,nbS]) (fun a ha=>by omega) ⟨0,rfl,by omega,by omega,rfl⟩) ?_;rintro k t h J hJ hlt ⟨i,hv,hk,hi,rfl⟩;simp only[aZ,aQ,and_true]at hv;obtain⟨h5,h10,h11,h12⟩:=hv;have hs:=XL (c:=4294967295-c) (by omega) (l.take i);rw[mO hlt];simp only[jW,upTo,h5,h10,h11,h12,ssH,ag,ae,reduceIte,af,ak,ai,aj]
 by_cases hil:i<l.length
 ·have hx:l[i]? = some l[i]:=aI hil
  have hst:MM (4294967295-c) (l.take (i+1))=zdn (MM (4294967295-c) (l.take i)) l[i]:=by
   rw[bg,hx,TQ];rfl
  generalize l[i]=b at hx hst;generalize MM (4294967295-c) (l.take i)=z at hs hst;have hb:=b.toNat_lt;have hi2:oG 1 (.sl (l.map by8) more .no) (it i)=some (.elt [by8 b]):=mD (e:=by8 b) (by rw[bn,hx];rfl) rfl;simp only[show decide ((i:Int)<(l.length:Int))=true from decide_eq_true (by omega),hi2,u32_xor hs (show b.toNat<4294967296 by omega),nD,zdl,ssH,ag,ae,reduceIte,af,ak,ai,aj];have hx0:z ^^^ b.toNat<4294967296:=Nat.xor_lt_two_pow (n:=32) (by omega) (by omega);refine nC [5,10,11,12,20] 33 (fun n vs h=>∃ j:Nat,vs=[u32 (IG j (z ^^^ b.toNat)),.sl (l.map by8) more .no,it l.length,it i,it j]∧j+n=9∧j≤8∧h=[]) 9 (by decide) (by decide) (aK 0) (jZ rfl (by decide) (by decide) (by simp) (by show nbs 0 [u32 (z ^^^ b.toNat),.sl (l.map by8) more .no,it l.length,it i,it 0];simp only[u32,kV,hm,nbS]) (fun a ha=>by omega) ⟨0,rfl,by omega,by omega,rfl⟩) ?_;rintro k2 t2 h2 J2 hJ2 hlt2 ⟨j,hv2,hk2,hj,rfl⟩;simp only[aZ,aQ,and_true]at hv2;obtain⟨g5,g10,g11,g12,g20⟩:=hv2;have hbj:=VC hx0 j;rw[mO hlt2];simp only[jW,upTo,g5,g10,g11,g12,g20,ssH,ag,ae,reduceIte,af,ak,ai,aj]
  by_cases hj8:j<8
  ·have ha1:IG j (z ^^^ b.toNat) / 2<4294967296:=by omega
   have hm1:=zet (IG j (z ^^^ b.toNat));have hm2:(if IG j (z ^^^ b.toNat)%2=1 then 4294967295 else 0) &&& 3988292384<4294967296:=Nat.and_lt_two_pow (n:=32) _ (by decide);simp only[show decide ((j:Int)<8)=true from decide_eq_true (by omega),za6,za9 hbj,yc,za7,za8 hm1,u32_xor ha1 hm2,zfh,jQ (show j<4611686018427387904 by omega),ssH,ag,ae,reduceIte,af,ak,ai,aj];exact⟨_,hJ2 (k2-1) (aK 0) _ (by omega) (jZ rfl (by decide) (by decide) (by simp) (by show nbs 0 [u32 (zaL (IG j (z ^^^ b.toNat))),.sl (l.map by8) more .no,it l.length,it i,it (j+1:Nat)];simp only[u32,kV,hm,nbS]) (fun a ha=>by omega) ⟨j+1,rfl,by omega,by omega,rfl⟩)⟩
  ·have:j=8:=by omega
   subst this;simp only[show decide (((8:Nat):Int)<8)=false from rfl,jQ (show i<4611686018427387904 by omega),ssH,ag,ae,reduceIte,af,ak,ai,aj];exact⟨_,hJ (k-1) (aK 0) _ (by omega) (jZ rfl (by decide) (by decide) (by simp) (by show nbs 0 [u32 (IG 8 (z ^^^ b.toNat)),.sl (l.map by8) more .no,it l.length,it (i+1:Nat)];simp only[u32,kV,hm,nbS]) (fun a ha=>by omega) ⟨i+1,by rw[hst];rfl,by omega,by omega,rfl⟩)⟩
 ·have:i=l.length:=by omega
  subst this;rw[bK]at hs;simp only[show decide ((l.length:Int)<(l.length:Int))=false from decide_eq_false (by omega),bK,yc,XE hs,ssH,ag,ae,reduceIte,af,ak,ai,aj];exact jy (v:=u32 (E8 c l)) rfl ⟨by simp only[u32,nbS],rfl⟩
theorem zbi(l:List UInt8){more:List V}(hm:nbs 0 more)(tok:Tok)(hl:l.length<4611686018427387904):jB Tryz.prog Γ 85 [.sl (l.map by8) more tok] m fun o m'=>o = .ret (u32 (CP l))∧m'=m:=by
 refine jB.tok [] [] ?_;refine kJ (kM mixed zio zkE jY (by simp only[aB,kV,hm,nbS]) ?_);simp only[F85,aB,ss0,aC,ag];simp only[ssH,ag,ae,reduceIte,af,ak,ai,aj];refine jE (v:=u32 (CP l)) (by exact fun m=>Yh 0 (by decide) l hm .no hl) (by simp only[aB,aP,aA,kV,hm,nbS]) (by simp only[u32,nbS]) ?_;simp only[ssH,ag,ae,reduceIte,af,ak,ai,aj];exact jy (v:=u32 (CP l)) rfl ⟨by simp only[u32,nbS],rfl⟩
end
end Go.Av.Fn
