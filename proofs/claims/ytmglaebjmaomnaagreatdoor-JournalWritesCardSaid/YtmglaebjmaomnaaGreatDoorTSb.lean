/- Sums of bytes over 32 bits, az numbers: a bit's step az the program, and az the document, computes it. No condition. -/
import Derived.LaidEql
import Derived.RowKitTokens
import Derived.Shelf.LaysC
import Derived.Shelf.LaysM
import Derived.Shelf.Small.Strs
import Derived.Shelf.Strconv.Clone
import Derived.Shelf.Strconv.Itoa3
import Derived.Shelf.Strconv.ParseIntPublic10
import Derived.Shelf.Strings.Builder1
import Derived.Shelf.Strings.Search1
import Derived.Shelf.Strings.Search2
import Derived.Stop.Asserts
import Derived.Test.YtmglaebjmaomnaaGreatDoorProg
import Derived.WalkKit
import Derived.Test.YtmglaebjmaomnaaGreatDoorTAvC
open Array renaming getElem?_eq_none→gq
open Bool renaming or_eq_true→cZ, and_eq_true→aG, false_eq_true→aF, not_false→aN, not_true→aO, true_or→iQ, eq_iff_iff→bQ
open Int renaming toNat_natCast→bn
open List renaming length_cons→ax, cons_append→aB, take_succ_cons→di, not_mem_nil→dm, getElem?_eq_getElem→aI, take_add_one→aW, take_length→bJ, map_append→bC, drop_eq_getElem_cons→bF, isPrefixOf_iff_prefix→eF, prefix_iff_eq_take→iH, getElem_mem→dS, mem_singleton→cO, contains_eq_mem→gW, find?_eq_some_iff_getElem→gu, takeWhile_cons_of_pos→bP, getElem?_eq_none→dh, length_drop→aV, drop_take→dJ, length_map→aK, drop_length→dB, isPrefixOf→dP, drop_drop→bV, takeWhile_sublist→bu, takeWhile_cons_of_neg→gX, getElem?_drop→fF, drop_succ_cons→dW, drop_zero→bK, mem_of_find?_eq_some→iw, getD_eq_getElem?_getD→aT, getElem?_set→iT
open Nat renaming xor_lt_two_pow→fG, mod_eq_of_lt→gJ, lt_of_lt_of_le→cu, pow_le_pow_right→iU, reduceMul→dZ, reducePow→fP, reduceAdd→ag, lt_or_ge→fB, reduceSub→ay, mul_comm→iP, le_refl→aY, reduceLeDiff→ae, reduceEqDiff→af, zero_le→bW, add_sub_cancel_left→dF
open Option renaming getD_none→bY, getD_some→bZ, toList_some→dO, map_some→dV
open Option.some renaming injEq→au
open Prod.mk renaming injEq→bz
set_option linter.unusedSimpArgs false
set_option linter.unusedVariables false
set_option maxRecDepth 100000
namespace Go.Av.Fn
def u32(n:Nat):V:=.val (.int .u32 n)
def zaz(c:Nat):Nat:=if c%2=1 then (c / 2) ^^^ 3988292384 else c / 2
def vU:Nat→Nat→Nat
 |0,c=>c
 |k+1,c=>zaz (vU k c)
def YB(c:Nat)(b:UInt8):Nat:=vU 8 (c ^^^ b.toNat)
def FX(c:Nat)(l:List UInt8):Nat:=l.foldl YB c
def Dx(n:Nat)(l:List UInt8):Nat:=4294967295-FX (4294967295-n) l
def yj(l:List UInt8):Nat:=Dx 0 l
def le4(n:Nat):List UInt8:=[n.toUInt8,(n / 256).toUInt8,(n / 65536).toUInt8,(n / 16777216).toUInt8]
theorem ze6{c:Nat}(h:c<4294967296):zaz c<4294967296:=by
 unfold zaz
 split
 ·exact fG (n:=32) (by omega) (by omega)
 ·omega
theorem OE{c:Nat}(h:c<4294967296)(k:Nat):vU k c<4294967296:=by
 induction k with
 |zero=>exact h
 |succ k ih=>exact ze6 ih
theorem zdd{c:Nat}(h:c<4294967296)(b:UInt8):YB c b<4294967296:=OE (fG (n:=32) (by omega) (by have:=b.toNat_lt;omega)) 8
theorem QW{c:Nat}(h:c<4294967296)(l:List UInt8):FX c l<4294967296:=by
 induction l generalizing c with
 |nil=>exact h
 |cons b l ih=>exact ih (zdd h b)
theorem MI(c:Nat)(a b:List UInt8):FX c (a++b)=FX (FX c a) b:=List.foldl_append
theorem zb8{n:Nat}(l:List UInt8):Dx n l<4294967296:=by unfold Dx;omega
theorem ZJ(n:Nat)(a b:List UInt8):Dx (Dx n a) b=Dx n (a++b):=by
 have h:=QW (c:=4294967295-n) (by omega) a;unfold Dx;rw[show 4294967295-(4294967295-FX (4294967295-n) a)=FX (4294967295-n) a by omega,MI]
theorem wrap32(n:Int):IntKind.u32.wrap n=n%4294967296:=by simp[IntKind.wrap,IntKind.bits,IntKind.signed]
theorem ofInt32{a:Nat}(h:a<4294967296):(BitVec.ofInt 32 (a:Int)).toNat=a:=by
 rw[BitVec.ofInt_natCast,BitVec.toNat_ofNat];exact gJ (by omega)
theorem zgU{a b:Nat}(ha:a<4294967296)(hb:b<4294967296):bits .xor .u32 (a:Int) (b:Int)=((a ^^^ b:Nat):Int):=by
 have hx:a ^^^ b<2^32:=fG (by omega) (by omega);show IntKind.u32.wrap ((BitVec.ofInt 32 (a:Int) ^^^ BitVec.ofInt 32 (b:Int)).toNat:Int)=_;rw[BitVec.toNat_xor,ofInt32 ha,ofInt32 hb,wrap32];omega
theorem zk3{a b:Nat}(ha:a<4294967296)(hb:b<4294967296):bits .and .u32 (a:Int) (b:Int)=((a &&& b:Nat):Int):=by
 have hx:a &&& b<2^32:=Nat.and_lt_two_pow _ (by omega);show IntKind.u32.wrap ((BitVec.ofInt 32 (a:Int) &&& BitVec.ofInt 32 (b:Int)).toNat:Int)=_;rw[BitVec.toNat_and,ofInt32 ha,ofInt32 hb,wrap32];omega
section
variable {P:Program} {T:TypeId} {xo yo:Operand} {yk:IntKind} {a b:Nat}
theorem u32_xor(ha:a<4294967296)(hb:b<4294967296):kR P .xor T .other xo yo (u32 a) (u32 b)=some (u32 (a ^^^ b)):=by
 rw[u32,u32,OH,zgU ha hb];rfl
theorem u32_and(ha:a<4294967296)(hb:b<4294967296):kR P .and T .other xo yo (u32 a) (u32 b)=some (u32 (a &&& b)):=by
 rw[u32,u32,IV,zk3 ha hb];rfl
theorem KW(ha:a<4294967296):unV P .xor (u32 a)=some (u32 (4294967295-a)):=by
 have e:bits .xor .u32 (4294967295:Int) (a:Int)=((4294967295-a:Nat):Int):=by
  have:=zgU (a:=4294967295) (b:=a) (by decide) ha;rw[show((4294967295:Nat):Int)=4294967295 from rfl]at this;rw[this];have h2:=Nat.xor_comm a 4294967295;rw[←h2,show(4294967295:Nat)=2^32-1 from rfl]
  have:a ^^^ (2^32-1)=2^32-1-a:=by
   apply Nat.eq_of_testBit_eq;intro i;rw[Nat.testBit_xor,Nat.testBit_two_pow_sub_one,show 2^32-1-a=2^32-(a+1)by omega,Nat.testBit_two_pow_sub_succ (by omega)]
   by_cases hi:i<32
   ·simp[hi]
   ·have:a.testBit i=false:=Nat.testBit_lt_two_pow (cu (show a<2^32 by omega) (iU (by decide) (by omega)));simp[hi,this]
  rw[this]
 show(match kF P (Op.unary .xor (.int .u32 a))with|some v=>if lX v then some (V.val v)else none|none=>none)=_;have e2:Op.unary .xor (.int .u32 (a:Int))=pure (.int .u32 (bits .xor .u32 (4294967295:Int) (a:Int))):=rfl;rw[e2,e];rfl
theorem zaV:kR P .shr T .other xo yo (u32 a) (.val (.int yk 1))=some (u32 (a / 2)):=by
 rw[u32,IU (by decide)];show some (V.val (.int .u32 ((a:Int).fdiv 2)))=_;rw[Int.fdiv_eq_ediv_of_nonneg _ (by decide)];rfl
theorem zaY:unV P .neg (u32 (a &&& 1))=some (u32 (if a%2=1 then 4294967295 else 0)):=by
 rw[u32,BX,wrap32,Nat.and_one_is_mod]
 rcases Nat.mod_two_eq_zero_or_one a with h|h<;>rw[h]<;>rfl
theorem ze7:(a / 2) ^^^ ((if a%2=1 then 4294967295 else 0) &&& 3988292384)=zaz a:=by
 unfold zaz
 split
 ·rfl
 ·rw[Nat.zero_and,Nat.xor_zero]
end
theorem zhN(n:Nat):V.val (.int .u8 (IntKind.u8.wrap (n:Int)))=by8 n.toUInt8:=by
 rw[by8,IntKind.wrap_u8,show n.toUInt8.toNat=n%256 from UInt8.toNat_ofNat' ..];rfl
end Go.Av.Fn
namespace Go.Av
open Go.Lib
def numGo:Nat→Nat→List UInt8→Int×Nat×Int
 |_,_,[]=>(0,0,3)
 |i,f,c::s=>if i=9∧c.toNat≠1 then (0,0,4)
  else if 128≤c.toNat then numGo (i+1) (f+c.toNat%128*2^(7*i)) s
  else if c.toNat=0∧0<i then (0,0,4)
  else (unzigzag (f+c.toNat%128*2^(7*i)),i+1,0)
def numL(s:List UInt8):Int×Nat×Int:=numGo 0 0 s
theorem zhs{i:Nat}(h:i≤9):i=0∨i=1∨i=2∨i=3∨i=4∨i=5∨i=6∨i=7∨i=8∨i=9:=by omega
theorem num_shl{i c:Nat}(hi:i≤9)(hc:c<256)(h9:i=9→c=1):IntKind.u64.wrap (((c%128:Nat):Int)*2^(min (Int.toNat ((7*i:Nat):Int)) IntKind.u64.bits))=((c%128*2^(7*i):Nat):Int):=by
 rw[IntKind.wrap_u64,bn]
 have e:min (7*i) IntKind.u64.bits=7*i:=by
  show min (7*i) 64=7*i;omega
 rw[e]
 rcases zhs hi with rfl|rfl|rfl|rfl|rfl|rfl|rfl|rfl|rfl|rfl<;>simp only[dZ,Int.reducePow,fP]<;>omega
theorem zbW{i c f:Nat}(hi:i≤9)(hc:c<256)(h9:i=9→c=1)(hf:f<2^(7*i)):bits .or .u64 (f:Int) ((c%128*2^(7*i):Nat):Int)=((f+c%128*2^(7*i):Nat):Int):=by
 rcases zhs hi with rfl|rfl|rfl|rfl|rfl|rfl|rfl|rfl|rfl|rfl<;>simp only[dZ,fP]at hf ⊢
 ·rw[u64_orv0 _ _ (by omega) (by omega) (by omega) (by omega) (by omega)];omega
 ·rw[u64_orv7 _ _ (by omega) (by omega) (by omega) (by omega) (by omega)];omega
 ·rw[u64_orv14 _ _ (by omega) (by omega) (by omega) (by omega) (by omega)];omega
 ·rw[u64_orv21 _ _ (by omega) (by omega) (by omega) (by omega) (by omega)];omega
 ·rw[u64_orv28 _ _ (by omega) (by omega) (by omega) (by omega) (by omega)];omega
 ·rw[u64_orv35 _ _ (by omega) (by omega) (by omega) (by omega) (by omega)];omega
 ·rw[u64_orv42 _ _ (by omega) (by omega) (by omega) (by omega) (by omega)];omega
 ·rw[u64_orv49 _ _ (by omega) (by omega) (by omega) (by omega) (by omega)];omega
 ·rw[u64_orv56 _ _ (by omega) (by omega) (by omega) (by omega) (by omega)];omega
 ·rw[u64_orv63 _ _ (by omega) (by omega) (by omega) (by omega) (by omega)];omega
theorem num_lt{i c f:Nat}(hi:i≤9)(hc:c<256)(h9:i=9→c=1)(hf:f<2^(7*i)):f+c%128*2^(7*i)<18446744073709551616∧(i≤8→f+c%128*2^(7*i)<2^(7*(i+1))):=by
 rcases zhs hi with rfl|rfl|rfl|rfl|rfl|rfl|rfl|rfl|rfl|rfl<;>simp only[dZ,fP,ag]at hf ⊢ <;> omega
theorem zds{c:Nat}(h:c<256):bits .and .u8 (c:Int) 127=((c%128:Nat):Int):=by
 rw[u8_and127 _ (by omega) (by omega)];omega
theorem Xb:∀ n:Fin 256,(bits .and .u8 (n.val:Int) 128 != 0)=decide (128≤n.val):=by decide +kernel
theorem zdr{c:Nat}(h:c<256):(bits .and .u8 (c:Int) 128 != 0)=decide (128≤c):=Xb ⟨c,h⟩
theorem Us:∀ (s:List UInt8) (i f:Nat),i≤9→(numGo i f s).2.1≤i+s.length
 |[],i,f,_=>by simp[numGo]
 |c::s,i,f,hi=>by
  unfold numGo
  split
  ·simp
  ·split
   ·rename_i h1 h2;have h9:i≤8:=by omega
    have:=Us s (i+1) (f+c.toNat%128*2^(7*i)) (by omega);simp only[ax];omega
   ·split
    ·simp
    ·simp only[ax];omega
theorem numL_le(s:List UInt8):(numL s).2.1≤s.length:=by
 have:=Us s 0 0 (by omega);unfold numL;omega
theorem P6:∀ (k u i f:Nat) (r:List UInt8),u<2^(64-7*i)→u<128^(k+1)→(0<i→0<u)→i+k≤9→numGo i f (uvarint u++r)=(unzigzag (f+u*2^(7*i)),i+(uvarint u).length,0)
 |k,u,i,f,r,hu,hk,hp,hi=>by
  have hi9:i≤9:=by omega
  have h9:i=9→u<2:=by
   rintro rfl
   simpa using hu
  by_cases hs:u<128
  ·rw[uvarint_small hs]
   have e:u.toUInt8.toNat=u:=by
    show(UInt8.ofNat _).toNat=_;rw[UInt8.toNat_ofNat'];omega
   simp only[aB,List.nil_append,numGo,e,List.length_singleton];rw[if_neg (by intro ⟨a,b⟩;have:=h9 a;have:=hp (by omega);omega),if_neg (by omega),if_neg (by intro ⟨a,b⟩;have:=hp b;omega),gJ hs]
  ·rw[uvarint_big (by omega)]
   have e:(u%128+128).toUInt8.toNat=u%128+128:=by
    show(UInt8.ofNat _).toNat=_;rw[UInt8.toNat_ofNat'];omega
   simp only[aB,numGo,e]
   have h8:i≤8:=by
    rcases fB i 9 with h|h
    ·omega
    ·have:=h9 (by omega);omega
   rw[if_neg (by omega),if_pos (by omega)]
   cases k with
   |zero=>simp at hk;omega
   |succ k=>
    have hu':u / 128<2^(64-7*(i+1)):=by
     have:i=0∨i=1∨i=2∨i=3∨i=4∨i=5∨i=6∨i=7∨i=8:=by omega
     rcases this with rfl|rfl|rfl|rfl|rfl|rfl|rfl|rfl|rfl<;>simp only[dZ,ay,fP,ag]at hu ⊢ <;> omega
    rw[P6 k (u / 128) (i+1) _ r hu' (by rw[Nat.pow_succ]at hk;exact Nat.div_lt_of_lt_mul (by rw[iP];exact hk)) (by omega) (by omega)]
    have e3:f+(u%128+128)%128*2^(7*i)+u / 128*2^(7*(i+1))=f+u*2^(7*i):=by
     have e4:2^(7*(i+1))=128*2^(7*i):=by
      rw[show 7*(i+1)=7+7*i by omega,Nat.pow_add]
     rw[e4];generalize 2^(7*i)=p;have e5:(u%128+128)%128=u%128:=by omega
     rw[e5];have e6:u=128*(u / 128)+u%128:=by omega
     generalize u / 128=q at e6 ⊢;generalize u%128=r' at e6 ⊢;subst e6;rw[Nat.add_mul,iP 128 q,Nat.mul_assoc];omega
    rw[e3];simp only[ax];refine Prod.ext rfl (Prod.ext ?_ rfl);simp only;omega
theorem numL_put{n:Int}(h:I64 n)(r:List UInt8):numL (uvarint (zigzag n)++r)=(n,(uvarint (zigzag n)).length,0):=by
 unfold numL;have hz:=zigzag_u64 h;rw[P6 9 _ 0 0 r (by simpa using hz) (cu hz (by decide)) (by omega) (by omega)];simp[KJ]
theorem P7:∀ (s:List UInt8) (i f:Nat),i≤9→f<2^(7*i)→I64 (numGo i f s).1
 |[],i,f,_,_=>by simp[numGo,I64]
 |c::s,i,f,hi,hf=>by
  unfold numGo;have hc:c.toNat<256:=c.toNat_lt
  split
  ·simp[I64]
  ·rename_i h1;have h9:i=9→c.toNat=1:=by omega
   have hl:=num_lt hi hc h9 hf
   split
   ·rename_i h2;exact P7 s (i+1) _ (by omega) (hl.2 (by omega))
   ·split
    ·simp[I64]
    ·exact GY hl.1
theorem numL_i64(s:List UInt8):I64 (numL s).1:=P7 s 0 0 (by omega) (by decide)
end Go.Av
namespace Go.Av
open Go.Lib
theorem Xn{c:UInt8}{n:Nat}(h:n%256=c.toNat):n.toUInt8=c:=by
 apply UInt8.toNat_inj.1;show(UInt8.ofNat n).toNat=_;rw[UInt8.toNat_ofNat'];omega
theorem NF:∀ (s:List UInt8) (i f k:Nat),i≤9→10≤i+k→numGo i f (s.take k)=numGo i f s
 |[],i,f,k,_,_=>by rw[List.take_nil]
 |c::s,i,f,0,h1,h2=>by omega
 |c::s,i,f,k+1,h1,h2=>by
  rw[di,numGo,numGo]
  split
  ·rfl
  ·rename_i h9
   split
   ·rw[NF s (i+1) _ k (by omega) (by omega)]
   ·rfl
theorem numL_take(s:List UInt8){k:Nat}(h:10≤k):numL (s.take k)=numL s:=NF s 0 0 k (by omega) (by omega)
theorem JY:∀ (s:List UInt8) (i f u:Nat) (n:Int),i≤9→numGo i f s=(n,u,0)→∃ v,i<u∧u-i≤s.length∧s.take (u-i)=uvarint v∧n=unzigzag (f+v*2^(7*i))∧v<2^(64-7*i)∧(0<i→0<v)
 |[],i,f,u,n,_,h=>by simp[numGo]at h
 |c::s,i,f,u,n,hi,h=>by
  have hc:=c.toNat_lt;rw[numGo]at h
  split at h
  ·simp at h
  ·rename_i h9
   have h9':i=9→c.toNat=1:=fun e=>by
    rcases Nat.decEq c.toNat 1 with k|k
    ·exact absurd ⟨e,k⟩ h9
    ·exact k
   split at h
   ·rename_i hb
    have h8:i≤8:=by
     rcases fB i 9 with k|k
     ·omega
     ·have:=h9' (by omega);omega
    obtain⟨v,g1,g2,g3,g4,g5,g6⟩:=JY s (i+1) _ u n (by omega) h
    have hv:v<2^(57-7*i):=by
     rw[show 64-7*(i+1)=57-7*i by omega]at g5;exact g5
    have hp:2^(64-7*i)=128*2^(57-7*i):=by
     rw[show 64-7*i=7+(57-7*i)by omega,Nat.pow_add]
    refine⟨c.toNat-128+128*v,by omega,by simp only[ax];omega,?_,?_,?_,fun _=>by have:=g6 (by omega);omega⟩
    ·obtain⟨d,rfl⟩:∃ d,u=i+1+d:=⟨u-(i+1),by omega⟩;have hv0:=g6 (by omega);rw[show i+1+d-i=d+1 by omega,di,uvarint_big (by omega),show(c.toNat-128+128*v) / 128=v by omega,←g3,show i+1+d-(i+1)=d by omega];rw[Xn (c:=c) (by omega)]
    ·rw[g4];congr 1
     have e4:2^(7*(i+1))=128*2^(7*i):=by
      rw[show 7*(i+1)=7+7*i by omega,Nat.pow_add]
     rw[e4,Nat.add_mul,show c.toNat%128=c.toNat-128 by omega,Nat.add_assoc];congr 2;rw[←Nat.mul_assoc,iP v 128]
    ·rw[hp];omega
   ·split at h
    ·simp at h
    ·rename_i h1 h2;simp only[bz,and_true]at h;obtain⟨rfl,rfl⟩:=h;refine⟨c.toNat,by omega,by simp only[ax];omega,?_,by rw[gJ (by omega:c.toNat<128)],?_,fun h=>by omega⟩
     ·rw[show i+1-i=1 by omega,di,List.take_zero,uvarint_small (by omega),Xn (c:=c) (by omega)]
     ·rcases fB i 9 with k|k
      ·have:2^8≤2^(64-7*i):=iU (by decide) (by omega);omega
      ·have e:i=9:=by omega
       have:=h9' e;subst e;omega
theorem numL_canon{s:List UInt8}{n:Int}{u:Nat}(h:numL s=(n,u,0)):0<u∧u≤s.length∧s.take u=uvarint (zigzag n)∧I64 n:=by
 obtain⟨v,g1,g2,g3,g4,g5,_⟩:=JY s 0 0 u n (by omega) h;simp only[Nat.sub_zero,Nat.zero_add,Nat.mul_zero,Nat.pow_zero,Nat.mul_one]at g2 g3 g4 g5;subst g4;exact⟨g1,g2,by rw[g3,KI],GY (by simpa using g5)⟩
end Go.Av
namespace Go.Av.Fn
structure Tk where
 k:Int
 s:List UInt8
 n:Int
 l:Int
 a:Int
 deriving DecidableEq
def tkV(t:Tk):V:=.agg [it t.k,bs t.s,it t.n,it t.l,it t.a]
inductive Ex where
 |mk (k:Int) (s:List UInt8) (n:Int) (kids:List Ex) (l:Int)
def Ex.line:Ex→Int
 | .mk _ _ _ _ l=>l
mutual
def exV:Ex→V
 | .mk k s n kids l=>.agg [it k,bs s,it n,.sl (lS kids) [] .no,it l]
def lS:List Ex→List V
 |[]=>[]
 |e::r=>exV e::lS r
end
mutual
def lW:Ex→Nat
 | .mk _ _ _ kids _=>sizes kids+1
def sizes:List Ex→Nat
 |[]=>0
 |e::r=>lW e+sizes r
end
mutual
def qN:Ex→Nat
 | .mk _ _ _ kids _=>depths kids+1
def depths:List Ex→Nat
 |[]=>0
 |e::r=>max (qN e) (depths r)
end
theorem II:∀ l:List Ex,lS l=l.map exV
 |[]=>rfl
 |e::r=>by rw[lS,II r];rfl
theorem Kv(a b:List Ex):lS (a++b)=lS a++lS b:=by simp[II]
theorem xw(l:List Ex):(lS l).length=l.length:=by simp[II]
theorem Hg:∀ (a b:List Ex),sizes (a++b)=sizes a+sizes b
 |[],b=>by simp[sizes]
 |e::r,b=>by
  rw[aB,sizes,sizes,Hg r b];omega
mutual
theorem WN:∀ e:Ex,qN e≤lW e
 | .mk _ _ _ kids _=>by
  have:=yh kids;simp only[qN,lW];omega
theorem yh:∀ l:List Ex,depths l≤sizes l
 |[]=>by simp[depths]
 |e::r=>by
  have h1:=WN e;have h2:=yh r;simp only[depths,sizes];omega
end
theorem CP:∀ l:List Ex,l.length≤sizes l
 |[]=>by simp
 |e::r=>by
  have h2:=CP r
  have h1:1≤lW e:=by
   cases e;simp only[lW];omega
  simp only[sizes,ax];omega
theorem MO:∀ {l:List Ex} {e:Ex},e∈l→lW e≤sizes l
 |x::r,e,h=>by
  simp only[sizes]
  rcases List.mem_cons.1 h with rfl|h
  ·omega
  ·have:=MO h;omega
inductive PR where
 |ok (es:List Ex) (l:List Tk)
 |st (l:List Tk)
inductive BP where
 |ex (line:Nat)
 |lp (line:Nat) (e:Ex)
 |un
 |po (e:Ex)
 |si
 |ro (out:List Ex)
def isS(s:List UInt8)(t:Tk):Bool:=(t.k==4||t.k==5)&&t.s==s
def level(s:List UInt8):Int:=
 if s==[124,124]then 0
 else if s==[38,38]then 1
 else if s==[61,61]||s==[33,61]then 2
 else if s==[60]||(s==[60,61]||(s==[62]||s==[62,61]))then 3
 else if s==[43]||s==[45]then 4
 else if s==[42]||(s==[47]||s==[37])then 5
 else -1
def bind1(r:Option PR)(k:Ex→List Tk→Option PR):Option PR:=match r with
 |some (.ok [e] l)=>k e l
 |some (.st l)=>some (.st l)
 |_=>none
def bindL(r:Option PR)(k:List Ex→List Tk→Option PR):Option PR:=match r with
 |some (.ok es l)=>k es l
 |some (.st l)=>some (.st l)
 |none=>none
def mP(s:List UInt8)(l:List Tk)(k:List Tk→Option PR):Option PR:=match l with
 |t::r=>if isS s t=true then k r else some (.st l)
 |[]=>none
def Dw(l:List Tk)(k:List UInt8→List Tk→Option PR):Option PR:=match l with
 |t::r=>if t.k=1 then k t.s r else some (.st l)
 |[]=>none
def Jg(f:BP→List Tk→Option PR)(l:List Tk):Option PR:=bind1 (f (.ex 0) l) fun e l1=>f (.ro [e]) l1
def xH(f:BP→List Tk→Option PR)(s:List UInt8)(l:List Tk):Option PR:=match l with
 |t::r=>if isS s t=true then some (.ok [] r)else bindL (Jg f l) fun es l2=>mP s l2 fun l3=>some (.ok es l3)
 |[]=>none
def QH(f:BP→List Tk→Option PR)(t:Tk)(l:List Tk):Option PR:=match l with
 |t2::l2=>if isS [40] t2=true then bindL (xH f [41] l2) fun es l3=>some (.ok [.mk 5 t.s 0 es t.l] l3)else some (.ok [.mk 4 t.s 0 [] t.l] l)
 |[]=>none
def EG(f:BP→List Tk→Option PR)(t:Tk)(l:List Tk):Option PR:=
 if t.k=2 then some (.ok [.mk 1 [] t.n [] t.l] l)
 else if t.k=3 then some (.ok [.mk 3 t.s 0 [] t.l] l)
 else if t.k=1 then QH f t l
 else if isS [116,114,117,101] t=true then some (.ok [.mk 2 [] 1 [] t.l] l)
 else if isS [102,97,108,115,101] t=true then some (.ok [.mk 2 [] 0 [] t.l] l)
 else if isS [110,101,119] t=true then Dw l fun s l2=>mP [40] l2 fun l3=>bindL (xH f [41] l3) fun es l4=>some (.ok [.mk 11 s 0 es t.l] l4)
 else if isS [91] t=true then bindL (Jg f l) fun es l2=>mP [93] l2 fun l3=>some (.ok [.mk 10 [] 0 es t.l] l3)
 else if isS [40] t=true then bind1 (f (.ex 0) l) fun e l2=>mP [41] l2 fun l3=>some (.ok [e] l3)
 else some (.st (t::l))
def step(f:BP→List Tk→Option PR)(t:Tk)(l:List Tk):BP→Option PR
 | .ex line=>if line=6 then f .un (t::l)else bind1 (f (.ex (line+1)) (t::l)) fun e l1=>f (.lp line e) l1
 | .lp line e=>if (t.k==4&&level t.s==(line:Int))=true then bind1 (f (.ex (line+1)) l) fun e2 l2=>f (.lp line (.mk 7 t.s 0 [e,e2] e.line)) l2 else some (.ok [e] (t::l))
 | .un=>if (isS [45] t||isS [33] t)=true then bind1 (f .un l) fun e l1=>some (.ok [.mk 6 t.s 0 [e] t.l] l1)else bind1 (f .si (t::l)) fun e l1=>f (.po e) l1
 | .po e=>if isS [91] t=true then bind1 (f (.ex 0) l) fun e2 l2=>mP [93] l2 fun l3=>f (.po (.mk 8 [] 0 [e,e2] e.line)) l3
  else if isS [46] t=true then Dw l fun s l2=>f (.po (.mk 9 s 0 [e] e.line)) l2
  else some (.ok [e] (t::l))
 | .si=>EG f t l
 | .ro out=>if isS [44] t=true then bind1 (f (.ex 0) l) fun e l1=>f (.ro (out++[e])) l1 else some (.ok out (t::l))
def run:Nat→BP→List Tk→Option PR
 |0,_,_=>none
 |n+1,r,l=>match l with
  |[]=>none
  |t::l=>step (run n) t l r
def Good:List Tk→Prop
 |[]=>False
 |[t]=>t.k=0
 |_::t::l=>Good (t::l)
theorem Good.tail{t:Tk}{l:List Tk}(h:Good (t::l))(hk:t.k≠0):Good l:=by
 cases l with
 |nil=>exact absurd h hk
 |cons x l=>exact h
theorem Good.ne{l:List Tk}(h:Good l):∃ t r,l=t::r:=by
 cases l with
 |nil=>exact h.elim
 |cons t r=>exact⟨t,r,rfl⟩
theorem wF{s:List UInt8}{t:Tk}(h:isS s t=true):t.k≠0:=by
 intro h0;simp[isS,h0]at h
def rG:BP→Nat
 | .lp _ e=>lW e
 | .po e=>lW e
 | .ro out=>sizes out
 |_=>0
def rE:BP→Nat
 | .ex line=>8-line
 | .un=>1
 |_=>0
def ut:BP→Prop
 | .ex line=>line≤6
 | .lp line _=>line≤5
 |_=>True
def Fit(many:Bool)(sz:Nat)(l:List Tk):PR→Prop
 | .ok es l1=>Good l1∧sizes es+l1.length≤l.length+sz∧(many=false→∃ e,es=[e])
 | .st l1=>Good l1∧l1.length≤l.length
def Fits(many:Bool)(sz:Nat)(l:List Tk)(r:Option PR):Prop:=∃ p,r=some p∧Fit many sz l p
def J3:BP→Bool
 | .ro _=>true
 |_=>false
theorem Fits.bind1{sz sz':Nat}{l l':List Tk}{many:Bool}{r:Option PR}{k:Ex→List Tk→Option PR}(h:Fits false sz l r)(hl:l.length≤l'.length)
  (hk:∀ e l1,Good l1→lW e+l1.length≤l.length+sz→Fits many sz' l' (k e l1)):Fits many sz' l' (bind1 r k):=by
 obtain⟨p,rfl,hp⟩:=h
 cases p with
 |ok es l1=>
  obtain⟨h1,h2,h3⟩:=hp;obtain⟨e,rfl⟩:=h3 rfl;simp only[sizes]at h2;exact hk e l1 h1 (by omega)
 |st l1=>exact⟨_,rfl,hp.1,by have:=hp.2;omega⟩
theorem Fits.bindL{sz sz':Nat}{l l':List Tk}{many many':Bool}{r:Option PR}{k:List Ex→List Tk→Option PR}(h:Fits many sz l r)(hl:l.length≤l'.length)
  (hk:∀ es l1,Good l1→sizes es+l1.length≤l.length+sz→Fits many' sz' l' (k es l1)):Fits many' sz' l' (bindL r k):=by
 obtain⟨p,rfl,hp⟩:=h
 cases p with
 |ok es l1=>exact hk es l1 hp.1 hp.2.1
 |st l1=>exact⟨_,rfl,hp.1,by have:=hp.2;omega⟩
theorem Bi{sz:Nat}{s:List UInt8}{l l':List Tk}{many:Bool}{k:List Tk→Option PR}(hg:Good l)(hl:l.length≤l'.length)
  (hk:∀ l1,Good l1→l1.length+1=l.length→Fits many sz l' (k l1)):Fits many sz l' (mP s l k):=by
 obtain⟨t,r,rfl⟩:=hg.ne;simp only[mP]
 by_cases h:isS s t=true
 ·rw[if_pos h];exact hk r (hg.tail (wF h)) (by simp)
 ·rw[if_neg h];exact⟨_,rfl,hg,hl⟩
theorem Qx{sz:Nat}{l l':List Tk}{many:Bool}{k:List UInt8→List Tk→Option PR}(hg:Good l)(hl:l.length≤l'.length)
  (hk:∀ s l1,Good l1→l1.length+1=l.length→Fits many sz l' (k s l1)):Fits many sz l' (Dw l k):=by
 obtain⟨t,r,rfl⟩:=hg.ne;simp only[Dw]
 by_cases h:t.k=1
 ·rw[if_pos h];exact hk _ r (hg.tail (by omega)) (by simp)
 ·rw[if_neg h];exact⟨_,rfl,hg,hl⟩
theorem um{sz:Nat}{l l1:List Tk}{many:Bool}{e:Ex}(hg:Good l1)(h:lW e+l1.length≤l.length+sz):Fits many sz l (some (.ok [e] l1)):=⟨_,rfl,hg,by simp only[sizes];omega,fun _=>⟨e,rfl⟩⟩
theorem Fits.mono{many:Bool}{sz sz':Nat}{l l':List Tk}{r:Option PR}(h:Fits many sz l r)(hl:l.length≤l'.length)(hs:l.length+sz≤l'.length+sz'):Fits many sz' l' r:=by
 obtain⟨p,rfl,hp⟩:=h;refine⟨p,rfl,?_⟩
 cases p with
 |ok es l1=>exact⟨hp.1,by have:=hp.2.1;omega,hp.2.2⟩
 |st l1=>exact⟨hp.1,by have:=hp.2;omega⟩
theorem TR:∀ (n:Nat) (r:BP) (l:List Tk),Good l→ut r→10*l.length+rE r<n→Fits (J3 r) (rG r) l (run n r l)
 |0,r,l,hg,ho,hn=>absurd hn (by omega)
 |n+1,r,l,hg,ho,hn=>by
  obtain⟨t,l,rfl⟩:=hg.ne;have ih:=TR n
  have hrow:∀ l',Good l' → 10*l'.length+8<n→Fits true 0 l' (Jg (run n) l'):=by
   intro l' hg' hn';refine Fits.bind1 (ih (.ex 0) l' hg' (by simp[ut]) (by simpa [rE] using hn')) (aY _) fun e l1 h1 h2 => ?_;simp only[rG]at h2;have hp:1≤lW e:=by cases e;simp only[lW];omega
   refine(ih (.ro [e]) l1 h1 trivial (by simp only[rE];omega)).mono (by omega) ?_;simp only[rG,sizes];omega
  have hunt:∀ s l',Good l' → 10*l'.length+8<n→Fits true 0 l' (xH (run n) s l'):=by
   intro s l' hg' hn';obtain⟨t',r',rfl⟩:=hg'.ne;simp only[xH]
   by_cases h:isS s t'=true
   ·rw[if_pos h];exact⟨_,rfl,hg'.tail (wF h),by simp[sizes],by simp⟩
   ·rw[if_neg h];refine Fits.bindL (hrow _ hg' hn') (aY _) fun es l1 h1 h2 => ?_;refine Bi h1 (by omega) fun l2 h3 h4=>⟨_,rfl,h3,by omega,by simp⟩
  simp only[ax]at hn;show Fits (J3 r) (rG r) (t::l) (step (run n) t l r)
  cases r with
  |ex line=>
   simp only[step,rE,ut,rG,J3]at hn ho ⊢
   by_cases h:line=6
   ·subst h;rw[if_pos rfl];exact ih .un _ hg trivial (by simp only[rE,ax];omega)
   ·rw[if_neg h];refine Fits.bind1 (ih (.ex (line+1)) _ hg (by simp only[ut];omega) (by simp only[rE,ax];omega)) (aY _) fun e l1 h1 h2 => ?_;simp only[rG,ax]at h2;have hp:1≤lW e:=by cases e;simp only[lW];omega
    exact(ih (.lp line e) l1 h1 (by simp only[ut];omega) (by simp only[rE];omega)).mono (by simp only[ax];omega) (by simp only[rG,ax];omega)
  |lp line e=>
   simp only[step,rE,ut,rG,J3]at hn ho ⊢
   by_cases h:(t.k==4&&level t.s==(line:Int))=true
   ·rw[if_pos h]
    have hk:t.k≠0:=by
     intro h0;simp[h0]at h
    refine Fits.bind1 (ih (.ex (line+1)) _ (hg.tail hk) (by simp only[ut];omega) (by simp only[rE];omega)) (by simp) fun e2 l2 h1 h2 => ?_;simp only[rG]at h2;have hp:1≤lW e2:=by cases e2;simp only[lW];omega
    exact(ih (.lp line _) l2 h1 ho (by simp only[rE];omega)).mono (by simp only[ax];omega) (by simp only[rG,lW,sizes,ax];omega)
   ·rw[if_neg h];exact um hg (by simp only[ax];omega)
  |un=>
   simp only[step,rE,ut,rG,J3]at hn ho ⊢
   by_cases h:(isS [45] t||isS [33] t)=true
   ·rw[if_pos h]
    have hk:t.k≠0:=by
     rw[cZ]at h
     rcases h with h|h
     ·exact wF h
     ·exact wF h
    refine Fits.bind1 (ih .un _ (hg.tail hk) trivial (by simp only[rE];omega)) (by simp) fun e l1 h1 h2 => ?_;simp only[rG]at h2;exact um h1 (by simp only[lW,sizes,ax];omega)
   ·rw[if_neg h];refine Fits.bind1 (ih .si _ hg trivial (by simp only[rE,ax];omega)) (aY _) fun e l1 h1 h2 => ?_;simp only[rG,ax]at h2;have hp:1≤lW e:=by cases e;simp only[lW];omega
    exact(ih (.po e) l1 h1 trivial (by simp only[rE];omega)).mono (by simp only[ax];omega) (by simp only[rG,ax];omega)
  |po e=>
   simp only[step,rE,ut,rG,J3]at hn ho ⊢
   by_cases h:isS [91] t=true
   ·rw[if_pos h];refine Fits.bind1 (ih (.ex 0) _ (hg.tail (wF h)) (by simp[ut]) (by simp only[rE];omega)) (by simp) fun e2 l2 h1 h2 => ?_;simp only[rG]at h2;refine Bi h1 (by simp only[ax];omega) fun l3 h3 h4 => ?_;exact(ih (.po _) l3 h3 trivial (by simp only[rE];omega)).mono (by simp only[ax];omega) (by simp only[rG,lW,sizes,ax];omega)
   ·rw[if_neg h]
    by_cases h:isS [46] t=true
    ·rw[if_pos h];refine Qx (hg.tail (wF h)) (by simp) fun s l1 h3 h4 => ?_;exact(ih (.po _) l1 h3 trivial (by simp only[rE];omega)).mono (by simp only[ax];omega) (by simp only[rG,lW,sizes,ax];omega)
    ·rw[if_neg h];exact um hg (by simp only[ax];omega)
  |ro out=>
   simp only[step,rE,ut,rG,J3]at hn ho ⊢
   by_cases h:isS [44] t=true
   ·rw[if_pos h];refine Fits.bind1 (ih (.ex 0) _ (hg.tail (wF h)) (by simp[ut]) (by simp only[rE];omega)) (by simp) fun e l1 h1 h2 => ?_;simp only[rG]at h2;have hp:1≤lW e:=by cases e;simp only[lW];omega
    exact(ih (.ro _) l1 h1 trivial (by simp only[rE];omega)).mono (by simp only[ax];omega) (by simp only[rG,Hg,sizes,ax];omega)
   ·rw[if_neg h];exact⟨_,rfl,hg,by simp only[ax];omega,by simp⟩
  |si=>
   simp only[step,EG,rE,ut,rG,J3]at hn ho ⊢
   split
   ·rename_i h;exact um (hg.tail (by omega)) (by simp only[lW,sizes,ax];omega)
   ·split
    ·rename_i h;exact um (hg.tail (by omega)) (by simp only[lW,sizes,ax];omega)
    ·split
     ·rename_i h;have hg1:=hg.tail (by omega);obtain⟨t2,l2,rfl⟩:=hg1.ne;simp only[QH]
      by_cases h2:isS [40] t2=true
      ·rw[if_pos h2];simp only[ax]at hn;refine Fits.bindL (hunt [41] _ (hg1.tail (wF h2)) (by omega)) (by simp only[ax];omega) fun es l3 h3 h4 => ?_;exact um h3 (by simp only[lW,sizes,ax];omega)
      ·rw[if_neg h2];exact um hg1 (by simp only[lW,sizes,ax];omega)
     ·split
      ·rename_i h;exact um (hg.tail (wF h)) (by simp only[lW,sizes,ax];omega)
      ·split
       ·rename_i h;exact um (hg.tail (wF h)) (by simp only[lW,sizes,ax];omega)
       ·split
        ·rename_i h;refine Qx (hg.tail (wF h)) (by simp) fun s l1 h3 h4 => ?_;refine Bi h3 (by simp only[ax];omega) fun l2 h5 h6 => ?_;refine Fits.bindL (hunt [41] _ h5 (by omega)) (by simp only[ax];omega) fun es l3 h7 h8 => ?_;exact um h7 (by simp only[lW,sizes,ax];omega)
        ·split
         ·rename_i h;refine Fits.bindL (hrow _ (hg.tail (wF h)) (by omega)) (by simp) fun es l3 h7 h8 => ?_;refine Bi h7 (by simp only[ax];omega) fun l2 h5 h6 => ?_;exact um h5 (by simp only[lW,sizes,ax];omega)
         ·split
          ·rename_i h;refine Fits.bind1 (ih (.ex 0) _ (hg.tail (wF h)) (by simp[ut]) (by simp only[rE];omega)) (by simp) fun e l1 h1 h2 => ?_;simp only[rG]at h2;refine Bi h1 (by simp only[ax];omega) fun l2 h5 h6 => ?_;exact um h5 (by simp only[lW,sizes,ax];omega)
          ·exact⟨_,rfl,hg,aY _⟩
end Go.Av.Fn
namespace Go.Av
section
variable {P:Program} {Γ:jG} {Kp:V→Store→Prop} {s:List (Tmp×Option (Tmp×Bool)×AOp)} {l:List Item} {K:St→Prop} {t:List V} {m:Store} {d:Option Tmp}
def zhG(Kp:V→Store→Prop)(v:V)(m:Store):Prop:=match v with
 | .ifc t v=>Kp (.ifc t v) m
 |_=>False
theorem zbl{x:Operand}:vk P Γ Kp (⟨d,none,.panic x,s⟩::l) K (some ⟨t,m⟩)=zhG Kp (ev Γ t x) m:=by
 show (match ev Γ t x with
  | .ifc t v=>Kp (.ifc t v) m
  |_=>False)=_
 unfold zhG
 split<;>rfl
theorem zbF{T:TypeId}{v:V}:zhG Kp (.ifc T v) m=Kp (.ifc T v) m:=rfl
theorem Fj{c:lF}{Q:Ex→St→Prop}{st:St}(I:Nat→St→Prop)(n:Nat)(h0:I n st)(h:∀ n s (J:St→Prop),(∀ n' s',n'<n→I n' s' → J s')→I n s→awp P Γ Kp c (wY J Q) s):awp P Γ Kp (.loop c) Q st:=
 nX I n h0 fun n s hi=>h n s _ (fun n' _ hn h=>⟨n',hn,h⟩) hi
theorem nV{x:Operand}{lo hi mx:Option Operand}{z:Nat}:jJ P (ev Γ t) m (.sliceL z x lo hi mx)=sF z (ev Γ t x) (lN (ev Γ t) lo) (lN (ev Γ t) hi) (lN (ev Γ t) mx):=rfl
end
end Go.Av
namespace Go.Av.Fn
open Go.Proofs
def rdr(l:List Tk):Blk:=.var 273 [.sl (l.map tkV) [] .no]
def zfa:List Tk→Int
 |t::_=>t.a
 |[]=>0
def stk(l:List Tk):Blk:=.var 271 [it (zfa l)]
def stV(b:Nat):V:=.ifc 264 (.ptr b 0)
def PL(m:Store)(rb:Nat)(val:List Ex→V)(p:PR)(o:Out)(m':Store):Prop:=match p with
 | .ok es l=>∃ v,o = .ret v∧weak v=val es∧mO (m.set rb (rdr l)) m'
 | .st l=>∃ b,m b=none∧o = .pan (stV b)∧mO ((m.set rb (rdr l)).set b (stk l)) m'
def PE(m:Store)(rb:Nat)(val:List Ex→V)(p:PR)(o:Out)(m':Store):Prop:=match p with
 | .ok es l=>o = .ret (val es)∧m'=m.set rb (rdr l)
 | .st l=>∃ b,m b=none∧o = .pan (stV b)∧m'=(m.set rb (rdr l)).set b (stk l)
def Ext(m:Store)(rb:Nat)(S:Store):Prop:=∀ c x,c≠rb→m c=some x→S c=some x
section
variable {m S:Store} {rb b:Nat} {x y:Blk} {l:List Tk}
theorem Ext.refl(m:Store)(rb:Nat):Ext m rb m:=fun _ _ _ h=>h
theorem Ext.alloc(h:Ext m rb S)(hb:S b=none)(x:Blk):Ext m rb (S.set b x):=by
 intro c y hc hm;rw[Store.jw _ _ (jU (h c y hc hm) hb)];exact h c y hc hm
theorem Ext.loc(h:Ext m rb S)(hb:m b=none)(x:Blk):Ext m rb (S.set b x):=by
 intro c y hc hm;rw[Store.jw _ _ (jU hm hb)];exact h c y hc hm
theorem Ext.rd(h:Ext m rb S)(x:Blk):Ext m rb (S.set rb x):=by
 intro c y hc hm;rw[Store.jw _ _ hc];exact h c y hc hm
theorem Ext.none(h:Ext m rb S)(hr:S rb=some y)(hb:S b=none):m b=none:=by
 cases e:m b with
 |none=>rfl
 |some z=>
  have hne:b≠rb:=fun e=>jU hr hb e.symm;rw[h b z hne e]at hb;cases hb
theorem Ext.ret(h:Ext m rb S)(hr:S rb=some (rdr l)):mO (m.set rb (rdr l)) S:=by
 intro c z hc
 by_cases e:c=rb
 ·subst e;rw[Store.jv]at hc;cases hc;exact hr
 ·rw[Store.jw _ _ e]at hc;exact h c z e hc
theorem Ext.pan(h:Ext m rb S)(l:List Tk)(b:Nat)(z:Blk):mO ((m.set rb (rdr l)).set b z) ((S.set rb (rdr l)).set b z):=(Ext.ret (h.rd (rdr l)) (Store.jv _ _ _)).set b z
theorem nR{val:List Ex→V}(h:Ext m rb S)(hr:S rb=some y)(hb:S b=Option.none):PL m rb val (.st l) (.pan (stV b)) ((S.set rb (rdr l)).set b (stk l)):=
 ⟨b,h.none hr hb,rfl,h.pan l b _⟩
theorem wQ{val:List Ex→V}{p:PR}:∀ v (m1:Store) b x,m1 b=none→PL m rb val p (.pan v) m1→PL m rb val p (.pan v) (m1.set b x):=by
 intro v m1 b x hb h
 cases p with
 |ok es l=>
  obtain⟨_,⟨⟩,_⟩:=h
 |st l=>
  obtain⟨c,h1,h2,h3⟩:=h;exact⟨c,h1,h2,h3.out (h3.none hb) _⟩
theorem tY{P:Program}{Γ:jG}{f:FuncId}{args:List V}{val:List Ex→V}{p:PR}(h:jB P Γ f args m (PL m rb val p)):jB P Γ f args m (PE m rb val p):=by
 cases p with
 |ok es l=>
  refine jB.weak (R:=fun o m'=>∃ v,o = .ret v∧weak v=val es∧m'=m.set rb (rdr l)) (h.less ?_) ?_ ?_
  ·rintro o m' ⟨v,h1,h2,h3⟩;exact⟨_,h3,v,h1,h2,rfl⟩
  ·rintro v m' ⟨_,⟨⟩,h2,h3⟩;exact⟨by rw[h2],h3⟩
  ·rintro v m' ⟨_,⟨⟩,_⟩
 |st l=>
  refine h.less ?_;rintro o m' ⟨b,h1,h2,h3⟩;exact⟨_,h3,b,h1,h2,rfl⟩
theorem kG{P:Program}{Γ:jG}{Kp:V→Store→Prop}{s:List (Tmp×Option (Tmp×Bool)×AOp)}{li:List Item}{K:St→Prop}{t:List V}{d:Option Tmp}{g:FuncId}{first args caps:List V}{val:List Ex→V}{p:PR}
  (h:jB P Γ g (first++args++caps) S (PE S rb val p)) (hok:∀ es l1,p = .ok es l1→oH P Γ Kp s li K (qW t (S.set rb (rdr l1)) d (some (val es))))
  (hst:∀ l1 b,p = .st l1→S b=Option.none→Kp (stV b) ((S.set rb (rdr l1)).set b (stk l1))):OA P Γ Kp (.fn (.func g) first caps) args d s li K t S:=by
 refine pJ h ?_ ?_
 ·intro v m' hv
  cases p with
  |ok es l=>
   obtain⟨h1,rfl⟩:=hv;cases h1;exact hok _ _ rfl
  |st l=>
   obtain⟨_,_,⟨⟩,_⟩:=hv
 ·intro v m' hv
  cases p with
  |ok es l=>
   obtain⟨⟨⟩,_⟩:=hv
  |st l=>
   obtain⟨b,h1,h2,rfl⟩:=hv;cases h2;exact hst _ _ rfl h1
end
theorem o9{r:Option PR}{k:Ex→List Tk→Option PR}{p:PR}(h:bind1 r k=some p):(∃ e l,r=some (.ok [e] l)∧k e l=some p)∨(∃ l,r=some (.st l)∧p = .st l):=by
 unfold bind1 at h
 split at h
 ·exact .inl ⟨_,_,rfl,h⟩
 ·cases h;exact .inr ⟨_,rfl,rfl⟩
 ·cases h
theorem sO{r:Option PR}{k:List Ex→List Tk→Option PR}{p:PR}(h:bindL r k=some p):(∃ es l,r=some (.ok es l)∧k es l=some p)∨(∃ l,r=some (.st l)∧p = .st l):=by
 unfold bindL at h
 split at h
 ·exact .inl ⟨_,_,rfl,h⟩
 ·cases h;exact .inr ⟨_,rfl,rfl⟩
 ·cases h
mutual
theorem uY:∀ e:Ex,weak (exV e)=exV e
 | .mk k s n kids l=>by
  simp only[exV,weak,kW,lG kids,bs]
theorem lG:∀ l:List Ex,kW (lS l)=lS l
 |[]=>rfl
 |e::r=>by simp only[lS,kW,uY e,lG r]
end
theorem o8(e:Ex):(exV e).cells.length=5:=by
 cases e;rfl
theorem Xq:∀ l:List Tk,oq 5 (l.map tkV)=true
 |[]=>rfl
 |t::l=>by
  have:=Xq l;simp only[oq,List.map_cons,List.all_cons,aG]at this ⊢;exact⟨rfl,this⟩
theorem SQ{t:Tk}{l:List Tk}:sF 5 (.sl (tkV t::l.map tkV) [] .no) (some (some 1)) (some none) (some none)=some (.sl (l.map tkV) [] .no):=by
 have hs:oq 5 (tkV t::l.map tkV)=true:=Xq (t::l);simp only[sF,List.append_nil,hs,if_true,cutV,bY,bZ];rw[if_pos ⟨by decide,by simp,by omega⟩];simp[wL]
theorem CS{t:Tk}{l:List V}{mm:List V}{tt:Tok}:sU 5 (.sl (tkV t::l) mm tt) (.val (.int .i64 0))=some (.elt [it t.k,bs t.s,it t.n,it t.l,it t.a]):=oh (i:=0) (e:=tkV t) rfl rfl
theorem ld5{m:Store}{a b c d e:V}:Ea m (some 5) (.elt [a,b,c,d,e])=some (.agg [a,b,c,d,e]):=rfl
theorem zU{P:Program}{Γ:jG}{t:List V}{m:Store}{z:List V}{x:Nat}:jJ P (ev Γ t) m (.lits 5 z 1 [(0,.tmp x)])=(pI 5 [.agg z] [(0,ev Γ t (.tmp x))]).map fun es=>.sl es [] .full:=rfl
theorem Io{P:Program}{Γ:jG}{t:List V}{m:Store}{z:List V}{x y:Nat}:jJ P (ev Γ t) m (.lits 5 z 2 [(0,.tmp x),(1,.tmp y)])=(pI 5 [.agg z,.agg z] [(0,ev Γ t (.tmp x)),(1,ev Γ t (.tmp y))]).map fun es=>.sl es [] .full:=rfl
theorem uJ{z:List V}{v:V}(h:v.cells.length=5):((pI 5 [.agg z] [(0,v)]).map fun es=>V.sl es [] .full)=some (.sl [v] [] .full):=by
 rw[Gs h (by simp),NQ];rfl
theorem EW{z:List V}{v u:V}(h:v.cells.length=5)(k:u.cells.length=5):((pI 5 [.agg z,.agg z] [(0,v),(1,u)]).map fun es=>V.sl es [] .full)=some (.sl [v,u] [] .full):=by
 rw[Gs h (by simp),Gs k (by simp[←zM]),NQ];rfl
section
variable {Γ:jG} {m:Store} {rb:Nat}
theorem zch(s:List UInt8):jB Tryz.prog Γ 203 [bs s] m fun o m'=>o = .ret (it (level s))∧m'=m:=by
 refine jE mixed zfG (by rintro v m b x _ ⟨⟨⟩,_⟩) ?_;simp only[zmb,ss0,ay,ag];simp only[ssS,ag,ae,reduceIte,af]
 repeat' first
  |(refine jR (fun h => ?_) (fun h => ?_))
  |(simp only[ssS,ag,ae,reduceIte,af])
 all_goals
  refine jF jD ⟨?_,rfl⟩;simp only[jH,jI]
  simp_all [level]
theorem zg6{t:Tk}{l:List Tk}(s:List UInt8)(hr:m rb=some (rdr (t::l))):jB Tryz.prog Γ 247 [.ptr rb 0,bs s] m fun o m'=>o = .ret (.val (.bool (isS s t)))∧m'=m:=by
 refine jB.less (A:=fun o m'=>o = .ret (.val (.bool (isS s t)))∧mO m m') ?_ fun o m' h=>⟨m,h.2,h.1,rfl⟩;refine jE mixed zfq (by rintro v m b x _ ⟨⟨⟩,_⟩) ?_;simp only[zlX,ss0,ay,ag];simp only[hr,rdr,CS,ld5,ssS,ag,ae,reduceIte,af];refine kz fun b hb => ?_;have hn:=jU hr hb;simp only[Store.jv,ssS,ag,ae,reduceIte,af];cases h4:(t.k==4)
 ·cases h5:(t.k==5)
  ·simp only[h4,h5,Store.jv,Store.kC,ssS,ag,ae,reduceIte,af];refine jF jD ⟨?_,(mO.refl m).out hb _⟩;simp only[jH,jI,isS,h4,h5];rfl
  ·simp only[h4,h5,Store.jv,Store.kC,ssS,ag,ae,reduceIte,af];refine jF jD ⟨?_,(mO.refl m).out hb _⟩;simp only[jH,jI,isS,h4,h5];rfl
 ·simp only[h4,Store.jv,Store.kC,ssS,ag,ae,reduceIte,af];refine jF jD ⟨?_,(mO.refl m).out hb _⟩;simp only[jH,jI,isS,h4];rfl
theorem ql{t:Tk}{l:List Tk}{s:List UInt8}(hr:m rb=some (rdr (t::l)))(h:isS s t=true):jB Tryz.prog Γ 228 [.ptr rb 0,bs s] m fun o m'=>o = .ret (.val (.bool true))∧m'=m.set rb (rdr l):=by
 refine jE mixed YP (by rintro v m b x _ ⟨⟨⟩,_⟩) ?_;simp only[zi8,ss0,ay,ag];simp only[ssS,ag,ae,reduceIte,af];refine jK (zg6 s hr) ?_;simp only[h,hr,rdr,nV,SQ,ssS,ag,ae,reduceIte,af];exact jF jD ⟨rfl,rfl⟩
theorem sD{t:Tk}{l:List Tk}{s:List UInt8}(hr:m rb=some (rdr (t::l)))(h:isS s t=false):jB Tryz.prog Γ 228 [.ptr rb 0,bs s] m fun o m'=>o = .ret (.val (.bool false))∧m'=m:=by
 refine jE mixed YP (by rintro v m b x _ ⟨⟨⟩,_⟩) ?_;simp only[zi8,ss0,ay,ag];simp only[ssS,ag,ae,reduceIte,af];refine jK (zg6 s hr) ?_;simp only[h,ssS,ag,ae,reduceIte,af];exact jF jD ⟨rfl,rfl⟩
theorem La{t:Tk}{l:List Tk}{val:List Ex→V}(hr:m rb=some (rdr (t::l))):jB Tryz.prog Γ 201 [.ptr rb 0] m (PE m rb val (.st (t::l))):=by
 refine tY (jE mixed zfI wQ ?_);simp only[zmd,ss0,ay,ag];simp only[hr,rdr,CS,ld5,ssS,ag,ae,reduceIte,af];refine kz fun b hb => ?_;simp only[zbl,zbF,ssS,ag,ae,reduceIte,af];refine⟨b,hb,rfl,?_⟩;rw[Store.sZ m hr];exact mO.refl _
theorem vF{l:List Tk}{s:List UInt8}{p:PR}(hr:m rb=some (rdr l))(h:mP s l (fun l2=>some (.ok [] l2))=some p):jB Tryz.prog Γ 204 [.ptr rb 0,bs s] m (PE m rb (fun _=>.tup []) p):=by
 cases l with
 |nil=>cases h
 |cons t l=>
  simp only[mP]at h;refine tY (jE mixed zfF wQ ?_);simp only[zma,ss0,ay,ag];simp only[ssS,ag,ae,reduceIte,af];cases hi:isS s t
  ·simp only[hi,aF,if_false,au]at h;subst h;refine jK (sD hr hi) ?_;simp only[aN,ssS,ag,ae,reduceIte,af];refine kG (La (val:=fun _=>.tup []) hr) (by rintro es l1 ⟨⟩) ?_;rintro l1 b ⟨⟩ hb;exact nR (Ext.refl m rb) hr hb
  ·simp only[hi,if_true,au]at h;subst h;refine lm (ql hr hi) ?_;simp only[aO,ssS,ag,ae,reduceIte,af];exact Tf (v:=.tup []) rfl ⟨_,rfl,rfl,mO.refl _⟩
theorem NJ{t:Tk}{l:List Tk}(hr:m rb=some (rdr (t::l)))(h:t.k=1):jB Tryz.prog Γ 230 [.ptr rb 0] m fun o m'=>o = .ret (bs t.s)∧m'=m.set rb (rdr l):=by
 refine jB.less (A:=fun o m'=>o = .ret (bs t.s)∧mO (m.set rb (rdr l)) m') ?_ fun o m' h=>⟨_,h.2,h.1,rfl⟩;refine jE mixed YO (by rintro v m b x _ ⟨⟨⟩,_⟩) ?_;simp only[zi6,ss0,ay,ag];simp only[hr,rdr,CS,ld5,ssS,ag,ae,reduceIte,af];refine kz fun b hb => ?_;have hn:=jU hr hb;have h1:(t.k != 1)=false:=by simp[h]
 simp only[Store.jv,Store.kC,Store.jw _ _ hn,Store.jw _ _ hn.symm,hr,rdr,h1,nV,SQ,ssS,ag,ae,reduceIte,af];refine jF jD ⟨rfl,?_⟩;exact Ext.ret ((Ext.refl m rb).alloc hb _ |>.rd _) (Store.jv _ _ _)
theorem XT{t:Tk}{l:List Tk}{val:List Ex→V}(hr:m rb=some (rdr (t::l)))(h:¬ t.k=1):jB Tryz.prog Γ 230 [.ptr rb 0] m (PE m rb val (.st (t::l))):=by
 refine tY (jE mixed YO wQ ?_);simp only[zi6,ss0,ay,ag];simp only[hr,rdr,CS,ld5,ssS,ag,ae,reduceIte,af];refine kz fun b hb => ?_;have hn:=jU hr hb;have h1:(t.k != 1)=true:=by simp[h]
 simp only[Store.jv,Store.kC,h1,ssS,ag,ae,reduceIte,af];refine kG (S:=m.set b _) (La (val:=val) (by rw[Store.jw _ _ hn];exact hr)) (by rintro es l1 ⟨⟩) ?_;rintro l1 b2 ⟨⟩ hb2;exact nR ((Ext.refl m rb).alloc hb _) (by rw[Store.jw _ _ hn];exact hr) hb2
end
end Go.Av.Fn
namespace Go.Av.Fn
open Go.Proofs
def hdV:List Ex→V
 |e::_=>exV e
 |[]=>un
def slV(es:List Ex):V:=.sl (lS es) [] .no
def Sgl:PR→Prop
 | .ok es _=>∃ e,es=[e]
 | .st _=>True
def ExH(Γ:jG)(n:Nat):Prop:=∀ (line:Nat) (l:List Tk) (p:PR) (m:Store) (rb:Nat),line≤6→m rb=some (rdr l)→Sgl p→run n (.ex line) l=some p→jB Tryz.prog Γ 186 [.ptr rb 0,it line] m (PE m rb hdV p)
def UnH(Γ:jG)(n:Nat):Prop:=∀ (l:List Tk) (p:PR) (m:Store) (rb:Nat),m rb=some (rdr l)→Sgl p→run n .un l=some p→jB Tryz.prog Γ 202 [.ptr rb 0] m (PE m rb hdV p)
def SiH(Γ:jG)(n:Nat):Prop:=∀ (l:List Tk) (p:PR) (m:Store) (rb:Nat),m rb=some (rdr l)→Sgl p→run n .si l=some p→jB Tryz.prog Γ 229 [.ptr rb 0] m (PE m rb hdV p)
theorem Eu.put{e:TypeId}{size:Nat}{m m':Store}{v:V}{es:List V}(h:Eu e size m m' v es){b:Nat}{x y:Blk}(hb:m b=some y):Eu e size (m.set b x) (m'.set b x) v es:=by
 refine⟨h.1,?_⟩
 rcases h.2 with ⟨h2,rfl⟩|⟨h1,t,k,ht,rfl,h2⟩
 ·exact .inl ⟨h2,rfl⟩
 ·have hne:t≠b:=fun e=>jU hb ht e.symm;exact .inr ⟨h1,t,k,by rw[Store.jw _ _ hne,ht],set_comm _ _ _ hne,h2⟩
theorem zeP(e:Ex):∀ c∈(exV e).cells,oW c=true:=by
 obtain⟨k,s,n,kids,l⟩:=e;intro c hc;simp only[exV,V.cells,List.mem_cons,dm,or_false]at hc
 rcases hc with rfl|rfl|rfl|rfl|rfl<;>rfl
theorem QV:∀ l:List Ex,oq 5 (lS l)=true
 |[]=>rfl
 |e::l=>by
  have:=QV l;simp only[oq,lS,List.all_cons,aG]at this ⊢;exact⟨by rw[o8];rfl,this⟩
theorem qf{m m2:Store}{rb b i:Nat}{t:List V}{k n ln:Int}{s:List UInt8}{vs:List V}{tok:Tok}{kids:List Ex}{l1:List Tk}(h1:jT t i = .ptr b 0)(h2:m2 b=some (.var 206 [it k,bs s,it n,.sl vs [] tok,it ln]))(hv:kW vs=lS kids)(hs:mO (m.set rb (rdr l1)) m2) :
  vT [oZ.cell i (some 5)] (PL m rb hdV (.ok [.mk k s n kids ln] l1)) .ret ⟨t,m2⟩:=
 jF (v:=.agg [it k,bs s,it n,.sl vs [] tok,it ln]) ((wo h1 h2).trans rfl) ⟨_,rfl,by simp only[weak,kW,hdV,exV,hv,bs],hs⟩
section
variable {Γ:jG} {m:Store} {rb n:Nat} {l:List Tk} {p:PR}
theorem any_ok(h:ExH Γ n)(hr:m rb=some (rdr l))(hs:Sgl p)(hp:run n (.ex 0) l=some p):jB Tryz.prog Γ 249 [.ptr rb 0] m (PE m rb hdV p):=by
 refine tY (jE mixed zfo wQ ?_);simp only[zlV,ss0,ay,ag];simp only[ssS,ag,ae,reduceIte,af];refine kz fun b hb => ?_;have hn:=jU hr hb;have hE:=(Ext.refl m rb).alloc hb (.var 206 [V.val (Value.int IntKind.i64 0),V.val (Value.string (ByteArray.mk #[])),V.val (Value.int IntKind.i64 0),V.sl [] [] Tok.full,V.val (Value.int IntKind.i64 0)]);simp only[ssS,ag,ae,reduceIte,af];refine kG (h 0 l p _ rb (by omega) (by rw[Store.jw _ _ hn];exact hr) hs hp) (fun es l1 e => ?_) (fun l1 b2 e hb2 => ?_)
 ·subst e;obtain⟨e,rfl⟩:=hs;obtain⟨k,s,n,kids,ln⟩:=e;simp only[hdV,exV,Store.jw _ _ hn.symm,Store.jv,ssS,ag,ae,reduceIte,af];refine qf (b:=b) rfl (Store.jv _ _ _) (lG _) ?_;exact((hE.rd _).loc hb _).ret (by rw[Store.jw _ _ hn,Store.jv])
 ·subst e;exact nR hE (by rw[Store.jw _ _ hn];exact hr) hb2
theorem Ld(hn0:n≤1099511627776)(h:∀ k≤n,ExH Γ k)(hr:m rb=some (rdr l))(hp:Jg (run n) l=some p):jB Tryz.prog Γ 250 [.ptr rb 0,.fn (.func 249) [.ptr rb 0] []] m (PE m rb slV p):=by
 refine tY (jE mixed zfn wQ ?_);simp only[zlU,ss0,ay,ag];simp only[ssS,ag,ae,reduceIte,af]
 rcases o9 hp with ⟨e,l1,h1,h2⟩|⟨l1,h1,rfl⟩
 case inr=>
  refine kG (any_ok (p:=.st l1) (h n (aY _)) hr trivial h1) (by rintro es l2 ⟨⟩) ?_;rintro l2 b ⟨⟩ hb;exact nR (Ext.refl m rb) hr hb
 case inl=>
  refine kG (any_ok (p:=.ok [e] l1) (h n (aY _)) hr ⟨e,rfl⟩ h1) ?_ (by rintro l2 b ⟨⟩);rintro es l2 ⟨⟩;simp only[hdV,zU,uJ (o8 e),ssS,ag,ae,reduceIte,af]
  refine Fj (fun j st=>∃ (out:List Ex) (l1:List Tk) (N:Store) (v:V),run j (.ro out) l1=some p∧out.length+j≤n+1∧Ext m rb N∧N rb=some (rdr l1)∧Eu 206 5 N st.m v (lS out)∧st.t.length=17∧jT st.t 0 = .ptr rb 0∧jT st.t 1 = .fn (.func 249) [.ptr rb 0] []∧jT st.t 5=v)
   n ⟨[e],l1,_,_,h2,by simp;omega,(Ext.refl m rb).rd _,Store.jv _ _ _,⟨QV [e],.inl ⟨rfl,rfl⟩⟩,rfl,rfl,rfl,rfl⟩ ?_
  rintro j ⟨t,M⟩ J hJ ⟨out,l3,N,v,g1,g2,g3,g4,g5,hlen,t0,t1,t5⟩;simp only at g5 hlen t0 t1 t5;subst t5
  cases j with
  |zero=>cases g1
  |succ j=>
   cases l3 with
   |nil=>cases g1
   |cons tk l3=>
    have g1:step (run j) tk l3 (.ro out)=some p:=g1;simp only[step]at g1;obtain⟨tok,htok⟩:=g5.val;rw[htok]at g5;have hM:=g5.sub _ _ g4;rw[mJ hlen];simp only[jV,kT,ag,t0,t1,htok];simp only[ssS,ag,ae,reduceIte,af];cases hi:isS [44] tk
    ·simp only[hi,aF,if_false,au]at g1;subst g1;refine jK (sD hM hi) ?_;simp only[ssS,ag,ae,reduceIte,af];refine jF jD ⟨.sl (lS out) [] tok,rfl,?_,?_⟩
     ·simp only[weak,kW,lG,slV]
     ·exact(mO.trans (g3.ret g4) g5.sub)
    ·simp only[hi,if_true]at g1;refine lm (ql hM hi) ?_;simp only[ssS,ag,ae,reduceIte,af];have g6:=Eu.put g5 (x:=rdr l3) g4;have hM6:(M.set rb (rdr l3)) rb=some (rdr l3):=Store.jv _ _ _
     have hE6:Ext m rb (M.set rb (rdr l3)):=fun c x hc hm=>by
      rw[Store.jw _ _ hc];exact g5.sub _ _ (g3 c x hc hm)
     rcases o9 g1 with ⟨e2,l4,k1,k2⟩|⟨l4,k1,rfl⟩
     case inr=>
      refine kG (any_ok (p:=.st l4) (h j (by omega)) hM6 trivial k1) (by rintro es l2 ⟨⟩) ?_;rintro l2 b ⟨⟩ hb;exact nR hE6 hM6 hb
     case inl=>
      refine kG (any_ok (p:=.ok [e2] l4) (h j (by omega)) hM6 ⟨e2,rfl⟩ k1) ?_ (by rintro l2 b ⟨⟩);rintro es l5 ⟨⟩;simp only[hdV,zU,uJ (o8 e2),Store.kC,ssS,ag,ae,reduceIte,af];have g7:=Eu.put g5 (x:=rdr l4) g4;refine zaG g7 (o8 e2) (zeP e2) (by rw[xw];omega) fun m2 v2 hB2 => ?_;simp only[ssS,ag,ae,reduceIte,af];refine hJ j _ (by omega) ⟨out++[e2],l4,_,v2,k2,by simp;omega,g3.rd _,Store.jv _ _ _,by rw[Kv];exact hB2,rfl,rfl,rfl,rfl⟩
theorem GZ(hn0:n≤1099511627776)(h:∀ k≤n,ExH Γ k){s:List UInt8}(hr:m rb=some (rdr l))(hp:xH (run n) s l=some p):jB Tryz.prog Γ 248 [.ptr rb 0,bs s,.fn (.func 249) [.ptr rb 0] []] m (PE m rb slV p):=by
 cases l with
 |nil=>cases hp
 |cons tk l=>
  simp only[xH]at hp;refine tY (jE mixed zfp wQ ?_);simp only[zlW,ss0,ay,ag];simp only[ssS,ag,ae,reduceIte,af];cases hi:isS s tk
  ·simp only[hi,aF,if_false]at hp;refine jK (sD hr hi) ?_;simp only[ssS,ag,ae,reduceIte,af]
   rcases sO hp with ⟨es,l1,h1,h2⟩|⟨l1,h1,rfl⟩
   case inr=>
    refine kG (Ld hn0 h hr h1) (by rintro es l2 ⟨⟩) ?_;rintro l2 b ⟨⟩ hb;exact nR (Ext.refl m rb) hr hb
   case inl=>
    refine kG (Ld hn0 h hr h1) ?_ (by rintro l2 b ⟨⟩);rintro es2 l2 ⟨⟩;simp only[ssS,ag,ae,reduceIte,af]
    cases l1 with
    |nil=>cases h2
    |cons t2 l1=>
     simp only[mP]at h2;cases hj:isS s t2
     ·simp only[hj,aF,if_false,au]at h2;subst h2;refine kG (vF (s:=s) (p:=.st (t2::l1)) (Store.jv _ _ _) (by simp only[mP,hj,aF,if_false])) (by rintro es l2 ⟨⟩) ?_;rintro l2 b ⟨⟩ hb;exact nR ((Ext.refl m rb).rd _) (Store.jv _ _ _) hb
     ·simp only[hj,if_true,au]at h2;subst h2;refine kG (vF (s:=s) (p:=.ok [] l1) (Store.jv _ _ _) (by simp only[mP,hj,if_true])) ?_ (by rintro l2 b ⟨⟩);rintro es3 l3 ⟨⟩;simp only[ssS,ag,ae,reduceIte,af];refine jF jD ⟨slV es,rfl,?_,?_⟩
      ·simp only[slV,weak,kW,lG]
      ·rw[Store.kC];exact mO.refl _
  ·simp only[hi,if_true,au]at hp;subst hp;refine lm (ql hr hi) ?_;simp only[ssS,ag,ae,reduceIte,af];exact jF jD ⟨_,rfl,rfl,mO.refl _⟩
end
abbrev zE:List V:=[V.val (Value.int IntKind.i64 0),V.val (Value.string (ByteArray.mk #[])),V.val (Value.int IntKind.i64 0),V.sl [] [] Tok.full,V.val (Value.int IntKind.i64 0)]
theorem zcr{t:Tk}(h:(t.k==4)=true):isS t.s t=true:=by simp[isS,h]
theorem oz{n:Nat}{r:BP}{l:List Tk}{p:PR}(h:run n r l=some p):∃ j t l',n=j+1∧l=t::l'∧step (run j) t l' r=some p:=by
 cases n with
 |zero=>cases h
 |succ j=>
  cases l with
  |nil=>cases h
  |cons t l'=>exact⟨j,t,l',rfl,rfl,h⟩
theorem zeO{Γ:jG}{n:Nat}(h:∀ k<n,ExH Γ k∧UnH Γ k):ExH Γ n:=by
 intro line l p m rb hl hr hs hp;replace hp:=oz hp;obtain⟨n,tk,l,rfl,rfl,hp⟩:=hp;simp only[step]at hp;refine tY (jE mixed zfO wQ ?_);simp only[zmj,ss0,ay,ag];simp only[ssS,ag,ae,reduceIte,af];refine kz fun b4 hb4 => ?_;have h4:=jU hr hb4;have hE:=(Ext.refl m rb).alloc hb4 (.var 206 zE);have hr4:(m.set b4 (.var 206 zE)) rb=some (rdr (tk::l)):=by rw[Store.jw _ _ h4];exact hr
 simp only[ssS,ag,ae,reduceIte,af];refine jR (fun hc => ?_) (fun hc => ?_)
 ·have h6:line=6:=by have:=eq_of_beq hc;omega
  rw[if_pos h6]at hp;simp only[ssS,ag,ae,reduceIte,af];refine kG ((h n (by omega)).2 (tk::l) p _ rb hr4 hs hp) (fun es l1 e => ?_) (fun l1 b2 e hb2 => ?_)
  ·subst e;obtain⟨e,rfl⟩:=hs;obtain⟨k,s,nn,kids,ln⟩:=e;simp only[hdV,exV,Store.jw _ _ h4.symm,Store.jv,ssS,ag,ae,reduceIte,af];refine qf (b:=b4) rfl (Store.jv _ _ _) (lG _) ?_;exact((hE.rd _).loc hb4 _).ret (by rw[Store.jw _ _ h4,Store.jv])
  ·subst e;exact nR hE hr4 hb2
 ·have h6:¬ line=6:=by
   intro e;rw[e]at hc;simp at hc
  rw[if_neg h6]at hp;simp only[jQ (show line<4611686018427387904 by omega),ssS,ag,ae,reduceIte,af]
  rcases o9 hp with ⟨e,l1,h1,h2⟩|⟨l1,h1,rfl⟩
  case inr=>
   refine kG ((h n (by omega)).1 (line+1) (tk::l) (.st l1) _ rb (by omega) hr4 trivial h1) (by rintro es l2 ⟨⟩) ?_;rintro l2 b2 ⟨⟩ hb2;exact nR hE hr4 hb2
  case inl=>
   refine kG ((h n (by omega)).1 (line+1) (tk::l) (.ok [e] l1) _ rb (by omega) hr4 ⟨e,rfl⟩ h1) ?_ (by rintro l2 b2 ⟨⟩);rintro es l2 ⟨⟩;obtain⟨k,s,nn,kids,ln⟩:=e;obtain⟨_,tk2,l2,_,rfl,_⟩:=oz h2;have hE2:=hE.rd (rdr (tk2::l2));simp only[hdV,exV,ssS,ag,ae,reduceIte,af];refine kz fun b5 hb5 => ?_;have h5:=jU (Store.jv _ _ _) hb5;have h45:b4≠b5:=jU (x:=.var 206 zE) (by rw[Store.jw _ _ h4.symm,Store.jv]) hb5;have hm5:=hE2.none (Store.jv _ _ _) hb5;simp only[Store.jv,Store.kC,Store.jw _ _ h5,rdr,CS,ld5,ssS,ag,ae,reduceIte,af];refine kz fun b6 hb6 => ?_;have h6r:rb≠b6:=jU (x:=rdr (tk2::l2)) (by rw[Store.jw _ _ h5,Store.jv];rfl) hb6;have h46:b4≠b6:=jU (x:=.var 206 zE) (by rw[Store.jw _ _ h45,Store.jw _ _ h4.symm,Store.jv]) hb6;have h56:b5≠b6:=jU (Store.jv _ _ _) hb6;simp only[Store.jv,Store.kC,ssS,ag,ae,reduceIte,af]
   refine Fj (fun j st=>∃ (k:Int) (s:List UInt8) (nn:Int) (kids:List Ex) (ln:Int) (vs:List V) (tok:Tok) (tk:Tk) (l:List Tk) (b6:Nat),j≤n∧run j (.lp line (.mk k s nn kids ln)) (tk::l)=some p∧kW vs=lS kids∧st.m b4=some (.var 206 zE)∧st.m b5=some (.var 206 [it k,bs s,it nn,.sl vs [] tok,it ln])∧st.m b6=some (.var 185 [it tk.k,bs tk.s,it tk.n,it tk.l,it tk.a])∧st.m rb=some (rdr (tk::l))∧Ext m rb st.m∧st.t.length=54∧jT st.t 0 = .ptr rb 0∧jT st.t 1=it line∧jT st.t 4 = .ptr b4 0∧jT st.t 5 = .ptr b5 0∧jT st.t 6 = .ptr b6 0)
    n ⟨k,s,nn,kids,ln,lS kids,.no,tk2,l2,b6,aY _,h2,lG _,?_,?_,Store.jv _ _ _,?_,?_,rfl,rfl,rfl,rfl,rfl,rfl⟩ ?_
   ·show(Store.set _ _ _) _=_;rw[Store.jw _ _ h46,Store.jw _ _ h45,Store.jw _ _ h4.symm,Store.jv]
   ·show(Store.set _ _ _) _=_;rw[Store.jw _ _ h56,Store.jv]
   ·show(Store.set _ _ _) _=_;rw[Store.jw _ _ h6r,Store.jw _ _ h5,Store.jv];rfl
   ·exact(hE2.alloc hb5 _).alloc hb6 _
   clear h6r h46 h56 hb6 b6 h2 h1 hp hE2 hb5;rintro j ⟨t,S⟩ J hJ ⟨k,s,nn,kids,ln,vs,tok,tk,l,b6,hjn,g1,hv,s4,s5,s6,sr,hES,hlen,t0,t1,t4,t5,t6⟩;simp only at s4 s5 s6 sr hES hlen t0 t1 t4 t5 t6;have n46:b6≠b4:=by rintro rfl;rw[s4]at s6;cases s6
   have n56:b6≠b5:=by rintro rfl;rw[s5]at s6;cases s6
   have n6r:b6≠rb:=by rintro rfl;rw[sr]at s6;cases s6
   have n5r:b5≠rb:=h5.symm;have n4r:b4≠rb:=h4.symm;replace g1:=oz g1;obtain⟨j,_,_,rfl,hc,g1⟩:=g1;cases hc;simp only[step]at g1;rw[mJ hlen];simp only[jV,kT,ag,t0,t1,t4,t5,t6];simp only[s6,ssS,ag,ae,reduceIte,af]
   have hfin:∀ (t:List V),jT t 4 = .ptr b4 0→vT [oZ.cell 4 (some 5)] (PL m rb hdV (.ok [.mk k s nn kids ln] (tk::l))) .ret ⟨t,S.set b4 (.var 206 [it k,bs s,it nn,.sl vs [] tok,it ln])⟩:=by
    intro t ht;refine qf (b:=b4) ht (Store.jv _ _ _) hv ?_;exact(hES.loc hb4 _).ret (by rw[Store.jw _ _ h4];exact sr)
   cases hk:(tk.k==4)
   ·simp only[hk,Bool.false_and,aF,if_false,au]at g1;subst g1;simp only[s4,s5,ssS,ag,ae,reduceIte,af];exact hfin _ rfl
   ·simp only[s6,ssS,ag,ae,reduceIte,af];refine jK (zch _) ?_;simp only[ssS,ag,ae,reduceIte,af];cases hlv:(level tk.s==(line:Int))
    ·simp only[hk,hlv,Bool.and_false,aF,if_false,au]at g1;subst g1;simp only[s4,s5,ssS,ag,ae,reduceIte,af];exact hfin _ rfl
    ·simp only[hk,hlv,Bool.and_self,if_true]at g1;simp only[s6,ssS,ag,ae,reduceIte,af];refine kG (vF (s:=tk.s) (p:=.ok [] l) sr (by simp only[mP,zcr hk,if_true])) ?_ (by rintro l2 b2 ⟨⟩);rintro es l0 ⟨⟩;simp only[Store.jw _ _ n6r,Store.jw _ _ n5r,s6,s5,jQ (show line<4611686018427387904 by omega),ssS,ag,ae,reduceIte,af];have hr2:(S.set rb (rdr l)) rb=some (rdr l):=Store.jv _ _ _
     rcases o9 g1 with ⟨e2,l3,k1,k2⟩|⟨l3,k1,rfl⟩
     case inr=>
      refine kG ((h j (by omega)).1 (line+1) l (.st l3) _ rb (by omega) hr2 trivial k1) (by rintro es l2 ⟨⟩) ?_;rintro l2 b2 ⟨⟩ hb2;exact nR (hES.rd _) hr2 hb2
     case inl=>
      refine kG ((h j (by omega)).1 (line+1) l (.ok [e2] l3) _ rb (by omega) hr2 ⟨e2,rfl⟩ k1) ?_ (by rintro l2 b2 ⟨⟩);rintro es l4 ⟨⟩;obtain⟨_,tk3,l4,_,rfl,_⟩:=oz k2;simp only[hdV,Store.kC,Store.jw _ _ n56,Store.jw _ _ n6r,Store.jw _ _ n5r,s6,s5,Io,EW (v:=.agg [it k,bs s,it nn,.sl vs [] tok,it ln]) (u:=exV e2) rfl (o8 e2),ssS,ag,ae,reduceIte,af];refine kz fun b7 hb7 => ?_;have q7r:rb≠b7:=jU (x:=rdr (tk3::l4)) (by rw[Store.jw _ _ h5,Store.jv]) hb7;have q57:b5≠b7:=jU (Store.jv _ _ _) hb7;have q47:b4≠b7:=jU (by rw[Store.jw _ _ h45,Store.jw _ _ n4r];exact s4) hb7;have q67:b6≠b7:=jU (by rw[Store.jw _ _ n56,Store.jw _ _ n6r];exact s6) hb7;simp only[Store.jv,Store.kC,Store.jw _ _ q7r,Store.jw _ _ q67,Store.jw _ _ h5,Store.jw _ _ n56,Store.jw _ _ n6r,s6,rdr,CS,ld5,ssS,ag,ae,reduceIte,af];refine hJ j _ (by omega) ⟨7,tk.s,0,[.mk k s nn kids ln,e2],ln,[.agg [it k,bs s,it nn,.sl vs [] tok,it ln],exV e2],.full,tk3,l4,b7,by omega,k2,?_,?_,?_,Store.jv _ _ _,?_,?_,rfl,rfl,rfl,rfl,rfl,rfl⟩
      ·simp only[kW,weak,lS,exV,hv,uY,bs]
      ·show(Store.set _ _ _) _=_;rw[Store.jw _ _ q47,Store.jw _ _ h45,Store.jw _ _ n4r];exact s4
      ·show(Store.set _ _ _) _=_;rw[Store.jw _ _ q57,Store.jv]
      ·show(Store.set _ _ _) _=_;rw[Store.jw _ _ q7r,Store.jw _ _ h5,Store.jv];rfl
      ·exact((hES.rd _).loc hm5 _).alloc hb7 _
theorem zaS{Γ:jG}{n:Nat}(h:∀ k<n,ExH Γ k∧UnH Γ k∧SiH Γ k):UnH Γ n:=by
 intro l p m rb hr hs hp;replace hp:=oz hp;obtain⟨n,tk,l,rfl,rfl,hp⟩:=hp;simp only[step]at hp;refine tY (jE mixed zfH wQ ?_);simp only[zmc,ss0,ay,ag];simp only[ssS,ag,ae,reduceIte,af];refine kz fun b2 hb2 => ?_;have h2:=jU hr hb2;have hE:=(Ext.refl m rb).alloc hb2 (.var 206 zE);simp only[Store.jw _ _ h2,hr,rdr,CS,ld5,ssS,ag,ae,reduceIte,af];refine kz fun b3 hb3 => ?_;have h3:rb≠b3:=jU (x:=rdr (tk::l)) (by rw[Store.jw _ _ h2];exact hr) hb3;have h23:b2≠b3:=jU (Store.jv _ _ _) hb3;simp only[Store.jv,Store.kC,ssS,ag,ae,reduceIte,af];obtain⟨S,hS⟩:∃ S,(m.set b2 (.var 206 zE)).set b3 (.var 185 [it tk.k,bs tk.s,it tk.n,it tk.l,it tk.a])=S:=⟨_,rfl⟩;have s2:S b2=some (.var 206 zE):=by rw[←hS,Store.jw _ _ h23,Store.jv]
 have s3:S b3=some (.var 185 [it tk.k,bs tk.s,it tk.n,it tk.l,it tk.a]):=by rw[←hS,Store.jv]
 have sr:S rb=some (rdr (tk::l)):=by rw[←hS,Store.jw _ _ h3,Store.jw _ _ h2];exact hr
 have hES:Ext m rb S:=by rw[←hS];exact hE.alloc hb3 _
 rw[hS];clear hS hE hb3;have n2r:=h2.symm;have n3r:=h3.symm;have n32:=h23.symm;cases hi:isS [45] tk
 ·refine jK (sD sr hi) ?_;simp only[ssS,ag,ae,reduceIte,af];cases hj:isS [33] tk
  ·-- neither
   simp only[hi,hj,Bool.or_self,aF,if_false]at hp;refine jK (sD sr hj) ?_;simp only[ssS,ag,ae,reduceIte,af]
   rcases o9 hp with ⟨e,l1,h1,k2⟩|⟨l1,h1,rfl⟩
   case inr=>
    refine kG ((h n (by omega)).2.2 (tk::l) (.st l1) _ rb sr trivial h1) (by rintro es l2 ⟨⟩) ?_;rintro l2 b ⟨⟩ hb;exact nR hES sr hb
   case inl=>
    refine kG ((h n (by omega)).2.2 (tk::l) (.ok [e] l1) _ rb sr ⟨e,rfl⟩ h1) ?_ (by rintro l2 b ⟨⟩);rintro es l2 ⟨⟩;obtain⟨k,s,nn,kids,ln⟩:=e;obtain⟨_,tk2,l2,_,rfl,_⟩:=oz k2;simp only[hdV,exV,ssS,ag,ae,reduceIte,af];refine kz fun b4 hb4 => ?_;have h4:=jU (Store.jv _ _ _) hb4;have h24:b2≠b4:=jU (by rw[Store.jw _ _ n2r];exact s2) hb4;have hE2:=hES.rd (rdr (tk2::l2));have hm4:=hE2.none (Store.jv _ _ _) hb4;simp only[Store.jv,Store.kC,ssS,ag,ae,reduceIte,af]
    refine Fj (fun j st=>∃ (k:Int) (s:List UInt8) (nn:Int) (kids:List Ex) (ln:Int) (vs:List V) (tok:Tok) (tk:Tk) (l:List Tk),j≤n∧run j (.po (.mk k s nn kids ln)) (tk::l)=some p∧kW vs=lS kids∧st.m b2=some (.var 206 zE)∧st.m b4=some (.var 206 [it k,bs s,it nn,.sl vs [] tok,it ln])∧st.m rb=some (rdr (tk::l))∧Ext m rb st.m∧st.t.length=50∧jT st.t 0 = .ptr rb 0∧jT st.t 2 = .ptr b2 0∧jT st.t 4 = .ptr b4 0)
     n ⟨k,s,nn,kids,ln,lS kids,.no,tk2,l2,aY _,k2,lG _,?_,Store.jv _ _ _,?_,hE2.alloc hb4 _,rfl,rfl,rfl,rfl⟩ ?_
    ·show(Store.set _ _ _) _=_;rw[Store.jw _ _ h24,Store.jw _ _ n2r];exact s2
    ·show(Store.set _ _ _) _=_;rw[Store.jw _ _ h4,Store.jv]
    clear hE2 hb4 k2 h1 hp;clear s2 s3 sr hES S;rintro j ⟨t,S⟩ J hJ ⟨k,s,nn,kids,ln,vs,tok,tk,l,hjn,g1,hv,s2,s4,sr,hES,hlen,t0,t2,t4⟩;simp only at s2 s4 sr hES hlen t0 t2 t4;have n4r:=h4.symm;have n42:=h24.symm;replace g1:=oz g1;obtain⟨j,_,_,rfl,hc,g1⟩:=g1;cases hc;simp only[step]at g1;rw[mJ hlen];simp only[jV,kT,ag,t0,t2,t4];simp only[ssS,ag,ae,reduceIte,af];cases hi:isS [91] tk
    ·refine jK (sD sr hi) ?_;simp only[hi,aF,if_false]at g1;simp only[ssS,ag,ae,reduceIte,af];cases hj:isS [46] tk
     ·refine jK (sD sr hj) ?_;simp only[hj,aF,if_false,au]at g1;subst g1;simp only[s4,s2,ssS,ag,ae,reduceIte,af];refine qf (b:=b2) rfl (Store.jv _ _ _) hv ?_;exact(hES.loc hb2 _).ret (by rw[Store.jw _ _ h2];exact sr)
     ·refine lm (ql sr hj) ?_;simp only[hj,if_true]at g1;simp only[Store.jw _ _ n4r,s4,zU,uJ (v:=.agg [it k,bs s,it nn,.sl vs [] tok,it ln]) rfl,ssS,ag,ae,reduceIte,af];have hr2:(S.set rb (rdr l)) rb=some (rdr l):=Store.jv _ _ _
      cases l with
      |nil=>cases g1
      |cons t3 l=>
       simp only[Dw]at g1
       by_cases h1:t3.k=1
       ·rw[if_pos h1]at g1;obtain⟨_,tk4,l4,_,rfl,_⟩:=oz g1;refine lm (NJ hr2 h1) ?_;simp only[Store.kC,Store.jw _ _ n4r,s4,ssS,ag,ae,reduceIte,af];refine hJ j _ (by omega) ⟨9,t3.s,0,[.mk k s nn kids ln],ln,[.agg [it k,bs s,it nn,.sl vs [] tok,it ln]],.full,tk4,l4,by omega,g1,?_,?_,Store.jv _ _ _,?_,(hES.rd _).loc hm4 _,rfl,rfl,rfl,rfl⟩
        ·simp only[kW,weak,lS,exV,hv,bs]
        ·show(Store.set _ _ _) _=_;rw[Store.jw _ _ h24,Store.jw _ _ n2r];exact s2
        ·show(Store.set _ _ _) _=_;rw[Store.jw _ _ h4,Store.jv]
       ·rw[if_neg h1,au]at g1;subst g1;refine kG (XT (val:=hdV) hr2 h1) (by rintro es l2 ⟨⟩) ?_;rintro l2 b ⟨⟩ hb;exact nR (hES.rd _) hr2 hb
    ·refine lm (ql sr hi) ?_;simp only[hi,if_true]at g1;simp only[Store.jw _ _ n4r,s4,ssS,ag,ae,reduceIte,af];have hr2:(S.set rb (rdr l)) rb=some (rdr l):=Store.jv _ _ _
     rcases o9 g1 with ⟨e2,l3,k1,k2⟩|⟨l3,k1,rfl⟩
     case inr=>
      refine kG ((h j (by omega)).1 0 l (.st l3) _ rb (by omega) hr2 trivial k1) (by rintro es l2 ⟨⟩) ?_;rintro l2 b ⟨⟩ hb;exact nR (hES.rd _) hr2 hb
     case inl=>
      refine kG ((h j (by omega)).1 0 l (.ok [e2] l3) _ rb (by omega) hr2 ⟨e2,rfl⟩ k1) ?_ (by rintro l2 b ⟨⟩);rintro es l4 ⟨⟩;simp only[hdV,Store.kC,Store.jw _ _ n4r,s4,Io,EW (v:=.agg [it k,bs s,it nn,.sl vs [] tok,it ln]) (u:=exV e2) rfl (o8 e2),ssS,ag,ae,reduceIte,af]
      cases l3 with
      |nil=>cases k2
      |cons t5 l3=>
       simp only[mP]at k2
       have hr3:((S.set rb (rdr (t5::l3))).set b4 (.var 206 [it 8,bs [],it 0,.sl [.agg [it k,bs s,it nn,.sl vs [] tok,it ln],exV e2] [] .full,it ln])) rb=some (rdr (t5::l3)):=by
        rw[Store.jw _ _ h4,Store.jv]
       cases hj:isS [93] t5
       ·simp only[hj,aF,if_false,au]at k2;subst k2;refine kG (vF (s:=[93]) (p:=.st (t5::l3)) hr3 (by simp only[mP,hj,aF,if_false])) (by rintro es l2 ⟨⟩) ?_;rintro l2 b ⟨⟩ hb;exact nR ((hES.rd _).loc hm4 _) hr3 hb
       ·simp only[hj,if_true]at k2;obtain⟨_,tk4,l5,_,rfl,_⟩:=oz k2;refine kG (vF (s:=[93]) (p:=.ok [] (tk4::l5)) hr3 (by simp only[mP,hj,if_true])) ?_ (by rintro l2 b2 ⟨⟩);rintro es l0 ⟨⟩;simp only[ssS,ag,ae,reduceIte,af];refine hJ j _ (by omega) ⟨8,[],0,[.mk k s nn kids ln,e2],ln,[.agg [it k,bs s,it nn,.sl vs [] tok,it ln],exV e2],.full,tk4,l5,by omega,k2,?_,?_,?_,Store.jv _ _ _,((hES.rd _).loc hm4 _).rd _,rfl,rfl,rfl,rfl⟩
        ·simp only[kW,weak,lS,exV,hv,uY,bs]
        ·show(Store.set _ _ _) _=_;rw[Store.jw _ _ n2r,Store.jw _ _ h24,Store.jw _ _ n2r];exact s2
        ·show(Store.set _ _ _) _=_;rw[Store.jw _ _ n4r,Store.jv];rfl
  ·-- !
   simp only[hi,hj,Bool.or_true,iQ,if_true]at hp;refine lm (ql sr hj) ?_;simp only[Store.jw _ _ n3r,s3,ssS,ag,ae,reduceIte,af];have hr2:(S.set rb (rdr l)) rb=some (rdr l):=Store.jv _ _ _
   rcases o9 hp with ⟨e,l1,h1,k2⟩|⟨l1,h1,rfl⟩
   case inr=>
    refine kG ((h n (by omega)).2.1 l (.st l1) _ rb hr2 trivial h1) (by rintro es l2 ⟨⟩) ?_;rintro l2 b ⟨⟩ hb;exact nR (hES.rd _) hr2 hb
   case inl=>
    refine kG ((h n (by omega)).2.1 l (.ok [e] l1) _ rb hr2 ⟨e,rfl⟩ h1) ?_ (by rintro l2 b ⟨⟩);rintro es l2 ⟨⟩;cases k2;simp only[hdV,Store.kC,Store.jw _ _ n3r,Store.jw _ _ n2r,s2,s3,zU,uJ (o8 e),ssS,ag,ae,reduceIte,af];refine qf (b:=b2) rfl (Store.jv _ _ _) (by simp only[kW,uY,lS]) ?_;exact((hES.rd _).loc hb2 _).ret (by rw[Store.jw _ _ h2,Store.jv])
 ·-- -
  simp only[hi,iQ,if_true]at hp;refine lm (ql sr hi) ?_;simp only[Store.jw _ _ n3r,s3,ssS,ag,ae,reduceIte,af];have hr2:(S.set rb (rdr l)) rb=some (rdr l):=Store.jv _ _ _
  rcases o9 hp with ⟨e,l1,h1,k2⟩|⟨l1,h1,rfl⟩
  case inr=>
   refine kG ((h n (by omega)).2.1 l (.st l1) _ rb hr2 trivial h1) (by rintro es l2 ⟨⟩) ?_;rintro l2 b ⟨⟩ hb;exact nR (hES.rd _) hr2 hb
  case inl=>
   refine kG ((h n (by omega)).2.1 l (.ok [e] l1) _ rb hr2 ⟨e,rfl⟩ h1) ?_ (by rintro l2 b ⟨⟩);rintro es l2 ⟨⟩;cases k2;simp only[hdV,Store.kC,Store.jw _ _ n3r,Store.jw _ _ n2r,s2,s3,zU,uJ (o8 e),ssS,ag,ae,reduceIte,af];refine qf (b:=b2) rfl (Store.jv _ _ _) (by simp only[kW,uY,lS]) ?_;exact((hES.rd _).loc hb2 _).ret (by rw[Store.jw _ _ h2,Store.jv])
theorem Y5{Γ:jG}{n:Nat}(hn0:n≤1099511627776)(h:∀ k<n,ExH Γ k):SiH Γ n:=by
 intro l p m rb hr hs hp;replace hp:=oz hp;obtain⟨n,tk,l,rfl,rfl,hp⟩:=hp;simp only[step,EG]at hp;have hle:∀ k≤n,ExH Γ k:=fun k hk=>h k (by omega);refine tY (jE mixed zfw wQ ?_);simp only[zl3,ss0,ay,ag];simp only[ssS,ag,ae,reduceIte,af];refine kz fun b2 hb2 => ?_;have h2:=jU hr hb2;have hE:=(Ext.refl m rb).alloc hb2 (.var 206 zE);simp only[Store.jw _ _ h2,hr,rdr,CS,ld5,ssS,ag,ae,reduceIte,af];refine kz fun b3 hb3 => ?_;have h3:rb≠b3:=jU (x:=rdr (tk::l)) (by rw[Store.jw _ _ h2];exact hr) hb3;have h23:b2≠b3:=jU (Store.jv _ _ _) hb3;simp only[Store.jv,Store.kC,ssS,ag,ae,reduceIte,af];refine kz fun b4 hb4 => ?_;have h4:rb≠b4:=jU (x:=rdr (tk::l)) (by rw[Store.jw _ _ h3,Store.jw _ _ h2];exact hr) hb4;have h24:b2≠b4:=jU (x:=.var 206 zE) (by rw[Store.jw _ _ h23,Store.jv]) hb4;have h34:b3≠b4:=jU (Store.jv _ _ _) hb4;have hm4:=(hE.alloc hb3 (.var 185 [it tk.k,bs tk.s,it tk.n,it tk.l,it tk.a])).none (y:=rdr (tk::l)) (by rw[Store.jw _ _ h3,Store.jw _ _ h2];exact hr) hb4;simp only[Store.jv,Store.kC,ssS,ag,ae,reduceIte,af];obtain⟨S,hS⟩:∃ S,((m.set b2 (.var 206 zE)).set b3 (.var 185 [it tk.k,bs tk.s,it tk.n,it tk.l,it tk.a])).set b4 (.var 206 [V.val (Value.int IntKind.i64 0),V.val (Value.string (ByteArray.mk #[])),V.val (Value.int IntKind.i64 0),V.sl [] [] Tok.full,it tk.l])=S:=⟨_,rfl⟩;have s2:S b2=some (.var 206 zE):=by rw[←hS,Store.jw _ _ h24,Store.jw _ _ h23,Store.jv]
 have s3:S b3=some (.var 185 [it tk.k,bs tk.s,it tk.n,it tk.l,it tk.a]):=by rw[←hS,Store.jw _ _ h34,Store.jv]
 have s4:S b4=some (.var 206 [V.val (Value.int IntKind.i64 0),V.val (Value.string (ByteArray.mk #[])),V.val (Value.int IntKind.i64 0),V.sl [] [] Tok.full,it tk.l]):=by rw[←hS,Store.jv]
 have sr:S rb=some (rdr (tk::l)):=by rw[←hS,Store.jw _ _ h4,Store.jw _ _ h3,Store.jw _ _ h2];exact hr
 have hES:Ext m rb S:=by rw[←hS];exact(hE.alloc hb3 _).alloc hb4 _
 rw[hS];clear hS hE hb3 hb4;have n2r:=h2.symm;have n3r:=h3.symm;have n4r:=h4.symm;have n32:=h23.symm;have n42:=h24.symm;have n43:=h34.symm;have hr2:∀ l,(S.set rb (rdr l)) rb=some (rdr l):=fun l=>Store.jv _ _ _;have sr':S rb=some (.var 273 [.sl (tkV tk::l.map tkV) [] .no]):=sr;cases k2:(tk.k==2)
 case true=>
  rw[if_pos (eq_of_beq k2),au]at hp;subst hp;simp only[k2,s3,s4,s2,sr',nV,SQ,Store.jv,Store.kC,Store.jw _ _ n2r,Store.jw _ _ n3r,Store.jw _ _ n4r,Store.jw _ _ h24,Store.jw _ _ h34,ssS,ag,ae,reduceIte,af];refine qf (b:=b2) (s:=[]) (kids:=[]) (vs:=[]) rfl (Store.jv _ _ _) rfl ?_;exact(((hES.rd _).loc hm4 _).loc hb2 _).ret (by rw[Store.jw _ _ h2,Store.jw _ _ h4,Store.jv];rfl)
 rw[if_neg (by intro e;simp[e]at k2)]at hp;cases k3:(tk.k==3)
 case true=>
  rw[if_pos (eq_of_beq k3),au]at hp;subst hp;simp only[k2,k3,s3,s4,s2,sr',nV,SQ,Store.jv,Store.kC,Store.jw _ _ n2r,Store.jw _ _ n3r,Store.jw _ _ n4r,Store.jw _ _ h24,Store.jw _ _ h34,ssS,ag,ae,reduceIte,af];refine qf (b:=b2) (kids:=[]) (vs:=[]) rfl (Store.jv _ _ _) rfl ?_;exact(((hES.rd _).loc hm4 _).loc hb2 _).ret (by rw[Store.jw _ _ h2,Store.jw _ _ h4,Store.jv];rfl)
 rw[if_neg (by intro e;simp[e]at k3)]at hp;cases k1:(tk.k==1)
 case true=>
  rw[if_pos (eq_of_beq k1)]at hp;simp only[k2,k3,k1,s3,ssS,ag,ae,reduceIte,af];refine lm (NJ sr (eq_of_beq k1)) ?_;simp only[Store.jw _ _ n4r,s4,Store.jv,Store.kC,ssS,ag,ae,reduceIte,af]
  cases l with
  |nil=>cases hp
  |cons t2 l=>
   simp only[QH]at hp;have hr4:∀ x,((S.set rb (rdr (t2::l))).set b4 x) rb=some (rdr (t2::l)):=fun x=>by rw[Store.jw _ _ h4,Store.jv]
   cases hi:isS [40] t2
   ·simp only[hi,aF,if_false,au]at hp;subst hp;refine jK (sD (hr4 _) hi) ?_;simp only[Store.jw _ _ h24,Store.jw _ _ n2r,s2,Store.jv,Store.kC,ssS,ag,ae,reduceIte,af];refine qf (b:=b2) (kids:=[]) (vs:=[]) rfl (Store.jv _ _ _) rfl ?_;exact(((hES.rd _).loc hm4 _).loc hb2 _).ret (by rw[Store.jw _ _ h2];exact hr4 _)
   ·simp only[hi,if_true]at hp;refine lm (ql (hr4 _) hi) ?_;simp only[ssS,ag,ae,reduceIte,af]
    rcases sO hp with ⟨es,l3,q1,q2⟩|⟨l3,q1,rfl⟩
    case inr=>
     refine kG (GZ (by omega) hle (Store.jv _ _ _) q1) (by rintro es l2 ⟨⟩) ?_;rintro l2 b ⟨⟩ hb;exact nR (((hES.rd _).loc hm4 _).rd _) (Store.jv _ _ _) hb
    case inl=>
     refine kG (GZ (by omega) hle (Store.jv _ _ _) q1) ?_ (by rintro l2 b ⟨⟩);rintro es2 l4 ⟨⟩;cases q2;simp only[slV,Store.kC,Store.jw _ _ n4r,Store.jw _ _ h24,Store.jw _ _ n2r,s2,Store.jv,ssS,ag,ae,reduceIte,af];refine qf (b:=b2) rfl (Store.jv _ _ _) (lG _) ?_;exact((((hES.rd _).loc hm4 _).rd _).loc hm4 _ |>.loc hb2 _).ret (by rw[Store.jw _ _ h2,Store.jw _ _ h4,Store.jv])
 rw[if_neg (by intro e;simp[e]at k1)]at hp;simp only[k2,k3,k1,s3,ssS,ag,ae,reduceIte,af];cases i1:isS [116,114,117,101] tk
 case true=>
  rw[if_pos i1,au]at hp;subst hp;refine lm (ql sr i1) ?_;simp only[s3,s4,s2,Store.jv,Store.kC,Store.jw _ _ n2r,Store.jw _ _ n3r,Store.jw _ _ n4r,Store.jw _ _ h24,Store.jw _ _ h34,ssS,ag,ae,reduceIte,af];refine qf (b:=b2) (s:=[]) (kids:=[]) (vs:=[]) rfl (Store.jv _ _ _) rfl ?_;exact(((hES.rd _).loc hm4 _).loc hb2 _).ret (by rw[Store.jw _ _ h2,Store.jw _ _ h4,Store.jv])
 rw[if_neg (by rw[i1];decide)]at hp;refine jK (sD sr i1) ?_;simp only[ssS,ag,ae,reduceIte,af];cases i2:isS [102,97,108,115,101] tk
 case true=>
  rw[if_pos i2,au]at hp;subst hp;refine lm (ql sr i2) ?_;simp only[s3,s4,s2,Store.jv,Store.kC,Store.jw _ _ n2r,Store.jw _ _ n3r,Store.jw _ _ n4r,Store.jw _ _ h24,Store.jw _ _ h34,ssS,ag,ae,reduceIte,af];refine qf (b:=b2) (s:=[]) (kids:=[]) (vs:=[]) rfl (Store.jv _ _ _) rfl ?_;exact(((hES.rd _).loc hm4 _).loc hb2 _).ret (by rw[Store.jw _ _ h2,Store.jw _ _ h4,Store.jv])
 rw[if_neg (by rw[i2];decide)]at hp;refine jK (sD sr i2) ?_;simp only[ssS,ag,ae,reduceIte,af];cases i3:isS [110,101,119] tk
 case true=>
  rw[if_pos i3]at hp;refine lm (ql sr i3) ?_;simp only[ssS,ag,ae,reduceIte,af]
  cases l with
  |nil=>cases hp
  |cons t2 l=>
   simp only[Dw]at hp
   by_cases q:t2.k=1
   ·rw[if_pos q]at hp;refine lm (NJ (hr2 _) q) ?_;simp only[Store.jw _ _ n4r,s4,Store.jv,Store.kC,ssS,ag,ae,reduceIte,af]
    cases l with
    |nil=>cases hp
    |cons t3 l=>
     simp only[mP]at hp;have hr4:∀ x,((S.set rb (rdr (t3::l))).set b4 x) rb=some (rdr (t3::l)):=fun x=>by rw[Store.jw _ _ h4,Store.jv]
     cases hi:isS [40] t3
     ·simp only[hi,aF,if_false,au]at hp;subst hp;refine kG (vF (s:=[40]) (p:=.st (t3::l)) (hr4 _) (by simp only[mP,hi,aF,if_false])) (by rintro es l2 ⟨⟩) ?_;rintro l2 b ⟨⟩ hb;exact nR ((hES.rd _).loc hm4 _) (hr4 _) hb
     ·simp only[hi,if_true]at hp;refine kG (vF (s:=[40]) (p:=.ok [] l) (hr4 _) (by simp only[mP,hi,if_true])) ?_ (by rintro l2 b2 ⟨⟩);rintro es l0 ⟨⟩;simp only[ssS,ag,ae,reduceIte,af]
      rcases sO hp with ⟨es,l3,q1,q2⟩|⟨l3,q1,rfl⟩
      case inr=>
       refine kG (GZ (by omega) hle (Store.jv _ _ _) q1) (by rintro es l2 ⟨⟩) ?_;rintro l2 b ⟨⟩ hb;exact nR (((hES.rd _).loc hm4 _).rd _) (Store.jv _ _ _) hb
      case inl=>
       refine kG (GZ (by omega) hle (Store.jv _ _ _) q1) ?_ (by rintro l2 b ⟨⟩);rintro es2 l4 ⟨⟩;cases q2;simp only[slV,Store.kC,Store.jw _ _ n4r,Store.jw _ _ h24,Store.jw _ _ n2r,s2,Store.jv,ssS,ag,ae,reduceIte,af];refine qf (b:=b2) rfl (Store.jv _ _ _) (lG _) ?_;exact((((hES.rd _).loc hm4 _).rd _).loc hm4 _ |>.loc hb2 _).ret (by rw[Store.jw _ _ h2,Store.jw _ _ h4,Store.jv])
   ·rw[if_neg q,au]at hp;subst hp;refine kG (XT (val:=hdV) (hr2 _) q) (by rintro es l2 ⟨⟩) ?_;rintro l2 b ⟨⟩ hb;exact nR (hES.rd _) (hr2 _) hb
 rw[if_neg (by rw[i3];decide)]at hp;refine jK (sD sr i3) ?_;simp only[ssS,ag,ae,reduceIte,af];cases i4:isS [91] tk
 case true=>
  rw[if_pos i4]at hp;refine lm (ql sr i4) ?_;simp only[ssS,ag,ae,reduceIte,af]
  rcases sO hp with ⟨es,l3,q1,q2⟩|⟨l3,q1,rfl⟩
  case inr=>
   refine kG (Ld (by omega) hle (Store.jv _ _ _) q1) (by rintro es l2 ⟨⟩) ?_;rintro l2 b ⟨⟩ hb;exact nR (hES.rd _) (Store.jv _ _ _) hb
  case inl=>
   refine kG (Ld (by omega) hle (Store.jv _ _ _) q1) ?_ (by rintro l2 b ⟨⟩);rintro es2 l4 ⟨⟩;simp only[slV,Store.kC,Store.jw _ _ n4r,s4,Store.jv,ssS,ag,ae,reduceIte,af]
   cases l3 with
   |nil=>cases q2
   |cons t3 l3=>
    simp only[mP]at q2;have hr4:∀ x,((S.set rb (rdr (t3::l3))).set b4 x) rb=some (rdr (t3::l3)):=fun x=>by rw[Store.jw _ _ h4,Store.jv]
    cases hi:isS [93] t3
    ·simp only[hi,aF,if_false,au]at q2;subst q2;refine kG (vF (s:=[93]) (p:=.st (t3::l3)) (hr4 _) (by simp only[mP,hi,aF,if_false])) (by rintro es l2 ⟨⟩) ?_;rintro l2 b ⟨⟩ hb;exact nR ((hES.rd _).loc hm4 _) (hr4 _) hb
    ·simp only[hi,if_true,au]at q2;subst q2;refine kG (vF (s:=[93]) (p:=.ok [] l3) (hr4 _) (by simp only[mP,hi,if_true])) ?_ (by rintro l2 b2 ⟨⟩);rintro es l0 ⟨⟩;simp only[Store.kC,Store.jw _ _ n4r,Store.jw _ _ h24,Store.jw _ _ n2r,s2,Store.jv,ssS,ag,ae,reduceIte,af];refine qf (b:=b2) (s:=[]) rfl (Store.jv _ _ _) (lG _) ?_;exact((((hES.rd _).loc hm4 _).rd _).loc hb2 _).ret (by rw[Store.jw _ _ h2,Store.jv])
 rw[if_neg (by rw[i4];decide)]at hp;refine jK (sD sr i4) ?_;simp only[ssS,ag,ae,reduceIte,af];cases i5:isS [40] tk
 case true=>
  rw[if_pos i5]at hp;refine lm (ql sr i5) ?_;simp only[ssS,ag,ae,reduceIte,af]
  rcases o9 hp with ⟨e,l3,q1,q2⟩|⟨l3,q1,rfl⟩
  case inr=>
   refine kG (h n (by omega) 0 l (.st l3) _ rb (by omega) (hr2 _) trivial q1) (by rintro es l2 ⟨⟩) ?_;rintro l2 b ⟨⟩ hb;exact nR (hES.rd _) (hr2 _) hb
  case inl=>
   refine kG (h n (by omega) 0 l (.ok [e] l3) _ rb (by omega) (hr2 _) ⟨e,rfl⟩ q1) ?_ (by rintro l2 b ⟨⟩);rintro es2 l4 ⟨⟩;obtain⟨k,s,nn,kids,ln⟩:=e;simp only[hdV,exV,Store.kC,Store.jw _ _ n4r,s4,Store.jv,ssS,ag,ae,reduceIte,af]
   cases l3 with
   |nil=>cases q2
   |cons t3 l3=>
    simp only[mP]at q2;have hr4:∀ x,((S.set rb (rdr (t3::l3))).set b4 x) rb=some (rdr (t3::l3)):=fun x=>by rw[Store.jw _ _ h4,Store.jv]
    cases hi:isS [41] t3
    ·simp only[hi,aF,if_false,au]at q2;subst q2;refine kG (vF (s:=[41]) (p:=.st (t3::l3)) (hr4 _) (by simp only[mP,hi,aF,if_false])) (by rintro es l2 ⟨⟩) ?_;rintro l2 b ⟨⟩ hb;exact nR ((hES.rd _).loc hm4 _) (hr4 _) hb
    ·simp only[hi,if_true,au]at q2;subst q2;refine kG (vF (s:=[41]) (p:=.ok [] l3) (hr4 _) (by simp only[mP,hi,if_true])) ?_ (by rintro l2 b2 ⟨⟩);rintro es l0 ⟨⟩;simp only[Store.kC,Store.jw _ _ n4r,Store.jw _ _ h24,Store.jw _ _ n2r,s2,Store.jv,ssS,ag,ae,reduceIte,af];refine qf (b:=b2) rfl (Store.jv _ _ _) (lG _) ?_;exact((((hES.rd _).loc hm4 _).rd _).loc hb2 _).ret (by rw[Store.jw _ _ h2,Store.jv])
 rw[if_neg (by rw[i5];decide),au]at hp;subst hp;refine jK (sD sr i5) ?_;simp only[ssS,ag,ae,reduceIte,af];refine kG (La (val:=hdV) sr) (by rintro es l2 ⟨⟩) ?_;rintro l2 b ⟨⟩ hb;exact nR hES sr hb
theorem Zr{Γ:jG}:∀ (n:Nat),n≤1099511627776→ExH Γ n∧UnH Γ n∧SiH Γ n:=by
 intro n
 induction n using Nat.strongRecOn with
 |ind n ih=>
  intro hn;have hk:∀ k<n,ExH Γ k∧UnH Γ k∧SiH Γ k:=fun k hk=>ih k hk (by omega);exact⟨zeO fun k h=>⟨(hk k h).1,(hk k h).2.1⟩,zaS hk,Y5 hn fun k h=>(hk k h).1⟩
end Go.Av.Fn
namespace Go.Av
section
variable {P:Program} {Γ:jG} {Kp:V→Store→Prop} {s:List (Tmp×Option (Tmp×Bool)×AOp)} {l:List Item} {K:St→Prop} {t:List V} {m:Store} {d:Option Tmp}
theorem zbB{mx:Bool}{xs:List Operand}:lL (.mm mx xs)=true:=(rfl)
theorem Lu{mx:Bool}{xs:List Operand}:jJ P (ev Γ t) m (.mm mx xs)=mmV mx (xs.map (ev Γ t)):=rfl
theorem RJ{a b:Int}:mmV true [.val (.int .i64 a),.val (.int .i64 b)]=some (.val (.int .i64 (max a b))):=by
 simp only[mmV,mmF,if_true];congr 3
 split<;>omega
end
end Go.Av
namespace Go.Av.Fn
open Go.Proofs
theorem Ak:∀ (a b:List Ex),depths (a++b)=max (depths a) (depths b)
 |[],b=>by simp[depths]
 |e::r,b=>by
  rw[aB,depths,depths,Ak r b];omega
theorem zcx{es:List Ex}{i:Nat}{e:Ex}{k s n kids l}(he:e = .mk k s n kids l)(h:es[i]? = some e):sU 5 (.sl (lS es) [] .no) (it i)=some (.elt [it k,bs s,it n,.sl (lS kids) [] .no,it l]):=by
 subst he;have:=oh (size:=5) (k:=.i64) (es:=lS es) (more:=[]) (tok:=.no) (i:=i) (e:=exV (.mk k s n kids l)) (by rw[II,List.getElem?_map,h];rfl) rfl;exact this
theorem U8{Γ:jG}:∀ (N:Nat) (e:Ex) (m:Store),lW e≤N→N≤1099511627776→jB Tryz.prog Γ 187 [exV e] m fun o m'=>o = .ret (it (qN e))∧m'=m
 |0,e,m,h,_=>by
  obtain⟨k,s,n,kids,l⟩:=e;simp only[lW]at h;omega
 |N+1,e,m,h,hN=>by
  obtain⟨k,s,n,kids,l⟩:=e;simp only[lW]at h;have hle:=CP kids;refine jB.less (A:=fun o m'=>o = .ret (it (qN (.mk k s n kids l)))∧mO m m') ?_ fun o m' h=>⟨m,h.2,h.1,rfl⟩;refine jE mixed zfN (by rintro v m b x _ ⟨⟨⟩,_⟩) ?_;simp only[zmi,exV,ss0,ay,ag];simp only[ssS,ag,ae,reduceIte,af];refine kz fun b1 hb1 => ?_;simp only[Store.jv,ssS,ag,ae,reduceIte,af]
  refine Fj (fun j st=>∃ (i:Nat),i≤kids.length∧j=kids.length-i∧mO m st.m∧st.t.length=20∧jT st.t 3=it (depths (kids.take i))∧jT st.t 7 = .sl (lS kids) [] .no∧jT st.t 8=it kids.length∧jT st.t 9=it i)
   kids.length ⟨0,bW _,rfl,(mO.refl m).out hb1 _,rfl,?_,rfl,?_,rfl⟩ ?_
  ·rw[List.take_zero];rfl
  ·show it _=_;rw[xw]
  rintro j ⟨t,S⟩ J hJ ⟨i,hi,hj,hS,hlen,t3,t7,t8,t9⟩;simp only at hS hlen t3 t7 t8 t9;rw[mJ hlen];simp only[jV,kT,ag,t3,t7,t8,t9];simp only[ssS,ag,ae,reduceIte,af];refine jR (fun hc => ?_) (fun hc => ?_)
  ·have hlt:i<kids.length:=by have:=of_decide_eq_true hc;omega
   have hget:kids[i]? = some kids[i]:=aI hlt;generalize hei:kids[i]=ei at hget;obtain⟨k2,s2,n2,kids2,l2⟩:=ei;simp only[zcx rfl hget,ld5,ssS,ag,ae,reduceIte,af];refine kz fun b5 hb5 => ?_
   have hsz:lW (.mk k2 s2 n2 kids2 l2)≤N:=by
    have:=MO (List.mem_of_getElem? hget);omega
   simp only[Store.jv,Store.kC,ssS,ag,ae,reduceIte,af];refine jK (U8 N (.mk k2 s2 n2 kids2 l2) _ hsz (by omega)) ?_;simp only[Lu,zbB,RJ,jQ (show i<4611686018427387904 by omega),ssS,ag,ae,reduceIte,af];refine hJ (kids.length-(i+1)) _ (by omega) ⟨i+1,hlt,rfl,hS.out (hS.none hb5) _,rfl,?_,rfl,rfl,rfl⟩;show it _=it _;congr 2;rw[aW,hget,Ak];simp only[Option.toList,depths];omega
  ·have hge:i=kids.length:=by have:=of_decide_eq_false hc;omega
   have hd:=yh kids;simp only[ssS,ag,ae,reduceIte,af]
   have hw:IntKind.i64.wrap ((depths (kids.take i):Int)+1)=((qN (.mk k s n kids l):Nat):Int):=by
    rw[hge,bJ,wrap_i64 (by omega) (by omega)];simp only[qN];omega
   simp only[hw,ssS,ag,ae,reduceIte,af];exact jF jD ⟨rfl,hS⟩
end Go.Av.Fn
namespace Go.Av.Fn
theorem znu:F3.body.okH []=true:=by kernel_rfl
theorem zmw:F15.body.okH []=true:=by kernel_rfl
theorem zme:F19.body.okH []=true:=by kernel_rfl
theorem zl1:F23.body.okH []=true:=by kernel_rfl
theorem zlK:F39.body.okH []=true:=by kernel_rfl
theorem zhp:F43.body.okH []=true:=by kernel_rfl
theorem zlC:F47.body.okH []=true:=by kernel_rfl
theorem zly:F51.body.okH []=true:=by kernel_rfl
theorem zlu:F55.body.okH []=true:=by kernel_rfl
theorem zlk:F79.body.okH []=true:=by kernel_rfl
theorem zle:F91.body.okH []=true:=by kernel_rfl
theorem zla:F95.body.okH []=true:=by kernel_rfl
theorem zk6:F99.body.okH []=true:=by kernel_rfl
theorem zks:zkt.body.okH []=true:=by kernel_rfl
theorem zkk:zkl.body.okH []=true:=by kernel_rfl
theorem zkf:zkg.body.okH []=true:=by kernel_rfl
theorem zkd:zke.body.okH []=true:=by kernel_rfl
theorem zj7:zj8.body.okH []=true:=by kernel_rfl
theorem zjY:zjZ.body.okH []=true:=by kernel_rfl
theorem zjQ:zjR.body.okH []=true:=by kernel_rfl
theorem zjC:zjD.body.okH []=true:=by kernel_rfl
theorem zdC:zfy.body.okH []=true:=by kernel_rfl
theorem zmL:F12.body.okH []=true:=by kernel_rfl
theorem zmp:F16.body.okH []=true:=by kernel_rfl
theorem zl6:F20.body.okH []=true:=by kernel_rfl
theorem zlN:F36.body.okH []=true:=by kernel_rfl
theorem zlI:F40.body.okH []=true:=by kernel_rfl
theorem zlF:F44.body.okH []=true:=by kernel_rfl
theorem zlB:F48.body.okH []=true:=by kernel_rfl
theorem zlx:F52.body.okH []=true:=by kernel_rfl
theorem zlt:F56.body.okH []=true:=by kernel_rfl
theorem zlo:F72.body.okH []=true:=by kernel_rfl
theorem zlm:F76.body.okH []=true:=by kernel_rfl
theorem zlj:F84.body.okH []=true:=by kernel_rfl
theorem zlg:F88.body.okH []=true:=by kernel_rfl
theorem zld:F92.body.okH []=true:=by kernel_rfl
theorem zk9:F96.body.okH []=true:=by kernel_rfl
theorem zkq:zkr.body.okH []=true:=by kernel_rfl
theorem zkj:zaL.body.okH []=true:=by kernel_rfl
theorem zj5:zj6.body.okH []=true:=by kernel_rfl
theorem zjW:zjX.body.okH []=true:=by kernel_rfl
theorem zjN:zjO.body.okH []=true:=by kernel_rfl
theorem zjH:zjI.body.okH []=true:=by kernel_rfl
theorem zjA:zjB.body.okH []=true:=by kernel_rfl
theorem zjo:zjq.body.okH []=true:=by kernel_rfl
theorem zdE:zfB.body.okH []=true:=by kernel_rfl
theorem znt:F5.body.okH []=true:=by kernel_rfl
theorem zmG:F13.body.okH []=true:=by kernel_rfl
theorem zml:F17.body.okH []=true:=by kernel_rfl
theorem zl5:F21.body.okH []=true:=by kernel_rfl
theorem zlM:F37.body.okH []=true:=by kernel_rfl
theorem zlH:F41.body.okH []=true:=by kernel_rfl
theorem zlE:F45.body.okH []=true:=by kernel_rfl
theorem zlA:F49.body.okH []=true:=by kernel_rfl
theorem zlw:F53.body.okH []=true:=by kernel_rfl
theorem zls:F57.body.okH []=true:=by kernel_rfl
theorem zlp:F65.body.okH []=true:=by kernel_rfl
theorem zll:F77.body.okH []=true:=by kernel_rfl
theorem zli:F85.body.okH []=true:=by kernel_rfl
theorem zlf:F89.body.okH []=true:=by kernel_rfl
theorem zlc:F93.body.okH []=true:=by kernel_rfl
theorem zk8:F97.body.okH []=true:=by kernel_rfl
theorem zku:zkv.body.okH []=true:=by kernel_rfl
theorem zko:zkp.body.okH []=true:=by kernel_rfl
theorem zkb:zkc.body.okH []=true:=by kernel_rfl
theorem zj3:zj4.body.okH []=true:=by kernel_rfl
theorem zjU:zjV.body.okH []=true:=by kernel_rfl
theorem zjL:zjM.body.okH []=true:=by kernel_rfl
theorem zjy:zjz.body.okH []=true:=by kernel_rfl
theorem zjs:zjt.body.okH []=true:=by kernel_rfl
theorem zjm:zjn.body.okH []=true:=by kernel_rfl
theorem zjh:zji.body.okH []=true:=by kernel_rfl
theorem zjb:zjc.body.okH []=true:=by kernel_rfl
theorem zi4:zi5.body.okH []=true:=by kernel_rfl
theorem zmA:F14.body.okH []=true:=by kernel_rfl
theorem zmg:F18.body.okH []=true:=by kernel_rfl
theorem zl2:F22.body.okH []=true:=by kernel_rfl
theorem zlL:F38.body.okH []=true:=by kernel_rfl
theorem zlG:F42.body.okH []=true:=by kernel_rfl
theorem zlD:F46.body.okH []=true:=by kernel_rfl
theorem zlz:F50.body.okH []=true:=by kernel_rfl
theorem zlv:F54.body.okH []=true:=by kernel_rfl
theorem zlr:F58.body.okH []=true:=by kernel_rfl
theorem zln:F74.body.okH []=true:=by kernel_rfl
theorem zlh:F86.body.okH []=true:=by kernel_rfl
theorem zlb:F94.body.okH []=true:=by kernel_rfl
theorem zk7:F98.body.okH []=true:=by kernel_rfl
theorem zkm:zkn.body.okH []=true:=by kernel_rfl
theorem zkh:zki.body.okH []=true:=by kernel_rfl
theorem zj9:zka.body.okH []=true:=by kernel_rfl
theorem zj0:zj1.body.okH []=true:=by kernel_rfl
theorem zjS:zjT.body.okH []=true:=by kernel_rfl
theorem zjJ:zjK.body.okH []=true:=by kernel_rfl
theorem zjE:zjF.body.okH []=true:=by kernel_rfl
theorem zju:zjv.body.okH []=true:=by kernel_rfl
theorem zjk:zjl.body.okH []=true:=by kernel_rfl
theorem zje:zjf.body.okH []=true:=by kernel_rfl
theorem zdD:zfz.body.okH []=true:=by kernel_rfl
theorem zdB:zfu.body.okH []=true:=by kernel_rfl
end Go.Av.Fn
namespace Go.Av.Fn
open Go.Proofs Go.Lib
theorem C9{n:Int}:Eh Tryz.prog 3 150 (.val (.int .i64 n))=some (.val (.int .u64 (IntKind.u64.wrap n))):=by kernel_rfl
theorem zY{n:Int}:Eh Tryz.prog 150 5 (.val (.int .u64 n))=some (.val (.int .u8 (IntKind.u8.wrap n))):=by kernel_rfl
theorem zeJ{Γ:jG}{m:Store}{n:Int}(h:I64 n):jB Tryz.prog Γ 109 [it n] m fun o m'=>o = .ret (.val (.int .u64 (zigzag n)))∧m'=m:=by
 refine jE mixed zgH (by rintro v m b x _ ⟨⟨⟩,_⟩) ?_;simp only[zmR,ss0,ay,ag];simp only[lq,C9,LD (show(0:Int)≤1 by decide),IU (show(0:Int)≤63 by decide),OH,zeK h,ssS,ag,ae,reduceIte,af];exact jF jD ⟨rfl,rfl⟩
theorem qp{Γ:jG}{m m':Store}{v:V}{l:List UInt8}(h:GR 5 1 m m' v (l.map by8)){n:Int}(hn:I64 n)(hl:l.length<1099511627776) :
  jB Tryz.prog Γ 61 [v,it n] m' fun o m2=>∃ v2,o = .ret v2∧Buf 5 1 m m2 v2 ((l++uvarint (zigzag n)).map by8):=by
 refine jE mixed ziG (by rintro v m b x _ ⟨_,⟨⟩,_⟩) ?_;simp only[F61,ss0,ay,ag];simp only[ssS,ag,ae,reduceIte,af];refine jK (zeJ hn) ?_;simp only[ssS,ag,ae,reduceIte,af];have hlen10:=uvarint_length64 (zigzag_u64 hn);refine nX (fun k st=>∃ (f:Nat) (l':List UInt8) (v':V),f=k∧f<18446744073709551616∧l'++uvarint f=l++uvarint (zigzag n)∧GR 5 1 m st.m v' (l'.map by8)∧st.t.length=23∧jT st.t 0=v'∧jT st.t 5 = .val (.int .u64 f)) (zigzag n) ⟨zigzag n,l,v,rfl,zigzag_u64 hn,rfl,h,rfl,rfl,rfl⟩ ?_;rintro k ⟨t,m1⟩ ⟨f,l',v',hk,hf,he,hB,hlen,h0,h5⟩;simp only at hB h0 h5 hlen;subst hk
 have htot:l'.length+(uvarint f).length=l.length+(uvarint (zigzag n)).length:=by
  have:=congrArg List.length he
  simpa using this
 have hp:=uvarint_pos f;rw[mJ hlen];simp only[jV,kT,ag,h0,h5];simp only[ssS,ag,ae,reduceIte,af];refine jR (fun h => ?_) (fun h => ?_)
 ·have hb:128≤f:=by have:=of_decide_eq_true h;omega
  simp only[lq,zY,Ti,zkE,YC,y7,yO,ssS,ag,ae,reduceIte,af];refine QL hB rfl (by simp[V.cells,xg]) (by simp;omega) fun m2 v2 hB2 => ?_;simp only[IU (show(0:Int)≤7 by decide),zmY,ssS,ag,ae,reduceIte,af];exact⟨f / 128,by omega,f / 128,l'++[(f%128+128).toUInt8],v2,rfl,by omega,by rw[List.append_assoc,←he,uvarint_big hb];rfl,by rw[bC];exact .inl hB2,rfl,rfl⟩
 ·have hb:f<128:=by have:=of_decide_eq_false h;omega
  simp only[lq,zY,QJ hb,y7,yO,ssS,ag,ae,reduceIte,af];refine QL hB rfl (by simp[V.cells,xg]) (by simp;omega) fun m2 v2 hB2 => ?_;simp only[ssS,ag,ae,reduceIte,af];refine jF jD ⟨v2,rfl,?_⟩;rw[←he,uvarint_small hb,bC];exact hB2
theorem yt{n:Int}:Eh Tryz.prog 150 3 (.val (.int .u64 n))=some (.val (.int .i64 (IntKind.i64.wrap n))):=by kernel_rfl
theorem Eg{n:Int}:Eh Tryz.prog 5 150 (.val (.int .u8 n))=some (.val (.int .u64 (IntKind.u64.wrap n))):=by kernel_rfl
theorem Ey{Γ:jG}{m:Store}{u:Nat}(h:u<18446744073709551616):jB Tryz.prog Γ 149 [.val (.int .u64 u)] m fun o m'=>o = .ret (it (unzigzag u))∧m'=m:=by
 refine jE mixed zgb (by rintro v m b x _ ⟨⟨⟩,_⟩) ?_;simp only[zmB,ss0,ay,ag];simp only[lq,yt,IU (show(0:Int)≤1 by decide),IV,OH,YW h,ssT,ag,ae,reduceIte,af];exact jF jD ⟨rfl,rfl⟩
theorem L6{Γ:jG}{m:Store}(s:List UInt8)(hl:s.length<4611686018427387904) :
  jB Tryz.prog Γ 128 [bs s] m fun o m'=>o = .ret (.tup [it (numL s).1,it (numL s).2.1,it (numL s).2.2])∧m'=m:=by
 refine jE mixed zgv (by rintro v m b x _ ⟨⟨⟩,_⟩) ?_;simp only[zmM,ss0,ay,ag];simp only[ssS,ag,ae,reduceIte,af];refine nX (fun k st=>∃ (i f:Nat),k=10-i∧i≤9∧f<2^(7*i)∧i≤s.length∧numGo i f (s.drop i)=numL s∧st.m=m∧st.t.length=46∧jT st.t 0=bs s∧jT st.t 5 = .val (.int .u64 f)∧jT st.t 8=it i) 10 ⟨0,0,rfl,by omega,by decide,bW _,rfl,rfl,rfl,rfl,rfl,rfl⟩ ?_;rintro k ⟨t,m1⟩ ⟨i,f,hk,hi,hf,hil,hgo,hm,hlen,g0,g5,g8⟩;simp only at hm g0 g5 g8 hlen;subst hm;rw[mJ hlen];simp only[jV,kT,ag,g0,g5,g8];simp only[show decide ((i:Int)<10)=true from decide_eq_true (by omega),ssS,ag,ae,reduceIte,af];refine jR (fun h => ?_) (fun h => ?_)
 ·have he:i=s.length:=by
   have:((i:Int)==(s.length:Int))=true:=h;have:=eq_of_beq this;omega
  simp only[ssS,ag,ae,reduceIte,af];refine jF kJ ⟨?_,rfl⟩;simp only[jH,jI];rw[←hgo,List.drop_eq_nil_of_le (by omega)];rfl
 ·have hlt:i<s.length:=by
   have:((i:Int)==(s.length:Int))=false:=h;have:(i:Int)≠s.length:=by simpa using this
   omega
  obtain⟨c,hcs⟩:∃ c,s[i]=c:=⟨_,rfl⟩;have hx:s[i]? = some c:=by rw[aI hlt,hcs]
  have hdrop:s.drop i=c::s.drop (i+1):=by rw[bF hlt,hcs]
  have hc:c.toNat<256:=c.toNat_lt
  have hw7:IntKind.i64.wrap (7*(i:Int))=((7*i:Nat):Int):=by
   rw[wrap_i64 (by omega) (by omega)];omega
  have hw127:IntKind.u64.wrap ((c.toNat%128:Nat):Int)=((c.toNat%128:Nat):Int):=by
   rw[IntKind.wrap_u64];omega
  simp only[nG hx,ssS,ag,ae,reduceIte,af]
  by_cases h9:i=9
  ·have e9:((i:Int)==9)=true:=by simpa using congrArg (Nat.cast (R:=Int)) h9
   simp only[e9,ssS,ag,ae,reduceIte,af];refine jR (fun h => ?_) (fun h => ?_)
   ·have hc1:c.toNat≠1:=by
     have:((c.toNat:Int) != 1)=true:=h;intro e;rw[e]at this;simp at this
    simp only[ssS,ag,ae,reduceIte,af];refine jF kJ ⟨?_,rfl⟩;simp only[jH,jI];rw[←hgo,hdrop];simp only[numGo];rw[if_pos ⟨h9,hc1⟩];rfl
   have hc9:i=9→c.toNat=1:=by
    intro _;have:((c.toNat:Int) != 1)=false:=h;have:(c.toNat:Int)=1:=by simpa using this
    omega
   simp only[IV,zds hc,lq,Eg,hw127,yx,hw7,LD (show(0:Int)≤((7*i:Nat):Int)from Int.natCast_nonneg _),num_shl hi hc hc9,Ti,zbW hi hc hc9 hf,yw,zdr hc,ssT,ag,ae,reduceIte,af];refine jR (fun h => ?_) (fun h => ?_)
   ·have h128:128≤c.toNat:=of_decide_eq_true h;simp only[jQ (show i<4611686018427387904 by omega),ssS,ag,ae,reduceIte,af];refine⟨10-(i+1),by omega,i+1,f+c.toNat%128*2^(7*i),rfl,by omega,(num_lt hi hc hc9 hf).2 (by omega),by omega,?_,rfl,rfl⟩;rw[←hgo,hdrop];simp only[numGo];rw[if_neg (by omega),if_pos h128]
   ·have h128:¬ 128≤c.toNat:=of_decide_eq_false h;simp only[wW,ssS,ag,ae,reduceIte,af]
    by_cases hc0:c.toNat=0
    ·have hb0:((c.toNat:Int)==0)=true:=by rw[hc0];rfl
     simp only[hb0,ssS,ag,ae,reduceIte,af];refine jR (fun h1 => ?_) (fun h1 => ?_)
     ·have hi0:0<i:=by have:=of_decide_eq_true h1;omega
      simp only[ssS,ag,ae,reduceIte,af];refine jF kJ ⟨?_,rfl⟩;simp only[jH,jI];rw[←hgo,hdrop];simp only[numGo];rw[if_neg (by omega),if_neg h128,if_pos ⟨hc0,hi0⟩];rfl
     ·have hi0:i=0:=by have:=of_decide_eq_false h1;omega
      simp only[ssS,ag,ae,reduceIte,af];refine jK (Ey (num_lt hi hc hc9 hf).1) ?_;simp only[jQ (show i<4611686018427387904 by omega),ssS,ag,ae,reduceIte,af];refine jF kJ ⟨?_,rfl⟩;simp only[jH,jI];rw[←hgo,hdrop];simp only[numGo];rw[if_neg (by omega),if_neg h128,if_neg (by omega)]
    ·have hb0:((c.toNat:Int)==0)=false:=by
      have:(c.toNat:Int)≠0:=by omega
      simpa using this
     simp only[hb0,ssS,ag,ae,reduceIte,af];refine jK (Ey (num_lt hi hc hc9 hf).1) ?_;simp only[jQ (show i<4611686018427387904 by omega),ssS,ag,ae,reduceIte,af];refine jF kJ ⟨?_,rfl⟩;simp only[jH,jI];rw[←hgo,hdrop];simp only[numGo];rw[if_neg (by omega),if_neg h128,if_neg (by omega)]
  ·have e9:((i:Int)==9)=false:=by
    have:(i:Int)≠9:=by omega
    simpa using this
   have hc9:i=9→c.toNat=1:=fun e=>absurd e h9;simp only[e9,IV,zds hc,lq,Eg,hw127,yx,hw7,LD (show(0:Int)≤((7*i:Nat):Int)from Int.natCast_nonneg _),num_shl hi hc hc9,Ti,zbW hi hc hc9 hf,yw,zdr hc,ssT,ag,ae,reduceIte,af];refine jR (fun h => ?_) (fun h => ?_)
   ·have h128:128≤c.toNat:=of_decide_eq_true h;simp only[jQ (show i<4611686018427387904 by omega),ssS,ag,ae,reduceIte,af];refine⟨10-(i+1),by omega,i+1,f+c.toNat%128*2^(7*i),rfl,by omega,(num_lt hi hc hc9 hf).2 (by omega),by omega,?_,rfl,rfl⟩;rw[←hgo,hdrop];simp only[numGo];rw[if_neg (by omega),if_pos h128]
   ·have h128:¬ 128≤c.toNat:=of_decide_eq_false h;simp only[wW,ssS,ag,ae,reduceIte,af]
    by_cases hc0:c.toNat=0
    ·have hb0:((c.toNat:Int)==0)=true:=by rw[hc0];rfl
     simp only[hb0,ssS,ag,ae,reduceIte,af];refine jR (fun h1 => ?_) (fun h1 => ?_)
     ·have hi0:0<i:=by have:=of_decide_eq_true h1;omega
      simp only[ssS,ag,ae,reduceIte,af];refine jF kJ ⟨?_,rfl⟩;simp only[jH,jI];rw[←hgo,hdrop];simp only[numGo];rw[if_neg (by omega),if_neg h128,if_pos ⟨hc0,hi0⟩];rfl
     ·have hi0:i=0:=by have:=of_decide_eq_false h1;omega
      simp only[ssS,ag,ae,reduceIte,af];refine jK (Ey (num_lt hi hc hc9 hf).1) ?_;simp only[jQ (show i<4611686018427387904 by omega),ssS,ag,ae,reduceIte,af];refine jF kJ ⟨?_,rfl⟩;simp only[jH,jI];rw[←hgo,hdrop];simp only[numGo];rw[if_neg (by omega),if_neg h128,if_neg (by omega)]
    ·have hb0:((c.toNat:Int)==0)=false:=by
      have:(c.toNat:Int)≠0:=by omega
      simpa using this
     simp only[hb0,ssS,ag,ae,reduceIte,af];refine jK (Ey (num_lt hi hc hc9 hf).1) ?_;simp only[jQ (show i<4611686018427387904 by omega),ssS,ag,ae,reduceIte,af];refine jF kJ ⟨?_,rfl⟩;simp only[jH,jI];rw[←hgo,hdrop];simp only[numGo];rw[if_neg (by omega),if_neg h128,if_neg (by omega)]
end Go.Av.Fn
namespace Go.Av.Fn
open Go.Proofs
def dig(b:UInt8):Bool:=decide (48≤b.toNat)&&decide (b.toNat≤57)
def xn(b:UInt8):Bool:=(decide (97≤b.toNat)&&decide (b.toNat≤122))||(decide (65≤b.toNat)&&decide (b.toNat≤90))||b.toNat==95
def l9(b:UInt8):Bool:=xn b||dig b
theorem zbI:∀ n:Nat,n<256→((decide (IntKind.u8.wrap ((BitVec.ofInt IntKind.u8.bits (n:Int) ||| BitVec.ofInt IntKind.u8.bits 32).toNat:Int)≥97)&&decide (IntKind.u8.wrap ((BitVec.ofInt IntKind.u8.bits (n:Int) ||| BitVec.ofInt IntKind.u8.bits 32).toNat:Int)≤122))||(n:Int)==95)
  = ((decide (97≤n)&&decide (n≤122))||(decide (65≤n)&&decide (n≤90))||n==95):=by decide +kernel
section
variable {Γ:jG} {m:Store}
theorem digit_ok(b:UInt8):jB Tryz.prog Γ 164 [by8 b] m fun o m'=>o = .ret (.val (.bool (dig b)))∧m'=m:=by
 refine jE mixed zf0 (by rintro v m b x _ ⟨⟨⟩,_⟩) ?_;simp only[zmt,ss0,ay,ag];simp only[ssS,ag,ae,reduceIte,af];refine l7 (fun h => ?_) (fun h => ?_)<;>simp only[h,ssS,ag,ae,reduceIte,af]
 all_goals refine jF jD ⟨?_,rfl⟩
 all_goals simp only[jH,jI,dig]
 ·have h:48≤b.toNat:=by have:=of_decide_eq_true h;omega
  have e:decide ((b.toNat:Int)≤57)=decide (b.toNat≤57):=by rw[decide_eq_decide];omega
  rw[e];simp[h]
 ·have h:¬ 48≤b.toNat:=by have:=of_decide_eq_false h;omega
  simp[h]
theorem zS(b:UInt8):jB Tryz.prog Γ 139 [by8 b] m fun o m'=>o = .ret (.val (.bool (dig b)))∧m'=m:=by
 refine jE mixed zgk (by rintro v m b x _ ⟨⟨⟩,_⟩) ?_;simp only[zmH,ss0,ay,ag];simp only[ssS,ag,ae,reduceIte,af];refine l7 (fun h => ?_) (fun h => ?_)<;>simp only[h,ssS,ag,ae,reduceIte,af]
 all_goals refine jF jD ⟨?_,rfl⟩
 all_goals simp only[jH,jI,dig]
 ·have h:48≤b.toNat:=by have:=of_decide_eq_true h;omega
  have e:decide ((b.toNat:Int)≤57)=decide (b.toNat≤57):=by rw[decide_eq_decide];omega
  rw[e];simp[h]
 ·have h:¬ 48≤b.toNat:=by have:=of_decide_eq_false h;omega
  simp[h]
theorem JD(b:UInt8):jB Tryz.prog Γ 167 [by8 b] m fun o m'=>o = .ret (.val (.bool (xn b)))∧m'=m:=by
 refine jE mixed zfX (by rintro v m b x _ ⟨⟨⟩,_⟩) ?_;have key:xn b=_:=(zbI b.toNat (by have:=b.toNat_lt;omega)).symm;simp only[zmr,ss0,ay,ag];simp only[ssS,ag,ae,reduceIte,af];refine l7 (fun h => ?_) (fun h => ?_)<;>simp only[h,ssS,ag,ae,reduceIte,af]
 ·refine l7 (fun h2 => ?_) (fun h2 => ?_)<;>simp only[h2,ssS,ag,ae,reduceIte,af]
  all_goals refine jF jD ⟨?_,rfl⟩
  all_goals simp only[jH,jI]
  all_goals rw[key,h,h2]
  all_goals rfl
 ·refine jF jD ⟨?_,rfl⟩;simp only[jH,jI];rw[key,h];rfl
theorem xX(b:UInt8):jB Tryz.prog Γ 137 [by8 b] m fun o m'=>o = .ret (.val (.bool (xn b)))∧m'=m:=by
 refine jE mixed zgm (by rintro v m b x _ ⟨⟨⟩,_⟩) ?_;simp only[zmJ,ss0,ay,ag];simp only[ssS,ag,ae,reduceIte,af]
 repeat' (refine l7 (fun h => ?_) (fun h => ?_)<;>simp only[h,ssS,ag,ae,reduceIte,af])
 all_goals refine jF jD ⟨?_,rfl⟩
 all_goals simp only[jH,jI,xn]
 all_goals congr 3
 all_goals rw[bQ]
 all_goals simp only[cZ,aG,decide_eq_true_eq,decide_eq_false_iff_not,beq_iff_eq,true_iff]at *
 all_goals omega
theorem zbX(b:UInt8):jB Tryz.prog Γ 260 [by8 b] m fun o m'=>o = .ret (.val (.bool (b.toNat != 10)))∧m'=m:=by
 refine jE mixed zfm (by rintro v m b x _ ⟨⟨⟩,_⟩) ?_;simp only[zlT,ss0,ay,ag];simp only[ssS,ag,ae,reduceIte,af];refine jF jD ⟨?_,rfl⟩;simp only[jH,jI];congr 3;rw[bQ];simp;omega
theorem zdt(b:UInt8):jB Tryz.prog Γ 261 [by8 b] m fun o m'=>o = .ret (.val (.bool (l9 b)))∧m'=m:=by
 refine jE mixed zfl (by rintro v m b x _ ⟨⟨⟩,_⟩) ?_;simp only[zlS,ss0,ay,ag];simp only[ssS,ag,ae,reduceIte,af];refine jK (JD b) ?_;simp only[ssS,ag,ae,reduceIte,af];refine l7 (fun h => ?_) (fun h => ?_)<;>simp only[h,ssS,ag,ae,reduceIte,af]
 ·refine jF jD ⟨?_,rfl⟩;simp only[jH,jI,l9,h,iQ]
 ·refine jK (digit_ok b) ?_;simp only[ssS,ag,ae,reduceIte,af];refine jF jD ⟨?_,rfl⟩;simp only[jH,jI,l9,h,Bool.false_or]
end
def lw:List (List UInt8):=[[102,110],[114,101,99,111,114,100],[108,101,116],[105,102],[101,108,115,101],[119,104,105,108,101],[114,101,116,117,114,110],[110,101,119],[116,114,117,101],[102,97,108,115,101]]
def kV:List (List UInt8):=[[61,61],[33,61],[60,61],[62,61],[38,38],[124,124],[40],[41],[123],[125],[91],[93],[44],[58],[59],[46],[61],[60],[62],[43],[45],[42],[47],[37],[33]]
theorem Sm{Γ:jG}{m:Store}(s p:List UInt8):jB Tryz.prog Γ 179 [bs s,bs p] m fun o m'=>o = .ret (.val (.bool (p.isPrefixOf s)))∧m'=m:=by
 refine jE mixed zfQ (by rintro v m b x _ ⟨⟨⟩,_⟩) ?_;simp only[zmm,ss0,ay,ag];simp only[ssS,ag,ae,reduceIte,af];refine l7 (fun h => ?_) (fun h => ?_)<;>simp only[h,ssS,ag,ae,reduceIte,af]
 ·have hl:p.length≤s.length:=by have:=of_decide_eq_true h;omega
  simp only[FZ hl,ssS,ag,ae,reduceIte,af];refine jF jD ⟨?_,rfl⟩;simp only[jH,jI];congr 3;rw[bQ];simp only[beq_iff_eq,eF];rw[iH,eq_comm]
 ·refine jF jD ⟨?_,rfl⟩;simp only[jH,jI];have hl:¬ p.length≤s.length:=by have:=of_decide_eq_false h;omega
  congr 3;rw[bQ];simp only[eF];constructor
  ·intro h;cases h
  ·intro h;exact absurd h.length_le hl
theorem qU{Γ:jG}{m:Store}(s p:List UInt8):jB Tryz.prog Γ 168 [bs s,bs p] m fun o m'=>o = .ret (.val (.bool (p.isPrefixOf s)))∧m'=m:=by
 refine jE mixed zfW (by rintro v m b x _ ⟨⟨⟩,_⟩) ?_;simp only[zmq,ss0,ay,ag];simp only[ssS,ag,ae,reduceIte,af];refine jK (Sm s p) ?_;simp only[ssS,ag,ae,reduceIte,af];refine jF jD ⟨?_,rfl⟩;simp only[jH,jI]
theorem zkP{Γ:jG}(l:List (List UInt8))(s:List UInt8)(more:List V)(tok:Tok)(m:Store)(hl:l.length<2^62):jB Tryz.prog Γ 160 [.sl (l.map bs) more tok,bs s] m fun o m'=>o = .ret (.val (.bool (l.contains s)))∧m'=m:=by
 refine jE mixed zf3 (by rintro v m b x _ ⟨⟨⟩,_⟩) ?_;simp only[zmv,ss0,ay,ag];simp only[ssS,ag,ae,reduceIte,af];refine nX (fun n st=>∃ i:Nat,n=l.length-i∧i≤l.length∧(∀ x∈l.take i,x≠s)∧st.m=m∧st.t.length=18∧jT st.t 0 = .sl (l.map bs) more tok∧jT st.t 1=bs s∧jT st.t 5=it i) l.length ⟨0,rfl,bW _,by simp,rfl,rfl,rfl,rfl,rfl⟩ ?_;rintro n ⟨t,m1⟩ ⟨i,hn,hi,hpre,hm,hlen,h0,h1,h5⟩;simp only at hm h0 h1 h5 hlen;subst hm;rw[mJ hlen];simp only[jV,kT,ag,h0,h1,h5];simp only[ssS,ag,ae,reduceIte,af];refine jR (fun h => ?_) (fun h => ?_)
 ·have hlt:i<l.length:=by simpa using h
  have hx:sU 1 (.sl (l.map bs) more tok) (it i)=some (.elt [bs l[i]]):=oh (e:=bs l[i]) (by simp[hlt]) rfl
  have hw:IntKind.i64.wrap ((i:Int)+1)=((i+1:Nat):Int):=by
   rw[wrap_i64 (by omega) (by omega)];rfl
  simp only[hx,ssS,ag,ae,reduceIte,af];refine jR (fun h => ?_) (fun h => ?_)
  ·simp only[ssS,ag,ae,reduceIte,af];have:l[i]=s:=by simpa using h
   refine jF jD ⟨?_,rfl⟩;simp only[jH,jI];rw[List.contains_iff_mem.2 (by rw[←this];exact dS _)]
  ·simp only[hw,ssS,ag,ae,reduceIte,af];refine⟨l.length-(i+1),by omega,i+1,rfl,hlt,?_,rfl⟩;intro x hx;rw[aW]at hx
   rcases List.mem_append.1 hx with hx|hx
   ·exact hpre x hx
   ·simp only[aI hlt,dO,cO]at hx;subst hx
    simpa using h
 ·have hge:i=l.length:=by
   have:¬ i<l.length:=by simpa using h
   omega
  simp only[ssS,ag,ae,reduceIte,af];refine jF jD ⟨?_,rfl⟩;simp only[jH,jI];rw[hge,bJ]at hpre
  have:l.contains s=false:=by
   simp only[gW,decide_eq_false_iff_not];exact fun hm=>hpre s hm rfl
  rw[this]
theorem YJ{Γ:jG}{m:Store}(hΓ:Γ 1=some (lw.map bs))(s:List UInt8):jB Tryz.prog Γ 155 [bs s] m fun o m'=>o = .ret (.val (.bool (lw.contains s)))∧m'=m:=by
 refine jE mixed zf5 (by rintro v m b x _ ⟨⟨⟩,_⟩) ?_;simp only[zmy,ss0,ay,ag];simp only[ssS,ag,ae,reduceIte,af];have hlen10:lw.length=10:=rfl;refine nX (fun n st=>∃ i:Nat,n=10-i∧i≤10∧(∀ x∈lw.take i,x≠s)∧st.m=m∧st.t.length=13∧jT st.t 0=bs s∧jT st.t 4=it i) 10 ⟨0,rfl,bW _,by simp,rfl,rfl,rfl,rfl⟩ ?_;rintro n ⟨t,m1⟩ ⟨i,hn,hi,hpre,hm,hlen,h0,h4⟩;simp only at hm h0 h4 hlen;subst hm;rw[mJ hlen];simp only[jV,kT,ag,h0,h4];simp only[ssS,ag,ae,reduceIte,af];refine jR (fun h => ?_) (fun h => ?_)
 ·have hlt:i<10:=by have:=of_decide_eq_true h;omega
  have hlt':i<lw.length:=hlt
  have hx:Ea m1 none (.elt ((lw.map bs).drop (i*1)))=some (bs (lw[i]'hlt')):=by
   rw[NM];simp[hlt']
  simp only[JG hΓ,N8 hlt,hx,jQ (show i<4611686018427387904 by omega),ssS,ag,ae,reduceIte,af];refine jR (fun h => ?_) (fun h => ?_)
  ·simp only[ssS,ag,ae,reduceIte,af];have:lw[i]'hlt'=s:=by simpa using h
   refine jF jD ⟨?_,rfl⟩;simp only[jH,jI];rw[List.contains_iff_mem.2 (by rw[←this];exact dS _)]
  ·simp only[jQ (show i<4611686018427387904 by omega),ssS,ag,ae,reduceIte,af];refine⟨10-(i+1),by omega,i+1,rfl,hlt,?_,rfl⟩;intro x hx;rw[aW]at hx
   rcases List.mem_append.1 hx with hx|hx
   ·exact hpre x hx
   ·simp only[aI hlt',dO,cO]at hx;subst hx
    simpa using h
 ·have hge:i=10:=by have:=of_decide_eq_false h;omega
  simp only[ssS,ag,ae,reduceIte,af];refine jF jD ⟨?_,rfl⟩;simp only[jH,jI];rw[hge,show 10=lw.length from rfl,bJ]at hpre
  have:lw.contains s=false:=by
   simp only[gW,decide_eq_false_iff_not];exact fun hm=>hpre s hm rfl
  rw[this]
def Q8(s:List UInt8):List UInt8:=(kV.find? fun p=>p.isPrefixOf s).getD []
theorem zdV{Γ:jG}{m:Store}(hΓ:Γ 0=some (kV.map bs))(s:List UInt8):jB Tryz.prog Γ 154 [bs s] m fun o m'=>o = .ret (bs (Q8 s))∧m'=m:=by
 refine jE mixed zf6 (by rintro v m b x _ ⟨⟨⟩,_⟩) ?_;simp only[zmz,ss0,ay,ag];simp only[ssS,ag,ae,reduceIte,af];have hlen25:kV.length=25:=rfl;refine nX (fun n st=>∃ i:Nat,n=25-i∧i≤25∧(∀ x∈kV.take i,x.isPrefixOf s=false)∧st.m=m∧st.t.length=16∧jT st.t 0=bs s∧jT st.t 4=it i) 25 ⟨0,rfl,bW _,by simp,rfl,rfl,rfl,rfl⟩ ?_;rintro n ⟨t,m1⟩ ⟨i,hn,hi,hpre,hm,hlen,h0,h4⟩;simp only at hm h0 h4 hlen;subst hm;rw[mJ hlen];simp only[jV,kT,ag,h0,h4];simp only[ssS,ag,ae,reduceIte,af];refine jR (fun h => ?_) (fun h => ?_)
 ·have hlt:i<25:=by have:=of_decide_eq_true h;omega
  have hlt':i<kV.length:=hlt
  have hx:Ea m1 none (.elt ((kV.map bs).drop (i*1)))=some (bs (kV[i]'hlt')):=by
   rw[NM];simp[hlt']
  simp only[JG hΓ,N8 hlt,hx,ssS,ag,ae,reduceIte,af];refine jK (qU _ _) ?_;simp only[ssS,ag,ae,reduceIte,af];refine jR (fun h => ?_) (fun h => ?_)
  ·simp only[JG hΓ,N8 hlt,hx,ssS,ag,ae,reduceIte,af];refine jF jD ⟨?_,rfl⟩;simp only[jH,jI];unfold Q8
   have:kV.find? (fun p=>p.isPrefixOf s)=some (kV[i]'hlt'):=by
    rw[gu];refine⟨h,i,hlt',rfl,fun j hj => ?_⟩;have:=hpre (kV[j]'(by omega)) (List.mem_take_iff_getElem.2 ⟨j,by omega,rfl⟩);simp[this]
   rw[this];rfl
  ·simp only[jQ (show i<4611686018427387904 by omega),ssS,ag,ae,reduceIte,af];refine⟨25-(i+1),by omega,i+1,rfl,hlt,?_,rfl⟩;intro x hx;rw[aW]at hx
   rcases List.mem_append.1 hx with hx|hx
   ·exact hpre x hx
   ·simp only[aI hlt',dO,cO]at hx;subst hx;exact h
 ·have hge:i=25:=by have:=of_decide_eq_false h;omega
  simp only[ssS,ag,ae,reduceIte,af];refine jF jD ⟨?_,rfl⟩;simp only[jH,jI];rw[hge,show 25=kV.length from rfl,bJ]at hpre;unfold Q8
  have:kV.find? (fun p=>p.isPrefixOf s)=none:=by
   rw[List.find?_eq_none];intro x hx;simp[hpre x hx]
  rw[this];rfl
theorem zdv{Γ:jG}{m:Store}:jB Tryz.prog Γ 161 [] m fun o m'=>o = .ret (.sl (lw.map bs) [] .full)∧m'=m:=by
 refine jE mixed zf2 (by rintro v m b x _ ⟨⟨⟩,_⟩) ?_;simp only[zmu,ss0,ay,ag];simp only[ssS,ag,ae,reduceIte,af];generalize he:jJ _ _ _ _=r
 have hr:r=some (V.sl (lw.map bs) [] .full):=by
  rw[←he]
  kernel_rfl
 rw[hr];simp only[ssS,ag,ae,reduceIte,af];exact jF jD ⟨rfl,rfl⟩
theorem zdw{Γ:jG}{m:Store}:jB Tryz.prog Γ 207 [] m fun o m'=>o = .ret (.sl (kV.map bs) [] .full)∧m'=m:=by
 refine jE mixed zfC (by rintro v m b x _ ⟨⟨⟩,_⟩) ?_;simp only[zl7,ss0,ay,ag];simp only[ssS,ag,ae,reduceIte,af];generalize he:jJ _ _ _ _=r
 have hr:r=some (V.sl (kV.map bs) [] .full):=by
  rw[←he]
  kernel_rfl
 rw[hr];simp only[ssS,ag,ae,reduceIte,af];exact jF jD ⟨rfl,rfl⟩
theorem Nj{Γ:jG}{m:Store}(s:List UInt8):jB Tryz.prog Γ 138 [bs s] m fun o m'=>o = .ret (.val (.bool (lw.contains s)))∧m'=m:=by
 refine jE mixed zgl (by rintro v m b x _ ⟨⟨⟩,_⟩) ?_;simp only[zmI,ss0,ay,ag];simp only[ssS,ag,ae,reduceIte,af];refine jK zdv ?_;simp only[ssS,ag,ae,reduceIte,af];refine jK (zkP lw s [] .full _ (by decide)) ?_;simp only[ssS,ag,ae,reduceIte,af];exact jF jD ⟨rfl,rfl⟩
theorem nK{p:UInt8→Bool}:∀ {s:List UInt8} {i:Nat},(∀ x∈s.take i,p x=true)→i≤s.length→(∀ b,s[i]? = some b→p b=false)→(s.takeWhile p).length=i
 |[],i,_,h,_=>by simp at h;simp[h]
 |a::s,0,_,_,h=>by
  have:=h a rfl;simp[List.takeWhile,this]
 |a::s,i+1,h1,h2,h3=>by
  have ha:p a=true:=h1 a (by simp);rw[bP ha,ax,nK (i:=i) (fun x hx=>h1 x (by simp[hx])) (by simpa using h2) (fun b hb=>h3 b (by simpa using hb))]
theorem Rj{Γ:jG}{m:Store}{g:FuncId}{caps:List V}{p:UInt8→Bool}(s:List UInt8)(hs:s.length<4611686018427387904)(hp:∀ b,jB Tryz.prog Γ g ([]++[by8 b]++caps) m fun o m'=>o = .ret (.val (.bool (p b)))∧m'=m) :
  jB Tryz.prog Γ 165 [bs s,.fn (.func g) [] caps] m fun o m'=>o = .ret (it (s.takeWhile p).length)∧m'=m:=by
 refine jE mixed zfZ (by rintro v m b x _ ⟨⟨⟩,_⟩) ?_;simp only[zms,ss0,ay,ag];simp only[ssS,ag,ae,reduceIte,af];refine nX (fun n st=>∃ i:Nat,n=s.length-i∧i≤s.length∧(∀ x∈s.take i,p x=true)∧st.m=m∧st.t.length=20∧jT st.t 0=bs s∧jT st.t 1 = .fn (.func g) [] caps∧jT st.t 5=it i) s.length ⟨0,rfl,bW _,by simp,rfl,rfl,rfl,rfl,rfl⟩ ?_;rintro n ⟨t,m1⟩ ⟨i,hn,hi,hpre,hm,hlen,h0,h1,h5⟩;simp only at hm h0 h1 h5 hlen;subst hm;rw[mJ hlen];simp only[jV,kT,ag,h0,h1,h5];simp only[ssS,ag,ae,reduceIte,af];refine l7 (fun h => ?_) (fun h => ?_)
 ·have hlt:i<s.length:=by have:=of_decide_eq_true h;omega
  have hx:s[i]? = some s[i]:=by simp[hlt]
  simp only[h,nG hx,ssS,ag,ae,reduceIte,af];refine jK (hp _) ?_;simp only[ssS,ag,ae,reduceIte,af];refine jR (fun h2 => ?_) (fun h2 => ?_)
  ·simp only[jQ (show i<4611686018427387904 by omega),ssS,ag,ae,reduceIte,af];refine⟨s.length-(i+1),by omega,i+1,rfl,hlt,?_,rfl⟩;intro x hx;rw[aW]at hx
   rcases List.mem_append.1 hx with hx|hx
   ·exact hpre x hx
   ·simp only[aI hlt,dO,cO]at hx;subst hx;exact h2
  ·simp only[ssS,ag,ae,reduceIte,af];refine jF jD ⟨?_,rfl⟩;simp only[jH,jI];rw[nK hpre hi (fun b hb=>by rw[hx]at hb;cases hb;exact h2)]
 ·have hge:¬ i<s.length:=by have:=of_decide_eq_false h;omega
  simp only[h,ssS,ag,ae,reduceIte,af];refine jF jD ⟨?_,rfl⟩;simp only[jH,jI];rw[nK hpre hi (fun b hb=>by rw[dh (by omega)]at hb;cases hb)]
def RN(b:Nat)(p:V):Prop:=p = .val (.pointer none)∨p = .ptr b 0
def N7(s:List UInt8)(c:UInt8):Int:=match s.findIdx? (· == c)with
 |some i=>i
 |none => -1
structure xG (Γ:jG):Prop where
 clone:∀ (m:Store) (s:List UInt8),s.length≤281474976710656→jB Tryz.prog Γ 163 [bs s] m fun o m'=>o = .ret (bs s)∧m'=m
 copyCheck:∀ (m:Store) (b:Nat) (p u:V),m b=some (.var 369 [p,u])→RN b p→jB Tryz.prog Γ 284 [.ptr b 0] m fun o m'=>o = .ret (.tup [])∧m'=m.set b (.var 369 [.ptr b 0,u])
 string:∀ (m:Store) (b:Nat) (p u:V) (l:List UInt8),m b=some (.var 369 [p,u])→l.length≤4096→((l=[]∧u = .sl [] [] .full)∨(l≠[]∧∃ t k,m t=some (.tip 5 k)∧u = .sl (l.map by8) [] (.tip t k))) →
  jB Tryz.prog Γ 274 [.ptr b 0] m fun o m'=>o = .ret (bs l)∧∀ c x,m c=some x→(∀ l2 k,u ≠ .sl l2 [] (.tip c k))→m' c=some x
 indexByte:∀ (m:Store) (s:List UInt8) (c:UInt8),s.length≤4096→jB Tryz.prog Γ 275 [bs s,by8 c] m fun o m'=>o = .ret (it (N7 s c))∧m'=m
section
variable {Γ:jG} {m:Store} (L:xG Γ)
include L
theorem Ox(s:List UInt8)(hs:s.length≤281474976710656):jB Tryz.prog Γ 147 [bs s] m fun o m'=>o = .ret (bs s)∧m'=m:=by
 refine jE mixed zgd (by rintro v m b x _ ⟨⟨⟩,_⟩) ?_;simp only[zmC,ss0,ay,ag];simp only[ssS,ag,ae,reduceIte,af];refine jK (L.clone _ s hs) ?_;simp only[ssS,ag,ae,reduceIte,af];exact jF jD ⟨rfl,rfl⟩
def zL(s:List UInt8):List V:=[it (if lw.contains s then 5 else 1),bs s,it 0,it 0,it 0]
def pY(s:List UInt8)(e:Int):Int:=if lw.contains s then e else if s.length>20 then 5 else e
theorem zdK(hΓ:Γ 1=some (lw.map bs)){xb:Nat}{T:TypeId}{a0 a1 a2:V}{e:Int}(s:List UInt8)(hs:s.length≤281474976710656)(hx:m xb=some (.var T [a0,a1,a2,it e])) :
  jB Tryz.prog Γ 262 [.ptr xb 0,bs s] m fun o m'=>o = .ret (.agg (zL s))∧m'=m.set xb (.var T [a0,a1,a2,it (pY s e)]):=by
 refine jE mixed zfk (by rintro v m b x _ ⟨⟨⟩,_⟩) ?_;simp only[zlR,ss0,ay,ag];simp only[ssS,ag,ae,reduceIte,af];refine kz fun b hb => ?_
 have hne:xb≠b:=by
  rintro rfl;rw[hx]at hb;cases hb
 have hn:∀ m' x,(Store.set m' b x) xb=m' xb:=fun m' x=>Store.jw m' x hne;have hn2:∀ m' x,(Store.set m' xb x) b=m' b:=fun m' x=>Store.jw m' x hne.symm;simp only[ssS,ag,ae,reduceIte,af];refine jK (YJ hΓ s) ?_;simp only[ssS,ag,ae,reduceIte,af];refine jR (fun h => ?_) (fun h => ?_)
 ·simp only[Store.jv,ssS,ag,ae,reduceIte,af];refine mD (v:=.agg (zL s)) (m':=m.set xb (.var T [a0,a1,a2,it (pY s e)])) ?_ ?_ ⟨rfl,rfl⟩
  ·rw[wo (b:=b) rfl (Store.jv _ _ _)];unfold zL;rw[h];rfl
  ·refine BJ (b:=b) (by rw[hn2,hb]) (fun c hc => ?_);have:pY s e=e:=by simp only[pY,h,if_true]
   rw[this,Store.sZ m hx];simp[Store.set,hc]
 ·simp only[ssS,ag,ae,reduceIte,af];refine jR (fun h2 => ?_) (fun h2 => ?_)
  ·have hl:s.length>20:=by have:=of_decide_eq_true h2;omega
   simp only[hn,hx,ssS,ag,ae,reduceIte,af];refine jK (Ox L s hs) ?_;simp only[Store.jv,hn2,ssS,ag,ae,reduceIte,af];refine mD (v:=.agg (zL s)) (m':=m.set xb (.var T [a0,a1,a2,it (pY s e)])) ?_ ?_ ⟨rfl,rfl⟩
   ·rw[wo (b:=b) rfl (Store.jv _ _ _)];unfold zL;rw[h];rfl
   ·refine BJ (b:=b) (by rw[hn2,hb]) (fun c hc => ?_);have:pY s e=5:=by simp only[pY,h,hl,if_true];rfl
    rw[this];simp[Store.set,hc]
  ·have hl:¬ s.length>20:=by have:=of_decide_eq_false h2;omega
   simp only[ssS,ag,ae,reduceIte,af];refine jK (Ox L s hs) ?_;simp only[Store.jv,ssS,ag,ae,reduceIte,af];refine mD (v:=.agg (zL s)) (m':=m.set xb (.var T [a0,a1,a2,it (pY s e)])) ?_ ?_ ⟨rfl,rfl⟩
   ·rw[wo (b:=b) rfl (Store.jv _ _ _)];unfold zL;rw[h];rfl
   ·refine BJ (b:=b) (by rw[hn2,hb]) (fun c hc => ?_);have:pY s e=e:=by simp only[pY,h,hl,if_false];rfl
    rw[this,Store.sZ m hx];simp[Store.set,hc]
end
def rdB(s:List UInt8)(a:Nat)(e:Int):Blk:=.var 169 [.val (.bool true),bs s,it a,it e]
theorem zbE{xo yo:Operand}{b o:Nat}:kR Tryz.prog .eql 133 .pointer xo yo (.ptr b o) (.val (.pointer none))=some (.val (.bool false)):=rfl
def mf(s:List UInt8)(a:Nat)(e:Int):Int×Nat×Int:=
 if e≠0 then (0,a,e)else if (Av.numL (s.drop a)).2.2≠0 then (0,a,(Av.numL (s.drop a)).2.2)else ((Av.numL (s.drop a)).1,a+(Av.numL (s.drop a)).2.1,0)
def kD(s:List UInt8)(most:Int):Int×Nat×Int:=
 if (Av.numL s).2.2≠0 then (0,0,(Av.numL s).2.2)else if (Av.numL s).1<0 then (0,0,4)else if (Av.numL s).1>max 0 most then (0,0,5)else ((Av.numL s).1,(Av.numL s).2.1,0)
def lI(s:List UInt8)(a:Nat)(e:Int)(most:Int):Int×Nat×Int:=
 if e≠0 then (0,a,e)else if (kD (s.drop a) most).2.2≠0 then (0,a,(kD (s.drop a) most).2.2)else ((kD (s.drop a) most).1,a+(kD (s.drop a) most).2.1,0)
def xN(s:List UInt8)(most:Int):List UInt8×Nat×Int:=
 if (kD s most).2.2≠0 then ([],0,(kD s most).2.2)else if (kD s most).1>(s.length:Int)-((kD s most).2.1:Int)then ([],0,3)
 else ((s.drop (kD s most).2.1).take (kD s most).1.toNat,(kD s most).2.1+(kD s most).1.toNat,0)
def nJ(s:List UInt8)(a:Nat)(e:Int)(most:Int):List UInt8×Nat×Int:=
 if e≠0 then ([],a,e)else if (xN (s.drop a) most).2.2≠0 then ([],a,(xN (s.drop a) most).2.2)else ((xN (s.drop a) most).1,a+(xN (s.drop a) most).2.1,0)
theorem y9(s:List UInt8)(most:Int):(kD s most).2.1≤s.length∧0≤(kD s most).1∧(kD s most).1≤9223372036854775807:=by
 have h:=Av.numL_le s;have h2:=Av.numL_i64 s;unfold Av.I64 at h2;unfold kD
 split
 ·simp
 ·split
  ·simp
  ·split
   ·simp
   ·simp only;omega
theorem TD(s:List UInt8)(most:Int):(xN s most).2.1≤s.length:=by
 obtain⟨h1,h2,h3⟩:=y9 s most;unfold xN
 split
 ·simp
 ·split
  ·simp
  ·simp only;omega
theorem lh{s:List UInt8}{a:Nat}{e:Int}(h:a≤s.length):(mf s a e).2.1≤s.length:=by
 have h1:=Av.numL_le (s.drop a);rw[aV]at h1;unfold mf
 split
 ·exact h
 ·split
  ·exact h
  ·simp only;omega
theorem EK{s:List UInt8}{a:Nat}{e most:Int}(h:a≤s.length):(lI s a e most).2.1≤s.length:=by
 have h1:=(y9 (s.drop a) most).1;rw[aV]at h1;unfold lI
 split
 ·exact h
 ·split
  ·exact h
  ·simp only;omega
theorem zt{s:List UInt8}{a:Nat}{e most:Int}(h:a≤s.length):(nJ s a e most).2.1≤s.length:=by
 have h1:=TD (s.drop a) most;rw[aV]at h1;unfold nJ
 split
 ·exact h
 ·split
  ·exact h
  ·simp only;omega
section
variable {Γ:jG} {m:Store} {rb a:Nat} {s:List UInt8} {e:Int}
theorem xP(hr:m rb=some (rdB s a e)):jB Tryz.prog Γ 82 [.ptr rb 0] m fun o m'=>o = .ret (it e)∧m'=m:=by
 refine jE mixed ziw (by rintro v m b x _ ⟨⟨⟩,_⟩) ?_;simp only[F82,ss0,ay,ag];simp only[zbE,hr,rdB,aO,ssS,ag,ae,reduceIte,af];exact jF jD ⟨rfl,rfl⟩
theorem zhq(hr:m rb=some (rdB s a e)):jB Tryz.prog Γ 83 [.ptr rb 0] m fun o m'=>o = .ret (it a)∧m'=m:=by
 refine jE mixed ziv (by rintro v m b x _ ⟨⟨⟩,_⟩) ?_;simp only[F83,ss0,ay,ag];simp only[zbE,hr,rdB,ssS,ag,ae,reduceIte,af];exact jF jD ⟨rfl,rfl⟩
theorem QT(hr:m rb=some (rdB s a e)):jB Tryz.prog Γ 90 [.ptr rb 0] m fun o m'=>o = .ret (it (if e≠0 then e else if a<s.length then 5 else 0))∧m'=m:=by
 refine jE mixed zin (by rintro v m b x _ ⟨⟨⟩,_⟩) ?_;simp only[F90,ss0,ay,ag];simp only[ssS,ag,ae,reduceIte,af];refine jK (xP hr) ?_;cases he:(e != 0)
 ·have h0:e=0:=by simpa using he
  subst h0;simp only[show((0:Int) != 0)=false from rfl,hr,rdB,oV,ssS,ag,ae,reduceIte,af];refine jR (fun h => ?_) (fun h => ?_)
  ·have:a<s.length:=by have:=of_decide_eq_true h;omega
   simp only[ssS,ag,ae,reduceIte,af];exact jF jD ⟨by simp[this,jH,jI],rfl⟩
  ·have:¬ a<s.length:=by have:=of_decide_eq_false h;omega
   simp only[ssS,ag,ae,reduceIte,af];exact jF jD ⟨by simp[this,jH,jI],rfl⟩
 ·have h0:e≠0:=by simpa using he
  simp only[he,ssS,ag,ae,reduceIte,af];exact jF jD ⟨by simp[h0,jH,jI],rfl⟩
theorem Xk{l:List UInt8}{more:List V}{tok:Tok}:jB Tryz.prog Γ 80 [.sl (l.map by8) more tok] m fun o m'=>∃ rb,m rb=none∧o = .ret (.ptr rb 0)∧m'=m.set rb (rdB l 0 0):=by
 refine jE mixed ziy (by rintro v m b x _ ⟨_,_,⟨⟩,_⟩) ?_;simp only[F80,ss0,ay,ag];simp only[xx,Em,ssS,ag,ae,reduceIte,af];refine kz fun rb hrb => ?_;simp only[ssS,ag,ae,reduceIte,af];exact jF jD ⟨rb,hrb,rfl,rfl⟩
def JX{α:Type}(z:α)(a:Nat)(e:Int)(r:α×Nat×Int):α×Nat×Int:=if e≠0 then (z,a,e)else if r.2.2≠0 then (z,a,r.2.2)else (r.1,a+r.2.1,0)
theorem Ud(hr:m rb=some (rdB s a e))(ha:a≤s.length)(hs:s.length<4611686018427387904){f:FuncId}{caps:List V}(r:Int×Nat×Int)(hl:r.2.1≤s.length-a)
  (hf:jB Tryz.prog Γ f ([]++[bs (s.drop a)]++caps) m fun o m'=>o = .ret (.tup [it r.1,it r.2.1,it r.2.2])∧m'=m) :
  jB Tryz.prog Γ 125 [.ptr rb 0,.fn (.func f) [] caps] m fun o m'=>o = .ret (it (JX 0 a e r).1)∧m'=m.set rb (rdB s (JX 0 a e r).2.1 (JX 0 a e r).2.2):=by
 refine jE mixed zgy (by rintro v m b x _ ⟨⟨⟩,_⟩) ?_;simp only[zmP,ss0,ay,ag];simp only[ssS,ag,ae,reduceIte,af];refine jK (xP hr) ?_;unfold JX;cases he:(e != 0)
 ·have h0:e=0:=by simpa using he
  subst h0;simp only[show((0:Int) != 0)=false from rfl,hr,rdB,vZ ha,ssS,ag,ae,reduceIte,af];refine jK hf ?_;cases h1:(r.2.2 != 0)
  ·have h2:r.2.2=0:=by simpa using h1
   have hw:IntKind.i64.wrap ((a:Int)+(r.2.1:Int))=((a+r.2.1:Nat):Int):=by
    rw[wrap_i64 (by omega) (by omega)];omega
   simp only[hr,rdB,h1,hw,ssS,ag,ae,reduceIte,af];refine jF jD ⟨?_,?_⟩
   ·simp only[jH,jI,h2,ne_eq,not_true_eq_false,if_false]
   ·simp only[h2,ne_eq,not_true_eq_false,if_false]
  ·have h2:r.2.2≠0:=by simpa using h1
   simp only[hr,rdB,h1,ssS,ag,ae,reduceIte,af];refine jF jD ⟨?_,?_⟩
   ·simp only[jH,jI,h2,ne_eq,not_true_eq_false,not_false_eq_true,if_true,if_false]
   ·simp only[h2,ne_eq,not_true_eq_false,not_false_eq_true,if_true,if_false]
 ·have h0:e≠0:=by simpa using he
  simp only[he,ssS,ag,ae,reduceIte,af];refine jF jD ⟨?_,?_⟩
  ·simp only[jH,jI,h0,ne_eq,not_false_eq_true,if_true]
  ·simp only[h0,ne_eq,not_false_eq_true,if_true];exact(Store.sZ m hr).symm
theorem su(hr:m rb=some (rdB s a e))(ha:a≤s.length)(hs:s.length<4611686018427387904):jB Tryz.prog Γ 87 [.ptr rb 0] m fun o m'=>o = .ret (it (mf s a e).1)∧m'=m.set rb (rdB s (mf s a e).2.1 (mf s a e).2.2):=by
 refine jE mixed zir (by rintro v m b x _ ⟨⟨⟩,_⟩) ?_;simp only[F87,ss0,ay,ag];simp only[ssS,ag,ae,reduceIte,af];have h1:=Av.numL_le (s.drop a);rw[aV]at h1;refine lm (Ud hr ha hs (Av.numL (s.drop a)) h1 (L6 _ (by simp;omega))) ?_;simp only[ssS,ag,ae,reduceIte,af];exact jF jD ⟨rfl,rfl⟩
theorem O8(most:Int)(hs:s.length<4611686018427387904):jB Tryz.prog Γ 127 [bs s,it most] m fun o m'=>o = .ret (.tup [it (kD s most).1,it (kD s most).2.1,it (kD s most).2.2])∧m'=m:=by
 refine jE mixed zgw (by rintro v m b x _ ⟨⟨⟩,_⟩) ?_;simp only[zmN,ss0,ay,ag];simp only[ssS,ag,ae,reduceIte,af];refine jK (L6 _ hs) ?_;unfold kD;generalize Av.numL s=r;obtain⟨n,u,e⟩:=r;simp only;simp only[ssS,ag,ae,reduceIte,af];cases h1:(e != 0)
 ·have h1':e=0:=by simpa using h1
  subst h1';simp only[show((0:Int) != 0)=false from rfl,ssS,ag,ae,reduceIte,af];cases h2:decide (n<0)
  ·have h2':¬ n<0:=of_decide_eq_false h2;simp only[h2,Lu,zbB,RJ,ssS,ag,ae,reduceIte,af];cases h3:decide (n>max 0 most)
   ·have h3':¬ n>max 0 most:=of_decide_eq_false h3;simp only[h3,ssS,ag,ae,reduceIte,af];refine jF kJ ⟨?_,rfl⟩;simp only[jH,jI,ne_eq,not_true_eq_false,if_false,if_neg h2',if_neg h3']
   ·have h3':n>max 0 most:=of_decide_eq_true h3;simp only[h3,ssS,ag,ae,reduceIte,af];refine jF kJ ⟨?_,rfl⟩;simp only[jH,jI,ne_eq,not_true_eq_false,if_false,if_neg h2',if_pos h3'];rfl
  ·have h2':n<0:=of_decide_eq_true h2;simp only[h2,ssS,ag,ae,reduceIte,af];refine jF kJ ⟨?_,rfl⟩;simp only[jH,jI,ne_eq,not_true_eq_false,if_false,if_pos h2'];rfl
 ·have h1':e≠0:=by simpa using h1
  simp only[h1,ssS,ag,ae,reduceIte,af];refine jF kJ ⟨?_,rfl⟩;simp only[jH,jI,h1',ne_eq,not_false_eq_true,if_true];rfl
theorem YV(L:xG Γ)(most:Int){b:Nat}(hb:m b=some (.var 3 [it most]))(hs:s.length≤281474976710656):jB Tryz.prog Γ 146 ([]++[bs s]++[.ptr b 0]) m fun o m'=>o = .ret (.tup [bs (xN s most).1,it (xN s most).2.1,it (xN s most).2.2])∧m'=m:=by
 refine jE mixed zge (by rintro v m b x _ ⟨⟨⟩,_⟩) ?_;simp only[zmD,ss0,ay,ag];simp only[hb,ssS,ag,ae,reduceIte,af];refine jK (O8 most (by omega)) ?_;obtain⟨q1,q2,q3⟩:=y9 s most;unfold xN;generalize kD s most=r at q1 q2 q3;obtain⟨n,u,e⟩:=r;simp only at q1 q2 q3;simp only[ssS,ag,ae,reduceIte,af];cases h1:(e != 0)
 ·have h1':e=0:=by simpa using h1
  subst h1';have hw:IntKind.i64.wrap ((s.length:Int)-(u:Int))=(s.length:Int)-(u:Int):=wrap_i64 (by omega) (by omega);simp only[show((0:Int) != 0)=false from rfl,oV,hw,ssS,ag,ae,reduceIte,af];cases h3:decide (n>(s.length:Int)-(u:Int))
  ·have h3':¬ n>(s.length:Int)-(u:Int):=of_decide_eq_false h3;obtain⟨n,rfl⟩:∃ k:Nat,n=(k:Int):=⟨n.toNat,by omega⟩
   have hw2:IntKind.i64.wrap ((u:Int)+(n:Int))=((u+n:Nat):Int):=by
    rw[wrap_i64 (by omega) (by omega)];omega
   simp only[h3,hw2,Au (x:=s) (a:=u) (b:=u+n) (by omega) (by omega),ssS,ag,ae,reduceIte,af];refine jK (Ox L _ (by simp;omega)) ?_;simp only[hw2,ssS,ag,ae,reduceIte,af];refine jF kJ ⟨?_,rfl⟩;simp only[jH,jI,ne_eq,not_true_eq_false,if_false,if_neg h3',bn];rw[dJ,show u+n-u=n by omega]
  ·have h3':n>(s.length:Int)-(u:Int):=of_decide_eq_true h3;simp only[h3,ssS,ag,ae,reduceIte,af];refine jF kJ ⟨?_,rfl⟩;simp only[jH,jI,ne_eq,not_true_eq_false,if_false,if_pos h3'];rfl
 ·have h1':e≠0:=by simpa using h1
  simp only[h1,ssS,ag,ae,reduceIte,af];refine jF kJ ⟨?_,rfl⟩;simp only[jH,jI,h1',ne_eq,not_false_eq_true,if_true];rfl
theorem zbw(hr:m rb=some (rdB s a e))(ha:a≤s.length)(hs:s.length<4611686018427387904){f:FuncId}{caps:List V}(r:List UInt8×Nat×Int)(hl:r.2.1≤s.length-a)
  (hf:jB Tryz.prog Γ f ([]++[bs (s.drop a)]++caps) m fun o m'=>o = .ret (.tup [bs r.1,it r.2.1,it r.2.2])∧m'=m) :
  jB Tryz.prog Γ 145 [.ptr rb 0,.fn (.func f) [] caps] m fun o m'=>o = .ret (bs (JX [] a e r).1)∧m'=m.set rb (rdB s (JX [] a e r).2.1 (JX [] a e r).2.2):=by
 refine jE mixed zgf (by rintro v m b x _ ⟨⟨⟩,_⟩) ?_;simp only[zmE,ss0,ay,ag];simp only[ssS,ag,ae,reduceIte,af];refine jK (xP hr) ?_;unfold JX;cases he:(e != 0)
 ·have h0:e=0:=by simpa using he
  subst h0;simp only[show((0:Int) != 0)=false from rfl,hr,rdB,vZ ha,ssS,ag,ae,reduceIte,af];refine jK hf ?_;cases h1:(r.2.2 != 0)
  ·have h2:r.2.2=0:=by simpa using h1
   have hw:IntKind.i64.wrap ((a:Int)+(r.2.1:Int))=((a+r.2.1:Nat):Int):=by
    rw[wrap_i64 (by omega) (by omega)];omega
   simp only[hr,rdB,h1,hw,ssS,ag,ae,reduceIte,af];refine jF jD ⟨?_,?_⟩
   ·simp only[jH,jI,h2,ne_eq,not_true_eq_false,if_false]
   ·simp only[h2,ne_eq,not_true_eq_false,if_false]
  ·have h2:r.2.2≠0:=by simpa using h1
   simp only[hr,rdB,h1,ssS,ag,ae,reduceIte,af];refine jF jD ⟨?_,?_⟩
   ·simp only[jH,jI,h2,ne_eq,not_true_eq_false,not_false_eq_true,if_true,if_false]
   ·simp only[h2,ne_eq,not_true_eq_false,not_false_eq_true,if_true,if_false]
 ·have h0:e≠0:=by simpa using he
  simp only[he,ssS,ag,ae,reduceIte,af];refine jF jD ⟨?_,?_⟩
  ·simp only[jH,jI,h0,ne_eq,not_false_eq_true,if_true]
  ·simp only[h0,ne_eq,not_false_eq_true,if_true];exact(Store.sZ m hr).symm
theorem Md(L:xG Γ)(most:Int)(hr:m rb=some (rdB s a e))(ha:a≤s.length)(hs:s.length≤281474976710656):jB Tryz.prog Γ 120 [.ptr rb 0,it most] m fun o m'=>o = .ret (bs (nJ s a e most).1)∧m'=m.set rb (rdB s (nJ s a e most).2.1 (nJ s a e most).2.2):=by
 refine jB.less (A:=fun o m'=>o = .ret (bs (nJ s a e most).1)∧mO (m.set rb (rdB s (nJ s a e most).2.1 (nJ s a e most).2.2)) m') ?_ fun o m' h=>⟨_,h.2,h.1,rfl⟩;refine jE mixed zgD (by rintro v m b x _ ⟨⟨⟩,_⟩) ?_;simp only[zmQ,ss0,ay,ag];simp only[ssS,ag,ae,reduceIte,af];refine kz fun b hb => ?_;have hn:=jU hr hb;have h1:=TD (s.drop a) most;rw[aV]at h1;simp only[ssS,ag,ae,reduceIte,af];refine lm (zbw (a:=a) (e:=e) (by rw[Store.jw _ _ hn];exact hr) ha (by omega) (xN (s.drop a) most) h1 (YV L most (Store.jv _ _ _) (by simp;omega))) ?_;simp only[ssS,ag,ae,reduceIte,af];refine jF jD ⟨rfl,?_⟩;rw[set_comm m _ _ hn.symm];refine(mO.refl _).out ?_ _;rw[Store.jw _ _ hn.symm];exact hb
theorem Pg(most:Int)(hr:m rb=some (rdB s a e))(ha:a≤s.length)(hs:s.length≤281474976710656):jB Tryz.prog Γ 81 [.ptr rb 0,it most] m fun o m'=>o = .ret (it (lI s a e most).1)∧m'=m.set rb (rdB s (lI s a e most).2.1 (lI s a e most).2.2):=by
 refine jB.less (A:=fun o m'=>o = .ret (it (lI s a e most).1)∧mO (m.set rb (rdB s (lI s a e most).2.1 (lI s a e most).2.2)) m') ?_ fun o m' h=>⟨_,h.2,h.1,rfl⟩;refine jE mixed zix (by rintro v m b x _ ⟨⟨⟩,_⟩) ?_;simp only[F81,ss0,ay,ag];simp only[ssS,ag,ae,reduceIte,af];refine kz fun b hb => ?_;have hn:=jU hr hb;have h1:=(y9 (s.drop a) most).1;rw[aV]at h1;simp only[ssS,ag,ae,reduceIte,af];refine lm (Ud (a:=a) (e:=e) (f:=126) (caps:=[.ptr b 0]) (by rw[Store.jw _ _ hn];exact hr) ha (by omega) (kD (s.drop a) most) h1 ?_) ?_
 ·refine jE mixed zgx (by rintro v m b x _ ⟨⟨⟩,_⟩) ?_;simp only[zmO,ss0,ay,ag];simp only[Store.jv,ssS,ag,ae,reduceIte,af];refine jK (O8 most (by simp;omega)) ?_;simp only[ssS,ag,ae,reduceIte,af];exact jF kJ ⟨rfl,rfl⟩
 simp only[ssS,ag,ae,reduceIte,af];refine jF jD ⟨rfl,?_⟩;rw[set_comm m _ _ hn.symm];refine(mO.refl _).out ?_ _;rw[Store.jw _ _ hn.symm];exact hb
theorem Gg{m':Store}{v:V}{l t:List UInt8}(h:Buf 5 1 m m' v (l.map by8))(hl:l.length+t.length+10≤140737488355328)(hl2:l.length<1099511627776) :
  jB Tryz.prog Γ 64 [v,bs t] m' fun o m2=>∃ v2,o = .ret v2∧Buf 5 1 m m2 v2 ((l++Lib.uvarint (Lib.zigzag t.length)++t).map by8):=by
 refine jE mixed ziF (by rintro v m b x _ ⟨_,⟨⟩,_⟩) ?_;simp only[F64,ss0,ay,ag];simp only[oV,ssS,ag,ae,reduceIte,af];have hI:Av.I64 (t.length:Int):=⟨by omega,by omega⟩;have hlen10:=Lib.uvarint_length64 (Av.zigzag_u64 hI);refine pJ (qp (.inl h) hI hl2) ?_ (by rintro v m' ⟨_,⟨⟩,_⟩);rintro v2 m2 ⟨_,⟨⟩,hB⟩;simp only[ssS,ag,ae,reduceIte,af];refine zaF hB (zcT t) (U5 t) (by simp;omega) fun m3 v3 hB3 => ?_;simp only[ssS,ag,ae,reduceIte,af];refine jF jD ⟨v3,rfl,?_⟩;rw[bC];exact hB3
end
theorem zay{Γ:jG}{m:Store}{b:Nat}{T:TypeId}{p:V}{es more:List V}{tok:Tok}(h:m b=some (.var T [p,.sl es more tok])):jB Tryz.prog Γ 276 [.ptr b 0] m fun o m'=>o = .ret (it es.length)∧m'=m:=by
 refine jE mixed zfi (by rintro v m b x _ ⟨⟨⟩,_⟩) ?_;simp only[zlP,ss0,ay,ag];simp only[h,ssS,ag,ae,reduceIte,af];exact jF jD ⟨rfl,rfl⟩
theorem Vr{Γ:jG}(L:xG Γ){m:Store}{b:Nat}{p u:V}{l:List UInt8}(c:UInt8)(h:m b=some (.var 369 [p,u]))(hp:RN b p)(hl:l.length≤4096)
  (hu:(l=[]∧u = .sl [] [] .full)∨(l≠[]∧∃ t k,m t=some (.tip 5 k)∧u = .sl (l.map by8) [] (.tip t k))) :
  jB Tryz.prog Γ 277 [.ptr b 0,by8 c] m fun o m'=>o = .ret (.val .nilIface)∧∃ t k,t≠b∧(m t=none∨∃ k0,m t=some (.tip 5 k0)∧∃ l0,u = .sl l0 [] (.tip t k0))∧m'=(m.set t (.tip 5 k)).set b (.var 369 [.ptr b 0,.sl ((l++[c]).map by8) [] (.tip t k)]):=by
 refine jE mixed zfh (by rintro v m b x _ ⟨⟨⟩,_⟩) ?_;simp only[zlO,ss0,ay,ag];simp only[ssS,ag,ae,reduceIte,af];refine lm (L.copyCheck m b p u h hp) ?_;simp only[Store.jv,y7,yO,ssS,ag,ae,reduceIte,af]
 have hel:vM 1 [by8 c]:=by
  intro y hy;rw[cO]at hy;subst hy;exact⟨rfl,by intro z hz;simp[V.cells]at hz;subst hz;rfl⟩
 have hst:∀ {t:Nat} {A B C:Blk},t≠b→((m.set b A).set t C).set b B=(m.set t C).set b B:=by
  intro t A B C ht;funext c;simp only[Store.set]
  by_cases e:c=b
  ·simp[e]
  ·simp[e]
 rcases hu with ⟨rfl,rfl⟩|⟨hne,t,k,ht,rfl⟩
 ·refine Fv (by simp) rfl hel (by simp) fun t ht => ?_
  have htb:t≠b:=by
   rintro rfl;rw[Store.jv]at ht;cases ht
  have hmt:m t=none:=by rwa [Store.jw _ _ htb]at ht
  have hbt:∀ m' x,(Store.set m' t x) b=m' b:=fun m' x=>Store.jw m' x htb.symm;simp only[hbt,Store.jv,ssS,ag,ae,reduceIte,af];refine jF jD ⟨rfl,t,0,htb,.inl hmt,?_⟩;rw[hst htb];rfl
 ·have htb:t≠b:=by
   rintro rfl;rw[h]at ht;cases ht
  have hbt:∀ m' x,(Store.set m' t x) b=m' b:=fun m' x=>Store.jw m' x htb.symm;refine OL (by simp) (by simpa using hne) (by rw[Store.jw _ _ htb,ht]) (lJ l) hel (by simp;omega) ?_;simp only[hbt,Store.jv,ssS,ag,ae,reduceIte,af];refine jF jD ⟨rfl,t,k+1,htb,.inr ⟨k,ht,_,rfl⟩,?_⟩;rw[hst htb,bC];rfl
def qL:List UInt8→List UInt8→Nat→Except Int (List UInt8×Nat)
 |[],_,_=>.error 6
 |c::r,acc,k=>
  if c.toNat=34 then .ok (acc,k)
  else if c.toNat<32∨c.toNat>126 then .error 6
  else if c.toNat=92 then match r with
   |[]=>.error 6
   |d::r'=>if d.toNat≠92∧d.toNat≠34∧d.toNat≠110 then .error 6 else if acc.length=255 then .error 5 else qL r' (acc++[if d.toNat=110 then 10 else d]) (k+2)
  else if acc.length=255 then .error 5 else qL r (acc++[c]) (k+1)
def Ug(a:Nat):Except Int (List UInt8×Nat)→V
 | .ok (l,k)=>.tup [bs l,it ((a+k+2:Nat):Int),it 0]
 | .error e=>.tup [bs [],it 0,it e]
theorem Ro{Γ:jG}{m:Store}(s:List UInt8)(a:Nat)(ha:a<s.length)(hs:s.length<4611686018427387904) :
  jB Tryz.prog Γ 206 [bs s,it a] m fun o m'=>o = .ret (Ug a (qL (s.drop (a+1)) [] 0))∧m'=m:=by
 refine jE mixed zfD (by rintro v m b x _ ⟨⟨⟩,_⟩) ?_;simp only[zl8,ss0,ay,ag];simp only[jQ (show a<4611686018427387904 by omega),ssS,ag,ae,reduceIte,af];generalize hres:qL (s.drop (a+1)) [] 0=res
 refine nX (fun n st=>∃ (k:Nat) (acc:List UInt8) (v:V),n=s.length-(a+1+k)∧a+1+k≤s.length∧acc.length≤255∧qL (s.drop (a+1+k)) acc k=res∧Buf 5 1 m st.m v (acc.map by8)∧st.t.length=80∧jT st.t 0=bs s∧jT st.t 7=v∧jT st.t 8 = .val (.bool false)∧jT st.t 9=it ((a+1+k:Nat):Int))
  (s.length-(a+1)) ⟨0,[],_,rfl,by omega,by simp,hres,Buf.start,rfl,rfl,rfl,rfl,rfl⟩ ?_
 rintro n ⟨t,m1⟩ ⟨k,acc,v,hn,hk,hacc,hq,hbuf,hlen,h0,h7,h8,h9⟩;simp only at hbuf h0 h7 h8 h9 hlen;rw[mJ hlen];simp only[jV,kT,ag,h0,h7,h8,h9];simp only[ssS,ag,ae,reduceIte,af]
 have fin:∀ {t:List V} {r:Except Int (List UInt8×Nat)},res=r→resV [.tmp 4,.tmp 5,.tmp 6] ⟨t,m1⟩=some (Ug a r)→vT [.tmp 4,.tmp 5,.tmp 6] (fun o m'=>o=Out.ret (Ug a res)∧m'=m) .ret ⟨t,m1⟩:=by
  intro t r h1 h2;exact mD h2 hbuf.sub ⟨by rw[h1],rfl⟩
 refine jR (fun h => ?_) (fun h => ?_)
 ·have hlt:a+1+k<s.length:=by have:=of_decide_eq_true h;omega
  have hx:s[a+1+k]? = some s[a+1+k]:=by simp[hlt]
  have hdrop:s.drop (a+1+k)=s[a+1+k]::s.drop (a+1+k+1):=bF hlt;generalize s[a+1+k]=c at hx hdrop;rw[hdrop,qL.eq_def]at hq;simp only at hq;simp only[nG hx,ssS,ag,ae,reduceIte,af];refine QE (M:=fun st=>∃ (k':Nat) (c':UInt8),st.m=m1∧k≤k'∧a+1+k'<s.length∧res=(if acc.length=255 then .error 5 else qL (s.drop (a+1+(k'+1))) (acc++[c']) (k'+1))∧st.t.length=80∧jT st.t 0=bs s∧jT st.t 7=v∧jT st.t 8 = .val (.bool false)∧jT st.t 9=it ((a+1+k':Nat):Int)∧jT st.t 10=by8 c') ?_ ?_
  ·-- what is read is appended
   rintro⟨t,m2⟩ ⟨k',c',hm2,hkk,hlt',hres',hlen,h0,h7,h8,h9,h10⟩;simp only at hm2 hlen h0 h7 h8 h9 h10;subst hm2;rw[mJ hlen];simp only[jV,kT,ag,h0,h7,h8,h9,h10];simp only[y7,yO,ssS,ag,ae,reduceIte,af];refine Eo hbuf rfl (by intro c hc;simp[V.cells]at hc;subst hc;rfl) (by simp;omega) fun m3 v3 hb3 => ?_;obtain⟨tok3,rfl⟩:=hb3.val;have hcast:(List.map by8 acc++[by8 c'])=List.map by8 (acc++[c']):=by simp
   rw[hcast]at hb3 ⊢;simp only[jQ (show a+1+k'<4611686018427387904 by omega),aK,ssS,ag,ae,reduceIte,af];refine jR (fun h => ?_) (fun h => ?_)
   ·have h255:acc.length=255:=by have:=of_decide_eq_true h;simp at this;omega
    simp only[ssS,ag,ae,reduceIte,af];refine mD (v:=Ug a (.error 5)) ?_ hb3.sub ⟨?_,rfl⟩
    ·rw[kJ];rfl
    ·rw[hres',if_pos h255]
   ·have h255:¬ acc.length=255:=by have:=of_decide_eq_false h;simp at this;omega
    rw[if_neg h255]at hres';simp only[jQ (show a+1+k'<4611686018427387904 by omega),ssS,ag,ae,reduceIte,af];refine⟨s.length-(a+1+(k'+1)),by omega,k'+1,acc++[c'],_,rfl,by omega,by simp;omega,hres'.symm,hb3,rfl,?_⟩;exact⟨by rw[h],rfl⟩
  ·obtain⟨tok,rfl⟩:=hbuf.val
   have six:∀ {t:List V},res = .error 6→jT t 4=bs []→jT t 5=it 0→jT t 6=it 6→vT [.tmp 4,.tmp 5,.tmp 6] (fun o m'=>o=Out.ret (Ug a res)∧m'=m) .ret ⟨t,m1⟩:=by
    intro t h1 h4 h5 h6;refine fin h1 ?_;rw[kJ,h4,h5,h6];rfl
   refine jR (fun h1 => ?_) (fun h1 => ?_)
   ·have e1:c.toNat=34:=by have:=eq_of_beq h1;omega
    rw[if_pos e1]at hq;simp only[xx,Em,jQ (show a+1+k<4611686018427387904 by omega),ssS,ag,ae,reduceIte,af];refine fin hq.symm ?_;rw[kJ];simp only[jH,jI,Ug];rw[show a+1+k+1=a+k+2 by omega]
   ·have e1:¬ c.toNat=34:=by
     intro e;rw[e]at h1;cases h1
    rw[if_neg e1]at hq;simp only[ssS,ag,ae,reduceIte,af];refine l7 (fun h2 => ?_) (fun h2 => ?_)
    ·have e2:c.toNat<32:=by have:=of_decide_eq_true h2;omega
     rw[if_pos (.inl e2)]at hq;simp only[h2,ssS,ag,ae,reduceIte,af];exact six hq.symm rfl rfl rfl
    ·have e2:¬ c.toNat<32:=by have:=of_decide_eq_false h2;omega
     simp only[h2,ssS,ag,ae,reduceIte,af];refine jR (fun h3 => ?_) (fun h3 => ?_)
     ·have e3:c.toNat>126:=by have:=of_decide_eq_true h3;omega
      rw[if_pos (.inr e3)]at hq;simp only[ssS,ag,ae,reduceIte,af];exact six hq.symm rfl rfl rfl
     ·have e3:¬ c.toNat>126:=by have:=of_decide_eq_false h3;omega
      rw[if_neg (by omega)]at hq;simp only[ssS,ag,ae,reduceIte,af];refine jR (fun h4 => ?_) (fun h4 => ?_)
      ·have e4:c.toNat=92:=by have:=eq_of_beq h4;omega
       rw[if_pos e4]at hq;simp only[jQ (show a+1+k<4611686018427387904 by omega),ssS,ag,ae,reduceIte,af];refine l7 (fun h5 => ?_) (fun h5 => ?_)
       ·have e5:a+1+k+1=s.length:=by have:=eq_of_beq h5;omega
        rw[e5,dB]at hq;simp only[h5,ssS,ag,ae,reduceIte,af];exact six hq.symm rfl rfl rfl
       ·have e5:a+1+k+1<s.length:=by
         have:¬ a+1+k+1=s.length:=by
          intro e;rw[e]at h5;simp at h5
         omega
        have hx2:s[a+1+k+1]? = some s[a+1+k+1]:=by simp[e5]
        have hdrop2:s.drop (a+1+k+1)=s[a+1+k+1]::s.drop (a+1+k+1+1):=bF e5;generalize s[a+1+k+1]=d at hx2 hdrop2;rw[hdrop2]at hq;simp only at hq
        have good:(d.toNat=92∨d.toNat=34∨d.toNat=110)→res=(if acc.length=255 then .error 5 else qL (s.drop (a+1+(k+1+1))) (acc++[if d.toNat=110 then 10 else d]) (k+1+1)):=by
         intro hd;rw[if_neg (by omega)]at hq;exact hq.symm
        have ne:∀ {k:Nat},¬ d.toNat=k→((d.toNat:Int) != (k:Int))=true:=by
         intro k hk;simp only[bne_iff_ne,ne_eq];omega
        have nq:∀ {k:Nat},¬ d.toNat=k→((d.toNat:Int)==(k:Int))=false:=by
         intro k hk;simp only[beq_eq_false_iff_ne,ne_eq];omega
        by_cases d1:d.toNat=92
        ·have f1:((d.toNat:Int) != 92)=false:=by rw[d1];rfl
         have f2:((d.toNat:Int)==110)=false:=nq (k:=110) (by omega);have hg:=good (.inl d1);rw[if_neg (show ¬ d.toNat=110 by omega)]at hg;simp only[h5,nG hx2,f1,f2,ssS,ag,ae,reduceIte,af];exact⟨k+1,d,by omega,e5,hg,rfl,rfl⟩
        ·have f1:((d.toNat:Int) != 92)=true:=ne (k:=92) d1
         by_cases d2:d.toNat=34
         ·have f2:((d.toNat:Int) != 34)=false:=by rw[d2];rfl
          have f3:((d.toNat:Int)==110)=false:=nq (k:=110) (by omega);have hg:=good (.inr (.inl d2));rw[if_neg (show ¬ d.toNat=110 by omega)]at hg;simp only[h5,nG hx2,f1,f2,f3,ssS,ag,ae,reduceIte,af];exact⟨k+1,d,by omega,e5,hg,rfl,rfl⟩
         ·have f2:((d.toNat:Int) != 34)=true:=ne (k:=34) d2
          by_cases d3:d.toNat=110
          ·have f3:((d.toNat:Int) != 110)=false:=by rw[d3];rfl
           have f4:((d.toNat:Int)==110)=true:=by rw[d3];rfl
           have hg:=good (.inr (.inr d3));rw[if_pos d3]at hg;simp only[h5,nG hx2,f1,f2,f3,f4,ssS,ag,ae,reduceIte,af];exact⟨k+1,10,by omega,e5,hg,rfl,rfl⟩
          ·have f3:((d.toNat:Int) != 110)=true:=ne (k:=110) d3;rw[if_pos ⟨d1,d2,d3⟩]at hq;simp only[h5,nG hx2,f1,f2,f3,ssS,ag,ae,reduceIte,af];exact six hq.symm rfl rfl rfl
      ·have e4:¬ c.toNat=92:=by
        intro e;rw[e]at h4;cases h4
       rw[if_neg e4]at hq;simp only[ssS,ag,ae,reduceIte,af];exact⟨k,c,aY k,hlt,hq.symm,rfl,rfl⟩
 ·have hge:a+1+k=s.length:=by have:=of_decide_eq_false h;omega
  simp only[ssS,ag,ae,reduceIte,af];refine fin (r:=.error 6) ?_ ?_
  ·rw[←hq,hge,dB,qL]
  ·rw[kJ];rfl
theorem zkQ(d:UInt8):N7 [92,34,110] d=if d.toNat=92 then 0 else if d.toNat=34 then 1 else if d.toNat=110 then 2 else -1:=by
 have key:∀ c:UInt8,(c==d)=decide (d.toNat=c.toNat):=by
  intro c;rw[bQ];simp only[beq_iff_eq,decide_eq_true_eq];constructor
  ·rintro rfl;rfl
  ·intro h;exact UInt8.toNat_inj.1 h.symm
 unfold N7;simp only[List.findIdx?_cons,key,List.findIdx?_nil]
 by_cases d1:d.toNat=92
 ·simp[d1]
 ·by_cases d2:d.toNat=34
  ·simp[d2]
  ·by_cases d3:d.toNat=110
   ·simp[d3]
   ·simp[d1,d2,d3]
def Bld(m m':Store)(b:Nat)(l:List UInt8):Prop:=∃ p u,m' b=some (.var 369 [p,u])∧RN b p∧(∀ c x,m c=some x→m' c=some x) ∧
 ((l=[]∧u = .sl [] [] .full)∨(l≠[]∧∃ t k,m' t=some (.tip 5 k)∧m t=none∧u = .sl (l.map by8) [] (.tip t k)))
def H6(T:TypeId)(a0 a1 a2:V)(e0:Int)(xb:Nat)(m:Store)(r:Except Int (List UInt8×Nat))(o:Out)(m':Store):Prop:=match r with
 | .ok (l,k)=>o = .ret (.tup [bs l,it ((k+2:Nat):Int)])∧m'=m
 | .error e=>o = .ret (.tup [bs [],it 0])∧m'=m.set xb (.var T [a0,a1,a2,it e])
theorem Zo{Γ:jG}(L:xG Γ){m:Store}{xb:Nat}{T:TypeId}{a0 a1 a2:V}{e:Int}(s:List UInt8)(hs:s.length≤4096)(hx:m xb=some (.var T [a0,a1,a2,it e])) :
  jB Tryz.prog Γ 264 [.ptr xb 0,bs s] m fun o m'=>H6 T a0 a1 a2 e xb m (qL s [] 0) o m':=by
 refine jE mixed zfj (by
  rintro v m b x _ h;exfalso;unfold H6 at h
  split at h
  ·cases h.1
  ·cases h.1) ?_
 simp only[zlQ,ss0,ay,ag];simp only[ssS,ag,ae,reduceIte,af];refine kz fun b hb => ?_;simp only[ssS,ag,ae,reduceIte,af];generalize hres:qL s [] 0=res
 have hxb:xb≠b:=by
  rintro rfl;rw[hx]at hb;cases hb
 have fail:∀ {t:List V} {m1:Store} {l:List UInt8} {er:Int},Bld m m1 b l→res = .error er→resV [.tmp 4,.tmp 5] ⟨t,m1.set xb (.var T [a0,a1,a2,it er])⟩=some (.tup [bs [],it 0]) →
   vT [.tmp 4,.tmp 5] (fun o m'=>H6 T a0 a1 a2 e xb m res o m') .ret ⟨t,m1.set xb (.var T [a0,a1,a2,it er])⟩:=by
  rintro t m1 l er ⟨p,u,h1,h2,h3,h4⟩ hr hv;refine mD (m':=m.set xb (.var T [a0,a1,a2,it er])) hv (fun c x hc => ?_) ?_
  ·by_cases e:c=xb
   ·subst e;rw[Store.jv]at hc ⊢;exact hc
   ·rw[Store.jw _ _ e]at hc ⊢;exact h3 c x hc
  ·rw[hr];exact⟨rfl,rfl⟩
 have good:∀ {t:List V} {m1:Store} {l:List UInt8} {k:Nat},(∀ c x,m c=some x→m1 c=some x)→res = .ok (l,k)→resV [.tmp 4,.tmp 5] ⟨t,m1⟩=some (.tup [bs l,it ((k+2:Nat):Int)]) →
   vT [.tmp 4,.tmp 5] (fun o m'=>H6 T a0 a1 a2 e xb m res o m') .ret ⟨t,m1⟩:=by
  intro t m1 l k h3 hr hv;refine mD (m':=m) hv h3 ?_;rw[hr];exact⟨rfl,rfl⟩
 refine nC (qX (qI (n:=fun st=>∃ l,Bld m st.m b l∧res = .error 6∧st.t.length=59∧jT st.t 0 = .ptr xb 0) ?_ (fun _ _ h=>h))) ?_
 ·rintro⟨t,m1⟩ ⟨l,hB,hr,hlen,h0⟩;simp only at hB hlen h0
  have hx1:m1 xb=some (.var T [a0,a1,a2,it e]):=by
   obtain⟨_,_,_,_,h3,_⟩:=hB;exact h3 _ _ hx
  rw[mJ hlen];simp only[jV,kT,ag,h0];simp only[hx1,ssS,ag,ae,reduceIte,af];exact fail hB hr rfl
 ·refine nX (fun n st=>∃ (k:Nat) (acc:List UInt8),n=s.length-k∧k≤s.length∧acc.length≤255∧qL (s.drop k) acc k=res∧Bld m st.m b acc∧st.t.length=59∧jT st.t 0 = .ptr xb 0∧jT st.t 1=bs s∧jT st.t 6 = .ptr b 0∧jT st.t 7=it k) s.length
   ⟨0,[],rfl,by omega,by simp,hres,⟨.val (.pointer none),.sl [] [] .full,Store.jv _ _ _,.inl rfl,KZ hb (fun _ _ h=>h),.inl ⟨rfl,rfl⟩⟩,rfl,rfl,rfl,rfl,rfl⟩ ?_
  rintro n ⟨t,m1⟩ ⟨k,acc,hn,hk,hacc,hq,hB,hlen,h0,h1,h6,h7⟩;simp only at hB h0 h1 h6 h7 hlen;rw[mJ hlen];simp only[jV,kT,ag,h0,h1,h6,h7];simp only[ssS,ag,ae,reduceIte,af];refine jR (fun h => ?_) (fun h => ?_)
  ·have hlt:k<s.length:=by have:=of_decide_eq_true h;omega
   have hx2:s[k]? = some s[k]:=by simp[hlt]
   have hdrop:s.drop k=s[k]::s.drop (k+1):=bF hlt;generalize s[k]=c at hx2 hdrop;rw[hdrop,qL.eq_def]at hq;simp only at hq;simp only[nG hx2,ssS,ag,ae,reduceIte,af];obtain⟨p,u,hb1,hb2,hb3,hb4⟩:=id hB
   have hu:∃ tok,u = .sl (acc.map by8) [] tok:=by
    rcases hb4 with ⟨rfl,h⟩|⟨_,t,k,_,_,h⟩
    ·exact⟨_,h⟩
    ·exact⟨_,h⟩
   refine jR (fun h1 => ?_) (fun h1 => ?_)
   ·have e1:c.toNat=34:=by have:=eq_of_beq h1;omega
    rw[if_pos e1]at hq
    have hw:IntKind.i64.wrap ((k:Int)+2)=((k+2:Nat):Int):=by
     rw[wrap_i64 (by omega) (by omega)];rfl
    simp only[ssS,ag,ae,reduceIte,af];refine pJ (L.string m1 b p u acc hb1 (by omega) (hb4.imp_right fun ⟨h,t,k,x,_,y⟩=>⟨h,t,k,x,y⟩)) ?_ (by rintro v m' ⟨⟨⟩,_⟩);rintro v m' ⟨hv,hkeep⟩;cases hv;simp only[hw,ssS,ag,ae,reduceIte,af];refine good (fun c x hc=>hkeep c x (hb3 c x hc) ?_) hq.symm rfl;rintro l2 k2 hu2
    rcases hb4 with ⟨_,h⟩|⟨_,t2,k3,_,h2,h3⟩
    ·rw[h]at hu2;cases hu2
    ·rw[h3]at hu2;simp only[V.sl.injEq,Tok.tip.injEq]at hu2;rw[←hu2.2.2.1,h2]at hc;cases hc
   ·have e1:¬ c.toNat=34:=by
     intro e;rw[e]at h1;cases h1
    rw[if_neg e1]at hq;simp only[ssS,ag,ae,reduceIte,af];refine l7 (fun h2 => ?_) (fun h2 => ?_)
    ·have e2:c.toNat<32:=by have:=of_decide_eq_true h2;omega
     rw[if_pos (.inl e2)]at hq;simp only[h2,ssS,ag,ae,reduceIte,af];exact⟨acc,hB,hq.symm⟩
    ·have e2:¬ c.toNat<32:=by have:=of_decide_eq_false h2;omega
     simp only[h2,ssS,ag,ae,reduceIte,af];refine jR (fun h3 => ?_) (fun h3 => ?_)
     ·have e3:c.toNat>126:=by have:=of_decide_eq_true h3;omega
      rw[if_pos (.inr e3)]at hq;simp only[ssS,ag,ae,reduceIte,af];exact⟨acc,hB,hq.symm⟩
     ·have e3:¬ c.toNat>126:=by have:=of_decide_eq_false h3;omega
      rw[if_neg (by omega)]at hq;simp only[ssS,ag,ae,reduceIte,af];refine WP (M:=fun st=>∃ (k':Nat) (c':UInt8),st.m=m1∧k≤k' ∧ k'<s.length∧res=(if acc.length=255 then .error 5 else qL (s.drop (k'+1)) (acc++[c']) (k'+1))∧st.t.length=59∧jT st.t 0 = .ptr xb 0∧jT st.t 1=bs s∧jT st.t 6 = .ptr b 0∧jT st.t 7=it k'∧jT st.t 8=by8 c') ?_ ?_
      ·rintro⟨t,m2⟩ ⟨k',c',hm2,hkk,hlt',hres',hlen,h0,h1,h6,h7,h8⟩;simp only at hm2 hlen h0 h1 h6 h7 h8;subst hm2;rw[mJ hlen];simp only[jV,kT,ag,h0,h1,h6,h7,h8];simp only[ssS,ag,ae,reduceIte,af];have hu':=hu;obtain⟨tok,rfl⟩:=hu';refine jK (zay hb1) ?_;simp only[aK,ssS,ag,ae,reduceIte,af];refine jR (fun h => ?_) (fun h => ?_)
       ·have h255:acc.length=255:=by have:=eq_of_beq h;omega
        have hx1:=hb3 _ _ hx;simp only[hx1,ssS,ag,ae,reduceIte,af];exact fail (l:=acc) hB (by rw[hres',if_pos h255]) rfl
       ·have h255:¬ acc.length=255:=by
         intro e;rw[e]at h;cases h
        rw[if_neg h255]at hres';simp only[ssS,ag,ae,reduceIte,af];refine pJ (Vr L c' hb1 hb2 (by omega) (hb4.imp_right fun ⟨h,t,k,x,_,y⟩=>⟨h,t,k,x,y⟩)) ?_ (by rintro v m' ⟨⟨⟩,_⟩);rintro v m' ⟨hv,t,j,htb,hmt,rfl⟩;cases hv
        have hmt0:m t=none:=by
         rcases hmt with h|⟨k0,h,l0,hl0⟩
         ·cases hm:m t with
          |none=>rfl
          |some x=>rw[hb3 _ _ hm]at h;cases h
         ·rcases hb4 with ⟨_,h2⟩|⟨_,t2,k2,q1,q2,q3⟩
          ·rw[h2]at hl0;cases hl0
          ·rw[q3]at hl0;simp only[V.sl.injEq,Tok.tip.injEq]at hl0;rw[←hl0.2.2.1];exact q2
        simp only[jQ (show k'<4611686018427387904 by omega),ssS,ag,ae,reduceIte,af];refine⟨s.length-(k'+1),by omega,k'+1,acc++[c'],rfl,by omega,by simp;omega,hres'.symm,⟨.ptr b 0,_,Store.jv _ _ _,.inr rfl,?_,.inr ⟨by simp,t,j,?_,hmt0,rfl⟩⟩,rfl⟩
        ·intro c x hc;have n1:c≠b:=by rintro rfl;rw[hb]at hc;cases hc
         have n2:c≠t:=by rintro rfl;rw[hmt0]at hc;cases hc
         rw[Store.jw _ _ n1,Store.jw _ _ n2];exact hb3 c x hc
        ·rw[Store.jw _ _ htb,Store.jv]
      ·refine jR (fun h4 => ?_) (fun h4 => ?_)
       ·have e4:c.toNat=92:=by have:=eq_of_beq h4;omega
        rw[if_pos e4]at hq;simp only[jQ (show k<4611686018427387904 by omega),ssS,ag,ae,reduceIte,af];refine l7 (fun h5 => ?_) (fun h5 => ?_)
        ·have e5:k+1=s.length:=by have:=eq_of_beq h5;omega
         rw[e5,dB]at hq;simp only[h5,ssS,ag,ae,reduceIte,af];exact⟨acc,hB,hq.symm⟩
        ·have e5:k+1<s.length:=by
          have:¬ k+1=s.length:=by
           intro e;rw[e]at h5;simp at h5
          omega
         have hx3:s[k+1]? = some s[k+1]:=by simp[e5]
         have hdrop2:s.drop (k+1)=s[k+1]::s.drop (k+1+1):=bF e5;generalize s[k+1]=d at hx3 hdrop2;rw[hdrop2]at hq;simp only at hq;simp only[h5,nG hx3,ssS,ag,ae,reduceIte,af];refine jK (L.indexByte m1 [92,34,110] d (by decide)) ?_
         have good2:(d.toNat=92∨d.toNat=34∨d.toNat=110)→res=(if acc.length=255 then .error 5 else qL (s.drop (k+1+1)) (acc++[if d.toNat=110 then 10 else d]) (k+1+1)):=by
          intro hd;rw[if_neg (by omega)]at hq;exact hq.symm
         have nq:∀ {k:Nat},¬ d.toNat=k→((d.toNat:Int)==(k:Int))=false:=by
          intro k hk;simp only[beq_eq_false_iff_ne,ne_eq];omega
         have hi:=zkQ d
         by_cases d1:d.toNat=92
         ·rw[if_pos d1]at hi;have f2:((d.toNat:Int)==110)=false:=nq (k:=110) (by omega);have hg:=good2 (.inl d1);rw[if_neg (show ¬ d.toNat=110 by omega)]at hg;have f1:decide (N7 [92,34,110] d<0)=false:=by rw[hi];rfl
          simp only[f1,nG hx3,f2,ssS,ag,ae,reduceIte,af];exact⟨k+1,d,by omega,e5,hg,rfl,rfl⟩
         ·rw[if_neg d1]at hi
          by_cases d2:d.toNat=34
          ·rw[if_pos d2]at hi;have f2:((d.toNat:Int)==110)=false:=nq (k:=110) (by omega);have hg:=good2 (.inr (.inl d2));rw[if_neg (show ¬ d.toNat=110 by omega)]at hg;have f1:decide (N7 [92,34,110] d<0)=false:=by rw[hi];rfl
           simp only[f1,nG hx3,f2,ssS,ag,ae,reduceIte,af];exact⟨k+1,d,by omega,e5,hg,rfl,rfl⟩
          ·rw[if_neg d2]at hi
           by_cases d3:d.toNat=110
           ·rw[if_pos d3]at hi;have f4:((d.toNat:Int)==110)=true:=by rw[d3];rfl
            have hg:=good2 (.inr (.inr d3));rw[if_pos d3]at hg;have f1:decide (N7 [92,34,110] d<0)=false:=by rw[hi];rfl
            simp only[f1,nG hx3,f4,ssS,ag,ae,reduceIte,af];exact⟨k+1,10,by omega,e5,hg,rfl,rfl⟩
           ·rw[if_neg d3]at hi;rw[if_pos ⟨d1,d2,d3⟩]at hq;have f1:decide (N7 [92,34,110] d<0)=true:=by rw[hi];rfl
            simp only[f1,ssS,ag,ae,reduceIte,af];exact⟨acc,hB,hq.symm⟩
       ·have e4:¬ c.toNat=92:=by
         intro e;rw[e]at h4;cases h4
        rw[if_neg e4]at hq;simp only[ssS,ag,ae,reduceIte,af];exact⟨k,c,aY k,hlt,hq.symm,rfl,rfl⟩
  ·have hge:k=s.length:=by have:=of_decide_eq_false h;omega
   simp only[ssS,ag,ae,reduceIte,af];exact⟨acc,hB,by rw[←hq,hge,dB,qL]⟩
def uI(b:UInt8):Bool:=b.toNat != 10
theorem uj{p r:List UInt8}(h:p.isPrefixOf r=true):p.length≤r.length:=(List.isPrefixOf_iff_prefix.1 h).length_le
theorem Je{r:List UInt8}(h:[47,47].isPrefixOf r=true):0<(r.takeWhile uI).length:=by
 cases r with
 |nil=>cases h
 |cons b r=>
  simp only[dP,aG,beq_iff_eq]at h;obtain⟨rfl,_⟩:=h;rw[bP (by decide)];simp
def mZ(r:List UInt8)(a l:Nat):Nat×Nat:=
 if h:[10].isPrefixOf r=true then mZ (r.drop 1) (a+1) (l+1)
 else if h2:([32].isPrefixOf r||[9].isPrefixOf r)=true then mZ (r.drop 1) (a+1) l
 else if h3:[47,47].isPrefixOf r=true then mZ (r.drop (r.takeWhile uI).length) (a+(r.takeWhile uI).length) l
 else (a,l)
termination_by r.length
decreasing_by
 ·have:=uj h;simp at this ⊢;omega
 ·have:1≤r.length:=by
   rw[cZ]at h2
   rcases h2 with h2|h2
   ·simpa using uj h2
   ·simpa using uj h2
  simp;omega
 ·have h4:=Je h3;have h5:=uj h3;simp at h5 ⊢;omega
theorem zdU{Γ:jG}{m:Store}{xb:Nat}{T:TypeId}{e:Int}(s:List UInt8)(a0 l0:Nat)(ha:a0≤s.length)(hl:l0+s.length<4611686018427387904)(hx:m xb=some (.var T [bs s,it a0,it l0,it e])) :
  jB Tryz.prog Γ 242 [.ptr xb 0] m fun o m'=>o = .ret (.tup [])∧m'=m.set xb (.var T [bs s,it (mZ (s.drop a0) a0 l0).1,it (mZ (s.drop a0) a0 l0).2,it e]):=by
 refine jE mixed zfs (by rintro v m b x _ ⟨⟨⟩,_⟩) ?_;simp only[zlZ,ss0,ay,ag];simp only[ssS,ag,ae,reduceIte,af]
 refine nX (fun n st=>∃ a l:Nat,n=s.length-a∧a≤s.length∧l+(s.length-a)<4611686018427387904∧mZ (s.drop a) a l=mZ (s.drop a0) a0 l0∧st.m=m.set xb (.var T [bs s,it a,it l,it e])∧st.t.length=55∧jT st.t 0 = .ptr xb 0)
  (s.length-a0) ⟨a0,l0,rfl,ha,by omega,rfl,(Store.sZ m hx).symm,rfl,rfl⟩ ?_
 rintro n ⟨t,m1⟩ ⟨a,l,hn,hal,hll,hres,hm,hlen,h0⟩;simp only at hm h0 hlen;subst hm;rw[mJ hlen];simp only[jV,kT,ag,h0];have hsl:nM (bs s) (some (some (a:Int))) (some none)=some (bs (s.drop a)):=vZ hal;simp only[Store.jv,hsl,ssS,ag,ae,reduceIte,af];refine jK (qU _ _) ?_;simp only[ssS,ag,ae,reduceIte,af];refine jR (fun h => ?_) (fun h => ?_)
 ·have hlt:a<s.length:=by have:=uj h;simp at this;omega
  simp only[Store.jv,Store.kC,jQ (show l<4611686018427387904 by omega),jQ (show a<4611686018427387904 by omega),ssS,ag,ae,reduceIte,af];refine⟨s.length-(a+1),by omega,a+1,l+1,rfl,hlt,by omega,?_,rfl⟩;rw[←hres,mZ.eq_1 (s.drop a),dif_pos h,bV]
 ·simp only[ssS,ag,ae,reduceIte,af];refine jK (qU _ _) ?_;simp only[ssS,ag,ae,reduceIte,af]
  have blank:∀ k,([32].isPrefixOf (s.drop a)||[9].isPrefixOf (s.drop a))=true→k=mZ (s.drop (a+1)) (a+1) l→k=mZ (s.drop a0) a0 l0:=by
   intro k h2 hk;rw[←hres,mZ.eq_1 (s.drop a),dif_neg (by rw[h];simp),dif_pos h2,bV,hk]
  refine l7 (fun h2 => ?_) (fun h2 => ?_)
  ·have hlt:a<s.length:=by have:=uj h2;simp at this;omega
   simp only[h2,Store.jv,Store.kC,jQ (show a<4611686018427387904 by omega),ssS,ag,ae,reduceIte,af];refine⟨s.length-(a+1),by omega,a+1,l,rfl,hlt,by omega,blank _ (by rw[h2];rfl) rfl,rfl⟩
  ·simp only[h2,ssS,ag,ae,reduceIte,af];refine jK (qU _ _) ?_;simp only[ssS,ag,ae,reduceIte,af];refine jR (fun h3 => ?_) (fun h3 => ?_)
   ·have hlt:a<s.length:=by have:=uj h3;simp at this;omega
    simp only[Store.jv,Store.kC,jQ (show a<4611686018427387904 by omega),ssS,ag,ae,reduceIte,af];refine⟨s.length-(a+1),by omega,a+1,l,rfl,hlt,by omega,blank _ (by rw[h3];simp) rfl,rfl⟩
   ·simp only[ssS,ag,ae,reduceIte,af];refine jK (qU _ _) ?_;simp only[ssS,ag,ae,reduceIte,af];have hno:¬ ([32].isPrefixOf (s.drop a)||[9].isPrefixOf (s.drop a))=true:=by rw[h2,h3];simp
    have hno1:¬ [10].isPrefixOf (s.drop a)=true:=by rw[h];simp
    refine jR (fun h4 => ?_) (fun h4 => ?_)
    ·simp only[Store.jv,ssS,ag,ae,reduceIte,af];refine jK (Rj (p:=uI) (s.drop a) (by simp;omega) (fun b=>zbX b)) ?_;have hr0:=Je h4
     have hr1:((s.drop a).takeWhile uI).length≤s.length-a:=by
      have:=(bu uI (l:=s.drop a)).length_le
      simpa using this
     have hw:IntKind.i64.wrap ((a:Int)+(((s.drop a).takeWhile uI).length:Int))=((a+((s.drop a).takeWhile uI).length:Nat):Int):=by
      rw[wrap_i64 (by omega) (by omega)];rfl
     simp only[Store.jv,Store.kC,hw,ssS,ag,ae,reduceIte,af];refine⟨s.length-(a+((s.drop a).takeWhile uI).length),by omega,a+((s.drop a).takeWhile uI).length,l,rfl,by omega,by omega,?_,rfl⟩;rw[←hres,mZ.eq_1 (s.drop a),dif_neg hno1,dif_neg hno,dif_pos h4,bV]
    ·simp only[ssS,ag,ae,reduceIte,af];refine jF (v:=.tup []) rfl ⟨rfl,?_⟩;have hno4:¬ [47,47].isPrefixOf (s.drop a)=true:=by rw[h4];simp
     rw[←hres,mZ.eq_1 (s.drop a),dif_neg hno1,dif_neg hno,dif_neg hno4]
def numL:Nat→List UInt8→Option Nat
 |n,[]=>some n
 |n,b::r=>if n>(9223372036854775807-(b.toNat-48)) / 10 then none else numL (10*n+(b.toNat-48)) r
def NE(s:List UInt8):Int:=match numL 0 s with
 |some n=>n
 |none => -1
theorem ze1{n:Int}:Eh Tryz.prog 5 3 (.val (.int .u8 n))=some (.val (.int .i64 (IntKind.i64.wrap n))):=by kernel_rfl
theorem ZI{Γ:jG}{m:Store}(s:List UInt8)(hs:s.length<4611686018427387904)(hd:∀ b∈s,dig b=true):jB Tryz.prog Γ 205 [bs s] m fun o m'=>o = .ret (it (NE s))∧m'=m:=by
 refine jE mixed zfE (by rintro v m b x _ ⟨⟨⟩,_⟩) ?_;simp only[zl9,ss0,ay,ag];simp only[ssS,ag,ae,reduceIte,af];refine nX (fun n st=>∃ i k:Nat,n=s.length-i∧i≤s.length∧k≤9223372036854775807∧numL k (s.drop i)=numL 0 s∧st.m=m∧st.t.length=27∧jT st.t 0=bs s∧jT st.t 3=it k∧jT st.t 4=it i) s.length ⟨0,0,rfl,bW _,by omega,rfl,rfl,rfl,rfl,rfl,rfl⟩ ?_;rintro n ⟨t,m1⟩ ⟨i,k,hn,hi,hk,hres,hm,hlen,h0,h3,h4⟩;simp only at hm h0 h3 h4 hlen;subst hm;rw[mJ hlen];simp only[jV,kT,ag,h0,h3,h4];simp only[ssS,ag,ae,reduceIte,af];refine jR (fun h => ?_) (fun h => ?_)
 ·have hlt:i<s.length:=by have:=of_decide_eq_true h;omega
  have hx:s[i]? = some s[i]:=by simp[hlt]
  have hb:=hd s[i] (dS _);simp only[dig,aG,decide_eq_true_eq]at hb;generalize hbe:s[i]=b at hx hb
  have hw:IntKind.u8.wrap ((b.toNat:Int)-48)=((b.toNat-48:Nat):Int):=by
   unfold IntKind.wrap;simp only[IntKind.bits,IntKind.signed,Bool.false_and,aF,if_false];omega
  have hw2:IntKind.i64.wrap ((b.toNat-48:Nat):Int)=((b.toNat-48:Nat):Int):=wrap_i64 (by omega) (by omega)
  have hw3:IntKind.i64.wrap (9223372036854775807-((b.toNat-48:Nat):Int))=((9223372036854775807-(b.toNat-48):Nat):Int):=by
   rw[wrap_i64 (by omega) (by omega)];omega
  have hq:Int.tdiv ((9223372036854775807-(b.toNat-48):Nat):Int) 10=(((9223372036854775807-(b.toNat-48)) / 10:Nat):Int):=by
   rw[Int.tdiv_eq_ediv_of_nonneg (by omega)];omega
  have hw4:IntKind.i64.wrap (((9223372036854775807-(b.toNat-48)) / 10:Nat):Int)=(((9223372036854775807-(b.toNat-48)) / 10:Nat):Int):=wrap_i64 (by omega) (by omega);have hdrop:s.drop i=b::s.drop (i+1):=by rw[←hbe];exact bF hlt
  simp only[nG hx,hw,lq,ze1,hw2,hw3,Dj (show(10:Int)≠0 by decide),hq,hw4,ssS,ag,ae,reduceIte,af];refine jR (fun h2 => ?_) (fun h2 => ?_)
  ·have hg:k>(9223372036854775807-(b.toNat-48)) / 10:=by have:=of_decide_eq_true h2;omega
   simp only[ssS,ag,ae,reduceIte,af];refine jF jD ⟨?_,rfl⟩;simp only[jH,jI]
   have:NE s = -1:=by
    unfold NE;rw[←hres,hdrop,numL,if_pos hg]
   rw[this]
  ·have hg:¬ k>(9223372036854775807-(b.toNat-48)) / 10:=by have:=of_decide_eq_false h2;omega
   have hw5:IntKind.i64.wrap (10*(k:Int))=((10*k:Nat):Int):=by rw[wrap_i64 (by omega) (by omega)];rfl
   have hw6:IntKind.i64.wrap (((10*k:Nat):Int)+((b.toNat-48:Nat):Int))=((10*k+(b.toNat-48):Nat):Int):=by rw[wrap_i64 (by omega) (by omega)];rfl
   simp only[hw5,hw6,jQ (show i<4611686018427387904 by omega),ssS,ag,ae,reduceIte,af];refine⟨s.length-(i+1),by omega,i+1,10*k+(b.toNat-48),rfl,hlt,by omega,?_,rfl,rfl⟩;rw[←hres,hdrop,numL,if_neg hg]
 ·have hge:i=s.length:=by have:=of_decide_eq_false h;omega
  simp only[ssS,ag,ae,reduceIte,af];refine jF jD ⟨?_,rfl⟩;simp only[jH,jI]
  have:NE s=k:=by
   unfold NE;rw[←hres,hge,dB,numL]
  rw[this]
end Go.Av.Fn
namespace Go.Av.Fn
open Go.Proofs
theorem VV{r acc:List UInt8}{k:Nat}{e:Int}(h:qL r acc k = .error e):e≠0:=by
 fun_induction qL r acc k<;>simp_all<;>(subst h;decide)
def sW(r:List UInt8):Except Int (Tk×Nat):=match r with
 |[]=>.error 6
 |c::_=>
  if xn c then
   if lw.contains (r.takeWhile l9)then .ok (⟨5,r.takeWhile l9,0,0,0⟩,(r.takeWhile l9).length)
   else if (r.takeWhile l9).length>20 then .error 5 else .ok (⟨1,r.takeWhile l9,0,0,0⟩,(r.takeWhile l9).length)
  else if dig c then match numL 0 (r.takeWhile dig)with
   |none=>.error 5
   |some n=>.ok (⟨2,[],n,0,0⟩,(r.takeWhile dig).length)
  else if c.toNat=34 then match qL (r.drop 1) [] 0 with
   | .error e=>.error e
   | .ok (l,k)=>.ok (⟨3,l,0,0,0⟩,k+2)
  else match kV.find? fun p=>p.isPrefixOf r with
   |some p=>.ok (⟨4,p,0,0,0⟩,p.length)
   |none=>.error 6
def MB(a:Nat)(r:Except Int (Tk×Nat))(o:Out):Prop:=match r with
 | .ok (t,n)=>o = .ret (.tup [tkV t,it ((a+n:Nat):Int),it 0])
 | .error e=>e≠0∧∃ (t:Tk) (w:V),o = .ret (.tup [tkV t,w,it e])
theorem zbq{x y z:Nat}{b o:Nat}{T:TypeId}{sz:Option Nat}{cs:List V}{u:V}{t:List V}{m:Store}(h1:jT t x = .ptr b o)(h2:m b=some (.var T cs))(h3:mW cs o sz=some u) :
  resV [.cell x sz,.tmp y,.tmp z] ⟨t,m⟩=some (.tup [u,jT t y,jT t z]):=by
 simp only[resV,qo,qJ,nz,h1,h2,h3,dV]
theorem Vz{p:UInt8→Bool}:∀ (r:List UInt8),∀ x∈r.takeWhile p,p x=true
 |[],x,hx=>by cases hx
 |b::r,x,hx=>by
  cases hb:p b with
  |true=>
   rw[bP hb]at hx
   rcases List.mem_cons.1 hx with rfl|hx
   ·exact hb
   ·exact Vz r x hx
  |false=>
   rw[gX (by simp[hb])]at hx;cases hx
theorem takeWhile_take{p:UInt8→Bool}(r:List UInt8):r.take (r.takeWhile p).length=r.takeWhile p:=by
 induction r with
 |nil=>rfl
 |cons b r ih=>
  cases hb:p b with
  |true=>rw[bP hb,ax,di,ih]
  |false=>rw[gX (by simp[hb])];rfl
theorem Ub{Γ:jG}{m:Store}(s:List UInt8)(a:Nat)(ha:a<s.length)(hs:s.length<2305843009213693952) :
  jB Tryz.prog Γ 188 [bs s,it a] m fun o m'=>MB a (sW (s.drop a)) o∧m'=m:=by
 refine jE mixed zfM (by
  rintro v m b x _ ⟨h,_⟩;exfalso;unfold MB at h
  split at h
  ·cases h
  ·obtain⟨_,_,_,h⟩:=h
   cases h) ?_
 have hx:s[a]? = some s[a]:=by simp[ha]
 have hdrop:s.drop a=s[a]::s.drop (a+1):=bF ha;generalize s[a]=c at hx hdrop;simp only[zmh,ss0,ay,ag];simp only[ssS,ag,ae,reduceIte,af];refine kz fun b hb => ?_;simp only[nG hx,ssS,ag,ae,reduceIte,af];refine jK (xX c) ?_;simp only[ssS,ag,ae,reduceIte,af]
 have fin:∀ {t:List V} {m2:Store} {u:V} {T:TypeId} {cs:List V},jT t 4 = .ptr b 0→m2 b=some (.var T cs)→mW cs 0 (some 5)=some u→(∀ c,c≠b→m2 c=m c)→MB a (sW (s.drop a)) (.ret (.tup [u,jT t 5,jT t 6])) →
   vT [.cell 4 (some 5),.tmp 5,.tmp 6] (fun o m'=>MB a (sW (s.drop a)) o∧m'=m) .ret ⟨t,m2⟩:=by
  intro t m2 u T cs h1 h2 h3 h4 h5;exact mD (zbq h1 h2 h3) (BJ hb h4) ⟨h5,rfl⟩
 refine jR (fun hc => ?_) (fun hc => ?_)
 ·-- a name or a word
  have hspec:sW (s.drop a)=if lw.contains ((s.drop a).takeWhile l9)then .ok (⟨5,(s.drop a).takeWhile l9,0,0,0⟩,((s.drop a).takeWhile l9).length)
    else if ((s.drop a).takeWhile l9).length>20 then .error 5 else .ok (⟨1,(s.drop a).takeWhile l9,0,0,0⟩,((s.drop a).takeWhile l9).length):=by
   rw[hdrop];simp only[sW,hc,if_true]
  simp only[ssS,ag,ae,reduceIte,af]
  have hL:((s.drop a).takeWhile l9).length≤s.length-a:=by
   have:=(bu l9 (l:=s.drop a)).length_le
   simpa using this
  have hcut:nM (bs s) (some (some (a:Int))) (some (some ((a+((s.drop a).takeWhile l9).length:Nat):Int)))=some (bs ((s.drop a).takeWhile l9)):=by
   rw[Au (by omega) (by omega),dJ,dF,takeWhile_take]
  generalize hW:(s.drop a).takeWhile l9=W at hspec hL hcut;refine nC (qX (qI (n:=fun st=>st.m=m.set b (.var 185 [it 0,bs [],it 0,it 0,it 0])∧st.t.length=144∧jT st.t 0=bs s∧jT st.t 1=it a∧jT st.t 4 = .ptr b 0∧jT st.t 8=it ((a+W.length:Nat):Int)) ?_ (fun _ _ h=>h))) ?_
  ·rintro⟨t,m1⟩ ⟨hm,hlen,h0,h1,h4,h8⟩;simp only at hm h0 h1 h4 h8 hlen;subst hm;rw[mJ hlen];simp only[jV,kT,ag,h0,h1,h4,h8];simp only[hcut,ssS,ag,ae,reduceIte,af];refine jK (Nj W) ?_;simp only[ssS,ag,ae,reduceIte,af];refine jR (fun hw => ?_) (fun hw => ?_)
   ·simp only[Store.jv,ssS,ag,ae,reduceIte,af];refine fin rfl (Store.jv _ _ _) rfl (fun c hc=>by simp[Store.set,hc]) ?_;rw[hspec,if_pos hw];rfl
   ·simp only[ssS,ag,ae,reduceIte,af];refine jR (fun h20 => ?_) (fun h20 => ?_)
    ·have h20:W.length>20:=by have:=of_decide_eq_true h20;omega
     simp only[Store.jv,ssS,ag,ae,reduceIte,af];refine fin rfl (Store.jv _ _ _) rfl (fun c hc=>by simp[Store.set,hc]) ?_;rw[hspec,if_neg (by rw[hw];simp),if_pos h20];exact⟨by decide,⟨0,[],0,0,0⟩,_,rfl⟩
    ·have h20:¬ W.length>20:=by have:=of_decide_eq_false h20;omega
     simp only[Store.jv,ssS,ag,ae,reduceIte,af];refine fin rfl (Store.jv _ _ _) rfl (fun c hc=>by simp[Store.set,hc]) ?_;rw[hspec,if_neg (by rw[hw];simp),if_neg h20];rfl
  refine nX (fun n st=>∃ j:Nat,n=s.length-(a+j)∧a+j≤s.length∧(∀ x∈(s.drop a).take j,l9 x=true)∧st.m=m.set b (.var 185 [it 0,bs [],it 0,it 0,it 0])∧st.t.length=144∧jT st.t 0=bs s∧jT st.t 1=it a∧jT st.t 4 = .ptr b 0∧jT st.t 8=it ((a+j:Nat):Int)) (s.length-a)
   ⟨0,rfl,by omega,by simp,rfl,rfl,rfl,rfl,rfl,rfl⟩ ?_
  rintro n ⟨t,m1⟩ ⟨j,hn,hj,hpre,hm,hlen,h0,h1,h4,h8⟩;simp only at hm h0 h1 h4 h8 hlen;subst hm;rw[mJ hlen];simp only[jV,kT,ag,h0,h1,h4,h8];simp only[ssS,ag,ae,reduceIte,af];refine l7 (fun h => ?_) (fun h => ?_)
  ·have hlt:a+j<s.length:=by have:=of_decide_eq_true h;omega
   have hx:s[a+j]? = some s[a+j]:=by simp[hlt]
   have hr:(s.drop a)[j]? = some s[a+j]:=by rw[fF,hx]
   generalize s[a+j]=d at hx hr
   have stop:l9 d=false→W.length=j:=fun hd=>by
    rw[←hW];exact nK hpre (by simp;omega) (fun b hb=>by rw[hr]at hb;cases hb;exact hd)
   have more:l9 d=true→∀ x∈(s.drop a).take (j+1),l9 x=true:=by
    intro hd x hx;rw[aW,hr]at hx
    rcases List.mem_append.1 hx with hx|hx
    ·exact hpre x hx
    ·simp at hx;subst hx;exact hd
   simp only[h,nG hx,ssS,ag,ae,reduceIte,af];refine jK (xX d) ?_;simp only[ssS,ag,ae,reduceIte,af];refine l7 (fun hd => ?_) (fun hd => ?_)
   ·simp only[hd,jQ (show a+j<4611686018427387904 by omega),ssS,ag,ae,reduceIte,af];refine⟨s.length-(a+(j+1)),by omega,j+1,rfl,hlt,more (by simp[l9,hd]),rfl⟩
   ·simp only[hd,nG hx,ssS,ag,ae,reduceIte,af];refine jK (zS d) ?_;simp only[ssS,ag,ae,reduceIte,af];refine jR (fun hd2 => ?_) (fun hd2 => ?_)
    ·simp only[jQ (show a+j<4611686018427387904 by omega),ssS,ag,ae,reduceIte,af];refine⟨s.length-(a+(j+1)),by omega,j+1,rfl,hlt,more (by simp[l9,hd2]),rfl⟩
    ·simp only[ssS,ag,ae,reduceIte,af];rw[stop (by simp[l9,hd,hd2])]
  ·have hge:a+j=s.length:=by have:=of_decide_eq_false h;omega
   have stop:W.length=j:=by
    rw[←hW];exact nK hpre (by simp;omega) (fun b hb=>by rw[dh (by simp;omega)]at hb;cases hb)
   simp only[h,ssS,ag,ae,reduceIte,af];rw[stop]
 ·simp only[ssS,ag,ae,reduceIte,af];refine jK (zS c) ?_;simp only[ssS,ag,ae,reduceIte,af];refine jR (fun hc2 => ?_) (fun hc2 => ?_)
  ·-- a number
   have hspec:sW (s.drop a)=match numL 0 ((s.drop a).takeWhile dig)with
     |none=>.error 5
     |some n=>.ok (⟨2,[],n,0,0⟩,((s.drop a).takeWhile dig).length):=by
    rw[hdrop];simp only[sW,hc,hc2,if_true,aF,if_false]
   simp only[ssS,ag,ae,reduceIte,af]
   have hL:((s.drop a).takeWhile dig).length≤s.length-a:=by
    have:=(bu dig (l:=s.drop a)).length_le
    simpa using this
   have hcut:nM (bs s) (some (some (a:Int))) (some (some ((a+((s.drop a).takeWhile dig).length:Nat):Int)))=some (bs ((s.drop a).takeWhile dig)):=by
    rw[Au (by omega) (by omega),dJ,dF,takeWhile_take]
   have hall:∀ x∈(s.drop a).takeWhile dig,dig x=true:=Vz _;generalize hW:(s.drop a).takeWhile dig=W at hspec hL hcut hall;refine nC (qX (qI (n:=fun st=>st.m=m.set b (.var 185 [it 0,bs [],it 0,it 0,it 0])∧st.t.length=144∧jT st.t 0=bs s∧jT st.t 1=it a∧jT st.t 4 = .ptr b 0∧jT st.t 8=it ((a+W.length:Nat):Int)) ?_ (fun _ _ h=>h))) ?_
   ·rintro⟨t,m1⟩ ⟨hm,hlen,h0,h1,h4,h8⟩;simp only at hm h0 h1 h4 h8 hlen;subst hm;rw[mJ hlen];simp only[jV,kT,ag,h0,h1,h4,h8];simp only[hcut,ssS,ag,ae,reduceIte,af];refine jK (ZI W (by omega) hall) ?_;simp only[ssS,ag,ae,reduceIte,af]
    cases hnum:numL 0 W with
    |none=>
     have hv:decide (NE W<0)=true:=by simp[NE,hnum]
     simp only[hv,Store.jv,ssS,ag,ae,reduceIte,af];refine fin rfl (Store.jv _ _ _) rfl (fun c hc=>by simp[Store.set,hc]) ?_;rw[hspec,hnum];exact⟨by decide,⟨0,[],0,0,0⟩,_,rfl⟩
    |some k=>
     have hv:decide (NE W<0)=false:=by simp[NE,hnum]
     have hv2:NE W=k:=by simp[NE,hnum]
     have hv3:decide ((k:Int)<0)=false:=by simp
     simp only[hv3,hv2,Store.jv,ssS,ag,ae,reduceIte,af];refine fin rfl (Store.jv _ _ _) rfl (fun c hc=>by simp[Store.set,hc]) ?_;rw[hspec,hnum];rfl
   refine nX (fun n st=>∃ j:Nat,n=s.length-(a+j)∧a+j≤s.length∧(∀ x∈(s.drop a).take j,dig x=true)∧st.m=m.set b (.var 185 [it 0,bs [],it 0,it 0,it 0])∧st.t.length=144∧jT st.t 0=bs s∧jT st.t 1=it a∧jT st.t 4 = .ptr b 0∧jT st.t 8=it ((a+j:Nat):Int)) (s.length-a)
    ⟨0,rfl,by omega,by simp,rfl,rfl,rfl,rfl,rfl,rfl⟩ ?_
   rintro n ⟨t,m1⟩ ⟨j,hn,hj,hpre,hm,hlen,h0,h1,h4,h8⟩;simp only at hm h0 h1 h4 h8 hlen;subst hm;rw[mJ hlen];simp only[jV,kT,ag,h0,h1,h4,h8];simp only[ssS,ag,ae,reduceIte,af];refine l7 (fun h => ?_) (fun h => ?_)
   ·have hlt:a+j<s.length:=by have:=of_decide_eq_true h;omega
    have hx:s[a+j]? = some s[a+j]:=by simp[hlt]
    have hr:(s.drop a)[j]? = some s[a+j]:=by rw[fF,hx]
    generalize s[a+j]=d at hx hr
    have stop:dig d=false→W.length=j:=fun hd=>by
     rw[←hW];exact nK hpre (by simp;omega) (fun b hb=>by rw[hr]at hb;cases hb;exact hd)
    have more:dig d=true→∀ x∈(s.drop a).take (j+1),dig x=true:=by
     intro hd x hx;rw[aW,hr]at hx
     rcases List.mem_append.1 hx with hx|hx
     ·exact hpre x hx
     ·simp at hx;subst hx;exact hd
    simp only[h,nG hx,ssS,ag,ae,reduceIte,af];refine jK (zS d) ?_;simp only[ssS,ag,ae,reduceIte,af];refine jR (fun hd2 => ?_) (fun hd2 => ?_)
    ·simp only[jQ (show a+j<4611686018427387904 by omega),ssS,ag,ae,reduceIte,af];refine⟨s.length-(a+(j+1)),by omega,j+1,rfl,hlt,more hd2,rfl⟩
    ·simp only[ssS,ag,ae,reduceIte,af];rw[stop hd2]
   ·have hge:a+j=s.length:=by have:=of_decide_eq_false h;omega
    have stop:W.length=j:=by
     rw[←hW];exact nK hpre (by simp;omega) (fun b hb=>by rw[dh (by simp;omega)]at hb;cases hb)
    simp only[h,ssS,ag,ae,reduceIte,af];rw[stop]
  ·simp only[ssS,ag,ae,reduceIte,af];refine jR (fun hc3 => ?_) (fun hc3 => ?_)
   ·have e3:c.toNat=34:=by have:=eq_of_beq hc3;omega
    have hspec:sW (s.drop a)=match qL (s.drop (a+1)) [] 0 with
      | .error e=>.error e
      | .ok (l,k)=>.ok (⟨3,l,0,0,0⟩,k+2):=by
     rw[hdrop];simp only[sW,hc,hc2,e3,if_true,aF,if_false,dW,bK]
    simp only[ssS,ag,ae,reduceIte,af];refine jK (Ro s a ha (by omega)) ?_
    cases hq:qL (s.drop (a+1)) [] 0 with
    |error e=>
     simp only[Ug,Store.jv,ssS,ag,ae,reduceIte,af];refine fin rfl (Store.jv _ _ _) rfl (fun c hc=>by simp[Store.set,hc]) ?_;rw[hspec,hq];exact⟨VV hq,⟨3,[],0,0,0⟩,_,rfl⟩
    |ok x=>
     obtain⟨l,k⟩:=x;simp only[Ug,Store.jv,ssS,ag,ae,reduceIte,af];refine fin rfl (Store.jv _ _ _) rfl (fun c hc=>by simp[Store.set,hc]) ?_;rw[hspec,hq];rfl
   ·have e3:¬ c.toNat=34:=by
     intro e;rw[e]at hc3;cases hc3
    have hspec:sW (s.drop a)=match kV.find? fun p=>p.isPrefixOf (s.drop a)with
      |some p=>.ok (⟨4,p,0,0,0⟩,p.length)
      |none=>.error 6:=by
     rw[hdrop];simp only[sW,hc,hc2,e3,aF,if_false]
    simp only[ssS,ag,ae,reduceIte,af];refine jK zdw ?_;simp only[ssS,ag,ae,reduceIte,af];have hlen25:kV.length=25:=rfl
    refine nX (fun n st=>∃ i:Nat,n=25-i∧i≤25∧(∀ x∈kV.take i,x.isPrefixOf (s.drop a)=false)∧st.m=m.set b (.var 185 [it 0,bs [],it 0,it 0,it 0])∧st.t.length=144∧jT st.t 0=bs s∧jT st.t 1=it a∧jT st.t 4 = .ptr b 0∧jT st.t 14 = .sl (kV.map bs) [] .full∧jT st.t 15=it i) 25
     ⟨0,rfl,bW _,by simp,rfl,rfl,rfl,rfl,rfl,rfl,rfl⟩ ?_
    rintro n ⟨t,m1⟩ ⟨i,hn,hi,hpre,hm,hlen,h0,h1,h4,h14,h15⟩;simp only at hm h0 h1 h4 h14 h15 hlen;subst hm;rw[mJ hlen];simp only[jV,kT,ag,h0,h1,h4,h14,h15];simp only[aK,hlen25,ssS,ag,ae,reduceIte,af];refine jR (fun h => ?_) (fun h => ?_)
    ·have hlt:i<25:=by have:=of_decide_eq_true h;omega
     have hlt':i<kV.length:=hlt;have hx:sU 1 (.sl (kV.map bs) [] .full) (it i)=some (.elt [bs kV[i]]):=oh (e:=bs kV[i]) (by simp[hlt']) rfl
     have hpl:kV[i].length≤2:=by
      have:∀ p∈kV,p.length≤2:=by decide
      exact this _ (dS _)
     have hnext:∀ {q:List UInt8},q=kV[i]→q.isPrefixOf (s.drop a)=false→∀ x∈kV.take (i+1),x.isPrefixOf (s.drop a)=false:=by
      rintro q rfl hq x hx;rw[aW]at hx
      rcases List.mem_append.1 hx with hx|hx
      ·exact hpre x hx
      ·simp only[aI hlt',dO,cO]at hx;subst hx;exact hq
     have hfind:∀ {q:List UInt8},q=kV[i]→q.isPrefixOf (s.drop a)=true→kV.find? (fun p=>p.isPrefixOf (s.drop a))=some q:=by
      rintro q rfl hq;rw[gu];refine⟨hq,i,hlt',rfl,fun j hj => ?_⟩;have:=hpre (kV[j]'(by omega)) (List.mem_take_iff_getElem.2 ⟨j,by omega,rfl⟩);simp[this]
     generalize hp:kV[i]=p at hx hpl
     have hw:IntKind.i64.wrap ((a:Int)+(p.length:Int))=((a+p.length:Nat):Int):=by
      rw[wrap_i64 (by omega) (by omega)];rfl
     simp only[hx,hw,ssS,ag,ae,reduceIte,af];refine l7 (fun h2 => ?_) (fun h2 => ?_)
     ·have hle:a+p.length≤s.length:=by have:=of_decide_eq_true h2;omega
      have hcut:nM (bs s) (some (some (a:Int))) (some (some ((a+p.length:Nat):Int)))=some (bs ((s.drop a).take p.length)):=by
       rw[Au (by omega) hle,dJ,dF]
      have hiff:((s.drop a).take p.length==p)=p.isPrefixOf (s.drop a):=by
       rw[bQ];simp only[beq_iff_eq,eF];rw[iH,eq_comm]
      simp only[h2,hx,hw,hcut,ssS,ag,ae,reduceIte,af];refine jR (fun h3 => ?_) (fun h3 => ?_)
      ·rw[hiff]at h3;simp only[hx,hw,Store.jv,ssS,ag,ae,reduceIte,af];refine fin rfl (Store.jv _ _ _) rfl (fun c hc=>by simp[Store.set,hc]) ?_;rw[hspec,hfind hp.symm h3];rfl
      ·rw[hiff]at h3;simp only[jQ (show i<4611686018427387904 by omega),ssS,ag,ae,reduceIte,af];exact⟨25-(i+1),by omega,i+1,rfl,hlt,hnext hp.symm h3,rfl⟩
     ·have hle:¬ a+p.length≤s.length:=by have:=of_decide_eq_false h2;omega
      simp only[h2,jQ (show i<4611686018427387904 by omega),ssS,ag,ae,reduceIte,af];refine⟨25-(i+1),by omega,i+1,rfl,hlt,hnext hp.symm ?_,rfl⟩
      cases hq:p.isPrefixOf (s.drop a)with
      |false=>rfl
      |true=>
       have:=(List.isPrefixOf_iff_prefix.1 hq).length_le;simp at this;omega
    ·have hge:i=25:=by have:=of_decide_eq_false h;omega
     simp only[Store.jv,ssS,ag,ae,reduceIte,af];refine fin rfl (Store.jv _ _ _) rfl (fun c hc=>by simp[Store.set,hc]) ?_
     have hnone:kV.find? (fun p=>p.isPrefixOf (s.drop a))=none:=by
      rw[hge,show 25=kV.length from rfl,bJ]at hpre;rw[List.find?_eq_none];intro x hx;simp[hpre x hx]
     rw[hspec,hnone];exact⟨by decide,⟨0,[],0,0,0⟩,_,rfl⟩
end Go.Av.Fn
namespace Go.Av.Fn
theorem zhB{r acc:List UInt8}{k:Nat}{l:List UInt8}{k':Nat}(h:qL r acc k = .ok (l,k')):k≤k' ∧ k'<k+r.length:=by
 fun_induction qL r acc k<;>simp_all<;>omega
theorem G5{r:List UInt8}{t:Tk}{n:Nat}(h:sW r = .ok (t,n)):0<n∧n≤r.length:=by
 unfold sW at h
 split at h
 ·cases h
 ·rename_i c r'
  split at h
  ·rename_i hc
   have h1:0<((c::r').takeWhile l9).length:=by
    rw[bP (by simp[l9,hc])];simp
   have h2:=(bu l9 (l:=c::r')).length_le
   split at h
   ·simp only[Except.ok.injEq,bz]at h;omega
   ·split at h
    ·cases h
    ·simp only[Except.ok.injEq,bz]at h;omega
  ·split at h
   ·rename_i hc
    have h1:0<((c::r').takeWhile dig).length:=by
     rw[bP hc];simp
    have h2:=(bu dig (l:=c::r')).length_le
    split at h
    ·cases h
    ·simp only[Except.ok.injEq,bz]at h;omega
   ·split at h
    ·split at h
     ·cases h
     ·rename_i l k hq;have:=zhB hq;simp only[Except.ok.injEq,bz]at h;simp at this ⊢;omega
    ·split at h
     ·rename_i p hp;simp only[Except.ok.injEq,bz]at h;have h1:=iw hp;have h2:=List.find?_some hp;have h3:∀ p∈kV,0<p.length:=by decide
      have h4:=h3 p h1;have h5:=uj h2;omega
     ·cases h
def sS(r:List UInt8)(a l:Nat)(acc:List Tk):Except (Nat×Int) (List Tk):=
 let x:=mZ r a l
 let r':=r.drop (x.1-a)
 match h:sW r' with
 | .error e=>if r'=[]then .ok (acc++[⟨0,[],0,x.2,x.1⟩])else .error (x.1,e)
 | .ok (t,n)=>sS (r'.drop n) (x.1+n) x.2 (acc++[{ t with l:=x.2,a:=x.1 }])
termination_by r.length
decreasing_by
 have h1:=G5 h
 have h2:r'.length≤r.length:=by
  show(r.drop _).length≤r.length;rw[aV];omega
 have h3:r'.length=(r.drop ((mZ r a l).1-a)).length:=rfl;rw[aV];omega
end Go.Av.Fn
namespace Go.Av.Fn
open Go.Proofs
def Ad(Γ:jG):Prop:=∀ (m:Store) (s:List UInt8),s≠[]→s.length≤4096→(∀ c∈s,dig c=true) →
 jB Tryz.prog Γ 263 [bs s,it 10,it 64] m fun o m' => (match numL 0 s with
  |some n=>o = .ret (.tup [it n,.val .nilIface])
  |none=>∃ (v:Int) (T:TypeId) (u:V),o = .ret (.tup [it v,.ifc T u]))∧m'=m
def za3(T:TypeId)(a0 a1 a2:V)(xb:Nat)(m:Store)(r:Except Int (Tk×Nat))(o:Out)(m':Store):Prop:=match r with
 | .ok (t,n)=>o = .ret (.tup [tkV t,it n])∧m'=m
 | .error er=>(∃ (t:Tk) (n:Int),o = .ret (.tup [tkV t,it n]))∧er≠0∧m'=m.set xb (.var T [a0,a1,a2,it er])
theorem zeg{xo yo:Operand}{T:TypeId}{u:V}:kR Tryz.prog .neq 266 .iface xo yo (.ifc T u) (.val .nilIface)=some (.val (.bool true)):=rfl
theorem zef:kR Tryz.prog .neq 266 .iface (.tmp 39) (.const .nilIface) (.val .nilIface) (.val .nilIface)=some (.val (.bool false)):=by kernel_rfl
theorem TU{x y:Nat}{b o:Nat}{T:TypeId}{sz:Option Nat}{cs:List V}{u:V}{t:List V}{m:Store}(h1:jT t x = .ptr b o)(h2:m b=some (.var T cs))(h3:mW cs o sz=some u) :
  resV [.cell x sz,.tmp y] ⟨t,m⟩=some (.tup [u,jT t y]):=by
 simp only[resV,qo,qJ,nz,h1,h2,h3,dV]
theorem za2{Γ:jG}(L:xG Γ)(L2:Ad Γ)(h0:Γ 1=some (lw.map bs))(h1:Γ 0=some (kV.map bs)){m:Store}{xb:Nat}{T:TypeId}{a0 a1 a2:V}(s:List UInt8)(hs:s.length≤4096)(hne:s≠[])(hx:m xb=some (.var T [a0,a1,a2,it 0])) :
  jB Tryz.prog Γ 243 [.ptr xb 0,bs s] m fun o m'=>za3 T a0 a1 a2 xb m (sW s) o m':=by
 refine jE mixed zfr (by
  rintro v m b x _ h;exfalso;unfold za3 at h
  split at h
  ·cases h.1
  ·obtain⟨⟨_,_,h⟩,_⟩:=h
   cases h) ?_
 obtain⟨c,r,hsc⟩:∃ c r,s=c::r:=by
  cases s with
  |nil=>exact absurd rfl hne
  |cons c r=>exact⟨c,r,rfl⟩
 have hc0:zV (bs s) (.val (.int .i64 0))=some (.val (.int .u8 c.toNat)):=nG (i:=0) (by rw[hsc];rfl);simp only[zlY,ss0,ay,ag];simp only[ssS,ag,ae,reduceIte,af];refine kz fun b hb => ?_
 have hxb:xb≠b:=by
  rintro rfl;rw[hx]at hb;cases hb
 have hn:∀ m' x,(Store.set m' b x) xb=m' xb:=fun m' x=>Store.jw m' x hxb;have hn2:∀ m' x,(Store.set m' xb x) b=m' b:=fun m' x=>Store.jw m' x hxb.symm;simp only[hc0,ssS,ag,ae,reduceIte,af];refine jK (JD c) ?_;simp only[ssS,ag,ae,reduceIte,af]
 have good:∀ {t:List V} {m2:Store} {k:Tk} {n:Nat},jT t 4 = .ptr b 0→m2 b=some (.var 185 [it k.k,bs k.s,it k.n,it k.l,it k.a])→jT t 5=it n→(∀ c,c≠b→m2 c=m c)→sW s = .ok (k,n) →
   vT [.cell 4 (some 5),.tmp 5] (fun o m'=>za3 T a0 a1 a2 xb m (sW s) o m') .ret ⟨t,m2⟩:=by
  intro t m2 k n h1 h2 h3 h4 h5;refine mD (TU h1 h2 (u:=tkV k) rfl) (BJ hb h4) ?_;rw[h5,h3];exact⟨rfl,rfl⟩
 have fail:∀ {t:List V} {m2:Store} {k:Tk} {n:Int} {er:Int},jT t 4 = .ptr b 0→m2 b=some (.var 185 [it k.k,bs k.s,it k.n,it k.l,it k.a])→jT t 5=it n→(∀ c,c≠b→m2 c=(m.set xb (.var T [a0,a1,a2,it er])) c)→er≠0→sW s = .error er →
   vT [.cell 4 (some 5),.tmp 5] (fun o m'=>za3 T a0 a1 a2 xb m (sW s) o m') .ret ⟨t,m2⟩:=by
  intro t m2 k n er h1 h2 h3 h4 he h5;refine mD (m':=m.set xb (.var T [a0,a1,a2,it er])) (TU h1 h2 (u:=tkV k) rfl) (BJ (by rw[hn2,hb]) h4) ?_;rw[h5,h3];exact⟨⟨_,_,rfl⟩,he,rfl⟩
 refine jR (fun hc => ?_) (fun hc => ?_)
 ·-- a name or a word
  have hspec:sW s=if lw.contains (s.takeWhile l9)then .ok (⟨5,s.takeWhile l9,0,0,0⟩,(s.takeWhile l9).length)
    else if (s.takeWhile l9).length>20 then .error 5 else .ok (⟨1,s.takeWhile l9,0,0,0⟩,(s.takeWhile l9).length):=by
   rw[hsc];simp only[sW,hc,if_true]
  have hcut:nM (bs s) (some none) (some (some ((s.takeWhile l9).length:Int)))=some (bs (s.takeWhile l9)):=by
   rw[FZ (bu l9).length_le,takeWhile_take]
  have hL:=(bu l9 (l:=s)).length_le;simp only[ssS,ag,ae,reduceIte,af];refine jK (Rj (p:=l9) s (by omega) (fun b=>zdt b)) ?_;generalize s.takeWhile l9=W at hspec hcut hL;simp only[hcut,ssS,ag,ae,reduceIte,af];refine lm (zdK L h0 W (by omega) (by rw[hn,hx])) ?_;simp only[hn2,Store.jv,zL,ssS,ag,ae,reduceIte,af]
  by_cases hw:lw.contains W=true
  ·rw[if_pos hw]at hspec;refine good (k:=⟨5,W,0,0,0⟩) rfl ?_ rfl ?_ hspec
   ·rw[Store.jv,if_pos hw]
   ·intro c hc;have:pY W 0=0:=by simp only[pY,hw,if_true]
    rw[this];rw[Store.jw _ _ hc]
    by_cases e:c=xb
    ·subst e;rw[Store.jv,hx]
    ·rw[Store.jw _ _ e,Store.jw _ _ hc]
  ·rw[if_neg hw]at hspec
   by_cases h20:W.length>20
   ·rw[if_pos h20]at hspec;refine fail (k:=⟨1,W,0,0,0⟩) rfl ?_ rfl ?_ (by decide) hspec
    ·rw[Store.jv,if_neg hw]
    ·intro c hc;have:pY W 0=5:=by simp only[pY,hw,h20,if_true];rfl
     rw[this];rw[Store.jw _ _ hc]
     by_cases e:c=xb
     ·subst e;rw[Store.jv,Store.jv]
     ·rw[Store.jw _ _ e,Store.jw _ _ hc,Store.jw _ _ e]
   ·rw[if_neg h20]at hspec;refine good (k:=⟨1,W,0,0,0⟩) rfl ?_ rfl ?_ hspec
    ·rw[Store.jv,if_neg hw]
    ·intro c hc;have:pY W 0=0:=by simp only[pY,hw,h20,if_false];rfl
     rw[this];rw[Store.jw _ _ hc]
     by_cases e:c=xb
     ·subst e;rw[Store.jv,hx]
     ·rw[Store.jw _ _ e,Store.jw _ _ hc]
 ·simp only[ssS,ag,ae,reduceIte,af];refine jK (digit_ok c) ?_;simp only[ssS,ag,ae,reduceIte,af];refine jR (fun hc2 => ?_) (fun hc2 => ?_)
  ·-- a number
   have hspec:sW s=match numL 0 (s.takeWhile dig)with
     |none=>.error 5
     |some n=>.ok (⟨2,[],n,0,0⟩,(s.takeWhile dig).length):=by
    rw[hsc];simp only[sW,hc,hc2,if_true,aF,if_false]
    all_goals rfl
   have hcut:nM (bs s) (some none) (some (some ((s.takeWhile dig).length:Int)))=some (bs (s.takeWhile dig)):=by
    rw[FZ (bu dig).length_le,takeWhile_take]
   have hL:=(bu dig (l:=s)).length_le;have hall:∀ x∈s.takeWhile dig,dig x=true:=Vz _
   have hWne:s.takeWhile dig≠[]:=by
    rw[hsc,bP hc2];simp
   simp only[ssS,ag,ae,reduceIte,af];refine jK (Rj (p:=dig) s (by omega) (fun b=>digit_ok b)) ?_;generalize s.takeWhile dig=W at hspec hcut hL hall hWne;simp only[hcut,ssS,ag,ae,reduceIte,af]
   refine pJ (L2 _ W hWne (by omega) hall) ?_ (by
    rintro v m' ⟨h,_⟩;exfalso
    split at h
    ·cases h
    ·obtain⟨_,_,_,h⟩:=h
     cases h)
   rintro v m' ⟨hv,rfl⟩
   cases hnum:numL 0 W with
   |none=>
    rw[hnum]at hv hspec;simp only at hv hspec;obtain⟨v,T',u,hv⟩:=hv;cases hv;simp only[zeg,hn,hx,hn2,Store.jv,ssS,ag,ae,reduceIte,af];refine fail (k:=⟨2,[],v,0,0⟩) rfl (Store.jv _ _ _) rfl (fun c hc => ?_) (by decide) hspec;rw[Store.jw _ _ hc]
    by_cases e:c=xb
    ·subst e;rw[Store.jv,Store.jv]
    ·rw[Store.jw _ _ e,Store.jw _ _ hc,Store.jw _ _ e]
   |some k=>
    rw[hnum]at hv hspec;simp only at hv hspec;cases hv;simp only[zef,hn,hx,hn2,Store.jv,ssS,ag,ae,reduceIte,af];refine good (k:=⟨2,[],k,0,0⟩) rfl (Store.jv _ _ _) rfl (fun c hc => ?_) hspec;rw[Store.jw _ _ hc,Store.jw _ _ hc]
  ·simp only[ssS,ag,ae,reduceIte,af];refine jR (fun hc3 => ?_) (fun hc3 => ?_)
   ·have e3:c.toNat=34:=by have:=eq_of_beq hc3;omega
    have hspec:sW s=match qL (s.drop 1) [] 0 with
      | .error e=>.error e
      | .ok (l,k)=>.ok (⟨3,l,0,0,0⟩,k+2):=by
     rw[hsc];simp only[sW,hc,hc2,e3,if_true,aF,if_false,dW,bK]
     all_goals rfl
    have hcut:nM (bs s) (some (some 1)) (some none)=some (bs (s.drop 1)):=vZ (a:=1) (by rw[hsc];simp);simp only[hcut,ssS,ag,ae,reduceIte,af]
    refine pJ (Zo L (s.drop 1) (by simp; omega) (by rw [hn,hx])) ?_ (by
     rintro v m' h;exfalso;unfold H6 at h
     split at h
     ·cases h.1
     ·cases h.1)
    rintro v m' hv
    cases hq:qL (s.drop 1) [] 0 with
    |error e=>
     rw[hq]at hv hspec;simp only at hspec;obtain⟨hv,rfl⟩:=hv;cases hv;simp only[hn,hn2,Store.jv,ssS,ag,ae,reduceIte,af];refine fail (k:=⟨3,[],0,0,0⟩) rfl (Store.jv _ _ _) rfl (fun c hc => ?_) (VV hq) hspec;rw[Store.jw _ _ hc]
     by_cases e:c=xb
     ·subst e;rw[Store.jv,Store.jv]
     ·rw[Store.jw _ _ e,Store.jw _ _ hc,Store.jw _ _ e]
    |ok x=>
     obtain⟨l,k⟩:=x;rw[hq]at hv hspec;simp only at hspec;obtain⟨hv,rfl⟩:=hv;cases hv;simp only[hn,hn2,Store.jv,ssS,ag,ae,reduceIte,af];refine good (k:=⟨3,l,0,0,0⟩) rfl (Store.jv _ _ _) rfl (fun c hc => ?_) hspec;rw[Store.jw _ _ hc,Store.jw _ _ hc]
   ·have e3:¬ c.toNat=34:=by
     intro e;rw[e]at hc3;cases hc3
    have hspec:sW s=match kV.find? fun p=>p.isPrefixOf s with
      |some p=>.ok (⟨4,p,0,0,0⟩,p.length)
      |none=>.error 6:=by
     rw[hsc];simp only[sW,hc,hc2,e3,aF,if_false]
     all_goals rfl
    simp only[ssS,ag,ae,reduceIte,af];refine jK (zdV h1 s) ?_;have hsg:Q8 s=(kV.find? fun p=>p.isPrefixOf s).getD []:=rfl
    cases hf:kV.find? (fun p=>p.isPrefixOf s)with
    |none=>
     rw[hf]at hspec hsg;simp only[bY]at hsg;rw[hsg];have hnn:(([]:List UInt8)==[])=true:=rfl;simp only at hspec;simp only[hnn,hn,hx,hn2,Store.jv,ssS,ag,ae,reduceIte,af];refine fail (k:=⟨4,[],0,0,0⟩) rfl (Store.jv _ _ _) rfl (fun c hc => ?_) (by decide) hspec;rw[Store.jw _ _ hc]
     by_cases e:c=xb
     ·subst e;rw[Store.jv,Store.jv]
     ·rw[Store.jw _ _ e,Store.jw _ _ hc,Store.jw _ _ e]
    |some p=>
     rw[hf]at hspec hsg;simp only[bZ]at hsg
     have hpne:p≠[]:=by
      have:∀ q∈kV,q≠[]:=by decide
      exact this p (iw hf)
     rw[hsg]
     have hnn:(p==[])=false:=by
      cases p with
      |nil=>exact absurd rfl hpne
      |cons _ _=>rfl
     simp only at hspec;simp only[hnn,hn,hx,hn2,Store.jv,ssS,ag,ae,reduceIte,af];refine good (k:=⟨4,p,0,0,0⟩) rfl (Store.jv _ _ _) rfl (fun c hc => ?_) hspec;rw[Store.jw _ _ hc,Store.jw _ _ hc]
end Go.Av.Fn
namespace Go.Av.Fn
theorem TN{r:List UInt8}{a l:Nat}:a≤(mZ r a l).1:=by
 fun_induction mZ r a l<;>omega
def MQ(r:List UInt8)(x:Nat×Nat)(acc:List Tk):Except (Nat×Int) (List Tk):=match sW r with
 | .error e=>if r=[]then .ok (acc++[⟨0,[],0,x.2,x.1⟩])else .error (x.1,e)
 | .ok (t,n)=>sS (r.drop n) (x.1+n) x.2 (acc++[{ t with l:=x.2,a:=x.1 }])
theorem DN(r:List UInt8)(a l:Nat)(acc:List Tk):sS r a l acc=MQ (r.drop ((mZ r a l).1-a)) (mZ r a l) acc:=by
 rw[sS];unfold MQ
 split
 ·rename_i e h;simp only[h]
 ·rename_i t n h;simp only[h]
theorem F8{r:List UInt8}{a l k l2:Nat}{acc:List Tk}(h:mZ r a l=mZ (r.drop k) (a+k) l2):sS r a l acc=sS (r.drop k) (a+k) l2 acc:=by
 rw[DN,DN (r.drop k),←h,bV];have:=TN (r:=r.drop k) (a:=a+k) (l:=l2);rw[←h]at this;rw[show k+((mZ r a l).1-(a+k))=(mZ r a l).1-a by omega]
end Go.Av.Fn
namespace Go.Av.Fn
open Go.Proofs
theorem KH{P:Program}{Γ:jG}{l:Nat}{args:List V}{mC S:Store}{R:Out→Store→Prop}(h:oG P Γ l args mC R)(hs:∀ b x,mC b=some x→S b=some x) :
  oG P Γ l args S fun o S' => ∃ m',R o m'∧(∀ b x,m' b=some x→S' b=some x)∧(∀ b x,S b=some x→mC b=none→S' b=some x∧m' b=none):=by
 obtain⟨F,hF⟩:∃ F:Store,(fun b=>match mC b with|some _=>none|none=>S b)=F:=⟨_,rfl⟩
 have e1:mC.or F=S:=by
  funext b;rw[←hF];simp only[Store.or]
  cases hb:mC b with
  |some x=>exact(hs b x hb).symm
  |none=>rfl
 have e2:mQ mC F:=by
  intro b;rw[←hF]
  cases hb:mC b with
  |some x=>exact .inr (by simp only[hb])
  |none=>exact .inl rfl
 have:=h.frame e2;rw[e1]at this;refine this.mono ?_;rintro o m'' ⟨m',rfl,hD,hR⟩;refine⟨m',hR,fun b x hb=>oC hb,fun b x hb hn => ?_⟩;have hFb:F b=some x:=by rw[←hF];simp only[hn];exact hb
 have hm:m' b=none:=by
  rcases hD b with k|k
  ·exact k
  ·rw[hFb]at k;cases k
 exact⟨by simp only[Store.or,hm,hFb],hm⟩
theorem zbe{r:List UInt8}{a l:Nat}:(mZ r a l).1≤a+r.length∧(mZ r a l).2+a≤l+(mZ r a l).1:=by
 fun_induction mZ r a l with
 |case1 r a l h ih=>
  have:=uj h;simp at this ih ⊢;omega
 |case2 r a l h h2 ih=>
  have:1≤r.length:=by
   rw[cZ]at h2
   rcases h2 with h2|h2
   ·simpa using uj h2
   ·simpa using uj h2
  simp at ih ⊢;omega
 |case3 r a l h h2 h3 ih=>
  have:=(bu uI (l:=r)).length_le;simp at ih ⊢;omega
 |case4 r a l h h2 h3=>omega
theorem Y0{Γ:jG}{m:Store}{xb:Nat}:jB Tryz.prog Γ 223 [.ptr xb 0] m fun o m'=>∃ pb,m pb=none∧o = .ret (.fn (.func 241) [] [.ptr pb 0])∧m'=m.set pb (.var 296 [.ptr xb 0]):=by
 refine jE mixed zfx (by rintro v m b x _ ⟨_,_,⟨⟩,_⟩) ?_;simp only[zl4,ss0,ay,ag];simp only[ssS,ag,ae,reduceIte,af];refine kz fun b hb => ?_;simp only[ssS,ag,ae,reduceIte,af];exact jF jD ⟨b,hb,rfl,rfl⟩
def zbr(acc:List Tk)(a:Nat)(e:Int):Except (Nat×Int) (List Tk)→Prop
 | .ok l=>acc=l∧e=0
 | .error (a',e')=>a' = a∧e'=e∧e≠0
def VJ(J:List Tk→Store→Prop)(xb pb:Nat)(s:List UInt8)(o:Out)(m':Store):Prop:=
 o = .ret (.tup [])∧∃ (acc:List Tk) (mC:Store) (a l:Nat) (e:Int),J acc mC∧mC xb=none∧mC pb=none∧m'=(mC.set pb (.var 296 [.ptr xb 0])).set xb (.var 298 [bs s,it a,it l,it e]) ∧
  zbr acc a e (sS s 0 1 [])
theorem VA{Γ:jG}(L:xG Γ)(L2:Ad Γ)(h0:Γ 1=some (lw.map bs))(h1:Γ 0=some (kV.map bs)){y:Nat}{J:List Tk→Store→Prop}{xb pb:Nat}(hxp:xb≠pb)(s:List UInt8)(hs:s.length≤4096)
  (hy:∀ acc t mC,acc.length≤4096→J acc mC→oG Tryz.prog Γ y [tkV t] mC fun o m'=>o = .ret (.val (.bool true))∧J (acc++[t]) m') {mC:Store} (hJ:J [] mC) (hx:mC xb=none) (hp:mC pb=none) :
  jB Tryz.prog Γ 241 [.fn (.yield y) [] [],.ptr pb 0] ((mC.set pb (.var 296 [.ptr xb 0])).set xb (.var 298 [bs s,it 0,it 1,it 0])) fun o m'=>VJ J xb pb s o m':=by
 refine jE mixed zft (by
  rintro v m b x _ ⟨h,_⟩
  cases h) ?_
 simp only[zl0,ss0,ay,ag];simp only[ssS,ag,ae,reduceIte,af];generalize hres:sS s 0 1 []=res
 -- the ends
 have fin:∀ {t:List V} {S mC:Store} {acc:List Tk} {a l:Nat} {e:Int},J acc mC→mC xb=none→mC pb=none→(∀ b x,mC b=some x→S b=some x)→S xb=some (.var 298 [bs s,it a,it l,it e])→S pb=some (.var 296 [.ptr xb 0]) →
   zbr acc a e res→vT [] (fun o m'=>VJ J xb pb s o m') .ret ⟨t,S⟩:=by
  intro t S mC acc a l e k1 k2 k3 k4 k5 k6 k7;refine mD (v:=.tup []) (m':=(mC.set pb (.var 296 [.ptr xb 0])).set xb (.var 298 [bs s,it a,it l,it e])) rfl (fun c x hc => ?_) ⟨rfl,acc,mC,a,l,e,k1,k2,k3,rfl,by rw[hres];exact k7⟩
  by_cases e1:c=xb
  ·subst e1;rw[Store.jv]at hc;rw[k5];exact hc
  ·rw[Store.jw _ _ e1]at hc
   by_cases e2:c=pb
   ·subst e2;rw[Store.jv]at hc;rw[k6];exact hc
   ·rw[Store.jw _ _ e2]at hc;exact k4 c x hc
 refine nX (fun n st=>∃ (a l:Nat) (acc:List Tk) (mC:Store),n=s.length-a∧a≤s.length∧l≤a+1∧acc.length≤a∧sS (s.drop a) a l acc=res∧J acc mC∧mC xb=none∧mC pb=none∧(∀ b x,mC b=some x→st.m b=some x)∧st.m xb=some (.var 298 [bs s,it a,it l,it 0])∧st.m pb=some (.var 296 [.ptr xb 0])∧st.t.length=71∧jT st.t 0 = .fn (.yield y) [] []∧jT st.t 1 = .ptr pb 0)
  s.length ⟨0,1,[],mC,rfl,by omega,by omega,by simp,hres,hJ,hx,hp,?_,Store.jv _ _ _,?_,rfl,rfl,rfl⟩ ?_
 ·intro b x hb;have n1:b≠xb:=by rintro rfl;rw[hx]at hb;cases hb
  have n2:b≠pb:=by rintro rfl;rw[hp]at hb;cases hb
  show((mC.set pb (.var 296 [.ptr xb 0])).set xb (.var 298 [bs s,it 0,it 1,it 0])) b=some x;rw[Store.jw _ _ n1,Store.jw _ _ n2];exact hb
 ·show((mC.set pb (.var 296 [.ptr xb 0])).set xb (.var 298 [bs s,it 0,it 1,it 0])) pb=_;rw[Store.jw _ _ (fun e=>hxp e.symm),Store.jv]
 clear hJ hx hp mC;rintro n ⟨t,S⟩ ⟨a,l,acc,mC,hn,ha,hl,hacc,hres2,hJ,hx,hp,hsub,hX,hP,hlen,ht0,ht1⟩;simp only at hsub hX hP hlen ht0 ht1;rw[mJ hlen];simp only[jV,kT,ag,ht0,ht1];simp only[hP,ssS,ag,ae,reduceIte,af];refine lm (zdU s a l ha (by omega) hX) ?_;obtain⟨q1,q2⟩:=zbe (r:=s.drop a) (a:=a) (l:=l);have q3:=TN (r:=s.drop a) (a:=a) (l:=l);rw[aV]at q1
 have hN:MQ (s.drop (mZ (s.drop a) a l).1) (mZ (s.drop a) a l) acc=res:=by
  rw[←hres2,DN,bV];congr 2;omega
 generalize hsk:mZ (s.drop a) a l=sk at q1 q2 q3 hN;obtain⟨a1,l1⟩:=sk;simp only at q1 q2 q3 hN;obtain⟨S1,hS1⟩:∃ S1,S.set xb (.var 298 [bs s,it a1,it l1,it 0])=S1:=⟨_,rfl⟩;have hX1:S1 xb=some (.var 298 [bs s,it a1,it l1,it 0]):=by rw[←hS1];exact Store.jv _ _ _
 have hP1:S1 pb=some (.var 296 [.ptr xb 0]):=by rw[←hS1,Store.jw _ _ (fun e=>hxp e.symm)];exact hP
 have hsub1:∀ b x,mC b=some x→S1 b=some x:=by
  intro b x hb;rw[←hS1,Store.jw _ _ (by rintro rfl;rw[hx]at hb;cases hb)];exact hsub b x hb
 rw[hS1];simp only[hX1,hP1,oV,ssS,ag,ae,reduceIte,af];refine jR (fun h => ?_) (fun h => ?_)
 ·-- the end
  have he:a1=s.length:=by have:=eq_of_beq h;omega
  simp only[hX1,hP1,ssS,ag,ae,reduceIte,af];refine KC (KH (hy acc ⟨0,[],0,l1,a1⟩ mC (by omega) hJ) hsub1) ?_ (by rintro v m' ⟨_,⟨⟨⟩,_⟩,_⟩);rintro v S2 ⟨mC2,⟨hv,hJ2⟩,hsub2,hkeep⟩;cases hv;simp only[ssS,ag,ae,reduceIte,af];refine fin hJ2 (hkeep _ _ hX1 hx).2 (hkeep _ _ hP1 hp).2 hsub2 (hkeep _ _ hX1 hx).1 (hkeep _ _ hP1 hp).1 ?_;rw[←hN,he,dB];exact⟨rfl,rfl⟩
 ·have hlt:a1<s.length:=by
   have:¬ a1=s.length:=by
    intro e;rw[e]at h;simp at h
   omega
  have hcut:nM (bs s) (some (some (a1:Int))) (some none)=some (bs (s.drop a1)):=vZ (by omega)
  have hdne:s.drop a1≠[]:=by
   intro e;have:=congrArg List.length e;simp at this;omega
  simp only[hX1,hP1,hcut,ssS,ag,ae,reduceIte,af]
  refine pJ (za2 L L2 h0 h1 (s.drop a1) (by simp; omega) hdne hX1) ?_ (by
   rintro v m' h;exfalso;unfold za3 at h
   split at h
   ·cases h.1
   ·obtain⟨⟨_,_,h⟩,_⟩:=h
    cases h)
  intro v S2 hv;unfold MQ at hN
  cases htok:sW (s.drop a1)with
  |error er=>
   rw[htok]at hv hN;simp only[if_neg hdne]at hN;obtain⟨⟨tk,k,hv⟩,hne0,rfl⟩:=hv;cases hv;obtain⟨S2,hS2⟩:∃ S2,S1.set xb (.var 298 [bs s,it a1,it l1,it er])=S2:=⟨_,rfl⟩;have hX2:S2 xb=some (.var 298 [bs s,it a1,it l1,it er]):=by rw[←hS2];exact Store.jv _ _ _
   have hP2:S2 pb=some (.var 296 [.ptr xb 0]):=by rw[←hS2,Store.jw _ _ (fun e=>hxp e.symm)];exact hP1
   have hsub2:∀ b x,mC b=some x→S2 b=some x:=by
    intro b x hb;rw[←hS2,Store.jw _ _ (by rintro rfl;rw[hx]at hb;cases hb)];exact hsub1 b x hb
   rw[hS2];simp only[tkV,ssS,ag,ae,reduceIte,af];refine kz fun b hb => ?_;have n1:xb≠b:=by rintro rfl;rw[hX2]at hb;cases hb
   have n2:pb≠b:=by rintro rfl;rw[hP2]at hb;cases hb
   have hbx:∀ m' x,(Store.set m' b x) xb=m' xb:=fun m' x=>Store.jw m' x n1;have hbp:∀ m' x,(Store.set m' b x) pb=m' pb:=fun m' x=>Store.jw m' x n2;have hne1:((er:Int) != 0)=true:=by simpa using hne0
   simp only[Store.jv,Store.kC,hbx,hbp,hX2,hP2,hne1,ssS,ag,ae,reduceIte,af];refine fin hJ hx hp (fun c x hc => ?_) (by rw[hbx];exact hX2) (by rw[hbp];exact hP2) (by rw[←hN];exact⟨rfl,rfl,hne0⟩);rw[Store.jw _ _ (by rintro rfl;rw[hsub2 _ _ hc]at hb;cases hb)];exact hsub2 c x hc
  |ok x=>
   obtain⟨tk,k⟩:=x;rw[htok]at hv hN;simp only at hN;obtain⟨hv,rfl⟩:=hv;cases hv;simp only[tkV,ssS,ag,ae,reduceIte,af];refine kz fun b hb => ?_;have n1:xb≠b:=by rintro rfl;rw[hX1]at hb;cases hb
   have n2:pb≠b:=by rintro rfl;rw[hP1]at hb;cases hb
   have hbx:∀ m' x,(Store.set m' b x) xb=m' xb:=fun m' x=>Store.jw m' x n1;have hbp:∀ m' x,(Store.set m' b x) pb=m' pb:=fun m' x=>Store.jw m' x n2;have hne1:((0:Int) != 0)=false:=rfl;simp only[Store.jv,Store.kC,hbx,hbp,hX1,hP1,hne1,ssS,ag,ae,reduceIte,af];have htl:=G5 htok;rw[aV]at htl
   have hsub2:∀ c x,mC c=some x→(S2.set b (.var 185 [it tk.k,bs tk.s,it tk.n,it l1,it a1])) c=some x:=by
    intro c x hc;rw[Store.jw _ _ (by rintro rfl;rw[hsub1 _ _ hc]at hb;cases hb)];exact hsub1 c x hc
   refine KC (KH (hy acc { tk with l:=l1,a:=a1 } mC (by omega) hJ) hsub2) ?_ (by rintro v m' ⟨_,⟨⟨⟩,_⟩,_⟩);rintro v S3 ⟨mC3,⟨hv,hJ3⟩,hsub3,hkeep⟩;cases hv;obtain⟨hX3,hx3⟩:=hkeep xb _ (by rw[hbx];exact hX1) hx;obtain⟨hP3,hp3⟩:=hkeep pb _ (by rw[hbp];exact hP1) hp
   have hw:IntKind.i64.wrap ((a1:Int)+(k:Int))=((a1+k:Nat):Int):=by
    rw[wrap_i64 (by omega) (by omega)];rfl
   simp only[hX3,hP3,hw,aO,ssS,ag,ae,reduceIte,af];rw[bV]at hN;refine⟨s.length-(a1+k),by omega,a1+k,l1,_,mC3,rfl,by omega,by omega,by simp;omega,hN,hJ3,hx3,hp3,fun c x hc => ?_,Store.jv _ _ _,?_⟩
   ·rw[Store.jw _ _ (by rintro rfl;rw[hx3]at hc;cases hc)];exact hsub3 c x hc
   ·rw[Store.jw _ _ (fun e=>hxp e.symm)];exact hP3
def tN(s:List UInt8):Except (Nat×Int) (List Tk):=if s.length>4096 then .error (0,5)else sS s 0 1 []
def Ac(r:Except (Nat×Int) (List Tk))(o:Out):Prop:=match r with
 | .ok l=>∃ tok,o = .ret (.tup [.sl (l.map tkV) [] tok,it 0,it 0])
 | .error (a,e)=>o = .ret (.tup [.sl [] [] .full,it a,it e])
theorem Oy(t:Tk):(tkV t).cells=[it t.k,bs t.s,it t.n,it t.l,it t.a]:=rfl
def zg2(z:List V)(v:V):Option V:=(pI 5 [.agg z] [(0,v)]).map fun es=>.sl es [] .full
theorem zhM{P:Program}{Γ:jG}{t:List V}{m:Store}{z:List V}{x:Nat}:jJ P (ev Γ t) m (.lits 5 z 1 [(0,.tmp x)])=zg2 z (ev Γ t (.tmp x)):=rfl
theorem JC{z:List V}{a b c d e:V}:zg2 z (.agg [a,b,c,d,e])=some (.sl [.agg [a,b,c,d,e]] [] .full):=rfl
theorem VO{Γ:jG}{m:Store}(s:List UInt8):jB Tryz.prog Γ 175 [bs s] m fun o m'=>Ac (tN s) o∧m'=m:=by
 refine jE mixed zfU (by
  rintro v m b x _ ⟨h,_⟩;exfalso;unfold Ac at h
  split at h
  ·obtain⟨_,h⟩:=h;cases h
  ·cases h) ?_
 simp only[zmn,ss0,ay,ag];simp only[ssS,ag,ae,reduceIte,af];refine jR (fun h => ?_) (fun h => ?_)
 ·have hl:s.length>4096:=by have:=of_decide_eq_true h;omega
  simp only[ssS,ag,ae,reduceIte,af];refine jF kJ ⟨?_,rfl⟩;unfold tN;rw[if_pos hl];rfl
 ·have hl:¬ s.length>4096:=by have:=of_decide_eq_false h;omega
  have hres0:tN s=sS s 0 1 []:=by unfold tN;rw[if_neg hl]
  generalize tN s=res at hres0;simp only[ssS,ag,ae,reduceIte,af]
  refine nX (fun n st=>∃ (a l:Nat) (acc:List Tk) (m0:Store) (v:V),n=s.length-a∧a≤s.length∧l≤a+1∧acc.length≤a∧sS (s.drop a) a l acc=res∧(∀ b x,m b=some x→m0 b=some x)∧Buf 185 5 m0 st.m v (acc.map tkV)∧st.t.length=94∧jT st.t 0=bs s∧jT st.t 5=v∧jT st.t 6=it l∧jT st.t 7=it a)
   s.length ⟨0,1,[],m,_,rfl,by omega,by omega,by simp,hres0.symm,fun _ _ h=>h,Buf.start,rfl,rfl,rfl,rfl,rfl⟩ ?_
  rintro n ⟨t,m1⟩ ⟨a,l,acc,m0,v,hn,ha,hla,hacc,hres,hsub,hbuf,hlen,h0,h5,h6,h7⟩;simp only at hbuf h0 h5 h6 h7 hlen;rw[mJ hlen];simp only[jV,kT,ag,h0,h5,h6,h7];simp only[ssS,ag,ae,reduceIte,af];refine jR (fun h => ?_) (fun h => ?_)
  ·have hlt:a<s.length:=by have:=of_decide_eq_true h;omega
   have hx:s[a]? = some s[a]:=by simp[hlt]
   have hdrop:s.drop a=s[a]::s.drop (a+1):=bF hlt;generalize s[a]=c at hx hdrop;simp only[nG hx,ssS,ag,ae,reduceIte,af];refine QE (M:=fun st=>st.m=m1∧st.t.length=94∧jT st.t 0=bs s∧jT st.t 5=v∧jT st.t 6=it l∧jT st.t 7=it a∧mZ (s.drop a) a l=(a,l)) ?_ ?_
   ·-- a token
    rintro⟨t,m2⟩ ⟨hm2,hlen,h0,h5,h6,h7,hsk⟩;simp only at hm2 hlen h0 h5 h6 h7;subst hm2;rw[mJ hlen];simp only[jV,kT,ag,h0,h5,h6,h7];simp only[ssS,ag,ae,reduceIte,af]
    refine pJ (Ub s a hlt (by omega)) ?_ (by
     rintro v m' ⟨h,_⟩;exfalso;unfold MB at h
     split at h
     ·cases h
     ·obtain⟨_,_,_,h⟩:=h
      cases h)
    rintro u m' ⟨hu,rfl⟩
    have hN:MQ (s.drop a) (a,l) acc=res:=by
     rw[←hres,DN,hsk,Nat.sub_self,bK]
    unfold MQ at hN
    cases htok:sW (s.drop a)with
    |error e=>
     rw[htok]at hu hN;obtain⟨he,t0,v2,hu⟩:=hu;cases hu;simp only at hN;rw[if_neg (by rw[hdrop];simp)]at hN;simp only[ssS,ag,ae,reduceIte,af];refine kz fun b hb => ?_;have hne:(e != 0)=true:=by simpa using he
     simp only[Oy,Store.jv,hne,ssS,ag,ae,reduceIte,af];refine mD (m':=m) kJ (fun c x hc => ?_) ⟨?_,rfl⟩
     ·have h1:m' c=some x:=hbuf.sub _ _ (hsub _ _ hc)
      have h2:c≠b:=by
       rintro rfl;rw[hb]at h1;cases h1
      simp[Store.set,h2,h1]
     ·rw[←hN];rfl
    |ok x=>
     obtain⟨tk,n2⟩:=x;rw[htok]at hu hN;cases hu;simp only at hN;rw[bV]at hN;simp only[ssS,ag,ae,reduceIte,af];refine kz fun b hb => ?_;have hz:((0:Int) != 0)=false:=rfl;simp only[Oy,Store.jv,Store.kC,hz,zhM,JC,ssS,ag,ae,reduceIte,af];have hn2:=G5 htok;rw[aV]at hn2
     have hmb:m b=none:=by
      cases hc:m b with
      |none=>rfl
      |some x=>
       have:=hbuf.sub _ _ (hsub _ _ hc);rw[hb]at this;cases this
     refine Eo (hbuf.add hb) rfl (by intro c hc;simp[V.cells]at hc;rcases hc with rfl|rfl|rfl|rfl|rfl<;>rfl) (by simp;omega) fun m3 v3 hb3 => ?_;simp only[ssS,ag,ae,reduceIte,af];refine⟨s.length-(a+n2),by omega,a+n2,l,acc++[{ tk with l:=l,a:=a }],_,v3,rfl,by omega,by omega,by simp;omega,hN,?_,by rw[bC];exact hb3,rfl,rfl,rfl⟩;exact KZ hmb hsub
   refine jR (fun h1 => ?_) (fun h1 => ?_)
   ·have e1:c.toNat=10:=by have:=eq_of_beq h1;omega
    have ec:c=10:=UInt8.toNat_inj.1 e1;simp only[jQ (show a<4611686018427387904 by omega),jQ (show l<4611686018427387904 by omega),ssS,ag,ae,reduceIte,af];have hst:=F8 (r:=s.drop a) (a:=a) (l:=l) (k:=1) (l2:=l+1) (acc:=acc) (by rw[mZ.eq_1 (s.drop a),dif_pos (by rw[hdrop,ec];rfl)]);rw[bV]at hst;exact⟨s.length-(a+1),by omega,a+1,l+1,acc,m0,v,rfl,hlt,by omega,by omega,by rw[←hst,hres],hsub,hbuf,rfl,rfl,rfl⟩
   ·have e1:¬ c.toNat=10:=by
     intro e;rw[e]at h1;cases h1
    have n1:¬ [10].isPrefixOf (s.drop a)=true:=by
     rw[hdrop];intro e;simp[dP]at e;exact e1 (by rw[←e];rfl)
    have blank:(c.toNat=32∨c.toNat=9)→sS (s.drop (a+1)) (a+1) l acc=res:=by
     intro hb
     have hst := F8 (r := s.drop a) (a := a) (l := l) (k := 1) (l2 := l) (acc := acc) (by
      rw [mZ.eq_1 (s.drop a),dif_neg n1,dif_pos (by
       rw[hdrop]
       rcases hb with hb|hb
       ·rw[show c=32 from UInt8.toNat_inj.1 hb];rfl
       ·rw[show c=9 from UInt8.toNat_inj.1 hb];rfl)])
     rw[bV]at hst;rw[←hst,hres]
    have tok:¬ (c.toNat=32∨c.toNat=9)→¬ [47,47].isPrefixOf (s.drop a)=true→mZ (s.drop a) a l=(a,l):=by
     intro h2 h3;rw[mZ.eq_1 (s.drop a),dif_neg n1,dif_neg,dif_neg h3];rw[hdrop];intro e;simp[dP]at e;exact h2 (e.imp (fun e=>by rw[←e];rfl) (fun e=>by rw[←e];rfl))
    simp only[ssS,ag,ae,reduceIte,af];refine l7 (fun h2 => ?_) (fun h2 => ?_)
    ·have e2:c.toNat=32:=by have:=eq_of_beq h2;omega
     simp only[h2,jQ (show a<4611686018427387904 by omega),ssS,ag,ae,reduceIte,af];exact⟨s.length-(a+1),by omega,a+1,l,acc,m0,v,rfl,hlt,by omega,by omega,blank (.inl e2),hsub,hbuf,rfl,rfl,rfl⟩
    ·have e2:¬ c.toNat=32:=by
      intro e;rw[e]at h2;cases h2
     simp only[h2,ssS,ag,ae,reduceIte,af];refine jR (fun h3 => ?_) (fun h3 => ?_)
     ·have e3:c.toNat=9:=by have:=eq_of_beq h3;omega
      simp only[jQ (show a<4611686018427387904 by omega),ssS,ag,ae,reduceIte,af];exact⟨s.length-(a+1),by omega,a+1,l,acc,m0,v,rfl,hlt,by omega,by omega,blank (.inr e3),hsub,hbuf,rfl,rfl,rfl⟩
     ·have e3:¬ c.toNat=9:=by
       intro e;rw[e]at h3;cases h3
      simp only[ssS,ag,ae,reduceIte,af];refine l7 (fun h4 => ?_) (fun h4 => ?_)
      ·have e4:c.toNat=47:=by have:=eq_of_beq h4;omega
       simp only[h4,jQ (show a<4611686018427387904 by omega),ssS,ag,ae,reduceIte,af];refine l7 (fun h5 => ?_) (fun h5 => ?_)
       ·have hlt2:a+1<s.length:=by have:=of_decide_eq_true h5;omega
        have hx2:s[a+1]? = some s[a+1]:=by simp[hlt2]
        have hdrop2:s.drop (a+1)=s[a+1]::s.drop (a+1+1):=bF hlt2;generalize s[a+1]=d at hx2 hdrop2;simp only[h5,nG hx2,jQ (show a<4611686018427387904 by omega),ssS,ag,ae,reduceIte,af];refine jR (fun h6 => ?_) (fun h6 => ?_)
        ·-- a remark
         have e6:d.toNat=47:=by have:=eq_of_beq h6;omega
         have hpre2:[47,47].isPrefixOf (s.drop a)=true:=by
          rw[hdrop,hdrop2,show c=47 from UInt8.toNat_inj.1 e4,show d=47 from UInt8.toNat_inj.1 e6];rfl
         have hno:¬ ([32].isPrefixOf (s.drop a)||[9].isPrefixOf (s.drop a))=true:=by
          rw[hdrop,show c=47 from UInt8.toNat_inj.1 e4];intro e;simp[dP]at e
         have hst := F8 (r := s.drop a) (a := a) (l := l) (k := ((s.drop a).takeWhile uI).length) (l2 := l) (acc := acc) (by
          rw[mZ.eq_1 (s.drop a),dif_neg n1,dif_neg hno,dif_pos hpre2])
         rw[bV]at hst;have hr0:=Je hpre2
         have hL:((s.drop a).takeWhile uI).length≤s.length-a:=by
          have:=(bu uI (l:=s.drop a)).length_le
          simpa using this
         generalize hW:((s.drop a).takeWhile uI).length=L at hst hr0 hL;simp only[ssS,ag,ae,reduceIte,af]
         refine nX (fun n st=>∃ j:Nat,n=s.length-(a+j)∧a+j≤s.length∧(∀ x∈(s.drop a).take j,uI x=true)∧st.m=m1∧st.t.length=94∧jT st.t 0=bs s∧jT st.t 5=v∧jT st.t 6=it l∧jT st.t 7=it ((a+j:Nat):Int)) (s.length-a)
          ⟨0,rfl,by omega,by simp,rfl,rfl,rfl,rfl,rfl,rfl⟩ ?_
         rintro n2 ⟨t,m2⟩ ⟨j,hn2,hj,hpre,hm,hlen,h0,h5,h6,h7⟩;simp only at hm h0 h5 h6 h7 hlen;subst hm;rw[mJ hlen];simp only[jV,kT,ag,h0,h5,h6,h7]
         have out:L=j→∃ n',n'<n∧∃ (a' l':Nat) (acc':List Tk) (m0':Store) (v' : V),n'=s.length-a' ∧ a'≤s.length∧l' ≤ a'+1∧acc'.length≤a'∧sS (s.drop a') a' l' acc'=res∧(∀ b x,m b=some x→m0' b=some x)∧Buf 185 5 m0' m2 v' (acc'.map tkV)∧v=v'∧it l=it l'∧it ((a+j:Nat):Int)=it a':=by
          rintro rfl;exact⟨s.length-(a+L),by omega,a+L,l,acc,m0,v,rfl,by omega,by omega,by omega,by rw[←hst,hres],hsub,hbuf,rfl,rfl,rfl⟩
         simp only[ssS,ag,ae,reduceIte,af];refine l7 (fun h => ?_) (fun h => ?_)
         ·have hlt:a+j<s.length:=by have:=of_decide_eq_true h;omega
          have hx:s[a+j]? = some s[a+j]:=by simp[hlt]
          have hr:(s.drop a)[j]? = some s[a+j]:=by rw[fF,hx]
          generalize s[a+j]=q at hx hr;simp only[h,nG hx,ssS,ag,ae,reduceIte,af];refine jR (fun hq => ?_) (fun hq => ?_)
          ·have hq2:uI q=true:=by
            simp only[uI,bne_iff_ne,ne_eq];intro e;rw[e]at hq;cases hq
           simp only[jQ (show a+j<4611686018427387904 by omega),ssS,ag,ae,reduceIte,af];refine⟨s.length-(a+(j+1)),by omega,j+1,rfl,hlt,?_,rfl⟩;intro x hx;rw[aW,hr]at hx
           rcases List.mem_append.1 hx with hx|hx
           ·exact hpre x hx
           ·simp at hx;subst hx;exact hq2
          ·have hq2:uI q=false:=by
            have:(q.toNat:Int)=10:=by simpa using hq
            simp only[uI,bne_eq_false_iff_eq];omega
           simp only[ssS,ag,ae,reduceIte,af];exact out (by rw[←hW];exact nK hpre (by simp;omega) (fun b hb=>by rw[hr]at hb;cases hb;exact hq2))
         ·have hge:a+j=s.length:=by have:=of_decide_eq_false h;omega
          simp only[h,ssS,ag,ae,reduceIte,af];exact out (by rw[←hW];exact nK hpre (by simp;omega) (fun b hb=>by rw[dh (by simp;omega)]at hb;cases hb))
        ·simp only[ssS,ag,ae,reduceIte,af];refine tok (by omega) ?_;rw[hdrop,hdrop2];intro e;simp[dP]at e;rw[←e.2]at h6;cases h6
       ·have hge:¬ a+1<s.length:=by have:=of_decide_eq_false h5;omega
        simp only[h5,ssS,ag,ae,reduceIte,af];refine tok (by omega) ?_;intro e;have:=uj e;simp at this;omega
      ·simp only[h4,ssS,ag,ae,reduceIte,af];refine tok (by omega) ?_;rw[hdrop];intro e;simp[dP]at e;rw[←e.1]at h4;cases h4
  ·have hge:a=s.length:=by have:=of_decide_eq_false h;omega
   have hok:res = .ok (acc++[⟨0,[],0,l,s.length⟩]):=by
    have hsk:mZ [] a l=(a,l):=by
     rw[mZ.eq_1,dif_neg (by decide),dif_neg (by decide),dif_neg (by decide)]
    rw[←hres,show s.drop a=[]by rw[hge,dB],DN,hsk,List.drop_nil];simp[MQ,sW,hge]
   simp only[zhM,JC,ssS,ag,ae,reduceIte,af];refine Eo hbuf rfl (by intro c hc;simp[V.cells]at hc;rcases hc with rfl|rfl|rfl|rfl|rfl<;>rfl) (by simp;omega) fun m3 v3 hb3 => ?_;obtain⟨tok3,rfl⟩:=hb3.val;simp only[ssS,ag,ae,reduceIte,af];refine mD (m':=m) kJ (fun c x hc=>hb3.sub _ _ (hsub _ _ hc)) ⟨?_,rfl⟩;rw[hok];refine⟨tok3,?_⟩;rw[bC];rfl
end Go.Av.Fn
namespace Go.Av
section
variable {P:Program} {Γ:jG} {Kp:V→Store→Prop}
theorem zaC{f:Operand}{ps:List Tmp}{x y:lF}{Q:Ex→St→Prop}{t:List V}{m:Store}{g:FuncId}{first caps:List V}(hf:ev Γ t f = .fn (.func g) first caps)
  (h:∀ H cx cy,comp P H cx=some x→comp P H cy=some y→∀ fn l D,m l=none→jB P Γ g (first++[.fn (.yield l) [] []]++caps) (m.set l (.loop true fn t ps.toArray cx cy D)) fun o m'=>(∃ v,o = .ret v)∧∃ m₁,m'=m₁.set l (.loop true fn t ps.toArray cx cy D)∧m₁ l=none∧Q .normal ⟨t,m₁⟩) :
  awp P Γ Kp (.range f ps x y) Q ⟨t,m⟩:=by
 simp only[awp,hf];intro H cx cy h1 h2 fn l D hl;refine(h H cx cy h1 h2 fn l D hl).mono fun o m' k => ?_;obtain⟨⟨v,rfl⟩,k⟩:=k;exact k
theorem zbb{Φ:List V→Prop}{t:List V}(h:∀ T0,T0=t→Φ T0):Φ t:=h t rfl
theorem TC{t:List V}{i j:Nat}{v:V}(h:i≠j):jT (t.set i v) j=jT t j:=by
 rw[←nz,←nz,aT,aT,iT,if_neg h]
theorem OT{t:List V}{i:Nat}{v:V}(h:i<t.length):jT (t.set i v) i=v:=by
 rw[←nz,aT,iT];simp[h]
theorem Buf.del{e:TypeId}{size:Nat}{N m2:Store}{v:V}{es:List V}{b:Nat}{x:Blk}(h:Buf e size (N.set b x) m2 v es)(hn:N b=none) :
  m2 b=some x∧∃ M,Buf e size N M v es∧M b=none∧∀ y,m2.set b y=M.set b y:=by
 obtain⟨h1,h2⟩:=h
 rcases h2 with ⟨h2,h3,rfl⟩|⟨h2,t,k,ht,rfl,h3⟩
 ·exact⟨Store.jv _ _ _,N,⟨h1,.inl ⟨h2,h3,rfl⟩⟩,hn,fun y=>Store.kC _ _ _ _⟩
 ·have hne:t≠b:=by rintro rfl;rw[Store.jv]at ht;cases ht
  rw[Store.jw _ _ hne]at ht;refine⟨by rw[Store.jw _ _ hne.symm,Store.jv],N.set t (.tip e k),⟨h1,.inr ⟨h2,t,k,ht,rfl,h3⟩⟩,by rw[Store.jw _ _ hne.symm];exact hn,fun y => ?_⟩;funext c;simp only[Store.set]
  by_cases e:c=b
  ·simp[e]
  ·simp[e]
end
end Go.Av
namespace Go.Av.Fn
open Go.Proofs
def XF(m:Store)(ob:Nat)(acc:List Tk)(m0:Store):Prop:=∃ N M v,(∀ b x,m b=some x→N b=some x)∧N ob=none∧Buf 185 5 N M v (acc.map tkV)∧M ob=none∧m0=M.set ob (.var 221 [v])
theorem scan_ok{Γ:jG}(L:xG Γ)(L2:Ad Γ)(h0:Γ 1=some (lw.map bs))(h1:Γ 0=some (kV.map bs)){m:Store}(s:List UInt8):jB Tryz.prog Γ 198 [bs s] m fun o m'=>Ac (tN s) o∧m'=m:=by
 refine jE mixed zfJ (by
  rintro v m b x _ ⟨h,_⟩;exfalso;unfold Ac at h
  split at h
  ·obtain⟨_,h⟩:=h;cases h
  ·cases h) ?_
 simp only[zmf,ss0,ay,ag];simp only[ssS,ag,ae,reduceIte,af];refine jR (fun h => ?_) (fun h => ?_)
 ·have hl:s.length>4096:=by have:=of_decide_eq_true h;omega
  simp only[ssS,ag,ae,reduceIte,af];refine jF kJ ⟨?_,rfl⟩;unfold tN;rw[if_pos hl];rfl
 ·have hl:¬ s.length>4096:=by have:=of_decide_eq_false h;omega
  have hres0:tN s=sS s 0 1 []:=by unfold tN;rw[if_neg hl]
  rw[hres0];simp only[ssS,ag,ae,reduceIte,af];refine kz fun xb hxb => ?_;simp only[ssS,ag,ae,reduceIte,af];refine kz fun ob hob => ?_;have hxo:xb≠ob:=by rintro rfl;rw[Store.jv]at hob;cases hob
  have hob':m ob=none:=by rwa [Store.jw _ _ hxo.symm]at hob
  simp only[ssS,ag,ae,reduceIte,af];refine pJ Y0 ?_ (by rintro v m' ⟨_,_,⟨⟩,_⟩);rintro v m' ⟨pb,hpb,hv,rfl⟩;cases hv;have hpo:pb≠ob:=by rintro rfl;rw[Store.jv]at hpb;cases hpb
  rw[Store.jw _ _ hpo]at hpb;have hpx:pb≠xb:=by rintro rfl;rw[Store.jv]at hpb;cases hpb
  have hpb':m pb=none:=by rwa [Store.jw _ _ hpx]at hpb
  simp only[ssS,ag,ae,reduceIte,af];refine zbb (Φ:=fun t=>awp _ _ _ _ _ ⟨t,_⟩) fun T0 hT0 => ?_;have hlen:T0.length=35:=by rw[hT0];rfl
  have t5:jT T0 5 = .ptr xb 0:=by rw[hT0];rfl
  have t6:jT T0 6 = .ptr ob 0:=by rw[hT0];rfl
  have t15:jT T0 15 = .fn (.func 241) [] [.ptr pb 0]:=by rw[hT0];rfl
  clear hT0;refine zaC (g:=241) (first:=[]) (caps:=[.ptr pb 0]) (by simp only[rV];exact t15) ?_;intro H cx cy hcx hcy fn l D hl0;have hlp:l≠pb:=by rintro rfl;rw[Store.jv]at hl0;cases hl0
  rw[Store.jw _ _ hlp]at hl0;have hlo:l≠ob:=by rintro rfl;rw[Store.jv]at hl0;cases hl0
  rw[Store.jw _ _ hlo]at hl0;have hlx:l≠xb:=by rintro rfl;rw[Store.jv]at hl0;cases hl0
  rw[Store.jw _ _ hlx]at hl0
  have hst:((((m.set xb (.var 298 [bs s,it 0,it 1,it 0])).set ob (.var 221 [.sl [] [] .full])).set pb (.var 296 [.ptr xb 0])).set l (.loop true fn T0 [16].toArray cx cy D))
    = ((((m.set ob (.var 221 [.sl [] [] .full])).set l (.loop true fn T0 [16].toArray cx cy D)).set pb (.var 296 [.ptr xb 0])).set xb (.var 298 [bs s,it 0,it 1,it 0])):=by
   funext c;simp only[Store.set]
   by_cases e1:c=l
   ·subst e1;simp[hlp,hlx]
   ·by_cases e2:c=pb
    ·subst e2;simp[e1,hpx]
    ·by_cases e3:c=ob
     ·subst e3;simp[e1,e2,hxo.symm]
     ·simp[e1,e2,e3]
  have hy:∀ acc t mC,acc.length≤4096→(∃ m0,m0 l=none∧mC=m0.set l (.loop true fn T0 [16].toArray cx cy D)∧XF m ob acc m0) →
    oG Tryz.prog Γ l [tkV t] mC fun o m'=>o = .ret (.val (.bool true))∧∃ m0,m0 l=none∧m'=m0.set l (.loop true fn T0 [16].toArray cx cy D)∧XF m ob (acc++[t]) m0:=by
   rintro acc tk mC hacc ⟨m0,hm0,rfl,N,M,v,k1,k2,k3,k4,rfl⟩;refine(OJ mixed hcx hcy rfl rfl (R:=fun m1=>XF m ob (acc++[tk]) m1) hm0 rfl ?_).mono ?_
   ·refine zbb (Φ:=fun t=>awp _ _ _ _ _ ⟨t,_⟩) fun T1 hT1 => ?_;have l1:T1.length=35:=by rw[hT1];exact(List.length_set ..).trans hlen
    have u6:jT T1 6 = .ptr ob 0:=by rw[hT1];exact(TC (by decide)).trans t6
    have u16:jT T1 16=tkV tk:=by rw[hT1];exact OT (by omega)
    clear hT1;rw[mJ l1];simp only[jV,kT,ag,u6,u16];simp only[ssS,ag,ae,reduceIte,af];refine kz fun b hb => ?_;have hbo:b≠ob:=by rintro rfl;rw[Store.jv]at hb;cases hb
    have hMb:M b=none:=by rwa [Store.jw _ _ hbo]at hb
    have hn:∀ m' x,(Store.set m' b x) ob=m' ob:=fun m' x=>Store.jw m' x hbo.symm;have hn2:∀ m' x,(Store.set m' ob x) b=m' b:=fun m' x=>Store.jw m' x hbo;obtain⟨tok,rfl⟩:=k3.val;simp only[Oy,Store.jv,Store.kC,hn,hn2,zhM,JC,ssS,ag,ae,reduceIte,af]
    have hNb:N b=none:=by
     cases hc:N b with
     |none=>rfl
     |some x=>rw[k3.sub _ _ hc]at hMb;cases hMb
    have hbuf:=(k3.add (x:=.var 185 [it tk.k,bs tk.s,it tk.n,it tk.l,it tk.a]) hMb).add (b:=ob) (x:=.var 221 [.sl (acc.map tkV) [] tok]) (by rw[hn];exact k4);rw[set_comm M _ _ hbo]at hbuf;refine Eo hbuf rfl (by intro c hc;simp[V.cells]at hc;rcases hc with rfl|rfl|rfl|rfl|rfl<;>rfl) (by simp;omega) fun m3 v3 hb3 => ?_;obtain⟨d1,M',d2,d3,d4⟩:=hb3.del (b:=ob) (by rw[hn];exact k2);obtain⟨tok3,rfl⟩:=hb3.val;simp only[d1,ssS,ag,ae,reduceIte,af];refine⟨N.set b (.var 185 [it tk.k,bs tk.s,it tk.n,it tk.l,it tk.a]),M',_,fun c x hc => ?_,by rw[hn];exact k2,by rw[bC];exact d2,d3,d4 _⟩;rw[Store.jw _ _ (by rintro rfl;rw[k1 _ _ hc]at hNb;cases hNb)];exact k1 _ _ hc
   ·rintro o m' ⟨m₁,rfl,hn,rfl,hR⟩;exact⟨rfl,m₁,hn,rfl,hR⟩
  have key:=VA L L2 h0 h1 (y:=l) (J:=fun acc mC=>∃ m0,m0 l=none∧mC=m0.set l (.loop true fn T0 [16].toArray cx cy D)∧XF m ob acc m0) (xb:=xb) (pb:=pb) (Ne.symm hpx) s (by omega) hy
   (mC:=(m.set ob (.var 221 [.sl [] [] .full])).set l (.loop true fn T0 [16].toArray cx cy D)) ⟨m.set ob (.var 221 [.sl [] [] .full]),by rw[Store.jw _ _ hlo];exact hl0,rfl,m,m,_,fun _ _ h=>h,hob',Buf.start,hob',rfl⟩
   (by rw[Store.jw _ _ hlx.symm,Store.jw _ _ hxo];exact hxb) (by rw[Store.jw _ _ hlp.symm,Store.jw _ _ hpo];exact hpb')
  rw[←hst]at key;refine jB.mono (R:=fun o m'=>VJ _ xb pb s o m') key ?_;rintro o m' ⟨rfl,acc,mC,a,ln,e,⟨m0,hm0,rfl,N,M,v,k1,k2,k3,k4,rfl⟩,g1,g2,rfl,hr⟩;refine⟨⟨_,rfl⟩,(((M.set ob (.var 221 [v])).set pb (.var 296 [.ptr xb 0])).set xb (.var 298 [bs s,it a,it ln,it e])),?_,?_,?_⟩
  ·funext c;simp only[Store.set]
   by_cases e1:c=l
   ·subst e1;simp[hlp,hlx]
   ·simp[e1]
  ·rw[Store.jw _ _ hlx,Store.jw _ _ hlp];exact hm0
  ·have hxo2:∀ m' x,(Store.set m' xb x) ob=m' ob:=fun m' x=>Store.jw m' x hxo.symm;have hpo2:∀ m' x,(Store.set m' pb x) ob=m' ob:=fun m' x=>Store.jw m' x hpo.symm
   have hsub:∀ c x,m c=some x→(((M.set ob (.var 221 [v])).set pb (.var 296 [.ptr xb 0])).set xb (.var 298 [bs s,it a,it ln,it e])) c=some x:=by
    intro c x hc;rw[Store.jw _ _ (by rintro rfl;rw[hxb]at hc;cases hc),Store.jw _ _ (by rintro rfl;rw[hpb']at hc;cases hc),Store.jw _ _ (by rintro rfl;rw[hob']at hc;cases hc)];exact k3.sub _ _ (k1 _ _ hc)
   obtain⟨tok,rfl⟩:=k3.val;rw[mJ hlen];simp only[jV,kT,ag,t5,t6,t15]
   cases hsc:sS s 0 1 []with
   |ok lx=>
    rw[hsc]at hr;obtain⟨rfl,rfl⟩:=hr;have hz:((0:Int) != 0)=false:=rfl;simp only[hz,Store.jv,hxo2,hpo2,ssS,ag,ae,reduceIte,af];exact mD (m':=m) kJ hsub ⟨⟨tok,rfl⟩,rfl⟩
   |error p=>
    rw[hsc]at hr;obtain⟨a',e'⟩:=p;obtain⟨rfl,rfl,hne⟩:=hr;have hz:((e':Int) != 0)=true:=by simpa using hne
    simp only[hz,Store.jv,hxo2,hpo2,ssS,ag,ae,reduceIte,af];exact mD (m':=m) kJ hsub ⟨rfl,rfl⟩
end Go.Av.Fn
namespace Go.Av.Fn
def exO:Option Ex→V
 |some e=>exV e
 |none=>exV (.mk 0 [] 0 [] 0)
structure Form where
 w:List UInt8
 least:Int
 n:Bool
 s:Bool
 deriving DecidableEq
def mg:Form:=⟨[],0,false,false⟩
def forms:List Form:=[mg,⟨[115,116,101,112],0,false,false⟩,⟨[110,101,120,116],0,false,false⟩,⟨[102,105,110,105,115,104],0,false,false⟩,⟨[99,111,110,116,105,110,117,101],0,false,false⟩,
 ⟨[98,97,99,107,45,115,116,101,112],0,false,false⟩,⟨[98,97,99,107,45,110,101,120,116],0,false,false⟩,⟨[98,97,99,107,45,102,105,110,105,115,104],0,false,false⟩,⟨[98,97,99,107,45,99,111,110,116,105,110,117,101],0,false,false⟩,
 ⟨[103,111,116,111],0,true,false⟩,⟨[98,114,101,97,107],1,true,true⟩,⟨[119,97,116,99,104],0,false,true⟩,⟨[100,101,108,101,116,101],1,true,false⟩,⟨[101,110,97,98,108,101],1,true,false⟩,⟨[100,105,115,97,98,108,101],1,true,false⟩,
 ⟨[117,112],0,false,false⟩,⟨[100,111,119,110],0,false,false⟩,⟨[112,114,105,110,116],0,false,true⟩]
def lQ(k:Int):Form:=if k<0 then mg else (forms[k.toNat]?).getD mg
def Yt(f:Form):V:=.agg [bs f.w,it f.least,.val (.bool f.n),.val (.bool f.s)]
def zK(k n:Int)(s:List UInt8):V:=.agg [it k,it n,bs s]
theorem Good.zkV:∀ (l:List Tk) (t:Tk),t.k=0→Good (l++[t])
 |[],t,h=>h
 |[a],t,h=>h
 |a::b::l,t,h=>Good.zkV (b::l) t h
theorem VG{r:List UInt8}{a l:Nat}{acc L:List Tk}(h:sS r a l acc = .ok L):Good L:=by
 fun_induction sS r a l acc with
 |case1 r a l acc x r' e h1 h2=>cases h;exact Good.zkV _ _ rfl
 |case2 r a l acc x r' e h1 h2=>cases h
 |case3 r a l acc x r' t n h1 ih=>exact ih h
theorem F7{s:List UInt8}{L:List Tk}(h:tN s = .ok L):Good L:=by
 unfold tN at h
 split at h
 ·cases h
 ·exact VG h
theorem Y7{r:List UInt8}{a l:Nat}{acc L:List Tk}(h:sS r a l acc = .ok L):L.length≤acc.length+r.length+1:=by
 fun_induction sS r a l acc with
 |case1 r a l acc x r' e h1 h2=>cases h;simp
 |case2 r a l acc x r' e h1 h2=>cases h
 |case3 r a l acc x r' t n h1 ih=>
  have:=ih h;have h4:=G5 h1
  have h5:r'.length≤r.length:=by
   show(r.drop _).length≤r.length;rw[aV];omega
  simp at this;omega
theorem Jf{s:List UInt8}{L:List Tk}(h:tN s = .ok L):L.length≤4097:=by
 unfold tN at h
 split at h
 ·cases h
 ·have:=Y7 h;simp at this;omega
theorem MR{l:List Tk}(h:Good l):∃ p,run (10*l.length+9) (.ex 0) l=some p∧Sgl p∧Fit false 0 l p:=by
 obtain⟨p,h1,h2⟩:=TR (10*l.length+9) (.ex 0) l h (by simp[ut]) (by simp[rE]);refine⟨p,h1,?_,h2⟩
 cases p with
 |ok es l1=>exact h2.2.2 rfl
 |st l1=>trivial
end Go.Av.Fn
namespace Go.Av.Fn
open Go.RowKit Go.Extern.Stop Go.Stop Go.Extern Go.Proofs
theorem WM(t:Addr)(w:World):(ReflectliteValue.unpack (.iface 269 (.pointer (some t)))).run Tryz.prog w
  = .ok (.agg #[.pointer (some ⟨9,269,none⟩),.pointer (some ⟨w.heap.size,0,none⟩),.int .u64 150]) (w.alloc (.cells #[.pointer (some t)] 269)):=by kernel_rfl
theorem zeT (a : Addr) (w : World) : (ReflectliteValue.methodAny (ReflectliteValue.valueError "reflectlite.Value.Type" 0) (fun t _ _ _ => ReflectliteType.toType t) #[.agg #[.pointer (some ⟨9, 269, none⟩), .pointer (some a), .int .u64 150]]).run Tryz.prog w
  = .ok (.iface 333 (.agg #[.pointer (some ⟨9,269,none⟩)])) w:=by kernel_rfl
theorem SI (h : Value) (w : World) : (Go.method 532 333 (.agg #[h]) "Kind").run Tryz.prog w = .ok (304, h) w := by kernel_rfl
theorem zeV(w:World):((ReflectliteType.abiMethod fun t=>(fun a:Nat=>Value.int IntKind.u8 (a:Int)) <$> Rtype.kind t) #[.pointer (some ⟨9,269,none⟩)]).run Tryz.prog w = .ok (.int .u8 22) w:=by kernel_rfl
theorem zeU(w:World):((ReflectliteType.abiMethod fun t=>(fun a:Nat=>Value.int IntKind.u8 (a:Int)) <$> Rtype.kind t) #[.pointer (some ⟨9,264,none⟩)]).run Tryz.prog w = .ok (.int .u8 22) w:=by kernel_rfl
theorem zhk(z:Sem Value)(f:TypeId→Addr→Nat→Nat→Sem Value)(v:Value) :
  ReflectliteValue.method z f #[v]=(do match ←ReflectliteValue.parts v with|none=>z|some (t,a,fl)=>f t a fl (fl%32)):=rfl
theorem U6(a:Addr)(w:World):(ReflectliteValue.parts (.agg #[.pointer (some ⟨9,269,none⟩),.pointer (some a),.int .u64 150])).run Tryz.prog w = .ok (some (269,a,150)) w:=by kernel_rfl
theorem zc1(a p:Addr)(W:World)(ha:W.cell? a=some (.pointer (some p))) :
  (ReflectliteValue.method (ReflectliteValue.valueError "reflectlite.Value.IsNil" 0) ReflectliteValue.isNil #[.agg #[.pointer (some ⟨9, 269, none⟩), .pointer (some a), .int .u64 150]]).run Tryz.prog W = .ok (.bool false) W := by
 rw[zhk];simp only[Sem.run_bind,U6,Result.andThen];simp[ReflectliteValue.isNil,loadVar,isAgg,underlying,Tryz.underlying269,ha,Result.andThen]
theorem SK (h : Value) (w : World) : (Go.method 532 333 (.agg #[h]) "Elem").run Tryz.prog w = .ok (338, .agg #[h]) w := by kernel_rfl
theorem Gz (h : Value) (w : World) : (Go.method 532 333 (.agg #[h]) "Implements").run Tryz.prog w = .ok (339, .agg #[h]) w := by kernel_rfl
theorem Ef (h : Value) (w : World) : (Go.method 532 333 (.agg #[h]) "AssignableTo").run Tryz.prog w = .ok (336, .agg #[h]) w := by kernel_rfl
theorem zeW(w:World):(ReflectliteType.method ReflectliteType.elem #[.agg #[.pointer (some ⟨9,269,none⟩)]]).run Tryz.prog w = .ok (.iface 333 (.agg #[.pointer (some ⟨9,264,none⟩)])) w:=by kernel_rfl
theorem O0 (w : World) : (ReflectliteType.relation "Implements" ReflectliteType.implements_ #[.agg #[.pointer (some ⟨9, 264, none⟩)], .iface 333 (.agg #[.pointer (some ⟨9, 266, none⟩)])]).run Tryz.prog w = .ok (.bool true) w := by kernel_rfl
theorem zai(v:Value)(w:World):(ReflectliteType.typeOf #[.iface 264 v]).run Tryz.prog w = .ok (.iface 333 (.agg #[.pointer (some ⟨9,264,none⟩)])) w:=by kernel_rfl
theorem O1 (w : World) : (ReflectliteType.relation "AssignableTo" ReflectliteType.assignableTo #[.agg #[.pointer (some ⟨9, 264, none⟩)], .iface 333 (.agg #[.pointer (some ⟨9, 264, none⟩)])]).run Tryz.prog w = .ok (.bool true) w := by kernel_rfl
theorem WL(e:Addr)(w:World):(ReflectliteValue.unpack (.iface 264 (.pointer (some e)))).run Tryz.prog w
  = .ok (.agg #[.pointer (some ⟨9,264,none⟩),.pointer (some ⟨w.heap.size,0,none⟩),.int .u64 150]) (w.alloc (.cells #[.pointer (some e)] 264)):=by kernel_rfl
theorem zak(w:World):(Rtype.elem? 269).run Tryz.prog w = .ok (some 264) w:=by kernel_rfl
theorem zkX(p:Addr)(w:World):(ReflectliteValue.mk 264 p ReflectliteValue.flagAddr).run Tryz.prog w = .ok (.agg #[.pointer (some ⟨9,264,none⟩),.pointer (some p),.int .u64 406]) w:=by kernel_rfl
theorem zc2(a p:Addr)(W:World)(ha:W.cell? a=some (.pointer (some p))) :
  (ReflectliteValue.method (ReflectliteValue.valueError "reflectlite.Value.Elem" 0) ReflectliteValue.elem #[.agg #[.pointer (some ⟨9, 269, none⟩), .pointer (some a), .int .u64 150]]).run Tryz.prog W
   = .ok (.agg #[.pointer (some ⟨9,264,none⟩),.pointer (some p),.int .u64 406]) W:=by
 rw[zhk];simp only[Sem.run_bind,U6,Result.andThen];simp[ReflectliteValue.elem,loadVar,isAgg,underlying,Tryz.underlying269,ha,Result.andThen,zak,zkX]
theorem zkW(v x:Value):ReflectliteValue.set #[v,x]=(do
  let (some (dst,a,fl),some (src,b,_)):=(←ReflectliteValue.parts v,←ReflectliteValue.parts x)
   | unsupported (.noEntry "extern/(internal/reflectlite.Value).Set.zeroValue")
  if fl / ReflectliteValue.flagAddr % 2 == 0 then unsupported (.noEntry "extern/(internal/reflectlite.Value).Set.unaddressable")
  let val ←loadVar src b
  if ←Rtype.directlyAssignable dst src then storeVar dst a val
  else if ←Rtype.implements dst src then
   if (←Rtype.kind src)==20 then
    match val with
    | .nilIface => unsupported (.noEntry "extern/reflectlite: a nil value of one interface type handed on as a value of another")
    |_=>storeVar dst a val
   else storeVar dst a (.iface src val)
  else panicString ("reflectlite.Set: value of type " ++ (← Rtype.spelt src) ++ " is not assignable to type " ++ (← Rtype.spelt dst))
  pure (.tuple #[])):=rfl
theorem zaj(a:Addr)(w:World):(ReflectliteValue.parts (.agg #[.pointer (some ⟨9,264,none⟩),.pointer (some a),.int .u64 406])).run Tryz.prog w = .ok (some (264,a,406)) w:=by kernel_rfl
theorem zcZ(a:Addr)(w:World):(ReflectliteValue.parts (.agg #[.pointer (some ⟨9,264,none⟩),.pointer (some a),.int .u64 150])).run Tryz.prog w = .ok (some (264,a,150)) w:=by kernel_rfl
theorem zal(w:World):(Rtype.directlyAssignable 264 264).run Tryz.prog w = .ok true w:=by kernel_rfl
theorem zhX(ta b e:Addr)(old:Value)(W:World)(hb:W.cell? b=some (.pointer (some e)))(ht:W.cell? ta=some old)(hf:W.frozen? ta=false) :
  (ReflectliteValue.set #[.agg #[.pointer (some ⟨9,264,none⟩),.pointer (some ta),.int .u64 406],.agg #[.pointer (some ⟨9,264,none⟩),.pointer (some b),.int .u64 150]]).run Tryz.prog W
   = .ok (.tuple #[]) (W.setCell ta (.pointer (some e))):=by
 rw[zkW];simp only[Sem.run_bind,zaj,zcZ,Result.andThen];simp[ReflectliteValue.flagAddr,loadVar,isAgg,underlying,Tryz.underlying264,hb,Result.andThen,zal,storeVar,Value.cells,storeCells,Addr.add];rw[run_store Tryz.prog W ta _ _ (by rfl)];simp[ht,hf]
def YI(w:World)(e t:Addr):World:=((((w.alloc (.cells #[.pointer (some t)] 269)).alloc (.cells #[.pointer (some ⟨9,269,none⟩),.pointer (some ⟨w.heap.size,0,none⟩),.int .u64 150] 304)).alloc (.cells #[.pointer (some ⟨9,269,none⟩),.pointer (some ⟨w.heap.size,0,none⟩),.int .u64 150] 304)).alloc (.cells #[.pointer (some e)] 264)).setCell t (.pointer (some e))
set_option maxHeartbeats 8000000 in
theorem as_hit(e t:Addr)(old:Value)(w:World)(hg:w.cell? ⟨3,0,none⟩=some (.iface 333 (.agg #[.pointer (some ⟨9,266,none⟩)])))(ht0:w.cell? t=some old)(hf0:w.frozen? t=false) :
  Calls Tryz.prog 200 #[.iface 264 (.pointer (some e)),.iface 269 (.pointer (some t))] w fun ev w'=>ev = .returned (.bool true)∧w'=YI w e t:=by
 have h6:=@run_callFunc_extern Tryz.prog 224 _ (fun args=>ReflectliteValue.unpack (args.getD 0 (.tuple #[]))) Tryz.func224 (by kernel_rfl) (by kernel_rfl) (by kernel_rfl) (by kernel_rfl)
 have h7 := @run_callFunc_extern Tryz.prog 225 _ (ReflectliteValue.methodAny (ReflectliteValue.valueError "reflectlite.Value.Type" 0) (fun t _ _ _ => ReflectliteType.toType t)) Tryz.func225 (by kernel_rfl) (by kernel_rfl) (by kernel_rfl) (by kernel_rfl)
 have h8 := @run_callFunc_extern Tryz.prog 226 _ (ReflectliteValue.method (ReflectliteValue.valueError "reflectlite.Value.IsNil" 0) ReflectliteValue.isNil) Tryz.func226 (by kernel_rfl) (by kernel_rfl) (by kernel_rfl) (by kernel_rfl)
 have h27:=@run_callFunc_extern Tryz.prog 304 _ (ReflectliteType.abiMethod fun t=>do pure (.int .u8 (←Rtype.kind t))) Tryz.func304 (by kernel_rfl) (by kernel_rfl) (by kernel_rfl) (by kernel_rfl);have h37:=@run_callFunc_extern Tryz.prog 338 _ (ReflectliteType.method ReflectliteType.elem) Tryz.func338 (by kernel_rfl) (by kernel_rfl) (by kernel_rfl) (by kernel_rfl)
 have h38 := @run_callFunc_extern Tryz.prog 339 _ (ReflectliteType.relation "Implements" ReflectliteType.implements_) Tryz.func339 (by kernel_rfl) (by kernel_rfl) (by kernel_rfl) (by kernel_rfl)
 have h10:=@run_callFunc_extern Tryz.prog 244 _ ReflectliteType.typeOf Tryz.func244 (by kernel_rfl) (by kernel_rfl) (by kernel_rfl) (by kernel_rfl)
 have h35 := @run_callFunc_extern Tryz.prog 336 _ (ReflectliteType.relation "AssignableTo" ReflectliteType.assignableTo) Tryz.func336 (by kernel_rfl) (by kernel_rfl) (by kernel_rfl) (by kernel_rfl)
 have h11 := @run_callFunc_extern Tryz.prog 245 _ (ReflectliteValue.method (ReflectliteValue.valueError "reflectlite.Value.Elem" 0) ReflectliteValue.elem) Tryz.func245 (by kernel_rfl) (by kernel_rfl) (by kernel_rfl) (by kernel_rfl)
 have h12:=@run_callFunc_extern Tryz.prog 246 _ ReflectliteValue.set Tryz.func246 (by kernel_rfl) (by kernel_rfl) (by kernel_rfl) (by kernel_rfl);have tO:=zai;have mA:=Ef;have a25:=O1;have v25:=WL;have f6:=WM;have f7:=zeT;have mK:=SI;have mE:=SK;have mI:=Gz;have k27:=zeV;have k25:=zeU;have e27:=zeW;have i25:=O0;have n8:=zc1 ⟨w.heap.size,0,none⟩ t ((w.alloc (.cells #[.pointer (some t)] 269)).alloc (.cells #[.pointer (some ⟨9,269,none⟩),.pointer (some ⟨w.heap.size,0,none⟩),.int .u64 150] 304)) (by simp)
 have hlt:3<w.heap.size:=by
  rcases fB 3 w.heap.size with h|h
  ·exact h
  ·simp[World.cell?,gq h]at hg
 have hg2:((w.alloc (.cells #[.pointer (some t)] 269)).alloc (.cells #[.pointer (some ⟨9,269,none⟩),.pointer (some ⟨w.heap.size,0,none⟩),.int .u64 150] 304)).cell? ⟨3,0,none⟩=some (.iface 333 (.agg #[.pointer (some ⟨9,266,none⟩)])):=by
  rw[World.cell?_alloc_lt _ _ ⟨3,0,none⟩ (by simp;omega),World.cell?_alloc_lt _ _ ⟨3,0,none⟩ hlt];exact hg
 have htl:t.block<w.heap.size:=by
  rcases fB t.block w.heap.size with h|h
  ·exact h
  ·simp[World.cell?,gq h]at ht0
 have el:=zc2 ⟨w.heap.size,0,none⟩ t (((w.alloc (.cells #[.pointer (some t)] 269)).alloc (.cells #[.pointer (some ⟨9,269,none⟩),.pointer (some ⟨w.heap.size,0,none⟩),.int .u64 150] 304)).alloc (.cells #[.pointer (some ⟨9,269,none⟩),.pointer (some ⟨w.heap.size,0,none⟩),.int .u64 150] 304)) (by rw[World.cell?_alloc_lt _ _ ⟨w.heap.size,0,none⟩ (by simp;omega)];simp)
 have st:=zhX t ⟨w.heap.size+1+1+1,0,none⟩ e old ((((w.alloc (.cells #[.pointer (some t)] 269)).alloc (.cells #[.pointer (some ⟨9,269,none⟩),.pointer (some ⟨w.heap.size,0,none⟩),.int .u64 150] 304)).alloc (.cells #[.pointer (some ⟨9,269,none⟩),.pointer (some ⟨w.heap.size,0,none⟩),.int .u64 150] 304)).alloc (.cells #[.pointer (some e)] 264))
  (by rw[World.cell?_alloc_at _ _ _ _ (by simp)];rfl)
  (by rw[World.cell?_alloc_lt _ _ t (by simp;omega),World.cell?_alloc_lt _ _ t (by simp;omega),World.cell?_alloc_lt _ _ t (by simp;omega),World.cell?_alloc_lt _ _ t htl];exact ht0)
  (by rw[World.frozen?_alloc_old _ _ t (by simp;omega),World.frozen?_alloc_old _ _ t (by simp;omega),World.frozen?_alloc_old _ _ t (by simp;omega),World.frozen?_alloc_old _ _ t (Nat.ne_of_lt htl)];exact hf0)
 unfold YI
 go_enter Tryz.func200,Tryz.ntmps200
 go_wp2
 refine wp_loop_rounds 1 ?_;rw[rounds_succ]
 go_wp2
 go_ret
 exact⟨rfl,rfl⟩
end Go.Av.Fn
namespace Go.Av.Fn
open Go.RowKit Go.Proofs
theorem zk2{Γ:jG}(hΓ:Γ 3=some [.ifc 333 (.agg [.ptr 9 266])]){m:Store}{e eo t:Nat}{c:V}(ht:m t=some (.var 264 [c])) :
  jB Tryz.prog Γ 200 [.ifc 264 (.ptr e eo),.ifc 269 (.ptr t 0)] m fun o m'=>o = .ret (.val (.bool true))∧m'=m.set t (.var 264 [.ptr e eo]):=by
 refine⟨by kernel_rfl,fun G B0 mF w cargs hD hR hL => ?_⟩;obtain⟨u1,us1,rfl,r1,hL⟩:=hL.cons_inv;obtain⟨u2,us2,rfl,r2,hL⟩:=hL.cons_inv;obtain rfl:=hL.kN
 have hu1:u1 = .iface 264 (.pointer (some ⟨e,eo,none⟩)):=by
  cases r1 with
  |ifc r1=>cases r1;rfl
 have hu2:u2 = .iface 269 (.pointer (some ⟨t,0,none⟩)):=by
  cases r2 with
  |ifc r2=>cases r2;rfl
 subst hu1;subst hu2;have hM:(m.or mF) t=some (.var 264 [c]):=oC ht;obtain⟨hB,⟨us,h2,h3⟩,h4⟩:=hR.var t _ _ hM;obtain⟨old,us',rfl,r3,r4⟩:=h3.cons_inv;obtain rfl:=r4.kN;obtain⟨gs,g1,g2⟩:=hR.glob _ _ hΓ;obtain⟨gv,gs',rfl,g3,g4⟩:=g1.cons_inv
 have hgv:gv = .iface 333 (.agg #[.pointer (some ⟨9,266,none⟩)]):=by
  cases g3 with
  |ifc g3=>
   cases g3 with
   |agg g5=>
    obtain⟨gp,gs'',rfl,g6,g7⟩:=g5.cons_inv;obtain rfl:=g7.kN;cases g6;rfl
 subst hgv;have hg:=hR.K _ _ _ (g2.2 0 _ rfl);have ht0:w.cell? ⟨t,0,none⟩=some old:=by simp[World.cell?,h2]
 have hf0:w.frozen? ⟨t,0,none⟩=false:=by simp[World.frozen?,h2]
 refine(as_hit ⟨e,eo,none⟩ ⟨t,0,none⟩ old w hg ht0 hf0).mono ?_;rintro ev w' ⟨rfl,rfl⟩;refine⟨G,m.set t (.var 264 [.ptr e eo]),.ret (.val (.bool true)),Gh.le.refl G,hD.set _ (hD.CG ht),?_,?_,.ret (.val rfl),rfl,rfl⟩
 ·rw[xK];exact((((hR.alloc _).alloc _).alloc _).alloc _).store hM (o:=0) (.ptr e eo)
 ·refine Below.setCell (((((Below.refl B0 w).alloc hR.base _).alloc ?_ _).alloc ?_ _).alloc ?_ _) hB _
  all_goals (simp only[World.size_alloc];have:=hR.base;omega)
end Go.Av.Fn
namespace Go.Av
section
variable {P:Program} {Γ:jG} {l:List Item} {t:List V} {m:Store} {d:Option Tmp}
theorem EI{Kp:V→St→Prop}{K:St→Prop}{g:Option (Tmp×Bool)}{ao:AOp}:TS P Γ Kp (⟨d,g,ao,[]⟩::l) K ⟨t,m⟩=vk P Γ (fun v m'=>Kp v ⟨t,m'⟩) [⟨d,g,ao,[]⟩] (TS P Γ Kp l K) (some ⟨t,m⟩):=by
 apply propext;simp only[TS,Xr,vk,sG,TL,kX,dm,false_implies,implies_true,true_and]
theorem Ho{Kp:V→St→Prop}{K:St→Prop}{st:St}:TS P Γ Kp [] K st=K st:=rfl
theorem I5{Kp:V→St→Prop}{Q:Ex→St→Prop}{st:St}:En P Γ Kp (.row l) Q st=TS P Γ Kp l (Q .normal) st:=rfl
theorem I4{Kp:V→St→Prop}{Q:Ex→St→Prop}{a b:BQ}{st:St}:En P Γ Kp (.seq a b) Q st=En P Γ Kp a (wY (En P Γ Kp b Q) Q) st:=rfl
theorem QK{Kp:V→St→Prop}{Q:Ex→St→Prop}{c:lF}{st:St}:En P Γ Kp (.code c) Q st=awp P Γ (fun _ _=>False) c Q st:=rfl
def Vg(v:V)(A B:Prop):Prop:=match v with
 | .val (.bool t)=>(t=true→A)∧(t=false→B)
 |_=>False
theorem zaD{Kp:V→St→Prop}{Q:Ex→St→Prop}{c:Operand}{a b:BQ}:En P Γ Kp (.cond c a b) Q ⟨t,m⟩=Vg (ev Γ t c) (En P Γ Kp a Q ⟨t,m⟩) (En P Γ Kp b Q ⟨t,m⟩):=(rfl)
theorem WQ{A B:Prop}:Vg (.val (.bool true)) A B=A:=by simp[Vg]
theorem Vf{A B:Prop}:Vg (.val (.bool false)) A B=B:=by simp[Vg]
theorem zhx{Kp:V→Store→Prop}{K:St→Prop}{st:St}:sG P Γ Kp l K st=vk P Γ Kp l K (some st):=rfl
theorem zbD{st:St}{v:V}:st.put none v=st:=rfl
theorem zhA{T:TypeId}{x:Operand}:lL (.asrt T x)=true:=(rfl)
theorem zac{T:TypeId}{x:Operand}:jJ P (ev Γ t) m (.asrt T x)=I7 P T (ev Γ t x):=rfl
end
end Go.Av
namespace Go.Av.Fn
open Go.Proofs
def DV(l:List Tk):Option Ex×Int×Int:=match run (10*l.length+9) (.ex 0) l with
 |some (.ok [e] (t::_))=>if t.k=0 then (some e,0,0)else (none,t.a,6)
 |some (.st (t::_))=>(none,t.a,6)
 |_=>(none,0,0)
def qF(s:List UInt8):Option Ex×Int×Int:=match tN s with
 | .error (a,e)=>(none,a,e)
 | .ok l=>DV l
def zJ(r:Option Ex×Int×Int):V:=.tup [exO r.1,it r.2.1,it r.2.2]
theorem zhH:kR Tryz.prog .eql 20 .iface (.tmp 9) (.const .nilIface) (.val .nilIface) (.val .nilIface)=some (.val (.bool true)):=by kernel_rfl
theorem zfb{b:Nat}:I7 Tryz.prog 266 (.ifc 264 (.ptr b 0))=some (.tup [.ifc 264 (.ptr b 0),.val (.bool true)]):=by kernel_rfl
section
variable {Γ:jG} {m:Store} {xb ab eb:Nat}
theorem VQ:vO Tryz.prog Γ 199 [.ptr xb 0,.ptr ab 0,.ptr eb 0] m none (fun m' => m'=m):=by
 refine Ep mixed YL ?_;have hs:Jd zdy [.ptr xb 0,.ptr ab 0,.ptr eb 0] m none=⟨[.ptr xb 0,.ptr ab 0,.ptr eb 0,.val .nilIface,un,un,un,un,.val .nilIface,un,un,un,un,un,un,un,un,un,un,un,un,un,un,un,un,un,un,un],m⟩:=rfl;rw[hs];simp only[zdy];simp only[zhH,ssS,ag,ae,reduceIte,af];exact⟨⟨_,rfl⟩,rfl⟩
theorem VP(hΓ:Γ 3=some [.ifc 333 (.agg [.ptr 9 266])]){b:Nat}{a:Int}{c1:List V}{c2 c3:V}(hb:m b=some (.var 271 [it a]))(hx:m xb=some (.var 206 c1))(h1:c1.length=5)(ha:m ab=some (.var 3 [c2]))(he:m eb=some (.var 34 [c3]))(hxa:xb≠ab)(hxe:xb≠eb)(hae:ab≠eb) :
  vO Tryz.prog Γ 199 [.ptr xb 0,.ptr ab 0,.ptr eb 0] m (some (stV b)) (fun m' => m' xb=some (.var 206 zE)∧m' ab=some (.var 3 [it a])∧m' eb=some (.var 34 [it 6])∧∀ c x,c≠xb→c≠ab→c≠eb→m c=some x→m' c=some x):=by
 refine Ep mixed YL ?_;have hs:Jd zdy [.ptr xb 0,.ptr ab 0,.ptr eb 0] m (some (stV b))=⟨[.ptr xb 0,.ptr ab 0,.ptr eb 0,stV b,un,un,un,un,stV b,un,un,un,un,un,un,un,un,un,un,un,un,un,un,un,un,un,un,un],m⟩:=rfl;rw[hs];have hst:stV b = .ifc 264 (.ptr b 0):=rfl;have hni:kR Tryz.prog .eql 20 .iface (.tmp 9) (.const .nilIface) (stV b) (.val .nilIface)=some (.val (.bool false)):=rfl;simp only[zdy];simp only[hni,ssS,ag,ae,reduceIte,af];refine kz fun b4 hb4 => ?_;have n4:∀ {c x},m c=some x→c≠b4:=fun h=>jU h hb4;simp only[zhA,zac,zfb,hst,ssS,ag,ae,reduceIte,af];refine lm (zk2 hΓ (c:=.val (.pointer none)) (Store.jv _ _ _)) ?_;simp only[Store.kC,ssS,ag,ae,reduceIte,af];refine kz fun b7 hb7 => ?_;have h47:b4≠b7:=jU (Store.jv _ _ _) hb7;have n7:∀ {c x},m c=some x→c≠b7:=fun {c x} h=>jU (x:=x) (by rw[Store.jw _ _ (n4 h)];exact h) hb7
 obtain⟨p1,p2,p3,p4,p5,rfl⟩:∃ p1 p2 p3 p4 p5,c1=[p1,p2,p3,p4,p5]:=by
  match c1,h1 with
  |[p1,p2,p3,p4,p5],_=>exact⟨_,_,_,_,_,rfl⟩
 simp only[Store.jv,Store.jw _ _ h47,Store.jw _ _ (n7 hb),Store.jw _ _ (n4 hb),hb,Store.jw _ _ (n7 hx),Store.jw _ _ (n4 hx),hx,ssS,ag,ae,reduceIte,af];simp only[Store.jw _ _ hxa.symm,Store.jw _ _ (n7 ha),Store.jw _ _ (n4 ha),ha,ssS,ag,ae,reduceIte,af];simp only[Store.jw _ _ hae.symm,Store.jw _ _ hxe.symm,Store.jw _ _ (n7 he),Store.jw _ _ (n4 he),he,ssS,ag,ae,reduceIte,af];refine⟨⟨_,rfl⟩,?_,?_,Store.jv _ _ _,?_⟩
 ·show(Store.set _ _ _) _=_;rw[Store.jw _ _ hxe,Store.jw _ _ hxa,Store.jv]
 ·show(Store.set _ _ _) _=_;rw[Store.jw _ _ hae,Store.jv]
 ·intro c x h1 h2 h3 hc;show(Store.set _ _ _) _=_;rw[Store.jw _ _ h3,Store.jw _ _ h2,Store.jw _ _ h1,Store.jw _ _ (n7 hc),Store.jw _ _ (n4 hc)];exact hc
end
end Go.Av.Fn
namespace Go.Av
theorem vO.mono{P:Program}{Γ:jG}{g:FuncId}{caps:List V}{m:Store}{p:Option V}{R R':Store→Prop}(h:vO P Γ g caps m p R)(hr:∀ m',R m' → R' m'):vO P Γ g caps m p R':=by
 refine⟨h.1,fun G B0 mF w ccaps u a b c d => ?_⟩;have:=h.2 G B0 mF w ccaps u a b c d;refine this.mono ?_;rintro e u' w' ⟨uv,G',m',h1,h2,h3,h4,h5,h6,h7⟩;exact⟨uv,G',m',h1,h2,h3,h4,h5,h6,hr _ h7⟩
theorem DU{t:List V}{m:Store}{i j k a b c:Nat}{T1 T2 T3:TypeId}{cs:List V}{u x y:V}(h1:jT t i = .ptr a 0)(h2:m a=some (.var T1 cs))(h3:mW cs 0 (some 5)=some u)(h4:jT t j = .ptr b 0)(h5:m b=some (.var T2 [x]))(h6:jT t k = .ptr c 0)(h7:m c=some (.var T3 [y])) :
  resV [.cell i (some 5),.cell j none,.cell k none] ⟨t,m⟩=some (.tup [u,x,y]):=by
 have e:∀ z:V,mW [z] 0 none=some z:=fun _=>rfl;simp only[resV,qo,qJ,nz,h1,h2,h3,h4,h5,h6,h7,e,dV]
end Go.Av
namespace Go.Av.Fn
open Go.Proofs
structure Env (Γ:jG):Prop where
 lib:xG Γ
 parse:Ad Γ
 words:Γ 1=some (lw.map bs)
 signs:Γ 0=some (kV.map bs)
 errT:Γ 3=some [.ifc 333 (.agg [.ptr 9 266])]
theorem zdQ{r:List UInt8}{e:Int}(h:sW r = .error e):e≠0:=by
 unfold sW at h
 split at h
 ·cases h;decide
 ·split at h
  ·split at h
   ·cases h
   ·split at h
    ·cases h;decide
    ·cases h
  ·split at h
   ·split at h
    ·cases h;decide
    ·cases h
   ·split at h
    ·split at h
     ·rename_i hq;cases h;exact VV hq
     ·cases h
    ·split at h
     ·cases h
     ·cases h;decide
theorem zbj{r:List UInt8}{a l:Nat}{acc:List Tk}{x:Nat×Int}(h:sS r a l acc = .error x):x.2≠0:=by
 fun_induction sS r a l acc with
 |case1 r a l acc x r' e h1 h2=>cases h
 |case2 r a l acc x r' e h1 h2=>cases h;exact zdQ h1
 |case3 r a l acc x r' t n h1 ih=>exact ih h
theorem TQ{s:List UInt8}{a:Nat}{e:Int}(h:tN s = .error (a,e)):e≠0:=by
 unfold tN at h
 split at h
 ·cases h;decide
 ·exact zbj h
def zO:Except (Nat×Int) (List Tk)→V
 | .ok l=>.tup [.sl (l.map tkV) [] .no,it 0,it 0]
 | .error (a,e)=>.tup [.sl [] [] .no,it a,it e]
theorem Xi(t:Tk):weak (tkV t)=tkV t:=rfl
section
variable {Γ:jG} {m:Store}
theorem Y6(E:Env Γ)(s:List UInt8):jB Tryz.prog Γ 198 [bs s] m fun o m'=>o = .ret (zO (tN s))∧m'=m:=by
 refine jB.weak (scan_ok E.lib E.parse E.words E.signs s) ?_ ?_
 ·rintro v m' ⟨h,rfl⟩;refine⟨?_,rfl⟩;unfold Ac at h
  split at h
  ·rename_i l hl;obtain⟨tok,h⟩:=h;cases h;rw[hl];simp only[zO,weak,kW,Jb Xi]
  ·rename_i a e hl;cases h;rw[hl];simp only[zO,weak,kW]
 ·rintro v m' ⟨h,_⟩;exfalso;unfold Ac at h
  split at h
  ·obtain⟨_,h⟩:=h;cases h
  ·cases h
theorem zdF{rb n:Nat}{l:List Tk}{p:PR}(hn0:n≤1099511627776)(hr:m rb=some (rdr l))(hs:Sgl p)(hp:run n (.ex 0) l=some p):jB Tryz.prog Γ 185 [.ptr rb 0] m (PE m rb hdV p):=by
 refine tY (jE mixed zfP wQ ?_);simp only[zmk,ss0,ay,ag];simp only[ssS,ag,ae,reduceIte,af];refine kz fun b hb => ?_;have hn:=jU hr hb;have hE:=(Ext.refl m rb).alloc hb (.var 206 zE);simp only[ssS,ag,ae,reduceIte,af];refine kG ((Zr n hn0).1 0 l p _ rb (by omega) (by rw[Store.jw _ _ hn];exact hr) hs hp) (fun es l1 e => ?_) (fun l1 b2 e hb2 => ?_)
 ·subst e;obtain⟨e,rfl⟩:=hs;obtain⟨k,s,n,kids,ln⟩:=e;simp only[hdV,exV,Store.jw _ _ hn.symm,Store.jv,ssS,ag,ae,reduceIte,af];refine qf (b:=b) rfl (Store.jv _ _ _) (lG _) ?_;exact((hE.rd _).loc hb _).ret (by rw[Store.jw _ _ hn,Store.jv])
 ·subst e;exact nR hE (by rw[Store.jw _ _ hn];exact hr) hb2
theorem zd1(E:Env Γ)(s:List UInt8):jB Tryz.prog Γ 184 [bs s,.fn (.func 185) [] []] m fun o m'=>o = .ret (zJ (qF s))∧m'=m:=by
 refine jB.weak (R:=fun o m'=>∃ v,o = .ret v∧weak v=zJ (qF s)∧m'=m) (jB.less (A:=fun o m'=>∃ v,o = .ret v∧weak v=zJ (qF s)∧mO m m') ?_ (fun o m' ⟨v,h1,h2,h3⟩=>⟨m,h3,v,h1,h2,rfl⟩)) ?_ ?_
 rotate_left
 ·rintro v m' ⟨_,⟨⟩,h,rfl⟩;exact⟨by rw[h],rfl⟩
 ·rintro v m' ⟨_,⟨⟩,_⟩
 refine KU mixed zgT (by rintro v m b x _ ⟨_,⟨⟩,_⟩) ?_;simp only[zmU,ze9,ss0,ay,ag];simp only[ssS,ag,ae,reduceIte,af];refine kz fun xb hxb => ?_;simp only[ssS,ag,ae,reduceIte,af];refine kz fun ab hab => ?_;have n1:xb≠ab:=jU (Store.jv _ _ _) hab;simp only[ssS,ag,ae,reduceIte,af];refine kz fun eb heb => ?_;have n2:ab≠eb:=jU (Store.jv _ _ _) heb;have n3:xb≠eb:=jU (x:=.var 206 zE) (by rw[Store.jw _ _ n1,Store.jv]) heb;simp only[ssS,ag,ae,reduceIte,af];refine jK (Y6 E s) ?_
 -- the store
 have key:∀ S:Store,mO m S→S xb=some (.var 206 zE)→S ab=some (.var 3 [it 0])→S eb=some (.var 34 [it 0])→m xb=none∧m ab=none∧m eb=none:=by
  intro S h1 h2 h3 h4;refine⟨hxb,?_,?_⟩
  ·rw[Store.jw _ _ n1.symm]at hab;exact hab
  ·rw[Store.jw _ _ n2.symm,Store.jw _ _ n3.symm]at heb;exact heb
 have hS0:mO m (((m.set xb (.var 206 zE)).set ab (.var 3 [it 0])).set eb (.var 34 [it 0])):=(((mO.refl m).out hxb _).out (by rw[Store.jw _ _ n1.symm]at hab;exact hab) _).out (by rw[Store.jw _ _ n2.symm,Store.jw _ _ n3.symm]at heb;exact heb) _;have hx0:(((m.set xb (.var 206 zE)).set ab (.var 3 [it 0])).set eb (.var 34 [it 0])) xb=some (.var 206 zE):=by rw[Store.jw _ _ n3,Store.jw _ _ n1,Store.jv]
 have ha0:(((m.set xb (.var 206 zE)).set ab (.var 3 [it 0])).set eb (.var 34 [it 0])) ab=some (.var 3 [it 0]):=by rw[Store.jw _ _ n2,Store.jv]
 have he0:(((m.set xb (.var 206 zE)).set ab (.var 3 [it 0])).set eb (.var 34 [it 0])) eb=some (.var 34 [it 0]):=Store.jv _ _ _;generalize (((m.set xb (.var 206 zE)).set ab (.var 3 [it 0])).set eb (.var 34 [it 0]))=S at hS0 hx0 ha0 he0;obtain⟨mx,ma,me⟩:=key S hS0 hx0 ha0 he0;clear key hab heb hxb
 cases hsc:tN s with
 |error x=>
  obtain⟨a,e⟩:=x;have hne:((e:Int) != 0)=true:=by simpa using TQ hsc
  simp only[zO,ha0,he0,hx0,hne,Store.jv,Store.kC,Store.jw _ _ n1,Store.jw _ _ n2,Store.jw _ _ n3,Store.jw _ _ n1.symm,Store.jw _ _ n2.symm,Store.jw _ _ n3.symm,ssS,ag,ae,reduceIte,af];refine jF (DU (T1:=206) (T2:=3) (cs:=zE) (u:=.agg zE) (x:=it a) (y:=it e) (a:=xb) (b:=ab) (c:=eb) rfl ?_ rfl rfl ?_ rfl (Store.jv _ _ _)) ⟨_,rfl,?_,?_⟩
  ·show(Store.set _ _ _) _=_;rw[Store.jw _ _ n3,Store.jw _ _ n1,Store.jv]
  ·show(Store.set _ _ _) _=_;rw[Store.jw _ _ n2,Store.jv]
  ·simp only[qF,hsc,zJ,exO,exV,lS,weak,kW];rfl
  ·exact((((hS0.out ma _).out me _).out mx _).out ma _).out me _
 |ok l=>
  have hg:=F7 hsc;obtain⟨p,hp,hsg,hfit⟩:=MR hg;have hl:=Jf hsc;have hrd:qF s=DV l:=by unfold qF;rw[hsc]
  simp only[zO,ha0,he0,hx0,Store.jv,Store.kC,Store.jw _ _ n1,Store.jw _ _ n2,Store.jw _ _ n3,Store.jw _ _ n1.symm,Store.jw _ _ n2.symm,Store.jw _ _ n3.symm,show((0:Int) != 0)=false from rfl,zhx,zbD,I5,I4,EI,Ho,ssS,ag,ae,reduceIte,af];have e1:S.set ab (.var 3 [V.val (Value.int IntKind.i64 0)])=S:=Store.sZ S ha0;have e2:S.set eb (.var 34 [V.val (Value.int IntKind.i64 0)])=S:=Store.sZ S he0;rw[e1,e2];refine kz fun rb hrb => ?_;have hrr:(S.set rb (rdr l)) rb=some (rdr l):=Store.jv _ _ _;have mr:=hS0.none hrb;have nx:=jU hx0 hrb;have na:=jU ha0 hrb;have ne:=jU he0 hrb
  have hst:∀ (S1:Store) (t:List V) (l0 l1:List Tk) (b:Nat),(S.set rb (rdr l0)) b=none→Good l1→DV l=(none,zfa l1,6)→jT t 4 = .ptr xb 0→jT t 5 = .ptr ab 0→jT t 6 = .ptr eb 0 →
    (∃ c1 c2 c3,S1=(((S.set xb (.var 206 c1)).set ab (.var 3 [c2])).set eb (.var 34 [c3])).set rb (rdr l1)∧c1.length=5) →
    vO Tryz.prog Γ 199 [.ptr xb 0,.ptr ab 0,.ptr eb 0] (S1.set b (stk l1)) (some (stV b)) (zah [oZ.cell 4 (some 5),oZ.cell 5 none,oZ.cell 6 none] (fun o m'=>∃ v,o = .ret v∧weak v=zJ (qF s)∧mO m m') t):=by
   rintro S1 t l0 l1 b hb hg1 hrt g1 g2 g3 ⟨c1,c2,c3,rfl,hc1⟩
   have hb':S b=none:=by
    rw[Store.jw _ _ (fun e=>jU (Store.jv S rb (rdr l0)) hb e.symm)]at hb;exact hb
   have bx:=jU hx0 hb';have ba:=jU ha0 hb';have be:=jU he0 hb';have br:rb≠b:=jU (Store.jv S rb (rdr l0)) hb;refine(VP E.errT (b:=b) (a:=zfa l1) (c1:=c1) (c2:=c2) (c3:=c3) (Store.jv _ _ _) ?_ hc1 ?_ ?_ n1 n3 n2).mono ?_
   ·rw[Store.jw _ _ bx,Store.jw _ _ nx,Store.jw _ _ n3,Store.jw _ _ n1,Store.jv]
   ·rw[Store.jw _ _ ba,Store.jw _ _ na,Store.jw _ _ n2,Store.jv]
   ·rw[Store.jw _ _ be,Store.jw _ _ ne,Store.jv]
   ·rintro m' ⟨q1,q2,q3,q4⟩;refine⟨_,DU (a:=xb) (b:=ab) (c:=eb) (u:=.agg zE) g1 q1 rfl g2 q2 g3 q3,m',fun _ _ h=>h,_,rfl,?_,fun c x hc => ?_⟩
    ·simp only[hrd,hrt,zJ,exO,exV,lS,weak,kW];rfl
    ·have k1:c≠xb:=fun e=>jU hc mx e;have k2:c≠ab:=fun e=>jU hc ma e;have k3:c≠eb:=fun e=>jU hc me e;have k4:c≠rb:=fun e=>jU hc mr e;have k5:c≠b:=jU (hS0 c x hc) hb';refine q4 c x k1 k2 k3 ?_;rw[Store.jw _ _ k5,Store.jw _ _ k4,Store.jw _ _ k3,Store.jw _ _ k2,Store.jw _ _ k1];exact hS0 c x hc
  simp only[EI,Ho,I5,I4,ssS,ag,ae,reduceIte,af];refine kG (S:=S.set rb (rdr l)) (zdF (by omega) hrr hsg hp) (fun es l1 e => ?_) (fun l1 b e hb => ?_)
  ·subst e;obtain⟨e,rfl⟩:=hsg;have hg1:=hfit.1;obtain⟨tk,l2,rfl⟩:=hg1.ne;obtain⟨k,s',n',kids,ln⟩:=e;simp only[hdV,exV,Store.kC,Store.jv,Store.jw _ _ nx,Store.jw _ _ nx.symm,hx0,rdr,CS,ld5,EI,Ho,I5,I4,zaD,QK,ssS,ag,ae,reduceIte,af]
   have hrun:DV l=if tk.k=0 then (some (.mk k s' n' kids ln),0,0)else (none,tk.a,6):=by
    unfold DV;rw[hp]
   cases hk:(tk.k != 0)
   ·have hk0:tk.k=0:=by simpa using hk
    rw[if_pos hk0]at hrun;simp only[Vf,leaveD,EI,Ho,I5,I4,QK,Store.jv,Store.kC,Store.jw _ _ nx,Store.jw _ _ nx.symm,Store.jw _ _ na,Store.jw _ _ na.symm,Store.jw _ _ ne,Store.jw _ _ ne.symm,Store.jw _ _ n1,Store.jw _ _ n2,Store.jw _ _ n3,Store.jw _ _ n1.symm,Store.jw _ _ n2.symm,Store.jw _ _ n3.symm,hx0,ha0,he0,ssS,ag,ae,reduceIte,af];refine VQ.mono ?_;rintro m' rfl;refine⟨_,DU (T1:=206) (T2:=3) (cs:=[it k,bs s',it n',.sl (lS kids) [] .no,it ln]) (u:=.agg [it k,bs s',it n',.sl (lS kids) [] .no,it ln]) (x:=it 0) (y:=it 0) (a:=xb) (b:=ab) (c:=eb) rfl ?_ rfl rfl ?_ rfl (Store.jv _ _ _),_,fun _ _ h=>h,_,rfl,?_,?_⟩
    ·show(Store.set _ _ _) _=_;rw[Store.jw _ _ n3,Store.jw _ _ n1,Store.jv]
    ·show(Store.set _ _ _) _=_;rw[Store.jw _ _ n2,Store.jv]
    ·rw[hrd,hrun];simp only[zJ,exO,exV,weak,kW,lG,bs]
    ·exact(((hS0.out mr _).out mx _).out ma _).out me _
   ·have hk0:¬ tk.k=0:=by simpa using hk
    rw[if_neg hk0]at hrun;simp only[WQ]
    have hr2:((S.set rb (rdr (tk::l2))).set xb (.var 206 [it k,bs s',it n',.sl (lS kids) [] .no,it ln])) rb=some (rdr (tk::l2)):=by
     rw[Store.jw _ _ nx.symm,Store.jv]
    refine kG (La (val:=hdV) hr2) (by rintro es l3 ⟨⟩) ?_;rintro l3 b ⟨⟩ hb;refine hst _ _ (tk::l2) (tk::l2) b ?_ hg1 hrun rfl rfl rfl ⟨[it k,bs s',it n',.sl (lS kids) [] .no,it ln],it 0,it 0,?_,rfl⟩
    ·rw[Store.jw _ _ (fun e=>jU (Store.jv _ _ _) hb e.symm)]at hb;exact hb
    ·rw[set_comm S _ _ nx.symm,Store.kC,Store.sZ (S.set xb _) (show(S.set xb _) ab=some (.var 3 [it 0])by rw[Store.jw _ _ n1.symm];exact ha0),Store.sZ (S.set xb _) (show(S.set xb _) eb=some (.var 34 [it 0])by rw[Store.jw _ _ n3.symm];exact he0)]
  ·subst e
   have hrun:DV l=(none,zfa l1,6):=by
    obtain⟨t,r,rfl⟩:=hfit.1.ne;unfold DV;rw[hp];rfl
   rw[Store.kC];exact hst _ _ l l1 b hb hfit.1 hrun rfl rfl rfl ⟨zE,it 0,it 0,by rw[Store.sZ S hx0,Store.sZ S ha0,Store.sZ S he0],rfl⟩
end
end Go.Av.Fn
namespace Go.Av.Fn
open Go.Proofs
def qC(s:List UInt8):Option Ex×Int×Int:=
 if (qF s).2.2 = 0 then (match (qF s).1 with
  |some e=>if qN e>24 then (none,0,7)else (some e,0,0)
  |none=>(none,0,0))
 else (none,(qF s).2.1,(qF s).2.2)
def pq(s:List UInt8):Bool:=(qC s).2.2==0&&decide (s.length≤255)
def lK(k n:Int)(s:List UInt8):Bool:=
 if (decide (lQ k=mg)||(!(lQ k).n&&n != 0)||(!(lQ k).s && !(s==[]))||decide (n<(lQ k).least)||decide (n>4294967296))=true then false
 else if (!(lQ k).s||((lQ k).n&&s==[]))=true then true
 else pq s
theorem Nl{s:List UInt8}{e:Ex}{x:Int×Int}(h:qF s=(some e,x)):lW e≤4097:=by
 unfold qF at h
 split at h
 ·cases h
 ·rename_i l hl;obtain⟨p,hp,hsg,hfit⟩:=MR (F7 hl);have hlen:=Jf hl;unfold DV at h;rw[hp]at h
  cases p with
  |ok es l1=>
   obtain⟨e2,rfl⟩:=hsg;obtain⟨tk,l2,rfl⟩:=hfit.1.ne;have h3:=hfit.2.1;simp only[sizes]at h3;simp only at h
   split at h
   ·cases h;omega
   ·cases h
  |st l1=>
   obtain⟨tk,l2,rfl⟩:=hfit.1.ne;cases h
theorem Jh{t:List V}{m:Store}{i j k a:Nat}{T1:TypeId}{cs:List V}{u:V}(h1:jT t i = .ptr a 0)(h2:m a=some (.var T1 cs))(h3:mW cs 0 (some 5)=some u) :
  resV [.cell i (some 5),.tmp j,.tmp k] ⟨t,m⟩=some (.tup [u,jT t j,jT t k]):=by
 simp only[resV,qo,qJ,nz,h1,h2,h3,dV]
theorem zeI(xo yo:Operand)(x:Form):kR Tryz.prog .eql 199 .other xo yo (.agg [bs x.w,it x.least,.val (.bool x.n),.val (.bool x.s)]) (.agg [.val (.string (ByteArray.mk #[])),.val (.int .i64 0),.val (.bool false),.val (.bool false)])=some (.val (.bool (decide (x=mg)))):=by
 have h := (Pv (P := Tryz.prog) (T := 199) (xo := xo) (yo := yo) (cs := [bs x.w,it x.least,.val (.bool x.n),.val (.bool x.s)]) (cs' := [bs [],it 0,.val (.bool false),.val (.bool false)])
  (xs:=[.string ⟨x.w.toArray⟩,.int .i64 x.least,.bool x.n,.bool x.s]) (ys:=[.string ⟨([]:List UInt8).toArray⟩,.int .i64 0,.bool false,.bool false])
  (r:=((ByteArray.mk x.w.toArray).toList==(ByteArray.mk ([]:List UInt8).toArray).toList&&(x.least==0&&(x.n==false&&(x.s==false&&true)))))
  (by kernel_rfl) (by kernel_rfl) (by kernel_rfl) rfl rfl (by kernel_rfl)).1
 have e:((ByteArray.mk x.w.toArray).toList==(ByteArray.mk ([]:List UInt8).toArray).toList&&(x.least==0&&(x.n==false&&(x.s==false&&true))))=decide (x=mg):=by
  rw[ru,ru,bQ];obtain⟨a,b,c,d⟩:=x;simp[mg]
 rw[e]at h;exact h
section
variable {Γ:jG} {m:Store}
theorem zbk(E:Env Γ)(s:List UInt8):jB Tryz.prog Γ 174 [bs s] m fun o m'=>o = .ret (zJ (qC s))∧m'=m:=by
 refine jB.weak (R:=fun o m'=>∃ v,o = .ret v∧weak v=zJ (qC s)∧m'=m) (jB.less (A:=fun o m'=>∃ v,o = .ret v∧weak v=zJ (qC s)∧mO m m') ?_ (fun o m' ⟨v,h1,h2,h3⟩=>⟨m,h3,v,h1,h2,rfl⟩)) ?_ ?_
 rotate_left
 ·rintro v m' ⟨_,⟨⟩,h,rfl⟩;exact⟨by rw[h],rfl⟩
 ·rintro v m' ⟨_,⟨⟩,_⟩
 refine jE mixed zfV (by rintro v m b x _ ⟨_,⟨⟩,_⟩) ?_;simp only[zmo,ss0,ay,ag];simp only[ssS,ag,ae,reduceIte,af];refine kz fun b2 hb2 => ?_;simp only[ssS,ag,ae,reduceIte,af];refine jK (zd1 E s) ?_
 obtain⟨k,s',n',kids,ln,hex,hsz,hO⟩:∃ k s' n' kids ln,exO (qF s).1=exV (.mk k s' n' kids ln)∧lW (.mk k s' n' kids ln)≤4097∧((qF s).1=some (.mk k s' n' kids ln)∨((qF s).1=none∧Ex.mk k s' n' kids ln = .mk 0 [] 0 [] 0)):=by
  cases hr:(qF s).1 with
  |none=>exact⟨0,[],0,[],0,rfl,by simp[lW,sizes],.inr ⟨rfl,rfl⟩⟩
  |some e=>
   have hs:=Nl (s:=s) (e:=e) (x:=(qF s).2) (by rw[←hr]);obtain⟨k,s',n',kids,ln⟩:=e;exact⟨k,s',n',kids,ln,rfl,hs,.inl rfl⟩
 simp only[zJ,hex,exV,ssS,ag,ae,reduceIte,af];refine kz fun b5 hb5 => ?_;have h25:b2≠b5:=jU (Store.jv _ _ _) hb5;have hS:∀ x y z,mO m (((m.set b2 x).set b5 y).set b2 z):=fun x y z=>(((mO.refl m).out hb2 _).out (by rw[Store.jw _ _ h25.symm]at hb5;exact hb5) _).out hb2 _;simp only[Store.jv,Store.kC,ssS,ag,ae,reduceIte,af];cases hne:((qF s).2.2 != 0)
 ·have h0:(qF s).2.2=0:=by simpa using hne
  simp only[Store.jv,ssS,ag,ae,reduceIte,af];refine jK (U8 4097 (.mk k s' n' kids ln) _ hsz (by omega)) ?_;simp only[ssS,ag,ae,reduceIte,af];refine jR (fun hc => ?_) (fun hc => ?_)
  ·have hd:qN (.mk k s' n' kids ln)>24:=by have:=of_decide_eq_true hc;omega
   simp only[Store.jw _ _ h25,Store.jv,ssS,ag,ae,reduceIte,af];refine jF (Jh (T1:=206) (a:=b2) (cs:=zE) (u:=.agg zE) rfl (Store.jv _ _ _) rfl) ⟨_,rfl,?_,hS _ _ _⟩
   rcases hO with h1|⟨h1,h2⟩
   ·simp only[qC,h0,if_true,h1,if_pos hd,exO,exV,lS,weak,kW];rfl
   ·rw[h2]at hd;simp[qN,depths]at hd
  ·have hd:¬ qN (.mk k s' n' kids ln)>24:=by have:=of_decide_eq_false hc;omega
   simp only[Store.jw _ _ h25,Store.jv,ssS,ag,ae,reduceIte,af];refine jF (Jh (T1:=206) (a:=b2) (cs:=[it k,bs s',it n',.sl (lS kids) [] .no,it ln]) (u:=.agg [it k,bs s',it n',.sl (lS kids) [] .no,it ln]) rfl (Store.jv _ _ _) rfl) ⟨_,rfl,?_,hS _ _ _⟩
   rcases hO with h1|⟨h1,h2⟩
   ·simp only[qC,h0,if_true,h1,if_neg hd,exO,exV,lS,weak,kW,lG,bs];rfl
   ·cases h2;simp only[qC,h0,if_true,h1,exO,exV,lS,weak,kW,bs];rfl
 ·have h0:¬ (qF s).2.2=0:=by simpa using hne
  simp only[Store.jw _ _ h25,Store.jv,ssS,ag,ae,reduceIte,af];refine jF (Jh (T1:=206) (a:=b2) (cs:=zE) (u:=.agg zE) rfl (Store.jv _ _ _) rfl) ⟨_,rfl,?_,hS _ _ _⟩;simp only[qC,h0,if_false,exO,exV,lS,weak,kW];rfl
theorem LY(E:Env Γ)(s:List UInt8):jB Tryz.prog Γ 159 [bs s] m fun o m'=>o = .ret (.val (.bool (pq s)))∧m'=m:=by
 refine jB.less (A:=fun o m'=>o = .ret (.val (.bool (pq s)))∧mO m m') ?_ fun o m' h=>⟨m,h.2,h.1,rfl⟩;refine jE mixed zf4 (by rintro v m b x _ ⟨⟨⟩,_⟩) ?_;simp only[zmx,ss0,ay,ag];simp only[ssS,ag,ae,reduceIte,af];refine jK (zbk E s) ?_
 obtain⟨k,s',n',kids,ln,hex⟩:∃ k s' n' kids ln,exO (qC s).1=exV (.mk k s' n' kids ln):=by
  cases (qC s).1 with
  |none=>exact⟨0,[],0,[],0,rfl⟩
  |some e=>obtain⟨k,s',n',kids,ln⟩:=e;exact⟨k,s',n',kids,ln,rfl⟩
 simp only[zJ,hex,exV,ssS,ag,ae,reduceIte,af];refine kz fun b3 hb3 => ?_;simp only[Store.jv,Store.kC,ssS,ag,ae,reduceIte,af]
 have hl:decide ((s.length:Int)≤255)=decide (s.length≤255):=by
  rw[decide_eq_decide];omega
 cases h0:((qC s).2.2==0)
 ·simp only[oV,ssS,ag,ae,reduceIte,af];refine jF jD ⟨?_,(mO.refl m).out hb3 _⟩;simp only[jH,jI,pq,h0];rfl
 ·simp only[oV,hl,ssS,ag,ae,reduceIte,af];refine jF jD ⟨?_,(mO.refl m).out hb3 _⟩;simp only[jH,jI,pq,h0];rfl
end
end Go.Av.Fn
namespace Go.Av
theorem zeM{cells:List V}{off:Nat}{a b c d:V}{r:List (Nat×Nat×V)}:ng cells ((off,4,.agg [a,b,c,d])::r)=if off+4≤cells.length then ng (xQ (xQ (xQ (xQ cells off a) (off+1) b) (off+2) c) (off+3) d) r else none:=by
 simp only[ng,V.cells,ax,List.length_nil,ag,true_and,List.zipIdx_cons,List.zipIdx_nil,List.foldl_cons,List.foldl_nil,Nat.add_zero,zM,Nat.zero_add]
end Go.Av
namespace Go.Av.Fn
open Go.Proofs
def Xp:List (Nat×AFn):=[(158,zjx)]
def noG:jG:=fun _=>none
theorem za7:OM Tryz.prog noG Xp:=.cons ⟨_,YT⟩ (by kernel_rfl) .nil
section
variable {Γ:jG} {m:Store}
theorem zkF(k:Int):jB Tryz.prog Γ 158 [it k] m fun o m'=>o = .ret (Yt (lQ k))∧m'=m:=by
 by_cases hk:0≤k∧k<18
 ·obtain⟨h0,h18⟩:=hk;have hi:k=0∨k=1∨k=2∨k=3∨k=4∨k=5∨k=6∨k=7∨k=8∨k=9∨k=10∨k=11∨k=12∨k=13∨k=14∨k=15∨k=16∨k=17:=by omega
  have hc:Du Tryz.prog Γ (QI Tryz.prog noG (fun _ _ _=>none) (look Xp) 2000 40):=zdc mixed (fun _ _ h=>by cases h) za7 2000 40
  rcases hi with rfl|rfl|rfl|rfl|rfl|rfl|rfl|rfl|rfl|rfl|rfl|rfl|rfl|rfl|rfl|rfl|rfl|rfl
  all_goals exact Tq hc (by kernel_rfl) (.cons (.val _) .nil) rfl
 ·have hf:lQ k=mg:=by
   unfold lQ
   by_cases h:k<0
   ·rw[if_pos h]
   ·rw[if_neg h,dh (by show 18≤k.toNat;omega)];rfl
  rw[hf];refine jB.less (A:=fun o m'=>o = .ret (Yt mg)∧mO m m') ?_ fun o m' h=>⟨m,h.2,h.1,rfl⟩;refine jE mixed YT (by rintro v m b x _ ⟨⟨⟩,_⟩) ?_;simp only[zjx,ss0,ay,ag];simp only[ssS,ag,ae,reduceIte,af];refine kz fun b2 hb2 => ?_;simp only[zeM,ssS,ag,ae,reduceIte,af];refine kz fun b3 hb3 => ?_;have h23:b2≠b3:=jU (Store.jv _ _ _) hb3
  have fin:∀ (t:List V) (x y z:Blk),jT t 2 = .ptr b2 0→z = .var 199 [bs [],it 0,.val (.bool false),.val (.bool false)]→vT [oZ.cell 2 (some 4)] (fun o m'=>o=Out.ret (Yt mg)∧mO m m') .ret ⟨t,((m.set b2 x).set b3 y).set b2 z⟩:=by
   rintro t x y z ht rfl;refine jF ((wo ht (Store.jv _ _ _)).trans rfl) ⟨rfl,?_⟩;exact((((mO.refl m).out hb2 _).out (by rw[Store.jw _ _ h23.symm]at hb3;exact hb3) _).out hb2 _)
  cases hn:decide (k<0)
  ·have hg:decide (k≥18)=true:=by
    have:=of_decide_eq_false hn;exact decide_eq_true (by omega)
   simp only[Store.jv,Store.kC,hn,hg,Store.jw _ _ h23,ssS,ag,ae,reduceIte,af];exact fin _ _ _ _ rfl rfl
  ·simp only[Store.jv,Store.kC,hn,Store.jw _ _ h23,ssS,ag,ae,reduceIte,af];exact fin _ _ _ _ rfl rfl
theorem mM{k n:Int}{s:List UInt8}{t:List V}{S:Store}(b:Bool)(h:lK k n s=b)(h2:jT t 2 = .val (.bool b))(hs:mO m S):vT [oZ.tmp 2] (fun o m'=>o=Out.ret (.val (.bool (lK k n s)))∧mO m m') .ret ⟨t,S⟩:=
 jF jD ⟨by rw[h,h2],hs⟩
theorem zbp(E:Env Γ)(k n:Int)(s:List UInt8):jB Tryz.prog Γ 136 [zK k n s] m fun o m'=>o = .ret (.val (.bool (lK k n s)))∧m'=m:=by
 refine jB.less (A:=fun o m'=>o = .ret (.val (.bool (lK k n s)))∧mO m m') ?_ fun o m' h=>⟨m,h.2,h.1,rfl⟩;refine jE mixed zgn (by rintro v m b x _ ⟨⟨⟩,_⟩) ?_;simp only[zmK,zK,ss0,ay,ag];simp only[ssS,ag,ae,reduceIte,af];refine kz fun b1 hb1 => ?_;simp only[Store.jv,ssS,ag,ae,reduceIte,af];refine jK (zkF k) ?_;obtain⟨w,le,fn,fs,hf⟩:∃ w le fn fs,lQ k=⟨w,le,fn,fs⟩:=⟨_,_,_,_,rfl⟩;simp only[hf,Yt,ssS,ag,ae,reduceIte,af];refine kz fun b3 hb3 => ?_;have h13:b1≠b3:=jU (Store.jv _ _ _) hb3;have hS:∀ x y,mO m ((m.set b1 x).set b3 y):=fun x y=>((mO.refl m).out hb1 _).out (by rw[Store.jw _ _ h13.symm]at hb3;exact hb3) _;have hfe:∀ xo yo,kR Tryz.prog .eql 199 .other xo yo (.agg [bs w,it le,.val (.bool fn),.val (.bool fs)]) (.agg [.val (.string (ByteArray.mk #[])),.val (.int .i64 0),.val (.bool false),.val (.bool false)])=some (.val (.bool (decide (Form.mk w le fn fs=mg)))):=fun xo yo=>zeI xo yo ⟨w,le,fn,fs⟩;simp only[Store.jv,Store.kC,Store.jw _ _ h13,hfe,ssS,ag,ae,reduceIte,af]
 have hF:(decide (Form.mk w le fn fs=mg)||(!fn&&n != 0)||(!fs && !(s==[]))||decide (n<le)||decide (n>4294967296))=true→lK k n s=false:=by
  intro h;unfold lK;rw[hf,if_pos h]
 have hT:(decide (Form.mk w le fn fs=mg)||(!fn&&n != 0)||(!fs && !(s==[]))||decide (n<le)||decide (n>4294967296))=false→(!fs||(fn&&s==[]))=true→lK k n s=true:=by
  intro h h2;unfold lK;rw[hf,if_neg (by rw[h];decide),if_pos h2]
 have hW:(decide (Form.mk w le fn fs=mg)||(!fn&&n != 0)||(!fs && !(s==[]))||decide (n<le)||decide (n>4294967296))=false→(!fs||(fn&&s==[]))=false→lK k n s=pq s:=by
  intro h h2;unfold lK;rw[hf,if_neg (by rw[h];decide),if_neg (by rw[h2];decide)]
 clear hf hfe;generalize decide (Form.mk w le fn fs=mg)=hz at hF hT hW ⊢;generalize h1:(n != 0)=a1 at hF hT hW ⊢;generalize h2:(s==([]:List UInt8))=a2 at hF hT hW ⊢;generalize h3:decide (n<le)=a3 at hF hT hW ⊢;generalize h4:decide (n>4294967296)=a4 at hF hT hW ⊢;cases hz
 case true=>
  simp only[h1,h2,h3,h4,Store.jv,Store.jw _ _ h13,aO,aN,ssS,ag,ae,reduceIte,af];exact mM false (hF rfl) rfl (hS _ _)
 case false=>
  cases fn
  case true=>
   cases fs
   case true=>
    cases a3
    case true=>
     simp only[h1,h2,h3,h4,Store.jv,Store.jw _ _ h13,aO,aN,ssS,ag,ae,reduceIte,af];exact mM false (hF rfl) rfl (hS _ _)
    case false=>
     cases a4
     case true=>
      simp only[h1,h2,h3,h4,Store.jv,Store.jw _ _ h13,aO,aN,ssS,ag,ae,reduceIte,af];exact mM false (hF rfl) rfl (hS _ _)
     case false=>
      cases a2
      case true=>
       simp only[h1,h2,h3,h4,Store.jv,Store.jw _ _ h13,aO,aN,ssS,ag,ae,reduceIte,af];exact mM true (hT rfl rfl) rfl (hS _ _)
      case false=>
       simp only[h1,h2,h3,h4,Store.jv,Store.jw _ _ h13,aO,aN,ssS,ag,ae,reduceIte,af];refine jK (LY E s) ?_;simp only[ssS,ag,ae,reduceIte,af];exact mM (pq s) (hW rfl rfl) rfl (hS _ _)
   case false=>
    cases a2
    case true=>
     cases a3
     case true=>
      simp only[h1,h2,h3,h4,Store.jv,Store.jw _ _ h13,aO,aN,ssS,ag,ae,reduceIte,af];exact mM false (hF rfl) rfl (hS _ _)
     case false=>
      cases a4
      case true=>
       simp only[h1,h2,h3,h4,Store.jv,Store.jw _ _ h13,aO,aN,ssS,ag,ae,reduceIte,af];exact mM false (hF rfl) rfl (hS _ _)
      case false=>
       simp only[h1,h2,h3,h4,Store.jv,Store.jw _ _ h13,aO,aN,ssS,ag,ae,reduceIte,af];exact mM true (hT rfl rfl) rfl (hS _ _)
    case false=>
     simp only[h1,h2,h3,h4,Store.jv,Store.jw _ _ h13,aO,aN,ssS,ag,ae,reduceIte,af];exact mM false (hF rfl) rfl (hS _ _)
  case false=>
   cases a1
   case true=>
    simp only[h1,h2,h3,h4,Store.jv,Store.jw _ _ h13,aO,aN,ssS,ag,ae,reduceIte,af];exact mM false (hF rfl) rfl (hS _ _)
   case false=>
    cases fs
    case true=>
     cases a3
     case true=>
      simp only[h1,h2,h3,h4,Store.jv,Store.jw _ _ h13,aO,aN,ssS,ag,ae,reduceIte,af];exact mM false (hF rfl) rfl (hS _ _)
     case false=>
      cases a4
      case true=>
       simp only[h1,h2,h3,h4,Store.jv,Store.jw _ _ h13,aO,aN,ssS,ag,ae,reduceIte,af];exact mM false (hF rfl) rfl (hS _ _)
      case false=>
       simp only[h1,h2,h3,h4,Store.jv,Store.jw _ _ h13,aO,aN,ssS,ag,ae,reduceIte,af];refine jK (LY E s) ?_;simp only[ssS,ag,ae,reduceIte,af];exact mM (pq s) (hW rfl rfl) rfl (hS _ _)
    case false=>
     cases a2
     case true=>
      cases a3
      case true=>
       simp only[h1,h2,h3,h4,Store.jv,Store.jw _ _ h13,aO,aN,ssS,ag,ae,reduceIte,af];exact mM false (hF rfl) rfl (hS _ _)
      case false=>
       cases a4
       case true=>
        simp only[h1,h2,h3,h4,Store.jv,Store.jw _ _ h13,aO,aN,ssS,ag,ae,reduceIte,af];exact mM false (hF rfl) rfl (hS _ _)
       case false=>
        simp only[h1,h2,h3,h4,Store.jv,Store.jw _ _ h13,aO,aN,ssS,ag,ae,reduceIte,af];exact mM true (hT rfl rfl) rfl (hS _ _)
     case false=>
      simp only[h1,h2,h3,h4,Store.jv,Store.jw _ _ h13,aO,aN,ssS,ag,ae,reduceIte,af];exact mM false (hF rfl) rfl (hS _ _)
theorem zav(E:Env Γ)(k n:Int)(s:List UInt8):jB Tryz.prog Γ 100 [zK k n s] m fun o m'=>o = .ret (it (if lK k n s then 0 else 2))∧m'=m:=by
 refine jB.less (A:=fun o m'=>o = .ret (it (if lK k n s then 0 else 2))∧mO m m') ?_ fun o m' h=>⟨m,h.2,h.1,rfl⟩;refine jE mixed zgQ (by rintro v m b x _ ⟨⟨⟩,_⟩) ?_;simp only[zmT,zK,ss0,ay,ag];simp only[ssS,ag,ae,reduceIte,af];refine kz fun b1 hb1 => ?_;simp only[Store.jv,ssS,ag,ae,reduceIte,af];refine jK (zbp E k n s) ?_;cases lK k n s
 ·simp only[aN,ssS,ag,ae,reduceIte,af];exact jF jD ⟨rfl,(mO.refl m).out hb1 _⟩
 ·simp only[aO,ssS,ag,ae,reduceIte,af];exact jF jD ⟨rfl,(mO.refl m).out hb1 _⟩
end
end Go.Av.Fn
namespace Go.Proofs
open Go.Shelf
def Tryz.lays169_ren:Go.Shelf.Ren:=⟨fun|169=>274|n=>n,fun|70=>367|9=>9|0=>0|72=>369|37=>22|127=>230|3=>3|5=>5|n=>n,fun|n=>n⟩
theorem Tryz.lays169:Go.Proofs.Lays.n169 Tryz.prog Tryz.lays169_ren:={
 mixed:=by kernel_rfl
 f169:=Tryz.func274.trans (congrArg some (by kernel_rfl))
 t0:=Tryz.underlying0
 a0:=Tryz.isAgg0
 z0:=Tryz.sizeOf0
 v0:=Tryz.zeroValue0
 t3:=Tryz.underlying3
 a3:=Tryz.isAgg3
 z3:=Tryz.sizeOf3
 v3:=Tryz.zeroValue3
 t9:=Tryz.underlying9
 a9:=Tryz.isAgg9
 z9:=Tryz.sizeOf9
 v9:=Tryz.zeroValue9
 t37:=Tryz.underlying22
 a37:=Tryz.isAgg22
 z37:=Tryz.sizeOf22
 v37:=Tryz.zeroValue22
 t70:=Tryz.underlying367
 a70:=Tryz.isAgg367
 z70:=Tryz.sizeOf367
 v70:=Tryz.zeroValue367
 t72:=Tryz.underlying369
 a72:=Tryz.isAgg369
 z72:=Tryz.sizeOf369
 v72:=Tryz.zeroValue369
 t127:=Tryz.underlying230
 a127:=Tryz.isAgg230
 z127:=Tryz.sizeOf230
 v127:=Tryz.zeroValue230 }
theorem Tryz.Builder_Extra_169:Builder.Extra Tryz.prog Tryz.lays169_ren:={
 sizeBuilder:=by kernel_rfl
 liesBuilder:=by kernel_rfl
 t5:=Tryz.underlying5
 a5:=Tryz.isAgg5
 z5:=Tryz.sizeOf5
 v5:=Tryz.zeroValue5
 infoByte:=by kernel_rfl
 cellsByte:=by kernel_rfl
 sizeByte:=by kernel_rfl
 neB5:=by decide }
def Tryz.UC:Go.Shelf.Ren:=⟨fun|137=>275|217=>283|266=>288|n=>n,fun|9=>9|5=>5|3=>3|n=>n,fun|n=>n⟩
theorem Tryz.lays137:Go.Proofs.Lays.n137 Tryz.prog Tryz.UC:={
 mixed:=by kernel_rfl
 f137:=Tryz.func275.trans (congrArg some (by kernel_rfl))
 f217:=Tryz.func283.trans (congrArg some (by kernel_rfl))
 f266:=Tryz.func288.trans (congrArg some (by kernel_rfl))
 t3:=Tryz.underlying3
 a3:=Tryz.isAgg3
 z3:=Tryz.sizeOf3
 v3:=Tryz.zeroValue3
 t5:=Tryz.underlying5
 a5:=Tryz.isAgg5
 z5:=Tryz.sizeOf5
 v5:=Tryz.zeroValue5
 t9:=Tryz.underlying9
 a9:=Tryz.isAgg9
 z9:=Tryz.sizeOf9
 v9:=Tryz.zeroValue9 }
open Go.RowKit in
theorem Tryz.strings_IndexByte(s:ByteArray)(c:Int)(w:World) :
  Calls Tryz.prog 275 #[.string s,.int .u8 c] w fun e w'=>e = .returned (.int .i64 (Lib.indexByte s.data.toList c.toNat.toUInt8))∧w'=w:=Any.strings_IndexByte Tryz.lays137 s c w
def Tryz.RV:Go.Shelf.Ren:=⟨fun|316=>163|n=>n,fun|9=>9|3=>3|4=>4|37=>22|0=>0|127=>230|5=>5|n=>n,fun|n=>n⟩
theorem Tryz.laysM316:Go.Proofs.LaysM.n316 Tryz.prog Tryz.RV:={
 mixed:=by kernel_rfl
 f316:=Tryz.func163.trans (congrArg some (by kernel_rfl))
 t0:=Tryz.underlying0
 a0:=Tryz.isAgg0
 z0:=Tryz.sizeOf0
 v0:=Tryz.zeroValue0
 t3:=Tryz.underlying3
 a3:=Tryz.isAgg3
 z3:=Tryz.sizeOf3
 v3:=Tryz.zeroValue3
 t4:=Tryz.underlying4
 a4:=Tryz.isAgg4
 z4:=Tryz.sizeOf4
 v4:=Tryz.zeroValue4
 t9:=Tryz.underlying9
 a9:=Tryz.isAgg9
 z9:=Tryz.sizeOf9
 v9:=Tryz.zeroValue9
 t37:=Tryz.underlying22
 a37:=Tryz.isAgg22
 z37:=Tryz.sizeOf22
 v37:=Tryz.zeroValue22
 t127:=Tryz.underlying230
 a127:=Tryz.isAgg230
 z127:=Tryz.sizeOf230
 v127:=Tryz.zeroValue230
 t5:=Tryz.underlying5
 a5:=Tryz.isAgg5
 z5:=Tryz.sizeOf5
 v5:=Tryz.zeroValue5
 i0:=by kernel_rfl
 i3:=by kernel_rfl
 i4:=by kernel_rfl
 i5:=by kernel_rfl
 i9:=by kernel_rfl
 i37:=by kernel_rfl
 i127:=by kernel_rfl }
open Go.RowKit in
theorem Tryz.stringslite_Clone(s:ByteArray)(w:World)(hlim:s.size≤281474976710656) :
  Calls Tryz.prog 163 #[.string s] w fun e w'=>e = .returned (.string s)∧Below w.heap.size w w':=Any.stringslite_Clone Tryz.laysM316 s w hlim
def Tryz.RX:Go.Shelf.Ren:=⟨fun|174=>263|247=>272|245=>273|287=>278|279=>279|280=>280|281=>281|282=>282|321=>285|322=>286|316=>163|171=>156|205=>287|243=>169|246=>180|283=>191|284=>192|285=>193|286=>194|129=>213|317=>212|318=>214|319=>215|320=>216|337=>233|338=>234|n=>n,fun|9=>9|3=>3|2=>2|75=>266|85=>361|4=>4|167=>372|5=>5|53=>150|175=>373|46=>60|168=>375|37=>22|0=>0|210=>380|21=>21|127=>230|145=>385|143=>383|171=>256|173=>258|212=>278|51=>140|20=>20|213=>279|232=>348|233=>349|80=>275|n=>n,fun|15=>6|16=>7|17=>2|18=>4|19=>5|n=>n⟩
theorem Tryz.UB:Go.Proofs.LaysC.n174 Tryz.prog Tryz.RX:={
 mixed:=by kernel_rfl
 f129:=Tryz.func213.trans (congrArg some (by kernel_rfl))
 f171:=Tryz.func156.trans (congrArg some (by kernel_rfl))
 f174:=Tryz.func263.trans (congrArg some (by kernel_rfl))
 f205:=Tryz.func287.trans (congrArg some (by kernel_rfl))
 f243:=Tryz.func169.trans (congrArg some (by kernel_rfl))
 f245:=Tryz.func273.trans (congrArg some (by kernel_rfl))
 f246:=Tryz.func180.trans (congrArg some (by kernel_rfl))
 f247:=Tryz.func272.trans (congrArg some (by kernel_rfl))
 f279:=Tryz.func279.trans (congrArg some (by kernel_rfl))
 f280:=Tryz.func280.trans (congrArg some (by kernel_rfl))
 f281:=Tryz.func281.trans (congrArg some (by kernel_rfl))
 f282:=Tryz.func282.trans (congrArg some (by kernel_rfl))
 f283:=Tryz.func191.trans (congrArg some (by kernel_rfl))
 f284:=Tryz.func192.trans (congrArg some (by kernel_rfl))
 f285:=Tryz.func193.trans (congrArg some (by kernel_rfl))
 f286:=Tryz.func194.trans (congrArg some (by kernel_rfl))
 f287:=Tryz.func278.trans (congrArg some (by kernel_rfl))
 f316:=Tryz.func163.trans (congrArg some (by kernel_rfl))
 f317:=Tryz.func212.trans (congrArg some (by kernel_rfl))
 f318:=Tryz.func214.trans (congrArg some (by kernel_rfl))
 f319:=Tryz.func215.trans (congrArg some (by kernel_rfl))
 f320:=Tryz.func216.trans (congrArg some (by kernel_rfl))
 f321:=Tryz.func285.trans (congrArg some (by kernel_rfl))
 f322:=Tryz.func286.trans (congrArg some (by kernel_rfl))
 f337:=Tryz.func233.trans (congrArg some (by kernel_rfl))
 f338:=Tryz.func234.trans (congrArg some (by kernel_rfl))
 t0:=Tryz.underlying0
 a0:=Tryz.isAgg0
 z0:=Tryz.sizeOf0
 v0:=Tryz.zeroValue0
 t2:=Tryz.underlying2
 a2:=Tryz.isAgg2
 z2:=Tryz.sizeOf2
 v2:=Tryz.zeroValue2
 t3:=Tryz.underlying3
 a3:=Tryz.isAgg3
 z3:=Tryz.sizeOf3
 v3:=Tryz.zeroValue3
 t4:=Tryz.underlying4
 a4:=Tryz.isAgg4
 z4:=Tryz.sizeOf4
 v4:=Tryz.zeroValue4
 t5:=Tryz.underlying5
 a5:=Tryz.isAgg5
 z5:=Tryz.sizeOf5
 v5:=Tryz.zeroValue5
 t9:=Tryz.underlying9
 a9:=Tryz.isAgg9
 z9:=Tryz.sizeOf9
 v9:=Tryz.zeroValue9
 t20:=Tryz.underlying20
 a20:=Tryz.isAgg20
 z20:=Tryz.sizeOf20
 v20:=Tryz.zeroValue20
 t21:=Tryz.underlying21
 a21:=Tryz.isAgg21
 z21:=Tryz.sizeOf21
 v21:=Tryz.zeroValue21
 t37:=Tryz.underlying22
 a37:=Tryz.isAgg22
 z37:=Tryz.sizeOf22
 v37:=Tryz.zeroValue22
 t46:=Tryz.underlying60
 a46:=Tryz.isAgg60
 z46:=Tryz.sizeOf60
 v46:=Tryz.zeroValue60
 t51:=Tryz.underlying140
 a51:=Tryz.isAgg140
 z51:=Tryz.sizeOf140
 v51:=Tryz.zeroValue140
 t53:=Tryz.underlying150
 a53:=Tryz.isAgg150
 z53:=Tryz.sizeOf150
 v53:=Tryz.zeroValue150
 t75:=Tryz.underlying266
 a75:=Tryz.isAgg266
 z75:=Tryz.sizeOf266
 v75:=Tryz.zeroValue266
 t85:=Tryz.underlying361
 a85:=Tryz.isAgg361
 z85:=Tryz.sizeOf361
 v85:=Tryz.zeroValue361
 t127:=Tryz.underlying230
 a127:=Tryz.isAgg230
 z127:=Tryz.sizeOf230
 v127:=Tryz.zeroValue230
 t143:=Tryz.underlying383
 a143:=Tryz.isAgg383
 z143:=Tryz.sizeOf383
 v143:=Tryz.zeroValue383
 t145:=Tryz.underlying385
 a145:=Tryz.isAgg385
 z145:=Tryz.sizeOf385
 v145:=Tryz.zeroValue385
 t167:=Tryz.underlying372
 a167:=Tryz.isAgg372
 z167:=Tryz.sizeOf372
 v167:=Tryz.zeroValue372
 t168:=Tryz.underlying375
 a168:=Tryz.isAgg375
 z168:=Tryz.sizeOf375
 v168:=Tryz.zeroValue375
 t171:=Tryz.underlying256
 a171:=Tryz.isAgg256
 z171:=Tryz.sizeOf256
 v171:=Tryz.zeroValue256
 t173:=Tryz.underlying258
 a173:=Tryz.isAgg258
 z173:=Tryz.sizeOf258
 v173:=Tryz.zeroValue258
 t175:=Tryz.underlying373
 a175:=Tryz.isAgg373
 z175:=Tryz.sizeOf373
 v175:=Tryz.zeroValue373
 t210:=Tryz.underlying380
 a210:=Tryz.isAgg380
 z210:=Tryz.sizeOf380
 v210:=Tryz.zeroValue380
 t212:=Tryz.underlying278
 a212:=Tryz.isAgg278
 z212:=Tryz.sizeOf278
 v212:=Tryz.zeroValue278
 t213:=Tryz.underlying279
 a213:=Tryz.isAgg279
 z213:=Tryz.sizeOf279
 t232:=Tryz.underlying348
 a232:=Tryz.isAgg348
 z232:=Tryz.sizeOf348
 v232:=Tryz.zeroValue348
 t233:=Tryz.underlying349
 a233:=Tryz.isAgg349
 z233:=Tryz.sizeOf349
 v233:=Tryz.zeroValue349
 g15:=by kernel_rfl
 g16:=by kernel_rfl
 g17:=by kernel_rfl
 g18:=by kernel_rfl
 g19:=by kernel_rfl
 t80:=Tryz.underlying275
 a80:=Tryz.isAgg275
 z80:=Tryz.sizeOf275
 v80:=Tryz.zeroValue275
 i0:=by kernel_rfl
 i2:=by kernel_rfl
 i3:=by kernel_rfl
 i4:=by kernel_rfl
 i5:=by kernel_rfl
 i9:=by kernel_rfl
 i20:=by kernel_rfl
 i21:=by kernel_rfl
 i37:=by kernel_rfl
 i46:=by kernel_rfl
 i51:=by kernel_rfl
 i53:=by kernel_rfl
 i75:=by kernel_rfl
 i80:=by kernel_rfl
 i85:=by kernel_rfl
 i127:=by kernel_rfl
 i143:=by kernel_rfl
 i145:=by kernel_rfl
 i167:=by kernel_rfl
 i168:=by kernel_rfl
 i171:=by kernel_rfl
 i173:=by kernel_rfl
 i175:=by kernel_rfl
 i210:=by kernel_rfl
 i212:=by kernel_rfl
 i232:=by kernel_rfl
 i233:=by kernel_rfl
 m15:=by kernel_rfl
 m16:=by kernel_rfl
 m17:=by kernel_rfl
 m18:=by kernel_rfl
 m19:=by kernel_rfl
 c0:=by kernel_rfl
 c2:=by kernel_rfl
 c3:=by kernel_rfl
 c4:=by kernel_rfl
 c5:=by kernel_rfl
 c9:=by kernel_rfl
 c20:=by kernel_rfl
 c21:=by kernel_rfl
 c37:=by kernel_rfl
 c46:=by kernel_rfl
 c51:=by kernel_rfl
 c53:=by kernel_rfl
 c75:=by kernel_rfl
 c80:=by kernel_rfl
 c85:=by kernel_rfl
 c127:=by kernel_rfl
 c143:=by kernel_rfl
 c145:=by kernel_rfl
 c167:=by kernel_rfl
 c168:=by kernel_rfl
 c171:=by kernel_rfl
 c173:=by kernel_rfl
 c175:=by kernel_rfl
 c210:=by kernel_rfl
 c212:=by kernel_rfl
 c213:=by kernel_rfl
 c232:=by kernel_rfl
 c233:=by kernel_rfl }
open Go.RowKit in
theorem Tryz.strconv_ParseInt_10_at64_ok(s:ByteArray)(hmax:s.size≤9223372036854775806)(v:Int)(h:Lib.parseIntB 64 s.data.toList = .ok v)(w:World) :
  Calls Tryz.prog 263 #[.string s,.int .i64 10,.int .i64 64] w fun e w'=>e = .returned (.tuple #[.int .i64 v,.nilIface])∧(w'=w∨∃ t,w'=Lib.bytesWorld w 5 t):=Any.strconv_ParseInt_10_at64_ok Tryz.UB s hmax v h w
open Go.RowKit in
theorem Tryz.strconv_ParseInt_10_at64_range(s:ByteArray)(hlim:s.size≤281474976710656)(h:Lib.parseIntB 64 s.data.toList = .range)(ev:Value)(w:World)(hv:w.cell? ⟨7,0,none⟩=some ev)(hev:ev = .nilIface∨∃ te pe,ev = .iface te pe) :
  Calls Tryz.prog 263 #[.string s,.int .i64 10,.int .i64 64] w fun e w'=>∃ N,e = .returned (.tuple #[.int .i64 (Lib.intSat 64 s.data.toList),.iface 375 (.pointer (some ⟨N,0,none⟩))])∧w.heap.size≤N∧w'.heap[N]? = some (.cells #[.string ⟨#[80,97,114,115,101,73,110,116]⟩,.string s,ev] 380 (0,0))∧Below w.heap.size w w':=Any.strconv_ParseInt_10_at64_range Tryz.UB s hlim h ev w hv hev
def Tryz.lays240_ren:Go.Shelf.Ren:=⟨fun|240=>284|276=>289|n=>n,fun|0=>0|4=>4|9=>9|20=>20|37=>22|70=>367|72=>369|164=>301|n=>n,fun n=>n⟩
theorem Tryz.lays240:Go.Proofs.Lays.n240 Tryz.prog Tryz.lays240_ren:={
 mixed:=by kernel_rfl
 f240:=Tryz.func284.trans (congrArg some (by kernel_rfl))
 f276:=Tryz.func289.trans (congrArg some (by kernel_rfl))
 t0:=Tryz.underlying0
 a0:=Tryz.isAgg0
 z0:=Tryz.sizeOf0
 v0:=Tryz.zeroValue0
 t4:=Tryz.underlying4
 a4:=Tryz.isAgg4
 z4:=Tryz.sizeOf4
 v4:=Tryz.zeroValue4
 t9:=Tryz.underlying9
 a9:=Tryz.isAgg9
 z9:=Tryz.sizeOf9
 v9:=Tryz.zeroValue9
 t20:=Tryz.underlying20
 a20:=Tryz.isAgg20
 z20:=Tryz.sizeOf20
 v20:=Tryz.zeroValue20
 t70:=Tryz.underlying367
 a70:=Tryz.isAgg367
 z70:=Tryz.sizeOf367
 v70:=Tryz.zeroValue367
 t72:=Tryz.underlying369
 a72:=Tryz.isAgg369
 z72:=Tryz.sizeOf369
 v72:=Tryz.zeroValue369
 t164:=Tryz.underlying301
 a164:=Tryz.isAgg301
 z164:=Tryz.sizeOf301
 v164:=Tryz.zeroValue301
}
theorem Tryz.Builder_X72_240:Builder.X72 Tryz.prog Tryz.lays240_ren:={
 sizeBuilder:=by kernel_rfl
 liesBuilder:=by kernel_rfl
}
end Go.Proofs
