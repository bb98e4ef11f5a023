/- Numbers as bytes: shifts, folds and unfolds as the program computes them; the number that bytes begin with. No condition. -/
import Derived.Lib.VarintBits
import Derived.Lib.VarintDec
import Derived.Lib.Zigzag
import Derived.Test.YtmglaebjmaomnaaGreatDoorFn1
open Int renaming toNat→eX, fdiv_eq_ediv_of_nonneg→dE
set_option linter.unusedSimpArgs false
set_option linter.unusedVariables false
namespace Go.Av
open Go.Lib
section
variable {P:Program} {T:TypeId} {xo yo:Operand} {k yk:IntKind} {a b:Int}
theorem LD(h:0≤b):kR P .shl T .other xo yo (.val (.int k a)) (.val (.int yk b))=some (.val (.int k (k.wrap (a*2^(min b.toNat k.bits))))):=by
 simp[kR,nY,kZ,raw,eqGuard,binOp,kF,Op.shift,lX,pure,bind,Sem.bind,h,Int.not_lt.2 h]
theorem IU(h:0≤b):kR P .shr T .other xo yo (.val (.int k a)) (.val (.int yk b))=some (.val (.int k (a.fdiv (2^(min b.toNat k.bits))))):=by
 simp[kR,nY,kZ,raw,eqGuard,binOp,kF,Op.shift,lX,pure,bind,Sem.bind,h,Int.not_lt.2 h]
theorem OH:kR P .xor T .other xo yo (.val (.int k a)) (.val (.int k b))=some (.val (.int k (bits .xor k a b))):=by
 simp[kR,nY,kZ,raw,eqGuard,binOp,kF,Op.intBits,lX,pure,bind,Sem.bind,bits]
theorem Ti:kR P .or T .other xo yo (.val (.int k a)) (.val (.int k b))=some (.val (.int k (bits .or k a b))):=by
 simp[kR,nY,kZ,raw,eqGuard,binOp,kF,Op.intBits,lX,pure,bind,Sem.bind,bits]
theorem IV:kR P .and T .other xo yo (.val (.int k a)) (.val (.int k b))=some (.val (.int k (bits .and k a b))):=by
 simp[kR,nY,kZ,raw,eqGuard,binOp,kF,Op.intBits,lX,pure,bind,Sem.bind,bits]
end
section
variable {P:Program} {Γ:jG} {Kp:V→Store→Prop} {l:List Item} {K:St→Prop} {t:List V} {m m':Store} {d:Option Tmp} {s:List (Tmp×Option (Tmp×Bool)×AOp)}
theorem zaF{e:TypeId}{bytes:Nat}{v x:V}{es ys:List V}(h:Buf e 1 m m' v es)(hx:extra m' 1 x=some ys)(hy:vM 1 ys)(hl:(es.length+ys.length)*bytes≤140737488355328)
  (hk:∀ m2 v2,Buf e 1 m m2 v2 (es++ys)→oH P Γ Kp s l K (qW t m2 d (some v2))):Tn P Γ Kp e bytes 1 v x d s l K t m':=by
 have hsz:oq 1 (es++ys)=true:=by
  have:=h.1;simp only[oq,List.all_append,Bool.and_eq_true]at this ⊢;refine⟨this,List.all_eq_true.2 fun y hyy => ?_⟩;simp[(hy y hyy).1]
 obtain⟨tok,hv⟩:=h.val;have hb:=h
 rcases h.2 with ⟨rfl,rfl,rfl⟩|⟨hne,b,k,hbn,rfl,rfl⟩
 ·simp only[Tn,opE,hx];refine⟨fun e0 => ?_,fun e0=>⟨rfl,hy,.inl (by simpa using hl),trivial,fun b hb => ?_⟩⟩
  ·subst e0;exact hk _ _ ⟨rfl,.inl ⟨rfl,rfl,rfl⟩⟩
  ·exact hk _ _ ⟨hsz,.inr ⟨by simpa using e0,b,0,hb,rfl,rfl⟩⟩
 ·simp only[Tn,opE,hx];refine⟨fun e0 => ?_,fun e0=>⟨h.1,hy,.inl hl,trivial,hne,Store.jv _ _ _,?_⟩⟩
  ·subst e0;exact hk _ _ (by rw[List.append_nil];exact hb)
  ·rw[Store.kC];exact hk _ _ ⟨hsz,.inr ⟨by simp[hne],b,k+1,hbn,rfl,rfl⟩⟩
theorem U5(l:List UInt8):vM 1 (l.map by8):=by
 intro y hy;obtain⟨b,_,rfl⟩:=List.mem_map.1 hy;exact⟨rfl,fun c hc=>by simp only[V.cells,List.mem_singleton]at hc;subst hc;rfl⟩
theorem zcT{m:Store}(l:List UInt8):extra m 1 (bs l)=some (l.map by8):=by
 simp[extra,bs,bytesV]
end
def I64(n:Int):Prop:=-9223372036854775808≤n∧n<9223372036854775808
theorem zeK{n:Int}(h:I64 n):bits .xor .u64 (IntKind.u64.wrap (IntKind.u64.wrap n*2^(min (eX 1) IntKind.u64.bits))) (IntKind.u64.wrap (n.fdiv (2^(min (eX 63) IntKind.i64.bits))))=(zigzag n:Int):=by
 obtain⟨h1,h2⟩:=h;have e1:min (eX 1) IntKind.u64.bits=1:=by decide
 have e2:min (eX 63) IntKind.i64.bits=63:=by decide
 rw[e1,e2,IntKind.wrap_u64,IntKind.wrap_u64,IntKind.wrap_u64]
 by_cases hn:0≤n
 ·have e3:n.fdiv (2^63)=0:=by
   rw[dE _ (by decide)];exact Int.ediv_eq_zero_of_lt hn (by omega)
  rw[e3];have e4:n%18446744073709551616*2^1%18446744073709551616=((2*n.toNat:Nat):Int):=by omega
  rw[e4,show(0:Int)%18446744073709551616=((0:Nat):Int)from rfl,bits_xor_u64_nat _ _ (by omega) (by decide),Nat.xor_zero];unfold zigzag;rw[if_pos hn];omega
 ·have e3:n.fdiv (2^63) = -1:=by
   rw[dE _ (by decide)];omega
  rw[e3];have e4:n%18446744073709551616*2^1%18446744073709551616=(((2*n+18446744073709551616).toNat:Nat):Int):=by omega
  have e5:(-1:Int)%18446744073709551616=((2^64-1:Nat):Int):=by decide
  rw[e4,e5,bits_xor_u64_nat _ _ (by omega) (by decide),Nat.xor_comm,xor_ones64 _ (by omega)];unfold zigzag;rw[if_neg hn];omega
theorem zigzag_u64{n:Int}(h:I64 n):zigzag n<18446744073709551616:=zigzag_lt h.1 (by have:=h.2;omega)
theorem GY{u:Nat}(h:u<18446744073709551616):I64 (unzigzag u):=by
 unfold unzigzag I64
 split<;>omega
theorem KJ(n:Int):unzigzag (zigzag n)=n:=by
 unfold unzigzag zigzag
 split<;>split<;>omega
theorem KI(u:Nat):zigzag (unzigzag u)=u:=by
 unfold unzigzag zigzag
 split<;>split<;>omega
theorem Wy(x:Nat)(hx:x<9223372036854775808):bits .xor .i64 (x:Int) (-1) = -(x:Int)-1:=by
 have h:=i64_not x hx;show IntKind.i64.wrap ((BitVec.ofInt 64 (x:Int) ^^^ BitVec.ofInt 64 (-1)).toNat:Int)=_;rw[BitVec.xor_comm];exact h
theorem zcy(x:Nat)(hx:x<9223372036854775808):bits .xor .i64 (x:Int) 0=(x:Int):=by
 show IntKind.i64.wrap ((BitVec.ofInt 64 (x:Int) ^^^ BitVec.ofInt 64 0).toNat:Int)=_;have h1:(BitVec.ofInt 64 (0:Int))=0#64:=by decide
 have h2:(BitVec.ofInt 64 (x:Int)).toNat=x:=by
  rw[BitVec.ofInt_natCast,BitVec.toNat_ofNat];exact Nat.mod_eq_of_lt (by omega)
 rw[h1,BitVec.xor_zero,h2,wrap_i64 (by omega) (by omega)]
theorem YW{u:Nat}(h:u<18446744073709551616):bits .xor .i64 (IntKind.i64.wrap ((u:Int).fdiv (2^(min (eX 1) IntKind.u64.bits)))) (IntKind.i64.wrap (0-IntKind.i64.wrap (bits .and .u64 (u:Int) 1)))=unzigzag u:=by
 have e1:min (eX 1) IntKind.u64.bits=1:=by decide
 rw[e1,u64_and1 _ (by omega) (by omega)]
 have e3:(u:Int).fdiv (2^1)=((u / 2:Nat):Int):=by
  rw[dE _ (by decide)];omega
 rw[e3,wrap_i64 (n:=((u / 2:Nat):Int)) (by omega) (by omega),wrap_i64 (n:=(u:Int)%2) (by omega) (by omega),wrap_i64 (by omega) (by omega)];unfold unzigzag
 by_cases hu:u%2=0
 ·rw[if_pos hu,show(0:Int)-(u:Int)%2=0 by omega,zcy _ (by omega)]
 ·rw[if_neg hu,show(0:Int)-(u:Int)%2 = -1 by omega,Wy _ (by omega)]
theorem zkE(f:Nat):bits .or .u8 (IntKind.u8.wrap (f:Int)) 128=((f%128+128:Nat):Int):=by
 rw[IntKind.wrap_u8,u8_or128_any _ (by omega) (by omega)];omega
theorem YC(f:Nat):V.val (.int .u8 ((f%128+128:Nat):Int))=by8 (f%128+128).toUInt8:=by
 have:(f%128+128).toUInt8.toNat=f%128+128:=by
  show(UInt8.ofNat _).toNat=_;rw[UInt8.toNat_ofNat'];omega
 rw[by8,this]
theorem QJ{f:Nat}(h:f<128):V.val (.int .u8 (IntKind.u8.wrap (f:Int)))=by8 f.toUInt8:=by
 have:f.toUInt8.toNat=f:=by
  show(UInt8.ofNat _).toNat=_;rw[UInt8.toNat_ofNat'];omega
 rw[by8,this,IntKind.wrap_u8];congr 2;omega
theorem zmY(f:Nat):(f:Int).fdiv (2^(min (eX 7) IntKind.u64.bits))=((f / 128:Nat):Int):=by
 have e1:min (eX 7) IntKind.u64.bits=7:=by decide
 rw[e1,dE _ (by decide)];omega
end Go.Av
