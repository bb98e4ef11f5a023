/- The quiet operations reckoned out fast: what they come to is what the layer's own reckoning says. No condition. -/
import Derived.Test.YtmglaebjmaomnaaGreatDoorTAvV
open Bool renaming eq_false_iff→fB
open Int renaming negSucc→gZ
open Nat renaming beq→dO, eq_of_beq_eq_true→bZ, ble→fK, le_of_ble_eq_true→fD
set_option linter.unusedSimpArgs false
set_option linter.unusedVariables false
namespace Go.Av
open Go.RowKit
def CO:List UInt8→List UInt8→Bool
 |[],[]=>true
 |a::l,b::r=>bif dO a.toNat b.toNat then CO l r else false
 |_,_=>false
theorem CJ:∀ {a b:List UInt8},CO a b=(a==b)
 |[],[]=>rfl
 |a::l,b::r=>by
  simp only[CO,List.cons_beq_cons];rw[CJ]
  by_cases h:a=b
  ·subst h;simp
  ·have:dO a.toNat b.toNat=false:=by
    rw[fB];intro k;exact h (UInt8.toNat_inj.1 (bZ k))
   simp[this,h]
 |[],_::_=>rfl
 |_::_,[]=>rfl
theorem Pg{a b:List UInt8}(h:CO a b=true):a=b:=by
 rw[CJ]at h;exact beq_iff_eq.1 h
def QH:Int→Int→Bool
 | .ofNat a,.ofNat b=>dO a b
 | .negSucc a,.negSucc b=>dO a b
 |_,_=>false
theorem OC{a b:Int}:QH a b=(a==b):=by
 cases a<;>cases b<;>simp only[QH]
 ·rename_i a b
  by_cases h:a=b
  ·subst h;simp
  ·have h2:dO a b=false:=by
    rw[fB];intro k;exact h (bZ k)
   rw[h2];have:Int.ofNat a≠Int.ofNat b:=fun e=>h (Int.ofNat.inj e);exact(beq_eq_false_iff_ne.2 this).symm
 ·rfl
 ·rfl
 ·rename_i a b
  by_cases h:a=b
  ·subst h;simp
  ·have h2:dO a b=false:=by
    rw[fB];intro k;exact h (bZ k)
   rw[h2];have:gZ a≠gZ b:=fun e=>h (Int.negSucc.inj e);exact(beq_eq_false_iff_ne.2 this).symm
theorem Vd{a b:Int}(h:QH a b=true):a=b:=by
 rw[OC]at h;exact beq_iff_eq.1 h
def N7:Int→Int→Bool
 | .ofNat a,.ofNat b=>fK a b
 | .negSucc a,.negSucc b=>fK b a
 | .ofNat _,.negSucc _=>false
 | .negSucc _,.ofNat _=>true
theorem YW{a b:Nat}{p:Prop}[Decidable p](h:p↔a≤b):fK a b=decide p:=by
 by_cases k:a≤b
 ·rw[decide_eq_true (h.2 k),(Nat.ble_eq▸k:fK a b=true)]
 ·rw[decide_eq_false (fun x=>k (h.1 x)),fB];exact fun x=>k (fD x)
theorem Ie{a b:Int}:N7 a b=decide (a≤b):=by
 cases a with
 |ofNat a=>
  cases b with
  |ofNat b=>exact YW Int.ofNat_le
  |negSucc b=>
   have:¬ ((a:Int)≤gZ b):=by omega
   exact(decide_eq_false this).symm
 |negSucc a=>
  cases b with
  |ofNat b=>
   have:gZ a≤(b:Int):=by omega
   exact(decide_eq_true this).symm
  |negSucc b=>exact YW (by omega)
def SX:IntKind→IntKind→Bool
 | .i8,.i8 | .i16,.i16 | .i32,.i32 | .i64,.i64 | .u8,.u8 | .u16,.u16 | .u32,.u32 | .u64,.u64=>true
 |_,_=>false
theorem Iy{a b:IntKind}(h:SX a b=true):a=b:=by
 cases a<;>cases b<;>first|rfl|cases h
def XG:IntKind→Nat
 | .i8=>128
 | .i16=>32768
 | .i32=>2147483648
 | .i64=>9223372036854775808
 | .u8=>256
 | .u16=>65536
 | .u32=>4294967296
 | .u64=>18446744073709551616
def TG(k:IntKind)(n:Int):Int:=match n with
 | .ofNat m=>bif fK (m+1) (XG k)then .ofNat m else k.wrap (.ofNat m)
 | .negSucc m=>k.wrap (.negSucc m)
theorem Mc(k:IntKind)(n:Int):TG k n=k.wrap n:=by
 cases n with
 |negSucc m=>rfl
 |ofNat m=>
  simp only[TG];cases h:fK (m+1) (XG k)
  ·rfl
  ·have hm:m<XG k:=fD h;have e:Int.ofNat m=(m:Int):=rfl;simp only[cond_true];rw[e];cases k<;>simp only[XG]at hm<;>simp only[IntKind.wrap,IntKind.bits,IntKind.signed]<;>simp<;>omega
def strOf(a:ByteArray):List UInt8:=a.data.toList
theorem xQ(a:ByteArray):a.toList=strOf a:=by
 obtain⟨⟨l⟩⟩:=a;exact qY l
def zhX(op:BinOp)(x y:Int):Option Bool:=match op with
 | .eql=>some (QH x y)
 | .neq=>some (!QH x y)
 | .lss=>some (!N7 y x)
 | .leq=>some (N7 x y)
 | .gtr=>some (!N7 x y)
 | .geq=>some (N7 y x)
 |_=>none
def zh6(op:BinOp)(k:IntKind)(x y:Int):Option Int:=match op with
 | .add=>some (TG k (x+y))
 | .sub=>some (TG k (x-y))
 | .mul=>some (TG k (x*y))
 |_=>none
def zh2(op:BinOp):Value→Value→Option Value
 | .int k x,.int k' y=>bif SX k k' then match zhX op x y with
   |some b=>some (.bool b)
   |none=>match zh6 op k x y with
    |some n=>some (.int k n)
    |none=>none
  else none
 | .string a,.string b=>match op with
  | .eql=>some (.bool (CO (strOf a) (strOf b)))
  | .neq=>some (.bool (!CO (strOf a) (strOf b)))
  | .add=>bif fK ((strOf a).length+(strOf b).length) 9223372036854775807 then some (.string ⟨⟨strOf a++strOf b⟩⟩)else none
  |_=>none
 |_,_=>none
section
variable {P:Program} {T:TypeId} {xo yo:Operand}
theorem zdt{op:BinOp}{k k0:IntKind}{c:Cmp}{a b:Int}:kX P op T c xo yo (.val (.int k a)) (.val (.int k0 b))=kX P op T .other xo yo (.val (.int k a)) (.val (.int k0 b)):=by
 cases c<;>rfl
theorem zds{op:BinOp}{c:Cmp}{a b:ByteArray}:kX P op T c xo yo (.val (.string a)) (.val (.string b))=kX P op T .other xo yo (.val (.string a)) (.val (.string b)):=by
 cases c<;>rfl
theorem Xk{op:BinOp}{k:IntKind}{a b:Int}{r:Bool}(h:zhX op a b=some r):kX P op T .other xo yo (.val (.int k a)) (.val (.int k b))=some (.val (.bool r)):=by
 have hgt:(!N7 a b)=decide (a>b):=by
  rw[Ie,←decide_not];exact decide_eq_decide.2 (by omega)
 have hlt:(!N7 b a)=decide (a<b):=by
  rw[Ie,←decide_not];exact decide_eq_decide.2 (by omega)
 cases op<;>simp only[zhX]at h<;>cases h
 ·rw[yl,OC]
 ·rw[yh,OC];rfl
 ·rw[CX,hlt]
 ·rw[CY,Ie]
 ·rw[CZ,hgt]
 ·rw[C9,Ie]
theorem Xt{op:BinOp}{k:IntKind}{a b r:Int}(h:zh6 op k a b=some r):kX P op T .other xo yo (.val (.int k a)) (.val (.int k b))=some (.val (.int k r)):=by
 cases op<;>simp only[zh6]at h<;>cases h
 ·rw[Dc,Mc]
 ·rw[CW,Mc]
 ·rw[yj,Mc]
theorem Xo{op:BinOp}{c:Cmp}{a b r:Value}(h:zh2 op a b=some r):kX P op T c xo yo (.val a) (.val b)=some (.val r):=by
 unfold zh2 at h
 split at h
 ·rename_i k x k' y;rw[zdt];cases hk:SX k k'
  ·simp[hk]at h
  ·obtain rfl:=Iy hk;simp only[hk,cond_true]at h
   split at h
   ·rename_i r hr;cases h;exact Xk hr
   ·split at h
    ·rename_i r hr;cases h;exact Xt hr
    ·cases h
 ·rw[zds]
  split at h
  ·cases h;rw[xC,xQ,xQ,CJ]
  ·cases h;rw[xB,xQ,xQ,CJ]
  ·rename_i a b _;cases hl:fK ((strOf a).length+(strOf b).length) 9223372036854775807
   ·simp[hl]at h
   ·simp only[hl,cond_true]at h;cases h;obtain⟨⟨a⟩⟩:=a;obtain⟨⟨b⟩⟩:=b;have:=fD hl;exact zdr (x:=a) (y:=b) (by simpa [strOf] using this)
  ·cases h
 ·cases h
end
def zdv(P:Program)(op:BinOp)(T:TypeId)(k:Cmp)(xo yo:Operand)(x y:V):Option V:=match x,y with
 | .val a,.val b=>match zh2 op a b with
  |some r=>some (.val r)
  |none=>kX P op T k xo yo (.val a) (.val b)
 |x,y=>kX P op T k xo yo x y
theorem zdu{P:Program}{op:BinOp}{T:TypeId}{k:Cmp}{xo yo:Operand}{x y:V}:zdv P op T k xo yo x y=kX P op T k xo yo x y:=by
 unfold zdv
 split
 ·split
  ·rename_i h;exact(Xo h).symm
  ·rfl
 ·rfl
def zbn(s:ByteArray)(lo hi:Option Int):Option V:=match bounds s.size s.size lo hi none with
 |some (a,b,_)=>some (.val (.string ⟨⟨((strOf s).take b).drop a⟩⟩))
 |none=>none
def Ri:V→Option (Option Int)→Option (Option Int)→Option V
 | .val (.string s),some lo,some hi=>zbn s lo hi
 |_,_,_=>none
theorem VM{v:V}{lo hi:Option (Option Int)}:Ri v lo hi=oq v lo hi:=by
 unfold Ri oq
 split
 ·rename_i s lo hi;unfold zbn;simp only;generalize bounds s.size s.size lo hi none=z
  cases z with
  |none=>rfl
  |some x=>
   obtain⟨a,b,c⟩:=x;obtain⟨⟨l⟩⟩:=s;simp only[strOf]
   have:(ByteArray.mk l.toArray).extract a b=⟨((l.take b).drop a).toArray⟩:=by
    rw[ByteArray.extract_mk,List.drop_take]
   exact(congrArg (fun x=>some (V.val (.string x))) this).symm
 ·rename_i h
  split
  ·exact(h _ _ _ rfl rfl rfl).elim
  ·rfl
def zhY(ρ:Operand→V)(z:List V)(parts:List (Nat×Nat×Operand)):Option V:=(ni z (parts.map fun x=>(x.1,x.2.1,ρ x.2.2))).map .agg
def zj2(ρ:Operand→V)(s:Nat)(z:List V)(len:Nat)(parts:List (Nat×Operand)):Option V:=(pq s (List.replicate len (if s=1 then z.headD (.val undef)else .agg z)) (parts.map fun x=>(x.1,ρ x.2))).map fun es=>.sl es [] (FY z len parts)
def zmv:V→Option V
 | .sl es _ _=>match bytesOf es with
  |some bs=>some (.val (.string ⟨bs.toArray⟩))
  |none=>none
 |_=>none
def pO(s:Nat)(v:V)(lo hi mx:Option (Option Int)):Option V:=match v,lo,hi,mx with
 | .sl es more tok,some l,some h,some m=>if ng s (es++more)then cutV es more tok l h m else none
 | .arr b o len cap,some l,some h,some m=>match bounds len cap l h m with
  |some (i,j,k)=>some (.arr b (if k=i then o else o+i*s) (j-i) (k-i))
  |none=>none
 | .res t v z _,some none,some (some 0),some none=>if z=s∧0<z then some (.sl [] [] (.tipz t v z))else none
 |_,_,_,_=>none
def zd0(n s:Nat)(v:V)(lo hi mx:Option (Option Int)):Option V:=match v,lo,hi,mx with
 | .ptr b o,some l,some h,some m=>match bounds n n l h m with
  |some (i,j,k)=>some (.arr b (if k=i then o else o+i*s) (j-i) (k-i))
  |none=>none
 |_,_,_,_=>none
def XT(n:Nat):V→Option V
 | .sl es more _=>if n≤es.length then some (.elt (flat (es++more)))else none
 | .arr b o len _=>if n≤len then some (.ptr b o)else none
 |_=>none
def zmu:V→Option V
 | .sl es [] .full=>some (.val (.int .i64 es.length))
 | .sl [] [] (.zero _)=>some (.val (.int .i64 0))
 | .arr _ _ _ c=>some (.val (.int .i64 c))
 |_=>none
def zeK(n s:Nat)(a:Option Nat):V→V→Option V
 | .agg cs,.val (.int _ k)=>if 0≤k∧k<n then mV cs (k.toNat*s) a else none
 |_,_=>none
def RI(ρ:Operand→V):Option Operand→Option (Option Int)
 |none=>some none
 |some x=>zbS (ρ x)
def Iw(P:Program)(ρ:Operand→V)(m:Store):AOp→Option V
 | .mov x=>some (ρ x)
 | .pick c a b=>XY (ρ c) (ρ a) (ρ b)
 | .alloc _ _=>none
 | .box _ _=>none
 | .build z parts=>zhY ρ z parts
 | .lits s z len parts=>zj2 ρ s z len parts
 | .load s x=>DV m s (ρ x)
 | .store _ _ _=>none
 | .nilc x=>UB (ρ x)
 | .bin op T k x y=>zdv P op T k x y (ρ x) (ρ y)
 | .un op x=>unV P op (ρ x)
 | .conv s d x=>BB P s d (ρ x)
 | .b2s x=>zmv (ρ x)
 | .s2b _ _=>none
 | .mark _=>none
 | .mki T x=>some (.ifc T (ρ x))
 | .mkf fn f c=>some (.fn fn (f.map ρ) (c.map ρ))
 | .sliceS x lo hi=>Ri (ρ x) (RI ρ lo) (RI ρ hi)
 | .sliceL s x lo hi mx=>pO s (ρ x) (RI ρ lo) (RI ρ hi) (RI ρ mx)
 | .fieldA off x=>LQ off (ρ x)
 | .field off s x=>Xa off s (ρ x)
 | .idxA n s x i=>Ku n s (ρ x) (ρ i)
 | .idxL s x i=>oG s (ρ x) (ρ i)
 | .idxStr x i=>zJ (ρ x) (ρ i)
 | .idxArr n s a x i=>zeK n s a (ρ x) (ρ i)
 | .bad=>none
 | .capS x=>zmu (ρ x)
 | .asrt T x=>IW P T (ρ x)
 | .mm mx xs=>mmV mx (xs.map ρ)
 | .appz _ _ _ _ _=>none
 | .mks _ _ _ _ _=>none
 | .sliceP n s x lo hi mx=>zd0 n s (ρ x) (RI ρ lo) (RI ρ hi) (RI ρ mx)
 | .s2ap n x=>XT n (ρ x)
 | .panic _=>none
 | .len b x=>lenV b (ρ x)
 | .ext x k=>zhS k (ρ x)
 | .app _ _ _ _ _=>none
 | .call _ _=>none
theorem RH{ρ:Operand→V}{x:Option Operand}:RI ρ x=lH ρ x:=by
 cases x with
 |none=>rfl
 |some x=>exact uj.symm
theorem U8(P:Program)(ρ:Operand→V)(m:Store)(ao:AOp):Iw P ρ m ao=jJ P ρ m ao:=by
 cases ao with
 |bin op T k x y=>exact zdu
 |sliceS x lo hi=>
  simp only[Iw,VM,RH];simp only[jJ,oq];generalize ρ x=a,lH ρ lo=b,lH ρ hi=c
  split
  ·rfl
  ·rename_i h
   split
   ·exact(h _ _ _ rfl rfl rfl).elim
   ·rfl
 |sliceL s x lo hi mx=>simp only[Iw,RH];rfl
 |sliceP n s x lo hi mx=>simp only[Iw,RH];rfl
 |idxA n s x i=>
  simp only[Iw,jJ,Ku];generalize ρ x=a,ρ i=b
  cases a<;>cases b<;>first|rfl|(rename_i u;cases u<;>rfl)
 |len b x=>
  simp only[Iw,jJ,lenV];generalize ρ x=v
  cases b<;>cases v<;>first|rfl|(rename_i u;cases u<;>rfl)
 |_=>rfl
end Go.Av
