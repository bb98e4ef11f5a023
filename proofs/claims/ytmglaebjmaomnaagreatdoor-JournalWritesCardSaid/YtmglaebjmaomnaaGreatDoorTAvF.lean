/- The quiet operations reckoned out fast: what they come to is what the layer's own reckoning says. No condition. -/
import Derived.Test.YtmglaebjmaomnaaGreatDoorTAvV
open Bool renaming eq_false_iff→eP
open Int renaming negSucc→gU
open Nat renaming beq→dI, eq_of_beq_eq_true→bU, ble→eY, le_of_ble_eq_true→eQ
set_option linter.unusedSimpArgs false
set_option linter.unusedVariables false
namespace Go.Av
open Go.RowKit
def CZ:List UInt8→List UInt8→Bool
 |[],[]=>true
 |a::l,b::r=>bif dI a.toNat b.toNat then CZ l r else false
 |_,_=>false
theorem CY:∀ {a b:List UInt8},CZ a b=(a==b)
 |[],[]=>rfl
 |a::l,b::r=>by
  simp only[CZ,List.cons_beq_cons];rw[CY]
  by_cases h:a=b
  ·subst h;simp
  ·have:dI a.toNat b.toNat=false:=by
    rw[eP];intro k;exact h (UInt8.toNat_inj.1 (bU k))
   simp[this,h]
 |[],_::_=>rfl
 |_::_,[]=>rfl
theorem OZ{a b:List UInt8}(h:CZ a b=true):a=b:=by
 rw[CY]at h;exact beq_iff_eq.1 h
def Qz:Int→Int→Bool
 | .ofNat a,.ofNat b=>dI a b
 | .negSucc a,.negSucc b=>dI a b
 |_,_=>false
theorem Om{a b:Int}:Qz a b=(a==b):=by
 cases a<;>cases b<;>simp only[Qz]
 ·rename_i a b
  by_cases h:a=b
  ·subst h;simp
  ·have h2:dI a b=false:=by
    rw[eP];intro k;exact h (bU k)
   rw[h2];have:Int.ofNat a≠Int.ofNat b:=fun e=>h (Int.ofNat.inj e);exact(beq_eq_false_iff_ne.2 this).symm
 ·rfl
 ·rfl
 ·rename_i a b
  by_cases h:a=b
  ·subst h;simp
  ·have h2:dI a b=false:=by
    rw[eP];intro k;exact h (bU k)
   rw[h2];have:gU a≠gU b:=fun e=>h (Int.negSucc.inj e);exact(beq_eq_false_iff_ne.2 this).symm
theorem U2{a b:Int}(h:Qz a b=true):a=b:=by
 rw[Om]at h;exact beq_iff_eq.1 h
def NT:Int→Int→Bool
 | .ofNat a,.ofNat b=>eY a b
 | .negSucc a,.negSucc b=>eY b a
 | .ofNat _,.negSucc _=>false
 | .negSucc _,.ofNat _=>true
theorem YD{a b:Nat}{p:Prop}[Decidable p](h:p↔a≤b):eY a b=decide p:=by
 by_cases k:a≤b
 ·rw[decide_eq_true (h.2 k),(Nat.ble_eq▸k:eY a b=true)]
 ·rw[decide_eq_false (fun x=>k (h.1 x)),eP];exact fun x=>k (eQ x)
theorem Iq{a b:Int}:NT a b=decide (a≤b):=by
 cases a with
 |ofNat a=>
  cases b with
  |ofNat b=>exact YD Int.ofNat_le
  |negSucc b=>
   have:¬ ((a:Int)≤gU b):=by omega
   exact(decide_eq_false this).symm
 |negSucc a=>
  cases b with
  |ofNat b=>
   have:gU a≤(b:Int):=by omega
   exact(decide_eq_true this).symm
  |negSucc b=>exact YD (by omega)
def SG:IntKind→IntKind→Bool
 | .i8,.i8 | .i16,.i16 | .i32,.i32 | .i64,.i64 | .u8,.u8 | .u16,.u16 | .u32,.u32 | .u64,.u64=>true
 |_,_=>false
theorem IL{a b:IntKind}(h:SG a b=true):a=b:=by
 cases a<;>cases b<;>first|rfl|cases h
def Xm:IntKind→Nat
 | .i8=>128
 | .i16=>32768
 | .i32=>2147483648
 | .i64=>9223372036854775808
 | .u8=>256
 | .u16=>65536
 | .u32=>4294967296
 | .u64=>18446744073709551616
def Tu(k:IntKind)(n:Int):Int:=match n with
 | .ofNat m=>bif eY (m+1) (Xm k)then .ofNat m else k.wrap (.ofNat m)
 | .negSucc m=>k.wrap (.negSucc m)
theorem LZ(k:IntKind)(n:Int):Tu k n=k.wrap n:=by
 cases n with
 |negSucc m=>rfl
 |ofNat m=>
  simp only[Tu];cases h:eY (m+1) (Xm k)
  ·rfl
  ·have hm:m<Xm k:=eQ h;have e:Int.ofNat m=(m:Int):=rfl;simp only[cond_true];rw[e];cases k<;>simp only[Xm]at hm<;>simp only[IntKind.wrap,IntKind.bits,IntKind.signed]<;>simp<;>omega
def strOf(a:ByteArray):List UInt8:=a.data.toList
theorem xR(a:ByteArray):a.toList=strOf a:=by
 obtain⟨⟨l⟩⟩:=a;exact ru l
def zhZ(op:BinOp)(x y:Int):Option Bool:=match op with
 | .eql=>some (Qz x y)
 | .neq=>some (!Qz x y)
 | .lss=>some (!NT y x)
 | .leq=>some (NT x y)
 | .gtr=>some (!NT x y)
 | .geq=>some (NT y x)
 |_=>none
def zh8(op:BinOp)(k:IntKind)(x y:Int):Option Int:=match op with
 | .add=>some (Tu k (x+y))
 | .sub=>some (Tu k (x-y))
 | .mul=>some (Tu k (x*y))
 |_=>none
def zh3(op:BinOp):Value→Value→Option Value
 | .int k x,.int k' y=>bif SG k k' then match zhZ op x y with
   |some b=>some (.bool b)
   |none=>match zh8 op k x y with
    |some n=>some (.int k n)
    |none=>none
  else none
 | .string a,.string b=>match op with
  | .eql=>some (.bool (CZ (strOf a) (strOf b)))
  | .neq=>some (.bool (!CZ (strOf a) (strOf b)))
  | .add=>bif eY ((strOf a).length+(strOf b).length) 9223372036854775807 then some (.string ⟨⟨strOf a++strOf b⟩⟩)else none
  |_=>none
 |_,_=>none
section
variable {P:Program} {T:TypeId} {xo yo:Operand}
theorem zdi{op:BinOp}{k k0:IntKind}{c:Cmp}{a b:Int}:kR P op T c xo yo (.val (.int k a)) (.val (.int k0 b))=kR P op T .other xo yo (.val (.int k a)) (.val (.int k0 b)):=by
 cases c<;>rfl
theorem zdh{op:BinOp}{c:Cmp}{a b:ByteArray}:kR P op T c xo yo (.val (.string a)) (.val (.string b))=kR P op T .other xo yo (.val (.string a)) (.val (.string b)):=by
 cases c<;>rfl
theorem WT{op:BinOp}{k:IntKind}{a b:Int}{r:Bool}(h:zhZ op a b=some r):kR P op T .other xo yo (.val (.int k a)) (.val (.int k b))=some (.val (.bool r)):=by
 have hgt:(!NT a b)=decide (a>b):=by
  rw[Iq,←decide_not];exact decide_eq_decide.2 (by omega)
 have hlt:(!NT b a)=decide (a<b):=by
  rw[Iq,←decide_not];exact decide_eq_decide.2 (by omega)
 cases op<;>simp only[zhZ]at h<;>cases h
 ·rw[wW,Om]
 ·rw[yw,Om];rfl
 ·rw[Dk,hlt]
 ·rw[Dl,Iq]
 ·rw[Dn,hgt]
 ·rw[Dp,Iq]
theorem Xa{op:BinOp}{k:IntKind}{a b r:Int}(h:zh8 op k a b=some r):kR P op T .other xo yo (.val (.int k a)) (.val (.int k b))=some (.val (.int k r)):=by
 cases op<;>simp only[zh8]at h<;>cases h
 ·rw[Dq,LZ]
 ·rw[Di,LZ]
 ·rw[yx,LZ]
theorem WY{op:BinOp}{c:Cmp}{a b r:Value}(h:zh3 op a b=some r):kR P op T c xo yo (.val a) (.val b)=some (.val r):=by
 unfold zh3 at h
 split at h
 ·rename_i k x k' y;rw[zdi];cases hk:SG k k'
  ·simp[hk]at h
  ·obtain rfl:=IL hk;simp only[hk,cond_true]at h
   split at h
   ·rename_i r hr;cases h;exact WT hr
   ·split at h
    ·rename_i r hr;cases h;exact Xa hr
    ·cases h
 ·rw[zdh]
  split at h
  ·cases h;rw[xC,xR,xR,CY]
  ·cases h;rw[xB,xR,xR,CY]
  ·rename_i a b _;cases hl:eY ((strOf a).length+(strOf b).length) 9223372036854775807
   ·simp[hl]at h
   ·simp only[hl,cond_true]at h;cases h;obtain⟨⟨a⟩⟩:=a;obtain⟨⟨b⟩⟩:=b;have:=eQ hl;exact Vs (x:=a) (y:=b) (by simpa [strOf] using this)
  ·cases h
 ·cases h
end
def zdk(P:Program)(op:BinOp)(T:TypeId)(k:Cmp)(xo yo:Operand)(x y:V):Option V:=match x,y with
 | .val a,.val b=>match zh3 op a b with
  |some r=>some (.val r)
  |none=>kR P op T k xo yo (.val a) (.val b)
 |x,y=>kR P op T k xo yo x y
theorem zdj{P:Program}{op:BinOp}{T:TypeId}{k:Cmp}{xo yo:Operand}{x y:V}:zdk P op T k xo yo x y=kR P op T k xo yo x y:=by
 unfold zdk
 split
 ·split
  ·rename_i h;exact(WY h).symm
  ·rfl
 ·rfl
def zbd(s:ByteArray)(lo hi:Option Int):Option V:=match bounds s.size s.size lo hi none with
 |some (a,b,_)=>some (.val (.string ⟨⟨((strOf s).take b).drop a⟩⟩))
 |none=>none
def Q7:V→Option (Option Int)→Option (Option Int)→Option V
 | .val (.string s),some lo,some hi=>zbd s lo hi
 |_,_,_=>none
theorem VD{v:V}{lo hi:Option (Option Int)}:Q7 v lo hi=nM v lo hi:=by
 unfold Q7 nM
 split
 ·rename_i s lo hi;unfold zbd;simp only;generalize bounds s.size s.size lo hi none=z
  cases z with
  |none=>rfl
  |some x=>
   obtain⟨a,b,c⟩:=x;obtain⟨⟨l⟩⟩:=s;simp only[strOf]
   have:(ByteArray.mk l.toArray).extract a b=⟨((l.take b).drop a).toArray⟩:=by
    rw[ByteArray.extract_mk,List.drop_take]
   exact(congrArg (fun x=>some (V.val (.string x))) this).symm
 ·rename_i h
  split
  ·exact(h _ _ _ rfl rfl rfl).elim
  ·rfl
def zh0(ρ:Operand→V)(z:List V)(parts:List (Nat×Nat×Operand)):Option V:=(ng z (parts.map fun x=>(x.1,x.2.1,ρ x.2.2))).map .agg
def zkI(ρ:Operand→V)(s:Nat)(z:List V)(len:Nat)(parts:List (Nat×Operand)):Option V:=(pI s (List.replicate len (if s=1 then z.headD (.val undef)else .agg z)) (parts.map fun x=>(x.1,ρ x.2))).map fun es=>.sl es [] (Gt z len parts)
def zno:V→Option V
 | .sl es _ _=>match bytesOf es with
  |some bs=>some (.val (.string ⟨bs.toArray⟩))
  |none=>none
 |_=>none
def sF(s:Nat)(v:V)(lo hi mx:Option (Option Int)):Option V:=match v,lo,hi,mx with
 | .sl es more tok,some l,some h,some m=>if oq s (es++more)then cutV es more tok l h m else none
 | .arr b o len cap,some l,some h,some m=>match bounds len cap l h m with
  |some (i,j,k)=>some (.arr b (if k=i then o else o+i*s) (j-i) (k-i))
  |none=>none
 | .res t v z _,some none,some (some 0),some none=>if z=s∧0<z then some (.sl [] [] (.tipz t v z))else none
 |_,_,_,_=>none
def zdT(n s:Nat)(v:V)(lo hi mx:Option (Option Int)):Option V:=match v,lo,hi,mx with
 | .ptr b o,some l,some h,some m=>match bounds n n l h m with
  |some (i,j,k)=>some (.arr b (if k=i then o else o+i*s) (j-i) (k-i))
  |none=>none
 |_,_,_,_=>none
def Xy(n:Nat):V→Option V
 | .sl es more _=>if n≤es.length then some (.elt (flat (es++more)))else none
 | .arr b o len _=>if n≤len then some (.ptr b o)else none
 |_=>none
def znn:V→Option V
 | .sl es [] .full=>some (.val (.int .i64 es.length))
 | .sl [] [] (.zero _)=>some (.val (.int .i64 0))
 | .arr _ _ _ c=>some (.val (.int .i64 c))
 |_=>none
def zeB(n s:Nat)(a:Option Nat):V→V→Option V
 | .agg cs,.val (.int _ k)=>if 0≤k∧k<n then mW cs (k.toNat*s) a else none
 |_,_=>none
def Rz(ρ:Operand→V):Option Operand→Option (Option Int)
 |none=>some none
 |some x=>zbJ (ρ x)
def IK(P:Program)(ρ:Operand→V)(m:Store):AOp→Option V
 | .mov x=>some (ρ x)
 | .pick c a b=>XE (ρ c) (ρ a) (ρ b)
 | .alloc _ _=>none
 | .box _ _=>none
 | .build z parts=>zh0 ρ z parts
 | .lits s z len parts=>zkI ρ s z len parts
 | .load s x=>Ea m s (ρ x)
 | .store _ _ _=>none
 | .nilc x=>Ut (ρ x)
 | .bin op T k x y=>zdk P op T k x y (ρ x) (ρ y)
 | .un op x=>unV P op (ρ x)
 | .conv s d x=>Eh P s d (ρ x)
 | .b2s x=>zno (ρ x)
 | .s2b _ _=>none
 | .mark _=>none
 | .mki T x=>some (.ifc T (ρ x))
 | .mkf fn f c=>some (.fn fn (f.map ρ) (c.map ρ))
 | .sliceS x lo hi=>Q7 (ρ x) (Rz ρ lo) (Rz ρ hi)
 | .sliceL s x lo hi mx=>sF s (ρ x) (Rz ρ lo) (Rz ρ hi) (Rz ρ mx)
 | .fieldA off x=>Lt off (ρ x)
 | .field off s x=>WI off s (ρ x)
 | .idxA n s x i=>J7 n s (ρ x) (ρ i)
 | .idxL s x i=>sU s (ρ x) (ρ i)
 | .idxStr x i=>zV (ρ x) (ρ i)
 | .idxArr n s a x i=>zeB n s a (ρ x) (ρ i)
 | .bad=>none
 | .capS x=>znn (ρ x)
 | .asrt T x=>I7 P T (ρ x)
 | .mm mx xs=>mmV mx (xs.map ρ)
 | .appz _ _ _ _ _=>none
 | .mks _ _ _ _ _=>none
 | .sliceP n s x lo hi mx=>zdT n s (ρ x) (Rz ρ lo) (Rz ρ hi) (Rz ρ mx)
 | .s2ap n x=>Xy n (ρ x)
 | .panic _=>none
 | .len b x=>lenV b (ρ x)
 | .ext x k=>zhV k (ρ x)
 | .app _ _ _ _ _=>none
 | .call _ _=>none
theorem Ry{ρ:Operand→V}{x:Option Operand}:Rz ρ x=lN ρ x:=by
 cases x with
 |none=>rfl
 |some x=>exact uq.symm
theorem UY(P:Program)(ρ:Operand→V)(m:Store)(ao:AOp):IK P ρ m ao=jJ P ρ m ao:=by
 cases ao with
 |bin op T k x y=>exact zdj
 |sliceS x lo hi=>
  simp only[IK,VD,Ry];simp only[jJ,nM];generalize ρ x=a,lN ρ lo=b,lN ρ hi=c
  split
  ·rfl
  ·rename_i h
   split
   ·exact(h _ _ _ rfl rfl rfl).elim
   ·rfl
 |sliceL s x lo hi mx=>simp only[IK,Ry];rfl
 |sliceP n s x lo hi mx=>simp only[IK,Ry];rfl
 |idxA n s x i=>
  simp only[IK,jJ,J7];generalize ρ x=a,ρ i=b
  cases a<;>cases b<;>first|rfl|(rename_i u;cases u<;>rfl)
 |len b x=>
  simp only[IK,jJ,lenV];generalize ρ x=v
  cases b<;>cases v<;>first|rfl|(rename_i u;cases u<;>rfl)
 |_=>rfl
end Go.Av
