/- The operations of the proof layer Av, what they come to over abstract values, and that the model's operations come to the same. No condition. -/
import Derived.Stop.Asserts
import Derived.Test.YtmglaebjmaomnaaGreatDoorTAv1
set_option linter.unusedSimpArgs false
set_option linter.unusedVariables false
namespace Go.Av
inductive Blk where
 |var (T:TypeId) (cs:List V)
 |tip (T:TypeId) (v:Nat)
 |loop (ready:Bool) (fn:FuncId) (t:List V) (ps:Array Tmp) (asg body:Code) (D:Nat)
 |defer
abbrev Store:=Nat→Option Blk
def oL(v:Value):V:=match v with
 | .slice none 0 0=>.sl [] [] .full
 |v=>.val v
def pG(v:Value):V:=match v with
 | .agg cs=>.agg (cs.toList.map oL)
 | .slice none 0 0=>.sl [] [] .full
 |v=>.val v
abbrev jG:=Nat→Option (List V)
def ev(Γ:jG)(t:List V):Operand→V
 | .tmp n=>t.getD n (.val undef)
 | .const v=>pG v
 | .global g=>match Γ g with
  |some cs=>.elt cs
  |none=>.ptr g 0
 | .func f=>.fn (.func f) [] []
inductive Cmp where
 |pointer|func|iface|other|slice
 deriving DecidableEq
inductive AOp where
 |mov (x:Operand)
 |pick (c a b:Operand)
 |alloc (T:TypeId) (cells:List V)
 |box (T:TypeId) (x:Operand)
 |build (zero:List V) (parts:List (Nat×Nat×Operand))
 |lits (size:Nat) (zero:List V) (len:Nat) (parts:List (Nat×Operand))
 |load (size:Option Nat) (x:Operand)
 |store (size:Nat) (a x:Operand)
 |nilc (x:Operand)
 |bin (op:BinOp) (T:TypeId) (k:Cmp) (x y:Operand)
 |un (op:UnOp) (x:Operand)
 |conv (src dst:TypeId) (x:Operand)
 |b2s (x:Operand)
 |s2b (e:TypeId) (x:Operand)
 |mki (T:TypeId) (x:Operand)
 |mkf (fn:Fn) (first caps:List Operand)
 |sliceS (x:Operand) (lo hi:Option Operand)
 |sliceL (size:Nat) (x:Operand) (lo hi mx:Option Operand)
 |fieldA (off:Nat) (x:Operand)
 |field (off:Nat) (size:Option Nat) (x:Operand)
 |idxA (n size:Nat) (x i:Operand)
 |idxL (size:Nat) (x i:Operand)
 |idxStr (x i:Operand)
 |idxArr (n size:Nat) (agg:Option Nat) (x i:Operand)
 |len (str:Bool) (x:Operand)
 |ext (x:Operand) (k:Nat)
 |app (e:TypeId) (bytes size:Nat) (s x:Operand)
 |call (f:Operand) (args:List Operand)
 |bad
 |capS (x:Operand)
 |mm (mx:Bool) (xs:List Operand)
 |appz (e:TypeId) (bytes size:Nat) (s n:Operand)
 |mks (e:TypeId) (bytes:Nat) (zero:List V) (len cap:Operand)
 |sliceP (n size:Nat) (x:Operand) (lo hi mx:Option Operand)
 |s2ap (n:Nat) (x:Operand)
 |panic (x:Operand)
 |asrt (T:TypeId) (x:Operand)
 |mark (x:Operand)
def zcs:TypeDesc→Bool
 | .struct _=>true
 | .array _ _=>true
 |_=>false
def nZ(P:Program)(T:TypeId):Option Nat:=(P.info? T).map (·.size)
def sQ(P:Program)(T:TypeId):Option (Option Nat):=
 match P.underlying T with
 |none=>none
 |some d=>if zcs d then (nZ P T).map some else some none
def rF(P:Program)(T:TypeId):Option (List V):=((P.info? T).bind (·.zero)).map fun z=>z.cells.toList.map oL
def pM(P:Program)(T:TypeId):Bool:=match (P.info? T).bind (·.zero)with
 |some z=>z.cells.toList.all lX
 |none=>false
def NW(P:Program)(T:TypeId):Bool:=match P.underlying T with
 |some (.int .u8)=>true
 |_=>false
def places(P:Program)(fields:Array Field):List (Nat×Operand)→Option (List (Nat×Nat×Operand))
 |[]=>some []
 |(i,x)::r=>match fields[i]? with
  |some f=>match nZ P f.type with
   |some s=>(places P fields r).map ((f.offset,s,x) :: ·)
   |none=>none
  |none=>none
def qQ(P:Program)(T:TypeId):Cmp:=match P.underlying T with
 |some (.pointer _)=>.pointer
 |some (.func _ _ _)=>.func
 |some (.interface _)=>.iface
 |some (.slice _)=>.slice
 |_=>.other
def nI(P:Program)(o:Oper):Option AOp:=
 match o.op with
 | .move x | .assign x=>some (.mov x)
 | .pick c a b=>some (.pick c a b)
 | .alloc T=>if pM P T then (rF P T).map (.alloc T)else none
 | .box T x=>some (.box T x)
 | .build T parts=>match P.underlying T,rF P T with
  |some (.struct fields),some z=>if pM P T&&fields.toList.all (fun f=>(nZ P f.type).isSome)then (places P fields parts.toList).map (.build z)else none
  |some (.array _ e),some z=>match nZ P e with
   |some s=>if pM P T then some (.build z (parts.toList.map fun p=>(p.1*s,s,p.2)))else none
   |none=>none
  |_,_=>none
 | .buildSlice T len parts=>match P.underlying T with
  |some (.slice e)=>match nZ P e,rF P e with
   |some s,some z=>if 0<s∧len*s≤2^24∧z.length=s∧pM P e=true then some (.lits s z len parts.toList)else none
   |_,_=>none
  |_=>none
 | .load T a=>(sQ P T).map fun s=>.load s a
 | .store T a x=>(nZ P T).map fun s=>.store s a x
 | .nilCheck x=>some (.nilc x)
 | .binOp op T x y _=>some (.bin op T (qQ P T) x y)
 | .unOp op _ x=>some (.un op x)
 | .convert src dst x=>match P.underlying src,P.underlying dst with
  |some (.slice e),some .string=>if NW P e then some (.b2s x)else none
  |some .string,some (.slice e)=>if NW P e then some (.s2b e x)else none
  |some (.slice _),some (.slice e)=>if NW P e=true∧src=dst then some (.mark x)else none
  |_,_=>some (.conv src dst x)
 | .makeInterface T x=>match P.underlying T with
  |some (.interface _)=>none
  |none=>none
  |some _=>some (.mki T x)
 | .makeFunc fn f c=>some (.mkf fn f.toList c.toList)
 | .slice T x lo hi mx=>match P.underlying T with
  |some .string=>match mx with
   |none=>some (.sliceS x lo hi)
   |some _=>none
  |some (.slice e)=>match nZ P e with
   |some s=>some (.sliceL s x lo hi mx)
   |none=>none
  |some (.array n e)=>match nZ P e with
   |some s=>some (.sliceP n s x lo hi mx)
   |none=>none
  |_=>none
 | .fieldAddr S x f=>match P.underlying S with
  |some (.struct fields)=>match fields[f]? with
   |some fd=>match nZ P fd.type with
    |some (_+1)=>some (.fieldA fd.offset x)
    |_=>none
   |none=>none
  |_=>none
 | .field S x f=>match P.underlying S with
  |some (.struct fields)=>match fields[f]? with
   |some fd=>(sQ P fd.type).map fun s=>.field fd.offset s x
   |none=>none
  |_=>none
 | .indexAddr T x i=>match P.underlying T with
  |some (.array n e)=>(nZ P e).map fun s=>.idxA n s x i
  |some (.slice e)=>(nZ P e).map fun s=>.idxL s x i
  |_=>none
 | .index T x i=>match P.underlying T with
  |some .string=>some (.idxStr x i)
  |some (.array n e)=>match sQ P e,nZ P e with
   |some a,some s=>some (.idxArr n s a x i)
   |_,_=>none
  |_=>none
 | .makeSlice T l c=>match P.underlying T with
  |some (.slice e)=>match P.info? e,rF P e with
   |some i,some z=>if 0<i.size∧0<i.bytes∧pM P e=true∧z.length=i.size then some (.mks e i.bytes z l c)else none
   |_,_=>none
  |_=>none
 | .sliceToArrayPointer arr x=>match P.underlying arr with
  |some (.array (n+1) _)=>some (.s2ap (n+1) x)
  |_=>none
 | .panic x=>some (.panic x)
 | .typeAssert x _ T ok=>if ok then some (.asrt T x)else none
 | .extract x k=>some (.ext x k)
 | .call c=>match c.callee with
  | .value f=>some (.call f c.args.toList)
  | .builtin .len=>match c.args.toList,c.argTypes[0]? with
   |[x],some t=>match P.underlying t with
    |some .string=>some (.len true x)
    |some (.slice _)=>some (.len false x)
    |_=>none
   |_,_=>none
  | .builtin .append=>match c.args.toList,c.argTypes.toList with
   |[s,x],[t,u]=>match P.underlying t,P.underlying u with
    |some (.slice e),some (.int _)=>match P.info? e with
     |some i=>if 0<i.size∧0<i.bytes∧pM P e=true∧(rF P e).map List.length=some i.size then some (.appz e i.bytes i.size s x)else none
     |none=>none
    |some (.slice e),some _=>match P.info? e with
     |some i=>if 0<i.size∧0<i.bytes∧pM P e=true∧(rF P e).map List.length=some i.size then some (.app e i.bytes i.size s x)else none
     |none=>none
    |_,_=>none
   |_,_=>none
  | .builtin .cap=>match c.args.toList,c.argTypes[0]? with
   |[x],some t=>match P.underlying t with
    |some (.slice _)=>some (.capS x)
    |_=>none
   |_,_=>none
  | .builtin .max=>some (.mm true c.args.toList)
  | .builtin .min=>some (.mm false c.args.toList)
  |_=>none
 |_=>none
def Vh(P:Program)(o:Oper):Option AOp:=some ((nI P o).getD .bad)
def kF(P:Program){α:Type}:Sem α→Option α
 | .pure a=>some a
 | .program k=>kF P (k P)
 | .mark _ k=>kF P k
 |_=>none
theorem Gi{P:Program}{α:Type}{s:Sem α}{a:α}(h:kF P s=some a)(w:World):s.run P w = .ok a w:=by
 induction s with
 |pure b=>simp[kF]at h;subst h;rfl
 |program k ih=>simp only[kF]at h;simp only[Sem.run];exact ih _ h
 |mark m k ih=>simp only[kF]at h;simp only[Sem.run];exact ih h
 |_=>simp[kF]at h
def VS:V→Option Value
 | .val v=>some v
 |_=>none
def H5:List V→Option (List Value)
 |[]=>some []
 |v::r=>match VS v,H5 r with
  |some x,some l=>some (x::l)
  |_,_=>none
def raw:V→Option Value
 | .val v=>some v
 | .agg cs=>(H5 cs).map fun l=>.agg l.toArray
 | .ifc t (.val v)=>some (.iface t v)
 |_=>none
section
variable {G:Gh}
theorem zby{v:V}{x u:Value}(h:VS v=some x)(r:ku G v u):u=x:=by
 cases v<;>simp[VS]at h
 subst h;cases r;rfl
theorem Ue:∀ {vs:List V} {xs us:List Value},H5 vs=some xs→kE G vs us→us=xs
 |[],xs,us,h,r=>by simp[H5]at h;subst h;exact r.kN
 |v::vs,xs,us,h,r=>by
  obtain⟨y,ys,rfl,r1,r2⟩:=r.cons_inv;simp only[H5]at h
  cases h0:VS v with
  |none=>simp[h0]at h
  |some x=>
   cases h1:H5 vs with
   |none=>simp[h0,h1]at h
   |some l=>
    simp[h0,h1]at h;subst h;rw[zby h0 r1,Ue h1 r2]
theorem Lj{v:V}{x u:Value}(h:raw v=some x)(r:ku G v u):u=x:=by
 cases r with
 |val _=>simpa [raw] using h
 |agg k=>
  simp only[raw,Option.map_eq_some_iff]at h;obtain⟨l,hl,rfl⟩:=h;rw[Ue hl k]
 |ifc k=>
  cases k with
  |val _=>simpa [raw] using h
  |_=>simp[raw]at h
 |_=>simp[raw]at h
theorem O4{v:Value}(h:lX v=true):ku G (oL v) v:=by
 unfold oL
 split
 ·exact .nil rfl
 ·exact .val h
theorem vN:∀ {l:List Value},(∀ v∈l,lX v=true)→kE G (l.map oL) l
 |[],_=>.nil
 |v::_,h=>.cons (O4 (h v (List.mem_cons_self ..))) (vN fun x hx=>h x (List.mem_cons_of_mem _ hx))
end
def JF(v:Value):Bool:=v.cells.toList.all lX
def uG:Operand→Bool
 | .const v=>JF v
 |_=>true
def lN(ρ:Operand→V):Option Operand→Option (Option Int)
 |none=>some none
 |some x=>match ρ x with
  | .val (.int _ n)=>some (some n)
  |_=>none
def ng:List V→List (Nat×Nat×V)→Option (List V)
 |cells,[]=>some cells
 |cells,(off,size,v)::r=>if v.cells.length=size∧off+size≤cells.length then ng (v.cells.zipIdx.foldl (fun cs x=>cs.set (off+x.2) x.1) cells) r else none
def pI(size:Nat):List V→List (Nat×V)→Option (List V)
 |es,[]=>some es
 |es,(i,v)::r=>if v.cells.length=size∧i<es.length then pI size (es.set i v) r else none
def mW(cs:List V)(off:Nat):Option Nat→Option V
 |some n=>if off+n≤cs.length then some (.agg ((cs.drop off).take n))else none
 |none=>cs[off]?
def nY:Cmp→V→Bool
 | .pointer,.ptr _ _=>true
 | .pointer,.elt _=>true
 | .func,.fn _ _ _=>true
 | .iface,.ifc _ _=>true
 | .slice,.sl (_::_) _ _=>true
 | .slice,.sl [] _ k => !vz k
 | .slice,.arr _ _ _ _=>true
 | .slice,.res _ _ _ _=>true
 |_,_=>false
def kZ:Cmp→V→Bool
 | .pointer,.val (.pointer none)=>true
 | .func,.val .nilFunc=>true
 | .iface,.val .nilIface=>true
 | .slice,.sl [] [] .full=>true
 |_,_=>false
def zB:Cmp→Bool
 | .slice=>true
 |_=>false
def kR(P:Program)(op:BinOp)(T:TypeId)(k:Cmp)(xo yo:Operand)(x y:V):Option V:=
 if (nY k x&&kZ k y)||(kZ k x&&nY k y)then
  match op with
  | .eql=>some (.val (.bool false))
  | .neq=>some (.val (.bool true))
  |_=>none
 else if zB k&&kZ k x&&kZ k y then
  match op with
  | .eql=>some (.val (.bool true))
  | .neq=>some (.val (.bool false))
  |_=>none
 else match raw x,raw y with
  |some a,some b=>match kF P (do eqGuard op T xo yo a b;binOp op T a b)with
   |some v=>if lX v then some (.val v)else none
   |none=>none
  |_,_=>none
def bounds(len cap:Nat)(lo hi mx:Option Int):Option (Nat×Nat×Nat):=
 let m:=mx.getD cap
 let h:=hi.getD len
 let l:=lo.getD 0
 if 0≤l∧l≤h∧h≤m∧m≤cap∧(mx.isSome→hi.isSome)then some (l.toNat,h.toNat,m.toNat)else none
def bytesV(s:ByteArray):List V:=s.data.toList.map fun b=>.val (.int .u8 b.toNat)
def byteOf:V→Option UInt8
 | .val (.int .u8 n)=>some (UInt8.ofNat n.toNat)
 |_=>none
def bytesOf:List V→Option (List UInt8)
 |[]=>some []
 |v::r=>match byteOf v,bytesOf r with
  |some b,some l=>some (b::l)
  |_,_=>none
def oq(s:Nat)(es:List V):Bool:=es.all fun e=>e.cells.length==s
def wL(tok:Tok)(l n:Nat):Tok:=match tok with
 | .tip t v=>if l<n∨l=0 then .tip t v else .non
 | .full=>if l<n then .full else if n=0 then .full else .zero true
 | .no=>.no
 | .zero b=>.zero b
 | .tipz t v z=>if l=0 then .tipz t v z else .non
 | .non=>.non
 | .own=>if l<n then .full else .non
def GG(es:List V)(tok:Tok)(l h:Nat):Tok:=
 if l<h then .full else match es,tok with
  |[],.full=>.full
  |[],.zero b=>.zero b
  |[],.no=>.zero false
  |[],.tip _ _=>.zero true
  |[],.tipz _ _ _=>.zero true
  |[],.non=>.zero true
  |[],.own=>.zero true
  |_::_,_=>.zero true
def cutV(es more:List V)(tok:Tok)(lo hi mx:Option Int):Option V:=
 let l:=(lo.getD 0).toNat
 let h:=(hi.getD es.length).toNat
 match mx with
 |some m=>if 0≤lo.getD 0∧l≤h∧0≤hi.getD es.length∧hi.isSome∧h=m.toNat∧0≤m∧h≤es.length then some (.sl ((es.take h).drop l) [] (GG es tok l h))else none
 |none=>
  if 0≤lo.getD 0∧l≤h∧0≤hi.getD es.length then
   if h=es.length then some (.sl (es.drop l) more (wL tok l es.length))
   else if h≤es.length+more.length then some (.sl (((es++more).take h).drop l) ((es++more).drop h) .no)
   else none
  else none
def mmF(mx:Bool)(k:IntKind)(n:Int):List V→Option V
 |[]=>some (.val (.int k n))
 | .val (.int _ y)::r=>mmF mx k (if mx then (if y>n then y else n)else (if y<n then y else n)) r
 |_=>none
def mmV(mx:Bool):List V→Option V
 | .val (.int k n)::r=>mmF mx k n r
 |_=>none
def NZ:Operand→Bool
 | .const _=>true
 |_=>false
def u8z:List V→Bool
 |[.val (.int .u8 _)]=>true
 |_=>false
def Gt(z:List V)(len:Nat)(parts:List (Nat×Operand)):Tok:=if len=0 then .zero true else bif (parts.all fun x=>NZ x.2)&&u8z z then .own else .full
def zeroAt(P:Program)(T:TypeId):Option V:=match (P.info? T).bind (·.zero)with
 |some z=>if JF z then some (pG z)else none
 |none=>none
def I7(P:Program)(T:TypeId)(v:V):Option V:=match P.underlying T,zeroAt P T with
 |some (.interface want),some z=>match v with
  | .val .nilIface=>some (.tup [z,.val (.bool false)])
  | .ifc t x=>match P.info? t with
   |some i=>some (bif (lacking want i.methods).isEmpty then .tup [.ifc t x,.val (.bool true)]else .tup [z,.val (.bool false)])
   |none=>none
  |_=>none
 |some _,some z=>match v with
  | .val .nilIface=>some (.tup [z,.val (.bool false)])
  | .ifc t x=>some (bif Nat.beq t T then .tup [x,.val (.bool true)]else .tup [z,.val (.bool false)])
  |_=>none
 |_,_=>none
def jJ(P:Program)(ρ:Operand→V)(m:Store):AOp→Option V
 | .mov x=>some (ρ x)
 | .pick c a b=>match ρ c with
  | .val (.bool t)=>some (bif t then ρ a else ρ b)
  |_=>none
 | .build z parts=>(ng z (parts.map fun x=>(x.1,x.2.1,ρ x.2.2))).map .agg
 | .load s x=>match ρ x with
  | .elt cs=>mW cs 0 s
  | .ptr b o=>match m b with
   |some (.var _ cs)=>mW cs o s
   |_=>none
  |_=>none
 | .nilc x=>match ρ x with
  | .ptr b o=>some (.ptr b o)
  | .elt cs=>some (.elt cs)
  | .fn (.func f) a b=>some (.fn (.func f) a b)
  |_=>none
 | .bin op T k x y=>kR P op T k x y (ρ x) (ρ y)
 | .un op x=>match raw (ρ x)with
  |some a=>match kF P (Op.unary op a)with
   |some v=>if lX v then some (.val v)else none
   |none=>none
  |none=>none
 | .conv s d x=>match raw (ρ x)with
  |some a=>match kF P (convert s d a)with
   |some v=>if lX v then some (.val v)else none
   |none=>none
  |none=>none
 | .b2s x=>match ρ x with
  | .sl es _ _=>match bytesOf es with
   |some bs=>some (.val (.string ⟨bs.toArray⟩))
   |none=>none
  |_=>none
 | .mki T x=>some (.ifc T (ρ x))
 | .mkf fn f c=>some (.fn fn (f.map ρ) (c.map ρ))
 | .sliceS x lo hi=>match ρ x,lN ρ lo,lN ρ hi with
  | .val (.string s),some lo,some hi=>match bounds s.size s.size lo hi none with
   |some (a,b,_)=>some (.val (.string (s.extract a b)))
   |none=>none
  |_,_,_=>none
 | .sliceL s x lo hi mx=>match ρ x,lN ρ lo,lN ρ hi,lN ρ mx with
  | .sl es more tok,some l,some h,some m=>if oq s (es++more)then cutV es more tok l h m else none
  | .arr b o len cap,some l,some h,some m=>match bounds len cap l h m with
   |some (i,j,k)=>some (.arr b (if k=i then o else o+i*s) (j-i) (k-i))
   |none=>none
  | .res t v z _,some none,some (some 0),some none=>if z=s∧0<z then some (.sl [] [] (.tipz t v z))else none
  |_,_,_,_=>none
 | .sliceP n s x lo hi mx=>match ρ x,lN ρ lo,lN ρ hi,lN ρ mx with
  | .ptr b o,some l,some h,some m=>match bounds n n l h m with
   |some (i,j,k)=>some (.arr b (if k=i then o else o+i*s) (j-i) (k-i))
   |none=>none
  |_,_,_,_=>none
 | .s2ap n x=>match ρ x with
  | .sl es more _=>if n≤es.length then some (.elt (flat (es++more)))else none
  | .arr b o len _=>if n≤len then some (.ptr b o)else none
  |_=>none
 | .asrt T x=>I7 P T (ρ x)
 | .capS x=>match ρ x with
  | .sl es [] .full=>some (.val (.int .i64 es.length))
  | .sl [] [] (.zero _)=>some (.val (.int .i64 0))
  | .arr _ _ _ c=>some (.val (.int .i64 c))
  |_=>none
 | .mm mx xs=>mmV mx (xs.map ρ)
 | .idxArr n s a x i=>match ρ x,ρ i with
  | .agg cs,.val (.int _ k)=>if 0≤k∧k<n then mW cs (k.toNat*s) a else none
  |_,_=>none
 | .fieldA off x=>match ρ x with
  | .ptr b o=>some (.ptr b (o+off))
  | .elt cs=>some (.elt (cs.drop off))
  |_=>none
 | .field off s x=>match ρ x with
  | .agg cs=>mW cs off s
  |_=>none
 | .idxA n s x i=>match ρ x,ρ i with
  | .ptr b o,.val (.int _ k)=>if 0≤k∧k<n then some (.ptr b (o+k.toNat*s))else none
  | .elt cs,.val (.int _ k)=>if 0≤k∧k<n then some (.elt (cs.drop (k.toNat*s)))else none
  |_,_=>none
 | .idxL s x i=>match ρ x,ρ i with
  | .sl es _ _,.val (.int _ k)=>if 0≤k then match es[k.toNat]? with
    |some e=>if e.cells.length=s then some (.elt e.cells)else none
    |none=>none
   else none
  | .arr b o len _,.val (.int _ k)=>if 0≤k∧k<len then some (.ptr b (o+k.toNat*s))else none
  |_,_=>none
 | .idxStr x i=>match ρ x,ρ i with
  | .val (.string s),.val (.int _ k)=>if 0≤k then match s[k.toNat]? with
    |some b=>some (.val (.int .u8 b.toNat))
    |none=>none
   else none
  |_,_=>none
 | .len b x=>match b,ρ x with
  |true,.val (.string s)=>some (.val (.int .i64 s.size))
  |false,.sl es _ _=>some (.val (.int .i64 es.length))
  |false,.arr _ _ n _=>some (.val (.int .i64 n))
  |false,.res _ _ _ n=>some (.val (.int .i64 n))
  |_,_=>none
 | .ext x k=>match ρ x with
  | .tup vs=>vs[k]?
  |_=>none
 | .lits s z len parts=>(pI s (List.replicate len (if s=1 then z.headD (.val undef)else .agg z)) (parts.map fun x=>(x.1,ρ x.2))).map fun es=>.sl es [] (Gt z len parts)
 |_=>none
end Go.Av
