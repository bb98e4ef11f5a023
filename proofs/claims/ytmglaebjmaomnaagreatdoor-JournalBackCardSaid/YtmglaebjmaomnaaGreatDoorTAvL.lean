/- Going through a code made ready by rewriting: each quiet operation makes the next state. No condition. -/
import Derived.Test.YtmglaebjmaomnaaGreatDoorTAvH
set_option linter.unusedSimpArgs false
set_option linter.unusedVariables false
namespace Go.Av
abbrev un:V:=.val undef
def jS:List V→Nat→V
  |[], _=>un
  |a::_, 0=>a
  |_::t, n+1=>jS t n
theorem jL(a:V)(t:List V):jS (a::t) 0=a:=rfl
theorem jM(a:V)(t:List V)(n:Nat):jS (a::t) (n+1)=jS t n:=rfl
theorem mZ:∀ (t:List V) (n:Nat), t.getD n un=jS t n
  |[], n=>by simp[jS]
  |a::t, 0=>rfl
  |a::t, n+1=>by simpa [jS] using mZ t n
def xP:List V→Nat→V→List V
  |[], _, _=>[]
  |_::t, 0, v=>v::t
  |a::t, n+1, v=>a::xP t n v
theorem yu(a v:V)(t:List V):xP (a::t) 0 v=v::t:=rfl
theorem yw(a v:V)(t:List V)(n:Nat):xP (a::t) (n+1) v=a::xP t n v:=rfl
theorem zA:∀ (t:List V) (n:Nat) (v:V), t.set n v=xP t n v
  |[], n, v=>rfl
  |a::t, 0, v=>rfl
  |a::t, n+1, v=>by simpa [xP] using zA t n v
theorem rD(Γ:jI)(t:List V)(n:Nat):ev Γ t (.tmp n)=jS t n:=mZ t n
theorem Bl(Γ:jI)(t:List V)(v:Value):ev Γ t (.const v)=pg v:=rfl
theorem EM(Γ:jI)(t:List V)(f:FuncId):ev Γ t (.func f) = .fn (.func f) [] []:=rfl
theorem uC(k:IntKind)(n:Int):pg (.int k n) = .val (.int k n):=rfl
theorem sD(b:Bool):pg (.bool b) = .val (.bool b):=rfl
theorem oJ:pg .nilIface = .val .nilIface:=rfl
theorem oV:pg .nilFunc = .val .nilFunc:=rfl
theorem oU(a:Option Addr):pg (.pointer a) = .val (.pointer a):=rfl
theorem oI:pg (.slice none 0 0) = .sl [] [] .full:=rfl
section
variable {P:Program} {Γ:jI} {Kp:V→Store→Prop}
def qU(t:List V)(m:Store)(d:Option Tmp):Option V→Option St
  |some v=>some ((⟨t, m⟩:St).put d v)
  |none=>none
theorem Ey(t:List V)(m:Store)(d:Nat)(v:V):qU t m (some d) (some v)=some ⟨xP t d v, m⟩:=by
  simp only[qU, St.put, zA]
theorem Ez(t:List V)(m:Store)(v:V):qU t m none (some v)=some ⟨t, m⟩:=rfl
def vg(P:Program)(Γ:jI)(Kp:V→Store→Prop)(l:List Item)(K:St→Prop):Option St→Prop
  |some st=>su P Γ Kp l K st
  |none=>False
def gO(P:Program)(Γ:jI)(v:V)(want:Bool)(ao:AOp)(d:Option Tmp)(t:List V)(m:Store):Option St:=
  if isBool want v then qU t m d (jJ P (ev Γ t) m ao)else qU t m d (some un)
theorem YG{ao:AOp}{d:Option Tmp}{t:List V}{m:Store}:gO P Γ (.val (.bool true)) true ao d t m=qU t m d (jJ P (ev Γ t) m ao):=(rfl)
theorem YJ{ao:AOp}{d:Option Tmp}{t:List V}{m:Store}:gO P Γ (.val (.bool false)) false ao d t m=qU t m d (jJ P (ev Γ t) m ao):=(rfl)
theorem YH{ao:AOp}{d:Option Tmp}{t:List V}{m:Store}:gO P Γ (.val (.bool true)) false ao d t m=qU t m d (some un):=(rfl)
theorem YI{ao:AOp}{d:Option Tmp}{t:List V}{m:Store}:gO P Γ (.val (.bool false)) true ao d t m=qU t m d (some un):=(rfl)
theorem YF{w:Bool}{ao:AOp}{d:Option Tmp}{t:List V}{m:Store}:gO P Γ (.val undef) w ao d t m=qU t m d (some un):=(rfl)
theorem Nb{x:Item}{l:List Item}{K:St→Prop}{st:St}(hs:x.still=[]):su P Γ Kp (x::l) K st↔lh P Γ Kp x (su P Γ Kp l K) st:=by
  show lh P Γ Kp x (fun s=>(∀ y∈x.still, mQ P Γ y s)∧su P Γ Kp l K s) st↔_;rw[hs]
  have:(fun s=>(∀ y∈([]:List (Tmp×Option (Tmp×Bool)×AOp)), mQ P Γ y s)∧su P Γ Kp l K s)=su P Γ Kp l K:=by
    funext s;simp
  rw[this]
def lQ(ao:AOp):Bool:=match kindOf ao with
  | .loc | .load=>true
  |_=>false
theorem P6{x:Operand}:lQ (.mov x)=true:=(rfl)
theorem Jf{a b c:Operand}:lQ (.pick a b c)=true:=(rfl)
theorem Ew{a:List V}{b:List (Nat×Nat×Operand)}:lQ (.build a b)=true:=(rfl)
theorem Ji{a c:Nat}{b:List V}{d:List (Nat×Operand)}:lQ (.lits a b c d)=true:=(rfl)
theorem Jh{a:Option Nat}{b:Operand}:lQ (.load a b)=true:=(rfl)
theorem Jg{a:Operand}:lQ (.nilc a)=true:=(rfl)
theorem Qa{a:BinOp}{b:TypeId}{c:Cmp}{d e:Operand}:lQ (.bin a b c d e)=true:=(rfl)
theorem ZC{a:UnOp}{b:Operand}:lQ (.un a b)=true:=(rfl)
theorem Jl{a b:TypeId}{c:Operand}:lQ (.conv a b c)=true:=(rfl)
theorem Qb{a:Operand}:lQ (.b2s a)=true:=(rfl)
theorem P7{a:TypeId}{b:Operand}:lQ (.mki a b)=true:=(rfl)
theorem P8{a:Fn}{b c:List Operand}:lQ (.mkf a b c)=true:=(rfl)
theorem Ak{a:Operand}{b c:Option Operand}:lQ (.sliceS a b c)=true:=(rfl)
theorem Am{a:Nat}{b:Operand}{c d e:Option Operand}:lQ (.sliceL a b c d e)=true:=(rfl)
theorem Aq{a:Nat}{b:Operand}:lQ (.fieldA a b)=true:=(rfl)
theorem Eu{a:Nat}{b:Option Nat}{c:Operand}:lQ (.field a b c)=true:=(rfl)
theorem Jk{a b:Nat}{c d:Operand}:lQ (.idxA a b c d)=true:=(rfl)
theorem Jj{a:Nat}{b c:Operand}:lQ (.idxL a b c)=true:=(rfl)
theorem Ap{a b:Operand}:lQ (.idxStr a b)=true:=(rfl)
theorem q_len{a:Bool}{b:Operand}:lQ (.len a b)=true:=(rfl)
theorem P9{a:Operand}{b:Nat}:lQ (.ext a b)=true:=(rfl)
theorem Ro{ao:AOp}{d:Option Tmp}{j:Nat}{w:Bool}{l:List Item}{K:St→Prop}{t:List V}{m:Store}(hq:lQ ao=true) :
    vg P Γ Kp (⟨d, some (j, w), ao, []⟩::l) K (some ⟨t, m⟩)=vg P Γ Kp l K (gO P Γ (jS t j) w ao d t m):=by
  apply propext;show su P Γ Kp (_::l) K ⟨t, m⟩↔_;rw[Nb rfl];unfold gO lh kP;simp only[mZ]
  split
  · have hk:kindOf ao = .loc∨kindOf ao = .load:=by
      unfold lQ at hq
      split at hq<;>simp_all
    have:=quiet_iff (P:=P) (Γ:=Γ) (Kp:=Kp) (st:=⟨t, m⟩) (x:=⟨d, none, ao, []⟩) (.inl hk) (K:=su P Γ Kp l K);unfold lh zQ kP at this;simp only[if_true]at this;rw[this]
    cases he:jJ P (ev Γ t) m ao with
    |none=>simp[qU, vg]
    |some v=>simp[qU, vg]
  · rfl
theorem Rn{ao:AOp}{d:Option Tmp}{l:List Item}{K:St→Prop}{t:List V}{m:Store}(hq:lQ ao=true) :
    vg P Γ Kp (⟨d, none, ao, []⟩::l) K (some ⟨t, m⟩)=vg P Γ Kp l K (qU t m d (jJ P (ev Γ t) m ao)):=by
  apply propext;show su P Γ Kp (_::l) K ⟨t, m⟩↔_;rw[Nb rfl]
  have hk:kindOf ao = .loc∨kindOf ao = .load:=by
    unfold lQ at hq
    split at hq<;>simp_all
  rw[quiet_iff (.inl hk)];unfold zQ kP;simp only[if_true]
  cases he:jJ P (ev Γ t) m ao with
  |none=>simp[qU, vg]
  |some v=>simp[qU, vg]
theorem GZ{K:St→Prop}{st:St}:vg P Γ Kp [] K (some st)=K st:=(rfl)
theorem l7{b w:Bool}{ao:AOp}{d:Option Tmp}{t:List V}{m:Store}{l:List Item}{K:St→Prop}(h1:b=true→vg P Γ Kp l K (gO P Γ (.val (.bool true)) w ao d t m))(h2:b=false→vg P Γ Kp l K (gO P Γ (.val (.bool false)) w ao d t m)):vg P Γ Kp l K (gO P Γ (.val (.bool b)) w ao d t m):=by
  cases b
  · exact h2 rfl
  · exact h1 rfl
def Du(P:Program)(Γ:jI)(Kp:V→Store→Prop)(v:V)(a b:lK)(Q:Ex→St→Prop)(st:St):Prop:=match v with
  | .val (.bool t)=>(t=true→awp P Γ Kp a Q st)∧(t=false→awp P Γ Kp b Q st)
  |_=>False
theorem IL{Q:Ex→St→Prop}{st:St}:awp P Γ Kp .skip Q st=Q .normal st:=(rfl)
theorem LZ{l:List Item}{Q:Ex→St→Prop}{st:St}:awp P Γ Kp (.row l) Q st=vg P Γ Kp l (Q .normal) (some st):=(rfl)
theorem LY{a b:lK}{Q:Ex→St→Prop}{st:St}:awp P Γ Kp (.seq a b) Q st=awp P Γ Kp a (xe (awp P Γ Kp b Q) Q) st:=(rfl)
theorem IQ{c:Operand}{a b:lK}{Q:Ex→St→Prop}{t:List V}{m:Store}:awp P Γ Kp (.cond c a b) Q ⟨t, m⟩=Du P Γ Kp (ev Γ t c) a b Q ⟨t, m⟩:=(rfl)
theorem ET{id:Nat}{c:lK}{Q:Ex→St→Prop}{st:St}:awp P Γ Kp (.block id c) Q st=awp P Γ Kp c (nN id Q) st:=(rfl)
theorem IM{id:Nat}{Q:Ex→St→Prop}{st:St}:awp P Γ Kp (.exit id) Q st=Q (.exit id) st:=(rfl)
theorem L6{Q:Ex→St→Prop}{st:St}:awp P Γ Kp .ret Q st=Q .ret st:=(rfl)
theorem CS{a b:lK}{Q:Ex→St→Prop}{st:St}:Du P Γ Kp (.val (.bool true)) a b Q st=awp P Γ Kp a Q st:=by simp[Du]
theorem zL{a b:lK}{Q:Ex→St→Prop}{st:St}:Du P Γ Kp (.val (.bool false)) a b Q st=awp P Γ Kp b Q st:=by simp[Du]
theorem jP{x:Bool}{a b:lK}{Q:Ex→St→Prop}{st:St}(h1:x=true→awp P Γ Kp a Q st)(h2:x=false→awp P Γ Kp b Q st):Du P Γ Kp (.val (.bool x)) a b Q st:=⟨h1, h2⟩
theorem xR{n:St→Prop}{Q:Ex→St→Prop}{st:St}:xe n Q .normal st=n st:=(rfl)
theorem Ei{n:St→Prop}{Q:Ex→St→Prop}{st:St}:xe n Q .ret st=Q .ret st:=(rfl)
theorem BP{n:St→Prop}{Q:Ex→St→Prop}{st:St}{i:Nat}:xe n Q (.exit i) st=Q (.exit i) st:=(rfl)
theorem uf{i:Nat}{Q:Ex→St→Prop}{st:St}:nN i Q .normal st=Q .normal st:=(rfl)
theorem x9{i:Nat}{Q:Ex→St→Prop}{st:St}:nN i Q .ret st=Q .ret st:=(rfl)
theorem wY{i j:Nat}{Q:Ex→St→Prop}{st:St}:nN i Q (.exit j) st=if j=i then Q .normal st else Q (.exit j) st:=(rfl)
theorem wX{i:Nat}{Q:Ex→St→Prop}{st:St}:nN i Q (.exit i) st=Q .normal st:=if_pos rfl
theorem Bc{t:List V}{m:Store}{x:Operand}:jJ P (ev Γ t) m (.mov x)=some (ev Γ t x):=rfl
def XY(c a b:V):Option V:=match c with
  | .val (.bool t)=>some (bif t then a else b)
  |_=>none
theorem wo{a b:V}:XY (.val (.bool true)) a b=some a:=rfl
theorem uA{a b:V}:XY (.val (.bool false)) a b=some b:=rfl
theorem yQ{t:List V}{m:Store}{c a b:Operand}:jJ P (ev Γ t) m (.pick c a b)=XY (ev Γ t c) (ev Γ t a) (ev Γ t b):=rfl
theorem Bj{t:List V}{m:Store}{op:BinOp}{T:TypeId}{k:Cmp}{x y:Operand}:jJ P (ev Γ t) m (.bin op T k x y)=kX P op T k x y (ev Γ t x) (ev Γ t y):=rfl
def unV(P:Program)(op:UnOp)(v:V):Option V:=match raw v with
    |some a=>match kF P (Op.unary op a)with
      |some v=>if lY v then some (.val v)else none
      |none=>none
    |none=>none
theorem yc{t:List V}{m:Store}{op:UnOp}{x:Operand}:jJ P (ev Γ t) m (.un op x)=unV P op (ev Γ t x):=rfl
theorem Ef{b:Bool}:unV P .not (.val (.bool b))=some (.val (.bool !b)):=rfl
theorem BO{k:IntKind}{n:Int}:unV P .neg (.val (.int k n))=some (.val (.int k (k.wrap (0-n)))):=rfl
def BB(P:Program)(s d:TypeId)(v:V):Option V:=match raw v with
    |some a=>match kF P (convert s d a)with
      |some v=>if lY v then some (.val v)else none
      |none=>none
    |none=>none
theorem nD{t:List V}{m:Store}{s d:TypeId}{x:Operand}:jJ P (ev Γ t) m (.conv s d x)=BB P s d (ev Γ t x):=rfl
def DV(m:Store)(s:Option Nat):V→Option V
    | .elt cs=>mV cs 0 s
    | .ptr b o=>match m b with
      |some (.var _ cs)=>mV cs o s
      |_=>none
    |_=>none
theorem sK{t:List V}{m:Store}{s:Option Nat}{x:Operand}:jJ P (ev Γ t) m (.load s x)=DV m s (ev Γ t x):=rfl
theorem yI{m:Store}{s:Option Nat}{cs:List V}:DV m s (.elt cs)=mV cs 0 s:=rfl
def UB:V→Option V
    | .ptr b o=>some (.ptr b o)
    | .elt cs=>some (.elt cs)
    | .fn (.func f) a b=>some (.fn (.func f) a b)
    |_=>none
theorem yR{t:List V}{m:Store}{x:Operand}:jJ P (ev Γ t) m (.nilc x)=UB (ev Γ t x):=rfl
theorem yG{b o:Nat}:UB (.ptr b o)=some (.ptr b o):=rfl
theorem yH{cs:List V}:UB (.elt cs)=some (.elt cs):=rfl
theorem AL{f:FuncId}{a b:List V}:UB (.fn (.func f) a b)=some (.fn (.func f) a b):=rfl
theorem Bd{t:List V}{m:Store}{T:TypeId}{x:Operand}:jJ P (ev Γ t) m (.mki T x)=some (.ifc T (ev Γ t x)):=rfl
theorem Bg{t:List V}{m:Store}{fn:Fn}{f c:List Operand}:jJ P (ev Γ t) m (.mkf fn f c)=some (.fn fn (f.map (ev Γ t)) (c.map (ev Γ t))):=rfl
def LQ(off:Nat):V→Option V
    | .ptr b o=>some (.ptr b (o+off))
    | .elt cs=>some (.elt (cs.drop off))
    |_=>none
theorem uQ{t:List V}{m:Store}{off:Nat}{x:Operand}:jJ P (ev Γ t) m (.fieldA off x)=LQ off (ev Γ t x):=rfl
theorem uM{off b o:Nat}:LQ off (.ptr b o)=some (.ptr b (o+off)):=rfl
theorem uN{off:Nat}{cs:List V}:LQ off (.elt cs)=some (.elt (cs.drop off)):=rfl
def Xa(off:Nat)(s:Option Nat):V→Option V
    | .agg cs=>mV cs off s
    |_=>none
theorem wJ{t:List V}{m:Store}{off:Nat}{s:Option Nat}{x:Operand}:jJ P (ev Γ t) m (.field off s x)=Xa off s (ev Γ t x):=rfl
theorem wH{off:Nat}{s:Option Nat}{cs:List V}:Xa off s (.agg cs)=mV cs off s:=rfl
theorem wK{t:List V}{m:Store}{z:List V}{parts:List (Nat×Nat×Operand)}:jJ P (ev Γ t) m (.build z parts)=(ni z (parts.map fun x=>(x.1, x.2.1, ev Γ t x.2.2))).map .agg:=rfl
def lenV:Bool→V→Option V
    |true, .val (.string s)=>some (.val (.int .i64 s.size))
    |false, .sl es _ _=>some (.val (.int .i64 es.length))
    |false, .arr _ _ n _=>some (.val (.int .i64 n))
    |false, .res _ _ _ n=>some (.val (.int .i64 n))
    |_, _=>none
theorem Bh{t:List V}{m:Store}{b:Bool}{x:Operand}:jJ P (ev Γ t) m (.len b x)=lenV b (ev Γ t x):=by
  cases b<;>generalize h:ev Γ t x=v<;>simp only[jJ, lenV, h]<;>cases v<;>first|rfl|(rename_i u;cases u<;>rfl)
theorem uH{s:ByteArray}:lenV true (.val (.string s))=some (.val (.int .i64 s.size)):=rfl
theorem kE{es more:List V}{tok:Tok}:lenV false (.sl es more tok)=some (.val (.int .i64 es.length)):=rfl
def zhS(k:Nat):V→Option V
    | .tup vs=>vs[k]?
    |_=>none
theorem Bi{t:List V}{m:Store}{k:Nat}{x:Operand}:jJ P (ev Γ t) m (.ext x k)=zhS k (ev Γ t x):=rfl
theorem Ba{k:Nat}{vs:List V}:zhS k (.tup vs)=vs[k]? := rfl
def zJ:V→V→Option V
    | .val (.string s), .val (.int _ k)=>if 0≤k then match s[k.toNat]? with
        |some b=>some (.val (.int .u8 b.toNat))
        |none=>none
      else none
    |_, _=>none
theorem uP{t:List V}{m:Store}{x i:Operand}:jJ P (ev Γ t) m (.idxStr x i)=zJ (ev Γ t x) (ev Γ t i):=rfl
theorem UQ{s:ByteArray}{k:IntKind}{i:Nat}(h:i<s.size):zJ (.val (.string s)) (.val (.int k (i:Int)))=some (.val (.int .u8 (s[i]'h).toNat)):=by
  simp[zJ, h]
def oG(size:Nat):V→V→Option V
    | .sl es _ _, .val (.int _ k)=>if 0≤k then match es[k.toNat]? with
        |some e=>if e.cells.length=size then some (.elt e.cells)else none
        |none=>none
      else none
    | .arr b o len _, .val (.int _ k)=>if 0≤k∧k<len then some (.ptr b (o+k.toNat*size))else none
    |_, _=>none
theorem yS{t:List V}{m:Store}{size:Nat}{x i:Operand}:jJ P (ev Γ t) m (.idxL size x i)=oG size (ev Γ t x) (ev Γ t i):=rfl
theorem mD{size:Nat}{es more:List V}{tok:Tok}{k:IntKind}{i:Nat}{e:V}(h:es[i]? = some e)(hs:e.cells.length=size):oG size (.sl es more tok) (.val (.int k (i:Int)))=some (.elt e.cells):=by
  simp[oG, h, hs]
theorem yC{cs:List V}{o:Nat}:mV cs o none=cs[o]? := rfl
section
variable {T:TypeId} {k:IntKind} {xo yo:Operand} {a b:Int} {x y:ByteArray}
theorem yl:kX P .eql T .other xo yo (.val (.int k a)) (.val (.int k b))=some (.val (.bool (a==b))):=by simp[kX, nS, lm, raw, eqGuard, binOp, kF, Op.intCmp, lY, pure, bind, Sem.bind]
theorem yh:kX P .neq T .other xo yo (.val (.int k a)) (.val (.int k b))=some (.val (.bool (a != b))):=by simp[kX, nS, lm, raw, eqGuard, binOp, kF, Op.intCmp, lY, pure, bind, Sem.bind]
theorem CX:kX P .lss T .other xo yo (.val (.int k a)) (.val (.int k b))=some (.val (.bool (decide (a<b)))):=by simp[kX, nS, lm, raw, eqGuard, binOp, kF, Op.intCmp, lY, pure, bind, Sem.bind]
theorem CY:kX P .leq T .other xo yo (.val (.int k a)) (.val (.int k b))=some (.val (.bool (decide (a≤b)))):=by simp[kX, nS, lm, raw, eqGuard, binOp, kF, Op.intCmp, lY, pure, bind, Sem.bind]
theorem CZ:kX P .gtr T .other xo yo (.val (.int k a)) (.val (.int k b))=some (.val (.bool (decide (a>b)))):=by simp[kX, nS, lm, raw, eqGuard, binOp, kF, Op.intCmp, lY, pure, bind, Sem.bind]
theorem C9:kX P .geq T .other xo yo (.val (.int k a)) (.val (.int k b))=some (.val (.bool (decide (a≥b)))):=by simp[kX, nS, lm, raw, eqGuard, binOp, kF, Op.intCmp, lY, pure, bind, Sem.bind]
theorem Dc:kX P .add T .other xo yo (.val (.int k a)) (.val (.int k b))=some (.val (.int k (k.wrap (a+b)))):=by simp[kX, nS, lm, raw, eqGuard, binOp, kF, Op.intArith, lY, pure, bind, Sem.bind]
theorem CW:kX P .sub T .other xo yo (.val (.int k a)) (.val (.int k b))=some (.val (.int k (k.wrap (a-b)))):=by simp[kX, nS, lm, raw, eqGuard, binOp, kF, Op.intArith, lY, pure, bind, Sem.bind]
theorem yj:kX P .mul T .other xo yo (.val (.int k a)) (.val (.int k b))=some (.val (.int k (k.wrap (a*b)))):=by simp[kX, nS, lm, raw, eqGuard, binOp, kF, Op.intArith, lY, pure, bind, Sem.bind]
theorem TB:kX P .or T .other xo yo (.val (.int k a)) (.val (.int k b))=some (.val (.int k (k.wrap (BitVec.ofInt k.bits a ||| BitVec.ofInt k.bits b).toNat))):=by simp[kX, nS, lm, raw, eqGuard, binOp, kF, Op.intBits, lY, pure, bind, Sem.bind]
theorem LW:kX P .and T .other xo yo (.val (.int k a)) (.val (.int k b))=some (.val (.int k (k.wrap (BitVec.ofInt k.bits a &&& BitVec.ofInt k.bits b).toNat))):=by simp[kX, nS, lm, raw, eqGuard, binOp, kF, Op.intBits, lY, pure, bind, Sem.bind]
theorem zfi(h:b≠0):kX P .quo T .other xo yo (.val (.int k a)) (.val (.int k b))=some (.val (.int k (k.wrap (a.tdiv b)))):=by simp[kX, nS, lm, raw, eqGuard, binOp, kF, Op.intDiv, lY, pure, bind, Sem.bind, h]
theorem LV(h:b≠0):kX P .rem T .other xo yo (.val (.int k a)) (.val (.int k b))=some (.val (.int k (a.tmod b))):=by simp[kX, nS, lm, raw, eqGuard, binOp, kF, Op.intDiv, lY, pure, bind, Sem.bind, h]
theorem xC:kX P .eql T .other xo yo (.val (.string x)) (.val (.string y))=some (.val (.bool (x.toList==y.toList))):=by simp[kX, nS, lm, raw, eqGuard, binOp, kF, Op.stringOp, lY, pure, bind, Sem.bind]
theorem xB:kX P .neq T .other xo yo (.val (.string x)) (.val (.string y))=some (.val (.bool !(x.toList==y.toList))):=by simp[kX, nS, lm, raw, eqGuard, binOp, kF, Op.stringOp, lY, pure, bind, Sem.bind]
theorem zdq(h:((x.size+y.size:Nat):Int)≤IntKind.i64.max):kX P .add T .other xo yo (.val (.string x)) (.val (.string y))=some (.val (.string (x++y))):=by
  have:¬ (9223372036854775807:Int)<(x.size:Int)+(y.size:Int):=by
    have e:IntKind.i64.max=9223372036854775807:=rfl;omega
  simp[kX, nS, lm, raw, eqGuard, binOp, kF, Op.stringOp, lY, pure, bind, Sem.bind, this]
end
end
end Go.Av
