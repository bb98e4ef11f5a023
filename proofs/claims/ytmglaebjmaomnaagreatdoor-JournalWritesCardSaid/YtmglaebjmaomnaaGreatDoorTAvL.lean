/- Going through a code made ready by rewriting: each quiet operation makes the next state. No condition. -/
import Derived.Test.YtmglaebjmaomnaaGreatDoorTAvH
set_option linter.unusedSimpArgs false
set_option linter.unusedVariables false
namespace Go.Av
abbrev un:V:=.val undef
def jT:List V→Nat→V
  |[], _=>un
  |a::_, 0=>a
  |_::t, n+1=>jT t n
theorem jH(a:V)(t:List V):jT (a::t) 0=a:=rfl
theorem jI(a:V)(t:List V)(n:Nat):jT (a::t) (n+1)=jT t n:=rfl
theorem nz:∀ (t:List V) (n:Nat), t.getD n un=jT t n
  |[], n=>by simp[jT]
  |a::t, 0=>rfl
  |a::t, n+1=>by simpa [jT] using nz t n
def xQ:List V→Nat→V→List V
  |[], _, _=>[]
  |_::t, 0, v=>v::t
  |a::t, n+1, v=>a::xQ t n v
theorem yA(a v:V)(t:List V):xQ (a::t) 0 v=v::t:=rfl
theorem yB(a v:V)(t:List V)(n:Nat):xQ (a::t) (n+1) v=a::xQ t n v:=rfl
theorem zM:∀ (t:List V) (n:Nat) (v:V), t.set n v=xQ t n v
  |[], n, v=>rfl
  |a::t, 0, v=>rfl
  |a::t, n+1, v=>by simpa [xQ] using zM t n v
theorem rV(Γ:jG)(t:List V)(n:Nat):ev Γ t (.tmp n)=jT t n:=nz t n
theorem BG(Γ:jG)(t:List V)(v:Value):ev Γ t (.const v)=pG v:=rfl
theorem Fa(Γ:jG)(t:List V)(f:FuncId):ev Γ t (.func f) = .fn (.func f) [] []:=rfl
theorem uH(k:IntKind)(n:Int):pG (.int k n) = .val (.int k n):=rfl
theorem sH(b:Bool):pG (.bool b) = .val (.bool b):=rfl
theorem oK:pG .nilIface = .val .nilIface:=rfl
theorem o6:pG .nilFunc = .val .nilFunc:=rfl
theorem o5(a:Option Addr):pG (.pointer a) = .val (.pointer a):=rfl
theorem oJ:pG (.slice none 0 0) = .sl [] [] .full:=rfl
section
variable {P:Program} {Γ:jG} {Kp:V→Store→Prop}
def qW(t:List V)(m:Store)(d:Option Tmp):Option V→Option St
  |some v=>some ((⟨t, m⟩:St).put d v)
  |none=>none
theorem EN(t:List V)(m:Store)(d:Nat)(v:V):qW t m (some d) (some v)=some ⟨xQ t d v, m⟩:=by
  simp only[qW, St.put, zM]
theorem EO(t:List V)(m:Store)(v:V):qW t m none (some v)=some ⟨t, m⟩:=rfl
def vk(P:Program)(Γ:jG)(Kp:V→Store→Prop)(l:List Item)(K:St→Prop):Option St→Prop
  |some st=>sG P Γ Kp l K st
  |none=>False
def gO(P:Program)(Γ:jG)(v:V)(want:Bool)(ao:AOp)(d:Option Tmp)(t:List V)(m:Store):Option St:=
  if isBool want v then qW t m d (jJ P (ev Γ t) m ao)else qW t m d (some un)
theorem Yj{ao:AOp}{d:Option Tmp}{t:List V}{m:Store}:gO P Γ (.val (.bool true)) true ao d t m=qW t m d (jJ P (ev Γ t) m ao):=(rfl)
theorem Ym{ao:AOp}{d:Option Tmp}{t:List V}{m:Store}:gO P Γ (.val (.bool false)) false ao d t m=qW t m d (jJ P (ev Γ t) m ao):=(rfl)
theorem Yk{ao:AOp}{d:Option Tmp}{t:List V}{m:Store}:gO P Γ (.val (.bool true)) false ao d t m=qW t m d (some un):=(rfl)
theorem Yl{ao:AOp}{d:Option Tmp}{t:List V}{m:Store}:gO P Γ (.val (.bool false)) true ao d t m=qW t m d (some un):=(rfl)
theorem Yi{w:Bool}{ao:AOp}{d:Option Tmp}{t:List V}{m:Store}:gO P Γ (.val undef) w ao d t m=qW t m d (some un):=(rfl)
theorem MW{x:Item}{l:List Item}{K:St→Prop}{st:St}(hs:x.still=[]):sG P Γ Kp (x::l) K st↔kX P Γ Kp x (sG P Γ Kp l K) st:=by
  show kX P Γ Kp x (fun s=>(∀ y∈x.still, mV P Γ y s)∧sG P Γ Kp l K s) st↔_;rw[hs]
  have:(fun s=>(∀ y∈([]:List (Tmp×Option (Tmp×Bool)×AOp)), mV P Γ y s)∧sG P Γ Kp l K s)=sG P Γ Kp l K:=by
    funext s;simp
  rw[this]
def lL(ao:AOp):Bool:=match kindOf ao with
  | .loc | .load=>true
  |_=>false
theorem PS{x:Operand}:lL (.mov x)=true:=(rfl)
theorem Jk{a b c:Operand}:lL (.pick a b c)=true:=(rfl)
theorem EM{a:List V}{b:List (Nat×Nat×Operand)}:lL (.build a b)=true:=(rfl)
theorem Jn{a c:Nat}{b:List V}{d:List (Nat×Operand)}:lL (.lits a b c d)=true:=(rfl)
theorem Jm{a:Option Nat}{b:Operand}:lL (.load a b)=true:=(rfl)
theorem Jl{a:Operand}:lL (.nilc a)=true:=(rfl)
theorem PW{a:BinOp}{b:TypeId}{c:Cmp}{d e:Operand}:lL (.bin a b c d e)=true:=(rfl)
theorem Zp{a:UnOp}{b:Operand}:lL (.un a b)=true:=(rfl)
theorem Jq{a b:TypeId}{c:Operand}:lL (.conv a b c)=true:=(rfl)
theorem PX{a:Operand}:lL (.b2s a)=true:=(rfl)
theorem PT{a:TypeId}{b:Operand}:lL (.mki a b)=true:=(rfl)
theorem PU{a:Fn}{b c:List Operand}:lL (.mkf a b c)=true:=(rfl)
theorem Az{a:Operand}{b c:Option Operand}:lL (.sliceS a b c)=true:=(rfl)
theorem AA{a:Nat}{b:Operand}{c d e:Option Operand}:lL (.sliceL a b c d e)=true:=(rfl)
theorem AC{a:Nat}{b:Operand}:lL (.fieldA a b)=true:=(rfl)
theorem EL{a:Nat}{b:Option Nat}{c:Operand}:lL (.field a b c)=true:=(rfl)
theorem Jp{a b:Nat}{c d:Operand}:lL (.idxA a b c d)=true:=(rfl)
theorem Jo{a:Nat}{b c:Operand}:lL (.idxL a b c)=true:=(rfl)
theorem AB{a b:Operand}:lL (.idxStr a b)=true:=(rfl)
theorem q_len{a:Bool}{b:Operand}:lL (.len a b)=true:=(rfl)
theorem PV{a:Operand}{b:Nat}:lL (.ext a b)=true:=(rfl)
theorem Ri{ao:AOp}{d:Option Tmp}{j:Nat}{w:Bool}{l:List Item}{K:St→Prop}{t:List V}{m:Store}(hq:lL ao=true) :
    vk P Γ Kp (⟨d, some (j, w), ao, []⟩::l) K (some ⟨t, m⟩)=vk P Γ Kp l K (gO P Γ (jT t j) w ao d t m):=by
  apply propext;show sG P Γ Kp (_::l) K ⟨t, m⟩↔_;rw[MW rfl];unfold gO kX kP;simp only[nz]
  split
  · have hk:kindOf ao = .loc∨kindOf ao = .load:=by
      unfold lL at hq
      split at hq<;>simp_all
    have:=quiet_iff (P:=P) (Γ:=Γ) (Kp:=Kp) (st:=⟨t, m⟩) (x:=⟨d, none, ao, []⟩) (.inl hk) (K:=sG P Γ Kp l K);unfold kX Ae kP at this;simp only[if_true]at this;rw[this]
    cases he:jJ P (ev Γ t) m ao with
    |none=>simp[qW, vk]
    |some v=>simp[qW, vk]
  · rfl
theorem Rh{ao:AOp}{d:Option Tmp}{l:List Item}{K:St→Prop}{t:List V}{m:Store}(hq:lL ao=true) :
    vk P Γ Kp (⟨d, none, ao, []⟩::l) K (some ⟨t, m⟩)=vk P Γ Kp l K (qW t m d (jJ P (ev Γ t) m ao)):=by
  apply propext;show sG P Γ Kp (_::l) K ⟨t, m⟩↔_;rw[MW rfl]
  have hk:kindOf ao = .loc∨kindOf ao = .load:=by
    unfold lL at hq
    split at hq<;>simp_all
  rw[quiet_iff (.inl hk)];unfold Ae kP;simp only[if_true]
  cases he:jJ P (ev Γ t) m ao with
  |none=>simp[qW, vk]
  |some v=>simp[qW, vk]
theorem Hr{K:St→Prop}{st:St}:vk P Γ Kp [] K (some st)=K st:=(rfl)
theorem l7{b w:Bool}{ao:AOp}{d:Option Tmp}{t:List V}{m:Store}{l:List Item}{K:St→Prop}(h1:b=true→vk P Γ Kp l K (gO P Γ (.val (.bool true)) w ao d t m))(h2:b=false→vk P Γ Kp l K (gO P Γ (.val (.bool false)) w ao d t m)):vk P Γ Kp l K (gO P Γ (.val (.bool b)) w ao d t m):=by
  cases b
  · exact h2 rfl
  · exact h1 rfl
def DF(P:Program)(Γ:jG)(Kp:V→Store→Prop)(v:V)(a b:lF)(Q:Ex→St→Prop)(st:St):Prop:=match v with
  | .val (.bool t)=>(t=true→awp P Γ Kp a Q st)∧(t=false→awp P Γ Kp b Q st)
  |_=>False
theorem IX{Q:Ex→St→Prop}{st:St}:awp P Γ Kp .skip Q st=Q .normal st:=(rfl)
theorem LM{l:List Item}{Q:Ex→St→Prop}{st:St}:awp P Γ Kp (.row l) Q st=vk P Γ Kp l (Q .normal) (some st):=(rfl)
theorem LK{a b:lF}{Q:Ex→St→Prop}{st:St}:awp P Γ Kp (.seq a b) Q st=awp P Γ Kp a (wY (awp P Γ Kp b Q) Q) st:=(rfl)
theorem IZ{c:Operand}{a b:lF}{Q:Ex→St→Prop}{t:List V}{m:Store}:awp P Γ Kp (.cond c a b) Q ⟨t, m⟩=DF P Γ Kp (ev Γ t c) a b Q ⟨t, m⟩:=(rfl)
theorem Fp{id:Nat}{c:lF}{Q:Ex→St→Prop}{st:St}:awp P Γ Kp (.block id c) Q st=awp P Γ Kp c (nT id Q) st:=(rfl)
theorem IY{id:Nat}{Q:Ex→St→Prop}{st:St}:awp P Γ Kp (.exit id) Q st=Q (.exit id) st:=(rfl)
theorem LP{Q:Ex→St→Prop}{st:St}:awp P Γ Kp .ret Q st=Q .ret st:=(rfl)
theorem Dc{a b:lF}{Q:Ex→St→Prop}{st:St}:DF P Γ Kp (.val (.bool true)) a b Q st=awp P Γ Kp a Q st:=by simp[DF]
theorem zZ{a b:lF}{Q:Ex→St→Prop}{st:St}:DF P Γ Kp (.val (.bool false)) a b Q st=awp P Γ Kp b Q st:=by simp[DF]
theorem jR{x:Bool}{a b:lF}{Q:Ex→St→Prop}{st:St}(h1:x=true→awp P Γ Kp a Q st)(h2:x=false→awp P Γ Kp b Q st):DF P Γ Kp (.val (.bool x)) a b Q st:=⟨h1, h2⟩
theorem xU{n:St→Prop}{Q:Ex→St→Prop}{st:St}:wY n Q .normal st=n st:=(rfl)
theorem EE{n:St→Prop}{Q:Ex→St→Prop}{st:St}:wY n Q .ret st=Q .ret st:=(rfl)
theorem Cb{n:St→Prop}{Q:Ex→St→Prop}{st:St}{i:Nat}:wY n Q (.exit i) st=Q (.exit i) st:=(rfl)
theorem ul{i:Nat}{Q:Ex→St→Prop}{st:St}:nT i Q .normal st=Q .normal st:=(rfl)
theorem yg{i:Nat}{Q:Ex→St→Prop}{st:St}:nT i Q .ret st=Q .ret st:=(rfl)
theorem wV{i j:Nat}{Q:Ex→St→Prop}{st:St}:nT i Q (.exit j) st=if j=i then Q .normal st else Q (.exit j) st:=(rfl)
theorem wU{i:Nat}{Q:Ex→St→Prop}{st:St}:nT i Q (.exit i) st=Q .normal st:=if_pos rfl
theorem Bz{t:List V}{m:Store}{x:Operand}:jJ P (ev Γ t) m (.mov x)=some (ev Γ t x):=rfl
def XE(c a b:V):Option V:=match c with
  | .val (.bool t)=>some (bif t then a else b)
  |_=>none
theorem wu{a b:V}:XE (.val (.bool true)) a b=some a:=rfl
theorem uF{a b:V}:XE (.val (.bool false)) a b=some b:=rfl
theorem yY{t:List V}{m:Store}{c a b:Operand}:jJ P (ev Γ t) m (.pick c a b)=XE (ev Γ t c) (ev Γ t a) (ev Γ t b):=rfl
theorem BF{t:List V}{m:Store}{op:BinOp}{T:TypeId}{k:Cmp}{x y:Operand}:jJ P (ev Γ t) m (.bin op T k x y)=kR P op T k x y (ev Γ t x) (ev Γ t y):=rfl
def unV(P:Program)(op:UnOp)(v:V):Option V:=match raw v with
    |some a=>match kF P (Op.unary op a)with
      |some v=>if lX v then some (.val v)else none
      |none=>none
    |none=>none
theorem vK{t:List V}{m:Store}{op:UnOp}{x:Operand}:jJ P (ev Γ t) m (.un op x)=unV P op (ev Γ t x):=rfl
theorem Ez{b:Bool}:unV P .not (.val (.bool b))=some (.val (.bool !b)):=rfl
theorem BX{k:IntKind}{n:Int}:unV P .neg (.val (.int k n))=some (.val (.int k (k.wrap (0-n)))):=rfl
def Eh(P:Program)(s d:TypeId)(v:V):Option V:=match raw v with
    |some a=>match kF P (convert s d a)with
      |some v=>if lX v then some (.val v)else none
      |none=>none
    |none=>none
theorem lq{t:List V}{m:Store}{s d:TypeId}{x:Operand}:jJ P (ev Γ t) m (.conv s d x)=Eh P s d (ev Γ t x):=rfl
def Ea(m:Store)(s:Option Nat):V→Option V
    | .elt cs=>mW cs 0 s
    | .ptr b o=>match m b with
      |some (.var _ cs)=>mW cs o s
      |_=>none
    |_=>none
theorem sN{t:List V}{m:Store}{s:Option Nat}{x:Operand}:jJ P (ev Γ t) m (.load s x)=Ea m s (ev Γ t x):=rfl
theorem yM{m:Store}{s:Option Nat}{cs:List V}:Ea m s (.elt cs)=mW cs 0 s:=rfl
def Ut:V→Option V
    | .ptr b o=>some (.ptr b o)
    | .elt cs=>some (.elt cs)
    | .fn (.func f) a b=>some (.fn (.func f) a b)
    |_=>none
theorem yZ{t:List V}{m:Store}{x:Operand}:jJ P (ev Γ t) m (.nilc x)=Ut (ev Γ t x):=rfl
theorem yK{b o:Nat}:Ut (.ptr b o)=some (.ptr b o):=rfl
theorem yL{cs:List V}:Ut (.elt cs)=some (.elt cs):=rfl
theorem A7{f:FuncId}{a b:List V}:Ut (.fn (.func f) a b)=some (.fn (.func f) a b):=rfl
theorem BA{t:List V}{m:Store}{T:TypeId}{x:Operand}:jJ P (ev Γ t) m (.mki T x)=some (.ifc T (ev Γ t x)):=rfl
theorem BB{t:List V}{m:Store}{fn:Fn}{f c:List Operand}:jJ P (ev Γ t) m (.mkf fn f c)=some (.fn fn (f.map (ev Γ t)) (c.map (ev Γ t))):=rfl
def Lt(off:Nat):V→Option V
    | .ptr b o=>some (.ptr b (o+off))
    | .elt cs=>some (.elt (cs.drop off))
    |_=>none
theorem uQ{t:List V}{m:Store}{off:Nat}{x:Operand}:jJ P (ev Γ t) m (.fieldA off x)=Lt off (ev Γ t x):=rfl
theorem uN{off b o:Nat}:Lt off (.ptr b o)=some (.ptr b (o+off)):=rfl
theorem uO{off:Nat}{cs:List V}:Lt off (.elt cs)=some (.elt (cs.drop off)):=rfl
def WI(off:Nat)(s:Option Nat):V→Option V
    | .agg cs=>mW cs off s
    |_=>none
theorem wJ{t:List V}{m:Store}{off:Nat}{s:Option Nat}{x:Operand}:jJ P (ev Γ t) m (.field off s x)=WI off s (ev Γ t x):=rfl
theorem wI{off:Nat}{s:Option Nat}{cs:List V}:WI off s (.agg cs)=mW cs off s:=rfl
theorem wK{t:List V}{m:Store}{z:List V}{parts:List (Nat×Nat×Operand)}:jJ P (ev Γ t) m (.build z parts)=(ng z (parts.map fun x=>(x.1, x.2.1, ev Γ t x.2.2))).map .agg:=rfl
def lenV:Bool→V→Option V
    |true, .val (.string s)=>some (.val (.int .i64 s.size))
    |false, .sl es _ _=>some (.val (.int .i64 es.length))
    |false, .arr _ _ n _=>some (.val (.int .i64 n))
    |false, .res _ _ _ n=>some (.val (.int .i64 n))
    |_, _=>none
theorem BC{t:List V}{m:Store}{b:Bool}{x:Operand}:jJ P (ev Γ t) m (.len b x)=lenV b (ev Γ t x):=by
  cases b<;>generalize h:ev Γ t x=v<;>simp only[jJ, lenV, h]<;>cases v<;>first|rfl|(rename_i u;cases u<;>rfl)
theorem uK{s:ByteArray}:lenV true (.val (.string s))=some (.val (.int .i64 s.size)):=rfl
theorem lV{es more:List V}{tok:Tok}:lenV false (.sl es more tok)=some (.val (.int .i64 es.length)):=rfl
def zhV(k:Nat):V→Option V
    | .tup vs=>vs[k]?
    |_=>none
theorem BD{t:List V}{m:Store}{k:Nat}{x:Operand}:jJ P (ev Γ t) m (.ext x k)=zhV k (ev Γ t x):=rfl
theorem Bv{k:Nat}{vs:List V}:zhV k (.tup vs)=vs[k]? := rfl
def zV:V→V→Option V
    | .val (.string s), .val (.int _ k)=>if 0≤k then match s[k.toNat]? with
        |some b=>some (.val (.int .u8 b.toNat))
        |none=>none
      else none
    |_, _=>none
theorem uP{t:List V}{m:Store}{x i:Operand}:jJ P (ev Γ t) m (.idxStr x i)=zV (ev Γ t x) (ev Γ t i):=rfl
theorem UG{s:ByteArray}{k:IntKind}{i:Nat}(h:i<s.size):zV (.val (.string s)) (.val (.int k (i:Int)))=some (.val (.int .u8 (s[i]'h).toNat)):=by
  simp[zV, h]
def sU(size:Nat):V→V→Option V
    | .sl es _ _, .val (.int _ k)=>if 0≤k then match es[k.toNat]? with
        |some e=>if e.cells.length=size then some (.elt e.cells)else none
        |none=>none
      else none
    | .arr b o len _, .val (.int _ k)=>if 0≤k∧k<len then some (.ptr b (o+k.toNat*size))else none
    |_, _=>none
theorem y8{t:List V}{m:Store}{size:Nat}{x i:Operand}:jJ P (ev Γ t) m (.idxL size x i)=sU size (ev Γ t x) (ev Γ t i):=rfl
theorem oh{size:Nat}{es more:List V}{tok:Tok}{k:IntKind}{i:Nat}{e:V}(h:es[i]? = some e)(hs:e.cells.length=size):sU size (.sl es more tok) (.val (.int k (i:Int)))=some (.elt e.cells):=by
  simp[sU, h, hs]
theorem yG{cs:List V}{o:Nat}:mW cs o none=cs[o]? := rfl
section
variable {T:TypeId} {k:IntKind} {xo yo:Operand} {a b:Int} {x y:ByteArray}
theorem wW:kR P .eql T .other xo yo (.val (.int k a)) (.val (.int k b))=some (.val (.bool (a==b))):=by simp[kR, nY, kZ, raw, eqGuard, binOp, kF, Op.intCmp, lX, pure, bind, Sem.bind]
theorem yw:kR P .neq T .other xo yo (.val (.int k a)) (.val (.int k b))=some (.val (.bool (a != b))):=by simp[kR, nY, kZ, raw, eqGuard, binOp, kF, Op.intCmp, lX, pure, bind, Sem.bind]
theorem Dk:kR P .lss T .other xo yo (.val (.int k a)) (.val (.int k b))=some (.val (.bool (decide (a<b)))):=by simp[kR, nY, kZ, raw, eqGuard, binOp, kF, Op.intCmp, lX, pure, bind, Sem.bind]
theorem Dl:kR P .leq T .other xo yo (.val (.int k a)) (.val (.int k b))=some (.val (.bool (decide (a≤b)))):=by simp[kR, nY, kZ, raw, eqGuard, binOp, kF, Op.intCmp, lX, pure, bind, Sem.bind]
theorem Dn:kR P .gtr T .other xo yo (.val (.int k a)) (.val (.int k b))=some (.val (.bool (decide (a>b)))):=by simp[kR, nY, kZ, raw, eqGuard, binOp, kF, Op.intCmp, lX, pure, bind, Sem.bind]
theorem Dp:kR P .geq T .other xo yo (.val (.int k a)) (.val (.int k b))=some (.val (.bool (decide (a≥b)))):=by simp[kR, nY, kZ, raw, eqGuard, binOp, kF, Op.intCmp, lX, pure, bind, Sem.bind]
theorem Dq:kR P .add T .other xo yo (.val (.int k a)) (.val (.int k b))=some (.val (.int k (k.wrap (a+b)))):=by simp[kR, nY, kZ, raw, eqGuard, binOp, kF, Op.intArith, lX, pure, bind, Sem.bind]
theorem Di:kR P .sub T .other xo yo (.val (.int k a)) (.val (.int k b))=some (.val (.int k (k.wrap (a-b)))):=by simp[kR, nY, kZ, raw, eqGuard, binOp, kF, Op.intArith, lX, pure, bind, Sem.bind]
theorem yx:kR P .mul T .other xo yo (.val (.int k a)) (.val (.int k b))=some (.val (.int k (k.wrap (a*b)))):=by simp[kR, nY, kZ, raw, eqGuard, binOp, kF, Op.intArith, lX, pure, bind, Sem.bind]
theorem Tj:kR P .or T .other xo yo (.val (.int k a)) (.val (.int k b))=some (.val (.int k (k.wrap (BitVec.ofInt k.bits a ||| BitVec.ofInt k.bits b).toNat))):=by simp[kR, nY, kZ, raw, eqGuard, binOp, kF, Op.intBits, lX, pure, bind, Sem.bind]
theorem LH:kR P .and T .other xo yo (.val (.int k a)) (.val (.int k b))=some (.val (.int k (k.wrap (BitVec.ofInt k.bits a &&& BitVec.ofInt k.bits b).toNat))):=by simp[kR, nY, kZ, raw, eqGuard, binOp, kF, Op.intBits, lX, pure, bind, Sem.bind]
theorem Dj(h:b≠0):kR P .quo T .other xo yo (.val (.int k a)) (.val (.int k b))=some (.val (.int k (k.wrap (a.tdiv b)))):=by simp[kR, nY, kZ, raw, eqGuard, binOp, kF, Op.intDiv, lX, pure, bind, Sem.bind, h]
theorem LG(h:b≠0):kR P .rem T .other xo yo (.val (.int k a)) (.val (.int k b))=some (.val (.int k (a.tmod b))):=by simp[kR, nY, kZ, raw, eqGuard, binOp, kF, Op.intDiv, lX, pure, bind, Sem.bind, h]
theorem xC:kR P .eql T .other xo yo (.val (.string x)) (.val (.string y))=some (.val (.bool (x.toList==y.toList))):=by simp[kR, nY, kZ, raw, eqGuard, binOp, kF, Op.stringOp, lX, pure, bind, Sem.bind]
theorem xB:kR P .neq T .other xo yo (.val (.string x)) (.val (.string y))=some (.val (.bool !(x.toList==y.toList))):=by simp[kR, nY, kZ, raw, eqGuard, binOp, kF, Op.stringOp, lX, pure, bind, Sem.bind]
theorem zdg(h:((x.size+y.size:Nat):Int)≤IntKind.i64.max):kR P .add T .other xo yo (.val (.string x)) (.val (.string y))=some (.val (.string (x++y))):=by
  have:¬ (9223372036854775807:Int)<(x.size:Int)+(y.size:Int):=by
    have e:IntKind.i64.max=9223372036854775807:=rfl;omega
  simp[kR, nY, kZ, raw, eqGuard, binOp, kF, Op.stringOp, lX, pure, bind, Sem.bind, this]
end
end
end Go.Av
