/- Going through a code by rewriting: operations that change memory or call, loops, results, strings as lists. No condition. -/
import Derived.Laws.Concat
import Derived.Laws.Strings2
import Derived.Test.YtmglaebjmaomnaaGreatDoorTAvL
open Int renaming toNat_natCast→bn
open Option renaming getD_some→bZ, getD_none→bY
set_option linter.unusedSimpArgs false
set_option linter.unusedVariables false
namespace Go.Av
section
variable {P:Program} {Γ:jG} {Kp:V→Store→Prop} {l:List Item} {K:St→Prop} {t:List V} {m:Store} {d:Option Tmp} {s:List (Tmp×Option (Tmp×Bool)×AOp)}
def oH(P:Program)(Γ:jG)(Kp:V→Store→Prop)(s:List (Tmp×Option (Tmp×Bool)×AOp))(l:List Item)(K:St→Prop):Option St→Prop
 |some st=>(∀ y∈s,mV P Γ y st)∧sG P Γ Kp l K st
 |none=>False
theorem ED{o:Option St}:oH P Γ Kp [] l K o=vk P Γ Kp l K o:=by
 cases o<;>simp[oH,vk]
theorem vX{y:Tmp×Option (Tmp×Bool)×AOp}{st:St}:oH P Γ Kp (y::s) l K (some st)=(mV P Γ y st∧oH P Γ Kp s l K (some st)):=by
 apply propext;simp only[oH,List.mem_cons,forall_eq_or_imp,and_assoc]
theorem vY{e:Tmp}{ao:AOp}:mV P Γ (e,none,ao) ⟨t,m⟩=(jJ P (ev Γ t) m ao=some (jT t e)):=by
 simp only[mV,kP,if_true,nz]
def gE(P:Program)(Γ:jG)(Kp:V→Store→Prop)(v:V)(w:Bool)(ao:AOp)(d:Option Tmp)(s:List (Tmp×Option (Tmp×Bool)×AOp))(l:List Item)(K:St→Prop)(t:List V)(m:Store):Prop:=
 if isBool w v then vk P Γ Kp (⟨d,none,ao,s⟩::l) K (some ⟨t,m⟩)else oH P Γ Kp s l K (qW t m d (some un))
theorem Yo{ao:AOp}:gE P Γ Kp (.val (.bool true)) true ao d s l K t m=vk P Γ Kp (⟨d,none,ao,s⟩::l) K (some ⟨t,m⟩):=(rfl)
theorem Yr{ao:AOp}:gE P Γ Kp (.val (.bool false)) false ao d s l K t m=vk P Γ Kp (⟨d,none,ao,s⟩::l) K (some ⟨t,m⟩):=(rfl)
theorem Yp{ao:AOp}:gE P Γ Kp (.val (.bool true)) false ao d s l K t m=oH P Γ Kp s l K (qW t m d (some un)):=(rfl)
theorem Yq{ao:AOp}:gE P Γ Kp (.val (.bool false)) true ao d s l K t m=oH P Γ Kp s l K (qW t m d (some un)):=(rfl)
theorem Yn{w:Bool}{ao:AOp}:gE P Γ Kp (.val undef) w ao d s l K t m=oH P Γ Kp s l K (qW t m d (some un)):=(rfl)
def SH(ao:AOp):Bool:=!lL ao
theorem Lc{ao:AOp}{j:Nat}{w:Bool}(hq:SH ao=true):vk P Γ Kp (⟨d,some (j,w),ao,s⟩::l) K (some ⟨t,m⟩)=gE P Γ Kp (jT t j) w ao d s l K t m:=by
 show kX P Γ Kp ⟨d,some (j,w),ao,s⟩ (fun st=>(∀ y∈s,mV P Γ y st)∧sG P Γ Kp l K st) ⟨t,m⟩=_;unfold gE kX kP;simp only[nz]
 split
 ·rfl
 ·rfl
theorem JH{f:Operand}{a:List Operand}:SH (.call f a)=true:=(rfl)
theorem Ff{n:Nat}{a x:Operand}:SH (.store n a x)=true:=(rfl)
theorem Fg{T:TypeId}{c:List V}:SH (.alloc T c)=true:=(rfl)
theorem QB{T:TypeId}{x:Operand}:SH (.box T x)=true:=(rfl)
theorem QC{e:TypeId}{a b:Nat}{x y:Operand}:SH (.app e a b x y)=true:=(rfl)
theorem QA{e:TypeId}{x:Operand}:SH (.s2b e x)=true:=(rfl)
theorem zc0{x:Operand}:SH (.mark x)=true:=(rfl)
def OA(P:Program)(Γ:jG)(Kp:V→Store→Prop)(f:V)(args:List V)(d:Option Tmp)(s:List (Tmp×Option (Tmp×Bool)×AOp))(l:List Item)(K:St→Prop)(t:List V)(m:Store):Prop:=match f with
 | .fn (.func g) first caps=>jB P Γ g (first++args++caps) m fun o m'=>match o with
   | .ret v=>oH P Γ Kp s l K (qW t m' d (some v))
   | .pan v=>Kp v m'
 | .fn (.yield y) [] []=>oG P Γ y args m fun o m'=>match o with
   | .ret v=>oH P Γ Kp s l K (qW t m' d (some v))
   | .pan v=>Kp v m'
 |_=>False
theorem KC{y:Nat}{args:List V}{R:Out→Store→Prop}(h:oG P Γ y args m R)(hr:∀ v m',R (.ret v) m'→oH P Γ Kp s l K (qW t m' d (some v)))(hp:∀ v m',R (.pan v) m' → Kp v m') :
  OA P Γ Kp (.fn (.yield y) [] []) args d s l K t m:=by
 refine oG.mono (R:=R) h fun o m' ho => ?_
 cases o with
 |ret v=>exact hr v m' ho
 |pan v=>exact hp v m' ho
theorem EJ{f:Operand}{a:List Operand}:vk P Γ Kp (⟨d,none,.call f a,s⟩::l) K (some ⟨t,m⟩)=OA P Γ Kp (ev Γ t f) (a.map (ev Γ t)) d s l K t m:=by
 show (match ev Γ t f with
  | .fn (.func g) first caps=>_
  | .fn (.yield y) [] []=>_
  |_=>False)=_
 unfold OA
 split<;>rfl
theorem pJ{g:FuncId}{first args caps:List V}{R:Out→Store→Prop}(h:jB P Γ g (first++args++caps) m R)(hr:∀ v m',R (.ret v) m'→oH P Γ Kp s l K (qW t m' d (some v)))(hp:∀ v m',R (.pan v) m' → Kp v m') :
  OA P Γ Kp (.fn (.func g) first caps) args d s l K t m:=by
 refine h.mono fun o m' ho => ?_
 cases o with
 |ret v=>exact hr v m' ho
 |pan v=>exact hp v m' ho
theorem jK{g:FuncId}{first args caps:List V}{v:V}(h:jB P Γ g (first++args++caps) m fun o m'=>o = .ret v∧m'=m)(hr:oH P Γ Kp s l K (qW t m d (some v))) :
  OA P Γ Kp (.fn (.func g) first caps) args d s l K t m:=
 pJ h (by rintro v' m' ⟨h1,rfl⟩;cases h1;exact hr) (by rintro v' m' ⟨h1,_⟩;cases h1)
theorem lm{g:FuncId}{first args caps:List V}{v:V}{m':Store}(h:jB P Γ g (first++args++caps) m fun o m2=>o = .ret v∧m2=m')(hr:oH P Γ Kp s l K (qW t m' d (some v))) :
  OA P Γ Kp (.fn (.func g) first caps) args d s l K t m:=
 pJ h (by rintro v' m' ⟨h1,rfl⟩;cases h1;exact hr) (by rintro v' m' ⟨h1,_⟩;cases h1)
def DK(size o:Nat)(x:List V)(b:Nat)(d:Option Tmp)(t:List V)(m:Store):Option Blk→Option St
 |some (.var T cs)=>if x.length=size∧o+size≤cs.length∧(x.all oW)=true then qW t (m.set b (.var T (Ag cs o x))) d (some un)else none
 |_=>none
def QX(size:Nat)(a:V)(x:List V)(d:Option Tmp)(t:List V)(m:Store):Option St:=match a with
 | .ptr b o=>DK size o x b d t m (m b)
 |_=>none
theorem Ci{n:Nat}{a x:Operand}:vk P Γ Kp (⟨d,none,.store n a x,s⟩::l) K (some ⟨t,m⟩)=oH P Γ Kp s l K (QX n (ev Γ t a) (ev Γ t x).cells d t m):=by
 apply propext
 show (match ev Γ t a with
  | .ptr b o=>match m b with
   |some (.var T cs)=>(ev Γ t x).cells.length=n∧o+n≤cs.length∧(∀ c∈(ev Γ t x).cells,oW c=true)∧_
   |_=>False
  |_=>False)↔_
 cases ev Γ t a with
 |ptr b o=>
  simp only[QX]
  cases hb:m b with
  |none=>simp[DK,oH]
  |some blk=>
   cases blk with
   |tip T v=>simp[DK,oH]
   |loop r f t ps x y D=>simp[DK,oH]
   |defer=>simp[DK,oH]
   |var T cs=>
    simp only[DK]
    split
    ·rename_i h;constructor
     ·rintro⟨_,_,_,h4⟩;exact h4
     ·intro h4;exact⟨h.1,h.2.1,by simpa using h.2.2,h4⟩
    ·rename_i h;constructor
     ·rintro⟨h1,h2,h3,_⟩;exact absurd ⟨h1,h2,by simpa using h3⟩ h
     ·intro h4;exact h4.elim
 |_=>simp[QX,oH]
theorem Cc{n b o:Nat}{x:List V}:QX n (.ptr b o) x d t m=DK n o x b d t m (m b):=rfl
theorem Ce{n b o:Nat}{T:TypeId}{x cs:List V}:DK n o x b d t m (some (.var T cs))=if x.length=n∧o+n≤cs.length∧(x.all oW)=true then qW t (m.set b (.var T (Ag cs o x))) d (some un)else none:=rfl
theorem Aw{cs:List V}{o:Nat}:Ag cs o []=cs:=rfl
theorem yE{cs r:List V}{x:V}{o:Nat}:Ag cs o (x::r)=Ag (xQ cs o x) (o+1) r:=by
 simp only[Ag,zM]
theorem AU{b o:Nat}:oW (.ptr b o)=true:=rfl
theorem AX{cs:List V}:oW (.elt cs)=true:=rfl
theorem vw{a b:List V}{k:Tok}:oW (.sl a b k)=true:=rfl
theorem EQ{f:Fn}{a b:List V}:oW (.fn f a b)=true:=rfl
theorem AV{T:TypeId}{v:V}:oW (.ifc T v)=true:=rfl
theorem zf{v:Value}:(V.val v).cells=[.val v]:=rfl
theorem zg{b o:Nat}:(V.ptr b o).cells=[.ptr b o]:=rfl
theorem zi{cs:List V}:(V.elt cs).cells=[.elt cs]:=rfl
theorem rY{a b:List V}{k:Tok}:(V.sl a b k).cells=[.sl a b k]:=rfl
theorem BL{f:Fn}{a b:List V}:(V.fn f a b).cells=[.fn f a b]:=rfl
theorem zh{T:TypeId}{v:V}:(V.ifc T v).cells=[.ifc T v]:=rfl
theorem jA{cs:List V}:(V.agg cs).cells=cs:=rfl
def zcc(o:Nat)(sz:Option Nat):Option Blk→Option V
 |some (.var _ cs)=>mW cs o sz
 |_=>none
theorem xm{b o:Nat}{sz:Option Nat}:Ea m sz (.ptr b o)=zcc o sz (m b):=by
 simp only[Ea,zcc]
 split<;>simp_all
theorem yN{o:Nat}{sz:Option Nat}{T:TypeId}{cs:List V}:zcc o sz (some (.var T cs))=mW cs o sz:=rfl
def Xc(P:Program)(Γ:jG)(Kp:V→Store→Prop)(T:TypeId)(cells:List V)(d:Option Tmp)(s:List (Tmp×Option (Tmp×Bool)×AOp))(l:List Item)(K:St→Prop)(t:List V)(m:Store):Prop:=
 ∀ b,m b=none→oH P Γ Kp s l K (qW t (m.set b (.var T cells)) d (some (.ptr b 0)))
theorem Cj{T:TypeId}{c:List V}:vk P Γ Kp (⟨d,none,.alloc T c,s⟩::l) K (some ⟨t,m⟩)=Xc P Γ Kp T c d s l K t m:=(rfl)
theorem Ht{T:TypeId}{x:Operand}:vk P Γ Kp (⟨d,none,.box T x,s⟩::l) K (some ⟨t,m⟩)=Xc P Γ Kp T (ev Γ t x).cells d s l K t m:=(rfl)
theorem kz{T:TypeId}{cells:List V}(h:∀ b,m b=none→oH P Γ Kp s l K (qW t (m.set b (.var T cells)) d (some (.ptr b 0)))):Xc P Γ Kp T cells d s l K t m:=h
def zkz(P:Program)(Γ:jG)(Kp:V→Store→Prop)(e:TypeId)(x:V)(d:Option Tmp)(s:List (Tmp×Option (Tmp×Bool)×AOp))(l:List Item)(K:St→Prop)(t:List V)(m:Store):Prop:=match x with
 | .val (.string z)=>∀ b,m b=none→oH P Γ Kp s l K (qW t (m.set b (.tip e 0)) d (some (.sl (bytesV z) [] (.tip b 0))))
 |_=>False
theorem Hq{e:TypeId}{x:Operand}:vk P Γ Kp (⟨d,none,.s2b e x,s⟩::l) K (some ⟨t,m⟩)=zkz P Γ Kp e (ev Γ t x) d s l K t m:=by
 show (match ev Γ t x with
  | .val (.string s)=>_
  |_=>False)=_
 unfold zkz
 split<;>rfl
def Tn(P:Program)(Γ:jG)(Kp:V→Store→Prop)(e:TypeId)(bytes size:Nat)(z x:V)(d:Option Tmp)(s:List (Tmp×Option (Tmp×Bool)×AOp))(l:List Item)(K:St→Prop)(t:List V)(m:Store):Prop:=
 opE P Γ (fun o=>match o with | .tmp 0=>z|_=>x) m (fun v m'=>oH P Γ Kp s l K (qW t m' d (some v))) Kp (.app e bytes size (.tmp 0) (.tmp 1))
theorem Hu{e:TypeId}{bytes size:Nat}{z x:Operand}:vk P Γ Kp (⟨d,none,.app e bytes size z x,s⟩::l) K (some ⟨t,m⟩)=Tn P Γ Kp e bytes size (ev Γ t z) (ev Γ t x) d s l K t m:=(rfl)
theorem Fv{e:TypeId}{bytes size:Nat}{es ys more:List V}{tok:Tok}(hne:ys≠[])(h1:oq size es=true)(h2:vM size ys)(h3:(es.length+ys.length)*bytes≤140737488355328)
  (h:∀ b,m b=none→oH P Γ Kp s l K (qW t (m.set b (.tip e 0)) d (some (.sl (es++ys) [] (.tip b 0))))):Tn P Γ Kp e bytes size (.sl es [] .full) (.sl ys more tok) d s l K t m:=
 ⟨fun h0=>absurd h0 hne,fun _=>⟨h1,h2,.inl h3,rfl,h⟩⟩
theorem OL{e:TypeId}{bytes size b v:Nat}{es ys more:List V}{tok:Tok}(hne:ys≠[])(h0:es≠[])(hb:m b=some (.tip e v))(h1:oq size es=true)(h2:vM size ys)(h3:(es.length+ys.length)*bytes≤140737488355328)
  (h:oH P Γ Kp s l K (qW t (m.set b (.tip e (v+1))) d (some (.sl (es++ys) [] (.tip b (v+1)))))):Tn P Γ Kp e bytes size (.sl es [] (.tip b v)) (.sl ys more tok) d s l K t m:=
 ⟨fun h0=>absurd h0 hne,fun _=>⟨h1,h2,.inl h3,rfl,h0,hb,h⟩⟩
theorem nX{c:lF}{Q:Ex→St→Prop}{st:St}(I:Nat→St→Prop)(n:Nat)(h0:I n st)(h:∀ n s,I n s→awp P Γ Kp c (wY (fun s' => ∃ n',n'<n∧I n' s') Q) s):awp P Γ Kp (.loop c) Q st:=⟨I,n,h0,h⟩
theorem jF{rs:List oZ}{R:Out→Store→Prop}{v:V}(hv:resV rs ⟨t,m⟩=some v)(h:R (.ret v) m):vT rs R .ret ⟨t,m⟩:=⟨v,hv,m,fun _ _ h=>h,h⟩
theorem Tf{rs:List oZ}{R:Out→Store→Prop}{v:V}(hv:resV rs ⟨t,m⟩=some v)(h:R (.ret v) m):vT rs R .normal ⟨t,m⟩:=⟨v,hv,m,fun _ _ h=>h,h⟩
theorem mD{rs:List oZ}{R:Out→Store→Prop}{v:V}{m':Store}(hv:resV rs ⟨t,m⟩=some v)(hs:∀ b x,m' b=some x→m b=some x)(h:R (.ret v) m'):vT rs R .ret ⟨t,m⟩:=⟨v,hv,m',hs,h⟩
theorem jD{k:Nat}{st:St}:resV [.tmp k] st=some (jT st.t k):=by simp only[resV,qJ,nz]
theorem KZ{m m':Store}{b:Nat}{x:Blk}(hb:m' b=none)(h:∀ c y,m' c=some y→m c=some y):∀ c y,m' c=some y→(m.set b x) c=some y:=by
 intro c y hc
 have:c≠b:=by
  rintro rfl;rw[hb]at hc;cases hc
 rw[Store.jw _ _ this];exact h c y hc
end
def bs(l:List UInt8):V:=.val (.string ⟨l.toArray⟩)
abbrev it(n:Int):V:=.val (.int .i64 n)
abbrev by8(b:UInt8):V:=.val (.int .u8 b.toNat)
theorem wC{l:List UInt8}:pG (.string ⟨l.toArray⟩)=bs l:=rfl
theorem oV{l:List UInt8}:lenV true (bs l)=some (.val (.int .i64 l.length)):=rfl
theorem BM{l:List UInt8}:(bs l).cells=[bs l]:=rfl
theorem ES{l:List UInt8}:oW (bs l)=true:=rfl
theorem ru(l:List UInt8):(ByteArray.mk l.toArray).toList=l:=ByteArray.toList_mk l
section
variable {P:Program} {T:TypeId} {xo yo:Operand} {x y:List UInt8}
theorem zI:kR P .eql T .other xo yo (bs x) (bs y)=some (.val (.bool (x==y))):=by
 unfold bs;rw[xC,ru,ru]
theorem xE:kR P .neq T .other xo yo (bs x) (bs y)=some (.val (.bool !(x==y))):=by
 unfold bs;rw[xB,ru,ru]
theorem Vs(h:x.length+y.length≤9223372036854775807):kR P .add T .other xo yo (bs x) (bs y)=some (bs (x++y)):=by
 unfold bs;rw[zdg]
 ·rw[ByteArray.mk_append_mk x y]
 ·have e:IntKind.i64.max=9223372036854775807:=rfl;have e1:(ByteArray.mk x.toArray).size=x.length:=by simp[ByteArray.size]
  have e2:(ByteArray.mk y.toArray).size=y.length:=by simp[ByteArray.size]
  omega
theorem nG{k:IntKind}{i:Nat}{b:UInt8}(h:x[i]? = some b):zV (bs x) (.val (.int k (i:Int)))=some (.val (.int .u8 b.toNat)):=by
 obtain⟨hi,hb⟩:=List.getElem?_eq_some_iff.1 h;have hi':i<(ByteArray.mk x.toArray).size:=by simpa [ByteArray.size] using hi
 unfold bs;rw[UG hi'];congr 4;simp[ByteArray.getElem_eq_getElem_data,hb]
end
def nM:V→Option (Option Int)→Option (Option Int)→Option V
 | .val (.string s),some lo,some hi=>match bounds s.size s.size lo hi none with
   |some (a,b,_)=>some (.val (.string (s.extract a b)))
   |none=>none
 |_,_,_=>none
theorem qG{P:Program}{Γ:jG}{t:List V}{m:Store}{x:Operand}{lo hi:Option Operand}:jJ P (ev Γ t) m (.sliceS x lo hi)=nM (ev Γ t x) (lN (ev Γ t) lo) (lN (ev Γ t) hi):=by
 simp only[jJ,nM];generalize ev Γ t x=a,lN (ev Γ t) lo=b,lN (ev Γ t) hi=c
 split
 ·rfl
 ·rename_i h
  split
  ·exact(h _ _ _ rfl rfl rfl).elim
  ·rfl
theorem wz{ρ:Operand→V}:lN ρ none=some none:=rfl
def zbJ:V→Option (Option Int)
 | .val (.int _ n)=>some (some n)
 |_=>none
theorem uq{ρ:Operand→V}{x:Operand}:lN ρ (some x)=zbJ (ρ x):=by
 simp only[lN,zbJ]
 split<;>simp_all
theorem AP{k:IntKind}{n:Int}:zbJ (.val (.int k n))=some (some n):=rfl
theorem Au{x:List UInt8}{a b:Nat}(h1:a≤b)(h2:b≤x.length):nM (bs x) (some (some (a:Int))) (some (some (b:Int)))=some (bs ((x.take b).drop a)):=by
 have e:(ByteArray.mk x.toArray).size=x.length:=by simp[ByteArray.size]
 simp only[nM,bs,bounds,e,bZ,bY];rw[if_pos (by simp;omega)];simp only[bn,ByteArray.extract_mk,List.drop_take]
theorem vZ{x:List UInt8}{a:Nat}(h:a≤x.length):nM (bs x) (some (some (a:Int))) (some none)=some (bs (x.drop a)):=by
 have e:(ByteArray.mk x.toArray).size=x.length:=by simp[ByteArray.size]
 simp only[nM,bs,bounds,e,bZ,bY];rw[if_pos (by simp;omega)];simp only[bn,ByteArray.extract_mk];rw[List.take_of_length_le (by simp)]
theorem FZ{x:List UInt8}{b:Nat}(h:b≤x.length):nM (bs x) (some none) (some (some (b:Int)))=some (bs (x.take b)):=by
 have e:(ByteArray.mk x.toArray).size=x.length:=by simp[ByteArray.size]
 simp only[nM,bs,bounds,e,bZ,bY];rw[if_pos (by simp;omega)];simp[ByteArray.extract_mk]
theorem wrap_i64{n:Int}(h1 : -9223372036854775808≤n)(h2:n<9223372036854775808):IntKind.wrap .i64 n=n:=by
 unfold IntKind.wrap;simp only[IntKind.bits,IntKind.signed,Bool.true_and]
 split<;>rename_i h<;>simp at h<;>omega
theorem yU{cells:List V}:ng cells []=some cells:=rfl
theorem wH{cells:List V}{off:Nat}{v:V}{r:List (Nat×Nat×V)}(h:v.cells=[v]):ng cells ((off,1,v)::r)=if off+1≤cells.length then ng (xQ cells off v) r else none:=by
 simp only[ng,h,List.length_singleton,true_and,List.zipIdx_singleton,List.foldl_cons,List.foldl_nil,Nat.add_zero,zM]
theorem yR{cells:List V}{off:Nat}{r:List (Nat×Nat×V)}{u:Value}:ng cells ((off,1,.val u)::r)=if off+1≤cells.length then ng (xQ cells off (.val u)) r else none:=wH rfl
theorem Bq{cells:List V}{off:Nat}{r:List (Nat×Nat×V)}{u:List UInt8}:ng cells ((off,1,bs u)::r)=if off+1≤cells.length then ng (xQ cells off (bs u)) r else none:=wH rfl
theorem Bj{cells:List V}{off:Nat}{r:List (Nat×Nat×V)}{a b:List V}{k:Tok}:ng cells ((off,1,.sl a b k)::r)=if off+1≤cells.length then ng (xQ cells off (.sl a b k)) r else none:=wH rfl
theorem yS{cells:List V}{off:Nat}{r:List (Nat×Nat×V)}{a b:Nat}:ng cells ((off,1,.ptr a b)::r)=if off+1≤cells.length then ng (xQ cells off (.ptr a b)) r else none:=wH rfl
theorem yX{cells:List V}{off:Nat}{r:List (Nat×Nat×V)}{a:List V}:ng cells ((off,1,.elt a)::r)=if off+1≤cells.length then ng (xQ cells off (.elt a)) r else none:=wH rfl
theorem Bl{cells:List V}{off:Nat}{r:List (Nat×Nat×V)}{f:Fn}{a b:List V}:ng cells ((off,1,.fn f a b)::r)=if off+1≤cells.length then ng (xQ cells off (.fn f a b)) r else none:=wH rfl
theorem yV{cells:List V}{off:Nat}{r:List (Nat×Nat×V)}{T:TypeId}{v:V}:ng cells ((off,1,.ifc T v)::r)=if off+1≤cells.length then ng (xQ cells off (.ifc T v)) r else none:=wH rfl
theorem EU{cs:List V}:(some cs).map V.agg=some (.agg cs):=rfl
theorem ww{cs:List V}{o n:Nat}:mW cs o (some n)=if o+n≤cs.length then some (.agg ((cs.drop o).take n))else none:=rfl
theorem xg{k:IntKind}{n:Int}:oW (.val (.int k n))=true:=rfl
theorem AQ{s:ByteArray}:oW (.val (.string s))=true:=rfl
theorem yJ{b:Bool}:oW (.val (.bool b))=true:=rfl
theorem yH:oW (.val (.pointer none))=true:=rfl
theorem yI:oW (.val .nilIface)=true:=rfl
theorem wo{k b o:Nat}{T:TypeId}{sz:Option Nat}{cs:List V}{t:List V}{m:Store}(h1:jT t k = .ptr b o)(h2:m b=some (.var T cs)):resV [.cell k sz] ⟨t,m⟩=mW cs o sz:=by
 simp only[resV,qJ,nz,h1,h2]
def upTo(f:Nat→V):Nat→Nat→List V
 |0,_=>[]
 |n+1,k=>f k::upTo f n (k+1)
theorem kT{f:Nat→V}{k:Nat}:upTo f 0 k=[]:=rfl
theorem jV{f:Nat→V}{n k:Nat}:upTo f (n+1) k=f k::upTo f n (k+1):=rfl
theorem Pj{a:V}{t:List V}:∀ (n k:Nat),upTo (jT (a::t)) n (k+1)=upTo (jT t) n k
 |0,_=>rfl
 |n+1,k=>by simp only[upTo,jI,Pj n (k+1)]
theorem mJ:∀ {n:Nat} {t:List V},t.length=n→t=upTo (jT t) n 0
 |0,[],_=>rfl
 |n+1,a::t,h=>by
  simp only[upTo,jH];rw[Pj n 0,←mJ (by simpa using h)]
theorem JG{Γ:jG}{t:List V}{g:Nat}{cs:List V}(h:Γ g=some cs):ev Γ t (.global g) = .elt cs:=by simp only[ev,h]
def J7(n size:Nat):V→V→Option V
 | .ptr b o,.val (.int _ k)=>if 0≤k∧k<n then some (.ptr b (o+k.toNat*size))else none
 | .elt cs,.val (.int _ k)=>if 0≤k∧k<n then some (.elt (cs.drop (k.toNat*size)))else none
 |_,_=>none
theorem rq{P:Program}{Γ:jG}{t:List V}{m:Store}{n size:Nat}{x i:Operand}:jJ P (ev Γ t) m (.idxA n size x i)=J7 n size (ev Γ t x) (ev Γ t i):=by
 simp only[jJ,J7];generalize ev Γ t x=a,ev Γ t i=b
 cases a<;>cases b<;>first|rfl|(rename_i u;cases u<;>rfl)
theorem N8{n size i:Nat}{k:IntKind}{cs:List V}(h:i<n):J7 n size (.elt cs) (.val (.int k (i:Int)))=some (.elt (cs.drop (i*size))):=by
 simp only[J7];rw[if_pos (by omega)];rfl
theorem NM{m:Store}{cs:List V}{i:Nat}:Ea m none (.elt (cs.drop (i*1)))=cs[i]? := by
 simp[Ea,mW]
theorem NQ{size:Nat}{es:List V}:pI size es []=some es:=rfl
theorem Gs{size i:Nat}{es:List V}{v:V}{r:List (Nat×V)}(h1:v.cells.length=size)(h2:i<es.length):pI size es ((i,v)::r)=pI size (xQ es i v) r:=by
 simp only[pI,h1,h2,zM];simp
end Go.Av
