/- Going through a code by rewriting: operations that change memory or call, loops, results, strings as lists. No condition. -/
import Derived.Laws.Concat
import Derived.Laws.Strings2
import Derived.Test.YtmglaebjmaomnaaGreatDoorTAvL
open Int renaming toNat_natCast→bJ
open Option renaming getD_some→bT, getD_none→bQ
set_option linter.unusedSimpArgs false
set_option linter.unusedVariables false
namespace Go.Av
section
variable {P:Program} {Γ:jI} {Kp:V→Store→Prop} {l:List Item} {K:St→Prop} {t:List V} {m:Store} {d:Option Tmp} {s:List (Tmp×Option (Tmp×Bool)×AOp)}
def oD(P:Program)(Γ:jI)(Kp:V→Store→Prop)(s:List (Tmp×Option (Tmp×Bool)×AOp))(l:List Item)(K:St→Prop):Option St→Prop
 |some st=>(∀ y∈s,mQ P Γ y st)∧su P Γ Kp l K st
 |none=>False
theorem Eh{o:Option St}:oD P Γ Kp [] l K o=vg P Γ Kp l K o:=by
 cases o<;>simp[oD,vg]
theorem vX{y:Tmp×Option (Tmp×Bool)×AOp}{st:St}:oD P Γ Kp (y::s) l K (some st)=(mQ P Γ y st∧oD P Γ Kp s l K (some st)):=by
 apply propext;simp only[oD,List.mem_cons,forall_eq_or_imp,and_assoc]
theorem vY{e:Tmp}{ao:AOp}:mQ P Γ (e,none,ao) ⟨t,m⟩=(jJ P (ev Γ t) m ao=some (jS t e)):=by
 simp only[mQ,kP,if_true,mZ]
def gE(P:Program)(Γ:jI)(Kp:V→Store→Prop)(v:V)(w:Bool)(ao:AOp)(d:Option Tmp)(s:List (Tmp×Option (Tmp×Bool)×AOp))(l:List Item)(K:St→Prop)(t:List V)(m:Store):Prop:=
 if isBool w v then vg P Γ Kp (⟨d,none,ao,s⟩::l) K (some ⟨t,m⟩)else oD P Γ Kp s l K (qU t m d (some un))
theorem YL{ao:AOp}:gE P Γ Kp (.val (.bool true)) true ao d s l K t m=vg P Γ Kp (⟨d,none,ao,s⟩::l) K (some ⟨t,m⟩):=(rfl)
theorem YO{ao:AOp}:gE P Γ Kp (.val (.bool false)) false ao d s l K t m=vg P Γ Kp (⟨d,none,ao,s⟩::l) K (some ⟨t,m⟩):=(rfl)
theorem YM{ao:AOp}:gE P Γ Kp (.val (.bool true)) false ao d s l K t m=oD P Γ Kp s l K (qU t m d (some un)):=(rfl)
theorem YN{ao:AOp}:gE P Γ Kp (.val (.bool false)) true ao d s l K t m=oD P Γ Kp s l K (qU t m d (some un)):=(rfl)
theorem YK{w:Bool}{ao:AOp}:gE P Γ Kp (.val undef) w ao d s l K t m=oD P Γ Kp s l K (qU t m d (some un)):=(rfl)
def SY(ao:AOp):Bool:=!lQ ao
theorem Lr{ao:AOp}{j:Nat}{w:Bool}(hq:SY ao=true):vg P Γ Kp (⟨d,some (j,w),ao,s⟩::l) K (some ⟨t,m⟩)=gE P Γ Kp (jS t j) w ao d s l K t m:=by
 show lh P Γ Kp ⟨d,some (j,w),ao,s⟩ (fun st=>(∀ y∈s,mQ P Γ y st)∧su P Γ Kp l K st) ⟨t,m⟩=_;unfold gE lh kP;simp only[mZ]
 split
 ·rfl
 ·rfl
theorem JK{f:Operand}{a:List Operand}:SY (.call f a)=true:=(rfl)
theorem EP{n:Nat}{a x:Operand}:SY (.store n a x)=true:=(rfl)
theorem EQ{T:TypeId}{c:List V}:SY (.alloc T c)=true:=(rfl)
theorem QK{T:TypeId}{x:Operand}:SY (.box T x)=true:=(rfl)
theorem QL{e:TypeId}{a b:Nat}{x y:Operand}:SY (.app e a b x y)=true:=(rfl)
theorem QJ{e:TypeId}{x:Operand}:SY (.s2b e x)=true:=(rfl)
theorem zdb{x:Operand}:SY (.mark x)=true:=(rfl)
def OL(P:Program)(Γ:jI)(Kp:V→Store→Prop)(f:V)(args:List V)(d:Option Tmp)(s:List (Tmp×Option (Tmp×Bool)×AOp))(l:List Item)(K:St→Prop)(t:List V)(m:Store):Prop:=match f with
 | .fn (.func g) first caps=>jB P Γ g (first++args++caps) m fun o m'=>match o with
   | .ret v=>oD P Γ Kp s l K (qU t m' d (some v))
   | .pan v=>Kp v m'
 | .fn (.yield y) [] []=>oC P Γ y args m fun o m'=>match o with
   | .ret v=>oD P Γ Kp s l K (qU t m' d (some v))
   | .pan v=>Kp v m'
 |_=>False
theorem KO{y:Nat}{args:List V}{R:Out→Store→Prop}(h:oC P Γ y args m R)(hr:∀ v m',R (.ret v) m'→oD P Γ Kp s l K (qU t m' d (some v)))(hp:∀ v m',R (.pan v) m' → Kp v m') :
  OL P Γ Kp (.fn (.yield y) [] []) args d s l K t m:=by
 refine oC.mono (R:=R) h fun o m' ho => ?_
 cases o with
 |ret v=>exact hr v m' ho
 |pan v=>exact hp v m' ho
theorem Ep{f:Operand}{a:List Operand}:vg P Γ Kp (⟨d,none,.call f a,s⟩::l) K (some ⟨t,m⟩)=OL P Γ Kp (ev Γ t f) (a.map (ev Γ t)) d s l K t m:=by
 show (match ev Γ t f with
  | .fn (.func g) first caps=>_
  | .fn (.yield y) [] []=>_
  |_=>False)=_
 unfold OL
 split<;>rfl
theorem pF{g:FuncId}{first args caps:List V}{R:Out→Store→Prop}(h:jB P Γ g (first++args++caps) m R)(hr:∀ v m',R (.ret v) m'→oD P Γ Kp s l K (qU t m' d (some v)))(hp:∀ v m',R (.pan v) m' → Kp v m') :
  OL P Γ Kp (.fn (.func g) first caps) args d s l K t m:=by
 refine h.mono fun o m' ho => ?_
 cases o with
 |ret v=>exact hr v m' ho
 |pan v=>exact hp v m' ho
theorem jK{g:FuncId}{first args caps:List V}{v:V}(h:jB P Γ g (first++args++caps) m fun o m'=>o = .ret v∧m'=m)(hr:oD P Γ Kp s l K (qU t m d (some v))) :
  OL P Γ Kp (.fn (.func g) first caps) args d s l K t m:=
 pF h (by rintro v' m' ⟨h1,rfl⟩;cases h1;exact hr) (by rintro v' m' ⟨h1,_⟩;cases h1)
theorem lD{g:FuncId}{first args caps:List V}{v:V}{m':Store}(h:jB P Γ g (first++args++caps) m fun o m2=>o = .ret v∧m2=m')(hr:oD P Γ Kp s l K (qU t m' d (some v))) :
  OL P Γ Kp (.fn (.func g) first caps) args d s l K t m:=
 pF h (by rintro v' m' ⟨h1,rfl⟩;cases h1;exact hr) (by rintro v' m' ⟨h1,_⟩;cases h1)
def Dw(size o:Nat)(x:List V)(b:Nat)(d:Option Tmp)(t:List V)(m:Store):Option Blk→Option St
 |some (.var T cs)=>if x.length=size∧o+size≤cs.length∧(x.all oP)=true then qU t (m.set b (.var T (zT cs o x))) d (some un)else none
 |_=>none
def Q5(size:Nat)(a:V)(x:List V)(d:Option Tmp)(t:List V)(m:Store):Option St:=match a with
 | .ptr b o=>Dw size o x b d t m (m b)
 |_=>none
theorem BX{n:Nat}{a x:Operand}:vg P Γ Kp (⟨d,none,.store n a x,s⟩::l) K (some ⟨t,m⟩)=oD P Γ Kp s l K (Q5 n (ev Γ t a) (ev Γ t x).cells d t m):=by
 apply propext
 show (match ev Γ t a with
  | .ptr b o=>match m b with
   |some (.var T cs)=>(ev Γ t x).cells.length=n∧o+n≤cs.length∧(∀ c∈(ev Γ t x).cells,oP c=true)∧_
   |_=>False
  |_=>False)↔_
 cases ev Γ t a with
 |ptr b o=>
  simp only[Q5]
  cases hb:m b with
  |none=>simp[Dw,oD]
  |some blk=>
   cases blk with
   |tip T v=>simp[Dw,oD]
   |loop r f t ps x y D=>simp[Dw,oD]
   |defer=>simp[Dw,oD]
   |var T cs=>
    simp only[Dw]
    split
    ·rename_i h;constructor
     ·rintro⟨_,_,_,h4⟩;exact h4
     ·intro h4;exact⟨h.1,h.2.1,by simpa using h.2.2,h4⟩
    ·rename_i h;constructor
     ·rintro⟨h1,h2,h3,_⟩;exact absurd ⟨h1,h2,by simpa using h3⟩ h
     ·intro h4;exact h4.elim
 |_=>simp[Q5,oD]
theorem BQ{n b o:Nat}{x:List V}:Q5 n (.ptr b o) x d t m=Dw n o x b d t m (m b):=rfl
theorem BU{n b o:Nat}{T:TypeId}{x cs:List V}:Dw n o x b d t m (some (.var T cs))=if x.length=n∧o+n≤cs.length∧(x.all oP)=true then qU t (m.set b (.var T (zT cs o x))) d (some un)else none:=rfl
theorem Ag{cs:List V}{o:Nat}:zT cs o []=cs:=rfl
theorem yA{cs r:List V}{x:V}{o:Nat}:zT cs o (x::r)=zT (xP cs o x) (o+1) r:=by
 simp only[zT,zA]
theorem Az{b o:Nat}:oP (.ptr b o)=true:=rfl
theorem AB{cs:List V}:oP (.elt cs)=true:=rfl
theorem wV{a b:List V}{k:Tok}:oP (.sl a b k)=true:=rfl
theorem ED{f:Fn}{a b:List V}:oP (.fn f a b)=true:=rfl
theorem AA{T:TypeId}{v:V}:oP (.ifc T v)=true:=rfl
theorem yU{v:Value}:(V.val v).cells=[.val v]:=rfl
theorem yV{b o:Nat}:(V.ptr b o).cells=[.ptr b o]:=rfl
theorem yY{cs:List V}:(V.elt cs).cells=[.elt cs]:=rfl
theorem tN{a b:List V}{k:Tok}:(V.sl a b k).cells=[.sl a b k]:=rfl
theorem BD{f:Fn}{a b:List V}:(V.fn f a b).cells=[.fn f a b]:=rfl
theorem yX{T:TypeId}{v:V}:(V.ifc T v).cells=[.ifc T v]:=rfl
theorem jA{cs:List V}:(V.agg cs).cells=cs:=rfl
def zcm(o:Nat)(sz:Option Nat):Option Blk→Option V
 |some (.var _ cs)=>mV cs o sz
 |_=>none
theorem xq{b o:Nat}{sz:Option Nat}:DV m sz (.ptr b o)=zcm o sz (m b):=by
 simp only[DV,zcm]
 split<;>simp_all
theorem yJ{o:Nat}{sz:Option Nat}{T:TypeId}{cs:List V}:zcm o sz (some (.var T cs))=mV cs o sz:=rfl
def Xv(P:Program)(Γ:jI)(Kp:V→Store→Prop)(T:TypeId)(cells:List V)(d:Option Tmp)(s:List (Tmp×Option (Tmp×Bool)×AOp))(l:List Item)(K:St→Prop)(t:List V)(m:Store):Prop:=
 ∀ b,m b=none→oD P Γ Kp s l K (qU t (m.set b (.var T cells)) d (some (.ptr b 0)))
theorem BZ{T:TypeId}{c:List V}:vg P Γ Kp (⟨d,none,.alloc T c,s⟩::l) K (some ⟨t,m⟩)=Xv P Γ Kp T c d s l K t m:=(rfl)
theorem G5{T:TypeId}{x:Operand}:vg P Γ Kp (⟨d,none,.box T x,s⟩::l) K (some ⟨t,m⟩)=Xv P Γ Kp T (ev Γ t x).cells d s l K t m:=(rfl)
theorem kw{T:TypeId}{cells:List V}(h:∀ b,m b=none→oD P Γ Kp s l K (qU t (m.set b (.var T cells)) d (some (.ptr b 0)))):Xv P Γ Kp T cells d s l K t m:=h
def zjT(P:Program)(Γ:jI)(Kp:V→Store→Prop)(e:TypeId)(x:V)(d:Option Tmp)(s:List (Tmp×Option (Tmp×Bool)×AOp))(l:List Item)(K:St→Prop)(t:List V)(m:Store):Prop:=match x with
 | .val (.string z)=>∀ b,m b=none→oD P Γ Kp s l K (qU t (m.set b (.tip e 0)) d (some (.sl (bytesV z) [] (.tip b 0))))
 |_=>False
theorem GY{e:TypeId}{x:Operand}:vg P Γ Kp (⟨d,none,.s2b e x,s⟩::l) K (some ⟨t,m⟩)=zjT P Γ Kp e (ev Γ t x) d s l K t m:=by
 show (match ev Γ t x with
  | .val (.string s)=>_
  |_=>False)=_
 unfold zjT
 split<;>rfl
def TC(P:Program)(Γ:jI)(Kp:V→Store→Prop)(e:TypeId)(bytes size:Nat)(z x:V)(d:Option Tmp)(s:List (Tmp×Option (Tmp×Bool)×AOp))(l:List Item)(K:St→Prop)(t:List V)(m:Store):Prop:=
 opE P Γ (fun o=>match o with | .tmp 0=>z|_=>x) m (fun v m'=>oD P Γ Kp s l K (qU t m' d (some v))) Kp (.app e bytes size (.tmp 0) (.tmp 1))
theorem G6{e:TypeId}{bytes size:Nat}{z x:Operand}:vg P Γ Kp (⟨d,none,.app e bytes size z x,s⟩::l) K (some ⟨t,m⟩)=TC P Γ Kp e bytes size (ev Γ t z) (ev Γ t x) d s l K t m:=(rfl)
theorem EW{e:TypeId}{bytes size:Nat}{es ys more:List V}{tok:Tok}(hne:ys≠[])(h1:ng size es=true)(h2:vJ size ys)(h3:(es.length+ys.length)*bytes≤140737488355328)
  (h:∀ b,m b=none→oD P Γ Kp s l K (qU t (m.set b (.tip e 0)) d (some (.sl (es++ys) [] (.tip b 0))))):TC P Γ Kp e bytes size (.sl es [] .full) (.sl ys more tok) d s l K t m:=
 ⟨fun h0=>absurd h0 hne,fun _=>⟨h1,h2,.inl h3,rfl,h⟩⟩
theorem OZ{e:TypeId}{bytes size b v:Nat}{es ys more:List V}{tok:Tok}(hne:ys≠[])(h0:es≠[])(hb:m b=some (.tip e v))(h1:ng size es=true)(h2:vJ size ys)(h3:(es.length+ys.length)*bytes≤140737488355328)
  (h:oD P Γ Kp s l K (qU t (m.set b (.tip e (v+1))) d (some (.sl (es++ys) [] (.tip b (v+1)))))):TC P Γ Kp e bytes size (.sl es [] (.tip b v)) (.sl ys more tok) d s l K t m:=
 ⟨fun h0=>absurd h0 hne,fun _=>⟨h1,h2,.inl h3,rfl,h0,hb,h⟩⟩
theorem nP{c:lK}{Q:Ex→St→Prop}{st:St}(I:Nat→St→Prop)(n:Nat)(h0:I n st)(h:∀ n s,I n s→awp P Γ Kp c (xe (fun s' => ∃ n',n'<n∧I n' s') Q) s):awp P Γ Kp (.loop c) Q st:=⟨I,n,h0,h⟩
theorem jH{rs:List oQ}{R:Out→Store→Prop}{v:V}(hv:resV rs ⟨t,m⟩=some v)(h:R (.ret v) m):vU rs R .ret ⟨t,m⟩:=⟨v,hv,m,fun _ _ h=>h,h⟩
theorem Tv{rs:List oQ}{R:Out→Store→Prop}{v:V}(hv:resV rs ⟨t,m⟩=some v)(h:R (.ret v) m):vU rs R .normal ⟨t,m⟩:=⟨v,hv,m,fun _ _ h=>h,h⟩
theorem mg{rs:List oQ}{R:Out→Store→Prop}{v:V}{m':Store}(hv:resV rs ⟨t,m⟩=some v)(hs:∀ b x,m' b=some x→m b=some x)(h:R (.ret v) m'):vU rs R .ret ⟨t,m⟩:=⟨v,hv,m',hs,h⟩
theorem jC{k:Nat}{st:St}:resV [.tmp k] st=some (jS st.t k):=by simp only[resV,qG,mZ]
theorem Lm{m m':Store}{b:Nat}{x:Blk}(hb:m' b=none)(h:∀ c y,m' c=some y→m c=some y):∀ c y,m' c=some y→(m.set b x) c=some y:=by
 intro c y hc
 have:c≠b:=by
  rintro rfl;rw[hb]at hc;cases hc
 rw[Store.jw _ _ this];exact h c y hc
end
def bs(l:List UInt8):V:=.val (.string ⟨l.toArray⟩)
abbrev it(n:Int):V:=.val (.int .i64 n)
abbrev by8(b:UInt8):V:=.val (.int .u8 b.toNat)
theorem wz{l:List UInt8}:pg (.string ⟨l.toArray⟩)=bs l:=rfl
theorem pU{l:List UInt8}:lenV true (bs l)=some (.val (.int .i64 l.length)):=rfl
theorem BF{l:List UInt8}:(bs l).cells=[bs l]:=rfl
theorem EE{l:List UInt8}:oP (bs l)=true:=rfl
theorem qY(l:List UInt8):(ByteArray.mk l.toArray).toList=l:=ByteArray.toList_mk l
section
variable {P:Program} {T:TypeId} {xo yo:Operand} {x y:List UInt8}
theorem zu:kX P .eql T .other xo yo (bs x) (bs y)=some (.val (.bool (x==y))):=by
 unfold bs;rw[xC,qY,qY]
theorem zt:kX P .neq T .other xo yo (bs x) (bs y)=some (.val (.bool !(x==y))):=by
 unfold bs;rw[xB,qY,qY]
theorem zdr(h:x.length+y.length≤9223372036854775807):kX P .add T .other xo yo (bs x) (bs y)=some (bs (x++y)):=by
 unfold bs;rw[zdq]
 ·rw[ByteArray.mk_append_mk x y]
 ·have e:IntKind.i64.max=9223372036854775807:=rfl;have e1:(ByteArray.mk x.toArray).size=x.length:=by simp[ByteArray.size]
  have e2:(ByteArray.mk y.toArray).size=y.length:=by simp[ByteArray.size]
  omega
theorem og{k:IntKind}{i:Nat}{b:UInt8}(h:x[i]? = some b):zJ (bs x) (.val (.int k (i:Int)))=some (.val (.int .u8 b.toNat)):=by
 obtain⟨hi,hb⟩:=List.getElem?_eq_some_iff.1 h;have hi':i<(ByteArray.mk x.toArray).size:=by simpa [ByteArray.size] using hi
 unfold bs;rw[UQ hi'];congr 4;simp[ByteArray.getElem_eq_getElem_data,hb]
end
def oq:V→Option (Option Int)→Option (Option Int)→Option V
 | .val (.string s),some lo,some hi=>match bounds s.size s.size lo hi none with
   |some (a,b,_)=>some (.val (.string (s.extract a b)))
   |none=>none
 |_,_,_=>none
theorem uO{P:Program}{Γ:jI}{t:List V}{m:Store}{x:Operand}{lo hi:Option Operand}:jJ P (ev Γ t) m (.sliceS x lo hi)=oq (ev Γ t x) (lH (ev Γ t) lo) (lH (ev Γ t) hi):=by
 simp only[jJ,oq];generalize ev Γ t x=a,lH (ev Γ t) lo=b,lH (ev Γ t) hi=c
 split
 ·rfl
 ·rename_i h
  split
  ·exact(h _ _ _ rfl rfl rfl).elim
  ·rfl
theorem ww{ρ:Operand→V}:lH ρ none=some none:=rfl
def zbS:V→Option (Option Int)
 | .val (.int _ n)=>some (some n)
 |_=>none
theorem uj{ρ:Operand→V}{x:Operand}:lH ρ (some x)=zbS (ρ x):=by
 simp only[lH,zbS]
 split<;>simp_all
theorem Au{k:IntKind}{n:Int}:zbS (.val (.int k n))=some (some n):=rfl
theorem GR{x:List UInt8}{a b:Nat}(h1:a≤b)(h2:b≤x.length):oq (bs x) (some (some (a:Int))) (some (some (b:Int)))=some (bs ((x.take b).drop a)):=by
 have e:(ByteArray.mk x.toArray).size=x.length:=by simp[ByteArray.size]
 simp only[oq,bs,bounds,e,bT,bQ];rw[if_pos (by simp;omega)];simp only[bJ,ByteArray.extract_mk,List.drop_take]
theorem y8{x:List UInt8}{a:Nat}(h:a≤x.length):oq (bs x) (some (some (a:Int))) (some none)=some (bs (x.drop a)):=by
 have e:(ByteArray.mk x.toArray).size=x.length:=by simp[ByteArray.size]
 simp only[oq,bs,bounds,e,bT,bQ];rw[if_pos (by simp;omega)];simp only[bJ,ByteArray.extract_mk];rw[List.take_of_length_le (by simp)]
theorem Fp{x:List UInt8}{b:Nat}(h:b≤x.length):oq (bs x) (some none) (some (some (b:Int)))=some (bs (x.take b)):=by
 have e:(ByteArray.mk x.toArray).size=x.length:=by simp[ByteArray.size]
 simp only[oq,bs,bounds,e,bT,bQ];rw[if_pos (by simp;omega)];simp[ByteArray.extract_mk]
theorem wrap_i64{n:Int}(h1 : -9223372036854775808≤n)(h2:n<9223372036854775808):IntKind.wrap .i64 n=n:=by
 unfold IntKind.wrap;simp only[IntKind.bits,IntKind.signed,Bool.true_and]
 split<;>rename_i h<;>simp at h<;>omega
theorem yN{cells:List V}:ni cells []=some cells:=rfl
theorem wG{cells:List V}{off:Nat}{v:V}{r:List (Nat×Nat×V)}(h:v.cells=[v]):ni cells ((off,1,v)::r)=if off+1≤cells.length then ni (xP cells off v) r else none:=by
 simp only[ni,h,List.length_singleton,true_and,List.zipIdx_singleton,List.foldl_cons,List.foldl_nil,Nat.add_zero,zA]
theorem yL{cells:List V}{off:Nat}{r:List (Nat×Nat×V)}{u:Value}:ni cells ((off,1,.val u)::r)=if off+1≤cells.length then ni (xP cells off (.val u)) r else none:=wG rfl
theorem A8{cells:List V}{off:Nat}{r:List (Nat×Nat×V)}{u:List UInt8}:ni cells ((off,1,bs u)::r)=if off+1≤cells.length then ni (xP cells off (bs u)) r else none:=wG rfl
theorem AZ{cells:List V}{off:Nat}{r:List (Nat×Nat×V)}{a b:List V}{k:Tok}:ni cells ((off,1,.sl a b k)::r)=if off+1≤cells.length then ni (xP cells off (.sl a b k)) r else none:=wG rfl
theorem yM{cells:List V}{off:Nat}{r:List (Nat×Nat×V)}{a b:Nat}:ni cells ((off,1,.ptr a b)::r)=if off+1≤cells.length then ni (xP cells off (.ptr a b)) r else none:=wG rfl
theorem yP{cells:List V}{off:Nat}{r:List (Nat×Nat×V)}{a:List V}:ni cells ((off,1,.elt a)::r)=if off+1≤cells.length then ni (xP cells off (.elt a)) r else none:=wG rfl
theorem A7{cells:List V}{off:Nat}{r:List (Nat×Nat×V)}{f:Fn}{a b:List V}:ni cells ((off,1,.fn f a b)::r)=if off+1≤cells.length then ni (xP cells off (.fn f a b)) r else none:=wG rfl
theorem yO{cells:List V}{off:Nat}{r:List (Nat×Nat×V)}{T:TypeId}{v:V}:ni cells ((off,1,.ifc T v)::r)=if off+1≤cells.length then ni (xP cells off (.ifc T v)) r else none:=wG rfl
theorem EG{cs:List V}:(some cs).map V.agg=some (.agg cs):=rfl
theorem wu{cs:List V}{o n:Nat}:mV cs o (some n)=if o+n≤cs.length then some (.agg ((cs.drop o).take n))else none:=rfl
theorem xk{k:IntKind}{n:Int}:oP (.val (.int k n))=true:=rfl
theorem Aw{s:ByteArray}:oP (.val (.string s))=true:=rfl
theorem yF{b:Bool}:oP (.val (.bool b))=true:=rfl
theorem yD:oP (.val (.pointer none))=true:=rfl
theorem yE:oP (.val .nilIface)=true:=rfl
theorem vZ{k b o:Nat}{T:TypeId}{sz:Option Nat}{cs:List V}{t:List V}{m:Store}(h1:jS t k = .ptr b o)(h2:m b=some (.var T cs)):resV [.cell k sz] ⟨t,m⟩=mV cs o sz:=by
 simp only[resV,qG,mZ,h1,h2]
def upTo(f:Nat→V):Nat→Nat→List V
 |0,_=>[]
 |n+1,k=>f k::upTo f n (k+1)
theorem kW{f:Nat→V}{k:Nat}:upTo f 0 k=[]:=rfl
theorem jW{f:Nat→V}{n k:Nat}:upTo f (n+1) k=f k::upTo f n (k+1):=rfl
theorem Pz{a:V}{t:List V}:∀ (n k:Nat),upTo (jS (a::t)) n (k+1)=upTo (jS t) n k
 |0,_=>rfl
 |n+1,k=>by simp only[upTo,jM,Pz n (k+1)]
theorem mO:∀ {n:Nat} {t:List V},t.length=n→t=upTo (jS t) n 0
 |0,[],_=>rfl
 |n+1,a::t,h=>by
  simp only[upTo,jL];rw[Pz n 0,←mO (by simpa using h)]
theorem JJ{Γ:jI}{t:List V}{g:Nat}{cs:List V}(h:Γ g=some cs):ev Γ t (.global g) = .elt cs:=by simp only[ev,h]
def Ku(n size:Nat):V→V→Option V
 | .ptr b o,.val (.int _ k)=>if 0≤k∧k<n then some (.ptr b (o+k.toNat*size))else none
 | .elt cs,.val (.int _ k)=>if 0≤k∧k<n then some (.elt (cs.drop (k.toNat*size)))else none
 |_,_=>none
theorem qX{P:Program}{Γ:jI}{t:List V}{m:Store}{n size:Nat}{x i:Operand}:jJ P (ev Γ t) m (.idxA n size x i)=Ku n size (ev Γ t x) (ev Γ t i):=by
 simp only[jJ,Ku];generalize ev Γ t x=a,ev Γ t i=b
 cases a<;>cases b<;>first|rfl|(rename_i u;cases u<;>rfl)
theorem Oh{n size i:Nat}{k:IntKind}{cs:List V}(h:i<n):Ku n size (.elt cs) (.val (.int k (i:Int)))=some (.elt (cs.drop (i*size))):=by
 simp only[Ku];rw[if_pos (by omega)];rfl
theorem NT{m:Store}{cs:List V}{i:Nat}:DV m none (.elt (cs.drop (i*1)))=cs[i]? := by
 simp[DV,mV]
theorem NV{size:Nat}{es:List V}:pq size es []=some es:=rfl
theorem FX{size i:Nat}{es:List V}{v:V}{r:List (Nat×V)}(h1:v.cells.length=size)(h2:i<es.length):pq size es ((i,v)::r)=pq size (xP es i v) r:=by
 simp only[pq,h1,h2,zA];simp
end Go.Av
