/- What each operation comes to that leaves memory alone: the model's run, operation by operation. No condition. -/
import Derived.Test.YtmglaebjmaomnaaGreatDoorTAv4
open Bool renaming and_eq_true→aG
open Option.some renaming injEq→au
set_option linter.unusedSimpArgs false
set_option linter.unusedVariables false
namespace Go.Av
open Go.RowKit
section
variable {P:Program} {Γ:jG} {B0:Nat} {G:Gh} {m mm:Store} {w:World} {ρ:Operand→V} {ρc:Operand→Value}
theorem qM(T:TypeId)(x y:Value):Op.equal T x y=Op.equalIn (9999+1) T x y:=rfl
theorem Kz{T:TypeId}(h:qQ P T = .pointer):∃ e,P.underlying T=some (.pointer e):=by
 unfold qQ at h
 split at h<;>simp at h
 rename_i e he;exact⟨e,he⟩
theorem Vk{T:TypeId}(h:qQ P T = .func):∃ a b c,P.underlying T=some (.func a b c):=by
 unfold qQ at h
 split at h<;>simp at h
 rename_i a b c he;exact⟨a,b,c,he⟩
theorem QF{T:TypeId}(h:qQ P T = .iface):∃ e,P.underlying T=some (.interface e):=by
 unfold qQ at h
 split at h<;>simp at h
 rename_i e he;exact⟨e,he⟩
theorem JI{T:TypeId}(h:qQ P T = .slice):∃ e,P.underlying T=some (.slice e):=by
 unfold qQ at h
 split at h<;>simp at h
 rename_i e he;exact⟨e,he⟩
inductive I8:Cmp→Value→Prop
 |pointer:I8 .pointer (.pointer none)
 |func:I8 .func .nilFunc
 |iface:I8 .iface .nilIface
 |slice:I8 .slice (.slice none 0 0)
inductive GI:Cmp→Value→Prop
 |pointer (a:Addr):GI .pointer (.pointer (some a))
 |func (f:Fn) (a b:Array Value):GI .func (.func f a b)
 |iface (t:TypeId) (v:Value):GI .iface (.iface t v)
 |slice (a:Addr) (n c:Nat):GI .slice (.slice (some a) n c)
theorem XI{k:Cmp}{y:V}{b:Value}(h:kZ k y=true)(hy:ku G y b):I8 k b:=by
 unfold kZ at h
 split at h
 ·cases hy;exact .pointer
 ·cases hy;exact .func
 ·cases hy;exact .iface
 ·cases hy with
  |nil _=>exact .slice
  |sl _ _ _ _ _ ht=>exact absurd rfl ht.2
 ·cases h
theorem zbc{k:Cmp}{y:V}{b:Value}(h:nY k y=true)(hy:ku G y b):GI k b:=by
 unfold nY at h
 split at h
 ·cases hy;exact .pointer _
 ·cases hy;exact .pointer _
 ·cases hy;exact .func _ _ _
 ·cases hy;exact .iface _ _
 ·cases hy;exact .slice _ _ _
 ·cases hy with
  |nil hk=>simp[hk]at h
  |sl _ _ _ _ _ _=>exact .slice _ _ _
 ·cases hy;exact .slice _ _ _
 ·cases hy;exact .slice _ _ _
 ·cases h
theorem SC{T:TypeId}{a b:Value}{k:Cmp}(hk:qQ P T=k)(h1:GI k a)(h2:I8 k b) :
  (Op.equal T a b).run P w = .ok false w∧(∀ op xo yo,(eqGuard op T xo yo a b).run P w = .ok () w) ∧
  binOp .eql T a b=(do pure (.bool (←Op.equal T a b)))∧binOp .neq T a b=(do pure (.bool (!(←Op.equal T a b)))):=by
 cases h2 with
 |pointer=>
  cases h1;obtain⟨e,he⟩:=Kz hk;exact⟨by rw[qM];generalize 9999=d;simp[Op.equalIn,run_underlying (w:=w) he],fun op xo yo=>by unfold eqGuard;split<;>simp,rfl,rfl⟩
 |func=>
  cases h1;obtain⟨e,f,g,he⟩:=Vk hk;exact⟨by rw[qM];generalize 9999=d;simp[Op.equalIn,run_underlying (w:=w) he],fun op xo yo=>by unfold eqGuard;split<;>simp,rfl,rfl⟩
 |iface=>
  cases h1;obtain⟨e,he⟩:=QF hk;exact⟨by rw[qM];generalize 9999=d;simp[Op.equalIn,run_underlying (w:=w) he],fun op xo yo=>by unfold eqGuard;split<;>simp,rfl,rfl⟩
 |slice=>
  cases h1;obtain⟨e,he⟩:=JI hk;exact⟨by rw[qM];generalize 9999=d;simp[Op.equalIn,run_underlying (w:=w) he],fun op xo yo=>by unfold eqGuard;split<;>simp,rfl,rfl⟩
theorem UZ{T:TypeId}{a b:Value}{k:Cmp}(hk:qQ P T=k)(h1:GI k b)(h2:I8 k a) :
  (Op.equal T a b).run P w = .ok false w∧(∀ op xo yo,(eqGuard op T xo yo a b).run P w = .ok () w) ∧
  binOp .eql T a b=(do pure (.bool (←Op.equal T a b)))∧binOp .neq T a b=(do pure (.bool (!(←Op.equal T a b)))):=by
 cases h2 with
 |pointer=>
  cases h1;obtain⟨e,he⟩:=Kz hk;exact⟨by rw[qM];generalize 9999=d;simp[Op.equalIn,run_underlying (w:=w) he],fun op xo yo=>by unfold eqGuard;split<;>simp,rfl,rfl⟩
 |func=>
  cases h1;obtain⟨e,f,g,he⟩:=Vk hk;exact⟨by rw[qM];generalize 9999=d;simp[Op.equalIn,run_underlying (w:=w) he],fun op xo yo=>by unfold eqGuard;split<;>simp,rfl,rfl⟩
 |iface=>
  cases h1;obtain⟨e,he⟩:=QF hk;exact⟨by rw[qM];generalize 9999=d;simp[Op.equalIn,run_underlying (w:=w) he],fun op xo yo=>by unfold eqGuard;split<;>simp,rfl,rfl⟩
 |slice=>
  cases h1;obtain⟨e,he⟩:=JI hk;exact⟨by rw[qM];generalize 9999=d;simp[Op.equalIn,run_underlying (w:=w) he],fun op xo yo=>by unfold eqGuard;split<;>simp,rfl,rfl⟩
theorem U0{T:TypeId}{a b:Value}(hk:qQ P T = .slice)(h1:I8 .slice a)(h2:I8 .slice b) :
  (Op.equal T a b).run P w = .ok true w∧(∀ op xo yo,(eqGuard op T xo yo a b).run P w = .ok () w) ∧
  binOp .eql T a b=(do pure (.bool (←Op.equal T a b)))∧binOp .neq T a b=(do pure (.bool (!(←Op.equal T a b)))):=by
 cases h1;cases h2;obtain⟨e,he⟩:=JI hk;exact⟨by rw[qM];generalize 9999=d;simp[Op.equalIn,run_underlying (w:=w) he],fun op xo yo=>by unfold eqGuard;split<;>simp,rfl,rfl⟩
theorem zaA{op:BinOp}{T:TypeId}{xo yo:Operand}{x y:V}{a b:Value}{v:V}(hx:ku G x a)(hy:ku G y b)(h:kR P op T (qQ P T) xo yo x y=some v) :
  ∃ u,(do eqGuard op T xo yo a b;binOp op T a b:Sem Value).run P w = .ok u w∧ku G v u:=by
 unfold kR at h
 split at h
 ·rename_i hc
  have hh:(Op.equal T a b).run P w = .ok false w∧(∀ op xo yo,(eqGuard op T xo yo a b).run P w = .ok () w) ∧
    binOp .eql T a b=(do pure (.bool (←Op.equal T a b)))∧binOp .neq T a b=(do pure (.bool (!(←Op.equal T a b)))):=by
   simp only[Bool.or_eq_true,aG]at hc
   rcases hc with ⟨h1,h2⟩|⟨h2,h1⟩
   ·exact SC rfl (zbc h1 hx) (XI h2 hy)
   ·exact UZ rfl (zbc h1 hy) (XI h2 hx)
  obtain⟨h1,h2,h3,h4⟩:=hh
  split at h
  ·simp only[au]at h;subst h;exact⟨.bool false,by rw[h3];simp[h1,h2],.val rfl⟩
  ·simp only[au]at h;subst h;exact⟨.bool true,by rw[h4];simp[h1,h2],.val rfl⟩
  ·cases h
 ·split at h
  ·rename_i hc;simp only[aG]at hc
   have hk:qQ P T = .slice:=by
    generalize qQ P T=k at hc
    cases k<;>first|rfl|simp[zB]at hc
   rw[hk]at hc;obtain⟨h1,h2,h3,h4⟩:=U0 (P:=P) (w:=w) hk (XI hc.1.2 hx) (XI hc.2 hy)
   split at h
   ·simp only[au]at h;subst h;exact⟨.bool true,by rw[h3];simp[h1,h2],.val rfl⟩
   ·simp only[au]at h;subst h;exact⟨.bool false,by rw[h4];simp[h1,h2],.val rfl⟩
   ·cases h
  ·skip
   split at h
   ·rename_i c d hc hd
    split at h
    ·rename_i r hr
     split at h
     ·rename_i hn;simp only[au]at h;subst h;obtain rfl:=Lj hc hx;obtain rfl:=Lj hd hy;exact⟨r,Gi hr w,.val hn⟩
     ·cases h
    ·cases h
   ·cases h
theorem FT:∀ {l:List V} {k:Nat} {lu:List Value} {cs:List V} {us:List Value} (off:Nat),kE G l lu→kE G cs us →
  kE G ((l.zipIdx k).foldl (fun cs x=>cs.set (off+x.2) x.1) cs) (((lu.zipIdx k).foldl (fun cs (x:Value×Nat)=>cs.set (off+x.2) x.1) us))
 |_,k,_,cs,us,off,.nil,r=>r
 |_,k,_,cs,us,off,.cons h t,r=>by
  simp only[List.zipIdx_cons,List.foldl_cons];exact FT off t (r.set _ h)
theorem Dz(off:Nat):∀ (l:List (Value×Nat)) (us:List Value),l.foldl (fun cs (x:Value×Nat)=>cs.setIfInBounds (off+x.2) x.1) us.toArray=(l.foldl (fun cs (x:Value×Nat)=>cs.set (off+x.2) x.1) us).toArray
 |[],us=>rfl
 |x::l,us=>by
  simp only[List.foldl_cons];rw[←Dz off l];congr 1;exact List.setIfInBounds_toArray ..
theorem CW:∀ {parts:List (Nat×Nat×V)} {cparts:List (Nat×Value)} {pl:Nat→Option (Nat×Nat)} {cs cs':List V} {us:List Value},
  ng cs parts=some cs'→kE G cs us→parts.length=cparts.length →
  (∀ (k:Nat) off size v i u,parts[k]? = some (off,size,v)→cparts[k]? = some (i,u)→pl i=some (off,size)∧ku G v u) →
  ∃ us',Instr.fill pl us.toArray cparts=some us'.toArray∧kE G cs' us'
 |[],[],pl,cs,cs',us,h,r,_,_=>by
  simp only[ng,au]at h;subst h;exact⟨us,rfl,r⟩
 |[],_::_,_,_,_,_,_,_,hl,_=>by simp at hl
 |_::_,[],_,_,_,_,_,_,hl,_=>by simp at hl
 |(off,size,v)::parts,(i,u)::cparts,pl,cs,cs',us,h,r,hl,hp=>by
  simp only[ng]at h
  split at h
  ·rename_i hc;obtain⟨h1,h2⟩:=hp 0 off size v i u rfl rfl;have hcells:=h2.cells;have hlen:=hcells.length;have hlen':=r.length;simp only[Array.length_toList]at hlen
   have hz:(u.cells.zipIdx.foldl (fun cs x=>cs.setIfInBounds (off+x.2) x.1) us.toArray)=((u.cells.toList.zipIdx).foldl (fun cs (x:Value×Nat)=>cs.set (off+x.2) x.1) us).toArray:=by
    rw[←Array.foldl_toList,Array.toList_zipIdx];exact Dz off _ us
   obtain⟨us',g1,g2⟩:=CW (pl:=pl) (cparts:=cparts) h (FT off hcells r) (by simpa using hl) (fun k o s v i u a b=>hp (k+1) o s v i u (by simpa using a) (by simpa using b));refine⟨us',?_,g2⟩;simp only[Instr.fill,h1];rw[if_neg (by simp;omega),hz];exact g1
  ·cases h
end
end Go.Av
