/- What the operations come to that leave memory alone: the model's run. No condition. -/
import Derived.Test.YtmglaebjmaomnaaGreatDoorTAv3
open List renaming getElem?_drop→fF
open Option renaming map_eq_some_iff→aQ
open Option.some renaming injEq→au
set_option linter.unusedSimpArgs false
set_option linter.unusedVariables false
namespace Go.Av
open Go.RowKit
section
variable {P:Program} {Γ:jG} {B0:Nat} {G:Gh} {m mm:Store} {w:World} {ρ:Operand→V} {ρc:Operand→Value}
theorem Pz{s:Sem Value}{u:Value}{w':World}(h:s.run P w = .ok u w'):(do pure (Next.value (←s)):Sem Next).run P w = .ok (.value u) w':=by
 simp[h]
theorem run_underlying{t:TypeId}{d:TypeDesc}(h:P.underlying t=some d):(underlying t).run P w = .ok d w:=by simp[underlying,h]
theorem run_typeInfo{t:TypeId}{d:TypeInfo}(h:P.info? t=some d):(typeInfo t).run P w = .ok d w:=by simp[typeInfo,h]
theorem run_sizeOf{t:TypeId}{n:Nat}(h:nZ P t=some n):(sizeOf t).run P w = .ok n w:=by
 simp only[nZ,aQ]at h;obtain⟨i,hi,rfl⟩:=h;simp[sizeOf,run_typeInfo hi]
theorem Ah{t:TypeId}{i:TypeInfo}{z:Value}(h:P.info? t=some i)(hz:i.zero=some z):(zeroValue t).run P w = .ok z w:=by
 simp[zeroValue,run_typeInfo h,hz]
theorem PH{t:TypeId}{d:TypeDesc}(h:P.underlying t=some d):(isAgg t).run P w = .ok (zcs d) w:=by
 simp[isAgg,run_underlying h];cases d<;>rfl
theorem DR{t:TypeId}{n:Nat}(h:sQ P t=some (some n)):(isAgg t).run P w = .ok true w∧(sizeOf t).run P w = .ok n w:=by
 unfold sQ at h
 split at h
 ·cases h
 ·rename_i d hd
  split at h
  ·rename_i hi;simp only[aQ,au,exists_eq_right]at h;exact⟨by rw[PH hd,hi],run_sizeOf h⟩
  ·simp at h
theorem DT{t:TypeId}(h:sQ P t=some none):(isAgg t).run P w = .ok false w:=by
 unfold sQ at h
 split at h
 ·cases h
 ·rename_i d hd
  split at h
  ·simp at h
  ·rename_i hi;rw[PH hd]
   simpa using hi
theorem run_loadCellsFrom{a:Addr}:∀ (n i:Nat) (acc:Array Value) (us:List Value),us.length=n→(∀ j u,us[j]? = some u→w.cell? (a.add (i+j))=some u) →
  (loadCellsFrom a i n acc).run P w = .ok (acc++us.toArray) w
 |0,i,acc,us,hl,h=>by
  obtain rfl:=List.eq_nil_of_length_eq_zero hl;simp[loadCellsFrom]
 |n+1,i,acc,us,hl,h=>by
  cases us with
  |nil=>simp at hl
  |cons u us=>
   have h0:=h 0 u (by simp);simp only[Nat.add_zero]at h0;simp only[loadCellsFrom,Sem.run_bind,run_load,h0,Result.andThen_ok]
   rw [run_loadCellsFrom n (i + 1) (acc.push u) us (by simpa using hl) (fun j u' hu => by
    have:=h (j+1) u' (by simpa using hu)
    rwa [show i+1+j=i+(j+1)from by omega])]
   simp
theorem add_plain{a:Addr}(h:a.spot=none)(n:Nat):a.add n=⟨a.block,a.off+n,none⟩:=by
 cases a;simp only at h;subst h;unfold Addr.add
 split<;>simp_all
theorem Og(hr:Rep Γ B0 G mm w){a:Addr}{us:List Value}(h:G.has a us){i:Nat}{u:Value}(hu:us[i]? = some u):w.cell? (a.add i)=some u:=by
 rw[add_plain h.1];exact hr.K _ _ _ (h.2 i u hu)
theorem Gh.has.drop{a:Addr}{us:List Value}(h:G.has a us)(n:Nat):G.has (a.add n) (us.drop n):=by
 rw[add_plain h.1];refine⟨rfl,fun i u hu => ?_⟩;rw[fF]at hu;have:=h.2 _ _ hu
 simpa [Nat.add_assoc] using this
theorem Gh.has.take{a:Addr}{us:List Value}(h:G.has a us)(n:Nat):G.has a (us.take n):=
 ⟨h.1,fun i u hu => h.2 i u (by
  rw[List.getElem?_take]at hu
  split at hu
  ·exact hu
  ·cases hu)⟩
theorem JW{T:TypeId}{s:Option Nat}{a:Addr}{cs:List V}{us:List Value}{o:Nat}{v:V}(hs:sQ P T=some s)(hr:kE G cs us)
  (hc:∀ j u,us[o+j]? = some u→w.cell? (a.add j)=some u) (hv:mW cs o s=some v):∃ u,(loadVar T a).run P w = .ok u w∧ku G v u:=by
 cases s with
 |none=>
  simp only[mW]at hv;obtain⟨u,hu,r⟩:=hr.get hv;have h0:=hc 0 u (by simpa using hu);refine⟨u,?_,r⟩;have:a.add 0=a:=by simp[Addr.add]
  rw[this]at h0;simp[loadVar,DT hs,h0]
 |some n=>
  simp only[mW]at hv
  split at hv<;>simp at hv
  subst hv;rename_i hle;have hlen:=hr.length;refine⟨.agg ((us.drop o).take n).toArray,?_,.agg ((hr.drop o).take n)⟩;obtain⟨h1,h2⟩:=DR (w:=w) hs;simp only[loadVar,Sem.run_bind,h1,Result.andThen_ok,if_true,h2,loadCells]
  rw [run_loadCellsFrom n 0 #[] ((us.drop o).take n) (by simp; omega) (fun j u hu => by
   rw[Nat.zero_add];refine hc j u ?_;rw[List.getElem?_take]at hu
   split at hu
   ·rwa [fF]at hu
   ·cases hu)]
  simp
theorem JV{T:TypeId}{s:Option Nat}{x:V}{u:Value}{v:V}(hR:Rep Γ B0 G mm w)(hm:∀ b c,m b=some c→mm b=some c)(hs:sQ P T=some s)
  (he : (match x with
   | .elt cs=>mW cs 0 s
   | .ptr b o=>match m b with
    |some (.var _ cs)=>mW cs o s
    |_=>none
   |_=>none)=some v) (hx:ku G x u):∃ r,(Instr.loadAt T u).run P w = .ok r w∧ku G v r:=by
 cases hx with
 |elt h k=>
  rename_i cs us a;simp only at he;obtain⟨r,h1,h2⟩:=JW hs h (a:=a) (o:=0) (fun j u hu=>Og hR k (by simpa using hu)) he;exact⟨r,by simp[Instr.loadAt,Instr.sureAddr,h1],h2⟩
 |ptr b o=>
  simp only at he
  cases hb:m b with
  |none=>simp[hb]at he
  |some x=>
   cases x with
   |tip T v=>simp[hb]at he
   |loop r f t ps x y D=>simp[hb]at he
   |defer=>simp[hb]at he
   |var T' cs=>
    simp only[hb]at he;obtain⟨_,⟨us,h2,h3⟩,_⟩:=hR.var b _ cs (hm _ _ hb)
    obtain ⟨r,h1,h4⟩ := JW (w := w) hs h3 (a := ⟨b,o,none⟩) (o := o) (fun j u hu => by
     rw[add_plain rfl]
     simp[World.cell?,h2,hu]) he
    exact⟨r,by simp[Instr.loadAt,Instr.sureAddr,h1],h4⟩
 |_=>simp at he
theorem KD:∀ {es:List V} {l:List UInt8} {us:List Value},bytesOf es=some l→kE G (flat es) us→∃ ns:List Int,us=ns.map (Value.int .u8)∧l=ns.map fun n=>UInt8.ofNat n.toNat
 |[],l,us,h,r=>by
  simp only[bytesOf,au]at h;subst h;rw[flat_nil]at r;exact⟨[],r.kN,rfl⟩
 |e::es,l,us,h,r=>by
  simp only[bytesOf]at h
  cases hb:byteOf e with
  |none=>simp[hb]at h
  |some b=>
   cases hl:bytesOf es with
   |none=>simp[hb,hl]at h
   |some l' =>
    simp only[hb,hl,au]at h;subst h;unfold byteOf at hb
    split at hb<;>simp at hb
    rename_i n;subst hb;rw[lD]at r;obtain⟨y,ys,rfl,r1,r2⟩:=kE.cons_inv (v:=V.val (.int .u8 n)) r;obtain⟨ns,rfl,rfl⟩:=KD hl r2;cases r1;exact⟨n::ns,rfl,rfl⟩
theorem bytesOf_length:∀ {es:List V} {l:List UInt8},bytesOf es=some l→l.length=es.length∧∀ e∈es,e.cells.length=1
 |[],l,h=>by simp[bytesOf]at h;subst h;simp
 |e::es,l,h=>by
  simp only[bytesOf]at h
  cases hb:byteOf e with
  |none=>simp[hb]at h
  |some b=>
   cases hl:bytesOf es with
   |none=>simp[hb,hl]at h
   |some l' =>
    simp only[hb,hl,au]at h;subst h;obtain⟨h1,h2⟩:=bytesOf_length hl;refine⟨by simp[h1],fun x hx => ?_⟩
    rcases List.mem_cons.1 hx with rfl|hx
    ·unfold byteOf at hb
     split at hb<;>simp at hb
     rfl
    ·exact h2 x hx
end
end Go.Av
