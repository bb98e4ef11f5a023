/- A world's start in which all that is there is known; rows of bytes read as data. No condition. -/
import Derived.ChangeMaps5
import Derived.Deep.Slices
import Derived.Test.YtmglaebjmaomnaaGreatDoorTWm
open List renaming append_nil→aS, getElem?_map→bH
set_option linter.unusedSimpArgs false
set_option linter.unusedVariables false
namespace Go.Av
open Go.RowKit Go.ChangeShapes Go.WideShapes Go.ChangeMaps
def startA(w:World):Gh:={ K:=fun b o=>w.cell? ⟨b,o,none⟩,H:=fun _ _=>none }
theorem Py(Γ:jG)(w:World):(zl Γ w).le (startA w) where
 K:=fun b o u hu=>by
  simp only[zl]at hu
  split at hu
  ·exact hu
  ·cases hu
 H:=fun t v x hx=>by cases hx
theorem VM{Γ:jG}{w:World}(h:Rep Γ w.heap.size (zl Γ w) (fun _=>none) w):Rep Γ w.heap.size (startA w) (fun _=>none) w where
 K:=fun b o u hu=>hu
 base:=Nat.le_refl _
 hist:=fun t v x hx=>by cases hx
 var:=fun b T cs hb=>by cases hb
 tip:=fun t T v ht=>by cases ht
 own:=fun t v B E C k=>by cases k
 apart:=fun t T v t' T' v' B E C E' C' a=>by cases a
 glob:=fun g cs hg=>by
  obtain⟨us,h1,h2⟩:=h.glob g cs hg;exact⟨us,h1.mono (Py Γ w),h2.mono (Py Γ w)⟩
 gsz:=h.gsz
 loop:=fun b r f t ps x y D hb=>by cases hb
 defer:=fun b hb=>by cases hb
theorem Oz{P:Program}{Γ:jG}{f:FuncId}{args:List V}{cargs:List Value}{w:World}(hw:Rep Γ w.heap.size (zl Γ w) (fun _=>none) w)(hl:kE (startA w) args cargs)
  (h:jB P Γ f args (fun _=>none) fun o m'=>o = .ret (.val (.bool true))∧m'=fun _=>none):Calls P f cargs.toArray w fun e w'=>e = .returned (.bool true)∧Below w.heap.size w w':=by
 refine(h.2 (startA w) w.heap.size (fun _=>none) w cargs (fun _=>.inl rfl) ?_ hl).mono ?_
 ·have:Store.or (fun _=>none) (fun _=>none)=fun _=>none:=rfl;rw[this];exact VM hw
 ·rintro e w' ⟨G',m',o,_,_,_,hB,ho,rfl,_⟩
  cases ho with
  |ret r=>
   cases r;exact⟨rfl,hB⟩
theorem Ua{G:Gh}(s:ByteArray):ku G (bs s.data.toList) (.string s):=by
 have:(⟨s.data.toList.toArray⟩:ByteArray)=s:=by simp
 show ku _ (.val (.string ⟨s.data.toList.toArray⟩)) _;rw[this];exact .val rfl
theorem Qo{w:World}{a:Addr}(hs:a.spot=none){us:List Value}(h:∀ i u,us[i]? = some u→w.cell? (a.add i)=some u):(startA w).has a us:=by
 refine⟨hs,fun i u hu => ?_⟩;have:=h i u hu;rw[add_plain hs]at this;exact this
theorem UQ:∀ l:List UInt8,flat (l.map by8)=l.map by8
 |[]=>rfl
 |b::l=>by rw[List.map_cons,lD,UQ l];rfl
theorem ze5{G:Gh}(l:List UInt8):kE G (l.map by8) (l.map fun b=>Value.int .u8 b.toNat):=by
 induction l with
 |nil=>exact .nil
 |cons b l ih=>exact .cons (.val rfl) ih
theorem Zb{w:World}{a:Addr}{cap:Nat}{l:List UInt8}(hs:a.spot=none)(hl:l.length≤cap)(h:∀ i b,l[i]? = some b→w.cell? (a.add i)=some (.int .u8 b.toNat)) :
  ku (startA w) (.sl (l.map by8) [] .no) (.slice (some a) l.length cap):=by
 have := ku.sl (G := startA w) (es := l.map by8) (more := []) (tok := .no) (us := l.map fun b => Value.int .u8 b.toNat) (a := a) (cap := cap) (s := 1) (by
   intro e he;rw[aS]at he;obtain⟨b,_,rfl⟩:=List.mem_map.1 he
   rfl) (by rw [aS,UQ]; exact ze5 l) (Qo hs (by
   intro i u hu;rw[bH]at hu;obtain⟨b,hb,rfl⟩:=Option.map_eq_some_iff.1 hu
   exact h i b hb)) (by simpa using hl) Nat.one_pos trivial
 simpa using this
theorem open_bytes{H:Type}{enc:TypeId×Value→H}{P:Program}{W:World}{base:Nat}{v:Value}{d:DataW H}{ps:List MemPlace}{t e:TypeId}(ht:P.underlying t=some (.slice e))(he:P.underlying e=some (.int .u8))(hc:P.cellsOf e=1)
  (hv:Value.okWide P W .any base t v) (h:DataW.Trod enc P W 0 (fun _=>true) true t v d ps) :
  ∃ l:List UInt8,ku (startA W) (.sl (l.map by8) [] .no) v∧((d = .nil∧l=[])∨∃ E S,d = .slice E S∧E.length=l.length):=by
 obtain⟨fuel,hf⟩:=h
 have hvc:v.cells.toList=[v]:=by
  simp only[Value.okWide,ht]at hv;rw[D6 (Gm hv)]
 rcases Go.Deep.open_slice1 ht hc hf with ⟨h1,h2⟩|⟨a,len,cap,m,n,V,D,Pl,h1,_,h3,_,h5,h6,h7⟩
 ·rw[hvc]at h1;cases h1;cases h2;exact⟨[],.nil rfl,.inl ⟨rfl,rfl⟩⟩
 ·rw[hvc]at h1;cases h1
  have hsp:a.spot=none:=by
   simp only[Value.okWide,ht,Cell.okWide,Cell.ok]at hv;exact hv.2.2.2.1
  simp only[if_true]at h5;subst h5
  have hb:∀ i,i<len→∃ b:UInt8,V i = .int .u8 b.toNat:=by
   intro i hi;obtain⟨_,g2⟩:=h7 i (by omega);obtain⟨k,c0,e0,w0⟩:=DataW.trod_int he g2;have wf:=w0;unfold Lit.wf at wf;simp only[Bool.and_eq_true,decide_eq_true_eq]at wf;have h1:IntKind.u8.min=0:=rfl;have h2:IntKind.u8.max=255:=rfl;rw[h1,h2]at wf;refine⟨UInt8.ofNat k.toNat,?_⟩
   have:((UInt8.ofNat k.toNat).toNat:Int)=k:=by
    rw[UInt8.toNat_ofNat'];omega
   rw[this]
   simpa using c0
  obtain⟨f,hf⟩:=Go.Deep.choose_lt (α:=UInt8) (p:=fun i b=>V i = .int .u8 b.toNat) hb;refine⟨(List.range len).map f,?_,.inr ⟨_,_,(congrArg Prod.fst h6),by simp⟩⟩
  have := Zb (w := W) (a := a) (cap := m) (l := (List.range len).map f) hsp (by simpa using h3) (by
   intro i b hi;rw[bH]at hi;obtain⟨j,hj,rfl⟩:=Option.map_eq_some_iff.1 hi;obtain⟨hlt,rfl⟩:=List.getElem?_eq_some_iff.1 hj;simp only[List.getElem_range,List.length_range]at hlt ⊢
   rw[(h7 i (by omega)).1,hf i hlt])
  simpa using this
end Go.Av
