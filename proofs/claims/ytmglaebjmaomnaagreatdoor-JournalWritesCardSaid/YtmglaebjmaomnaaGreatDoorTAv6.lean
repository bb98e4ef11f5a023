/- The operations of the layer Av that leave memory alone: each is what the model's operation comes to. No condition. -/
import Derived.Laws.BytesString
import Derived.Test.YtmglaebjmaomnaaGreatDoorTAv5
open List renaming mem_cons_self→aU, mem_cons_of_mem→aX
open Option renaming getD_none→bY, getD_some→bZ
open Option.some renaming injEq→au
set_option linter.unusedSimpArgs false
set_option linter.unusedVariables false
namespace Go.Av
open Go.RowKit
section
variable {P:Program} {Γ:jG} {B0:Nat} {G:Gh} {m mm:Store} {w:World} {ρ:Operand→V} {ρc:Operand→Value}
theorem Nw{T:TypeId}{s:Option Nat}{off:Nat}{cs:List V}{us:List Value}{v:V}(hs:sQ P T=some s)(hr:kE G cs us)(hv:mW cs off s=some v) :
  ∃ u,(part T us.toArray off).run P w = .ok u w∧ku G v u:=by
 cases s with
 |none=>
  simp only[mW]at hv;obtain⟨u,hu,r⟩:=hr.get hv;exact⟨u,by simp[part,DT hs,hu],r⟩
 |some n=>
  simp only[mW]at hv
  split at hv
  ·simp only[au]at hv;subst hv;obtain⟨h1,h2⟩:=DR (w:=w) hs;refine⟨_,?_,.agg ((hr.drop off).take n)⟩;simp only[part,Sem.run_bind,h1,Result.andThen_ok,if_true,h2,Sem.run_pure];congr 2;apply Array.ext';simp
  ·cases hv
theorem VW{c:V}{uc ua ub:Value}{a b v:V}(he:(match c with | .val (.bool t)=>some (bif t then a else b)|_=>none)=some v)(hc:ku G c uc)(ha:ku G a ua)(hb:ku G b ub) :
  ∃ u,(do pure (Next.value (if ←asBool uc then ua else ub)):Sem Next).run P w = .ok (.value u) w∧ku G v u:=by
 cases c with
 |val cv=>
  cases cv with
  |bool t=>
   cases hc;simp only[au]at he;subst he;cases t
   ·exact⟨ub,by simp[asBool],hb⟩
   ·exact⟨ua,by simp[asBool],ha⟩
  |_=>simp at he
 |_=>simp at he
theorem V6{x v:V}{u:Value}
  (he : (match x with
   | .ptr b o=>some (.ptr b o)
   | .elt cs=>some (.elt cs)
   | .fn (.func f) a b=>some (.fn (.func f) a b)
   |_=>none)=some v) (hx:ku G x u):v=x∧((∃ a,u = .pointer (some a))∨∃ f a b,u = .func (.func f) a b):=by
 cases hx with
 |fn a b=>
  rename_i f _ _ _ _;cases f<;>simp at he
  subst he;exact⟨rfl,.inr ⟨_,_,_,rfl⟩⟩
 |ptr b o=>simp at he;subst he;exact⟨rfl,.inl ⟨_,rfl⟩⟩
 |elt a b=>simp at he;subst he;exact⟨rfl,.inl ⟨_,rfl⟩⟩
 |_=>simp at he
theorem Z7{s:Nat}{es more:List V}(hs:∀ e∈es++more,e.cells.length=s)(n:Nat):(flat (es++more)).take (n*s)=flat ((es++more).take n):=by
 induction n generalizing es more with
 |zero=>simp[flat]
 |succ n ih=>
  generalize hl:es++more=l at hs
  cases l with
  |nil=>simp[flat]
  |cons e l=>
   have h1:=hs e (aU ..);have:=ih (es:=[]) (more:=l) (by simpa using fun x hx=>hs x (aX _ hx));simp only[List.nil_append]at this;rw[lD,List.take_succ_cons,lD,←this,←h1,Nat.succ_mul,Nat.add_comm,List.take_length_add_append]
theorem Qw{s:Nat}{l:List V}(hs:∀ e∈l,e.cells.length=s)(n:Nat):(flat l).drop (n*s)=flat (l.drop n):=by
 induction n generalizing l with
 |zero=>simp
 |succ n ih=>
  cases l with
  |nil=>simp[flat]
  |cons e l=>
   have h1:=hs e (aU ..);have:=ih (l:=l) (fun x hx=>hs x (aX _ hx));rw[lD,List.drop_succ_cons,←this,←h1,Nat.succ_mul,Nat.add_comm,List.drop_append,h1];simp[show s+n*s-s=n*s by omega,←h1]
theorem zaB{x v:V}{u:Value}{src dst e:TypeId}(hR:Rep Γ B0 G mm w)(h1:P.underlying src=some (.slice e))(h2:P.underlying dst=some .string)(h3:NW P e=true)
  (he : (match x with
   | .sl es _ _=>match bytesOf es with
    |some bs=>some (V.val (.string ⟨bs.toArray⟩))
    |none=>none
   |_=>none)=some v) (hx:ku G x u):∃ r,(convert src dst u).run P w = .ok r w∧ku G v r:=by
 have hu8:P.underlying e=some (.int .u8):=by
  unfold NW at h3
  split at h3
  ·assumption
  ·cases h3
 cases hx with
 |nil h=>
  simp[bytesOf]at he;subst he;refine⟨.string .empty,?_,.val rfl⟩;rw[run_convert_bytes_string w src dst e _ _ _ h1 hu8 h2];simp[Conv.bytesToString]
 |sl hs hr hk hl h0 ht=>
  rename_i es more tok us a cap s;simp only at he
  cases hb:bytesOf es with
  |none=>simp[hb]at he
  |some bs=>
   simp only[hb,au]at he;subst he;obtain⟨g1,g2⟩:=bytesOf_length hb;rw[uM]at hr;obtain⟨us1,us2,rfl,r1,r2⟩:=hr.split;obtain⟨ns,rfl,rfl⟩:=KD hb r1;have hlen:ns.length=es.length:=by simpa using g1
   refine⟨_,?_,.val rfl⟩;rw[run_convert_bytes_string w src dst e _ _ _ h1 hu8 h2,run_bytesToString w a es.length cap ns ?_]
   ·congr 2
    have:∀ (l:List Int) (acc:ByteArray),l.foldl (fun r n=>r.push (UInt8.ofNat n.toNat)) acc=⟨acc.data++(l.map fun n=>UInt8.ofNat n.toNat).toArray⟩:=by
     intro l
     induction l with
     |nil=>intro acc;simp
     |cons n l ih=>
      intro acc;rw[List.foldl_cons,ih];congr 1;apply Array.ext';simp[ByteArray.push]
    rw[this];congr 1;show #[]++_=_;simp
   ·rw [loadCells,run_loadCellsFrom es.length 0 #[] (ns.map (Value.int .u8)) (by simpa using hlen) (fun j u hu => by
     rw[Nat.zero_add];refine Og hR hk ?_;rw[List.getElem?_append_left (by simpa using (List.getElem?_eq_some_iff.1 hu).1)]
     exact hu)]
    simp
 |_=>simp at he
theorem Zu{x:Option Operand}{n:Option Int}(hx:∀ y,x=some y→ku G (ρ y) (ρc y))(h:lN ρ x=some n):∀ (K:Option Value→Prop),(n=none→x=none→K none)→(∀ k i y,n=some i→x=some y→ρc y = .int k i→K (some (.int k i)))→K (x.map ρc):=by
 intro K h1 h2
 cases x with
 |none=>
  simp only[lN,au]at h;exact h1 h.symm rfl
 |some y=>
  simp only[lN]at h
  split at h
  ·rename_i k i hy;simp only[au]at h;have hr:=hx y rfl;rw[hy]at hr;generalize hz:ρc y=z at hr;cases hr;simp only[Option.map_some,hz];exact h2 k i y h.symm rfl hz
  ·cases h
theorem run_sliceBound{k:IntKind}{i:Int}{y:Nat}{code:BoundsCode}(h0:0≤i)(h1:i≤y):(Instr.sliceBound (.int k i) y code).run P w = .ok i.toNat w:=by
 simp[Instr.sliceBound,asIntOf,h0,h1]
theorem qV{isSlice:Bool}{len cap:Nat}{lo hi mx:Option Value}{nl nh nm:Option Int}
  (hl:(nl=none∧lo=none)∨∃ k i,nl=some i∧lo=some (.int k i)) (hh:(nh=none∧hi=none)∨∃ k i,nh=some i∧hi=some (.int k i))
  (hm:(nm=none∧mx=none)∨∃ k i,nm=some i∧mx=some (.int k i))
  (c1:0≤nl.getD 0) (c2:nl.getD 0≤nh.getD len) (c3:nh.getD len≤nm.getD cap) (c4:nm.getD cap≤cap) (c5:nm.isSome→nh.isSome) :
  (Instr.sliceBounds isSlice len cap lo hi mx).run P w = .ok ((nl.getD 0).toNat,(nh.getD len).toNat,(nm.getD cap).toNat) w:=by
 have e1:((len:Int)).toNat=len:=by omega
 have e2:((cap:Int)).toNat=cap:=by omega
 rcases hm with ⟨rfl,rfl⟩|⟨km,im,rfl,rfl⟩
 ·simp only[bY,bZ]at *
  rcases hh with ⟨rfl,rfl⟩|⟨kh,ih,rfl,rfl⟩
  ·simp only[bY,bZ]at *
   rcases hl with ⟨rfl,rfl⟩|⟨kl,il,rfl,rfl⟩
   ·simp[Instr.sliceBounds]
   ·simp only[bY,bZ]at *;simp[Instr.sliceBounds,run_sliceBound c1 (show il≤(len:Int)by omega)]
  ·simp only[bY,bZ]at *;have g:(ih.toNat:Int)=ih:=by omega
   rcases hl with ⟨rfl,rfl⟩|⟨kl,il,rfl,rfl⟩
   ·simp only[bY,bZ]at *;simp[Instr.sliceBounds,run_sliceBound (show(0:Int)≤ih by omega) (show ih≤(cap:Int)by omega)]
   ·simp only[bY,bZ]at *;simp[Instr.sliceBounds,run_sliceBound (show(0:Int)≤ih by omega) (show ih≤(cap:Int)by omega),run_sliceBound c1 (show il≤(ih.toNat:Int)by omega)]
 ·simp only[Option.isSome_some,forall_const]at c5
  rcases hh with ⟨rfl,rfl⟩|⟨kh,ih,rfl,rfl⟩
  ·simp at c5
  ·simp only[bY,bZ]at *;have g:(ih.toNat:Int)=ih:=by omega
   have g':(im.toNat:Int)=im:=by omega
   rcases hl with ⟨rfl,rfl⟩|⟨kl,il,rfl,rfl⟩
   ·simp only[bY,bZ]at *;simp[Instr.sliceBounds,run_sliceBound (show(0:Int)≤im by omega) c4,run_sliceBound (show(0:Int)≤ih by omega) (show ih≤(im.toNat:Int)by omega)]
   ·simp only[bY,bZ]at *;simp[Instr.sliceBounds,run_sliceBound (show(0:Int)≤im by omega) c4,run_sliceBound (show(0:Int)≤ih by omega) (show ih≤(im.toNat:Int)by omega),run_sliceBound c1 (show il≤(ih.toNat:Int)by omega)]
theorem og{x:Option Operand}{n:Option Int}(hx:∀ y,x=some y→ku G (ρ y) (ρc y))(h:lN ρ x=some n) :
  (n=none∧x.map ρc=none)∨∃ k i,n=some i∧x.map ρc=some (.int k i):=by
 refine Zu hx h (fun z=>(n=none∧z=none)∨∃ k i,n=some i∧z=some (.int k i)) (fun a _=>.inl ⟨a,rfl⟩) (fun k i y a _ _=>.inr ⟨k,i,a,rfl⟩)
end
end Go.Av
