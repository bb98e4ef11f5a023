/- Whatever opE tells of an operation holds of the model's operation. No condition. -/
import Derived.Test.YtmglaebjmaomnaaGreatDoorTAv12
open Array renaming getElem?_push_size→iy, getElem?_modify→dG, ext'→dC, mem_toList_iff→dR
open Bool renaming false_eq_true→aF
open List renaming replicate→bM, length_append→aH
open Nat renaming le_mul_of_pos_right→iF
open Option renaming map_eq_some_iff→aQ
open Option.some renaming injEq→au
set_option linter.unusedSimpArgs false
set_option linter.unusedVariables false
namespace Go.Av
open Go.RowKit
section
variable {P:Program} {Γ:jG} {B0:Nat} {G:Gh} {m mF:Store} {w:World} {ρ:Operand→V}
variable {o:Oper} {a:Act} {K Kp:V→Store→Prop} {next:Act→World→Prop} {Q:Exit→Act→World→Prop}
theorem wrap_small{n:Int}(h1 : -9223372036854775808≤n)(h2:n<9223372036854775808):IntKind.wrap .i64 n=n:=by
 simp only[IntKind.wrap,IntKind.bits,IntKind.signed];simp;omega
theorem zd6{src dst e:TypeId}{x:Operand}(hop:o.op = .convert src dst x)(h1:P.underlying src=some .string)(h2:P.underlying dst=some (.slice e))(h3:NW P e=true)
  (hA:After P Γ B0 G mF w o a K Kp next Q) (hx:ku G (ρ x) (a.eval x)) (hD:mQ m mF) (hR:Rep Γ B0 G (m.or mF) w)
  (hE : match ρ x with
  | .val (.string s)=>∀ t,m t=none→K (.sl (bytesV s) [] (.tip t 0)) (m.set t (.tip e 0))
  |_=>False):o.wp P a w next Q:=by
 have hu8:P.underlying e=some (.int .u8):=by
  unfold NW at h3
  split at h3
  ·assumption
  ·cases h3
 split at hE
 ·rename_i s hs;rw[hs]at hx
  have hxe:a.eval x = .string s:=by
   generalize a.eval x=z at hx;cases hx;rfl
  generalize hcap:(Question.appendCap s.size 0 e).cut (w.tape w.drawn (.appendCap s.size 0 e))=nc
  have hnc:s.size≤nc:=by
   rw[←hcap];simp[Question.cut]
  have hf:=mX hR.fresh
  let us:List Value:=s.data.toList.map fun b=>Value.int .u8 b.toNat
  let rest:List Value:=bM (nc-s.size) (Value.int .u8 0)
  have hul:us.length=s.size:=by simp[us]
  let w1:=w.drew.alloc (.cells (us++rest).toArray e)
  let w2:=w1.freeze { block:=w.heap.size,off:=(us++rest).length } 1
  have hheap:w2.heap=w1.heap.modify w.heap.size fun
   | .cells c elem (lo,hi)=>.cells c elem (if lo==hi then ((us++rest).length,(us++rest).length+1)else (min lo (us++rest).length,max hi ((us++rest).length+1)))
   |o=>o:=by
   show(w1.freeze { block:=w.heap.size,off:=(us++rest).length } 1).heap=_;unfold World.freeze;rw[if_neg (by omega)];rfl
  have hw1:w1.heap[w.heap.size]? = some (.cells (us++rest).toArray e (0,0)):=by
   show(w.drew.heap.push _)[w.drew.heap.size]? = _;exact iy
  have hnew:w2.heap[w.heap.size]? = some (.cells (us++rest).toArray e ((us++rest).length,(us++rest).length+1)):=by
   rw[hheap,dG,hw1];simp
  have hold:∀ b,b<w.heap.size→w2.heap[b]? = w.heap[b]? := by
   intro b hb;rw[hheap,dG,if_neg (by omega)];show(w.drew.heap.push _)[b]? = _;rw[Array.getElem?_push_lt (show b<w.drew.heap.size from hb),Array.getElem?_eq_getElem hb];rfl
  have hsize:w2.heap.size=w.heap.size+1:=by
   rw[hheap];simp[w1]
  obtain ⟨k1,k2⟩ := hR.newRow (us := us) (rest := rest) (T := e) (fz := ((us ++ rest).length,(us ++ rest).length + 1)) (t := w.heap.size) (v := 0) (w' := w2) hsize hold hnew (fun o' h4 h5 => by
   simp only[World.frozen?,hnew];simp only[aH];simp
   omega) (.inl ⟨rfl,rfl⟩) (.inr (Nat.le_refl _))
  have hrel := P9 (G' := ((G.put w.heap.size us).putH w.heap.size 0 (w.heap.size,us.length,us.length + rest.length))) (t := w.heap.size) (v := 0) (es := bytesV s) (us := us) (rest := rest) (nr := nc - s.size) (size := 1) (b := w.heap.size) (fun y hy => by
    unfold bytesV at hy;obtain⟨b,_,rfl⟩:=List.mem_map.1 hy
    rfl) (by omega) (by rw[Ku];exact OC s)
   ⟨rfl,fun i u hu=>by simpa [Gh.putH,Gh.put] using hu⟩ (by simp[Gh.putH]) (by simp[rest])
  rw[←xK]at k2;have hbl:(bytesV s).length=s.size:=by simp[bytesV]
  rw[hbl,show s.size+(nc-s.size)=nc by omega]at hrel;refine tK (u:=.slice (some ⟨w.heap.size,0,none⟩) s.size nc) (w':=w2) ?_ (hA.next _ _ _ _ _ k1 (hD.set _ hf.2) k2 ⟨?_,?_,?_,by omega,fun b hb=>hold b (Nat.lt_of_lt_of_le hb hR.base)⟩ hrel (hE _ hf.1))
  ·have harr:(s.data.map fun b=>Value.int .u8 b.toNat)++Array.replicate (nc-s.size) (Value.int .u8 0)=(us++rest).toArray:=by
    apply dC;simp[us,rest]
   simp only[execOp,hop,hxe,convert,Sem.run_bind,run_underlying h1,run_underlying h2,run_underlying hu8,Result.andThen_ok,Conv.stringToBytes,run_choose_drew,Question.forced,aF,if_false,hcap,harr,newRow,run_newObj_alloc,Sem.run_pure,markStringish,run_shape]
   have hsh:w1.shape? w.heap.size=some (e,(us++rest).length):=by
    simp[World.shape?,hw1]
   show(((match w1.shape? w.heap.size with|some (_,n)=>(freeze { block:=w.heap.size,off:=n } 1)|_=>pure ()).run P w1).andThen _).andThen _=_;rw[hsh];rfl
  ·show w2.os=w.os;simp only[w2,World.freeze];rfl
  ·show w2.tape=w.tape;simp only[w2,World.freeze];rfl
  ·show w2.output=w.output;simp only[w2,World.freeze];rfl
 ·cases hE
theorem zbM{src e e':TypeId}{x:Operand}(hop:o.op = .convert src src x)(h1:P.underlying src=some (.slice e'))(h2:P.underlying src=some (.slice e))(h3:NW P e=true)
  (hA:After P Γ B0 G mF w o a K Kp next Q) (hx:ku G (ρ x) (a.eval x)) (hD:mQ m mF) (hR:Rep Γ B0 G (m.or mF) w)
  (hE : match ρ x with
  | .sl es more .own=>K (.sl es more .own) m
  |_=>False):o.wp P a w next Q:=by
 have hu8:P.underlying e=some (.int .u8):=by
  unfold NW at h3
  split at h3
  ·assumption
  ·cases h3
 split at hE
 ·rename_i es more hs;have hK:=hE;rw[hs]at hx
  obtain⟨p,len,cap,hxe,⟨t,v,E,C,hHt⟩,u,hcell⟩:∃ p len cap,a.eval x = .slice (some p) len cap∧(∃ t v E C,G.H t v=some (p.block,E,C))∧∃ u,w.cell? ⟨p.block,p.off,none⟩=some u:=by
   generalize a.eval x=z at hx
   cases hx with
   |nil h=>cases h
   | @sl _ _ _ us p cap s hsz hrel hhas hle h0 ht=>
    refine⟨_,_,_,rfl,ht.2,?_⟩
    have hne:us≠[]:=by
     rintro rfl;have hl:=hrel.length;rw[flat_length hsz]at hl;have h1:=ht.1.2;have h2:0<(es++more).length*s:=Nat.mul_pos (by rw[aH];omega) h0;rw[hl]at h2;exact absurd h2 (Nat.lt_irrefl _)
    cases us with
    |nil=>exact absurd rfl hne
    |cons u us=>exact⟨u,hR.K _ _ _ (hhas.2 0 u rfl)⟩
  obtain⟨T,cs0,fz0,hc⟩:∃ T cs0 fz0,w.heap[p.block]? = some (.cells cs0 T fz0):=by
   unfold World.cell? at hcell
   cases hb:w.heap[p.block]? with
   |none=>simp[hb]at hcell
   |some o=>
    cases o with
    |cells c T fz=>exact⟨T,c,fz,rfl⟩
    |_=>simp[hb]at hcell
  have hsh:w.shape? p.block=some (T,cs0.size):=by simp[World.shape?,hc]
  obtain⟨k2,hB⟩:=hR.mark hHt hsh
  have hbl:Below B0 w (w.freeze ⟨p.block,cs0.size,none⟩ 1):=by
   have hheap:(w.freeze ⟨p.block,cs0.size,none⟩ 1).heap=w.heap.modify p.block fun
     | .cells c elem (lo,hi)=>.cells c elem (if lo==hi then (cs0.size,cs0.size+1)else (min lo cs0.size,max hi (cs0.size+1)))
     |o=>o:=by
    unfold World.freeze;rw[if_neg (by omega)];rfl
   refine⟨?_,?_,?_,?_,fun b hb => ?_⟩
   ·simp only[World.freeze];rfl
   ·simp only[World.freeze];rfl
   ·simp only[World.freeze];rfl
   ·rw[hheap,Array.size_modify];exact Nat.le_refl _
   ·rw[hheap,dG,if_neg (by omega)]
  refine tK (u:=a.eval x) (w':=w.freeze ⟨p.block,cs0.size,none⟩ 1) ?_ (hA.next _ _ m G _ (Gh.le.refl G) hD k2 hbl hx hK);rw[hxe];simp only[execOp,hop,hxe,convert,Sem.run_bind,run_underlying h2,run_underlying hu8,Result.andThen_ok,beq_self_eq_true,markStringish,run_shape,hsh];rfl
 ·cases hE
theorem ZC{x:Operand}(hop:o.op = .panic x)(hA:After P Γ B0 G mF w o a K Kp next Q)(hx:ku G (ρ x) (a.eval x))(hD:mQ m mF)(hR:Rep Γ B0 G (m.or mF) w)
  (hE : match ρ x with
  | .ifc t v=>Kp (.ifc t v) m
  |_=>False):o.wp P a w next Q:=by
 split at hE
 ·rename_i t v hv;rw[hv]at hx;have hq:=hA.panic _ _ m G w (Gh.le.refl G) hD hR (Below.refl B0 w) hx hE;generalize hu:a.eval x=u at hx hq
  cases hx with
  | @ifc _ _ u' r=>
   unfold Oper.wp
   have hrun:(execOp a.eval o).run P w = .halt (.panic (.iface t u')) w:=by
    simp only[execOp,hop,hu,Instr.panic];rfl
   rw[hrun];exact hq
 ·cases hE
theorem zbO{c:Call}{e:TypeId}{inf:TypeInfo}{s x:Operand}{T U:TypeId}{k0:IntKind}(hop:o.op = .call c)(hcal:c.callee = .builtin .append)(hargs:c.args.toList=[s,x])(htys:c.argTypes.toList=[T,U])
  (hT:P.underlying T=some (.slice e)) (hU:P.underlying U=some (.int k0)) (hi:P.info? e=some inf) (h0:0<inf.size) (hb0:0<inf.bytes) (hok:pM P e=true) (hzl:(rF P e).map List.length=some inf.size)
  (hA:After P Γ B0 G mF w o a K Kp next Q) (hs:ku G (ρ s) (a.eval s)) (hx:ku G (ρ x) (a.eval x)) (hD:mQ m mF) (hR:Rep Γ B0 G (m.or mF) w)
  (hE : match ρ s,ρ x with
  | .sl [] [] .full,.val (.int .i64 i)=>0<i∧i.toNat*inf.bytes≤140737488355328∧∀ t,m t=none→K (.res t 0 inf.size i.toNat) (m.set t (.tip e 0))
  |_,_=>False):o.wp P a w next Q:=by
 split at hE
 ·rename_i i hsv hxv;rw[hsv]at hs;rw[hxv]at hx;obtain⟨hi0,hib,hE⟩:=hE
  have hse:a.eval s = .slice none 0 0:=by
   generalize a.eval s=z at hs
   cases hs with
   |nil _=>rfl
   |sl _ _ _ _ _ ht=>exact absurd rfl ht.2
  have hxe:a.eval x = .int .i64 i:=by
   generalize a.eval x=z at hx;cases hx;rfl
  have hf:=mX hR.fresh
  have hz:∃ z,inf.zero=some z∧z.cells.size=inf.size:=by
   simp only[rF,hi,Option.bind_some,Option.map_map,aQ]at hzl;obtain⟨z,h1,h2⟩:=hzl;exact⟨z,h1,by simpa using h2⟩
  obtain⟨z,hz1,hz2⟩:=hz;have hn1:i.toNat≤140737488355328:=Nat.le_trans (iF _ hb0) hib;have hw:IntKind.i64.wrap i=i:=wrap_small (by omega) (by omega);generalize hcap:(Question.appendCap i.toNat 0 e).cut (w.tape w.drawn (.appendCap i.toNat 0 e))=nc
  have hnc:i.toNat≤nc:=by
   rw[←hcap];simp[Question.cut]
  have hzv:=Ah (P:=P) (w:=w.drew) hi hz1;have hso:=run_sizeOf (P:=P) (w:=w) (t:=e) (n:=inf.size) (by simp[nZ,hi]);have hti:=run_typeInfo (P:=P) (w:=w) hi;have hti2:=run_typeInfo (P:=P) (w:=w.drew) hi
  have hnext:Builtin.nextslicecap i.toNat 0=i.toNat:=by
   unfold Builtin.nextslicecap;rw[if_pos (by omega)]
  have hmaxv:IntKind.i64.max=9223372036854775807:=rfl;have hai:(asInt (.int .i64 i)).run P w = .ok i w:=by simp[asInt,asIntOf]
  have hrow:(Builtin.append_ #[T,U] o.type #[.slice none 0 0,.int .i64 i]).run P w = .ok (.slice (some ⟨w.heap.size,0,none⟩) i.toNat nc) (w.drew.alloc (.cells (([]:List Value)++(Builtin.zeroCells z.cells i.toNat++Builtin.zeroCells z.cells (nc-i.toNat)).toList).toArray e)):=by
   unfold Builtin.append_;simp only[List.getElem?_toArray,List.getElem?_cons_zero,List.getElem?_cons_succ,Sem.run_bind,run_underlying hT,Result.andThen_ok,hso,run_underlying hU,Sem.run_pure,if_true,hai,hw];rw[if_neg (by omega)];simp only[Sem.run_bind,Sem.run_pure,Result.andThen_ok,hti]
   rw [if_neg (by
    have:((i.toNat*inf.bytes:Nat):Int)=i*(inf.bytes:Int):=by
     rw[Int.natCast_mul];congr 1;omega
    omega)]
   simp only[Sem.run_bind,Sem.run_pure,Result.andThen_ok];rw[if_neg (by omega)];have hmx:¬ (((0+i.toNat:Nat):Int)>IntKind.i64.max):=by rw[hmaxv];omega
   simp only[Sem.run_bind,Result.andThen_ok,hti];rw[if_neg (fun h=>hmx h.1)];simp only[Sem.run_bind,Sem.run_pure,hti,Result.andThen_ok,Nat.zero_add,hnext];rw[if_neg (by omega)]
   have hns:¬ (i.toNat*inf.size=0):=by
    intro h
    rcases Nat.mul_eq_zero.1 h with h|h<;>omega
   simp only[Sem.run_bind,Sem.run_pure,Result.andThen_ok,run_choose_drew,Question.forced,aF,if_false,hcap,hti2,run_askRoom,Builtin.firstCells,Bool.not_true,if_neg hns,hzv];simp only[newRow,Sem.run_bind,run_newObj_alloc,Result.andThen_ok,Sem.run_pure];congr 2;congr 1;apply dC;simp
  have e1:c.args.map a.eval = #[a.eval s,a.eval x]:=by
   apply dC;simp[hargs]
  have e2:c.argTypes = #[T,U]:=by
   apply dC;simp[htys]
  have hlen:(Builtin.zeroCells z.cells i.toNat++Builtin.zeroCells z.cells (nc-i.toNat)).toList.length=nc*inf.size:=by
   rw[Array.toList_append,aH,vV,vV,hz2,←Nat.add_mul];congr 1;omega
  obtain⟨k1,k2⟩:=hR.drew.newRow (us:=[]) (rest:=(Builtin.zeroCells z.cells i.toNat++Builtin.zeroCells z.cells (nc-i.toNat)).toList) (T:=e) (fz:=(0,0)) (t:=w.heap.size) (v:=0) (w':=w.drew.alloc (.cells (([]:List Value)++(Builtin.zeroCells z.cells i.toNat++Builtin.zeroCells z.cells (nc-i.toNat)).toList).toArray e)) (by simp) (fun b hb=>Below.heap_alloc _ _ _ hb)
   (by unfold World.alloc;exact iy) (fun o' _ _=>World.frozen?_alloc_new w.drew _ _ _) (.inl ⟨rfl,rfl⟩) (.inl rfl)
  rw[←xK]at k2;refine tK (u:=.slice (some ⟨w.heap.size,0,none⟩) i.toNat nc) ?_ (hA.next _ _ _ _ _ k1 (hD.set _ hf.2) k2 (((Below.refl B0 w).drew).alloc hR.base _) (.res rfl ?_ hnc) (hE _ hf.1))
  ·simp only[execOp,hop,resolve,hcal,e1,e2,hse,hxe,invoke,builtin,Sem.run_bind,Sem.run_pure,Result.andThen_ok,hrow]
  ·show(if _∧_ then _ else _)=_;rw[if_pos ⟨rfl,rfl⟩,hlen];simp
 ·cases hE
theorem zd7{e:TypeId}{inf:TypeInfo}{zc:List V}{l c:Operand}{T:TypeId}(hop:o.op = .makeSlice T l c)
  (hT:P.underlying T=some (.slice e)) (hi:P.info? e=some inf) (h0:0<inf.size) (hb0:0<inf.bytes) (hok:pM P e=true) (hzl:rF P e=some zc) (hzs:zc.length=inf.size)
  (hA:After P Γ B0 G mF w o a K Kp next Q) (hl:ku G (ρ l) (a.eval l)) (hx:ku G (ρ c) (a.eval c)) (hD:mQ m mF) (hR:Rep Γ B0 G (m.or mF) w)
  (hE : match ρ l,ρ c with
  | .val (.int .i64 l),.val (.int .i64 c)=>0≤l∧l≤c∧c.toNat*inf.bytes≤140737488355328∧∀ b,m b=none→K (.arr b 0 l.toNat c.toNat) (m.set b (.var e (bM c.toNat zc).flatten))
  |_,_=>False):o.wp P a w next Q:=by
 split at hE
 ·rename_i lv cv hlv hcv;rw[hlv]at hl;rw[hcv]at hx;obtain⟨hl0,hlc,hcb,hE⟩:=hE
  have hle:a.eval l = .int .i64 lv:=by
   generalize a.eval l=z at hl;cases hl;rfl
  have hce:a.eval c = .int .i64 cv:=by
   generalize a.eval c=z at hx;cases hx;rfl
  have hf:=mX hR.fresh;have hn1:cv.toNat≤140737488355328:=Nat.le_trans (iF _ hb0) hcb;have hw1:IntKind.i64.wrap lv=lv:=wrap_small (by omega) (by omega);have hw2:IntKind.i64.wrap cv=cv:=wrap_small (by omega) (by omega);obtain⟨zv,g1,g2⟩:=wX (G:=G) (w:=w) hzl hok;have hzsz:zv.cells.toList.length=inf.size:=by rw[←g2.length,hzs]
  have hso:=run_sizeOf (P:=P) (w:=w) (t:=e) (n:=inf.size) (by simp[nZ,hi]);have hti:=run_typeInfo (P:=P) (w:=w) hi
  have hbi:((cv.toNat*inf.bytes:Nat):Int)=cv*(inf.bytes:Int):=by
   rw[Int.natCast_mul];congr 1;omega
  have hcells:((Array.range (cv.toNat*inf.size)).map (zv.cells[· % zv.cells.size]!))=(bM cv.toNat zv.cells.toList).flatten.toArray:=by
   apply dC;rw[←Jj,hzsz];simp
  have hrow:(Instr.makeSlice T (.int .i64 lv) (.int .i64 cv)).run P w = .ok (.slice (some ⟨w.heap.size,0,none⟩) lv.toNat cv.toNat) (w.alloc (.cells (bM cv.toNat zv.cells.toList).flatten.toArray e)):=by
   have hnot:¬ ((decide (cv<0)||decide ((inf.bytes:Int)*cv>2^48))||decide (lv<0)||decide (lv>cv))=true:=by
    simp only[Bool.or_eq_true,decide_eq_true_eq,not_or];refine⟨⟨⟨by omega,?_⟩,by omega⟩,by omega⟩;rw[Int.mul_comm];omega
   have hai1:(asInt (.int .i64 lv)).run P w = .ok lv w:=by simp[asInt,asIntOf]
   have hai2:(asInt (.int .i64 cv)).run P w = .ok cv w:=by simp[asInt,asIntOf]
   unfold Instr.makeSlice;simp only[Sem.run_bind,run_underlying hT,Result.andThen_ok,hai1,hai2,Sem.run_pure,hti,hw1,hw2];rw[if_neg hnot];simp only[Sem.run_bind,Sem.run_pure,Result.andThen_ok,run_askRoom,hso]
   by_cases hz:cv.toNat*inf.size=0
   ·have:cv.toNat=0:=by
     rcases Nat.mul_eq_zero.1 hz with h|h<;>omega
    simp only[if_pos hz,Sem.run_pure,Result.andThen_ok,hz,this];simp[newRow];congr 2;apply dC;simp
   ·simp only[if_neg hz,Sem.run_bind,g1,Sem.run_pure,Result.andThen_ok,hcells];simp[newRow]
  have hnew:=hR.newVar e (g2.flatten cv.toNat);rw[←xK]at hnew;refine tK (u:=.slice (some ⟨w.heap.size,0,none⟩) lv.toNat cv.toNat) ?_ (hA.next _ _ _ _ _ (Gh.le.refl G) (hD.set _ hf.2) hnew ((Below.refl B0 w).alloc hR.base _) (.arr _ _ _ _) (hE _ hf.1));simp only[execOp,hop,hle,hce,Sem.run_bind,Sem.run_pure,Result.andThen_ok,hrow]
 ·cases hE
theorem ZX{T:TypeId}{cells:List V}(hc:nI P o=some (.alloc T cells)):o.op = .alloc T∧pM P T=true∧rF P T=some cells:=by
 unfold nI at hc
 split at hc
 case h_4 T hop=>
  split at hc
  ·rename_i hok;simp only[aQ,AOp.alloc.injEq]at hc;obtain⟨z,hz,rfl,rfl⟩:=hc;exact⟨hop,hok,hz⟩
  ·cases hc
 all_goals (first|(simp at hc;done)|(repeat' split at hc)<;>simp at hc)
theorem zev{T:TypeId}{x:Operand}(hc:nI P o=some (.box T x)):o.op = .box T x:=by
 unfold nI at hc
 split at hc
 case h_5 T y hop=>
  simp only[au,AOp.box.injEq]at hc;obtain⟨rfl,rfl⟩:=hc;exact hop
 all_goals (first|(simp at hc;done)|(repeat' split at hc)<;>simp at hc)
theorem ZV{s:Nat}{x y:Operand}(hc:nI P o=some (.store s x y)):∃ T,o.op = .store T x y∧nZ P T=some s:=by
 unfold nI at hc
 split at hc
 case h_9 T a b hop=>
  simp only[aQ,AOp.store.injEq]at hc;obtain⟨s',h1,rfl,rfl,rfl⟩:=hc;exact⟨T,hop,h1⟩
 all_goals (first|(simp at hc;done)|(repeat' split at hc)<;>simp at hc)
theorem zet{e:TypeId}{x:Operand}(hc:nI P o=some (.s2b e x)):∃ src dst,o.op = .convert src dst x∧P.underlying src=some .string∧P.underlying dst=some (.slice e)∧NW P e=true:=by
 unfold nI at hc
 split at hc
 case h_13 src dst y hop=>
  split at hc
  ·split at hc
   ·simp at hc
   ·cases hc
  ·rename_i e h1 h2
   split at hc
   ·rename_i h3;simp only[au,AOp.s2b.injEq]at hc;obtain⟨rfl,rfl⟩:=hc;exact⟨src,dst,hop,h1,h2,h3⟩
   ·cases hc
  ·split at hc
   ·simp at hc
   ·cases hc
  ·simp at hc
 all_goals (first|(simp at hc;done)|(repeat' split at hc)<;>simp at hc)
theorem zct{x:Operand}(hc:nI P o=some (.mark x)):∃ src e e',o.op = .convert src src x∧P.underlying src=some (.slice e')∧P.underlying src=some (.slice e)∧NW P e=true:=by
 unfold nI at hc
 split at hc
 case h_13 src dst y hop=>
  split at hc
  ·split at hc
   ·simp at hc
   ·cases hc
  ·split at hc
   ·simp at hc
   ·cases hc
  ·rename_i e' e h1 h2
   split at hc
   ·rename_i h3;simp only[au,AOp.mark.injEq]at hc;obtain rfl:=hc;obtain⟨h3,rfl⟩:=h3;exact⟨src,e,e',hop,h1,h2,h3⟩
   ·cases hc
  ·simp at hc
 all_goals (first|(simp at hc;done)|(repeat' split at hc)<;>simp at hc)
theorem zcu{f:Operand}{args:List Operand}(hc:nI P o=some (.call f args)):∃ c,o.op = .call c∧c.callee = .value f∧c.args.toList=args:=by
 unfold nI at hc
 split at hc
 case h_26 c hop=>
  split at hc
  ·rename_i g hg;simp only[au,AOp.call.injEq]at hc;obtain⟨rfl,rfl⟩:=hc;exact⟨c,hop,hg,rfl⟩
  all_goals ((repeat' split at hc)<;>simp at hc)
 all_goals (first|(simp at hc;done)|(repeat' split at hc)<;>simp at hc)
theorem zew{e:TypeId}{bytes size:Nat}{s x:Operand}(hc:nI P o=some (.app e bytes size s x)):∃ c T U inf,o.op = .call c∧c.callee = .builtin .append∧c.args.toList=[s,x]∧c.argTypes.toList=[T,U] ∧
  P.underlying T=some (.slice e)∧(∀ k,P.underlying U≠some (.int k))∧(∃ d,P.underlying U=some d)∧P.info? e=some inf∧inf.bytes=bytes∧inf.size=size∧0<inf.size∧0<inf.bytes∧pM P e=true∧(rF P e).map List.length=some inf.size:=by
 unfold nI at hc
 split at hc
 case h_26 c hop=>
  split at hc
  ·simp at hc
  ·(repeat' split at hc)<;>simp at hc
  ·rename_i hcal
   split at hc
   ·rename_i s' x' T U ha ht
    split at hc
    ·split at hc
     ·split at hc
      ·simp at hc
      ·cases hc
     ·cases hc
    ·rename_i e d hU hT hne
     split at hc
     ·rename_i inf hinf
      split at hc
      ·rename_i hcc;simp only[au,AOp.app.injEq]at hc;obtain⟨rfl,rfl,rfl,rfl,rfl⟩:=hc;refine⟨c,T,U,inf,hop,hcal,ha,ht,hT,fun k hk => ?_,⟨d,hne⟩,hinf,rfl,rfl,hcc.1,hcc.2.1,hcc.2.2.1,hcc.2.2.2⟩;rw[hne]at hk;exact hU k (Option.some.inj hk)
      ·cases hc
     ·cases hc
    ·cases hc
   ·cases hc
  all_goals ((repeat' split at hc)<;>simp at hc)
 all_goals (first|(simp at hc;done)|(repeat' split at hc)<;>simp at hc)
theorem zcv{e:TypeId}{bytes size:Nat}{s x:Operand}(hc:nI P o=some (.appz e bytes size s x)):∃ c T U inf k0,o.op = .call c∧c.callee = .builtin .append∧c.args.toList=[s,x]∧c.argTypes.toList=[T,U] ∧
  P.underlying T=some (.slice e)∧P.underlying U=some (.int k0)∧P.info? e=some inf∧inf.bytes=bytes∧inf.size=size∧0<inf.size∧0<inf.bytes∧pM P e=true∧(rF P e).map List.length=some inf.size:=by
 unfold nI at hc
 split at hc
 case h_26 c hop=>
  split at hc
  ·simp at hc
  ·(repeat' split at hc)<;>simp at hc
  ·rename_i hcal
   split at hc
   ·rename_i s' x' T U ha ht
    split at hc
    ·rename_i e k0 hT hU
     split at hc
     ·rename_i inf hinf
      split at hc
      ·rename_i hcc;simp only[au,AOp.appz.injEq]at hc;obtain⟨rfl,rfl,rfl,rfl,rfl⟩:=hc;exact⟨c,T,U,inf,k0,hop,hcal,ha,ht,hT,hU,hinf,rfl,rfl,hcc.1,hcc.2.1,hcc.2.2.1,hcc.2.2.2⟩
      ·cases hc
     ·cases hc
    ·split at hc
     ·split at hc
      ·simp at hc
      ·cases hc
     ·cases hc
    ·cases hc
   ·cases hc
  all_goals ((repeat' split at hc)<;>simp at hc)
 all_goals (first|(simp at hc;done)|(repeat' split at hc)<;>simp at hc)
theorem zeu{e:TypeId}{bytes:Nat}{z:List V}{l k:Operand}(hc:nI P o=some (.mks e bytes z l k)):∃ T inf,o.op = .makeSlice T l k ∧
  P.underlying T=some (.slice e)∧P.info? e=some inf∧inf.bytes=bytes∧0<inf.size∧0<inf.bytes∧pM P e=true∧rF P e=some z∧z.length=inf.size:=by
 unfold nI at hc
 split at hc
 case h_21 T l' k' hop=>
  split at hc
  ·rename_i e hT
   split at hc
   ·rename_i inf z hinf hz
    split at hc
    ·rename_i hcc;simp only[au,AOp.mks.injEq]at hc;obtain⟨rfl,rfl,rfl,rfl,rfl⟩:=hc;exact⟨T,inf,hop,hT,hinf,rfl,hcc.1,hcc.2.1,hcc.2.2.1,hz,hcc.2.2.2⟩
    ·cases hc
   ·cases hc
  ·cases hc
 all_goals (first|(simp at hc;done)|(repeat' split at hc)<;>simp at hc)
theorem ZW{x:Operand}(hc:nI P o=some (.panic x)):o.op = .panic x:=by
 unfold nI at hc
 split at hc
 case h_23 y hop=>
  simp only[au,AOp.panic.injEq]at hc;obtain rfl:=hc;exact hop
 all_goals (first|(simp at hc;done)|(repeat' split at hc)<;>simp at hc)
theorem ZA{r:Option Nat}{ao:AOp}(hc:nI P o=some ao)(hA:After P Γ B0 G mF w o a K Kp next Q)(hρ:∀ x∈o.op.operands,ku G (ρ x) (a.eval x))(hD:mQ m mF)(hR:Rep Γ B0 G (m.or mF) w)
  (hE:opE P Γ ρ m K Kp ao):o.wpIn (Fr r) 0 P a w next Q:=by
 have hnd:∀ c,o.op ≠ .defer c:=by
  intro c hk;simp[nI,hk]at hc
 have quiet:(∃ v,jJ P ρ m ao=some v∧K v m)→o.wpIn (Fr r) 0 P a w next Q:=fun h=>oM hnd (ZB hA hc hρ hD hR h)
 cases ao with
 |alloc T cells=>
  obtain⟨hop,hok,hz⟩:=ZX hc;exact oM hnd (ZF hop hA hD hR hz hok hE)
 |box T x=>
  have hop:=zev hc;exact oM hnd (zd8 hop hA (hρ x (by rw[hop];simp[Op.operands])) hD hR hE)
 |store s x y=>
  obtain⟨T,hop,hs⟩:=ZV hc;exact oM hnd (Zz hop hs hA (hρ x (by rw[hop];simp[Op.operands])) (hρ y (by rw[hop];simp[Op.operands])) hD hR hE)
 |s2b e x=>
  obtain⟨src,dst,hop,h1,h2,h3⟩:=zet hc;exact oM hnd (zd6 hop h1 h2 h3 hA (hρ x (by rw[hop];simp[Op.operands])) hD hR hE)
 |mark x=>
  obtain⟨src,e,e',hop,h1,h2,h3⟩:=zct hc;exact oM hnd (zbM hop h1 h2 h3 hA (hρ x (by rw[hop];simp[Op.operands])) hD hR hE)
 |call f args=>
  obtain⟨c,hop,hf,rfl⟩:=zcu hc;have hfv:=hρ f (by rw[hop];simp[Op.operands,Call.operands,hf]);have hav:∀ x∈c.args.toList,ku G (ρ x) (a.eval x):=fun x hx=>hρ x (by rw[hop];simp[Op.operands,Call.operands,hf];exact .inr (by simpa using hx));simp only[opE]at hE
  split at hE
  ·rename_i g first caps hp;exact oM hnd (zbN hop hf hA hfv hav hD hR (by rw[hp];exact hE))
  ·rename_i l hp;rw[hp]at hfv;exact Zy hop hf hA hfv hav hD hR hE
  ·cases hE
 |app e bytes size s x=>
  obtain⟨c,T,U,inf,hop,hcal,ha,ht,hT,hU,hUs,hi,rfl,rfl,h0,hb0,hok,hzl⟩:=zew hc;exact oM hnd (zd9 hop hcal ha ht hT hU hUs hi h0 hb0 hok hzl hA (hρ s (by rw[hop];simp[Op.operands,Call.operands,hcal];rw[←dR,ha];simp)) (hρ x (by rw[hop];simp[Op.operands,Call.operands,hcal];rw[←dR,ha];simp)) hD hR hE)
 |appz e bytes size s x=>
  obtain⟨c,T,U,inf,k0,hop,hcal,ha,ht,hT,hU,hi,rfl,rfl,h0,hb0,hok,hzl⟩:=zcv hc;exact oM hnd (zbO hop hcal ha ht hT hU hi h0 hb0 hok hzl hA (hρ s (by rw[hop];simp[Op.operands,Call.operands,hcal];rw[←dR,ha];simp)) (hρ x (by rw[hop];simp[Op.operands,Call.operands,hcal];rw[←dR,ha];simp)) hD hR hE)
 |mks e bytes z l k=>
  obtain⟨T,inf,hop,hT,hi,rfl,h0,hb0,hok,hz,hzs⟩:=zeu hc;exact oM hnd (zd7 hop hT hi h0 hb0 hok hz hzs hA (hρ l (by rw[hop];simp[Op.operands])) (hρ k (by rw[hop];simp[Op.operands])) hD hR hE)
 |panic x=>
  have hop:=ZW hc;exact oM hnd (ZC hop hA (hρ x (by rw[hop];simp[Op.operands])) hD hR hE)
 |bad=>exact hE.elim
 |_=>exact quiet hE
theorem Nz{r:Option Nat}{ao:AOp}(hc:Vh P o=some ao)(hA:After P Γ B0 G mF w o a K Kp next Q)(hρ:∀ x∈o.op.operands,ku G (ρ x) (a.eval x))(hD:mQ m mF)(hR:Rep Γ B0 G (m.or mF) w)
  (hE:opE P Γ ρ m K Kp ao):o.wpIn (Fr r) 0 P a w next Q:=by
 simp only[Vh,au]at hc
 cases h:nI P o with
 |none=>
  rw[h]at hc;simp only[Option.getD_none]at hc;subst hc;exact hE.elim
 |some x=>
  rw[h]at hc;simp only[Option.getD_some]at hc;subst hc;exact ZA h hA hρ hD hR hE
end
end Go.Av
