/- What arguments weigh, one by one. No condition. -/
import Derived.ChangeMaps5
import Derived.Deep.Strs
import Derived.Test.YtmglaebjmaomnaaGreatDoorTAvC
open List renaming drop_zero → zfx, take_succ_cons → zfE, range → zfb
namespace Go.Proofs.YtmglaebjmaomnaaGreatDoor
open Go.ChangeShapes Go.WideShapes Go.ChangeAt Go.RowKit Go.Av.Fn Go.ChangeMaps Go.Av
set_option linter.unusedSimpArgs false
set_option linter.unusedVariables false
set_option maxRecDepth 100000
end Go.Proofs.YtmglaebjmaomnaaGreatDoor
/- A log, and its entries, read az data. No condition. -/
namespace Go.Proofs.YtmglaebjmaomnaaGreatDoor
open Go.ChangeShapes Go.WideShapes Go.ChangeAt Go.RowKit Go.Av.Fn Go.ChangeMaps Go.Av
set_option linter.unusedVariables false
set_option linter.unusedSimpArgs false
set_option maxRecDepth 100000
def entC (e : Go.Av.Fn.Ent) : List Value := [.int .i64 e.c,.int .i64 e.q,.int .i64 e.k,.int .i64 e.n,.string ⟨e.s.toArray⟩,.int .i64 e.ck,.int .i64 e.cn,.string ⟨e.cs.toArray⟩]
def EntI (e : Go.Av.Fn.Ent) : Prop := I64 e.c ∧ I64 e.q ∧ I64 e.k ∧ I64 e.n ∧ I64 e.ck ∧ I64 e.cn ∧ e.s.length ≤ maxLen ∧ e.cs.length ≤ maxLen
instance : Inhabited Go.Av.Fn.Ent := ⟨⟨0,0,0,0,[],0,0,[]⟩⟩
theorem bs_arr (s : ByteArray) : (⟨s.data.toList.toArray⟩ : ByteArray) = s := by simp
theorem trod_ent {H : Type} {enc : TypeId × Value → H} {W : World} {cs : List Value} {x : DataW H × List MemPlace} {fuel : Nat} (h : DataW.trod enc Tryz.prog W 0 (fun _ => true) true fuel 42 cs = some x) :
  ∃ e : Go.Av.Fn.Ent,cs = entC e ∧ EntI e := by
 obtain ⟨xs,n,_,rfl,hl,hlen,hf⟩ := DataW.trod_struct Tryz.underlying42 h
 have hc3 : Tryz.prog.cellsOf 40 = 3 := by kernel_rfl
 have hcI : Tryz.prog.cellsOf 3 = 1 := by kernel_rfl
 have hcA : Tryz.prog.cellsOf 37 = 1 := by kernel_rfl
 have hcS : Tryz.prog.cellsOf 9 = 1 := by kernel_rfl
 have hc1 : Tryz.prog.cellsOf 38 = 1 := by kernel_rfl
 have hc8 : Tryz.prog.cellsOf 42 = 8 := by kernel_rfl
 rw [hc8] at hl
 match cs,hl with
 | [a,b,c,d,e,f,g,i],_ =>
  match xs,hlen with
  | [y0,y1,y2,y3,y4,y5],_ =>
   have h0 : DataW.trod enc Tryz.prog W 0 (fun _ => true) true n 3 (([a,b,c,d,e,f,g,i].drop 0).take (Tryz.prog.cellsOf 3)) = some y0 := hf 0 _ rfl
   have h1 : DataW.trod enc Tryz.prog W 0 (fun _ => true) true n 3 (([a,b,c,d,e,f,g,i].drop 1).take (Tryz.prog.cellsOf 3)) = some y1 := hf 1 _ rfl
   have h2 : DataW.trod enc Tryz.prog W 0 (fun _ => true) true n 37 (([a,b,c,d,e,f,g,i].drop 2).take (Tryz.prog.cellsOf 37)) = some y2 := hf 2 _ rfl
   have h3 : DataW.trod enc Tryz.prog W 0 (fun _ => true) true n 3 (([a,b,c,d,e,f,g,i].drop 3).take (Tryz.prog.cellsOf 3)) = some y3 := hf 3 _ rfl
   have h4 : DataW.trod enc Tryz.prog W 0 (fun _ => true) true n 9 (([a,b,c,d,e,f,g,i].drop 4).take (Tryz.prog.cellsOf 9)) = some y4 := hf 4 _ rfl
   have h5 : DataW.trod enc Tryz.prog W 0 (fun _ => true) true n 40 (([a,b,c,d,e,f,g,i].drop 5).take (Tryz.prog.cellsOf 40)) = some y5 := hf 5 _ rfl
   simp only [hc3,hcI,hcA,hcS,zfx,zfE,List.take_zero,List.drop_succ_cons] at h0 h1 h2 h3 h4 h5
   obtain ⟨k0,c0,e0,w0⟩ := DataW.trod_int Tryz.underlying3 h0
   obtain ⟨k1,c1,e1,w1⟩ := DataW.trod_int Tryz.underlying3 h1
   obtain ⟨k2,c2,e2,w2⟩ := DataW.trod_int Tryz.underlying37 h2
   obtain ⟨k3,c3,e3,w3⟩ := DataW.trod_int Tryz.underlying3 h3
   obtain ⟨s4,c4,e4,w4⟩ := DataW.trod_string Tryz.underlying9 h4
   obtain ⟨z0,z1,z2,nn,hx,hlen2,g0,g1,g2⟩ := Go.Deep.trod_struct3 Tryz.underlying40 h5
   simp only [hc1,hcI,hcS,zfx,zfE,List.take_zero,List.drop_succ_cons] at g0 g1 g2
   obtain ⟨k5,c5,e5,w5⟩ := DataW.trod_int Tryz.underlying38 g0
   obtain ⟨k6,c6,e6,w6⟩ := DataW.trod_int Tryz.underlying3 g1
   obtain ⟨s7,c7,e7,w7⟩ := DataW.trod_string Tryz.underlying9 g2
   simp only [List.cons.injEq,and_true] at c0 c1 c2 c3 c4 c5 c6 c7
   subst c0 c1 c2 c3 c4 c5 c6 c7
   exact ⟨⟨k0,k1,k2,k3,s4.data.toList,k5,k6,s7.data.toList⟩,by simp only [entC,bs_arr],wf_i64 w0,wf_i64 w1,wf_i64 w2,wf_i64 w3,wf_i64 w5,wf_i64 w6,w4,w7⟩
theorem entC_rel {G : Gh} (e : Go.Av.Fn.Ent) : RelL G (entV e).cells (entC e) := .cons (.val rfl) (.cons (.val rfl) (.cons (.val rfl) (.cons (.val rfl) (.cons (.val rfl) (.cons (.val rfl) (.cons (.val rfl) (.cons (.val rfl) .nil)))))))
theorem ents_rel {G : Gh} : ∀ l : List Go.Av.Fn.Ent,RelL G (flat (l.map entV)) (l.flatMap entC)
 | [] => .nil
 | e :: l => by
  rw [List.map_cons,zaO,List.flatMap_cons]
  exact (entC_rel e).append (ents_rel l)
theorem ents_at : ∀ (l : List Go.Av.Fn.Ent) (j : Nat) (u : Value),(l.flatMap entC)[j]? = some u → ∃ (i k : Nat) (e : Go.Av.Fn.Ent),j = i * 8 + k ∧ k < 8 ∧ l[i]? = some e ∧ (entC e)[k]? = some u
 | [],j,u,h => by simp at h
 | e :: l,j,u,h => by
  rw [List.flatMap_cons] at h
  by_cases hj : j < 8
  ·rw [List.getElem?_append_left (by simpa [entC] using hj)] at h
   exact ⟨0,j,e,by omega,hj,rfl,h⟩
  ·rw [List.getElem?_append_right (by simp [entC]; omega)] at h
   obtain ⟨i,k,e',h1,h2,h3,h4⟩ := ents_at l _ u h
   have h8 : (entC e).length = 8 := rfl
   rw [h8] at h1
   exact ⟨i + 1,k,e',by omega,h2,by simpa using h3,h4⟩
theorem open_ents {H : Type} {enc : TypeId × Value → H} {W : World} {cs : List Value} {x : DataW H × List MemPlace} {fuel : Nat} (hsp : ∀ a len cap,cs = [.slice (some a) len cap] → a.spot = none) (h : DataW.trod enc Tryz.prog W 0 (fun _ => true) true fuel 24 cs = some x) :
  ∃ (nn : Bool) (l : List Go.Av.Fn.Ent) (v : Value),cs = [v] ∧ RelV (startA W) (zbN nn l) v ∧ (nn = true ∨ l = []) ∧ l.length ≤ maxLen ∧ ∀ e ∈ l,EntI e := by
 have hc8 : Tryz.prog.cellsOf 42 = 8 := by kernel_rfl
 rcases Go.Deep.open_slice Tryz.underlying24 h with ⟨rfl,rfl⟩ | ⟨a,len,cap,m,n,D,Pl,rfl,_,h3,h4,h5,h6,h7⟩
 ·exact ⟨false,[],_,rfl,.nil rfl,.inr rfl,Nat.zero_le _,fun e he => by cases he⟩
 ·have hs := hsp a len cap rfl
  simp only [if_true] at h5
  subst h5
  obtain ⟨f,hf⟩ := Go.Deep.choose_lt (α := Go.Av.Fn.Ent) (n := len) (p := fun i e => (∀ k,k < 8 → W.cell? (a.add (i * 8 + k)) = (entC e)[k]?) ∧ EntI e) (fun i hi => by
   obtain ⟨cs',g1,g2⟩ := h7 i (by omega)
   rw [hc8] at g1
   obtain ⟨e,rfl,he⟩ := trod_ent g2
   obtain ⟨_,_,g3⟩ := World.cells?_some g1
   refine ⟨e,fun k hk => ?_,he⟩
   have := g3 k hk
   rw [add_plain hs,add_plain rfl] at this
   rw [add_plain hs,← this,Nat.add_assoc])
  have hlen : ((zfb len).map f).length = len := by simp
  refine ⟨true,(zfb len).map f,_,rfl,?_,.inl rfl,by rw [hlen]; omega,?_⟩
  ·have := RelV.sl (G := startA W) (es := ((zfb len).map f).map entV) (more := []) (tok := .non) (us := ((zfb len).map f).flatMap entC) (a := a) (cap := m) (s := 8) (by
     intro e he
     rw [List.append_nil] at he
     obtain ⟨b,_,rfl⟩ := List.mem_map.1 he
     rfl) (by rw [List.append_nil]; exact ents_rel _) (has_cells hs (by
     intro j u hu
     obtain ⟨i,k,e,rfl,hk,hi,hu'⟩ := ents_at _ _ _ hu
     rw [List.getElem?_map] at hi
     obtain ⟨i',hi',rfl⟩ := Option.map_eq_some_iff.1 hi
     obtain ⟨hlt,e2⟩ := List.getElem?_eq_some_iff.1 hi'
     simp only [List.length_range] at hlt
     simp only [List.getElem_range] at e2
     subst e2
     rw [(hf i hlt).1 k hk]
     exact hu')) (by simpa using h3) (by decide) trivial
   rw [List.length_map,hlen] at this
   exact this
  ·intro e he
   obtain ⟨i,hi,rfl⟩ := List.mem_map.1 he
   exact (hf i (by simpa using hi)).2
theorem open_int {H : Type} {enc : TypeId × Value → H} {W : World} {base : Nat} {v : Value} {d : DataW H} {ps : List MemPlace} (hv : Value.okWide Tryz.prog W .any base 3 v) (h : DataW.Trod enc Tryz.prog W 0 (fun _ => true) true 3 v d ps) :
  ∃ n : Int,v = .int .i64 n ∧ I64 n := by
 obtain ⟨fuel,hf⟩ := h
 obtain ⟨n,c0,e0,w0⟩ := DataW.trod_int Tryz.underlying3 hf
 have hn : zbe v = true := by
  simp only [Value.okWide,Tryz.underlying3] at hv
  exact noAgg_cell hv
 rw [noAgg_cells hn] at c0
 exact ⟨n,by simpa using c0,wf_i64 w0⟩
end Go.Proofs.YtmglaebjmaomnaaGreatDoor
/- What the world at the door meets; the table of types is in order; a command read as data. No condition. -/
namespace Go.Proofs.YtmglaebjmaomnaaGreatDoor
open Go.ChangeShapes Go.WideShapes Go.ChangeAt Go.RowKit Go.Av.Fn Go.ChangeMaps Go.Av
set_option linter.unusedVariables false
theorem own : ownKnob Tryz.prog.godebug = none := by kernel_rfl
theorem door_met (os : Os) (args : Array Value) : laidMetH Tryz.prog laidL ((World.doorLaid Tryz.prog 4000 os).forCall (fun _ _ => 0) ⟨#[],args,[]⟩).memory :=
 laidMetH_of_parts3 (fuel := 8) (laidMet_of_run' 8 (by kernel_rfl) (by kernel_rfl)) (by kernel_rfl) (by kernel_rfl)
theorem types_ok : typesOk Tryz.prog = true := by kernel_rfl
end Go.Proofs.YtmglaebjmaomnaaGreatDoor
/- What the program's harness is, and that it looks. No condition. -/
namespace Go.Proofs.YtmglaebjmaomnaaGreatDoor
open Go.ChangeShapes Go.WideShapes Go.ChangeAt Go.RowKit Go.Av.Fn Go.ChangeMaps Go.Av
theorem mainT : Tryz.pinned.checked.prog.mainIs = some (true, (("bb766fb570bec7cb2739f021d878634c7761997539a2e05ecd9a98ea531ab34b" : String).toList)) := by kernel_rfl
theorem looksT : true = Tryz.pinned.checked.prog.looks [] := by kernel_rfl
end Go.Proofs.YtmglaebjmaomnaaGreatDoor
/- A message read az data. No condition. -/
namespace Go.Proofs.YtmglaebjmaomnaaGreatDoor
open Go.ChangeShapes Go.WideShapes Go.ChangeAt Go.RowKit Go.Av.Fn Go.ChangeMaps Go.Av
set_option linter.unusedVariables false
set_option linter.unusedSimpArgs false
set_option maxRecDepth 100000
set_option maxHeartbeats 3200000 in
theorem open_msg {H : Type} {enc : TypeId × Value → H} {W : World} {base : Nat} {v : Value} {d : DataW H} {ps : List MemPlace} (hv : Value.okWide Tryz.prog W .any base 68 v) (h : DataW.Trod enc Tryz.prog W 0 (fun _ => true) true 68 v d ps) :
  ∃ (nn : Bool) (x : Mg),RelV (startA W) (msgV nn x) v ∧ MgN x := by
 have hv0 := hv
 obtain ⟨l,rfl,hl,hna⟩ := struct_cells Tryz.underlying68 hv
 obtain ⟨fuel,hf⟩ := h
 obtain ⟨xs,n,_,hx,hl2,hlen,hf⟩ := DataW.trod_struct Tryz.underlying68 hf
 have hcM : Tryz.prog.cellsOf 64 = 1 := by kernel_rfl
 have hcI : Tryz.prog.cellsOf 3 = 1 := by kernel_rfl
 have hcS : Tryz.prog.cellsOf 9 = 1 := by kernel_rfl
 have hcE : Tryz.prog.cellsOf 42 = 8 := by kernel_rfl
 have hcL : Tryz.prog.cellsOf 26 = 3 := by kernel_rfl
 have hcN : Tryz.prog.cellsOf 24 = 1 := by kernel_rfl
 have hcR : Tryz.prog.cellsOf 66 = 3 := by kernel_rfl
 have hcX : Tryz.prog.cellsOf 34 = 1 := by kernel_rfl
 have hc22 : Tryz.prog.cellsOf 68 = 22 := by kernel_rfl
 rw [hc22] at hl
 match l,hl with
 | [c0,c1,c2,c3,c4,c5,c6,c7,c8,c9,c10,c11,c12,c13,c14,c15,c16,c17,c18,c19,c20,c21],_ =>
  match xs,hlen with
  | [y0,y1,y2,y3,y4,y5,y6,y7,y8,y9,y10],_ =>
   obtain ⟨cl,hcl⟩ : ∃ cl,cl = [c0,c1,c2,c3,c4,c5,c6,c7,c8,c9,c10,c11,c12,c13,c14,c15,c16,c17,c18,c19,c20,c21] := ⟨_,rfl⟩
   have g0 : DataW.trod enc Tryz.prog W 0 (fun _ => true) true n 64 ((cl.drop 0).take (Tryz.prog.cellsOf 64)) = some y0 := by rw [hcl]; exact hf 0 _ rfl
   have g1 : DataW.trod enc Tryz.prog W 0 (fun _ => true) true n 3 ((cl.drop 1).take (Tryz.prog.cellsOf 3)) = some y1 := by rw [hcl]; exact hf 1 _ rfl
   have g2 : DataW.trod enc Tryz.prog W 0 (fun _ => true) true n 3 ((cl.drop 2).take (Tryz.prog.cellsOf 3)) = some y2 := by rw [hcl]; exact hf 2 _ rfl
   have g3 : DataW.trod enc Tryz.prog W 0 (fun _ => true) true n 3 ((cl.drop 3).take (Tryz.prog.cellsOf 3)) = some y3 := by rw [hcl]; exact hf 3 _ rfl
   have g4 : DataW.trod enc Tryz.prog W 0 (fun _ => true) true n 3 ((cl.drop 4).take (Tryz.prog.cellsOf 3)) = some y4 := by rw [hcl]; exact hf 4 _ rfl
   have g5 : DataW.trod enc Tryz.prog W 0 (fun _ => true) true n 3 ((cl.drop 5).take (Tryz.prog.cellsOf 3)) = some y5 := by rw [hcl]; exact hf 5 _ rfl
   have g6 : DataW.trod enc Tryz.prog W 0 (fun _ => true) true n 3 ((cl.drop 6).take (Tryz.prog.cellsOf 3)) = some y6 := by rw [hcl]; exact hf 6 _ rfl
   have g7 : DataW.trod enc Tryz.prog W 0 (fun _ => true) true n 3 ((cl.drop 7).take (Tryz.prog.cellsOf 3)) = some y7 := by rw [hcl]; exact hf 7 _ rfl
   have g8 : DataW.trod enc Tryz.prog W 0 (fun _ => true) true n 42 ((cl.drop 8).take (Tryz.prog.cellsOf 42)) = some y8 := by rw [hcl]; exact hf 8 _ rfl
   have g9 : DataW.trod enc Tryz.prog W 0 (fun _ => true) true n 26 ((cl.drop 16).take (Tryz.prog.cellsOf 26)) = some y9 := by rw [hcl]; exact hf 9 _ rfl
   have g10 : DataW.trod enc Tryz.prog W 0 (fun _ => true) true n 66 ((cl.drop 19).take (Tryz.prog.cellsOf 66)) = some y10 := by rw [hcl]; exact hf 10 _ rfl
   rw [hcl] at g0 g1 g2 g3 g4 g5 g6 g7 g8 g9 g10
   simp only [hcM,hcI,hcE,hcL,hcR,zfx,zfE,List.take_zero,List.drop_succ_cons] at g0 g1 g2 g3 g4 g5 g6 g7 g8 g9 g10
   obtain ⟨k0,e0,_,w0⟩ := DataW.trod_int Tryz.underlying64 g0
   obtain ⟨k1,e1,_,w1⟩ := DataW.trod_int Tryz.underlying3 g1
   obtain ⟨k2,e2,_,w2⟩ := DataW.trod_int Tryz.underlying3 g2
   obtain ⟨k3,e3,_,w3⟩ := DataW.trod_int Tryz.underlying3 g3
   obtain ⟨k4,e4,_,w4⟩ := DataW.trod_int Tryz.underlying3 g4
   obtain ⟨k5,e5,_,w5⟩ := DataW.trod_int Tryz.underlying3 g5
   obtain ⟨k6,e6,_,w6⟩ := DataW.trod_int Tryz.underlying3 g6
   obtain ⟨k7,e7,_,w7⟩ := DataW.trod_int Tryz.underlying3 g7
   obtain ⟨en,e8,w8⟩ := trod_ent g8
   obtain ⟨z0,z1,z2,_,_,_,q0,q1,q2⟩ := Go.Deep.trod_struct3 Tryz.underlying26 g9
   obtain ⟨u0,u1,u2,_,_,_,r0,r1,r2⟩ := Go.Deep.trod_struct3 Tryz.underlying66 g10
   simp only [hcI,hcS,hcN,hcX,zfx,zfE,List.take_zero,List.drop_succ_cons] at q0 q1 q2 r0 r1 r2
   obtain ⟨b,eb,_,wb⟩ := DataW.trod_int Tryz.underlying3 q0
   obtain ⟨ck,ec,_,wc⟩ := DataW.trod_string Tryz.underlying9 q1
   obtain ⟨re,er,_,wr⟩ := DataW.trod_int Tryz.underlying34 r0
   obtain ⟨rn,ern,_,wrn⟩ := DataW.trod_int Tryz.underlying3 r1
   obtain ⟨rs,ers,_,wrs⟩ := DataW.trod_string Tryz.underlying9 r2
   have hsp : ∀ p len cap,[c18] = [.slice (some p) len cap] → p.spot = none := by
    intro p len cap e
    simp only [List.cons.injEq,and_true] at e
    simp only [Value.okWide,Tryz.underlying68] at hv0
    obtain ⟨cs,p1,p2,ts,p3,p4,p5⟩ := hv0
    have hcs : cs[18]? = some (.slice (some p) len cap) := by
     cases p1
     rw [← e]
     rfl
    obtain ⟨u,p6,p7⟩ := p5 18 _ hcs
    have hts : Tryz.prog.cellTypes Tryz.prog.depth 68 = some ts := p3
    have : u = 24 := by
     have hk : Tryz.prog.cellTypes Tryz.prog.depth 68 = some [64,3,3,3,3,3,3,3,3,3,37,3,9,38,3,9,3,9,24,34,3,9] := by kernel_rfl
     rw [hk] at hts
     cases hts
     simpa using p6.symm
    subst this
    simp only [Cell.okWide,Cell.ok,Tryz.underlying24] at p7
    exact p7.2.2.2.1
   obtain ⟨nb,es,v',c2',hr,hn,hle,hi⟩ := open_ents hsp q2
   simp only [entC,List.cons.injEq,and_true] at e0 e1 e2 e3 e4 e5 e6 e7 e8 eb ec c2' er ern ers
   obtain ⟨i1,i2,i3,i4,i5,i6,_⟩ := w8
   obtain ⟨f1,f2,f3,f4,f5,f6,f7,f8⟩ := e8
   subst e0 e1 e2 e3 e4 e5 e6 e7 eb ec c2' er ern ers f1 f2 f3 f4 f5 f6 f7 f8
   refine ⟨nb,⟨k0,k1,k2,k3,k4,k5,k6,k7,en,⟨b,ck.data.toList,es⟩,⟨re,rn,rs.data.toList⟩⟩,?_,wf_i64 w0,wf_i64 w1,wf_i64 w2,⟨i1,i2,i3,i4,i5,i6⟩,wf_i64 wb,fun e he => ?_,wf_i64 wrn⟩
   ·exact .agg (.cons (.val rfl) (.cons (.val rfl) (.cons (.val rfl) (.cons (.val rfl) (.cons (.val rfl) (.cons (.val rfl) (.cons (.val rfl) (.cons (.val rfl) (.cons (.val rfl) (.cons (.val rfl) (.cons (.val rfl) (.cons (.val rfl) (.cons (.val rfl) (.cons (.val rfl) (.cons (.val rfl) (.cons (.val rfl) (.cons (.val rfl) (.cons (relv_string ck) (.cons hr (.cons (.val rfl) (.cons (.val rfl) (.cons (relv_string rs) .nil))))))))))))))))))))))
   ·obtain ⟨j1,j2,j3,j4,j5,j6,_⟩ := hi e he
    exact ⟨j1,j2,j3,j4,j5,j6⟩
end Go.Proofs.YtmglaebjmaomnaaGreatDoor
/- A message with bytes behind it is read az the message, and cut it is not read: the row, and its tied card. Condition: what the row says of the listed variables. -/
namespace Go.Proofs.YtmglaebjmaomnaaGreatDoor
open Go.ChangeShapes Go.WideShapes Go.ChangeAt Go.RowKit Go.Av.Fn Go.ChangeMaps Go.Av
set_option linter.unusedVariables false
set_option maxRecDepth 100000
theorem messageCut_lifted (os : Os) (started : os.Started) (H : Type) (enc : TypeId × Value → H) :
  ReturnsInHanded {} Tryz.checked os 11 .any (fun w args => (Rows.messageCutSpec.pre enc Tryz.prog Tryz.f11 [] false w args ∧ laidMetH Tryz.prog laidL w) ∧ sizedMet enc Tryz.prog Tryz.f11 (OpenSpec.ofChange Rows.messageCutSpec) false w args)
   (Rows.messageCutSpec.post enc Tryz.prog Tryz.f11 false true false false) := by
 refine returnsInHanded_of_change_and (C := Tryz.checked) (X := fun w _ => laidMetH Tryz.prog laidL w) (fun _ _ _ hh h => h.of_heap hh) own started (by kernel_rfl) Tryz.func11
  (ChangeSpec.witness_shaped (enc := enc) (C := Tryz.checked) (os := os) (X := fun w _ => laidMetH Tryz.prog laidL w) false (World.doorLaid Tryz.prog 4000 os) #[.agg #[.int .i64 0,.int .i64 0,.int .i64 0,.int .i64 0,.int .i64 0,.int .i64 0,.int .i64 0,.int .i64 0,.int .i64 0,.int .i64 0,.int .i64 0,.int .i64 0,.string ⟨#[]⟩,.int .i64 0,.int .i64 0,.string ⟨#[]⟩,.int .i64 0,.string ⟨#[]⟩,.slice none 0 0,.int .i64 0,.int .i64 0,.string ⟨#[]⟩],.int .i64 0,.slice none 0 0] 8 rfl (World.shaped_of_RefB (by kernel_rfl) (by kernel_rfl)) (by kernel_rfl) (by kernel_rfl) (by kernel_rfl) (door_met os _)) ?_
 intro W base args ds gs before hval0 hW x1 x2 hL x3
 have hval : ∀ (j : Nat) t v,Tryz.f11.params[j]? = some t → args[j]? = some v → Value.okWide Tryz.prog W .any base t v := hval0
 have hW' := hW
 obtain ⟨p,q,hA0,hV,rfl,hfz,hnd⟩ := hW
 have hA : DataW.TrodAll enc Tryz.prog W 0 (fun _ => true) true Tryz.f11.params.toList args.toList ds p := hA0
 rw [Tryz.params11] at hA hval x2
 have hA2 := hA
 obtain ⟨v0,v1,v2,d0,d1,d2,p0,p1,p2,rfl,rfl,rfl,h0,h1,h2⟩ := trodAll_three hA
 obtain ⟨rfl,rfl⟩ := trodVars_none hV
 have hcall : Calls Tryz.prog 11 #[v0,v1,v2] W fun e W' => e = .returned (.bool true) ∧ Below W.heap.size W W' := by
  obtain ⟨nn,x,hr0,hN⟩ := open_msg (hval 0 _ v0 rfl rfl) h0
  obtain ⟨n,rfl,hn⟩ := open_int (hval 1 _ v1 rfl rfl) h1
  obtain ⟨l,hl,hd⟩ := open_bytes Tryz.underlying22 Tryz.underlying5 (by kernel_rfl) (hval 2 _ v2 rfl rfl) h2
  obtain ⟨p,q,_,_,hr⟩ := start_of_laid hL
  exact calls_retA (cargs := [_,_,_]) hr (.cons hr0 (.cons (.val rfl) (.cons hl .nil))) (lawMC_ok (env_gl p q).env nn x n l hN)
 refine hcall.mono fun ev W' ⟨hev,hB⟩ => ?_
 subst hev
 have hagain := trodAll_again types_ok hB (ts := [68,3,22]) (by
  have h : ([68,3,22].all fun t => decide (t < Tryz.prog.types.size)) = true := by kernel_rfl
  intro t ht
  simpa using List.all_eq_true.1 h t ht) hA2
 refine ⟨_,rfl,_,_,_,[],(p0 ++ p1 ++ p2),[],hW',?_,?_,?_,hB.frame _,fun h => by cases h⟩
 ·exact trodAll_mk1 (shut_bool Tryz.underlying4 true)
 ·exact hagain
 ·rfl
set_option maxHeartbeats 8000000 in
theorem messageCut_closed : joinedFacts Tryz.pinned.checked.prog 11 Tryz.f11 Rows.messageCutSpec Rows.messageCutRow = true := by
 unfold joinedFacts
 simp only [Bool.and_eq_true]
 and_intros
 all_goals as_aux_lemma => kernel_rfl
theorem messageCut_named : Tryz.pinned.checked.prog.funcNamed Rows.messageCutRow.func = some 11 := by kernel_rfl
theorem messageCut_origin : Tryz.f11.isInstance Tryz.pinned.checked.prog Rows.messageCutRow.origin Rows.messageCutRow.targs := of_decide_eq_true (by kernel_rfl)
theorem messageCut_unwrapped : Tryz.f11.isWrapper Tryz.pinned.checked.prog Rows.messageCutRow.wrapper Rows.messageCutRow.mainSum := by
 unfold Func.isWrapper; first | (rw [if_pos (by decide +kernel)]; kernel_rfl) | (rw [if_neg (by decide +kernel)]; exact ⟨rfl,rfl⟩)
theorem messageCut_holds : Rows.MessageCutSaid :=
 OpenClaim.holds_of_wide 11 Tryz.f11 rfl rfl rfl rfl rfl rfl rfl ⟨rfl,rfl,rfl,rfl,rfl⟩ rfl rfl rfl rfl rfl messageCut_named Tryz.func11 messageCut_closed messageCut_origin messageCut_unwrapped
  (fun os started H enc _ => messageCut_lifted os started H enc)
theorem messageCut_wf : Rows.messageCutRow.wfByText (OpenSpec.ofChange Rows.messageCutSpec) = true := by kernel_rfl
theorem messageCut_goes : false = Rows.messageCutRow.goesBy Tryz.pinned.checked.prog := by kernel_rfl
theorem messageCut_noStand : ([68,3,22].all fun u => !Tryz.prog.wantsStandIn u) = true := by kernel_rfl
theorem messageCut_card_holds : Rows.MessageCutCardSaid :=
 Claim7.holds_tied_plain_at .later [] [.data, .data, .data, .handle, .sentinel, .sentinel, .data, .data] true (true, "bb766fb570bec7cb2739f021d878634c7761997539a2e05ecd9a98ea531ab34b") true
  messageCut_holds (fun _ h => by cases h) messageCut_wf (fun _ h => by cases h) messageCut_row_tie rfl ⟨rfl,rfl⟩ mainT rfl
  (fun f fn hf hfn => by
   obtain rfl : f = 11 := Option.some.inj (messageCut_named.symm.trans hf) |>.symm
   obtain rfl : fn = Tryz.f11 := (Option.some.inj (Tryz.func11.symm.trans hfn)).symm
   exact ⟨looksT,fun j t ht => by
    rw [Tryz.params11] at ht
    have hm : t ∈ [68,3,22] := by simpa using Array.mem_of_getElem? ht
    have hall := messageCut_noStand
    exact (show Tryz.prog.wantsStandIn t = false by simpa using List.all_eq_true.1 hall t hm)⟩)
  messageCut_goes
end Go.Proofs.YtmglaebjmaomnaaGreatDoor
