/- What arguments weigh, one by one. No condition. -/
import Derived.ChangeMaps5
import Derived.Deep.Strs
import Derived.Test.YtmglaebjmaomnaaGreatDoorTAvC
open Int renaming reduceBEq → zeS, reduceBNe → zeT
open List renaming drop_zero → zfH, take_succ_cons → zfF, range → zfe, append_nil → ze9
open Nat renaming reduceAdd → zeQ, reduceLeDiff → zeO, reduceEqDiff → zeP, reduceLT → zeU
namespace Go.Proofs.YtmglaebjmaomnaaGreatDoor
open Go.ChangeShapes Go.WideShapes Go.ChangeAt Go.RowKit Go.Av.Fn Go.ChangeMaps Go.Av
set_option linter.unusedSimpArgs false
set_option linter.unusedVariables false
set_option maxRecDepth 100000
end Go.Proofs.YtmglaebjmaomnaaGreatDoor
/- A log, and its entries, read az data. No condition. -/
namespace Go.Proofs.YtmglaebjmaomnaaGreatDoor
open Go.ChangeShapes Go.WideShapes Go.ChangeAt Go.RowKit Go.Av.Fn Go.ChangeMaps Go.Av
set_option linter.unusedVariables false
set_option linter.unusedSimpArgs false
set_option maxRecDepth 100000
def entC (e : Go.Av.Fn.Ent) : List Value := [.int .i64 e.c,.int .i64 e.q,.int .i64 e.k,.int .i64 e.n,.string ⟨e.s.toArray⟩,.int .i64 e.ck,.int .i64 e.cn,.string ⟨e.cs.toArray⟩]
def EntI (e : Go.Av.Fn.Ent) : Prop := I64 e.c ∧ I64 e.q ∧ I64 e.k ∧ I64 e.n ∧ I64 e.ck ∧ I64 e.cn ∧ e.s.length ≤ maxLen ∧ e.cs.length ≤ maxLen
instance : Inhabited Go.Av.Fn.Ent := ⟨⟨0,0,0,0,[],0,0,[]⟩⟩
theorem bs_arr (s : ByteArray) : (⟨s.data.toList.toArray⟩ : ByteArray) = s := by simp
theorem trod_ent {H : Type} {enc : TypeId × Value → H} {W : World} {cs : List Value} {x : DataW H × List MemPlace} {fuel : Nat} (h : DataW.trod enc Tryz.prog W 0 (fun _ => true) true fuel 42 cs = some x) :
  ∃ e : Go.Av.Fn.Ent,cs = entC e ∧ EntI e := by
 obtain ⟨xs,n,_,rfl,hl,hlen,hf⟩ := DataW.trod_struct Tryz.underlying42 h
 have hc3 : Tryz.prog.cellsOf 40 = 3 := by kernel_rfl
 have hcI : Tryz.prog.cellsOf 3 = 1 := by kernel_rfl
 have hcA : Tryz.prog.cellsOf 37 = 1 := by kernel_rfl
 have hcS : Tryz.prog.cellsOf 9 = 1 := by kernel_rfl
 have hc1 : Tryz.prog.cellsOf 38 = 1 := by kernel_rfl
 have hc8 : Tryz.prog.cellsOf 42 = 8 := by kernel_rfl
 rw [hc8] at hl
 match cs,hl with
 | [a,b,c,d,e,f,g,i],_ =>
  match xs,hlen with
  | [y0,y1,y2,y3,y4,y5],_ =>
   have h0 : DataW.trod enc Tryz.prog W 0 (fun _ => true) true n 3 (([a,b,c,d,e,f,g,i].drop 0).take (Tryz.prog.cellsOf 3)) = some y0 := hf 0 _ rfl
   have h1 : DataW.trod enc Tryz.prog W 0 (fun _ => true) true n 3 (([a,b,c,d,e,f,g,i].drop 1).take (Tryz.prog.cellsOf 3)) = some y1 := hf 1 _ rfl
   have h2 : DataW.trod enc Tryz.prog W 0 (fun _ => true) true n 37 (([a,b,c,d,e,f,g,i].drop 2).take (Tryz.prog.cellsOf 37)) = some y2 := hf 2 _ rfl
   have h3 : DataW.trod enc Tryz.prog W 0 (fun _ => true) true n 3 (([a,b,c,d,e,f,g,i].drop 3).take (Tryz.prog.cellsOf 3)) = some y3 := hf 3 _ rfl
   have h4 : DataW.trod enc Tryz.prog W 0 (fun _ => true) true n 9 (([a,b,c,d,e,f,g,i].drop 4).take (Tryz.prog.cellsOf 9)) = some y4 := hf 4 _ rfl
   have h5 : DataW.trod enc Tryz.prog W 0 (fun _ => true) true n 40 (([a,b,c,d,e,f,g,i].drop 5).take (Tryz.prog.cellsOf 40)) = some y5 := hf 5 _ rfl
   simp only [hc3,hcI,hcA,hcS,zfH,zfF,List.take_zero,List.drop_succ_cons] at h0 h1 h2 h3 h4 h5
   obtain ⟨k0,c0,e0,w0⟩ := DataW.trod_int Tryz.underlying3 h0
   obtain ⟨k1,c1,e1,w1⟩ := DataW.trod_int Tryz.underlying3 h1
   obtain ⟨k2,c2,e2,w2⟩ := DataW.trod_int Tryz.underlying37 h2
   obtain ⟨k3,c3,e3,w3⟩ := DataW.trod_int Tryz.underlying3 h3
   obtain ⟨s4,c4,e4,w4⟩ := DataW.trod_string Tryz.underlying9 h4
   obtain ⟨z0,z1,z2,nn,hx,hlen2,g0,g1,g2⟩ := Go.Deep.trod_struct3 Tryz.underlying40 h5
   simp only [hc1,hcI,hcS,zfH,zfF,List.take_zero,List.drop_succ_cons] at g0 g1 g2
   obtain ⟨k5,c5,e5,w5⟩ := DataW.trod_int Tryz.underlying38 g0
   obtain ⟨k6,c6,e6,w6⟩ := DataW.trod_int Tryz.underlying3 g1
   obtain ⟨s7,c7,e7,w7⟩ := DataW.trod_string Tryz.underlying9 g2
   simp only [List.cons.injEq,and_true] at c0 c1 c2 c3 c4 c5 c6 c7
   subst c0 c1 c2 c3 c4 c5 c6 c7
   exact ⟨⟨k0,k1,k2,k3,s4.data.toList,k5,k6,s7.data.toList⟩,by simp only [entC,bs_arr],wf_i64 w0,wf_i64 w1,wf_i64 w2,wf_i64 w3,wf_i64 w5,wf_i64 w6,w4,w7⟩
theorem entC_rel {G : Gh} (e : Go.Av.Fn.Ent) : RelL G (entV e).cells (entC e) := .cons (.val rfl) (.cons (.val rfl) (.cons (.val rfl) (.cons (.val rfl) (.cons (.val rfl) (.cons (.val rfl) (.cons (.val rfl) (.cons (.val rfl) .nil)))))))
theorem ents_rel {G : Gh} : ∀ l : List Go.Av.Fn.Ent,RelL G (flat (l.map entV)) (l.flatMap entC)
 | [] => .nil
 | e :: l => by
  rw [List.map_cons,zaN,List.flatMap_cons]
  exact (entC_rel e).append (ents_rel l)
theorem ents_at : ∀ (l : List Go.Av.Fn.Ent) (j : Nat) (u : Value),(l.flatMap entC)[j]? = some u → ∃ (i k : Nat) (e : Go.Av.Fn.Ent),j = i * 8 + k ∧ k < 8 ∧ l[i]? = some e ∧ (entC e)[k]? = some u
 | [],j,u,h => by simp at h
 | e :: l,j,u,h => by
  rw [List.flatMap_cons] at h
  by_cases hj : j < 8
  ·rw [List.getElem?_append_left (by simpa [entC] using hj)] at h
   exact ⟨0,j,e,by omega,hj,rfl,h⟩
  ·rw [List.getElem?_append_right (by simp [entC]; omega)] at h
   obtain ⟨i,k,e',h1,h2,h3,h4⟩ := ents_at l _ u h
   have h8 : (entC e).length = 8 := rfl
   rw [h8] at h1
   exact ⟨i + 1,k,e',by omega,h2,by simpa using h3,h4⟩
theorem open_ents {H : Type} {enc : TypeId × Value → H} {W : World} {cs : List Value} {x : DataW H × List MemPlace} {fuel : Nat} (hsp : ∀ a len cap,cs = [.slice (some a) len cap] → a.spot = none) (h : DataW.trod enc Tryz.prog W 0 (fun _ => true) true fuel 24 cs = some x) :
  ∃ (nn : Bool) (l : List Go.Av.Fn.Ent) (v : Value),cs = [v] ∧ RelV (startA W) (zbC nn l) v ∧ (nn = true ∨ l = []) ∧ l.length ≤ maxLen ∧ ∀ e ∈ l,EntI e := by
 have hc8 : Tryz.prog.cellsOf 42 = 8 := by kernel_rfl
 rcases Go.Deep.open_slice Tryz.underlying24 h with ⟨rfl,rfl⟩ | ⟨a,len,cap,m,n,D,Pl,rfl,_,h3,h4,h5,h6,h7⟩
 ·exact ⟨false,[],_,rfl,.nil rfl,.inr rfl,Nat.zero_le _,fun e he => by cases he⟩
 ·have hs := hsp a len cap rfl
  simp only [if_true] at h5
  subst h5
  obtain ⟨f,hf⟩ := Go.Deep.choose_lt (α := Go.Av.Fn.Ent) (n := len) (p := fun i e => (∀ k,k < 8 → W.cell? (a.add (i * 8 + k)) = (entC e)[k]?) ∧ EntI e) (fun i hi => by
   obtain ⟨cs',g1,g2⟩ := h7 i (by omega)
   rw [hc8] at g1
   obtain ⟨e,rfl,he⟩ := trod_ent g2
   obtain ⟨_,_,g3⟩ := World.cells?_some g1
   refine ⟨e,fun k hk => ?_,he⟩
   have := g3 k hk
   rw [add_plain hs,add_plain rfl] at this
   rw [add_plain hs,← this,Nat.add_assoc])
  have hlen : ((zfe len).map f).length = len := by simp
  refine ⟨true,(zfe len).map f,_,rfl,?_,.inl rfl,by rw [hlen]; omega,?_⟩
  ·have := RelV.sl (G := startA W) (es := ((zfe len).map f).map entV) (more := []) (tok := .non) (us := ((zfe len).map f).flatMap entC) (a := a) (cap := m) (s := 8) (by
     intro e he
     rw [ze9] at he
     obtain ⟨b,_,rfl⟩ := List.mem_map.1 he
     rfl) (by rw [ze9]; exact ents_rel _) (has_cells hs (by
     intro j u hu
     obtain ⟨i,k,e,rfl,hk,hi,hu'⟩ := ents_at _ _ _ hu
     rw [List.getElem?_map] at hi
     obtain ⟨i',hi',rfl⟩ := Option.map_eq_some_iff.1 hi
     obtain ⟨hlt,e2⟩ := List.getElem?_eq_some_iff.1 hi'
     simp only [List.length_range] at hlt
     simp only [List.getElem_range] at e2
     subst e2
     rw [(hf i hlt).1 k hk]
     exact hu')) (by simpa using h3) (by decide) trivial
   rw [List.length_map,hlen] at this
   exact this
  ·intro e he
   obtain ⟨i,hi,rfl⟩ := List.mem_map.1 he
   exact (hf i (by simpa using hi)).2
end Go.Proofs.YtmglaebjmaomnaaGreatDoor
/- What the world at the door meets; the table of types is in order; a command read as data. No condition. -/
namespace Go.Proofs.YtmglaebjmaomnaaGreatDoor
open Go.ChangeShapes Go.WideShapes Go.ChangeAt Go.RowKit Go.Av.Fn Go.ChangeMaps Go.Av
set_option linter.unusedVariables false
theorem own : ownKnob Tryz.prog.godebug = none := by kernel_rfl
theorem door_met (os : Os) (args : Array Value) : laidMetH Tryz.prog laidL ((World.doorLaid Tryz.prog 4000 os).forCall (fun _ _ => 0) ⟨#[],args,[]⟩).memory :=
 laidMetH_of_parts3 (fuel := 8) (laidMet_of_run' 8 (by kernel_rfl) (by kernel_rfl)) (by kernel_rfl) (by kernel_rfl)
theorem types_ok : typesOk Tryz.prog = true := by kernel_rfl
end Go.Proofs.YtmglaebjmaomnaaGreatDoor
/- What the program's harness is, and that it looks. No condition. -/
namespace Go.Proofs.YtmglaebjmaomnaaGreatDoor
open Go.ChangeShapes Go.WideShapes Go.ChangeAt Go.RowKit Go.Av.Fn Go.ChangeMaps Go.Av
theorem mainT : Tryz.pinned.checked.prog.mainIs = some (true, (("bb766fb570bec7cb2739f021d878634c7761997539a2e05ecd9a98ea531ab34b" : String).toList)) := by kernel_rfl
theorem looksT : true = Tryz.pinned.checked.prog.looks [] := by kernel_rfl
end Go.Proofs.YtmglaebjmaomnaaGreatDoor
/- A message read az data. No condition. -/
namespace Go.Proofs.YtmglaebjmaomnaaGreatDoor
open Go.ChangeShapes Go.WideShapes Go.ChangeAt Go.RowKit Go.Av.Fn Go.ChangeMaps Go.Av
set_option linter.unusedVariables false
set_option linter.unusedSimpArgs false
set_option maxRecDepth 100000
set_option maxHeartbeats 3200000 in
theorem open_msg {H : Type} {enc : TypeId × Value → H} {W : World} {base : Nat} {v : Value} {d : DataW H} {ps : List MemPlace} (hv : Value.okWide Tryz.prog W .any base 68 v) (h : DataW.Trod enc Tryz.prog W 0 (fun _ => true) true 68 v d ps) :
  ∃ (nn : Bool) (x : Mg),RelV (startA W) (msgV nn x) v ∧ MgN x := by
 have hv0 := hv
 obtain ⟨l,rfl,hl,hna⟩ := struct_cells Tryz.underlying68 hv
 obtain ⟨fuel,hf⟩ := h
 obtain ⟨xs,n,_,hx,hl2,hlen,hf⟩ := DataW.trod_struct Tryz.underlying68 hf
 have hcM : Tryz.prog.cellsOf 64 = 1 := by kernel_rfl
 have hcI : Tryz.prog.cellsOf 3 = 1 := by kernel_rfl
 have hcS : Tryz.prog.cellsOf 9 = 1 := by kernel_rfl
 have hcE : Tryz.prog.cellsOf 42 = 8 := by kernel_rfl
 have hcL : Tryz.prog.cellsOf 26 = 3 := by kernel_rfl
 have hcN : Tryz.prog.cellsOf 24 = 1 := by kernel_rfl
 have hcR : Tryz.prog.cellsOf 66 = 3 := by kernel_rfl
 have hcX : Tryz.prog.cellsOf 34 = 1 := by kernel_rfl
 have hc22 : Tryz.prog.cellsOf 68 = 22 := by kernel_rfl
 rw [hc22] at hl
 match l,hl with
 | [c0,c1,c2,c3,c4,c5,c6,c7,c8,c9,c10,c11,c12,c13,c14,c15,c16,c17,c18,c19,c20,c21],_ =>
  match xs,hlen with
  | [y0,y1,y2,y3,y4,y5,y6,y7,y8,y9,y10],_ =>
   obtain ⟨cl,hcl⟩ : ∃ cl,cl = [c0,c1,c2,c3,c4,c5,c6,c7,c8,c9,c10,c11,c12,c13,c14,c15,c16,c17,c18,c19,c20,c21] := ⟨_,rfl⟩
   have g0 : DataW.trod enc Tryz.prog W 0 (fun _ => true) true n 64 ((cl.drop 0).take (Tryz.prog.cellsOf 64)) = some y0 := by rw [hcl]; exact hf 0 _ rfl
   have g1 : DataW.trod enc Tryz.prog W 0 (fun _ => true) true n 3 ((cl.drop 1).take (Tryz.prog.cellsOf 3)) = some y1 := by rw [hcl]; exact hf 1 _ rfl
   have g2 : DataW.trod enc Tryz.prog W 0 (fun _ => true) true n 3 ((cl.drop 2).take (Tryz.prog.cellsOf 3)) = some y2 := by rw [hcl]; exact hf 2 _ rfl
   have g3 : DataW.trod enc Tryz.prog W 0 (fun _ => true) true n 3 ((cl.drop 3).take (Tryz.prog.cellsOf 3)) = some y3 := by rw [hcl]; exact hf 3 _ rfl
   have g4 : DataW.trod enc Tryz.prog W 0 (fun _ => true) true n 3 ((cl.drop 4).take (Tryz.prog.cellsOf 3)) = some y4 := by rw [hcl]; exact hf 4 _ rfl
   have g5 : DataW.trod enc Tryz.prog W 0 (fun _ => true) true n 3 ((cl.drop 5).take (Tryz.prog.cellsOf 3)) = some y5 := by rw [hcl]; exact hf 5 _ rfl
   have g6 : DataW.trod enc Tryz.prog W 0 (fun _ => true) true n 3 ((cl.drop 6).take (Tryz.prog.cellsOf 3)) = some y6 := by rw [hcl]; exact hf 6 _ rfl
   have g7 : DataW.trod enc Tryz.prog W 0 (fun _ => true) true n 3 ((cl.drop 7).take (Tryz.prog.cellsOf 3)) = some y7 := by rw [hcl]; exact hf 7 _ rfl
   have g8 : DataW.trod enc Tryz.prog W 0 (fun _ => true) true n 42 ((cl.drop 8).take (Tryz.prog.cellsOf 42)) = some y8 := by rw [hcl]; exact hf 8 _ rfl
   have g9 : DataW.trod enc Tryz.prog W 0 (fun _ => true) true n 26 ((cl.drop 16).take (Tryz.prog.cellsOf 26)) = some y9 := by rw [hcl]; exact hf 9 _ rfl
   have g10 : DataW.trod enc Tryz.prog W 0 (fun _ => true) true n 66 ((cl.drop 19).take (Tryz.prog.cellsOf 66)) = some y10 := by rw [hcl]; exact hf 10 _ rfl
   rw [hcl] at g0 g1 g2 g3 g4 g5 g6 g7 g8 g9 g10
   simp only [hcM,hcI,hcE,hcL,hcR,zfH,zfF,List.take_zero,List.drop_succ_cons] at g0 g1 g2 g3 g4 g5 g6 g7 g8 g9 g10
   obtain ⟨k0,e0,_,w0⟩ := DataW.trod_int Tryz.underlying64 g0
   obtain ⟨k1,e1,_,w1⟩ := DataW.trod_int Tryz.underlying3 g1
   obtain ⟨k2,e2,_,w2⟩ := DataW.trod_int Tryz.underlying3 g2
   obtain ⟨k3,e3,_,w3⟩ := DataW.trod_int Tryz.underlying3 g3
   obtain ⟨k4,e4,_,w4⟩ := DataW.trod_int Tryz.underlying3 g4
   obtain ⟨k5,e5,_,w5⟩ := DataW.trod_int Tryz.underlying3 g5
   obtain ⟨k6,e6,_,w6⟩ := DataW.trod_int Tryz.underlying3 g6
   obtain ⟨k7,e7,_,w7⟩ := DataW.trod_int Tryz.underlying3 g7
   obtain ⟨en,e8,w8⟩ := trod_ent g8
   obtain ⟨z0,z1,z2,_,_,_,q0,q1,q2⟩ := Go.Deep.trod_struct3 Tryz.underlying26 g9
   obtain ⟨u0,u1,u2,_,_,_,r0,r1,r2⟩ := Go.Deep.trod_struct3 Tryz.underlying66 g10
   simp only [hcI,hcS,hcN,hcX,zfH,zfF,List.take_zero,List.drop_succ_cons] at q0 q1 q2 r0 r1 r2
   obtain ⟨b,eb,_,wb⟩ := DataW.trod_int Tryz.underlying3 q0
   obtain ⟨ck,ec,_,wc⟩ := DataW.trod_string Tryz.underlying9 q1
   obtain ⟨re,er,_,wr⟩ := DataW.trod_int Tryz.underlying34 r0
   obtain ⟨rn,ern,_,wrn⟩ := DataW.trod_int Tryz.underlying3 r1
   obtain ⟨rs,ers,_,wrs⟩ := DataW.trod_string Tryz.underlying9 r2
   have hsp : ∀ p len cap,[c18] = [.slice (some p) len cap] → p.spot = none := by
    intro p len cap e
    simp only [List.cons.injEq,and_true] at e
    simp only [Value.okWide,Tryz.underlying68] at hv0
    obtain ⟨cs,p1,p2,ts,p3,p4,p5⟩ := hv0
    have hcs : cs[18]? = some (.slice (some p) len cap) := by
     cases p1
     rw [← e]
     rfl
    obtain ⟨u,p6,p7⟩ := p5 18 _ hcs
    have hts : Tryz.prog.cellTypes Tryz.prog.depth 68 = some ts := p3
    have : u = 24 := by
     have hk : Tryz.prog.cellTypes Tryz.prog.depth 68 = some [64,3,3,3,3,3,3,3,3,3,37,3,9,38,3,9,3,9,24,34,3,9] := by kernel_rfl
     rw [hk] at hts
     cases hts
     simpa using p6.symm
    subst this
    simp only [Cell.okWide,Cell.ok,Tryz.underlying24] at p7
    exact p7.2.2.2.1
   obtain ⟨nb,es,v',c2',hr,hn,hle,hi⟩ := open_ents hsp q2
   simp only [entC,List.cons.injEq,and_true] at e0 e1 e2 e3 e4 e5 e6 e7 e8 eb ec c2' er ern ers
   obtain ⟨i1,i2,i3,i4,i5,i6,_⟩ := w8
   obtain ⟨f1,f2,f3,f4,f5,f6,f7,f8⟩ := e8
   subst e0 e1 e2 e3 e4 e5 e6 e7 eb ec c2' er ern ers f1 f2 f3 f4 f5 f6 f7 f8
   refine ⟨nb,⟨k0,k1,k2,k3,k4,k5,k6,k7,en,⟨b,ck.data.toList,es⟩,⟨re,rn,rs.data.toList⟩⟩,?_,wf_i64 w0,wf_i64 w1,wf_i64 w2,⟨i1,i2,i3,i4,i5,i6⟩,wf_i64 wb,fun e he => ?_,wf_i64 wrn⟩
   ·exact .agg (.cons (.val rfl) (.cons (.val rfl) (.cons (.val rfl) (.cons (.val rfl) (.cons (.val rfl) (.cons (.val rfl) (.cons (.val rfl) (.cons (.val rfl) (.cons (.val rfl) (.cons (.val rfl) (.cons (.val rfl) (.cons (.val rfl) (.cons (.val rfl) (.cons (.val rfl) (.cons (.val rfl) (.cons (.val rfl) (.cons (.val rfl) (.cons (relv_string ck) (.cons hr (.cons (.val rfl) (.cons (.val rfl) (.cons (relv_string rs) .nil))))))))))))))))))))))
   ·obtain ⟨j1,j2,j3,j4,j5,j6,_⟩ := hi e he
    exact ⟨j1,j2,j3,j4,j5,j6⟩
end Go.Proofs.YtmglaebjmaomnaaGreatDoor
/- A message's bytes are read az the message, and what is read has just these bytes: the law walked. Conditions: az ahead. -/
namespace Go.Av.Fn
set_option linter.unusedSimpArgs false
set_option linter.unusedVariables false
set_option maxRecDepth 10000
open Go.Proofs
theorem readM_ok {b : List UInt8} {x : Mg} (h : msgR b = (x,0)) : msgB x = true ∧ MgN x ∧ b = frB (payB x) := by
 obtain ⟨p,n,e,hg⟩ : ∃ p n e,frG b = (p,n,e) := ⟨_,_,_,rfl⟩
 obtain ⟨y,f,hs⟩ : ∃ y f,msgS p = (y,f) := ⟨_,_,rfl⟩
 simp only [msgR,hg,hs] at h
 by_cases h1 : e = 0
 ·subst h1
  by_cases h2 : f = 0
  ·subst h2
   simp only [ne_eq,not_true,if_false] at h
   by_cases h3 : n < b.length
   ·simp [h3] at h
   ·by_cases h4 : msgB y = true
    ·simp only [h3,h4,if_true,if_false,Prod.mk.injEq,and_true] at h
     subst h
     obtain ⟨g1,g2,g3,g4⟩ := frG_ok hg
     obtain ⟨c1,c2⟩ := msgS_canon hs
     rw [List.take_of_length_le (by omega)] at g2
     exact ⟨h4,c2,by rw [c1,g2]⟩
    ·simp [h3,h4] at h
  ·simp [h2] at h
 ·simp [h1] at h
theorem readM_no {b : List UInt8} (h : (msgR b).2 ≠ 0) : (msgR b).1 = mg0 := by
 revert h
 unfold msgR
 split
 ·intro; rfl
 ·split
  ·intro; rfl
  ·split
   ·intro; rfl
   ·split
    ·intro h; exact absurd rfl h
    ·intro; rfl
section
variable {Γ : Glob} {m : Store}
set_option maxHeartbeats 3200000 in
theorem lawMB_ok (E : Env Γ) (nn : Bool) (x : Mg) (da : List UInt8) (hN : MgN x) : zab Tryz.prog Γ 10 [msgV nn x,.sl (da.map by8) [] .no] m fun o m' => o = .ret (bo true) ∧ m' = m := by
 have hnm := nb_msgV 0 nn x
 have hnc := zcV 0 nn x
 refine zaG (zaL mixed F10_ok F10_h zaF (by simp only [hnm,zaS,nbS]) ?_)
 simp only [F10,msgV,ss0,Nat.reduceSub,zeQ]
 simp only [zaj,msgC,len_entsM,gt_iff_lt,ssH,zeQ,zeO,reduceIte,zeP,zeU,zeS,zeT]
 by_cases h1 : (100 : Int) < (x.l.l.length : Int)
 ·simp only [decide_eq_true h1,ssH,zeQ,zeO,reduceIte,zeP,zeU,zeS,zeT]
  refine zam (v := bo true) (by exact fun m => lives23_ok) (by first | exact LR.nil | simp only [nbS]) (by simp only [bo,nbS]) ?_
  simp only [ssH,zeQ,zeO,reduceIte,zeP,zeU,zeS,zeT]
  exact zaa (v := bo true) rfl ⟨by simp only [bo,nbS],rfl⟩
 simp only [decide_eq_false h1,zaX,List.length_map,gt_iff_lt,ssH,zeQ,zeO,reduceIte,zeP,zeU,zeS,zeT]
 by_cases h3 : (20000 : Int) < (da.length : Int)
 ·simp only [decide_eq_true h3,ssH,zeQ,zeO,reduceIte,zeP,zeU,zeS,zeT]
  refine zam (v := bo true) (by exact fun m => lives23_ok) (by first | exact LR.nil | simp only [nbS]) (by simp only [bo,nbS]) ?_
  simp only [ssH,zeQ,zeO,reduceIte,zeP,zeU,zeS,zeT]
  exact zaa (v := bo true) rfl ⟨by simp only [bo,nbS],rfl⟩
 simp only [decide_eq_false h3,ssH,zeQ,zeO,reduceIte,zeP,zeU,zeS,zeT]
 have hnl := zaz (k := 0) nn x.l.l
 have hme : ∀ z,msgN z = .agg (msgC (!z.l.l.isEmpty) z) := fun z => rfl
 have hmc : ∀ k z,nbs k (msgC (!z.l.l.isEmpty) z) := fun k z => zcV k _ z
 have hml : ∀ z : Mg,nb 0 (zbC (!z.l.l.isEmpty) z.l.l) := fun z => zaz _ _
 refine zam (by exact fun m => zaG (mBytes_ok E nn x hN)) (by simp only [hnl,nbS]) (by split <;> simp only [zcO,nbS]) ?_
 cases hm : msgB x
 case' false =>
  simp only [Bool.false_eq_true,if_false,show ((2 : Int) == 0) = false from rfl,show ((2 : Int) != 2) = false from rfl,zaX,List.length_nil,show (((0 : Nat) : Int) != 0) = false from rfl,zaj,ssH,zeQ,zeO,reduceIte,zeP,zeU,zeS,zeT]
  refine zam (v := it 2) (by intro m; have := mCheck_ok (Γ := Γ) (m := m) E nn x; rw [hm] at this; exact this) (by simp only [hnl,nbS]) (by first | exact LR.nil | simp only [nbS]) ?_
  simp only [show ((2 : Int) != 2) = false from rfl,ssH,zeQ,zeO,reduceIte,zeP,zeU,zeS,zeT]
 case' true =>
  have hpl := pay_len hm hN
  have hz := zaT (n := ((payB x).length : Int)) ⟨by omega,by omega⟩
  have hfl := frB_len (payB x)
  have hrd : msgR (frB (payB x)) = (x,0) := by
   have h4 := frG_put (x := payB x) (by omega) []
   have h5 := msgS_put hm hN
   rw [ze9] at h4
   unfold msgR
   simp only [h4,h5]
   rw [if_neg (by simp),if_neg (by simp),if_neg (by omega),if_pos hm]
  have hlx := hml x
  simp only [if_true,show ((0 : Int) == 0) = true from rfl,slN,ssH,zeQ,zeO,reduceIte,zeP,zeU,zeS,zeT]
  refine zam (v := .tup [msgN x,it 0]) (by intro m; have := mRead_ok (Γ := Γ) (m := m) E (frB (payB x)) [] .non (by omega); rw [hrd] at this; exact this) (by first | exact LR.nil | simp only [nbS]) (by simp only [zbL,nbS]) ?_
  simp only [hme,msgC,zci,zaj,show ((0 : Int) != 0) = false from rfl,ssH,zeQ,zeO,reduceIte,zeP,zeU,zeS,zeT]
  refine zam (v := bo true) (by exact fun m => qSame_ok nn (!x.l.l.isEmpty) x (by omega)) (by simp only [hnl,hlx,nbS]) (by simp only [bo,nbS]) ?_
  simp only [bo,zaj,ssH,zeQ,zeO,reduceIte,zeP,zeU,zeS,zeT]
  refine zam (v := it 0) (by intro m; have := mCheck_ok (Γ := Γ) (m := m) E nn x; rw [hm] at this; exact this) (by simp only [hnl,nbS]) (by first | exact LR.nil | simp only [nbS]) ?_
  simp only [show ((0 : Int) != 0) = false from rfl,ssH,zeQ,zeO,reduceIte,zeP,zeU,zeS,zeT]
 all_goals
  obtain ⟨y,f,hr⟩ : ∃ y f,msgR da = (y,f) := ⟨_,_,rfl⟩
  have hly := hml y
  refine zam (v := .tup [msgN y,it f]) (by intro m; have := mRead_ok (Γ := Γ) (m := m) E da [] .no (by omega); rw [hr] at this; exact this) (by first | exact LR.nil | simp only [nbS]) (by simp only [zbL,nbS]) ?_
  simp only [hme,msgC,zci,zaj,ssH,zeQ,zeO,reduceIte,zeP,zeU,zeS,zeT]
  by_cases hf : f = 0
  ·subst hf
   obtain ⟨g1,g2,g3⟩ := readM_ok hr
   simp only [show ((0 : Int) != 0) = false from rfl,ssH,zeQ,zeO,reduceIte,zeP,zeU,zeS,zeT]
   refine zam (v := .tup [slN (frB (payB y)),it 0]) (by intro m; have := zaG (mBytes_ok (Γ := Γ) (m := m) E (!y.l.l.isEmpty) y g2); simp only [g1,if_true] at this; exact this) (by simp only [hly,nbS]) (by simp only [zcO,nbS]) ?_
   simp only [show ((0 : Int) == 0) = true from rfl,slN,eval_b2s,b2s_bs,← g3,beq_self_eq_true,ssH,zeQ,zeO,reduceIte,zeP,zeU,zeS,zeT]
   refine zam (v := bo true) (by exact fun m => lives23_ok) (by first | exact LR.nil | simp only [nbS]) (by simp only [bo,nbS]) ?_
   simp only [bo,ssH,zeQ,zeO,reduceIte,zeP,zeU,zeS,zeT]
   exact zaa (v := bo true) rfl ⟨by simp only [bo,nbS],rfl⟩
  ·have hy : y = mg0 := by have := readM_no (b := da) (by rw [hr]; exact hf); rwa [hr] at this
   subst hy
   simp only [bne_iff_ne.2 hf,ssH,zeQ,zeO,reduceIte,zeP,zeU,zeS,zeT]
   refine zam (v := bo true) (by exact fun m => qSame_ok false false mg0 (by decide)) (by simp only [show zbC (!mg0.l.l.isEmpty) mg0.l.l = .sl [] [] .full from rfl,nbS]) (by simp only [bo,nbS]) ?_
   simp only [bo,ssH,zeQ,zeO,reduceIte,zeP,zeU,zeS,zeT]
   refine zam (v := bo true) (by exact fun m => lives23_ok) (by first | exact LR.nil | simp only [nbS]) (by simp only [bo,nbS]) ?_
   simp only [bo,ssH,zeQ,zeO,reduceIte,zeP,zeU,zeS,zeT]
   exact zaa (v := bo true) rfl ⟨by simp only [bo,nbS],rfl⟩
end
end Go.Av.Fn
/- A message has bytes that read az the message, and what is read has just these bytes: the row, and its tied card. Condition: what the row says of the listed variables. -/
namespace Go.Proofs.YtmglaebjmaomnaaGreatDoor
open Go.ChangeShapes Go.WideShapes Go.ChangeAt Go.RowKit Go.Av.Fn Go.ChangeMaps Go.Av
set_option linter.unusedVariables false
set_option maxRecDepth 100000
theorem messageBack_lifted (os : Os) (started : os.Started) (H : Type) (enc : TypeId × Value → H) :
  ReturnsInHanded {} Tryz.checked os 10 .any (fun w args => (Rows.messageBackSpec.pre enc Tryz.prog Tryz.f10 [] false w args ∧ laidMetH Tryz.prog laidL w) ∧ sizedMet enc Tryz.prog Tryz.f10 (OpenSpec.ofChange Rows.messageBackSpec) false w args)
   (Rows.messageBackSpec.post enc Tryz.prog Tryz.f10 false true false false) := by
 refine returnsInHanded_of_change_and (C := Tryz.checked) (X := fun w _ => laidMetH Tryz.prog laidL w) (fun _ _ _ hh h => h.of_heap hh) own started (by kernel_rfl) Tryz.func10
  (ChangeSpec.witness_shaped (enc := enc) (C := Tryz.checked) (os := os) (X := fun w _ => laidMetH Tryz.prog laidL w) false (World.doorLaid Tryz.prog 4000 os) #[.agg #[.int .i64 0,.int .i64 0,.int .i64 0,.int .i64 0,.int .i64 0,.int .i64 0,.int .i64 0,.int .i64 0,.int .i64 0,.int .i64 0,.int .i64 0,.int .i64 0,.string ⟨#[]⟩,.int .i64 0,.int .i64 0,.string ⟨#[]⟩,.int .i64 0,.string ⟨#[]⟩,.slice none 0 0,.int .i64 0,.int .i64 0,.string ⟨#[]⟩],.slice none 0 0] 8 rfl (World.shaped_of_RefB (by kernel_rfl) (by kernel_rfl)) (by kernel_rfl) (by kernel_rfl) (by kernel_rfl) (door_met os _)) ?_
 intro W base args ds gs before hval0 hW x1 x2 hL x3
 have hval : ∀ (j : Nat) t v,Tryz.f10.params[j]? = some t → args[j]? = some v → Value.okWide Tryz.prog W .any base t v := hval0
 have hW' := hW
 obtain ⟨p,q,hA0,hV,rfl,hfz,hnd⟩ := hW
 have hA : DataW.TrodAll enc Tryz.prog W 0 (fun _ => true) true Tryz.f10.params.toList args.toList ds p := hA0
 rw [Tryz.params10] at hA hval x2
 have hA2 := hA
 obtain ⟨v0,v1,d0,d1,p0,p1,rfl,rfl,rfl,h0,h1⟩ := trodAll_two hA
 obtain ⟨rfl,rfl⟩ := trodVars_none hV
 have hcall : Calls Tryz.prog 10 #[v0,v1] W fun e W' => e = .returned (.bool true) ∧ Below W.heap.size W W' := by
  obtain ⟨nn,x,hr0,hN⟩ := open_msg (hval 0 _ v0 rfl rfl) h0
  obtain ⟨l,hl,hd⟩ := open_bytes Tryz.underlying22 Tryz.underlying5 (by kernel_rfl) (hval 1 _ v1 rfl rfl) h1
  obtain ⟨p,q,_,_,hr⟩ := start_of_laid hL
  exact calls_retA (cargs := [_,_]) hr (.cons hr0 (.cons hl .nil)) (lawMB_ok (env_gl p q).env nn x l hN)
 refine hcall.mono fun ev W' ⟨hev,hB⟩ => ?_
 subst hev
 have hagain := trodAll_again types_ok hB (ts := [68,22]) (by
  have h : ([68,22].all fun t => decide (t < Tryz.prog.types.size)) = true := by kernel_rfl
  intro t ht
  simpa using List.all_eq_true.1 h t ht) hA2
 refine ⟨_,rfl,_,_,_,[],(p0 ++ p1),[],hW',?_,?_,?_,hB.frame _,fun h => by cases h⟩
 ·exact trodAll_mk1 (shut_bool Tryz.underlying4 true)
 ·exact hagain
 ·rfl
set_option maxHeartbeats 8000000 in
theorem messageBack_closed : joinedFacts Tryz.pinned.checked.prog 10 Tryz.f10 Rows.messageBackSpec Rows.messageBackRow = true := by
 unfold joinedFacts
 simp only [Bool.and_eq_true]
 and_intros
 all_goals as_aux_lemma => kernel_rfl
theorem messageBack_named : Tryz.pinned.checked.prog.funcNamed Rows.messageBackRow.func = some 10 := by kernel_rfl
theorem messageBack_origin : Tryz.f10.isInstance Tryz.pinned.checked.prog Rows.messageBackRow.origin Rows.messageBackRow.targs := of_decide_eq_true (by kernel_rfl)
theorem messageBack_unwrapped : Tryz.f10.isWrapper Tryz.pinned.checked.prog Rows.messageBackRow.wrapper Rows.messageBackRow.mainSum := by
 unfold Func.isWrapper; first | (rw [if_pos (by decide +kernel)]; kernel_rfl) | (rw [if_neg (by decide +kernel)]; exact ⟨rfl,rfl⟩)
theorem messageBack_holds : Rows.MessageBackSaid :=
 OpenClaim.holds_of_wide 10 Tryz.f10 rfl rfl rfl rfl rfl rfl rfl ⟨rfl,rfl,rfl,rfl,rfl⟩ rfl rfl rfl rfl rfl messageBack_named Tryz.func10 messageBack_closed messageBack_origin messageBack_unwrapped
  (fun os started H enc _ => messageBack_lifted os started H enc)
theorem messageBack_wf : Rows.messageBackRow.wfByText (OpenSpec.ofChange Rows.messageBackSpec) = true := by kernel_rfl
theorem messageBack_goes : false = Rows.messageBackRow.goesBy Tryz.pinned.checked.prog := by kernel_rfl
theorem messageBack_noStand : ([68,22].all fun u => !Tryz.prog.wantsStandIn u) = true := by kernel_rfl
theorem messageBack_card_holds : Rows.MessageBackCardSaid :=
 Claim7.holds_tied_plain_at .later [] [.data, .data, .data, .handle, .sentinel, .sentinel, .data, .data] true (true, "bb766fb570bec7cb2739f021d878634c7761997539a2e05ecd9a98ea531ab34b") true
  messageBack_holds (fun _ h => by cases h) messageBack_wf (fun _ h => by cases h) messageBack_row_tie rfl ⟨rfl,rfl⟩ mainT rfl
  (fun f fn hf hfn => by
   obtain rfl : f = 10 := Option.some.inj (messageBack_named.symm.trans hf) |>.symm
   obtain rfl : fn = Tryz.f10 := (Option.some.inj (Tryz.func10.symm.trans hfn)).symm
   exact ⟨looksT,fun j t ht => by
    rw [Tryz.params10] at ht
    have hm : t ∈ [68,22] := by simpa using Array.mem_of_getElem? ht
    have hall := messageBack_noStand
    exact (show Tryz.prog.wantsStandIn t = false by simpa using List.all_eq_true.1 hall t hm)⟩)
  messageBack_goes
end Go.Proofs.YtmglaebjmaomnaaGreatDoor
