/- What arguments weigh, one by one. No condition. -/
import Derived.ChangeMaps5
import Derived.Deep.Strs
import Derived.Test.YtfanfdflpakjeaaGreatDoorTAvC
open List renaming range → zeP
namespace Go.Proofs.YtfanfdflpakjeaaGreatDoor
open Go.ChangeShapes Go.WideShapes Go.ChangeAt Go.RowKit Go.Av.Fn Go.ChangeMaps Go.Av
set_option linter.unusedSimpArgs false
set_option linter.unusedVariables false
set_option maxRecDepth 100000
end Go.Proofs.YtfanfdflpakjeaaGreatDoor
/- A log, and its entries, read az data. No condition. -/
namespace Go.Proofs.YtfanfdflpakjeaaGreatDoor
open Go.ChangeShapes Go.WideShapes Go.ChangeAt Go.RowKit Go.Av.Fn Go.ChangeMaps Go.Av
set_option linter.unusedVariables false
set_option linter.unusedSimpArgs false
set_option maxRecDepth 100000
def entC (e : Go.Av.Fn.Ent) : List Value := [.int .i64 e.c, .int .i64 e.q, .int .i64 e.k, .int .i64 e.n, .string ⟨e.s.toArray⟩, .int .i64 e.ck, .int .i64 e.cn, .string ⟨e.cs.toArray⟩]
def EntI (e : Go.Av.Fn.Ent) : Prop := I64 e.c ∧ I64 e.q ∧ I64 e.k ∧ I64 e.n ∧ I64 e.ck ∧ I64 e.cn ∧ e.s.length ≤ maxLen ∧ e.cs.length ≤ maxLen
instance : Inhabited Go.Av.Fn.Ent := ⟨⟨0, 0, 0, 0, [], 0, 0, []⟩⟩
theorem bs_arr (s : ByteArray) : (⟨s.data.toList.toArray⟩ : ByteArray) = s := by simp
theorem trod_ent {H : Type} {enc : TypeId × Value → H} {W : World} {cs : List Value} {x : DataW H × List MemPlace} {fuel : Nat} (h : DataW.trod enc Tryz.prog W 0 (fun _ => true) true fuel 60 cs = some x) :
  ∃ e : Go.Av.Fn.Ent, cs = entC e ∧ EntI e := by
 obtain ⟨xs, n, _, rfl, hl, hlen, hf⟩ := DataW.trod_struct Tryz.underlying60 h
 have hc3 : Tryz.prog.cellsOf 24 = 3 := by kernel_rfl
 have hcI : Tryz.prog.cellsOf 3 = 1 := by kernel_rfl
 have hcA : Tryz.prog.cellsOf 58 = 1 := by kernel_rfl
 have hcS : Tryz.prog.cellsOf 9 = 1 := by kernel_rfl
 have hc1 : Tryz.prog.cellsOf 22 = 1 := by kernel_rfl
 have hc8 : Tryz.prog.cellsOf 60 = 8 := by kernel_rfl
 rw [hc8] at hl
 match cs, hl with
 | [a, b, c, d, e, f, g, i], _ =>
  match xs, hlen with
  | [y0, y1, y2, y3, y4, y5], _ =>
   have h0 : DataW.trod enc Tryz.prog W 0 (fun _ => true) true n 3 (([a, b, c, d, e, f, g, i].drop 0).take (Tryz.prog.cellsOf 3)) = some y0 := hf 0 _ rfl
   have h1 : DataW.trod enc Tryz.prog W 0 (fun _ => true) true n 3 (([a, b, c, d, e, f, g, i].drop 1).take (Tryz.prog.cellsOf 3)) = some y1 := hf 1 _ rfl
   have h2 : DataW.trod enc Tryz.prog W 0 (fun _ => true) true n 58 (([a, b, c, d, e, f, g, i].drop 2).take (Tryz.prog.cellsOf 58)) = some y2 := hf 2 _ rfl
   have h3 : DataW.trod enc Tryz.prog W 0 (fun _ => true) true n 3 (([a, b, c, d, e, f, g, i].drop 3).take (Tryz.prog.cellsOf 3)) = some y3 := hf 3 _ rfl
   have h4 : DataW.trod enc Tryz.prog W 0 (fun _ => true) true n 9 (([a, b, c, d, e, f, g, i].drop 4).take (Tryz.prog.cellsOf 9)) = some y4 := hf 4 _ rfl
   have h5 : DataW.trod enc Tryz.prog W 0 (fun _ => true) true n 24 (([a, b, c, d, e, f, g, i].drop 5).take (Tryz.prog.cellsOf 24)) = some y5 := hf 5 _ rfl
   simp only [hc3, hcI, hcA, hcS, List.drop_zero, List.take_succ_cons, List.take_zero, List.drop_succ_cons] at h0 h1 h2 h3 h4 h5
   obtain ⟨k0, c0, e0, w0⟩ := DataW.trod_int Tryz.underlying3 h0
   obtain ⟨k1, c1, e1, w1⟩ := DataW.trod_int Tryz.underlying3 h1
   obtain ⟨k2, c2, e2, w2⟩ := DataW.trod_int Tryz.underlying58 h2
   obtain ⟨k3, c3, e3, w3⟩ := DataW.trod_int Tryz.underlying3 h3
   obtain ⟨s4, c4, e4, w4⟩ := DataW.trod_string Tryz.underlying9 h4
   obtain ⟨z0, z1, z2, nn, hx, hlen2, g0, g1, g2⟩ := Go.Deep.trod_struct3 Tryz.underlying24 h5
   simp only [hc1, hcI, hcS, List.drop_zero, List.take_succ_cons, List.take_zero, List.drop_succ_cons] at g0 g1 g2
   obtain ⟨k5, c5, e5, w5⟩ := DataW.trod_int Tryz.underlying22 g0
   obtain ⟨k6, c6, e6, w6⟩ := DataW.trod_int Tryz.underlying3 g1
   obtain ⟨s7, c7, e7, w7⟩ := DataW.trod_string Tryz.underlying9 g2
   simp only [List.cons.injEq, and_true] at c0 c1 c2 c3 c4 c5 c6 c7
   subst c0 c1 c2 c3 c4 c5 c6 c7
   exact ⟨⟨k0, k1, k2, k3, s4.data.toList, k5, k6, s7.data.toList⟩, by simp only [entC, bs_arr], wf_i64 w0, wf_i64 w1, wf_i64 w2, wf_i64 w3, wf_i64 w5, wf_i64 w6, w4, w7⟩
theorem entC_rel {G : Gh} (e : Go.Av.Fn.Ent) : RelL G (entV e).cells (entC e) := .cons (.val rfl) (.cons (.val rfl) (.cons (.val rfl) (.cons (.val rfl) (.cons (.val rfl) (.cons (.val rfl) (.cons (.val rfl) (.cons (.val rfl) .nil)))))))
end Go.Proofs.YtfanfdflpakjeaaGreatDoor
/- Rows of acts read az data. No condition. -/
namespace Go.Proofs.YtfanfdflpakjeaaGreatDoor
open Go.ChangeShapes Go.WideShapes Go.ChangeAt Go.RowKit Go.Av.Fn Go.ChangeMaps Go.Av
set_option linter.unusedVariables false
set_option linter.unusedSimpArgs false
set_option maxRecDepth 100000
def actC (a : Go.Av.Fn.Act) : List Value := .int .i64 a.k :: .int .i64 a.op :: entC a.e
def ActI (a : Go.Av.Fn.Act) : Prop := EntI a.e
instance : Inhabited Go.Av.Fn.Act := ⟨⟨0, 0, default⟩⟩
theorem trod_act {H : Type} {enc : TypeId × Value → H} {W : World} {cs : List Value} {x : DataW H × List MemPlace} {fuel : Nat} (h : DataW.trod enc Tryz.prog W 0 (fun _ => true) true fuel 95 cs = some x) :
  ∃ a : Go.Av.Fn.Act, cs = actC a ∧ ActI a := by
 obtain ⟨xs, n, _, rfl, hl, hlen, hf⟩ := DataW.trod_struct Tryz.underlying95 h
 have hcI : Tryz.prog.cellsOf 3 = 1 := by kernel_rfl
 have hcE : Tryz.prog.cellsOf 60 = 8 := by kernel_rfl
 have hcA : Tryz.prog.cellsOf 95 = 10 := by kernel_rfl
 rw [hcA] at hl
 match cs, hl with
 | [p, q, a, b, c, d, e, f, g, i], _ =>
  match xs, hlen with
  | [y0, y1, y2], _ =>
   have h0 : DataW.trod enc Tryz.prog W 0 (fun _ => true) true n 3 (([p, q, a, b, c, d, e, f, g, i].drop 0).take (Tryz.prog.cellsOf 3)) = some y0 := hf 0 _ rfl
   have h1 : DataW.trod enc Tryz.prog W 0 (fun _ => true) true n 3 (([p, q, a, b, c, d, e, f, g, i].drop 1).take (Tryz.prog.cellsOf 3)) = some y1 := hf 1 _ rfl
   have h2 : DataW.trod enc Tryz.prog W 0 (fun _ => true) true n 60 (([p, q, a, b, c, d, e, f, g, i].drop 2).take (Tryz.prog.cellsOf 60)) = some y2 := hf 2 _ rfl
   simp only [hcI, hcE, List.drop_zero, List.take_succ_cons, List.take_zero, List.drop_succ_cons] at h0 h1 h2
   obtain ⟨k0, c0, e0, w0⟩ := DataW.trod_int Tryz.underlying3 h0
   obtain ⟨k1, c1, e1, w1⟩ := DataW.trod_int Tryz.underlying3 h1
   obtain ⟨en, c2, hi⟩ := trod_ent h2
   simp only [List.cons.injEq, and_true] at c0 c1
   subst c0 c1
   exact ⟨⟨k0, k1, en⟩, by rw [actC, ← c2], hi⟩
theorem actC_rel {G : Gh} (a : Go.Av.Fn.Act) : RelL G (actV a).cells (actC a) := .cons (.val rfl) (.cons (.val rfl) (entC_rel a.e))
theorem acts_rel {G : Gh} : ∀ l : List Go.Av.Fn.Act, RelL G (flat (l.map actV)) (l.flatMap actC)
 | [] => .nil
 | e :: l => by
  rw [List.map_cons, zaE, List.flatMap_cons]
  exact (actC_rel e).append (acts_rel l)
theorem acts_at : ∀ (l : List Go.Av.Fn.Act) (j : Nat) (u : Value), (l.flatMap actC)[j]? = some u → ∃ (i k : Nat) (e : Go.Av.Fn.Act), j = i * 10 + k ∧ k < 10 ∧ l[i]? = some e ∧ (actC e)[k]? = some u
 | [], j, u, h => by simp at h
 | e :: l, j, u, h => by
  rw [List.flatMap_cons] at h
  by_cases hj : j < 10
  ·rw [List.getElem?_append_left (by simpa [actC, entC] using hj)] at h
   exact ⟨0, j, e, by omega, hj, rfl, h⟩
  ·rw [List.getElem?_append_right (by simp [actC, entC]; omega)] at h
   obtain ⟨i, k, e', h1, h2, h3, h4⟩ := acts_at l _ u h
   have h8 : (actC e).length = 10 := rfl
   rw [h8] at h1
   exact ⟨i + 1, k, e', by omega, h2, by simpa using h3, h4⟩
theorem open_acts {H : Type} {enc : TypeId × Value → H} {W : World} {cs : List Value} {x : DataW H × List MemPlace} {fuel : Nat} (hsp : ∀ a len cap, cs = [.slice (some a) len cap] → a.spot = none) (h : DataW.trod enc Tryz.prog W 0 (fun _ => true) true fuel 93 cs = some x) :
  ∃ (nn : Bool) (l : List Go.Av.Fn.Act) (v : Value), cs = [v] ∧ RelV (startA W) (actsV nn l) v ∧ l.length ≤ maxLen ∧ ∀ e ∈ l, ActI e := by
 have hc8 : Tryz.prog.cellsOf 95 = 10 := by kernel_rfl
 rcases Go.Deep.open_slice Tryz.underlying93 h with ⟨rfl, rfl⟩ | ⟨a, len, cap, m, n, D, Pl, rfl, _, h3, h4, h5, h6, h7⟩
 ·exact ⟨false, [], _, rfl, .nil rfl, Nat.zero_le _, fun e he => by cases he⟩
 ·have hs := hsp a len cap rfl
  simp only [if_true] at h5
  subst h5
  obtain ⟨f, hf⟩ := Go.Deep.choose_lt (α := Go.Av.Fn.Act) (n := len) (p := fun i e => (∀ k, k < 10 → W.cell? (a.add (i * 10 + k)) = (actC e)[k]?) ∧ ActI e) (fun i hi => by
   obtain ⟨cs', g1, g2⟩ := h7 i (by omega)
   rw [hc8] at g1
   obtain ⟨e, rfl, he⟩ := trod_act g2
   obtain ⟨_, _, g3⟩ := World.cells?_some g1
   refine ⟨e, fun k hk => ?_, he⟩
   have := g3 k hk
   rw [add_plain hs, add_plain rfl] at this
   rw [add_plain hs, ← this, Nat.add_assoc])
  have hlen : ((zeP len).map f).length = len := by simp
  refine ⟨true, (zeP len).map f, _, rfl, ?_, by rw [hlen]; omega, ?_⟩
  ·have := RelV.sl (G := startA W) (es := ((zeP len).map f).map actV) (more := []) (tok := .non) (us := ((zeP len).map f).flatMap actC) (a := a) (cap := m) (s := 10) (by
     intro e he
     rw [List.append_nil] at he
     obtain ⟨b, _, rfl⟩ := List.mem_map.1 he
     rfl) (by rw [List.append_nil]; exact acts_rel _) (has_cells hs (by
     intro j u hu
     obtain ⟨i, k, e, rfl, hk, hi, hu'⟩ := acts_at _ _ _ hu
     rw [List.getElem?_map] at hi
     obtain ⟨i', hi', rfl⟩ := Option.map_eq_some_iff.1 hi
     obtain ⟨hlt, e2⟩ := List.getElem?_eq_some_iff.1 hi'
     simp only [List.length_range] at hlt
     simp only [List.getElem_range] at e2
     subst e2
     rw [(hf i hlt).1 k hk]
     exact hu')) (by simpa using h3) (by decide) trivial
   rw [List.length_map, hlen] at this
   exact this
  ·intro e he
   obtain ⟨i, hi, rfl⟩ := List.mem_map.1 he
   exact (hf i (by simpa using hi)).2
theorem open_actsV {H : Type} {enc : TypeId × Value → H} {W : World} {base : Nat} {v : Value} {d : DataW H} {ps : List MemPlace} (hv : Value.okWide Tryz.prog W .any base 93 v) (h : DataW.Trod enc Tryz.prog W 0 (fun _ => true) true 93 v d ps) :
  ∃ (nn : Bool) (l : List Go.Av.Fn.Act), RelV (startA W) (actsV nn l) v ∧ ∀ a ∈ l, EntN a.e := by
 obtain ⟨fuel, hf⟩ := h
 have hvc : v.cells.toList = [v] := by
  simp only [Value.okWide, Tryz.underlying93] at hv
  rw [noAgg_cells (noAgg_cell hv)]
 rw [hvc] at hf
 obtain ⟨nn, l, v', e, hr, hle, hi⟩ := open_acts (by
  intro a len cap e
  simp only [List.cons.injEq, and_true] at e
  subst e
  simp only [Value.okWide, Tryz.underlying93, Cell.okWide, Cell.ok] at hv
  exact hv.2.2.2.1) hf
 simp only [List.cons.injEq, and_true] at e
 subst e
 refine ⟨nn, l, hr, fun a ha => ?_⟩
 obtain ⟨h1, h2, h3, h4, h5, h6, _⟩ := hi a ha
 exact ⟨h1, h2, h3, h4, h5, h6⟩
end Go.Proofs.YtfanfdflpakjeaaGreatDoor
/- What the world at the door meets; the table of types is in order; a command read as data. No condition. -/
namespace Go.Proofs.YtfanfdflpakjeaaGreatDoor
open Go.ChangeShapes Go.WideShapes Go.ChangeAt Go.RowKit Go.Av.Fn Go.ChangeMaps Go.Av
set_option linter.unusedVariables false
theorem own : ownKnob Tryz.prog.godebug = none := by kernel_rfl
theorem door_met (os : Os) (args : Array Value) : laidMetH Tryz.prog laidL ((World.doorLaid Tryz.prog 4000 os).forCall (fun _ _ => 0) ⟨#[], args, []⟩).memory :=
 laidMetH_of_parts3 (fuel := 8) (laidMet_of_run' 8 (by kernel_rfl) (by kernel_rfl)) (by kernel_rfl) (by kernel_rfl)
theorem types_ok : typesOk Tryz.prog = true := by kernel_rfl
end Go.Proofs.YtfanfdflpakjeaaGreatDoor
/- What the program's harness is, and that it looks. No condition. -/
namespace Go.Proofs.YtfanfdflpakjeaaGreatDoor
open Go.ChangeShapes Go.WideShapes Go.ChangeAt Go.RowKit Go.Av.Fn Go.ChangeMaps Go.Av
theorem mainT : Tryz.pinned.checked.prog.mainIs = some (true, (("1b8154fc6baef69c22d04b423b7dd1732c017c73b1e19009b2d3ba36816cfbaf" : String).toList)) := by kernel_rfl
theorem looksT : true = Tryz.pinned.checked.prog.looks [] := by kernel_rfl
end Go.Proofs.YtfanfdflpakjeaaGreatDoor
/- At tells of each number above Base the same, however often a log was appended to, cut above it, or compacted below it: the row, and its tied card. Condition: what the row says of the listed variables. -/
namespace Go.Proofs.YtfanfdflpakjeaaGreatDoor
open Go.ChangeShapes Go.WideShapes Go.ChangeAt Go.RowKit Go.Av.Fn Go.ChangeMaps Go.Av
set_option linter.unusedVariables false
set_option maxRecDepth 100000
theorem oplogSame_lifted (os : Os) (started : os.Started) (H : Type) (enc : TypeId × Value → H) :
  ReturnsInHanded {} Tryz.checked os 14 .any (fun w args => (Rows.oplogSameSpec.pre enc Tryz.prog Tryz.f14 [] false w args ∧ laidMetH Tryz.prog laidL w) ∧ sizedMet enc Tryz.prog Tryz.f14 (OpenSpec.ofChange Rows.oplogSameSpec) false w args)
   (Rows.oplogSameSpec.post enc Tryz.prog Tryz.f14 false true false false) := by
 refine returnsInHanded_of_change_and (C := Tryz.checked) (X := fun w _ => laidMetH Tryz.prog laidL w) (fun _ _ _ hh h => h.of_heap hh) own started (by kernel_rfl) Tryz.func14
  (ChangeSpec.witness_shaped (enc := enc) (C := Tryz.checked) (os := os) (X := fun w _ => laidMetH Tryz.prog laidL w) false (World.doorLaid Tryz.prog 4000 os) #[.slice none 0 0] 8 rfl (World.shaped_of_RefB (by kernel_rfl) (by kernel_rfl)) (by kernel_rfl) (by kernel_rfl) (by kernel_rfl) (door_met os _)) ?_
 intro W base args ds gs before hval0 hW x1 x2 hL x3
 have hval : ∀ (j : Nat) t v, Tryz.f14.params[j]? = some t → args[j]? = some v → Value.okWide Tryz.prog W .any base t v := hval0
 have hW' := hW
 obtain ⟨p, q, hA0, hV, rfl, hfz, hnd⟩ := hW
 have hA : DataW.TrodAll enc Tryz.prog W 0 (fun _ => true) true Tryz.f14.params.toList args.toList ds p := hA0
 rw [Tryz.params14] at hA hval x2
 have hA2 := hA
 obtain ⟨v0, d0, rfl, rfl, h0⟩ := trodAll_one hA
 obtain ⟨rfl, rfl⟩ := trodVars_none hV
 have hcall : Calls Tryz.prog 14 #[v0] W fun e W' => e = .returned (.bool true) ∧ Below W.heap.size W W' := by
  obtain ⟨nn, l, hr0, hi⟩ := open_actsV (hval 0 _ v0 rfl rfl) h0
  obtain ⟨p, q, _, _, hr⟩ := start_of_laid hL
  exact calls_retA (cargs := [_]) hr (.cons hr0 .nil) (oplogSame_ok (env_gl p q).env nn l hi)
 refine hcall.mono fun ev W' ⟨hev, hB⟩ => ?_
 subst hev
 have hagain := trodAll_again types_ok hB (ts := [93]) (by
  have h : ([93].all fun t => decide (t < Tryz.prog.types.size)) = true := by kernel_rfl
  intro t ht
  simpa using List.all_eq_true.1 h t ht) hA2
 refine ⟨_, rfl, _, _, _, [], p, [], hW', ?_, ?_, ?_, hB.frame _, fun h => by cases h⟩
 ·exact trodAll_mk1 (shut_bool Tryz.underlying4 true)
 ·exact hagain
 ·rfl
set_option maxHeartbeats 8000000 in
theorem oplogSame_closed : joinedFacts Tryz.pinned.checked.prog 14 Tryz.f14 Rows.oplogSameSpec Rows.oplogSameRow = true := by
 unfold joinedFacts
 simp only [Bool.and_eq_true]
 and_intros
 all_goals as_aux_lemma => kernel_rfl
theorem oplogSame_named : Tryz.pinned.checked.prog.funcNamed Rows.oplogSameRow.func = some 14 := by kernel_rfl
theorem oplogSame_origin : Tryz.f14.isInstance Tryz.pinned.checked.prog Rows.oplogSameRow.origin Rows.oplogSameRow.targs := of_decide_eq_true (by kernel_rfl)
theorem oplogSame_unwrapped : Tryz.f14.isWrapper Tryz.pinned.checked.prog Rows.oplogSameRow.wrapper Rows.oplogSameRow.mainSum := by
 unfold Func.isWrapper; first | (rw [if_pos (by decide +kernel)]; kernel_rfl) | (rw [if_neg (by decide +kernel)]; exact ⟨rfl, rfl⟩)
theorem oplogSame_holds : Rows.OplogSameSaid :=
 OpenClaim.holds_of_wide 14 Tryz.f14 rfl rfl rfl rfl rfl rfl rfl ⟨rfl, rfl, rfl, rfl, rfl⟩ rfl rfl rfl rfl rfl oplogSame_named Tryz.func14 oplogSame_closed oplogSame_origin oplogSame_unwrapped
  (fun os started H enc _ => oplogSame_lifted os started H enc)
theorem oplogSame_wf : Rows.oplogSameRow.wfByText (OpenSpec.ofChange Rows.oplogSameSpec) = true := by kernel_rfl
theorem oplogSame_goes : false = Rows.oplogSameRow.goesBy Tryz.pinned.checked.prog := by kernel_rfl
theorem oplogSame_noStand : ([93].all fun u => !Tryz.prog.wantsStandIn u) = true := by kernel_rfl
theorem oplogSame_card_holds : Rows.OplogSameCardSaid :=
 Claim7.holds_tied_plain_at .later [] [.data, .data, .data, .handle, .sentinel, .sentinel, .data, .data] true (true, "1b8154fc6baef69c22d04b423b7dd1732c017c73b1e19009b2d3ba36816cfbaf") true
  oplogSame_holds (fun _ h => by cases h) oplogSame_wf (fun _ h => by cases h) oplogSame_row_tie rfl ⟨rfl, rfl⟩ mainT rfl
  (fun f fn hf hfn => by
   obtain rfl : f = 14 := Option.some.inj (oplogSame_named.symm.trans hf) |>.symm
   obtain rfl : fn = Tryz.f14 := (Option.some.inj (Tryz.func14.symm.trans hfn)).symm
   exact ⟨looksT, fun j t ht => by
    rw [Tryz.params14] at ht
    have hm : t ∈ [93] := by simpa using Array.mem_of_getElem? ht
    have hall := oplogSame_noStand
    exact (show Tryz.prog.wantsStandIn t = false by simpa using List.all_eq_true.1 hall t hm)⟩)
  oplogSame_goes
end Go.Proofs.YtfanfdflpakjeaaGreatDoor
