/- What arguments weigh, one by one. No condition. -/
import Derived.ChangeMaps5
import Derived.Deep.Strs
import Derived.Test.YtfanfdflpakjeaaGreatDoorTAvC
open List renaming range → zef
namespace Go.Proofs.YtfanfdflpakjeaaGreatDoor
open Go.ChangeShapes Go.WideShapes Go.ChangeAt Go.RowKit Go.Av.Fn Go.ChangeMaps Go.Av
set_option linter.unusedSimpArgs false
set_option linter.unusedVariables false
set_option maxRecDepth 100000
theorem open_str {H : Type} {enc : TypeId × Value → H} {W : World} {base : Nat} {v : Value} {d : DataW H} {ps : List MemPlace} (hv : Value.okWide Tryz.prog W .any base 9 v) (h : DataW.Trod enc Tryz.prog W 0 (fun _ => true) true 9 v d ps) :
  ∃ s : ByteArray, v = .string s ∧ d = .lit (.string s.data.toList) := by
 obtain ⟨fuel, hf⟩ := h
 obtain ⟨s, c2, e2, w2⟩ := DataW.trod_string Tryz.underlying9 hf
 have hn : zbA v = true := by
  simp only [Value.okWide, Tryz.underlying9] at hv
  exact noAgg_cell hv
 rw [noAgg_cells hn] at c2
 simp only [Prod.mk.injEq] at e2
 exact ⟨s, by simpa using c2, e2.1⟩
end Go.Proofs.YtfanfdflpakjeaaGreatDoor
/- A log, and its entries, read az data. No condition. -/
namespace Go.Proofs.YtfanfdflpakjeaaGreatDoor
open Go.ChangeShapes Go.WideShapes Go.ChangeAt Go.RowKit Go.Av.Fn Go.ChangeMaps Go.Av
set_option linter.unusedVariables false
set_option linter.unusedSimpArgs false
set_option maxRecDepth 100000
def entC (e : Go.Av.Fn.Ent) : List Value := [.int .i64 e.c, .int .i64 e.q, .int .i64 e.k, .int .i64 e.n, .string ⟨e.s.toArray⟩, .int .i64 e.ck, .int .i64 e.cn, .string ⟨e.cs.toArray⟩]
def EntI (e : Go.Av.Fn.Ent) : Prop := I64 e.c ∧ I64 e.q ∧ I64 e.k ∧ I64 e.n ∧ I64 e.ck ∧ I64 e.cn ∧ e.s.length ≤ maxLen ∧ e.cs.length ≤ maxLen
instance : Inhabited Go.Av.Fn.Ent := ⟨⟨0, 0, 0, 0, [], 0, 0, []⟩⟩
theorem bs_arr (s : ByteArray) : (⟨s.data.toList.toArray⟩ : ByteArray) = s := by simp
theorem trod_ent {H : Type} {enc : TypeId × Value → H} {W : World} {cs : List Value} {x : DataW H × List MemPlace} {fuel : Nat} (h : DataW.trod enc Tryz.prog W 0 (fun _ => true) true fuel 60 cs = some x) :
  ∃ e : Go.Av.Fn.Ent, cs = entC e ∧ EntI e := by
 obtain ⟨xs, n, _, rfl, hl, hlen, hf⟩ := DataW.trod_struct Tryz.underlying60 h
 have hc3 : Tryz.prog.cellsOf 24 = 3 := by kernel_rfl
 have hcI : Tryz.prog.cellsOf 3 = 1 := by kernel_rfl
 have hcA : Tryz.prog.cellsOf 58 = 1 := by kernel_rfl
 have hcS : Tryz.prog.cellsOf 9 = 1 := by kernel_rfl
 have hc1 : Tryz.prog.cellsOf 22 = 1 := by kernel_rfl
 have hc8 : Tryz.prog.cellsOf 60 = 8 := by kernel_rfl
 rw [hc8] at hl
 match cs, hl with
 | [a, b, c, d, e, f, g, i], _ =>
  match xs, hlen with
  | [y0, y1, y2, y3, y4, y5], _ =>
   have h0 : DataW.trod enc Tryz.prog W 0 (fun _ => true) true n 3 (([a, b, c, d, e, f, g, i].drop 0).take (Tryz.prog.cellsOf 3)) = some y0 := hf 0 _ rfl
   have h1 : DataW.trod enc Tryz.prog W 0 (fun _ => true) true n 3 (([a, b, c, d, e, f, g, i].drop 1).take (Tryz.prog.cellsOf 3)) = some y1 := hf 1 _ rfl
   have h2 : DataW.trod enc Tryz.prog W 0 (fun _ => true) true n 58 (([a, b, c, d, e, f, g, i].drop 2).take (Tryz.prog.cellsOf 58)) = some y2 := hf 2 _ rfl
   have h3 : DataW.trod enc Tryz.prog W 0 (fun _ => true) true n 3 (([a, b, c, d, e, f, g, i].drop 3).take (Tryz.prog.cellsOf 3)) = some y3 := hf 3 _ rfl
   have h4 : DataW.trod enc Tryz.prog W 0 (fun _ => true) true n 9 (([a, b, c, d, e, f, g, i].drop 4).take (Tryz.prog.cellsOf 9)) = some y4 := hf 4 _ rfl
   have h5 : DataW.trod enc Tryz.prog W 0 (fun _ => true) true n 24 (([a, b, c, d, e, f, g, i].drop 5).take (Tryz.prog.cellsOf 24)) = some y5 := hf 5 _ rfl
   simp only [hc3, hcI, hcA, hcS, List.drop_zero, List.take_succ_cons, List.take_zero, List.drop_succ_cons] at h0 h1 h2 h3 h4 h5
   obtain ⟨k0, c0, e0, w0⟩ := DataW.trod_int Tryz.underlying3 h0
   obtain ⟨k1, c1, e1, w1⟩ := DataW.trod_int Tryz.underlying3 h1
   obtain ⟨k2, c2, e2, w2⟩ := DataW.trod_int Tryz.underlying58 h2
   obtain ⟨k3, c3, e3, w3⟩ := DataW.trod_int Tryz.underlying3 h3
   obtain ⟨s4, c4, e4, w4⟩ := DataW.trod_string Tryz.underlying9 h4
   obtain ⟨z0, z1, z2, nn, hx, hlen2, g0, g1, g2⟩ := Go.Deep.trod_struct3 Tryz.underlying24 h5
   simp only [hc1, hcI, hcS, List.drop_zero, List.take_succ_cons, List.take_zero, List.drop_succ_cons] at g0 g1 g2
   obtain ⟨k5, c5, e5, w5⟩ := DataW.trod_int Tryz.underlying22 g0
   obtain ⟨k6, c6, e6, w6⟩ := DataW.trod_int Tryz.underlying3 g1
   obtain ⟨s7, c7, e7, w7⟩ := DataW.trod_string Tryz.underlying9 g2
   simp only [List.cons.injEq, and_true] at c0 c1 c2 c3 c4 c5 c6 c7
   subst c0 c1 c2 c3 c4 c5 c6 c7
   exact ⟨⟨k0, k1, k2, k3, s4.data.toList, k5, k6, s7.data.toList⟩, by simp only [entC, bs_arr], wf_i64 w0, wf_i64 w1, wf_i64 w2, wf_i64 w3, wf_i64 w5, wf_i64 w6, w4, w7⟩
theorem entC_rel {G : Gh} (e : Go.Av.Fn.Ent) : RelL G (entV e).cells (entC e) := .cons (.val rfl) (.cons (.val rfl) (.cons (.val rfl) (.cons (.val rfl) (.cons (.val rfl) (.cons (.val rfl) (.cons (.val rfl) (.cons (.val rfl) .nil)))))))
theorem ents_rel {G : Gh} : ∀ l : List Go.Av.Fn.Ent, RelL G (flat (l.map entV)) (l.flatMap entC)
 | [] => .nil
 | e :: l => by
  rw [List.map_cons, zaO, List.flatMap_cons]
  exact (entC_rel e).append (ents_rel l)
theorem ents_at : ∀ (l : List Go.Av.Fn.Ent) (j : Nat) (u : Value), (l.flatMap entC)[j]? = some u → ∃ (i k : Nat) (e : Go.Av.Fn.Ent), j = i * 8 + k ∧ k < 8 ∧ l[i]? = some e ∧ (entC e)[k]? = some u
 | [], j, u, h => by simp at h
 | e :: l, j, u, h => by
  rw [List.flatMap_cons] at h
  by_cases hj : j < 8
  ·rw [List.getElem?_append_left (by simpa [entC] using hj)] at h
   exact ⟨0, j, e, by omega, hj, rfl, h⟩
  ·rw [List.getElem?_append_right (by simp [entC]; omega)] at h
   obtain ⟨i, k, e', h1, h2, h3, h4⟩ := ents_at l _ u h
   have h8 : (entC e).length = 8 := rfl
   rw [h8] at h1
   exact ⟨i + 1, k, e', by omega, h2, by simpa using h3, h4⟩
theorem open_ents {H : Type} {enc : TypeId × Value → H} {W : World} {cs : List Value} {x : DataW H × List MemPlace} {fuel : Nat} (hsp : ∀ a len cap, cs = [.slice (some a) len cap] → a.spot = none) (h : DataW.trod enc Tryz.prog W 0 (fun _ => true) true fuel 54 cs = some x) :
  ∃ (nn : Bool) (l : List Go.Av.Fn.Ent) (v : Value), cs = [v] ∧ RelV (startA W) (zaW nn l) v ∧ (nn = true ∨ l = []) ∧ l.length ≤ maxLen ∧ ∀ e ∈ l, EntI e := by
 have hc8 : Tryz.prog.cellsOf 60 = 8 := by kernel_rfl
 rcases Go.Deep.open_slice Tryz.underlying54 h with ⟨rfl, rfl⟩ | ⟨a, len, cap, m, n, D, Pl, rfl, _, h3, h4, h5, h6, h7⟩
 ·exact ⟨false, [], _, rfl, .nil rfl, .inr rfl, Nat.zero_le _, fun e he => by cases he⟩
 ·have hs := hsp a len cap rfl
  simp only [if_true] at h5
  subst h5
  obtain ⟨f, hf⟩ := Go.Deep.choose_lt (α := Go.Av.Fn.Ent) (n := len) (p := fun i e => (∀ k, k < 8 → W.cell? (a.add (i * 8 + k)) = (entC e)[k]?) ∧ EntI e) (fun i hi => by
   obtain ⟨cs', g1, g2⟩ := h7 i (by omega)
   rw [hc8] at g1
   obtain ⟨e, rfl, he⟩ := trod_ent g2
   obtain ⟨_, _, g3⟩ := World.cells?_some g1
   refine ⟨e, fun k hk => ?_, he⟩
   have := g3 k hk
   rw [add_plain hs, add_plain rfl] at this
   rw [add_plain hs, ← this, Nat.add_assoc])
  have hlen : ((zef len).map f).length = len := by simp
  refine ⟨true, (zef len).map f, _, rfl, ?_, .inl rfl, by rw [hlen]; omega, ?_⟩
  ·have := RelV.sl (G := startA W) (es := ((zef len).map f).map entV) (more := []) (tok := .non) (us := ((zef len).map f).flatMap entC) (a := a) (cap := m) (s := 8) (by
     intro e he
     rw [List.append_nil] at he
     obtain ⟨b, _, rfl⟩ := List.mem_map.1 he
     rfl) (by rw [List.append_nil]; exact ents_rel _) (has_cells hs (by
     intro j u hu
     obtain ⟨i, k, e, rfl, hk, hi, hu'⟩ := ents_at _ _ _ hu
     rw [List.getElem?_map] at hi
     obtain ⟨i', hi', rfl⟩ := Option.map_eq_some_iff.1 hi
     obtain ⟨hlt, e2⟩ := List.getElem?_eq_some_iff.1 hi'
     simp only [List.length_range] at hlt
     simp only [List.getElem_range] at e2
     subst e2
     rw [(hf i hlt).1 k hk]
     exact hu')) (by simpa using h3) (by decide) trivial
   rw [List.length_map, hlen] at this
   exact this
  ·intro e he
   obtain ⟨i, hi, rfl⟩ := List.mem_map.1 he
   exact (hf i (by simpa using hi)).2
theorem open_log {H : Type} {enc : TypeId × Value → H} {W : World} {base : Nat} {v : Value} {d : DataW H} {ps : List MemPlace} (hv : Value.okWide Tryz.prog W .any base 56 v) (h : DataW.Trod enc Tryz.prog W 0 (fun _ => true) true 56 v d ps) :
  ∃ (nn : Bool) (x : Lg), RelV (startA W) (lgV nn x) v ∧ (nn = true ∨ x.l = []) ∧ x.l.length ≤ maxLen ∧ I64 x.b ∧ x.c.length ≤ maxLen ∧ ∀ e ∈ x.l, EntI e := by
 have hv0 := hv
 obtain ⟨l, rfl, hl, hna⟩ := struct_cells Tryz.underlying56 hv
 obtain ⟨fuel, hf⟩ := h
 obtain ⟨y0, y1, y2, nn, hx, hlen, g0, g1, g2⟩ := Go.Deep.trod_struct3 Tryz.underlying56 hf
 have hc3 : Tryz.prog.cellsOf 56 = 3 := by kernel_rfl
 have hc1 : Tryz.prog.cellsOf 3 = 1 := by kernel_rfl
 have hc2 : Tryz.prog.cellsOf 9 = 1 := by kernel_rfl
 have hc4 : Tryz.prog.cellsOf 54 = 1 := by kernel_rfl
 rw [hc3] at hl
 match l, hl with
 | [a, b, c], _ =>
  simp only [Value.cells, List.drop_zero, hc1, hc2, hc4, List.take_succ_cons, List.take_zero, List.drop_succ_cons] at g0 g1 g2
  obtain ⟨k, c0, e0, w0⟩ := DataW.trod_int Tryz.underlying3 g0
  obtain ⟨s, c1, e1, w1⟩ := DataW.trod_string Tryz.underlying9 g1
  have hsp : ∀ p len cap, [c] = [.slice (some p) len cap] → p.spot = none := by
   intro p len cap e
   simp only [List.cons.injEq, and_true] at e
   subst e
   simp only [Value.okWide, Tryz.underlying56] at hv0
   obtain ⟨cs, q1, q2, ts, q3, q4, q5⟩ := hv0
   have e1 : cs = #[a, b, .slice (some p) len cap] := by
    cases q1
    rfl
   subst e1
   obtain ⟨u, q6, q7⟩ := q5 2 _ rfl
   have hts : Tryz.prog.cellTypes Tryz.prog.depth 56 = some ts := q3
   have : u = 54 := by
    have hk : Tryz.prog.cellTypes Tryz.prog.depth 56 = some [3, 9, 54] := by kernel_rfl
    rw [hk] at hts
    cases hts
    simpa using q6.symm
   subst this
   simp only [Cell.okWide, Cell.ok, Tryz.underlying54] at q7
   exact q7.2.2.2.1
  obtain ⟨nb, es, v', c2, hr, hn, hle, hi⟩ := open_ents hsp g2
  simp only [List.cons.injEq, and_true] at c0 c1 c2
  subst c0 c1 c2
  refine ⟨nb, ⟨k, s.data.toList, es⟩, .agg (.cons (.val rfl) (.cons (relv_string s) (.cons hr .nil))), hn, hle, wf_i64 w0, w1, hi⟩
theorem open_ent {H : Type} {enc : TypeId × Value → H} {W : World} {base : Nat} {v : Value} {d : DataW H} {ps : List MemPlace} (hv : Value.okWide Tryz.prog W .any base 60 v) (h : DataW.Trod enc Tryz.prog W 0 (fun _ => true) true 60 v d ps) :
  ∃ e : Go.Av.Fn.Ent, RelV (startA W) (entV e) v ∧ EntI e := by
 obtain ⟨l, rfl, hl, hna⟩ := struct_cells Tryz.underlying60 hv
 obtain ⟨fuel, hf⟩ := h
 obtain ⟨e, hc, he⟩ := trod_ent hf
 simp only [Value.cells] at hc
 subst hc
 exact ⟨e, .agg (entC_rel e), he⟩
theorem open_int {H : Type} {enc : TypeId × Value → H} {W : World} {base : Nat} {v : Value} {d : DataW H} {ps : List MemPlace} (hv : Value.okWide Tryz.prog W .any base 3 v) (h : DataW.Trod enc Tryz.prog W 0 (fun _ => true) true 3 v d ps) :
  ∃ n : Int, v = .int .i64 n ∧ I64 n := by
 obtain ⟨fuel, hf⟩ := h
 obtain ⟨n, c0, e0, w0⟩ := DataW.trod_int Tryz.underlying3 hf
 have hn : zbA v = true := by
  simp only [Value.okWide, Tryz.underlying3] at hv
  exact noAgg_cell hv
 rw [noAgg_cells hn] at c0
 exact ⟨n, by simpa using c0, wf_i64 w0⟩
end Go.Proofs.YtfanfdflpakjeaaGreatDoor
/- What the world at the door meets; the table of types is in order; a command read as data. No condition. -/
namespace Go.Proofs.YtfanfdflpakjeaaGreatDoor
open Go.ChangeShapes Go.WideShapes Go.ChangeAt Go.RowKit Go.Av.Fn Go.ChangeMaps Go.Av
set_option linter.unusedVariables false
theorem own : ownKnob Tryz.prog.godebug = none := by kernel_rfl
theorem door_met (os : Os) (args : Array Value) : laidMetH Tryz.prog laidL ((World.doorLaid Tryz.prog 4000 os).forCall (fun _ _ => 0) ⟨#[], args, []⟩).memory :=
 laidMetH_of_parts3 (fuel := 8) (laidMet_of_run' 8 (by kernel_rfl) (by kernel_rfl)) (by kernel_rfl) (by kernel_rfl)
theorem types_ok : typesOk Tryz.prog = true := by kernel_rfl
end Go.Proofs.YtfanfdflpakjeaaGreatDoor
/- What the program's harness is, and that it looks. No condition. -/
namespace Go.Proofs.YtfanfdflpakjeaaGreatDoor
open Go.ChangeShapes Go.WideShapes Go.ChangeAt Go.RowKit Go.Av.Fn Go.ChangeMaps Go.Av
theorem mainT : Tryz.pinned.checked.prog.mainIs = some (true, (("1b8154fc6baef69c22d04b423b7dd1732c017c73b1e19009b2d3ba36816cfbaf" : String).toList)) := by kernel_rfl
theorem looksT : true = Tryz.pinned.checked.prog.looks [] := by kernel_rfl
end Go.Proofs.YtfanfdflpakjeaaGreatDoor
/- Any log is appended to, cut and compacted, and what was handed in is left, as the document says: the row, and its tied card. Condition: what the row says of the listed variables. -/
namespace Go.Proofs.YtfanfdflpakjeaaGreatDoor
open Go.ChangeShapes Go.WideShapes Go.ChangeAt Go.RowKit Go.Av.Fn Go.ChangeMaps Go.Av
set_option linter.unusedVariables false
set_option maxRecDepth 100000
theorem oplogTurns_lifted (os : Os) (started : os.Started) (H : Type) (enc : TypeId × Value → H) :
  ReturnsInHanded {} Tryz.checked os 10 .any (fun w args => (Rows.oplogTurnsSpec.pre enc Tryz.prog Tryz.f10 [] false w args ∧ laidMetH Tryz.prog laidL w) ∧ sizedMet enc Tryz.prog Tryz.f10 (OpenSpec.ofChange Rows.oplogTurnsSpec) false w args)
   (Rows.oplogTurnsSpec.post enc Tryz.prog Tryz.f10 false true false false) := by
 refine returnsInHanded_of_change_and (C := Tryz.checked) (X := fun w _ => laidMetH Tryz.prog laidL w) (fun _ _ _ hh h => h.of_heap hh) own started (by kernel_rfl) Tryz.func10
  (ChangeSpec.witness_shaped (enc := enc) (C := Tryz.checked) (os := os) (X := fun w _ => laidMetH Tryz.prog laidL w) false (World.doorLaid Tryz.prog 4000 os) #[.agg #[.int .i64 0, .string ⟨#[]⟩, .slice none 0 0], .int .i64 0, .agg #[.int .i64 0, .int .i64 0, .int .i64 0, .int .i64 0, .string ⟨#[]⟩, .int .i64 0, .int .i64 0, .string ⟨#[]⟩], .string ⟨#[]⟩] 8 rfl (World.shaped_of_RefB (by kernel_rfl) (by kernel_rfl)) (by kernel_rfl) (by kernel_rfl) (by kernel_rfl) (door_met os _)) ?_
 intro W base args ds gs before hval0 hW x1 x2 hL x3
 have hval : ∀ (j : Nat) t v, Tryz.f10.params[j]? = some t → args[j]? = some v → Value.okWide Tryz.prog W .any base t v := hval0
 have hW' := hW
 obtain ⟨p, q, hA0, hV, rfl, hfz, hnd⟩ := hW
 have hA : DataW.TrodAll enc Tryz.prog W 0 (fun _ => true) true Tryz.f10.params.toList args.toList ds p := hA0
 rw [Tryz.params10] at hA hval x2
 have hA2 := hA
 obtain ⟨v0, v1, v2, v3, d0, d1, d2, d3, p0, p1, p2, p3, rfl, rfl, rfl, h0, h1, h2, h3⟩ := trodAll_four hA
 obtain ⟨rfl, rfl⟩ := trodVars_none hV
 have hcall : Calls Tryz.prog 10 #[v0, v1, v2, v3] W fun e W' => e = .returned (.bool true) ∧ Below W.heap.size W W' := by
  obtain ⟨nn, x, hr0, hn, _, _⟩ := open_log (hval 0 _ v0 rfl rfl) h0
  obtain ⟨op, rfl, _⟩ := open_int (hval 1 _ v1 rfl rfl) h1
  obtain ⟨e, hr2, _⟩ := open_ent (hval 2 _ v2 rfl rfl) h2
  obtain ⟨s, rfl, rfl⟩ := open_str (hval 3 _ v3 rfl rfl) h3
  obtain ⟨p, q, _, _, hr⟩ := start_of_laid hL
  exact calls_retA (cargs := [_, _, _, _]) hr (.cons hr0 (.cons (.val rfl) (.cons hr2 (.cons (relv_string s) .nil)))) (oplogTurns_ok (env_gl p q).env op e s.data.toList)
 refine hcall.mono fun ev W' ⟨hev, hB⟩ => ?_
 subst hev
 have hagain := trodAll_again types_ok hB (ts := [56, 3, 60, 9]) (by
  have h : ([56, 3, 60, 9].all fun t => decide (t < Tryz.prog.types.size)) = true := by kernel_rfl
  intro t ht
  simpa using List.all_eq_true.1 h t ht) hA2
 refine ⟨_, rfl, _, _, _, [], (p0 ++ p1 ++ p2 ++ p3), [], hW', ?_, ?_, ?_, hB.frame _, fun h => by cases h⟩
 ·exact trodAll_mk1 (shut_bool Tryz.underlying4 true)
 ·exact hagain
 ·rfl
set_option maxHeartbeats 8000000 in
theorem oplogTurns_closed : joinedFacts Tryz.pinned.checked.prog 10 Tryz.f10 Rows.oplogTurnsSpec Rows.oplogTurnsRow = true := by
 unfold joinedFacts
 simp only [Bool.and_eq_true]
 and_intros
 all_goals as_aux_lemma => kernel_rfl
theorem oplogTurns_named : Tryz.pinned.checked.prog.funcNamed Rows.oplogTurnsRow.func = some 10 := by kernel_rfl
theorem oplogTurns_origin : Tryz.f10.isInstance Tryz.pinned.checked.prog Rows.oplogTurnsRow.origin Rows.oplogTurnsRow.targs := of_decide_eq_true (by kernel_rfl)
theorem oplogTurns_unwrapped : Tryz.f10.isWrapper Tryz.pinned.checked.prog Rows.oplogTurnsRow.wrapper Rows.oplogTurnsRow.mainSum := by
 unfold Func.isWrapper; first | (rw [if_pos (by decide +kernel)]; kernel_rfl) | (rw [if_neg (by decide +kernel)]; exact ⟨rfl, rfl⟩)
theorem oplogTurns_holds : Rows.OplogTurnsSaid :=
 OpenClaim.holds_of_wide 10 Tryz.f10 rfl rfl rfl rfl rfl rfl rfl ⟨rfl, rfl, rfl, rfl, rfl⟩ rfl rfl rfl rfl rfl oplogTurns_named Tryz.func10 oplogTurns_closed oplogTurns_origin oplogTurns_unwrapped
  (fun os started H enc _ => oplogTurns_lifted os started H enc)
theorem oplogTurns_wf : Rows.oplogTurnsRow.wfByText (OpenSpec.ofChange Rows.oplogTurnsSpec) = true := by kernel_rfl
theorem oplogTurns_goes : false = Rows.oplogTurnsRow.goesBy Tryz.pinned.checked.prog := by kernel_rfl
theorem oplogTurns_noStand : ([56, 3, 60, 9].all fun u => !Tryz.prog.wantsStandIn u) = true := by kernel_rfl
theorem oplogTurns_card_holds : Rows.OplogTurnsCardSaid :=
 Claim7.holds_tied_plain_at .later [] [.data, .data, .data, .handle, .sentinel, .sentinel, .data, .data] true (true, "1b8154fc6baef69c22d04b423b7dd1732c017c73b1e19009b2d3ba36816cfbaf") true
  oplogTurns_holds (fun _ h => by cases h) oplogTurns_wf (fun _ h => by cases h) oplogTurns_row_tie rfl ⟨rfl, rfl⟩ mainT rfl
  (fun f fn hf hfn => by
   obtain rfl : f = 10 := Option.some.inj (oplogTurns_named.symm.trans hf) |>.symm
   obtain rfl : fn = Tryz.f10 := (Option.some.inj (Tryz.func10.symm.trans hfn)).symm
   exact ⟨looksT, fun j t ht => by
    rw [Tryz.params10] at ht
    have hm : t ∈ [56, 3, 60, 9] := by simpa using Array.mem_of_getElem? ht
    have hall := oplogTurns_noStand
    exact (show Tryz.prog.wantsStandIn t = false by simpa using List.all_eq_true.1 hall t hm)⟩)
  oplogTurns_goes
end Go.Proofs.YtfanfdflpakjeaaGreatDoor
