/- What arguments weigh, one by one. No condition. -/
import Derived.ChangeMaps5
import Derived.Deep.Strs
import Derived.Test.YtfanfdflpakjeaaGreatDoorTAvC
open Bool renaming and_eq_true → ze2
open List renaming range → zfd
namespace Go.Proofs.YtfanfdflpakjeaaGreatDoor
open Go.ChangeShapes Go.WideShapes Go.ChangeAt Go.RowKit Go.Av.Fn Go.ChangeMaps Go.Av
set_option linter.unusedSimpArgs false
set_option linter.unusedVariables false
set_option maxRecDepth 100000
theorem weigh_cons {H : Type} {t : TypeId} {d : DataW H} {ts : List TypeId} {rest : List (DataW H)} (h : (DataW.weightsEach Tryz.prog (t :: ts) (d :: rest)).all (fun x => decide (x ≤ reachBytes)) = true) :
  (DataW.weights Tryz.prog t d).all (fun x => decide (x ≤ reachBytes)) = true ∧ (DataW.weightsEach Tryz.prog ts rest).all (fun x => decide (x ≤ reachBytes)) = true := by
 simp only [DataW.weightsEach, List.all_append, ze2] at h
 exact h
theorem weigh_bytes {H : Type} {d : DataW H} {l : List UInt8} (hd : (d = .nil ∧ l = []) ∨ ∃ E S, d = .slice E S ∧ E.length = l.length) (h : (DataW.weights Tryz.prog 40 d).all (fun x => decide (x ≤ reachBytes)) = true) : l.length ≤ 140737488351232 := by
 rcases hd with ⟨_, rfl⟩ | ⟨E, S, rfl, e⟩
 ·simp
 ·have hb : Tryz.prog.bytesOf 5 = 1 := by kernel_rfl
  simp only [DataW.weights, Tryz.underlying40, List.all_cons, ze2, decide_eq_true_eq, hb] at h
  have h1 := h.1
  have h2 : reachBytes = 140737488351232 := rfl
  rw [h2] at h1
  omega
end Go.Proofs.YtfanfdflpakjeaaGreatDoor
/- A log, and its entries, read az data. No condition. -/
namespace Go.Proofs.YtfanfdflpakjeaaGreatDoor
open Go.ChangeShapes Go.WideShapes Go.ChangeAt Go.RowKit Go.Av.Fn Go.ChangeMaps Go.Av
set_option linter.unusedVariables false
set_option linter.unusedSimpArgs false
set_option maxRecDepth 100000
def entC (e : Go.Av.Fn.Ent) : List Value := [.int .i64 e.c, .int .i64 e.q, .int .i64 e.k, .int .i64 e.n, .string ⟨e.s.toArray⟩, .int .i64 e.ck, .int .i64 e.cn, .string ⟨e.cs.toArray⟩]
def EntI (e : Go.Av.Fn.Ent) : Prop := I64 e.c ∧ I64 e.q ∧ I64 e.k ∧ I64 e.n ∧ I64 e.ck ∧ I64 e.cn ∧ e.s.length ≤ maxLen ∧ e.cs.length ≤ maxLen
instance : Inhabited Go.Av.Fn.Ent := ⟨⟨0, 0, 0, 0, [], 0, 0, []⟩⟩
theorem bs_arr (s : ByteArray) : (⟨s.data.toList.toArray⟩ : ByteArray) = s := by simp
theorem trod_ent {H : Type} {enc : TypeId × Value → H} {W : World} {cs : List Value} {x : DataW H × List MemPlace} {fuel : Nat} (h : DataW.trod enc Tryz.prog W 0 (fun _ => true) true fuel 60 cs = some x) :
  ∃ e : Go.Av.Fn.Ent, cs = entC e ∧ EntI e := by
 obtain ⟨xs, n, _, rfl, hl, hlen, hf⟩ := DataW.trod_struct Tryz.underlying60 h
 have hc3 : Tryz.prog.cellsOf 24 = 3 := by kernel_rfl
 have hcI : Tryz.prog.cellsOf 3 = 1 := by kernel_rfl
 have hcA : Tryz.prog.cellsOf 58 = 1 := by kernel_rfl
 have hcS : Tryz.prog.cellsOf 9 = 1 := by kernel_rfl
 have hc1 : Tryz.prog.cellsOf 22 = 1 := by kernel_rfl
 have hc8 : Tryz.prog.cellsOf 60 = 8 := by kernel_rfl
 rw [hc8] at hl
 match cs, hl with
 | [a, b, c, d, e, f, g, i], _ =>
  match xs, hlen with
  | [y0, y1, y2, y3, y4, y5], _ =>
   have h0 : DataW.trod enc Tryz.prog W 0 (fun _ => true) true n 3 (([a, b, c, d, e, f, g, i].drop 0).take (Tryz.prog.cellsOf 3)) = some y0 := hf 0 _ rfl
   have h1 : DataW.trod enc Tryz.prog W 0 (fun _ => true) true n 3 (([a, b, c, d, e, f, g, i].drop 1).take (Tryz.prog.cellsOf 3)) = some y1 := hf 1 _ rfl
   have h2 : DataW.trod enc Tryz.prog W 0 (fun _ => true) true n 58 (([a, b, c, d, e, f, g, i].drop 2).take (Tryz.prog.cellsOf 58)) = some y2 := hf 2 _ rfl
   have h3 : DataW.trod enc Tryz.prog W 0 (fun _ => true) true n 3 (([a, b, c, d, e, f, g, i].drop 3).take (Tryz.prog.cellsOf 3)) = some y3 := hf 3 _ rfl
   have h4 : DataW.trod enc Tryz.prog W 0 (fun _ => true) true n 9 (([a, b, c, d, e, f, g, i].drop 4).take (Tryz.prog.cellsOf 9)) = some y4 := hf 4 _ rfl
   have h5 : DataW.trod enc Tryz.prog W 0 (fun _ => true) true n 24 (([a, b, c, d, e, f, g, i].drop 5).take (Tryz.prog.cellsOf 24)) = some y5 := hf 5 _ rfl
   simp only [hc3, hcI, hcA, hcS, List.drop_zero, List.take_succ_cons, List.take_zero, List.drop_succ_cons] at h0 h1 h2 h3 h4 h5
   obtain ⟨k0, c0, e0, w0⟩ := DataW.trod_int Tryz.underlying3 h0
   obtain ⟨k1, c1, e1, w1⟩ := DataW.trod_int Tryz.underlying3 h1
   obtain ⟨k2, c2, e2, w2⟩ := DataW.trod_int Tryz.underlying58 h2
   obtain ⟨k3, c3, e3, w3⟩ := DataW.trod_int Tryz.underlying3 h3
   obtain ⟨s4, c4, e4, w4⟩ := DataW.trod_string Tryz.underlying9 h4
   obtain ⟨z0, z1, z2, nn, hx, hlen2, g0, g1, g2⟩ := Go.Deep.trod_struct3 Tryz.underlying24 h5
   simp only [hc1, hcI, hcS, List.drop_zero, List.take_succ_cons, List.take_zero, List.drop_succ_cons] at g0 g1 g2
   obtain ⟨k5, c5, e5, w5⟩ := DataW.trod_int Tryz.underlying22 g0
   obtain ⟨k6, c6, e6, w6⟩ := DataW.trod_int Tryz.underlying3 g1
   obtain ⟨s7, c7, e7, w7⟩ := DataW.trod_string Tryz.underlying9 g2
   simp only [List.cons.injEq, and_true] at c0 c1 c2 c3 c4 c5 c6 c7
   subst c0 c1 c2 c3 c4 c5 c6 c7
   exact ⟨⟨k0, k1, k2, k3, s4.data.toList, k5, k6, s7.data.toList⟩, by simp only [entC, bs_arr], wf_i64 w0, wf_i64 w1, wf_i64 w2, wf_i64 w3, wf_i64 w5, wf_i64 w6, w4, w7⟩
theorem entC_rel {G : Gh} (e : Go.Av.Fn.Ent) : RelL G (entV e).cells (entC e) := .cons (.val rfl) (.cons (.val rfl) (.cons (.val rfl) (.cons (.val rfl) (.cons (.val rfl) (.cons (.val rfl) (.cons (.val rfl) (.cons (.val rfl) .nil)))))))
theorem ents_rel {G : Gh} : ∀ l : List Go.Av.Fn.Ent, RelL G (flat (l.map entV)) (l.flatMap entC)
 | [] => .nil
 | e :: l => by
  rw [List.map_cons, zaK, List.flatMap_cons]
  exact (entC_rel e).append (ents_rel l)
theorem ents_at : ∀ (l : List Go.Av.Fn.Ent) (j : Nat) (u : Value), (l.flatMap entC)[j]? = some u → ∃ (i k : Nat) (e : Go.Av.Fn.Ent), j = i * 8 + k ∧ k < 8 ∧ l[i]? = some e ∧ (entC e)[k]? = some u
 | [], j, u, h => by simp at h
 | e :: l, j, u, h => by
  rw [List.flatMap_cons] at h
  by_cases hj : j < 8
  ·rw [List.getElem?_append_left (by simpa [entC] using hj)] at h
   exact ⟨0, j, e, by omega, hj, rfl, h⟩
  ·rw [List.getElem?_append_right (by simp [entC]; omega)] at h
   obtain ⟨i, k, e', h1, h2, h3, h4⟩ := ents_at l _ u h
   have h8 : (entC e).length = 8 := rfl
   rw [h8] at h1
   exact ⟨i + 1, k, e', by omega, h2, by simpa using h3, h4⟩
theorem open_ents {H : Type} {enc : TypeId × Value → H} {W : World} {cs : List Value} {x : DataW H × List MemPlace} {fuel : Nat} (hsp : ∀ a len cap, cs = [.slice (some a) len cap] → a.spot = none) (h : DataW.trod enc Tryz.prog W 0 (fun _ => true) true fuel 54 cs = some x) :
  ∃ (nn : Bool) (l : List Go.Av.Fn.Ent) (v : Value), cs = [v] ∧ RelV (startA W) (zbH nn l) v ∧ (nn = true ∨ l = []) ∧ l.length ≤ maxLen ∧ ∀ e ∈ l, EntI e := by
 have hc8 : Tryz.prog.cellsOf 60 = 8 := by kernel_rfl
 rcases Go.Deep.open_slice Tryz.underlying54 h with ⟨rfl, rfl⟩ | ⟨a, len, cap, m, n, D, Pl, rfl, _, h3, h4, h5, h6, h7⟩
 ·exact ⟨false, [], _, rfl, .nil rfl, .inr rfl, Nat.zero_le _, fun e he => by cases he⟩
 ·have hs := hsp a len cap rfl
  simp only [if_true] at h5
  subst h5
  obtain ⟨f, hf⟩ := Go.Deep.choose_lt (α := Go.Av.Fn.Ent) (n := len) (p := fun i e => (∀ k, k < 8 → W.cell? (a.add (i * 8 + k)) = (entC e)[k]?) ∧ EntI e) (fun i hi => by
   obtain ⟨cs', g1, g2⟩ := h7 i (by omega)
   rw [hc8] at g1
   obtain ⟨e, rfl, he⟩ := trod_ent g2
   obtain ⟨_, _, g3⟩ := World.cells?_some g1
   refine ⟨e, fun k hk => ?_, he⟩
   have := g3 k hk
   rw [add_plain hs, add_plain rfl] at this
   rw [add_plain hs, ← this, Nat.add_assoc])
  have hlen : ((zfd len).map f).length = len := by simp
  refine ⟨true, (zfd len).map f, _, rfl, ?_, .inl rfl, by rw [hlen]; omega, ?_⟩
  ·have := RelV.sl (G := startA W) (es := ((zfd len).map f).map entV) (more := []) (tok := .non) (us := ((zfd len).map f).flatMap entC) (a := a) (cap := m) (s := 8) (by
     intro e he
     rw [List.append_nil] at he
     obtain ⟨b, _, rfl⟩ := List.mem_map.1 he
     rfl) (by rw [List.append_nil]; exact ents_rel _) (has_cells hs (by
     intro j u hu
     obtain ⟨i, k, e, rfl, hk, hi, hu'⟩ := ents_at _ _ _ hu
     rw [List.getElem?_map] at hi
     obtain ⟨i', hi', rfl⟩ := Option.map_eq_some_iff.1 hi
     obtain ⟨hlt, e2⟩ := List.getElem?_eq_some_iff.1 hi'
     simp only [List.length_range] at hlt
     simp only [List.getElem_range] at e2
     subst e2
     rw [(hf i hlt).1 k hk]
     exact hu')) (by simpa using h3) (by decide) trivial
   rw [List.length_map, hlen] at this
   exact this
  ·intro e he
   obtain ⟨i, hi, rfl⟩ := List.mem_map.1 he
   exact (hf i (by simpa using hi)).2
theorem open_log {H : Type} {enc : TypeId × Value → H} {W : World} {base : Nat} {v : Value} {d : DataW H} {ps : List MemPlace} (hv : Value.okWide Tryz.prog W .any base 56 v) (h : DataW.Trod enc Tryz.prog W 0 (fun _ => true) true 56 v d ps) :
  ∃ (nn : Bool) (x : Lg), RelV (startA W) (lgV nn x) v ∧ (nn = true ∨ x.l = []) ∧ x.l.length ≤ maxLen ∧ I64 x.b ∧ x.c.length ≤ maxLen ∧ ∀ e ∈ x.l, EntI e := by
 have hv0 := hv
 obtain ⟨l, rfl, hl, hna⟩ := struct_cells Tryz.underlying56 hv
 obtain ⟨fuel, hf⟩ := h
 obtain ⟨y0, y1, y2, nn, hx, hlen, g0, g1, g2⟩ := Go.Deep.trod_struct3 Tryz.underlying56 hf
 have hc3 : Tryz.prog.cellsOf 56 = 3 := by kernel_rfl
 have hc1 : Tryz.prog.cellsOf 3 = 1 := by kernel_rfl
 have hc2 : Tryz.prog.cellsOf 9 = 1 := by kernel_rfl
 have hc4 : Tryz.prog.cellsOf 54 = 1 := by kernel_rfl
 rw [hc3] at hl
 match l, hl with
 | [a, b, c], _ =>
  simp only [Value.cells, List.drop_zero, hc1, hc2, hc4, List.take_succ_cons, List.take_zero, List.drop_succ_cons] at g0 g1 g2
  obtain ⟨k, c0, e0, w0⟩ := DataW.trod_int Tryz.underlying3 g0
  obtain ⟨s, c1, e1, w1⟩ := DataW.trod_string Tryz.underlying9 g1
  have hsp : ∀ p len cap, [c] = [.slice (some p) len cap] → p.spot = none := by
   intro p len cap e
   simp only [List.cons.injEq, and_true] at e
   subst e
   simp only [Value.okWide, Tryz.underlying56] at hv0
   obtain ⟨cs, q1, q2, ts, q3, q4, q5⟩ := hv0
   have e1 : cs = #[a, b, .slice (some p) len cap] := by
    cases q1
    rfl
   subst e1
   obtain ⟨u, q6, q7⟩ := q5 2 _ rfl
   have hts : Tryz.prog.cellTypes Tryz.prog.depth 56 = some ts := q3
   have : u = 54 := by
    have hk : Tryz.prog.cellTypes Tryz.prog.depth 56 = some [3, 9, 54] := by kernel_rfl
    rw [hk] at hts
    cases hts
    simpa using q6.symm
   subst this
   simp only [Cell.okWide, Cell.ok, Tryz.underlying54] at q7
   exact q7.2.2.2.1
  obtain ⟨nb, es, v', c2, hr, hn, hle, hi⟩ := open_ents hsp g2
  simp only [List.cons.injEq, and_true] at c0 c1 c2
  subst c0 c1 c2
  refine ⟨nb, ⟨k, s.data.toList, es⟩, .agg (.cons (.val rfl) (.cons (relv_string s) (.cons hr .nil))), hn, hle, wf_i64 w0, w1, hi⟩
end Go.Proofs.YtfanfdflpakjeaaGreatDoor
/- What the world at the door meets; the table of types is in order; a command read as data. No condition. -/
namespace Go.Proofs.YtfanfdflpakjeaaGreatDoor
open Go.ChangeShapes Go.WideShapes Go.ChangeAt Go.RowKit Go.Av.Fn Go.ChangeMaps Go.Av
set_option linter.unusedVariables false
theorem own : ownKnob Tryz.prog.godebug = none := by kernel_rfl
theorem door_met (os : Os) (args : Array Value) : laidMetH Tryz.prog laidL ((World.doorLaid Tryz.prog 4000 os).forCall (fun _ _ => 0) ⟨#[], args, []⟩).memory :=
 laidMetH_of_parts3 (fuel := 8) (laidMet_of_run' 8 (by kernel_rfl) (by kernel_rfl)) (by kernel_rfl) (by kernel_rfl)
theorem types_ok : typesOk Tryz.prog = true := by kernel_rfl
end Go.Proofs.YtfanfdflpakjeaaGreatDoor
/- What the program's harness is, and that it looks. No condition. -/
namespace Go.Proofs.YtfanfdflpakjeaaGreatDoor
open Go.ChangeShapes Go.WideShapes Go.ChangeAt Go.RowKit Go.Av.Fn Go.ChangeMaps Go.Av
theorem mainT : Tryz.pinned.checked.prog.mainIs = some (true, (("1b8154fc6baef69c22d04b423b7dd1732c017c73b1e19009b2d3ba36816cfbaf" : String).toList)) := by kernel_rfl
theorem looksT : true = Tryz.pinned.checked.prog.looks [] := by kernel_rfl
end Go.Proofs.YtfanfdflpakjeaaGreatDoor
/- A log that is put is got az it was, whatever stands behind it; what is got of a right log's bytes is right: the row, and its tied card. Condition: what the row says of the listed variables. -/
namespace Go.Proofs.YtfanfdflpakjeaaGreatDoor
open Go.ChangeShapes Go.WideShapes Go.ChangeAt Go.RowKit Go.Av.Fn Go.ChangeMaps Go.Av
set_option linter.unusedVariables false
set_option maxRecDepth 100000
theorem oplogBack_lifted (os : Os) (started : os.Started) (H : Type) (enc : TypeId × Value → H) :
  ReturnsInHanded {} Tryz.checked os 13 .any (fun w args => (Rows.oplogBackSpec.pre enc Tryz.prog Tryz.f13 [] false w args ∧ laidMetH Tryz.prog laidL w) ∧ sizedMet enc Tryz.prog Tryz.f13 (OpenSpec.ofChange Rows.oplogBackSpec) false w args)
   (Rows.oplogBackSpec.post enc Tryz.prog Tryz.f13 false true false false) := by
 refine returnsInHanded_of_change_and (C := Tryz.checked) (X := fun w _ => laidMetH Tryz.prog laidL w) (fun _ _ _ hh h => h.of_heap hh) own started (by kernel_rfl) Tryz.func13
  (ChangeSpec.witness_shaped (enc := enc) (C := Tryz.checked) (os := os) (X := fun w _ => laidMetH Tryz.prog laidL w) false (World.doorLaid Tryz.prog 4000 os) #[.agg #[.int .i64 0, .string ⟨#[]⟩, .slice none 0 0], .slice none 0 0] 8 rfl (World.shaped_of_RefB (by kernel_rfl) (by kernel_rfl)) (by kernel_rfl) (by kernel_rfl) (by kernel_rfl) (door_met os _)) ?_
 intro W base args ds gs before hval0 hW x1 x2 hL x3
 have hval : ∀ (j : Nat) t v, Tryz.f13.params[j]? = some t → args[j]? = some v → Value.okWide Tryz.prog W .any base t v := hval0
 have hW' := hW
 obtain ⟨p, q, hA0, hV, rfl, hfz, hnd⟩ := hW
 have hA : DataW.TrodAll enc Tryz.prog W 0 (fun _ => true) true Tryz.f13.params.toList args.toList ds p := hA0
 rw [Tryz.params13] at hA hval x2
 have hA2 := hA
 obtain ⟨v0, v1, d0, d1, p0, p1, rfl, rfl, rfl, h0, h1⟩ := trodAll_two hA
 obtain ⟨rfl, rfl⟩ := trodVars_none hV
 have hcall : Calls Tryz.prog 13 #[v0, v1] W fun e W' => e = .returned (.bool true) ∧ Below W.heap.size W W' := by
  obtain ⟨nn, x, hr0, hn, _, hb, _, he⟩ := open_log (hval 0 _ v0 rfl rfl) h0
  obtain ⟨l, hl, hd⟩ := open_bytes Tryz.underlying40 Tryz.underlying5 (by kernel_rfl) (hval 1 _ v1 rfl rfl) h1
  obtain ⟨w1, x2⟩ := weigh_cons x2
  obtain ⟨w2, x2⟩ := weigh_cons x2
  obtain ⟨p, q, _, _, hr⟩ := start_of_laid hL
  exact calls_retA (cargs := [_, _]) hr (.cons hr0 (.cons hl .nil)) (oplogBack_ok (env_gl p q).env nn x l hb (fun e h => by obtain ⟨h1, h2, h3, h4, h5, h6, _⟩ := he e h; exact ⟨h1, h2, h3, h4, h5, h6⟩) (weigh_bytes hd w2))
 refine hcall.mono fun ev W' ⟨hev, hB⟩ => ?_
 subst hev
 have hagain := trodAll_again types_ok hB (ts := [56, 40]) (by
  have h : ([56, 40].all fun t => decide (t < Tryz.prog.types.size)) = true := by kernel_rfl
  intro t ht
  simpa using List.all_eq_true.1 h t ht) hA2
 refine ⟨_, rfl, _, _, _, [], (p0 ++ p1), [], hW', ?_, ?_, ?_, hB.frame _, fun h => by cases h⟩
 ·exact trodAll_mk1 (shut_bool Tryz.underlying4 true)
 ·exact hagain
 ·rfl
set_option maxHeartbeats 8000000 in
theorem oplogBack_closed : joinedFacts Tryz.pinned.checked.prog 13 Tryz.f13 Rows.oplogBackSpec Rows.oplogBackRow = true := by
 unfold joinedFacts
 simp only [ze2]
 and_intros
 all_goals as_aux_lemma => kernel_rfl
theorem oplogBack_named : Tryz.pinned.checked.prog.funcNamed Rows.oplogBackRow.func = some 13 := by kernel_rfl
theorem oplogBack_origin : Tryz.f13.isInstance Tryz.pinned.checked.prog Rows.oplogBackRow.origin Rows.oplogBackRow.targs := of_decide_eq_true (by kernel_rfl)
theorem oplogBack_unwrapped : Tryz.f13.isWrapper Tryz.pinned.checked.prog Rows.oplogBackRow.wrapper Rows.oplogBackRow.mainSum := by
 unfold Func.isWrapper; first | (rw [if_pos (by decide +kernel)]; kernel_rfl) | (rw [if_neg (by decide +kernel)]; exact ⟨rfl, rfl⟩)
theorem oplogBack_holds : Rows.OplogBackSaid :=
 OpenClaim.holds_of_wide 13 Tryz.f13 rfl rfl rfl rfl rfl rfl rfl ⟨rfl, rfl, rfl, rfl, rfl⟩ rfl rfl rfl rfl rfl oplogBack_named Tryz.func13 oplogBack_closed oplogBack_origin oplogBack_unwrapped
  (fun os started H enc _ => oplogBack_lifted os started H enc)
theorem oplogBack_wf : Rows.oplogBackRow.wfByText (OpenSpec.ofChange Rows.oplogBackSpec) = true := by kernel_rfl
theorem oplogBack_goes : false = Rows.oplogBackRow.goesBy Tryz.pinned.checked.prog := by kernel_rfl
theorem oplogBack_noStand : ([56, 40].all fun u => !Tryz.prog.wantsStandIn u) = true := by kernel_rfl
theorem oplogBack_card_holds : Rows.OplogBackCardSaid :=
 Claim7.holds_tied_plain_at .later [] [.data, .data, .data, .handle, .sentinel, .sentinel, .data, .data] true (true, "1b8154fc6baef69c22d04b423b7dd1732c017c73b1e19009b2d3ba36816cfbaf") true
  oplogBack_holds (fun _ h => by cases h) oplogBack_wf (fun _ h => by cases h) oplogBack_row_tie rfl ⟨rfl, rfl⟩ mainT rfl
  (fun f fn hf hfn => by
   obtain rfl : f = 13 := Option.some.inj (oplogBack_named.symm.trans hf) |>.symm
   obtain rfl : fn = Tryz.f13 := (Option.some.inj (Tryz.func13.symm.trans hfn)).symm
   exact ⟨looksT, fun j t ht => by
    rw [Tryz.params13] at ht
    have hm : t ∈ [56, 40] := by simpa using Array.mem_of_getElem? ht
    have hall := oplogBack_noStand
    exact (show Tryz.prog.wantsStandIn t = false by simpa using List.all_eq_true.1 hall t hm)⟩)
  oplogBack_goes
end Go.Proofs.YtfanfdflpakjeaaGreatDoor
