/- What arguments weigh, one by one. No condition. -/
import Derived.ChangeMaps5
import Derived.Deep.Strs
import Derived.JoinedCond
import Derived.Test.YtfanfdflpakjeaaGreatDoorTAvC
open List renaming range → zdQ, append_nil → zdV
namespace Go.Proofs.YtfanfdflpakjeaaGreatDoor
open Go.ChangeShapes Go.WideShapes Go.ChangeAt Go.RowKit Go.Av.Fn Go.ChangeMaps Go.Av
set_option linter.unusedSimpArgs false
set_option linter.unusedVariables false
set_option maxRecDepth 100000
end Go.Proofs.YtfanfdflpakjeaaGreatDoor
/- A log, and its entries, read az data. No condition. -/
namespace Go.Proofs.YtfanfdflpakjeaaGreatDoor
open Go.ChangeShapes Go.WideShapes Go.ChangeAt Go.RowKit Go.Av.Fn Go.ChangeMaps Go.Av
set_option linter.unusedVariables false
set_option linter.unusedSimpArgs false
set_option maxRecDepth 100000
def entC (e : Go.Av.Fn.Ent) : List Value := [.int .i64 e.c, .int .i64 e.q, .int .i64 e.k, .int .i64 e.n, .string ⟨e.s.toArray⟩, .int .i64 e.ck, .int .i64 e.cn, .string ⟨e.cs.toArray⟩]
def EntI (e : Go.Av.Fn.Ent) : Prop := I64 e.c ∧ I64 e.q ∧ I64 e.k ∧ I64 e.n ∧ I64 e.ck ∧ I64 e.cn ∧ e.s.length ≤ maxLen ∧ e.cs.length ≤ maxLen
instance : Inhabited Go.Av.Fn.Ent := ⟨⟨0, 0, 0, 0, [], 0, 0, []⟩⟩
theorem bs_arr (s : ByteArray) : (⟨s.data.toList.toArray⟩ : ByteArray) = s := by simp
theorem entC_rel {G : Gh} (e : Go.Av.Fn.Ent) : RelL G (entV e).cells (entC e) := .cons (.val rfl) (.cons (.val rfl) (.cons (.val rfl) (.cons (.val rfl) (.cons (.val rfl) (.cons (.val rfl) (.cons (.val rfl) (.cons (.val rfl) .nil)))))))
theorem ents_rel {G : Gh} : ∀ l : List Go.Av.Fn.Ent, RelL G (flat (l.map entV)) (l.flatMap entC)
 | [] => .nil
 | e :: l => by
  rw [List.map_cons, zaw, List.flatMap_cons]
  exact (entC_rel e).append (ents_rel l)
theorem ents_at : ∀ (l : List Go.Av.Fn.Ent) (j : Nat) (u : Value), (l.flatMap entC)[j]? = some u → ∃ (i k : Nat) (e : Go.Av.Fn.Ent), j = i * 8 + k ∧ k < 8 ∧ l[i]? = some e ∧ (entC e)[k]? = some u
 | [], j, u, h => by simp at h
 | e :: l, j, u, h => by
  rw [List.flatMap_cons] at h
  by_cases hj : j < 8
  ·rw [List.getElem?_append_left (by simpa [entC] using hj)] at h
   exact ⟨0, j, e, by omega, hj, rfl, h⟩
  ·rw [List.getElem?_append_right (by simp [entC]; omega)] at h
   obtain ⟨i, k, e', h1, h2, h3, h4⟩ := ents_at l _ u h
   have h8 : (entC e).length = 8 := rfl
   rw [h8] at h1
   exact ⟨i + 1, k, e', by omega, h2, by simpa using h3, h4⟩
end Go.Proofs.YtfanfdflpakjeaaGreatDoor
/- What the world at the door meets; the table of types is in order; a command read as data. No condition. -/
namespace Go.Proofs.YtfanfdflpakjeaaGreatDoor
open Go.ChangeShapes Go.WideShapes Go.ChangeAt Go.RowKit Go.Av.Fn Go.ChangeMaps Go.Av
set_option linter.unusedVariables false
theorem own : ownKnob Tryz.prog.godebug = none := by kernel_rfl
theorem door_met (os : Os) (args : Array Value) : laidMetH Tryz.prog laidL ((World.doorLaid Tryz.prog 4000 os).forCall (fun _ _ => 0) ⟨#[], args, []⟩).memory :=
 laidMetH_of_parts3 (fuel := 8) (laidMet_of_run' 8 (by kernel_rfl) (by kernel_rfl)) (by kernel_rfl) (by kernel_rfl)
theorem types_ok : typesOk Tryz.prog = true := by kernel_rfl
end Go.Proofs.YtfanfdflpakjeaaGreatDoor
/- What the program's harness is, and that it looks. No condition. -/
namespace Go.Proofs.YtfanfdflpakjeaaGreatDoor
open Go.ChangeShapes Go.WideShapes Go.ChangeAt Go.RowKit Go.Av.Fn Go.ChangeMaps Go.Av
theorem mainT : Tryz.pinned.checked.prog.mainIs = some (true, (("1b8154fc6baef69c22d04b423b7dd1732c017c73b1e19009b2d3ba36816cfbaf" : String).toList)) := by kernel_rfl
theorem looksT : true = Tryz.pinned.checked.prog.looks [] := by kernel_rfl
end Go.Proofs.YtfanfdflpakjeaaGreatDoor
/- A log read az data, and how large its texts are. No condition. -/
namespace Go.Proofs.YtfanfdflpakjeaaGreatDoor
open Go.ChangeShapes Go.WideShapes Go.ChangeAt Go.RowKit Go.Av.Fn Go.ChangeMaps Go.Av
set_option linter.unusedVariables false
set_option linter.unusedSimpArgs false
set_option maxRecDepth 100000
theorem bulk_mem {H : Type} {d : DataW H} : ∀ {l : List (DataW H)}, d ∈ l → Rows.uptoBulk d ≤ Rows.uptoBulkAll l
 | x :: l, h => by
  rw [Rows.uptoBulkAll]
  rcases List.mem_cons.1 h with rfl | h
  ·omega
  ·have := bulk_mem h
   omega
theorem trod_entB {H : Type} {enc : TypeId × Value → H} {W : World} {cs : List Value} {x : DataW H × List MemPlace} {fuel : Nat} (h : DataW.trod enc Tryz.prog W 0 (fun _ => true) true fuel 60 cs = some x) :
  ∃ e : Go.Av.Fn.Ent, cs = entC e ∧ EntI e ∧ e.s.length < Rows.uptoBulk x.1 ∧ e.cs.length < Rows.uptoBulk x.1 := by
 obtain ⟨xs, n, _, rfl, hl, hlen, hf⟩ := DataW.trod_struct Tryz.underlying60 h
 have hc3 : Tryz.prog.cellsOf 24 = 3 := by kernel_rfl
 have hcI : Tryz.prog.cellsOf 3 = 1 := by kernel_rfl
 have hcA : Tryz.prog.cellsOf 58 = 1 := by kernel_rfl
 have hcS : Tryz.prog.cellsOf 9 = 1 := by kernel_rfl
 have hc1 : Tryz.prog.cellsOf 22 = 1 := by kernel_rfl
 have hc8 : Tryz.prog.cellsOf 60 = 8 := by kernel_rfl
 rw [hc8] at hl
 match cs, hl with
 | [a, b, c, d, e, f, g, i], _ =>
  match xs, hlen with
  | [y0, y1, y2, y3, y4, y5], _ =>
   have h0 : DataW.trod enc Tryz.prog W 0 (fun _ => true) true n 3 (([a, b, c, d, e, f, g, i].drop 0).take (Tryz.prog.cellsOf 3)) = some y0 := hf 0 _ rfl
   have h1 : DataW.trod enc Tryz.prog W 0 (fun _ => true) true n 3 (([a, b, c, d, e, f, g, i].drop 1).take (Tryz.prog.cellsOf 3)) = some y1 := hf 1 _ rfl
   have h2 : DataW.trod enc Tryz.prog W 0 (fun _ => true) true n 58 (([a, b, c, d, e, f, g, i].drop 2).take (Tryz.prog.cellsOf 58)) = some y2 := hf 2 _ rfl
   have h3 : DataW.trod enc Tryz.prog W 0 (fun _ => true) true n 3 (([a, b, c, d, e, f, g, i].drop 3).take (Tryz.prog.cellsOf 3)) = some y3 := hf 3 _ rfl
   have h4 : DataW.trod enc Tryz.prog W 0 (fun _ => true) true n 9 (([a, b, c, d, e, f, g, i].drop 4).take (Tryz.prog.cellsOf 9)) = some y4 := hf 4 _ rfl
   have h5 : DataW.trod enc Tryz.prog W 0 (fun _ => true) true n 24 (([a, b, c, d, e, f, g, i].drop 5).take (Tryz.prog.cellsOf 24)) = some y5 := hf 5 _ rfl
   simp only [hc3, hcI, hcA, hcS, List.drop_zero, List.take_succ_cons, List.take_zero, List.drop_succ_cons] at h0 h1 h2 h3 h4 h5
   obtain ⟨k0, c0, e0, w0⟩ := DataW.trod_int Tryz.underlying3 h0
   obtain ⟨k1, c1, e1, w1⟩ := DataW.trod_int Tryz.underlying3 h1
   obtain ⟨k2, c2, e2, w2⟩ := DataW.trod_int Tryz.underlying58 h2
   obtain ⟨k3, c3, e3, w3⟩ := DataW.trod_int Tryz.underlying3 h3
   obtain ⟨s4, c4, e4, w4⟩ := DataW.trod_string Tryz.underlying9 h4
   obtain ⟨z0, z1, z2, nn, hx, hlen2, g0, g1, g2⟩ := Go.Deep.trod_struct3 Tryz.underlying24 h5
   simp only [hc1, hcI, hcS, List.drop_zero, List.take_succ_cons, List.take_zero, List.drop_succ_cons] at g0 g1 g2
   obtain ⟨k5, c5, e5, w5⟩ := DataW.trod_int Tryz.underlying22 g0
   obtain ⟨k6, c6, e6, w6⟩ := DataW.trod_int Tryz.underlying3 g1
   obtain ⟨s7, c7, e7, w7⟩ := DataW.trod_string Tryz.underlying9 g2
   simp only [List.cons.injEq, and_true] at c0 c1 c2 c3 c4 c5 c6 c7
   subst c0 c1 c2 c3 c4 c5 c6 c7
   have hbk : s4.data.toList.length < Rows.uptoBulk (.agg ([y0, y1, y2, y3, y4, y5].map (·.1))) ∧ s7.data.toList.length < Rows.uptoBulk (.agg ([y0, y1, y2, y3, y4, y5].map (·.1))) := by
    rw [hx, e4, e7]
    simp only [List.map_cons, List.map_nil, Rows.uptoBulk, Rows.uptoBulkAll]
    omega
   exact ⟨⟨k0, k1, k2, k3, s4.data.toList, k5, k6, s7.data.toList⟩, by simp only [entC, bs_arr], ⟨wf_i64 w0, wf_i64 w1, wf_i64 w2, wf_i64 w3, wf_i64 w5, wf_i64 w6, w4, w7⟩, hbk.1, hbk.2⟩
theorem open_entsB {H : Type} {enc : TypeId × Value → H} {W : World} {cs : List Value} {x : DataW H × List MemPlace} {fuel : Nat} (hsp : ∀ a len cap, cs = [.slice (some a) len cap] → a.spot = none) (h : DataW.trod enc Tryz.prog W 0 (fun _ => true) true fuel 54 cs = some x) :
  ∃ (nn : Bool) (l : List Go.Av.Fn.Ent) (v : Value), cs = [v] ∧ RelV (startA W) (zb3 nn l) v ∧ (nn = true ∨ l = []) ∧ l.length ≤ maxLen ∧ ∀ e ∈ l, EntI e ∧ e.s.length < Rows.uptoBulk x.1 ∧ e.cs.length < Rows.uptoBulk x.1 := by
 have hc8 : Tryz.prog.cellsOf 60 = 8 := by kernel_rfl
 rcases Go.Deep.open_slice Tryz.underlying54 h with ⟨rfl, rfl⟩ | ⟨a, len, cap, m, n, D, Pl, rfl, _, h3, h4, h5, h6, h7⟩
 ·exact ⟨false, [], _, rfl, .nil rfl, .inr rfl, Nat.zero_le _, fun e he => by cases he⟩
 ·have hs := hsp a len cap rfl
  simp only [if_true] at h5
  subst h5
  obtain ⟨f, hf⟩ := Go.Deep.choose_lt (α := Go.Av.Fn.Ent) (n := len) (p := fun i e => (∀ k, k < 8 → W.cell? (a.add (i * 8 + k)) = (entC e)[k]?) ∧ EntI e ∧ e.s.length < Rows.uptoBulk (D i) ∧ e.cs.length < Rows.uptoBulk (D i)) (fun i hi => by
   obtain ⟨cs', g1, g2⟩ := h7 i (by omega)
   rw [hc8] at g1
   obtain ⟨e, rfl, he⟩ := trod_entB g2
   obtain ⟨_, _, g3⟩ := World.cells?_some g1
   refine ⟨e, fun k hk => ?_, he⟩
   have := g3 k hk
   rw [add_plain hs, add_plain rfl] at this
   rw [add_plain hs, ← this, Nat.add_assoc])
  have hlen : ((zdQ len).map f).length = len := by simp
  refine ⟨true, (zdQ len).map f, _, rfl, ?_, .inl rfl, by rw [hlen]; omega, ?_⟩
  ·have := RelV.sl (G := startA W) (es := ((zdQ len).map f).map entV) (more := []) (tok := .non) (us := ((zdQ len).map f).flatMap entC) (a := a) (cap := m) (s := 8) (by
     intro e he
     rw [zdV] at he
     obtain ⟨b, _, rfl⟩ := List.mem_map.1 he
     rfl) (by rw [zdV]; exact ents_rel _) (has_cells hs (by
     intro j u hu
     obtain ⟨i, k, e, rfl, hk, hi, hu'⟩ := ents_at _ _ _ hu
     rw [List.getElem?_map] at hi
     obtain ⟨i', hi', rfl⟩ := Option.map_eq_some_iff.1 hi
     obtain ⟨hlt, e2⟩ := List.getElem?_eq_some_iff.1 hi'
     simp only [List.length_range] at hlt
     simp only [List.getElem_range] at e2
     subst e2
     rw [(hf i hlt).1 k hk]
     exact hu')) (by simpa using h3) (by decide) trivial
   rw [List.length_map, hlen] at this
   exact this
  ·intro e he
   obtain ⟨i, hi, rfl⟩ := List.mem_map.1 he
   have hi' : i < len := by simpa using hi
   obtain ⟨q1, q2, q3⟩ := (hf i hi').2
   have hm : Rows.uptoBulk (D i) ≤ Rows.uptoBulkAll ((zdQ len).map D) := bulk_mem (List.mem_map.2 ⟨i, hi, rfl⟩)
   rw [h6]
   simp only [Rows.uptoBulk]
   exact ⟨q1, by omega, by omega⟩
theorem open_logB {H : Type} {enc : TypeId × Value → H} {W : World} {base : Nat} {v : Value} {d : DataW H} {ps : List MemPlace} (hv : Value.okWide Tryz.prog W .any base 56 v) (h : DataW.Trod enc Tryz.prog W 0 (fun _ => true) true 56 v d ps) :
  ∃ (nn : Bool) (x : Lg), RelV (startA W) (lgV nn x) v ∧ (nn = true ∨ x.l = []) ∧ x.l.length ≤ maxLen ∧ I64 x.b ∧ x.c.length < Rows.uptoBulk d ∧ ∀ e ∈ x.l, EntI e ∧ e.s.length < Rows.uptoBulk d ∧ e.cs.length < Rows.uptoBulk d := by
 have hv0 := hv
 obtain ⟨l, rfl, hl, hna⟩ := struct_cells Tryz.underlying56 hv
 obtain ⟨fuel, hf⟩ := h
 obtain ⟨y0, y1, y2, nn, hx, hlen, g0, g1, g2⟩ := Go.Deep.trod_struct3 Tryz.underlying56 hf
 have hc3 : Tryz.prog.cellsOf 56 = 3 := by kernel_rfl
 have hc1 : Tryz.prog.cellsOf 3 = 1 := by kernel_rfl
 have hc2 : Tryz.prog.cellsOf 9 = 1 := by kernel_rfl
 have hc4 : Tryz.prog.cellsOf 54 = 1 := by kernel_rfl
 rw [hc3] at hl
 match l, hl with
 | [a, b, c], _ =>
  simp only [Value.cells, List.drop_zero, hc1, hc2, hc4, List.take_succ_cons, List.take_zero, List.drop_succ_cons] at g0 g1 g2
  obtain ⟨k, c0, e0, w0⟩ := DataW.trod_int Tryz.underlying3 g0
  obtain ⟨s, c1, e1, w1⟩ := DataW.trod_string Tryz.underlying9 g1
  have hsp : ∀ p len cap, [c] = [.slice (some p) len cap] → p.spot = none := by
   intro p len cap e
   simp only [List.cons.injEq, and_true] at e
   subst e
   simp only [Value.okWide, Tryz.underlying56] at hv0
   obtain ⟨cs, q1, q2, ts, q3, q4, q5⟩ := hv0
   have e1 : cs = #[a, b, .slice (some p) len cap] := by
    cases q1
    rfl
   subst e1
   obtain ⟨u, q6, q7⟩ := q5 2 _ rfl
   have hts : Tryz.prog.cellTypes Tryz.prog.depth 56 = some ts := q3
   have : u = 54 := by
    have hk : Tryz.prog.cellTypes Tryz.prog.depth 56 = some [3, 9, 54] := by kernel_rfl
    rw [hk] at hts
    cases hts
    simpa using q6.symm
   subst this
   simp only [Cell.okWide, Cell.ok, Tryz.underlying54] at q7
   exact q7.2.2.2.1
  obtain ⟨nb, es, v', c2, hr, hn, hle, hi⟩ := open_entsB hsp g2
  simp only [List.cons.injEq, and_true] at c0 c1 c2
  subst c0 c1 c2
  refine ⟨nb, ⟨k, s.data.toList, es⟩, .agg (.cons (.val rfl) (.cons (relv_string s) (.cons hr .nil))), hn, hle, wf_i64 w0, ?_, fun e he => ?_⟩
  all_goals
   have hd : d = .agg [y0.1, y1.1, y2.1] := congrArg Prod.fst hx
   rw [hd, e1]
   simp only [Rows.uptoBulk, Rows.uptoBulkAll]
  ·omega
  ·obtain ⟨q1, q2, q3⟩ := hi e he
   exact ⟨q1, by omega, by omega⟩
end Go.Proofs.YtfanfdflpakjeaaGreatDoor
/- Any log has the bytes, and any bytes are, at their front, the log, that the document says; or none's: where what is read is small: the row, and its tied card. Condition: what the row says of the listed variables. -/
namespace Go.Proofs.YtfanfdflpakjeaaGreatDoor
open Go.ChangeShapes Go.WideShapes Go.ChangeAt Go.RowKit Go.Av.Fn Go.ChangeMaps Go.Av
set_option linter.unusedVariables false
set_option maxRecDepth 100000
theorem zcf {H : Type} {enc : TypeId × Value → H} {a : Assume} {C : Checked} {os : Os} {f : FuncId} {fn : Func} {s : OpenSpec} {k : (H : Type) → List (DataW H) → Bool} (hk : s.cond = some k) {F : Stop.Interp} {conds : List PathCond} {apart fresh handsOn again : Bool} {X : World → Array Value → Prop}
  (hX : ∀ (w w' : World) (args : Array Value), w.heap = w'.heap → X w args → X w' args)
  (own : ownKnob C.prog.godebug = none) (started : os.Started) (noInit : C.prog.inits.idxOf? f = none) (hfn : C.prog.funcs[f]? = some fn)
  (witness : ∃ (w : World) (tape : Tape) (i : Input), w.os = os ∧ (w.forCall tape i).Shaped C.prog ∧ i.vars = [] ∧ Input.okWide C.prog (w.forCall tape i) .any w.heap.size f i ∧
   ((s.pre enc C.prog fn conds apart (w.forCall tape i).memory i.args ∧ X (w.forCall tape i).memory i.args) ∧ sizedMet enc C.prog fn s apart (w.forCall tape i).memory i.args) ∧ a.holds C.prog (lone (Frame.enter C.prog f i.args .normal) [] (w.forCall tape i)))
  (contract : ∀ (W : World) (base : Nat) (args : Array Value) (ds gs : List (DataW H)) (before : List MemPlace),
   (∀ (j : Nat) t v, fn.params[j]? = some t → args[j]? = some v → Value.okWide C.prog W .any base t v) →
   DataW.Whole enc C.prog fn.params.toList s.vars apart W args.toList ds gs before → k H (ds ++ gs) = true → X W args →
   Calls C.prog f args W fun e W' => ∃ v, e = .returned v ∧ (s.at F).post enc C.prog fn apart fresh handsOn again W args v W') :
  ReturnsInHanded a C os f .any (fun w args => (s.pre enc C.prog fn conds apart w args ∧ X w args) ∧ sizedMet enc C.prog fn s apart w args) ((s.at F).post enc C.prog fn apart fresh handsOn again) := by
 refine returnsInHanded_of_calls own started noInit witness ?_
 intro w tape i _ _ _ hok hpre hholds
 obtain ⟨_, _, _, fn', hfn', _, _, _, _, hval⟩ := hok
 have e : fn' = fn := Option.some.inj (hfn'.symm.trans hfn)
 subst e
 obtain ⟨⟨hp, hx⟩, hz⟩ := hpre
 obtain ⟨ds, gs, before, hw, hc, hkk⟩ := (OpenSpec.pre_some hk conds apart _ _).1 hp
 have hw' := DataW.Whole.of_heap (w' := w.forCall tape i) (by rfl) hw
 refine (contract (w.forCall tape i) w.heap.size i.args ds gs before hval hw' hkk (hX _ _ _ (by rfl) hx)).mono fun e W' ⟨v, he, hp⟩ => ?_
 subst he
 exact ChangeSpec.post_blind hp
theorem oplogBytesUpto_lifted (os : Os) (started : os.Started) (H : Type) (enc : TypeId × Value → H) (F : Stop.Interp) :
  ReturnsInHanded {} Tryz.checked os 12 .any (fun w args => ((Rows.OpenSpec.upto Rows.oplogBytesSpec).pre enc Tryz.prog Tryz.f12 [] false w args ∧ laidMetH Tryz.prog laidL w) ∧ sizedMet enc Tryz.prog Tryz.f12 (Rows.OpenSpec.upto Rows.oplogBytesSpec) false w args)
   (((Rows.OpenSpec.upto Rows.oplogBytesSpec).at F).post enc Tryz.prog Tryz.f12 false true false false) := by
 refine zcf (C := Tryz.checked) (k := Rows.uptoSmall) rfl (X := fun w _ => laidMetH Tryz.prog laidL w) (fun _ _ _ hh h => h.of_heap hh) own started (by kernel_rfl) Tryz.func12
  ?_ ?_
 ·obtain ⟨w, tape, i, q1, q2, q3, q4, ⟨⟨_, q5, q6⟩, q7⟩, q8⟩ := ChangeSpec.witness_shaped (s := Rows.oplogBytesSpec) (conds := []) (apart := false) (enc := enc) (C := Tryz.checked) (os := os) (f := 12) (fn := Tryz.f12) (X := fun w args => laidMetH Tryz.prog laidL w ∧ (Rows.OpenSpec.upto Rows.oplogBytesSpec).pre enc Tryz.prog Tryz.f12 [] false w args) false (World.doorLaid Tryz.prog 4000 os) #[.agg #[.int .i64 0, .string ⟨#[]⟩, .slice none 0 0], .slice none 0 0] 8 rfl (World.shaped_of_RefB (by kernel_rfl) (by kernel_rfl)) (by kernel_rfl) (by kernel_rfl) (by kernel_rfl) ⟨door_met os _, (OpenSpec.pre_some rfl [] false _ _).2 ⟨[.agg [.lit (.int .i64 0), .lit (.string []), .nil], .nil], [], [], DataW.Whole_of_whole (fuel := 8) (x := ([.agg [.lit (.int .i64 0), .lit (.string []), .nil], .nil], [], [])) (by kernel_rfl), rfl, by simp [Rows.uptoSmall, Rows.uptoBulkAll, Rows.uptoBulk]⟩⟩
  exact ⟨w, tape, i, q1, q2, q3, q4, ⟨⟨q6, q5⟩, q7⟩, q8⟩
 intro W base args ds gs before hval0 hW x2 hL
 have hval : ∀ (j : Nat) t v, Tryz.f12.params[j]? = some t → args[j]? = some v → Value.okWide Tryz.prog W .any base t v := hval0
 have hW' := hW
 obtain ⟨p, q, hA0, hV, rfl, hfz, hnd⟩ := hW
 have hA : DataW.TrodAll enc Tryz.prog W 0 (fun _ => true) true Tryz.f12.params.toList args.toList ds p := hA0
 rw [Tryz.params12] at hA hval
 have hA2 := hA
 obtain ⟨v0, v1, d0, d1, p0, p1, rfl, rfl, rfl, h0, h1⟩ := trodAll_two hA
 obtain ⟨rfl, rfl⟩ := trodVars_none hV
 have hcall : Calls Tryz.prog 12 #[v0, v1] W fun e W' => e = .returned (.bool true) ∧ Below W.heap.size W W' := by
  obtain ⟨nn, x, hr0, hn, _, hb, hc, he⟩ := open_logB (hval 0 _ v0 rfl rfl) h0
  obtain ⟨l, hl, hd⟩ := open_bytes Tryz.underlying40 Tryz.underlying5 (by kernel_rfl) (hval 1 _ v1 rfl rfl) h1
  have hk : Rows.uptoBulk d0 ≤ 1048576 := by
   have := of_decide_eq_true (show decide (Rows.uptoBulkAll ([d0, d1] ++ []) ≤ 1048576) = true from x2)
   simp only [zdV, Rows.uptoBulkAll] at this
   omega
  obtain ⟨p, q, _, _, hr⟩ := start_of_laid hL
  exact calls_retA (cargs := [_, _]) hr (.cons hr0 (.cons hl .nil)) (oplogBytes_ok (env_gl p q).env nn x l hb (by omega) (fun e h => by obtain ⟨⟨h1, h2, h3, h4, h5, h6, _⟩, h7, h8⟩ := he e h; exact ⟨⟨h1, h2, h3, h4, h5, h6⟩, by omega, by omega⟩))
 refine hcall.mono fun ev W' ⟨hev, hB⟩ => ?_
 subst hev
 have hagain := trodAll_again types_ok hB (ts := [56, 40]) (by
  have h : ([56, 40].all fun t => decide (t < Tryz.prog.types.size)) = true := by kernel_rfl
  intro t ht
  simpa using List.all_eq_true.1 h t ht) hA2
 refine ⟨_, rfl, _, _, _, [], (p0 ++ p1), [], hW', ?_, ?_, ?_, hB.frame _, fun h => by cases h⟩
 ·exact trodAll_mk1 (shut_bool Tryz.underlying4 true)
 ·exact hagain
 ·rfl
set_option maxHeartbeats 8000000 in
theorem oplogBytesUpto_closed : joinedFacts Tryz.pinned.checked.prog 12 Tryz.f12 (Rows.OpenSpec.upto Rows.oplogBytesSpec).bare Rows.oplogBytesUptoRow = true := by
 unfold joinedFacts
 simp only [Bool.and_eq_true]
 and_intros
 all_goals as_aux_lemma => kernel_rfl
theorem oplogBytesUpto_named : Tryz.pinned.checked.prog.funcNamed Rows.oplogBytesUptoRow.func = some 12 := by kernel_rfl
theorem oplogBytesUpto_origin : Tryz.f12.isInstance Tryz.pinned.checked.prog Rows.oplogBytesUptoRow.origin Rows.oplogBytesUptoRow.targs := of_decide_eq_true (by kernel_rfl)
theorem oplogBytesUpto_unwrapped : Tryz.f12.isWrapper Tryz.pinned.checked.prog Rows.oplogBytesUptoRow.wrapper Rows.oplogBytesUptoRow.mainSum := by
 unfold Func.isWrapper; first | (rw [if_pos (by decide +kernel)]; kernel_rfl) | (rw [if_neg (by decide +kernel)]; exact ⟨rfl, rfl⟩)
theorem oplogBytesUpto_holds : Rows.OplogBytesUptoSaid :=
 OpenClaim.holds_of_cond 12 Tryz.f12 rfl rfl rfl rfl rfl rfl rfl ⟨rfl, rfl, rfl, rfl, rfl⟩ rfl rfl rfl rfl rfl oplogBytesUpto_named Tryz.func12 oplogBytesUpto_closed oplogBytesUpto_origin oplogBytesUpto_unwrapped
  (fun os started H enc _ F => oplogBytesUpto_lifted os started H enc F)
theorem oplogBytesUpto_wf : Rows.oplogBytesUptoRow.wfByText (Rows.OpenSpec.upto Rows.oplogBytesSpec) = true := by kernel_rfl
theorem oplogBytesUpto_goes : false = Rows.oplogBytesUptoRow.goesBy Tryz.pinned.checked.prog := by kernel_rfl
theorem oplogBytesUpto_noStand : ([56, 40].all fun u => !Tryz.prog.wantsStandIn u) = true := by kernel_rfl
theorem oplogBytesUpto_card_holds : Rows.OplogBytesUptoCardSaid :=
 Claim7.holds_tied_plain_at .later [] [.data, .data, .data, .handle, .sentinel, .sentinel, .data, .data] true (true, "1b8154fc6baef69c22d04b423b7dd1732c017c73b1e19009b2d3ba36816cfbaf") true
  oplogBytesUpto_holds (fun _ h => by cases h) oplogBytesUpto_wf (fun _ h => by cases h) oplogBytesUpto_row_tie rfl ⟨rfl, rfl⟩ mainT rfl
  (fun f fn hf hfn => by
   obtain rfl : f = 12 := Option.some.inj (oplogBytesUpto_named.symm.trans hf) |>.symm
   obtain rfl : fn = Tryz.f12 := (Option.some.inj (Tryz.func12.symm.trans hfn)).symm
   exact ⟨looksT, fun j t ht => by
    rw [Tryz.params12] at ht
    have hm : t ∈ [56, 40] := by simpa using Array.mem_of_getElem? ht
    have hall := oplogBytesUpto_noStand
    exact (show Tryz.prog.wantsStandIn t = false by simpa using List.all_eq_true.1 hall t hm)⟩)
  oplogBytesUpto_goes
end Go.Proofs.YtfanfdflpakjeaaGreatDoor
