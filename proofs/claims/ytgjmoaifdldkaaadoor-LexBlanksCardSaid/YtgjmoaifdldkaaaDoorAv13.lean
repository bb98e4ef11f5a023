/- Whatever opE tells of an operation holds of the model's operation. No condition. -/
import Derived.Test.YtgjmoaifdldkaaaDoorAv12
namespace Go.Av
open Go.RowKit
set_option linter.unusedSimpArgs false
set_option linter.unusedVariables false

section
variable {P : Program} {Γ : Glob} {B0 : Nat} {G : Gh} {m mF : Store} {w : World} {ρ : Operand → V}
variable {o : Oper} {a : Act} {K Kp : V → Store → Prop} {next : Act → World → Prop} {Q : Exit → Act → World → Prop}

theorem opE_s2b {src dst e : TypeId} {x : Operand} (hop : o.op = .convert src dst x) (h1 : P.underlying src = some .string) (h2 : P.underlying dst = some (.slice e)) (h3 : isU8 P e = true)
    (hA : After P Γ B0 G mF w o a K Kp next Q) (hx : RelV G (ρ x) (a.eval x)) (hD : Disj m mF) (hR : Rep Γ B0 G (m.or mF) w)
    (hE : match ρ x with
    | .val (.string s) => ∀ t, m t = none → K (.sl (bytesV s) [] (.tip t 0)) (m.set t (.tip e 0))
    | _ => False) : o.wp P a w next Q := by
  have hu8 : P.underlying e = some (.int .u8) := by
    unfold isU8 at h3
    split at h3
    · assumption
    · cases h3
  split at hE
  · rename_i s hs
    rw [hs] at hx
    have hxe : a.eval x = .string s := by
      generalize a.eval x = z at hx
      cases hx
      rfl
    generalize hcap : (Question.appendCap s.size 0 e).cut (w.tape w.drawn (.appendCap s.size 0 e)) = nc
    have hnc : s.size ≤ nc := by
      rw [← hcap]
      simp [Question.cut]
    have hf := or_none hR.fresh
    let us : List Value := s.data.toList.map fun b => Value.int .u8 b.toNat
    let rest : List Value := List.replicate (nc - s.size) (Value.int .u8 0)
    have hul : us.length = s.size := by simp [us]
    let w1 := w.drew.alloc (.cells (us ++ rest).toArray e)
    let w2 := w1.freeze { block := w.heap.size, off := (us ++ rest).length } 1
    have hheap : w2.heap = w1.heap.modify w.heap.size fun
      | .cells c elem (lo, hi) => .cells c elem (if lo == hi then ((us ++ rest).length, (us ++ rest).length + 1) else (min lo (us ++ rest).length, max hi ((us ++ rest).length + 1)))
      | o => o := by
      show (w1.freeze { block := w.heap.size, off := (us ++ rest).length } 1).heap = _
      unfold World.freeze
      rw [if_neg (by omega)]
      rfl
    have hw1 : w1.heap[w.heap.size]? = some (.cells (us ++ rest).toArray e (0, 0)) := by
      show (w.drew.heap.push _)[w.drew.heap.size]? = _
      exact Array.getElem?_push_size
    have hnew : w2.heap[w.heap.size]? = some (.cells (us ++ rest).toArray e ((us ++ rest).length, (us ++ rest).length + 1)) := by
      rw [hheap, Array.getElem?_modify, hw1]
      simp
    have hold : ∀ b, b < w.heap.size → w2.heap[b]? = w.heap[b]? := by
      intro b hb
      rw [hheap, Array.getElem?_modify, if_neg (by omega)]
      show (w.drew.heap.push _)[b]? = _
      rw [Array.getElem?_push_lt (show b < w.drew.heap.size from hb), Array.getElem?_eq_getElem hb]
      rfl
    have hsize : w2.heap.size = w.heap.size + 1 := by
      rw [hheap]
      simp [w1]
    obtain ⟨k1, k2⟩ := hR.newRow (us := us) (rest := rest) (T := e) (fz := ((us ++ rest).length, (us ++ rest).length + 1)) (t := w.heap.size) (v := 0) (w' := w2) hsize hold hnew (fun o' h4 h5 => by
      simp only [World.frozen?, hnew]
      simp only [List.length_append]
      simp
      omega) (.inl ⟨rfl, rfl⟩)
    have hrel := newRow_sl (G' := ((G.put w.heap.size us).putH w.heap.size 0 (w.heap.size, us.length, us.length + rest.length))) (t := w.heap.size) (v := 0) (es := bytesV s) (us := us) (rest := rest) (nr := nc - s.size) (size := 1) (b := w.heap.size) (fun y hy => by
        unfold bytesV at hy
        obtain ⟨b, _, rfl⟩ := List.mem_map.1 hy
        rfl) (by omega) (by rw [flat_bytesV]; exact bytesV_rel s)
      ⟨rfl, fun i u hu => by simpa [Gh.putH, Gh.put] using hu⟩ (by simp [Gh.putH]) (by simp [rest])
    rw [← or_set] at k2
    have hbl : (bytesV s).length = s.size := by simp [bytesV]
    rw [hbl, show s.size + (nc - s.size) = nc by omega] at hrel
    refine wp_value (u := .slice (some ⟨w.heap.size, 0, none⟩) s.size nc) (w' := w2) ?_ (hA.next _ _ _ _ _ k1 (hD.set _ hf.2) k2 ⟨?_, ?_, ?_, by omega, fun b hb => hold b (Nat.lt_of_lt_of_le hb hR.base)⟩ hrel (hE _ hf.1))
    · have harr : (s.data.map fun b => Value.int .u8 b.toNat) ++ Array.replicate (nc - s.size) (Value.int .u8 0) = (us ++ rest).toArray := by
        apply Array.ext'
        simp [us, rest]
      simp only [execOp, hop, hxe, convert, Sem.run_bind, run_underlying h1, run_underlying h2, run_underlying hu8, Result.andThen_ok, Conv.stringToBytes, run_choose_drew, Question.forced, Bool.false_eq_true, if_false, hcap, harr, newRow, run_newObj_alloc, Sem.run_pure, markStringish, run_shape]
      have hsh : w1.shape? w.heap.size = some (e, (us ++ rest).length) := by
        simp [World.shape?, hw1]
      show (((match w1.shape? w.heap.size with | some (_, n) => (freeze { block := w.heap.size, off := n } 1) | _ => pure ()).run P w1).andThen _).andThen _ = _
      rw [hsh]
      rfl
    · show w2.os = w.os
      simp only [w2, World.freeze]
      rfl
    · show w2.tape = w.tape
      simp only [w2, World.freeze]
      rfl
    · show w2.output = w.output
      simp only [w2, World.freeze]
      rfl
  · cases hE

theorem inv_alloc {T : TypeId} {cells : List V} (hc : compOp P o = some (.alloc T cells)) : o.op = .alloc T ∧ okZero P T = true ∧ zeroP P T = some cells := by
  unfold compOp at hc
  split at hc
  case h_4 T hop =>
    split at hc
    · rename_i hok
      simp only [Option.map_eq_some_iff, AOp.alloc.injEq] at hc
      obtain ⟨z, hz, rfl, rfl⟩ := hc
      exact ⟨hop, hok, hz⟩
    · cases hc
  all_goals (first | (simp at hc; done) | (repeat' split at hc) <;> simp at hc)

theorem inv_box {T : TypeId} {x : Operand} (hc : compOp P o = some (.box T x)) : o.op = .box T x := by
  unfold compOp at hc
  split at hc
  case h_5 T y hop =>
    simp only [Option.some.injEq, AOp.box.injEq] at hc
    obtain ⟨rfl, rfl⟩ := hc
    exact hop
  all_goals (first | (simp at hc; done) | (repeat' split at hc) <;> simp at hc)

theorem inv_store {s : Nat} {x y : Operand} (hc : compOp P o = some (.store s x y)) : ∃ T, o.op = .store T x y ∧ sizeP P T = some s := by
  unfold compOp at hc
  split at hc
  case h_9 T a b hop =>
    simp only [Option.map_eq_some_iff, AOp.store.injEq] at hc
    obtain ⟨s', h1, rfl, rfl, rfl⟩ := hc
    exact ⟨T, hop, h1⟩
  all_goals (first | (simp at hc; done) | (repeat' split at hc) <;> simp at hc)

theorem inv_s2b {e : TypeId} {x : Operand} (hc : compOp P o = some (.s2b e x)) : ∃ src dst, o.op = .convert src dst x ∧ P.underlying src = some .string ∧ P.underlying dst = some (.slice e) ∧ isU8 P e = true := by
  unfold compOp at hc
  split at hc
  case h_13 src dst y hop =>
    split at hc
    · split at hc
      · simp at hc
      · cases hc
    · rename_i e h1 h2
      split at hc
      · rename_i h3
        simp only [Option.some.injEq, AOp.s2b.injEq] at hc
        obtain ⟨rfl, rfl⟩ := hc
        exact ⟨src, dst, hop, h1, h2, h3⟩
      · cases hc
    · simp at hc
  all_goals (first | (simp at hc; done) | (repeat' split at hc) <;> simp at hc)

theorem inv_call {f : Operand} {args : List Operand} (hc : compOp P o = some (.call f args)) : ∃ c, o.op = .call c ∧ c.callee = .value f ∧ c.args.toList = args := by
  unfold compOp at hc
  split at hc
  case h_22 c hop =>
    split at hc
    · rename_i g hg
      simp only [Option.some.injEq, AOp.call.injEq] at hc
      obtain ⟨rfl, rfl⟩ := hc
      exact ⟨c, hop, hg, rfl⟩
    all_goals ((repeat' split at hc) <;> simp at hc)
  all_goals (first | (simp at hc; done) | (repeat' split at hc) <;> simp at hc)

theorem inv_app {e : TypeId} {bytes size : Nat} {s x : Operand} (hc : compOp P o = some (.app e bytes size s x)) : ∃ c T U inf, o.op = .call c ∧ c.callee = .builtin .append ∧ c.args.toList = [s, x] ∧ c.argTypes.toList = [T, U] ∧
    P.underlying T = some (.slice e) ∧ (∀ k, P.underlying U ≠ some (.int k)) ∧ (∃ d, P.underlying U = some d) ∧ P.info? e = some inf ∧ inf.bytes = bytes ∧ inf.size = size ∧ 0 < inf.size ∧ 0 < inf.bytes ∧ okZero P e = true ∧ (zeroP P e).map List.length = some inf.size := by
  unfold compOp at hc
  split at hc
  case h_22 c hop =>
    split at hc
    · simp at hc
    · (repeat' split at hc) <;> simp at hc
    · rename_i hcal
      split at hc
      · rename_i s' x' T U ha ht
        split at hc
        · cases hc
        · rename_i e d hU hT hne
          split at hc
          · rename_i inf hinf
            split at hc
            · rename_i hcc
              simp only [Option.some.injEq, AOp.app.injEq] at hc
              obtain ⟨rfl, rfl, rfl, rfl, rfl⟩ := hc
              refine ⟨c, T, U, inf, hop, hcal, ha, ht, hT, fun k hk => ?_, ⟨d, hne⟩, hinf, rfl, rfl, hcc.1, hcc.2.1, hcc.2.2.1, hcc.2.2.2⟩
              rw [hne] at hk
              exact hU k (Option.some.inj hk)
            · cases hc
          · cases hc
        · cases hc
      · cases hc
    · cases hc
  all_goals (first | (simp at hc; done) | (repeat' split at hc) <;> simp at hc)

theorem opE_sound {r : Option Nat} {ao : AOp} (hc : compOp P o = some ao) (hA : After P Γ B0 G mF w o a K Kp next Q) (hρ : ∀ x ∈ o.op.operands, RelV G (ρ x) (a.eval x)) (hD : Disj m mF) (hR : Rep Γ B0 G (m.or mF) w)
    (hE : opE P Γ ρ m K Kp ao) : o.wpIn (Fr r) 0 P a w next Q := by
  have hnd : ∀ c, o.op ≠ .defer c := by
    intro c hk
    simp [compOp, hk] at hc
  have quiet : (∃ v, evalL P ρ m ao = some v ∧ K v m) → o.wpIn (Fr r) 0 P a w next Q := fun h => wpIn_of_wp hnd (opE_quiet hA hc hρ hD hR h)
  cases ao with
  | alloc T cells =>
    obtain ⟨hop, hok, hz⟩ := inv_alloc hc
    exact wpIn_of_wp hnd (opE_alloc hop hA hD hR hz hok hE)
  | box T x =>
    have hop := inv_box hc
    exact wpIn_of_wp hnd (opE_box hop hA (hρ x (by rw [hop]; simp [Op.operands])) hD hR hE)
  | store s x y =>
    obtain ⟨T, hop, hs⟩ := inv_store hc
    exact wpIn_of_wp hnd (opE_store hop hs hA (hρ x (by rw [hop]; simp [Op.operands])) (hρ y (by rw [hop]; simp [Op.operands])) hD hR hE)
  | s2b e x =>
    obtain ⟨src, dst, hop, h1, h2, h3⟩ := inv_s2b hc
    exact wpIn_of_wp hnd (opE_s2b hop h1 h2 h3 hA (hρ x (by rw [hop]; simp [Op.operands])) hD hR hE)
  | call f args =>
    obtain ⟨c, hop, hf, rfl⟩ := inv_call hc
    have hfv := hρ f (by rw [hop]; simp [Op.operands, Call.operands, hf])
    have hav : ∀ x ∈ c.args.toList, RelV G (ρ x) (a.eval x) := fun x hx => hρ x (by rw [hop]; simp [Op.operands, Call.operands, hf]; exact .inr (by simpa using hx))
    simp only [opE] at hE
    split at hE
    · rename_i g first caps hp
      exact wpIn_of_wp hnd (opE_call hop hf hA hfv hav hD hR (by rw [hp]; exact hE))
    · rename_i l hp
      rw [hp] at hfv
      exact opE_yield hop hf hA hfv hav hD hR hE
    · cases hE
  | app e bytes size s x =>
    obtain ⟨c, T, U, inf, hop, hcal, ha, ht, hT, hU, hUs, hi, rfl, rfl, h0, hb0, hok, hzl⟩ := inv_app hc
    exact wpIn_of_wp hnd (opE_app hop hcal ha ht hT hU hUs hi h0 hb0 hok hzl hA (hρ s (by rw [hop]; simp [Op.operands, Call.operands, hcal]; rw [← Array.mem_toList_iff, ha]; simp)) (hρ x (by rw [hop]; simp [Op.operands, Call.operands, hcal]; rw [← Array.mem_toList_iff, ha]; simp)) hD hR hE)
  | _ => exact quiet hE
end
end Go.Av
