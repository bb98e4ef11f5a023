/- The library's functions hold what is asked of them. No condition but the variable that ParseInt looks at. -/
import Derived.Test.YtgjmoaifdldkaaaDoorW20
namespace Go.Av
open Go.RowKit
section
variable {P : Program} {Γ : Glob} {B0 : Nat} {G : Gh} {m : Store} {w : World}

theorem heap_freeze_ne {a : Addr} {n b : Nat} (h : b ≠ a.block) : (w.freeze a n).heap[b]? = w.heap[b]? := by
  unfold World.freeze
  split
  · rfl
  · simp only [Array.getElem?_modify]
    rw [if_neg (fun e => h e.symm)]
theorem cell_freeze {a c : Addr} {n : Nat} : (w.freeze a n).cell? c = w.cell? c := by
  by_cases h : c.block = a.block
  · unfold World.freeze
    split
    · rfl
    · simp only [World.cell?, Array.getElem?_modify, h, if_true]
      cases hb : w.heap[a.block]? with
      | none => rfl
      | some o => cases o <;> rfl
  · exact World.cell?_of_block (heap_freeze_ne h)
theorem size_freeze {a : Addr} {n : Nat} : (w.freeze a n).heap.size = w.heap.size := by
  unfold World.freeze
  split
  · rfl
  · simp

/-- A row's bytes are frozen; its end is given up. -/
theorem Rep.freeze (h : Rep Γ B0 G m w) {t : Nat} {T : TypeId} {k : Nat} (ht : m t = some (.tip T k)) {a : Addr} {E C n : Nat} (hH : G.H t k = some (a.block, E, C)) : Rep Γ B0 G (fun c => if c = t then none else m c) (w.freeze a n) := by
  obtain ⟨_, B, E', C', q1, q2, q3, q4, ⟨cs0, fz0, q5⟩, _⟩ := h.tip t T k ht
  rw [hH] at q1
  simp only [Option.some.injEq, Prod.mk.injEq] at q1
  obtain ⟨rfl, rfl, rfl⟩ := q1
  have sub : ∀ b x, (if b = t then none else m b) = some x → b ≠ t ∧ m b = some x := by
    intro b x hb
    by_cases e : b = t
    · simp [e] at hb
    · exact ⟨e, by simpa [e] using hb⟩
  exact {
    K := fun b o u hu => by rw [cell_freeze]; exact h.K b o u hu
    base := by rw [size_freeze]; exact h.base
    hist := fun t' v x hx => by rw [size_freeze]; exact ⟨(h.hist t' v x hx).1, fun T' v' hv => (h.hist t' v x hx).2 T' v' (sub _ _ hv).2⟩
    var := fun b T' cs hb => by
      obtain ⟨h1, ⟨us, h2, h3⟩, h4⟩ := h.var b T' cs (sub _ _ hb).2
      have hne : b ≠ a.block := by rintro rfl; exact q4 _ _ (sub _ _ hb).2
      exact ⟨h1, ⟨us, by rw [heap_freeze_ne hne]; exact h2, h3⟩, h4⟩
    tip := fun t' T' v ht' => by
      rw [size_freeze]
      obtain ⟨hne, ht''⟩ := sub _ _ ht'
      obtain ⟨p1, B', E', C', p2, p3, p4, p5, ⟨y1, y2, y3⟩, p6⟩ := h.tip t' T' v ht''
      have hB : B' ≠ a.block := by
        rintro rfl
        exact h.apart t' T' v t T k a.block E' C' E C ht'' ht hne p2 hH
      refine ⟨p1, B', E', C', p2, p3, p4, fun T2 cs hc => p5 T2 cs (sub _ _ hc).2, ⟨y1, y2, by rw [heap_freeze_ne hB]; exact y3⟩, fun o h1 h2 => ?_⟩
      obtain ⟨f1, f2, f3⟩ := p6 o h1 h2
      exact ⟨by rw [cell_freeze]; exact f1, by rw [World.frozen?_of_block (w := w) (heap_freeze_ne hB)]; exact f2, f3⟩
    apart := fun t1 T1 v1 t2 T2 v2 B E C E' C' k1 k2 => h.apart t1 T1 v1 t2 T2 v2 B E C E' C' (sub _ _ k1).2 (sub _ _ k2).2
    glob := h.glob
    loop := fun b r f t' ps x y D hb => by
      obtain ⟨h1, us, h2, h3⟩ := h.loop b r f t' ps x y D (sub _ _ hb).2
      have hne : b ≠ a.block := by rintro rfl; rw [q5] at h2; cases h2
      exact ⟨h1, us, by rw [heap_freeze_ne hne]; exact h2, h3⟩
    defer := fun b hb => by
      obtain ⟨h1, h2⟩ := h.defer b (sub _ _ hb).2
      have hne : b ≠ a.block := by rintro rfl; rw [q5] at h2; cases h2
      exact ⟨h1, by rw [heap_freeze_ne hne]; exact h2⟩ }

theorem by8s_inv : ∀ {l : List UInt8} {us : List Value}, RelL G (l.map by8) us → us = l.map fun b => Value.int .u8 b.toNat
  | [], us, h => h.nil_inv
  | b :: l, us, h => by
    obtain ⟨y, ys, rfl, r1, r2⟩ := h.cons_inv
    cases r1
    rw [by8s_inv r2]
    rfl
end
end Go.Av
namespace Go.Av.Fn
set_option linter.unusedSimpArgs false
set_option linter.unusedVariables false
set_option maxRecDepth 10000
open Go.Proofs Go.RowKit

theorem idxB_eq (s : List UInt8) (c : UInt8) : Lib.indexByte s c = idxB s c := by
  unfold idxB
  induction s with
  | nil => rfl
  | cons b s ih =>
    rw [List.findIdx?_cons, Lib.indexByte]
    by_cases h : (b == c) = true
    · simp [h]
    · simp only [h, Bool.false_eq_true, if_false]
      rw [ih]
      cases List.findIdx? (· == c) s with
      | none => rfl
      | some i =>
        simp only [Option.map_some]
        have : ¬ ((i : Int) == -1) = true := by
          intro k
          have := eq_of_beq k
          omega
        rw [if_neg this]
        rfl

/-- Digits only: what ParseUint's rule comes to. -/
theorem parse_ge : ∀ (l : List UInt8) (acc u : Nat), Lib.parseUintM (2 ^ 64 - 1) acc l = .ok u → acc ≤ u
  | [], acc, u, h => by
    simp only [Lib.parseUintM, Lib.NumEnd.ok.injEq] at h
    omega
  | c :: r, acc, u, h => by
    simp only [Lib.parseUintM] at h
    split at h
    · split at h
      · cases h
      · split at h
        · cases h
        · have := parse_ge r _ u h
          omega
    · cases h
theorem parse_no : ∀ (l : List UInt8) (acc : Nat), (∀ c ∈ l, dig c = true) → (∃ u, Lib.parseUintM (2 ^ 64 - 1) acc l = .ok u) ∨ Lib.parseUintM (2 ^ 64 - 1) acc l = .range
  | [], acc, _ => .inl ⟨acc, rfl⟩
  | c :: r, acc, hd => by
    have hc := hd c (List.mem_cons_self ..)
    simp only [dig, Bool.and_eq_true, decide_eq_true_eq] at hc
    have hc' : 48 ≤ c.toNat ∧ c.toNat ≤ 57 := hc
    simp only [Lib.parseUintM, if_pos hc']
    split
    · exact .inr rfl
    · split
      · exact .inr rfl
      · exact parse_no r _ (fun c hc => hd c (List.mem_cons_of_mem _ hc))

theorem parse_num : ∀ (l : List UInt8) (acc : Nat), (∀ c ∈ l, dig c = true) → acc < 9223372036854775808 →
    (∃ u, Lib.parseUintM (2 ^ 64 - 1) acc l = .ok u ∧ numL acc l = if u < 9223372036854775808 then some u else none) ∨ (Lib.parseUintM (2 ^ 64 - 1) acc l = .range ∧ numL acc l = none)
  | [], acc, _, ha => .inl ⟨acc, rfl, by simp only [numL]; rw [if_pos ha]⟩
  | c :: r, acc, hd, ha => by
    have hc := hd c (List.mem_cons_self ..)
    simp only [dig, Bool.and_eq_true, decide_eq_true_eq] at hc
    have hc' : 48 ≤ c.toNat ∧ c.toNat ≤ 57 := hc
    simp only [Lib.parseUintM, numL, if_pos hc']
    have key : (acc > (9223372036854775807 - (c.toNat - 48)) / 10) ↔ 9223372036854775807 < 10 * acc + (c.toNat - 48) := by omega
    have e10 : acc * 10 + (c.toNat - 48) = 10 * acc + (c.toNat - 48) := by omega
    rw [e10]
    by_cases h1 : 1844674407370955162 ≤ acc
    · rw [if_pos h1, if_pos (key.2 (by omega))]
      exact .inr ⟨rfl, rfl⟩
    · rw [if_neg h1]
      by_cases h2 : 2 ^ 64 - 1 < 10 * acc + (c.toNat - 48)
      · rw [if_pos h2, if_pos (key.2 (by omega))]
        exact .inr ⟨rfl, rfl⟩
      · rw [if_neg h2]
        by_cases h3 : 9223372036854775807 < 10 * acc + (c.toNat - 48)
        · rw [if_pos (key.2 h3)]
          rcases parse_no r (10 * acc + (c.toNat - 48)) (fun c hc => hd c (List.mem_cons_of_mem _ hc)) with ⟨u, hp⟩ | hp
          · have := parse_ge r _ u hp
            exact .inl ⟨u, hp, by rw [if_neg (by omega)]⟩
          · exact .inr ⟨hp, rfl⟩
        · rw [if_neg (fun k => h3 (key.1 k))]
          exact parse_num r _ (fun c hc => hd c (List.mem_cons_of_mem _ hc)) (by omega)

theorem parseB {s : List UInt8} (hne : s ≠ []) (hd : ∀ c ∈ s, dig c = true) : match numL 0 s with
    | some n => Lib.parseIntB 64 s = .ok (n : Int)
    | none => Lib.parseIntB 64 s = .range := by
  obtain ⟨c, r, rfl⟩ : ∃ c r, s = c :: r := by
    cases s with
    | nil => exact absurd rfl hne
    | cons c r => exact ⟨c, r, rfl⟩
  have hc := hd c (List.mem_cons_self ..)
  simp only [dig, Bool.and_eq_true, decide_eq_true_eq] at hc
  have h1 : ¬ (c.toNat = 43 ∨ c.toNat = 45) := by omega
  have h2 : ¬ c.toNat = 45 := by omega
  have hU : Lib.parseUintB 64 (c :: r) = Lib.parseUintM (2 ^ 64 - 1) 0 (c :: r) := by
    unfold Lib.parseUintB
    rw [if_neg (List.cons_ne_nil c r)]
  have hok : ∀ u, Lib.parseUintM (2 ^ 64 - 1) 0 (c :: r) = .ok u → Lib.parseIntB 64 (c :: r) = if 9223372036854775808 ≤ u then .range else .ok (u : Int) := by
    intro u hu
    unfold Lib.parseIntB
    simp only
    rw [if_neg h1, hU, hu]
    simp [h2]
  have hra : Lib.parseUintM (2 ^ 64 - 1) 0 (c :: r) = .range → Lib.parseIntB 64 (c :: r) = .range := by
    intro hu
    unfold Lib.parseIntB
    simp only
    rw [if_neg h1, hU, hu]
  rcases parse_num (c :: r) 0 hd (by omega) with ⟨u, e1, e2⟩ | ⟨e1, e2⟩
  · rw [e2]
    by_cases hu : u < 9223372036854775808
    · rw [if_pos hu]
      simp only
      rw [hok u e1, if_neg (by omega)]
    · rw [if_neg hu]
      simp only
      rw [hok u e1, if_pos (by omega)]
  · rw [e2]
    exact hra e1

theorem clone41 {Γ : Glob} (m : Store) (s : List UInt8) (hs : s.length ≤ 281474976710656) : ACalls Tryd.prog Γ 41 [bs s] m fun o m' => o = .ret (bs s) ∧ m' = m :=
  ACalls.of_vals (xs := [.string ⟨s.toArray⟩]) (u := .string ⟨s.toArray⟩) (by kernel_rfl) rfl (fun w => Tryd.stringslite_Clone ⟨s.toArray⟩ w (by simpa [ByteArray.size] using hs))

theorem index38 {Γ : Glob} (m : Store) (s : List UInt8) (c : UInt8) : ACalls Tryd.prog Γ 38 [bs s, by8 c] m fun o m' => o = .ret (it (idxB s c)) ∧ m' = m :=
  ACalls.of_vals (xs := [.string ⟨s.toArray⟩, .int .u8 c.toNat]) (u := .int .i64 (idxB s c)) (by kernel_rfl) rfl (fun w => (Tryd.strings_IndexByte ⟨s.toArray⟩ c.toNat w).mono (by
    rintro e w' ⟨rfl, rfl⟩
    refine ⟨?_, Below.refl _ _⟩
    have e1 : (c.toNat : Int).toNat.toUInt8 = c := by simp
    rw [e1, ← idxB_eq]))

theorem parse28 {Γ : Glob} {T : TypeId} {v : V} (hΓ : Γ 3 = some [.ifc T v]) : ParseOk Γ := by
  intro m s hne hs hd
  have hp := parseB hne hd
  refine ⟨by kernel_rfl, fun G B0 mF w cargs hD hR hL => ?_⟩
  obtain ⟨c1, r1, rfl, h1, hL⟩ := hL.cons_inv
  obtain ⟨c2, r2, rfl, h2, hL⟩ := hL.cons_inv
  obtain ⟨c3, r3, rfl, h3, hL⟩ := hL.cons_inv
  obtain rfl := hL.nil_inv
  cases h1
  cases h2
  cases h3
  have hsz : (⟨s.toArray⟩ : ByteArray).data.toList = s := by simp
  have hsz2 : (⟨s.toArray⟩ : ByteArray).size = s.length := by simp [ByteArray.size]
  cases hn : numL 0 s with
  | some n =>
    rw [hn] at hp
    refine (Tryd.strconv_ParseInt_10_at64_ok ⟨s.toArray⟩ (by omega) n (by rw [hsz]; exact hp) w).mono ?_
    rintro e w' ⟨rfl, hw⟩
    have hB : Below w.heap.size w w' := by
      rcases hw with rfl | ⟨t, rfl⟩
      · exact Below.refl _ _
      · exact Lib.bytesWorld_below w 5 t
    exact ⟨G, m, .ret (.tup [it n, .val .nilIface]), Gh.le.refl G, hD, hR.below hB, hB.mono hR.base, .ret (.tup (.cons (.val rfl) (.cons (.val rfl) .nil))), rfl, rfl⟩
  | none =>
    rw [hn] at hp
    obtain ⟨us, g1, g2⟩ := hR.glob 3 _ hΓ
    obtain ⟨u, ys, rfl, g3, g4⟩ := g1.cons_inv
    obtain rfl := g4.nil_inv
    have hcell := hR.K 3 0 u (g2.2 0 u rfl)
    cases g3 with
    | ifc g3 =>
      refine (Tryd.strconv_ParseInt_10_at64_range ⟨s.toArray⟩ (by omega) (by rw [hsz]; exact hp) _ w hcell (.inr ⟨_, _, rfl⟩)).mono ?_
      rintro e w' ⟨N, rfl, _, _, hB⟩
      exact ⟨G, m, .ret (.tup [it (Lib.intSat 64 (ByteArray.mk s.toArray).data.toList), .ifc 78 (.ptr N 0)]), Gh.le.refl G, hD, hR.below hB, hB.mono hR.base, .ret (.tup (.cons (.val rfl) (.cons (.ifc (.ptr _ _)) .nil))), ⟨_, _, _, rfl⟩, rfl⟩

theorem copy48 {Γ : Glob} (m : Store) (b : Nat) (p u : V) (h : m b = some (.var 67 [p, u])) (hp : markOk b p) : ACalls Tryd.prog Γ 48 [.ptr b 0] m fun o m' => o = .ret (.tup []) ∧ m' = m.set b (.var 67 [.ptr b 0, u]) := by
  refine ⟨by kernel_rfl, fun G B0 mF w cargs hD hR hL => ?_⟩
  obtain ⟨c1, r1, rfl, h1, hL⟩ := hL.cons_inv
  obtain rfl := hL.nil_inv
  cases h1
  have hb := or_left (f := mF) h
  obtain ⟨hB0, ⟨us, hw, hu⟩, hK⟩ := hR.var b 67 _ hb
  obtain ⟨x, us1, rfl, r1, hu⟩ := hu.cons_inv
  obtain ⟨y, us2, rfl, r2, hu⟩ := hu.cons_inv
  obtain rfl := hu.nil_inv
  rcases hp with rfl | rfl
  · cases r1
    refine (Any.Builder_copyCheck_fresh Tryd.lays240 Tryd.Builder_X72_240 b w (by simp [World.cell?, hw]) (by simp [World.shape?, hw]; rfl) (by simp [World.frozen?, hw])).mono ?_
    rintro e w' ⟨rfl, rfl⟩
    have hst := hR.store hb (o := 0) (RelV.ptr (G := G) b 0)
    rw [← or_set] at hst
    exact ⟨G, _, .ret (.tup []), Gh.le.refl G, hD.set _ (hD.of_some h), hst, (Below.refl B0 w).setCell (p := ⟨b, 0, none⟩) hB0 _, .ret (.tup .nil), rfl, rfl⟩
  · cases r1
    refine (Any.Builder_copyCheck_used Tryd.lays240 Tryd.Builder_X72_240 b w (by simp [World.cell?, hw])).mono ?_
    rintro e w' ⟨rfl, rfl⟩
    exact ⟨G, m, .ret (.tup []), Gh.le.refl G, hD, hR, Below.refl _ _, .ret (.tup .nil), rfl, (Store.set_eq m h).symm⟩

theorem string37 {Γ : Glob} (m : Store) (b : Nat) (p u : V) (l : List UInt8) (h : m b = some (.var 67 [p, u])) (hl : l.length ≤ 4096) (hu : (l = [] ∧ u = .sl [] [] .full) ∨ (l ≠ [] ∧ ∃ t k, m t = some (.tip 5 k) ∧ u = .sl (l.map by8) [] (.tip t k))) :
    ACalls Tryd.prog Γ 37 [.ptr b 0] m fun o m' => o = .ret (bs l) ∧ ∀ c x, m c = some x → (∀ l2 k, u ≠ .sl l2 [] (.tip c k)) → m' c = some x := by
  refine ⟨by kernel_rfl, fun G B0 mF w cargs hD hR hL => ?_⟩
  obtain ⟨c1, r1, rfl, h1, hL⟩ := hL.cons_inv
  obtain rfl := hL.nil_inv
  cases h1
  have hb := or_left (f := mF) h
  obtain ⟨hB0, ⟨us, hw, hus⟩, hK⟩ := hR.var b 67 _ hb
  obtain ⟨x, us1, rfl, r1, hus⟩ := hus.cons_inv
  obtain ⟨y, us2, rfl, r2, hus⟩ := hus.cons_inv
  obtain rfl := hus.nil_inv
  rcases hu with ⟨rfl, rfl⟩ | ⟨hne, t, k, ht, rfl⟩
  · have hy : y = .slice none 0 0 := by
      cases r2 with
      | nil _ => rfl
      | sl q1 q2 q3 q4 q5 q6 => exact absurd rfl q6.2
    subst hy
    refine (Any.Builder_String_nil Tryd.lays169 Tryd.Builder_Extra_169 w.heap.size b x w hw).mono ?_
    rintro e w' ⟨rfl, hB⟩
    exact ⟨G, m, .ret (bs []), Gh.le.refl G, hD, hR.below hB, hB.mono hR.base, .ret (.val rfl), rfl, fun c x hc _ => hc⟩
  · have hy : ∃ (a : Addr) (cap : Nat), y = .slice (some a) l.length cap ∧ l.length ≤ cap ∧ G.has a (l.map fun b => Value.int .u8 b.toNat) ∧ G.H t k = some (a.block, a.off + l.length, a.off + cap) := by
      obtain ⟨c, r, rfl⟩ : ∃ c r, l = c :: r := by
        cases l with
        | nil => exact absurd rfl hne
        | cons c r => exact ⟨c, r, rfl⟩
      cases r2 with
      | @sl _ _ _ us a cap sz q1 q2 q3 q4 q5 q6 =>
        have hsz : sz = 1 := (q1 (by8 c) (by simp)).symm
        subst hsz
        have hfl : flat ((c :: r).map by8 ++ []) = (c :: r).map by8 := by
          have : ∀ l : List UInt8, flat (l.map by8) = l.map by8 := by
            intro l
            induction l with
            | nil => rfl
            | cons b l ih => rw [List.map_cons, flat_cons, ih]; rfl
          rw [List.append_nil, this]
        rw [hfl] at q2
        have hus := by8s_inv q2
        subst hus
        have q6' : G.H t k = some (a.block, a.off + ((c :: r).map by8).length * 1, a.off + cap * 1) := q6
        rw [List.length_map, Nat.mul_one, Nat.mul_one] at q6'
        exact ⟨a, cap, by rw [List.length_map], by simpa using q4, q3, q6'⟩
    obtain ⟨a, cap, rfl, hcap, hhas, hH⟩ := hy
    have htm := or_left (f := mF) ht
    obtain ⟨_, B, E, C, p1, p2, p3, p4, ⟨cs, fz, p5⟩, p6⟩ := hR.tip t 5 k htm
    rw [hH] at p1
    simp only [Option.some.injEq, Prod.mk.injEq] at p1
    obtain ⟨rfl, rfl, rfl⟩ := p1
    have hcell : ∀ j x, l[j]? = some x → w.cell? (a.add j) = some (.int .u8 x.toNat) := by
      intro j x hx
      have hk := hhas.2 j (.int .u8 x.toNat) (by simp [hx])
      have := hR.K _ _ _ hk
      rw [add_plain hhas.1]
      exact this
    have hsz : a.off + l.length ≤ cs.size := by
      have hl0 : 0 < l.length := by cases l with | nil => exact absurd rfl hne | cons _ _ => simp
      have := hcell (l.length - 1) l[l.length - 1] (by simp [hl0])
      rw [add_plain hhas.1] at this
      simp only [World.cell?, p5] at this
      have h2 := (Array.getElem?_eq_some_iff.1 this).1
      omega
    refine (builderString_at Tryd.lays169 Tryd.Builder_Extra_169 b x a cap cs.size l w hw hne hcap (by omega) (by simp [World.shape?, p5]; rfl) hsz hcell).mono ?_
    rintro e w' ⟨rfl, rfl⟩
    have hfz := hR.drew.freeze htm (a := a) (n := l.length) hH
    have hor : (fun c => if c = t then none else (m.or mF) c) = Store.or (fun c => if c = t then none else m c) mF := by
      funext c
      by_cases e : c = t
      · subst e
        have := hD.of_some ht
        simp [Store.or, this]
      · simp [Store.or, e]
    rw [hor] at hfz
    refine ⟨G, _, .ret (bs l), Gh.le.refl G, fun c => ?_, hfz, Lib.below_freeze (Below.drew (Below.refl B0 w)) p2 _, .ret (.val rfl), rfl, fun c x hc hk => ?_⟩
    · rcases hD c with h | h
      · left
        by_cases e : c = t
        · simp [e]
        · simp [e, h]
      · exact .inr h
    · have : c ≠ t := by rintro rfl; exact hk _ _ rfl
      simp [this, hc]

theorem libOk {Γ : Glob} : LibOk Γ where
  clone := clone41
  copyCheck := copy48
  string := string37
  indexByte := fun m s c _ => index38 m s c
end Go.Av.Fn
