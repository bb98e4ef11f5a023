/- The library's functions hold what is asked of them. No condition but the variable that ParseInt looks at. -/
import Derived.KernelRfl
import Derived.Lib.AppendIntMem
import Derived.Lib.ItoaLen
import Derived.Lib.ParseIntBCases
import Derived.Test.YtfanfdflpakjeaaGreatDoorTFh
namespace Go.Av
open Go.RowKit
section
variable {P : Program} {Γ : Glob} {B0 : Nat} {G : Gh} {m : Store} {w : World}
theorem heap_freeze_ne {a : Addr} {n b : Nat} (h : b ≠ a.block) : (w.freeze a n).heap[b]? = w.heap[b]? := by
 unfold World.freeze
 split
 ·rfl
 ·simp only [Array.getElem?_modify]
  rw [if_neg (fun e => h e.symm)]
theorem cell_freeze {a c : Addr} {n : Nat} : (w.freeze a n).cell? c = w.cell? c := by
 by_cases h : c.block = a.block
 ·unfold World.freeze
  split
  ·rfl
  ·simp only [World.cell?, Array.getElem?_modify, h, if_true]
   cases hb : w.heap[a.block]? with
   | none => rfl
   | some o => cases o <;> rfl
 ·exact World.cell?_of_block (heap_freeze_ne h)
theorem size_freeze {a : Addr} {n : Nat} : (w.freeze a n).heap.size = w.heap.size := by
 unfold World.freeze
 split
 ·rfl
 ·simp
theorem Rep.freeze (h : Rep Γ B0 G m w) {t : Nat} {T : TypeId} {k : Nat} (ht : m t = some (.tip T k)) {a : Addr} {E C n : Nat} (hH : G.H t k = some (a.block, E, C)) : Rep Γ B0 G (fun c => if c = t then none else m c) (w.freeze a n) := by
 obtain ⟨_, B, E', C', q1, q2, q3, q4, ⟨cs0, fz0, q5⟩, _⟩ := h.tip t T k ht
 rw [hH] at q1
 simp only [Option.some.injEq, Prod.mk.injEq] at q1
 obtain ⟨rfl, rfl, rfl⟩ := q1
 have sub : ∀ b x, (if b = t then none else m b) = some x → b ≠ t ∧ m b = some x := by
  intro b x hb
  by_cases e : b = t
  ·simp [e] at hb
  ·exact ⟨e, by simpa [e] using hb⟩
 exact {
  K := fun b o u hu => by rw [cell_freeze]; exact h.K b o u hu
  base := by rw [size_freeze]; exact h.base
  hist := fun t' v x hx => by rw [size_freeze]; exact ⟨(h.hist t' v x hx).1, fun T' v' hv => (h.hist t' v x hx).2 T' v' (sub _ _ hv).2⟩
  var := fun b T' cs hb => by
   obtain ⟨h1, ⟨us, h2, h3⟩, h4⟩ := h.var b T' cs (sub _ _ hb).2
   have hne : b ≠ a.block := by rintro rfl; exact q4 _ _ (sub _ _ hb).2
   exact ⟨h1, ⟨us, by rw [heap_freeze_ne hne]; exact h2, h3⟩, h4⟩
  tip := fun t' T' v ht' => by
   rw [size_freeze]
   obtain ⟨hne, ht''⟩ := sub _ _ ht'
   obtain ⟨p1, B', E', C', p2, p3, p4, p5, ⟨y1, y2, y3⟩, p6⟩ := h.tip t' T' v ht''
   have hB : B' ≠ a.block := by
    rintro rfl
    exact h.apart t' T' v t T k a.block E' C' E C ht'' ht hne p2 hH
   refine ⟨p1, B', E', C', p2, p3, p4, fun T2 cs hc => p5 T2 cs (sub _ _ hc).2, ⟨y1, y2, by rw [heap_freeze_ne hB]; exact y3⟩, fun o h1 h2 => ?_⟩
   obtain ⟨f1, f2, f3⟩ := p6 o h1 h2
   exact ⟨by rw [cell_freeze]; exact f1, by rw [World.frozen?_of_block (w := w) (heap_freeze_ne hB)]; exact f2, f3⟩
  apart := fun t1 T1 v1 t2 T2 v2 B E C E' C' k1 k2 => h.apart t1 T1 v1 t2 T2 v2 B E C E' C' (sub _ _ k1).2 (sub _ _ k2).2
  glob := h.glob
  gsz := fun g cs hg h20 => by
   obtain ⟨a1, us', T', fz, b', c'⟩ := h.gsz g cs hg h20
   exact ⟨a1, us', T', fz, by rw [heap_freeze_ne (by omega)]; exact b', c'⟩
  loop := fun b r f t' ps x y D hb => by
   obtain ⟨h1, us, h2, h3⟩ := h.loop b r f t' ps x y D (sub _ _ hb).2
   have hne : b ≠ a.block := by rintro rfl; rw [q5.1] at h2; cases h2
   exact ⟨h1, us, by rw [heap_freeze_ne hne]; exact h2, h3⟩
  defer := fun b hb => by
   obtain ⟨h1, h2⟩ := h.defer b (sub _ _ hb).2
   have hne : b ≠ a.block := by rintro rfl; rw [q5.1] at h2; cases h2
   exact ⟨h1, by rw [heap_freeze_ne hne]; exact h2⟩ }
theorem by8s_inv : ∀ {l : List UInt8} {us : List Value}, RelL G (l.map by8) us → us = l.map fun b => Value.int .u8 b.toNat
 | [], us, h => h.nil_inv
 | b :: l, us, h => by
  obtain ⟨y, ys, rfl, r1, r2⟩ := h.cons_inv
  cases r1
  rw [by8s_inv r2]
  rfl
end
end Go.Av
namespace Go.Av.Fn
set_option linter.unusedSimpArgs false
set_option linter.unusedVariables false
set_option maxRecDepth 10000
open Go.Proofs Go.RowKit
theorem idxB_eq (s : List UInt8) (c : UInt8) : Lib.indexByte s c = idxB s c := by
 unfold idxB
 induction s with
 | nil => rfl
 | cons b s ih =>
  rw [List.findIdx?_cons, Lib.indexByte]
  by_cases h : (b == c) = true
  ·simp [h]
  ·simp only [h, Bool.false_eq_true, if_false]
   rw [ih]
   cases List.findIdx? (· == c) s with
   | none => rfl
   | some i =>
    simp only [Option.map_some]
    have : ¬ ((i : Int) == -1) = true := by
     intro k
     have := eq_of_beq k
     omega
    rw [if_neg this]
    rfl
theorem parse_ge : ∀ (l : List UInt8) (acc u : Nat), Lib.parseUintM (2 ^ 64 - 1) acc l = .ok u → acc ≤ u
 | [], acc, u, h => by
  simp only [Lib.parseUintM, Lib.NumEnd.ok.injEq] at h
  omega
 | c :: r, acc, u, h => by
  simp only [Lib.parseUintM] at h
  split at h
  ·split at h
   ·cases h
   ·split at h
    ·cases h
    ·have := parse_ge r _ u h
     omega
  ·cases h
theorem parse_no : ∀ (l : List UInt8) (acc : Nat), (∀ c ∈ l, dig c = true) → (∃ u, Lib.parseUintM (2 ^ 64 - 1) acc l = .ok u) ∨ Lib.parseUintM (2 ^ 64 - 1) acc l = .range
 | [], acc, _ => .inl ⟨acc, rfl⟩
 | c :: r, acc, hd => by
  have hc := hd c (List.mem_cons_self ..)
  simp only [dig, Bool.and_eq_true, decide_eq_true_eq] at hc
  have hc' : 48 ≤ c.toNat ∧ c.toNat ≤ 57 := hc
  simp only [Lib.parseUintM, if_pos hc']
  split
  ·exact .inr rfl
  ·split
   ·exact .inr rfl
   ·exact parse_no r _ (fun c hc => hd c (List.mem_cons_of_mem _ hc))
theorem parse_num : ∀ (l : List UInt8) (acc : Nat), (∀ c ∈ l, dig c = true) → acc < 9223372036854775808 →
  (∃ u, Lib.parseUintM (2 ^ 64 - 1) acc l = .ok u ∧ numL acc l = if u < 9223372036854775808 then some u else none) ∨ (Lib.parseUintM (2 ^ 64 - 1) acc l = .range ∧ numL acc l = none)
 | [], acc, _, ha => .inl ⟨acc, rfl, by simp only [numL]; rw [if_pos ha]⟩
 | c :: r, acc, hd, ha => by
  have hc := hd c (List.mem_cons_self ..)
  simp only [dig, Bool.and_eq_true, decide_eq_true_eq] at hc
  have hc' : 48 ≤ c.toNat ∧ c.toNat ≤ 57 := hc
  simp only [Lib.parseUintM, numL, if_pos hc']
  have key : (acc > (9223372036854775807 - (c.toNat - 48)) / 10) ↔ 9223372036854775807 < 10 * acc + (c.toNat - 48) := by omega
  have e10 : acc * 10 + (c.toNat - 48) = 10 * acc + (c.toNat - 48) := by omega
  rw [e10]
  by_cases h1 : 1844674407370955162 ≤ acc
  ·rw [if_pos h1, if_pos (key.2 (by omega))]
   exact .inr ⟨rfl, rfl⟩
  ·rw [if_neg h1]
   by_cases h2 : 2 ^ 64 - 1 < 10 * acc + (c.toNat - 48)
   ·rw [if_pos h2, if_pos (key.2 (by omega))]
    exact .inr ⟨rfl, rfl⟩
   ·rw [if_neg h2]
    by_cases h3 : 9223372036854775807 < 10 * acc + (c.toNat - 48)
    ·rw [if_pos (key.2 h3)]
     rcases parse_no r (10 * acc + (c.toNat - 48)) (fun c hc => hd c (List.mem_cons_of_mem _ hc)) with ⟨u, hp⟩ | hp
     ·have := parse_ge r _ u hp
      exact .inl ⟨u, hp, by rw [if_neg (by omega)]⟩
     ·exact .inr ⟨hp, rfl⟩
    ·rw [if_neg (fun k => h3 (key.1 k))]
     exact parse_num r _ (fun c hc => hd c (List.mem_cons_of_mem _ hc)) (by omega)
theorem parseB {s : List UInt8} (hne : s ≠ []) (hd : ∀ c ∈ s, dig c = true) : match numL 0 s with
  | some n => Lib.parseIntB 64 s = .ok (n : Int)
  | none => Lib.parseIntB 64 s = .range := by
 obtain ⟨c, r, rfl⟩ : ∃ c r, s = c :: r := by
  cases s with
  | nil => exact absurd rfl hne
  | cons c r => exact ⟨c, r, rfl⟩
 have hc := hd c (List.mem_cons_self ..)
 simp only [dig, Bool.and_eq_true, decide_eq_true_eq] at hc
 have h1 : ¬ (c.toNat = 43 ∨ c.toNat = 45) := by omega
 have h2 : ¬ c.toNat = 45 := by omega
 have hU : Lib.parseUintB 64 (c :: r) = Lib.parseUintM (2 ^ 64 - 1) 0 (c :: r) := by
  unfold Lib.parseUintB
  rw [if_neg (List.cons_ne_nil c r)]
 have hok : ∀ u, Lib.parseUintM (2 ^ 64 - 1) 0 (c :: r) = .ok u → Lib.parseIntB 64 (c :: r) = if 9223372036854775808 ≤ u then .range else .ok (u : Int) := by
  intro u hu
  unfold Lib.parseIntB
  simp only
  rw [if_neg h1, hU, hu]
  simp [h2]
 have hra : Lib.parseUintM (2 ^ 64 - 1) 0 (c :: r) = .range → Lib.parseIntB 64 (c :: r) = .range := by
  intro hu
  unfold Lib.parseIntB
  simp only
  rw [if_neg h1, hU, hu]
 rcases parse_num (c :: r) 0 hd (by omega) with ⟨u, e1, e2⟩ | ⟨e1, e2⟩
 ·rw [e2]
  by_cases hu : u < 9223372036854775808
  ·rw [if_pos hu]
   simp only
   rw [hok u e1, if_neg (by omega)]
  ·rw [if_neg hu]
   simp only
   rw [hok u e1, if_pos (by omega)]
 ·rw [e2]
  exact hra e1
theorem clone41 {Γ : Glob} (m : Store) (s : List UInt8) (hs : s.length ≤ 281474976710656) : ACalls Tryz.prog Γ 131 [bs s] m fun o m' => o = .ret (bs s) ∧ m' = m :=
 ACalls.of_vals (xs := [.string ⟨s.toArray⟩]) (u := .string ⟨s.toArray⟩) (by kernel_rfl) rfl (fun w => Tryz.stringslite_Clone ⟨s.toArray⟩ w (by simpa [ByteArray.size] using hs))
theorem index38 {Γ : Glob} (m : Store) (s : List UInt8) (c : UInt8) : ACalls Tryz.prog Γ 242 [bs s, by8 c] m fun o m' => o = .ret (it (idxB s c)) ∧ m' = m :=
 ACalls.of_vals (xs := [.string ⟨s.toArray⟩, .int .u8 c.toNat]) (u := .int .i64 (idxB s c)) (by kernel_rfl) rfl (fun w => (Tryz.strings_IndexByte ⟨s.toArray⟩ c.toNat w).mono (by
  rintro e w' ⟨rfl, rfl⟩
  refine ⟨?_, Below.refl _ _⟩
  have e1 : (c.toNat : Int).toNat.toUInt8 = c := by simp
  rw [e1, ← idxB_eq]))
theorem parse28 {Γ : Glob} {T : TypeId} {v : V} (hΓ : Γ 5 = some [.ifc T v]) : ParseOk Γ := by
 intro m s hne hs hd
 have hp := parseB hne hd
 refine ⟨by kernel_rfl, fun G B0 mF w cargs hD hR hL => ?_⟩
 obtain ⟨c1, r1, rfl, h1, hL⟩ := hL.cons_inv
 obtain ⟨c2, r2, rfl, h2, hL⟩ := hL.cons_inv
 obtain ⟨c3, r3, rfl, h3, hL⟩ := hL.cons_inv
 obtain rfl := hL.nil_inv
 cases h1
 cases h2
 cases h3
 have hsz : (⟨s.toArray⟩ : ByteArray).data.toList = s := by simp
 have hsz2 : (⟨s.toArray⟩ : ByteArray).size = s.length := by simp [ByteArray.size]
 cases hn : numL 0 s with
 | some n =>
  rw [hn] at hp
  refine (Tryz.strconv_ParseInt_10_at64_ok ⟨s.toArray⟩ (by omega) n (by rw [hsz]; exact hp) w).mono ?_
  rintro e w' ⟨rfl, hw⟩
  have hB : Below w.heap.size w w' := by
   rcases hw with rfl | ⟨t, rfl⟩
   ·exact Below.refl _ _
   ·exact Lib.bytesWorld_below w 5 t
  exact ⟨G, m, .ret (.tup [it n, .val .nilIface]), Gh.le.refl G, hD, hR.below hB, hB.mono hR.base, .ret (.tup (.cons (.val rfl) (.cons (.val rfl) .nil))), rfl, rfl⟩
 | none =>
  rw [hn] at hp
  obtain ⟨us, g1, g2⟩ := hR.glob 5 _ hΓ
  obtain ⟨u, ys, rfl, g3, g4⟩ := g1.cons_inv
  obtain rfl := g4.nil_inv
  have hcell := hR.K 5 0 u (g2.2 0 u rfl)
  cases g3 with
  | ifc g3 =>
   refine (Tryz.strconv_ParseInt_10_at64_range ⟨s.toArray⟩ (by omega) (by rw [hsz]; exact hp) _ w hcell (.inr ⟨_, _, rfl⟩)).mono ?_
   rintro e w' ⟨N, rfl, _, _, hB⟩
   exact ⟨G, m, .ret (.tup [it (Lib.intSat 64 (ByteArray.mk s.toArray).data.toList), .ifc 210 (.ptr N 0)]), Gh.le.refl G, hD, hR.below hB, hB.mono hR.base, .ret (.tup (.cons (.val rfl) (.cons (.ifc (.ptr _ _)) .nil))), ⟨_, _, _, rfl⟩, rfl⟩
theorem copy48 {Γ : Glob} (m : Store) (b : Nat) (p u : V) (h : m b = some (.var 328 [p, u])) (hp : markOk b p) : ACalls Tryz.prog Γ 251 [.ptr b 0] m fun o m' => o = .ret (.tup []) ∧ m' = m.set b (.var 328 [.ptr b 0, u]) := by
 refine ⟨by kernel_rfl, fun G B0 mF w cargs hD hR hL => ?_⟩
 obtain ⟨c1, r1, rfl, h1, hL⟩ := hL.cons_inv
 obtain rfl := hL.nil_inv
 cases h1
 have hb := or_left (f := mF) h
 obtain ⟨hB0, ⟨us, hw, hu⟩, hK⟩ := hR.var b 328 _ hb
 obtain ⟨x, us1, rfl, r1, hu⟩ := hu.cons_inv
 obtain ⟨y, us2, rfl, r2, hu⟩ := hu.cons_inv
 obtain rfl := hu.nil_inv
 rcases hp with rfl | rfl
 ·cases r1
  refine (Any.Builder_copyCheck_fresh Tryz.lays240 Tryz.Builder_X72_240 b w (by simp [World.cell?, hw]) (by simp [World.shape?, hw]; rfl) (by simp [World.frozen?, hw])).mono ?_
  rintro e w' ⟨rfl, rfl⟩
  have hst := hR.store hb (o := 0) (RelV.ptr (G := G) b 0)
  rw [← or_set] at hst
  exact ⟨G, _, .ret (.tup []), Gh.le.refl G, hD.set _ (hD.of_some h), hst, (Below.refl B0 w).setCell (p := ⟨b, 0, none⟩) hB0 _, .ret (.tup .nil), rfl, rfl⟩
 ·cases r1
  refine (Any.Builder_copyCheck_used Tryz.lays240 Tryz.Builder_X72_240 b w (by simp [World.cell?, hw])).mono ?_
  rintro e w' ⟨rfl, rfl⟩
  exact ⟨G, m, .ret (.tup []), Gh.le.refl G, hD, hR, Below.refl _ _, .ret (.tup .nil), rfl, (Store.set_eq m h).symm⟩
theorem string37 {Γ : Glob} (m : Store) (b : Nat) (p u : V) (l : List UInt8) (h : m b = some (.var 328 [p, u])) (hl : l.length ≤ 4096) (hu : (l = [] ∧ u = .sl [] [] .full) ∨ (l ≠ [] ∧ ∃ t k, m t = some (.tip 5 k) ∧ u = .sl (l.map by8) [] (.tip t k))) :
  ACalls Tryz.prog Γ 241 [.ptr b 0] m fun o m' => o = .ret (bs l) ∧ ∀ c x, m c = some x → (∀ l2 k, u ≠ .sl l2 [] (.tip c k)) → m' c = some x := by
 refine ⟨by kernel_rfl, fun G B0 mF w cargs hD hR hL => ?_⟩
 obtain ⟨c1, r1, rfl, h1, hL⟩ := hL.cons_inv
 obtain rfl := hL.nil_inv
 cases h1
 have hb := or_left (f := mF) h
 obtain ⟨hB0, ⟨us, hw, hus⟩, hK⟩ := hR.var b 328 _ hb
 obtain ⟨x, us1, rfl, r1, hus⟩ := hus.cons_inv
 obtain ⟨y, us2, rfl, r2, hus⟩ := hus.cons_inv
 obtain rfl := hus.nil_inv
 rcases hu with ⟨rfl, rfl⟩ | ⟨hne, t, k, ht, rfl⟩
 ·have hy : y = .slice none 0 0 := by
   cases r2 with
   | nil _ => rfl
   | sl q1 q2 q3 q4 q5 q6 => exact absurd rfl q6.2
  subst hy
  refine (Any.Builder_String_nil Tryz.lays169 Tryz.Builder_Extra_169 w.heap.size b x w hw).mono ?_
  rintro e w' ⟨rfl, hB⟩
  exact ⟨G, m, .ret (bs []), Gh.le.refl G, hD, hR.below hB, hB.mono hR.base, .ret (.val rfl), rfl, fun c x hc _ => hc⟩
 ·have hy : ∃ (a : Addr) (cap : Nat), y = .slice (some a) l.length cap ∧ l.length ≤ cap ∧ G.has a (l.map fun b => Value.int .u8 b.toNat) ∧ G.H t k = some (a.block, a.off + l.length, a.off + cap) := by
   obtain ⟨c, r, rfl⟩ : ∃ c r, l = c :: r := by
    cases l with
    | nil => exact absurd rfl hne
    | cons c r => exact ⟨c, r, rfl⟩
   cases r2 with
   | @sl _ _ _ us a cap sz q1 q2 q3 q4 q5 q6 =>
    have hsz : sz = 1 := (q1 (by8 c) (by simp)).symm
    subst hsz
    have hfl : flat ((c :: r).map by8 ++ []) = (c :: r).map by8 := by
     have : ∀ l : List UInt8, flat (l.map by8) = l.map by8 := by
      intro l
      induction l with
      | nil => rfl
      | cons b l ih => rw [List.map_cons, flat_cons, ih]; rfl
     rw [List.append_nil, this]
    rw [hfl] at q2
    have hus := by8s_inv q2
    subst hus
    have q6' : G.H t k = some (a.block, a.off + ((c :: r).map by8).length * 1, a.off + cap * 1) := q6
    rw [List.length_map, Nat.mul_one, Nat.mul_one] at q6'
    exact ⟨a, cap, by rw [List.length_map], by simpa using q4, q3, q6'⟩
  obtain ⟨a, cap, rfl, hcap, hhas, hH⟩ := hy
  have htm := or_left (f := mF) ht
  obtain ⟨_, B, E, C, p1, p2, p3, p4, ⟨cs, fz, p5⟩, p6⟩ := hR.tip t 5 k htm
  rw [hH] at p1
  simp only [Option.some.injEq, Prod.mk.injEq] at p1
  obtain ⟨rfl, rfl, rfl⟩ := p1
  have hcell : ∀ j x, l[j]? = some x → w.cell? (a.add j) = some (.int .u8 x.toNat) := by
   intro j x hx
   have hk := hhas.2 j (.int .u8 x.toNat) (by simp [hx])
   have := hR.K _ _ _ hk
   rw [add_plain hhas.1]
   exact this
  have hsz : a.off + l.length ≤ cs.size := by
   have hl0 : 0 < l.length := by cases l with | nil => exact absurd rfl hne | cons _ _ => simp
   have := hcell (l.length - 1) l[l.length - 1] (by simp [hl0])
   rw [add_plain hhas.1] at this
   simp only [World.cell?, p5] at this
   have h2 := (Array.getElem?_eq_some_iff.1 this).1
   omega
  refine (builderString_at Tryz.lays169 Tryz.Builder_Extra_169 b x a cap cs.size l w hw hne hcap (by omega) (by simp [World.shape?, p5]; rfl) hsz hcell).mono ?_
  rintro e w' ⟨rfl, rfl⟩
  have hfz := hR.drew.freeze htm (a := a) (n := l.length) hH
  have hor : (fun c => if c = t then none else (m.or mF) c) = Store.or (fun c => if c = t then none else m c) mF := by
   funext c
   by_cases e : c = t
   ·subst e
    have := hD.of_some ht
    simp [Store.or, this]
   ·simp [Store.or, e]
  rw [hor] at hfz
  refine ⟨G, _, .ret (bs l), Gh.le.refl G, fun c => ?_, hfz, Lib.below_freeze (Below.drew (Below.refl B0 w)) p2 _, .ret (.val rfl), rfl, fun c x hc hk => ?_⟩
  ·rcases hD c with h | h
   ·left
    by_cases e : c = t
    ·simp [e]
    ·simp [e, h]
   ·exact .inr h
  ·have : c ≠ t := by rintro rfl; exact hk _ _ rfl
   simp [this, hc]
theorem libOk {Γ : Glob} : LibOk Γ where
 clone := clone41
 copyCheck := copy48
 string := string37
 indexByte := fun m s c _ => index38 m s c
end Go.Av.Fn
/- Numerals read, written small ones; texts cut at a blank. Condition: what two variables hold. -/
namespace Go.Av.Fn
set_option linter.unusedSimpArgs false
set_option linter.unusedVariables false
set_option maxRecDepth 10000
open Go.Proofs Go.RowKit
def ParseOut (s : List UInt8) (o : Out) : Prop := match Lib.parseIntB 64 s with
 | .ok n => o = .ret (.tup [it n, .val .nilIface])
 | _ => ∃ (n : Int) (T : TypeId) (u : V), o = .ret (.tup [it n, .ifc T u])
theorem parse_any {Γ : Glob} {T T' : TypeId} {v v' : V} (hr : Γ 5 = some [.ifc T v]) (hsy : Γ 4 = some [.ifc T' v']) (m : Store) (s : List UInt8) (hs : s.length ≤ 281474976710656) :
  ACalls Tryz.prog Γ 125 [bs s, it 10, it 64] m fun o m' => ParseOut s o ∧ m' = m := by
 refine ⟨by kernel_rfl, fun G B0 mF w cargs hD hR hL => ?_⟩
 obtain ⟨c1, r1, rfl, h1, hL⟩ := hL.cons_inv
 obtain ⟨c2, r2, rfl, h2, hL⟩ := hL.cons_inv
 obtain ⟨c3, r3, rfl, h3, hL⟩ := hL.cons_inv
 obtain rfl := hL.nil_inv
 cases h1
 cases h2
 cases h3
 have hsz : (⟨s.toArray⟩ : ByteArray).data.toList = s := by simp
 have hsz2 : (⟨s.toArray⟩ : ByteArray).size = s.length := by simp [ByteArray.size]
 unfold ParseOut
 cases hp : Lib.parseIntB 64 s with
 | ok n =>
  refine (Tryz.strconv_ParseInt_10_at64_ok ⟨s.toArray⟩ (by omega) n (by rw [hsz]; exact hp) w).mono ?_
  rintro e w' ⟨rfl, hw⟩
  have hB : Below w.heap.size w w' := by
   rcases hw with rfl | ⟨t, rfl⟩
   ·exact Below.refl _ _
   ·exact Lib.bytesWorld_below w 5 t
  exact ⟨G, m, .ret (.tup [it n, .val .nilIface]), Gh.le.refl G, hD, hR.below hB, hB.mono hR.base, .ret (.tup (.cons (.val rfl) (.cons (.val rfl) .nil))), rfl, rfl⟩
 | range =>
  obtain ⟨us, g1, g2⟩ := hR.glob 5 _ hr
  obtain ⟨u, ys, rfl, g3, g4⟩ := g1.cons_inv
  obtain rfl := g4.nil_inv
  have hcell := hR.K 5 0 u (g2.2 0 u rfl)
  cases g3 with
  | ifc g3 =>
   refine (Tryz.strconv_ParseInt_10_at64_range ⟨s.toArray⟩ (by omega) (by rw [hsz]; exact hp) _ w hcell (.inr ⟨_, _, rfl⟩)).mono ?_
   rintro e w' ⟨N, rfl, _, _, hB⟩
   exact ⟨G, m, .ret (.tup [it (Lib.intSat 64 (ByteArray.mk s.toArray).data.toList), .ifc 210 (.ptr N 0)]), Gh.le.refl G, hD, hR.below hB, hB.mono hR.base, .ret (.tup (.cons (.val rfl) (.cons (.ifc (.ptr _ _)) .nil))), ⟨_, _, _, rfl⟩, rfl⟩
 | _ =>
  obtain ⟨us, g1, g2⟩ := hR.glob 4 _ hsy
  obtain ⟨u, ys, rfl, g3, g4⟩ := g1.cons_inv
  obtain rfl := g4.nil_inv
  have hcell := hR.K 4 0 u (g2.2 0 u rfl)
  cases g3 with
  | ifc g3 =>
   refine (Tryz.strconv_ParseInt_10_at64_syntax ⟨s.toArray⟩ (by omega) (by rw [hsz]; exact hp) _ w hcell (.inr ⟨_, _, rfl⟩)).mono ?_
   rintro e w' ⟨N, rfl, _, _, hB⟩
   exact ⟨G, m, .ret (.tup [it 0, .ifc 210 (.ptr N 0)]), Gh.le.refl G, hD, hR.below hB, hB.mono hR.base, .ret (.tup (.cons (.val rfl) (.cons (.ifc (.ptr _ _)) .nil))), ⟨_, _, _, rfl⟩, rfl⟩
def FmtAt (Γ : Glob) (n : Int) : Prop := ∀ m, ACalls Tryz.prog Γ 129 [it n, it 10] m fun o m' => o = .ret (bs (Lib.itoa n)) ∧ m' = m
theorem itoa_nat (i : Nat) : Lib.itoa (i : Int) = Lib.decDigits i := by
 unfold Lib.itoa
 rw [if_neg (by omega), Int.toNat_natCast]
theorem fmt_small {Γ : Glob} (i : Nat) (hi : i < 100) : FmtAt Γ (i : Int) := fun m => by
 rw [itoa_nat]
 exact ACalls.of_vals (xs := [.int .i64 i, .int .i64 10]) (u := .string ⟨(Lib.decDigits i).toArray⟩) (by kernel_rfl) rfl (fun w => (Tryz.internal_strconv_FormatInt_10_small i hi w).mono (by
  rintro e w' ⟨rfl, rfl⟩
  exact ⟨rfl, Below.refl _ _⟩))
def powV : List V := Lib.pow10Tab.map fun z => .val (.int .u64 z)
theorem powV_inv {G : Gh} : ∀ {l : List Int} {us : List Value}, RelL G (l.map fun z => .val (.int .u64 z)) us → us = l.map fun z => Value.int .u64 z
 | [], us, h => h.nil_inv
 | z :: l, us, h => by
  obtain ⟨y, ys, rfl, r1, r2⟩ := h.cons_inv
  cases r1
  rw [powV_inv r2]
  rfl
theorem fmt_all {Γ : Glob} (hΓ : Γ 1 = some powV) {n : Int} (h0 : -9223372036854775808 ≤ n) (h1 : n ≤ 9223372036854775807) : FmtAt Γ n := by
 intro m
 refine ⟨by kernel_rfl, fun G B0 mF w cargs hD hR hL => ?_⟩
 have hc : cargs = [.int .i64 n, .int .i64 10] := RelL.vals_inv (xs := [.int .i64 n, .int .i64 10]) hL
 subst hc
 have h20 : powV.length = 20 := by simp [powV, Lib.pow10Tab]
 obtain ⟨_, us, T, fz, hb, hsz⟩ := hR.gsz _ _ hΓ h20
 obtain ⟨vs, g1, g2⟩ := hR.glob _ _ hΓ
 have hvs := powV_inv g1
 subst hvs
 have hus : us = (Lib.pow10Tab.map fun z => Value.int .u64 z).toArray := by
  apply Array.ext'
  apply List.ext_getElem?
  intro i
  by_cases hi : i < 20
  ·have hlen : i < (Lib.pow10Tab.map fun z => Value.int IntKind.u64 z).length := by simp [Lib.pow10Tab]; omega
   have := g2.2 i _ (List.getElem?_eq_getElem hlen)
   have hc := hR.K _ _ _ this
   simp only [World.cell?, Nat.zero_add, hb, Option.isSome_none, Bool.false_eq_true, if_false] at hc
   rw [Array.getElem?_toList, hc, List.getElem?_eq_getElem hlen]
  ·rw [List.getElem?_eq_none (by rw [Array.length_toList, hsz]; omega), List.getElem?_eq_none (by simp [Lib.pow10Tab]; omega)]
 have htab : Lib.TabIs Tryz.prog w "internal/strconv.uint64pow10" .u64 Lib.pow10Tab := by
  unfold Lib.TabIs World.var?
  rw [show Tryz.prog.globalNamed "internal/strconv.uint64pow10" = some 1 by kernel_rfl]
  simp only [Option.bind_some, hb, hus]
 refine (Tryz.internal_strconv_FormatInt_10 n h0 h1 w htab).mono ?_
 rintro e w' ⟨rfl, k, os, rfl⟩
 have hB : Below w.heap.size w (Sort.grow (w.drewN k) os) := Lib.below_grow _ _ (Nat.le_refl _) _ _
 exact ⟨G, m, .ret (bs (Lib.itoa n)), Gh.le.refl G, hD, hR.below hB, hB.mono hR.base, .ret (.val rfl), rfl, rfl⟩
theorem fmt_pub {Γ : Glob} {m : Store} {n : Int} (h : FmtAt Γ n) : ACalls Tryz.prog Γ 126 [it n, it 10] m fun o m' => o = .ret (bs (Lib.itoa n)) ∧ m' = m := by
 refine acalls_of_awp mixed F126_ok (by rintro v m b x _ ⟨⟨⟩, _⟩) ?_
 simp only [F126, q, qn, qg, qh, ss0, Nat.reduceSub, Nat.reduceAdd]
 simp only [ssS, Nat.reduceAdd, Nat.reduceLeDiff, reduceIte, Nat.reduceEqDiff]
 refine callS_pure (h _) ?_
 simp only [ssS, Nat.reduceAdd, Nat.reduceLeDiff, reduceIte, Nat.reduceEqDiff]
 exact bodyA_ret resV_one ⟨rfl, rfl⟩
theorem itoa_ok {Γ : Glob} {m : Store} {n : Int} (h : FmtAt Γ n) : ACalls Tryz.prog Γ 62 [it n] m fun o m' => o = .ret (bs (Lib.itoa n)) ∧ m' = m := by
 refine acalls_of_awp mixed F62_ok (by rintro v m b x _ ⟨⟨⟩, _⟩) ?_
 simp only [F62, q, qn, qg, qh, ss0, Nat.reduceSub, Nat.reduceAdd]
 simp only [ssS, Nat.reduceAdd, Nat.reduceLeDiff, reduceIte, Nat.reduceEqDiff]
 refine callS_pure (v := bs (Lib.itoa n)) ?_ ?_
 ·refine acalls_of_awp mixed F104_ok (by rintro v m b x _ ⟨⟨⟩, _⟩) ?_
  simp only [F104, q, qn, qg, qh, ss0, Nat.reduceSub, Nat.reduceAdd]
  simp only [ssS, Nat.reduceAdd, Nat.reduceLeDiff, reduceIte, Nat.reduceEqDiff]
  refine callS_pure (h _) ?_
  simp only [ssS, Nat.reduceAdd, Nat.reduceLeDiff, reduceIte, Nat.reduceEqDiff]
  exact bodyA_ret resV_one ⟨rfl, rfl⟩
 ·simp only [ssS, Nat.reduceAdd, Nat.reduceLeDiff, reduceIte, Nat.reduceEqDiff]
  exact bodyA_ret resV_one ⟨rfl, rfl⟩
/-! ### Cut at a blank -/
def cutB (s : List UInt8) : List UInt8 × List UInt8 × Bool := match s.findIdx? (· == 32) with
 | some i => (s.take i, s.drop (i + 1), true)
 | none => (s, [], false)
section
variable {Γ : Glob} {m : Store}
theorem lIndexByte_ok (s : List UInt8) (c : UInt8) : ACalls Tryz.prog Γ 137 [bs s, by8 c] m fun o m' => o = .ret (it (idxB s c)) ∧ m' = m :=
 ACalls.of_vals (xs := [.string ⟨s.toArray⟩, .int .u8 c.toNat]) (u := .int .i64 (idxB s c)) (by kernel_rfl) rfl (fun w => (Tryz.stringslite_IndexByte ⟨s.toArray⟩ c.toNat w).mono (by
  rintro e w' ⟨rfl, rfl⟩
  refine ⟨?_, Below.refl _ _⟩
  have e1 : (c.toNat : Int).toNat.toUInt8 = c := by simp
  rw [e1, ← idxB_eq]))
theorem c1 : ((1 : Nat) : Int) = 1 := rfl
theorem c3 : ((3 : Nat) : Int) = 3 := rfl
theorem at32 : idxStrV (bs [32]) (.val (.int .i64 0)) = some (by8 32) := rfl
theorem lIndex_ok (s : List UInt8) : ACalls Tryz.prog Γ 124 [bs s, bs [32]] m fun o m' => o = .ret (it (idxB s 32)) ∧ m' = m := by
 refine acalls_of_awp mixed F124_ok (by rintro v m b x _ ⟨⟨⟩, _⟩) ?_
 simp only [F124, q, qn, qg, qh, ss0, Nat.reduceSub, Nat.reduceAdd]
 simp only [c1, show ((1 : Int) == 0) = false from rfl, ssS, Nat.reduceAdd, Nat.reduceLeDiff, reduceIte, Nat.reduceEqDiff]
 cases h : (([32] : List UInt8) == s)
 ·simp only [c1, at32, show ((1 : Int) == 1) = true from rfl, show ((1 : Int) == 0) = false from rfl, h, ssS, Nat.reduceAdd, Nat.reduceLeDiff, reduceIte, Nat.reduceEqDiff]
  refine callS_pure (lIndexByte_ok s 32) ?_
  simp only [ssS, Nat.reduceAdd, Nat.reduceLeDiff, reduceIte, Nat.reduceEqDiff]
  exact bodyA_ret resV_one ⟨rfl, rfl⟩
 ·simp only [c1, show ((1 : Int) == 0) = false from rfl, h, ssS, Nat.reduceAdd, Nat.reduceLeDiff, reduceIte, Nat.reduceEqDiff]
  refine bodyA_ret resV_one ⟨?_, rfl⟩
  rw [← eq_of_beq h]
  rfl
theorem lCut_ok (s : List UInt8) (hs : s.length ≤ 281474976710656) : ACalls Tryz.prog Γ 99 [bs s, bs [32]] m fun o m' => o = .ret (.tup [bs (cutB s).1, bs (cutB s).2.1, .val (.bool (cutB s).2.2)]) ∧ m' = m := by
 refine acalls_of_awp mixed F99_ok (by rintro v m b x _ ⟨⟨⟩, _⟩) ?_
 simp only [F99, q, qn, qg, qh, ss0, Nat.reduceSub, Nat.reduceAdd]
 simp only [ssS, Nat.reduceAdd, Nat.reduceLeDiff, reduceIte, Nat.reduceEqDiff]
 refine callS_pure (lIndex_ok s) ?_
 unfold idxB cutB
 cases h : s.findIdx? (· == 32) with
 | none =>
  simp only [show decide ((-1 : Int) ≥ 0) = false from rfl, ssS, Nat.reduceAdd, Nat.reduceLeDiff, reduceIte, Nat.reduceEqDiff]
  exact bodyA_ret resV_three ⟨rfl, rfl⟩
 | some i =>
  have hi : i < s.length := by
   obtain ⟨hi, _⟩ := List.findIdx?_eq_some_iff_getElem.1 h
   exact hi
  have hd : decide ((i : Int) ≥ 0) = true := decide_eq_true (by omega)
  simp only [hd, c1, next_i64 (show i < 4611686018427387904 by omega), slice_upto (show i ≤ s.length by omega), slice_from (show i + 1 ≤ s.length by omega), ssS, Nat.reduceAdd, Nat.reduceLeDiff, reduceIte, Nat.reduceEqDiff]
  exact bodyA_ret resV_three ⟨rfl, rfl⟩
theorem cut_ok (s : List UInt8) (hs : s.length ≤ 281474976710656) : ACalls Tryz.prog Γ 55 [bs s, bs [32]] m fun o m' => o = .ret (.tup [bs (cutB s).1, bs (cutB s).2.1, .val (.bool (cutB s).2.2)]) ∧ m' = m := by
 refine acalls_of_awp mixed F55_ok (by rintro v m b x _ ⟨⟨⟩, _⟩) ?_
 simp only [F55, q, qn, qg, qh, ss0, Nat.reduceSub, Nat.reduceAdd]
 simp only [ssS, Nat.reduceAdd, Nat.reduceLeDiff, reduceIte, Nat.reduceEqDiff]
 refine callS_pure (lCut_ok s hs) ?_
 simp only [ssS, Nat.reduceAdd, Nat.reduceLeDiff, reduceIte, Nat.reduceEqDiff]
 exact bodyA_ret resV_three ⟨rfl, rfl⟩
def cutIf (s : List UInt8) : List UInt8 × Bool := if [105, 102, 32].isPrefixOf s = true then (s.drop 3, true) else (s, false)
theorem len_if : lenV true (bs [105, 102, 32]) = some (it (3 : Nat)) := rfl
theorem cutIf_ok (s : List UInt8) : ACalls Tryz.prog Γ 102 [bs s, bs [105, 102, 32]] m fun o m' => o = .ret (.tup [bs (cutIf s).1, .val (.bool (cutIf s).2)]) ∧ m' = m := by
 refine acalls_of_awp mixed F102_ok (by rintro v m b x _ ⟨⟨⟩, _⟩) ?_
 simp only [F102, q, qn, qg, qh, ss0, Nat.reduceSub, Nat.reduceAdd]
 simp only [ssS, Nat.reduceAdd, Nat.reduceLeDiff, reduceIte, Nat.reduceEqDiff]
 refine callS_pure (v := .tup [bs (cutIf s).1, .val (.bool (cutIf s).2)]) ?_ ?_
 ·refine acalls_of_awp mixed F127_ok (by rintro v m b x _ ⟨⟨⟩, _⟩) ?_
  simp only [F127, q, qn, qg, qh, ss0, Nat.reduceSub, Nat.reduceAdd]
  simp only [ssS, Nat.reduceAdd, Nat.reduceLeDiff, reduceIte, Nat.reduceEqDiff]
  refine callS_pure (hasPrefix_ok s _) ?_
  unfold cutIf
  cases h : ([105, 102, 32] : List UInt8).isPrefixOf s
  ·simp only [Bool.not_false, ssS, Nat.reduceAdd, Nat.reduceLeDiff, reduceIte, Nat.reduceEqDiff]
   exact bodyA_ret resV_two ⟨rfl, rfl⟩
  ·have := pre_len h
   simp only [Bool.not_true, len_if, slice_from (show 3 ≤ s.length from this), ssS, Nat.reduceAdd, Nat.reduceLeDiff, reduceIte, Nat.reduceEqDiff]
   exact bodyA_ret resV_two ⟨rfl, rfl⟩
 ·simp only [ssS, Nat.reduceAdd, Nat.reduceLeDiff, reduceIte, Nat.reduceEqDiff]
  exact bodyA_ret resV_two ⟨rfl, rfl⟩
end
end Go.Av.Fn
/- A command's text read, and written: what the program tells. Conditions: the library's functions; numbers are written (FmtAt) where they are. -/
namespace Go.Av.Fn
set_option linter.unusedSimpArgs false
set_option linter.unusedVariables false
set_option maxRecDepth 10000
open Go.Proofs
structure Env2 (Γ : Glob) : Prop where
 env : Env Γ
 range : ∃ T v, Γ 5 = some [.ifc T v]
 syn : ∃ T v, Γ 4 = some [.ifc T v]
def numB (s : List UInt8) : Int × List UInt8 × Bool := match Lib.parseIntB 64 (cutB s).1 with
 | .ok n => if (Lib.itoa n == (cutB s).1) = true then (n, (cutB s).2.1, (cutB s).2.2) else (-1, [], false)
 | _ => (-1, [], false)
def FmtNum (Γ : Glob) (s : List UInt8) : Prop := ∀ n, Lib.parseIntB 64 (cutB s).1 = .ok n → FmtAt Γ n
def behB (f : Form) (rest : List UInt8) (no : Bool) : Int × List UInt8 × Bool :=
 if (no || (!f.n && !f.s)) = true then (0, [], no && !f.n && !f.s)
 else if f.n = false then (0, rest, true)
 else if (numB rest).2.2 = false then ((numB rest).1, [], decide ((numB rest).1 ≥ 0))
 else ((numB rest).1, (cutIf (numB rest).2.1).1, (cutIf (numB rest).2.1).2 && f.s && !((cutIf (numB rest).2.1).1 == []))
def tryK (s : List UInt8) (k : Nat) : Option (Int × Int × List UInt8) :=
 if ((formOf k).w == (cutB s).1) = true then
  (if ((behB (formOf k) (cutB s).2.1 (!(cutB s).2.2)).2.2 && rightB k (behB (formOf k) (cutB s).2.1 (!(cutB s).2.2)).1 (behB (formOf k) (cutB s).2.1 (!(cutB s).2.2)).2.1) = true
   then some (k, (behB (formOf k) (cutB s).2.1 (!(cutB s).2.2)).1, (behB (formOf k) (cutB s).2.1 (!(cutB s).2.2)).2.1) else none)
 else none
def tryFrom (s : List UInt8) : Nat → Nat → Option (Int × Int × List UInt8)
 | 0, _ => none
 | n + 1, k => match tryK s k with
  | some x => some x
  | none => tryFrom s n (k + 1)
def parseC (s : List UInt8) : Option (Int × Int × List UInt8) := tryFrom s 17 1
def parseV (s : List UInt8) : V := match parseC s with
 | some (k, n, t) => .tup [cmdV k n t, it 0]
 | none => .tup [cmdV 0 0 [], it 6]
theorem cutB_len (s : List UInt8) : (cutB s).1.length ≤ s.length ∧ (cutB s).2.1.length ≤ s.length := by
 unfold cutB
 split
 ·simp; omega
 ·simp
theorem ifc_nil {T : TypeId} {u : V} {xo yo : Operand} : binV Tryz.prog .neq 163 .iface xo yo (.ifc T u) (.val .nilIface) = some (.val (.bool true)) := rfl
theorem nil_nil : binV Tryz.prog .neq 163 .iface (.tmp 21) (.const .nilIface) (.val .nilIface) (.val .nilIface) = some (.val (.bool false)) := by kernel_rfl
section
variable {Γ : Glob} {m : Store}
theorem number_ok2 (E : Env2 Γ) (s : List UInt8) (hs : s.length ≤ 281474976710656) (hf : FmtNum Γ s) : ACalls Tryz.prog Γ 100 [bs s] m fun o m' => o = .ret (.tup [it (numB s).1, bs (numB s).2.1, .val (.bool (numB s).2.2)]) ∧ m' = m := by
 obtain ⟨T, v, hr⟩ := E.range
 obtain ⟨T', v', hsy⟩ := E.syn
 refine acalls_of_awp mixed F100_ok (by rintro v m b x _ ⟨⟨⟩, _⟩) ?_
 simp only [F100, q, qn, qg, qh, ss0, Nat.reduceSub, Nat.reduceAdd]
 simp only [ssS, Nat.reduceAdd, Nat.reduceLeDiff, reduceIte, Nat.reduceEqDiff]
 refine callS_pure (cut_ok s hs) ?_
 simp only [ssS, Nat.reduceAdd, Nat.reduceLeDiff, reduceIte, Nat.reduceEqDiff]
 refine callS_of (parse_any hr hsy _ (cutB s).1 (by have := cutB_len s; omega)) ?_ (by
  rintro v m' ⟨h, _⟩
  unfold ParseOut at h
  split at h
  ·cases h
  ·obtain ⟨_, _, _, ⟨⟩⟩ := h)
 rintro v m' ⟨h, rfl⟩
 unfold ParseOut at h
 unfold numB
 cases hp : Lib.parseIntB 64 (cutB s).1 with
 | ok n =>
  rw [hp] at h
  cases h
  simp only [nil_nil, ssS, Nat.reduceAdd, Nat.reduceLeDiff, reduceIte, Nat.reduceEqDiff]
  refine callS_pure (fmt_pub (hf n hp)) ?_
  cases he : (Lib.itoa n == (cutB s).1)
  ·simp only [he, Bool.not_false, ssS, Nat.reduceAdd, Nat.reduceLeDiff, reduceIte, Nat.reduceEqDiff]
   exact bodyA_ret resV_three ⟨rfl, rfl⟩
  ·simp only [he, Bool.not_true, ssS, Nat.reduceAdd, Nat.reduceLeDiff, reduceIte, Nat.reduceEqDiff]
   exact bodyA_ret resV_three ⟨rfl, rfl⟩
 | range =>
  rw [hp] at h
  obtain ⟨n, T, u, h⟩ := h
  cases h
  simp only [ifc_nil, ssS, Nat.reduceAdd, Nat.reduceLeDiff, reduceIte, Nat.reduceEqDiff]
  exact bodyA_ret resV_three ⟨rfl, rfl⟩
 | _ =>
  rw [hp] at h
  obtain ⟨n, T, u, h⟩ := h
  cases h
  simp only [ifc_nil, ssS, Nat.reduceAdd, Nat.reduceLeDiff, reduceIte, Nat.reduceEqDiff]
  exact bodyA_ret resV_three ⟨rfl, rfl⟩
theorem behind1_ok (s : List UInt8) : ACalls Tryz.prog Γ 101 [bs s] m fun o m' => o = .ret (.tup [bs (cutIf s).1, .val (.bool (cutIf s).2)]) ∧ m' = m := by
 refine acalls_of_awp mixed F101_ok (by rintro v m b x _ ⟨⟨⟩, _⟩) ?_
 simp only [F101, q, qn, qg, qh, ss0, Nat.reduceSub, Nat.reduceAdd]
 simp only [ssS, Nat.reduceAdd, Nat.reduceLeDiff, reduceIte, Nat.reduceEqDiff]
 refine callS_pure (cutIf_ok s) ?_
 simp only [ssS, Nat.reduceAdd, Nat.reduceLeDiff, reduceIte, Nat.reduceEqDiff]
 exact bodyA_ret resV_two ⟨rfl, rfl⟩
theorem behind_ok (E : Env2 Γ) (f : Form) (s : List UInt8) (no : Bool) (hs : s.length ≤ 281474976710656) (hf : f.n = true → no = false → FmtNum Γ s) :
  ACalls Tryz.prog Γ 57 [formV f, bs s, .val (.bool no)] m fun o m' => o = .ret (.tup [it (behB f s no).1, bs (behB f s no).2.1, .val (.bool (behB f s no).2.2)]) ∧ m' = m := by
 obtain ⟨w, le, fn, fs⟩ := f
 refine ACalls.less (A := fun o m' => o = .ret (.tup [it (behB ⟨w, le, fn, fs⟩ s no).1, bs (behB ⟨w, le, fn, fs⟩ s no).2.1, .val (.bool (behB ⟨w, le, fn, fs⟩ s no).2.2)]) ∧ SubS m m') ?_ fun o m' h => ⟨m, h.2, h.1, rfl⟩
 refine acalls_of_awp mixed F57_ok (by rintro v m b x _ ⟨⟨⟩, _⟩) ?_
 simp only [F57, formV, q, qn, qg, qh, ss0, Nat.reduceSub, Nat.reduceAdd]
 simp only [ssS, Nat.reduceAdd, Nat.reduceLeDiff, reduceIte, Nat.reduceEqDiff]
 refine allocS_of fun b hb => ?_
 have hS : ∀ x, SubS m (m.set b x) := fun x => (SubS.refl m).out hb x
 cases no
 case true =>
  cases fn
  ·cases fs
   ·simp only [Store.set_same, Bool.not_false, Bool.not_true, ssS, Nat.reduceAdd, Nat.reduceLeDiff, reduceIte, Nat.reduceEqDiff]
    exact bodyA_ret resV_three ⟨rfl, hS _⟩
   ·simp only [Store.set_same, Bool.not_false, Bool.not_true, ssS, Nat.reduceAdd, Nat.reduceLeDiff, reduceIte, Nat.reduceEqDiff]
    exact bodyA_ret resV_three ⟨rfl, hS _⟩
  ·simp only [Store.set_same, Bool.not_false, Bool.not_true, ssS, Nat.reduceAdd, Nat.reduceLeDiff, reduceIte, Nat.reduceEqDiff]
   exact bodyA_ret resV_three ⟨rfl, hS _⟩
 case false =>
  cases fn
  case false =>
   cases fs
   ·simp only [Store.set_same, Bool.not_false, Bool.not_true, ssS, Nat.reduceAdd, Nat.reduceLeDiff, reduceIte, Nat.reduceEqDiff]
    exact bodyA_ret resV_three ⟨rfl, hS _⟩
   ·simp only [Store.set_same, Bool.not_false, Bool.not_true, ssS, Nat.reduceAdd, Nat.reduceLeDiff, reduceIte, Nat.reduceEqDiff]
    exact bodyA_ret resV_three ⟨rfl, hS _⟩
  case true =>
   simp only [Store.set_same, Bool.not_false, Bool.not_true, ssS, Nat.reduceAdd, Nat.reduceLeDiff, reduceIte, Nat.reduceEqDiff]
   refine callS_pure (number_ok2 E s hs (hf rfl rfl)) ?_
   have hb1 : behB ⟨w, le, true, fs⟩ s false = if (numB s).2.2 = false then ((numB s).1, [], decide ((numB s).1 ≥ 0)) else ((numB s).1, (cutIf (numB s).2.1).1, (cutIf (numB s).2.1).2 && fs && !((cutIf (numB s).2.1).1 == [])) := by
    unfold behB
    rfl
   rw [hb1]
   cases hm : (numB s).2.2
   ·simp only [hm, Bool.not_false, ssS, Nat.reduceAdd, Nat.reduceLeDiff, reduceIte, Nat.reduceEqDiff]
    exact bodyA_ret resV_three ⟨rfl, hS _⟩
   ·simp only [hm, Bool.not_true, ssS, Nat.reduceAdd, Nat.reduceLeDiff, reduceIte, Nat.reduceEqDiff]
    refine callS_pure (behind1_ok _) ?_
    simp only [Store.set_same, ssS, Nat.reduceAdd, Nat.reduceLeDiff, reduceIte, Nat.reduceEqDiff]
    cases h1 : (cutIf (numB s).2.1).2
    ·simp only [h1, Store.set_same, ssS, Nat.reduceAdd, Nat.reduceLeDiff, reduceIte, Nat.reduceEqDiff]
     refine bodyA_ret resV_three ⟨?_, hS _⟩
     simp only [tget_zero, tget_succ]
     rfl
    ·cases fs
     ·simp only [h1, Store.set_same, ssS, Nat.reduceAdd, Nat.reduceLeDiff, reduceIte, Nat.reduceEqDiff]
      refine bodyA_ret resV_three ⟨?_, hS _⟩
      simp only [tget_zero, tget_succ]
      rfl
     ·simp only [h1, Store.set_same, ssS, Nat.reduceAdd, Nat.reduceLeDiff, reduceIte, Nat.reduceEqDiff]
      refine bodyA_ret resV_three ⟨?_, hS _⟩
      simp only [tget_zero, tget_succ]
      rfl
end
end Go.Av.Fn
/- A command's text read: all of it. Conditions as ahead. -/
namespace Go.Av
theorem resV_cut {x y : Nat} {b o : Nat} {T : TypeId} {sz : Option Nat} {cs : List V} {u : V} {t : List V} {m : Store} (h1 : tget t x = .ptr b o) (h2 : m b = some (.var T cs)) (h3 : partV cs o sz = some u) : resV [.cell x sz, .tmp y] ⟨t, m⟩ = some (.tup [u, tget t y]) := by
 simp only [resV, resAll, resOne, tget_eq, h1, h2, h3, Option.map_some]
end Go.Av
namespace Go.Av.Fn
set_option linter.unusedSimpArgs false
set_option linter.unusedVariables false
set_option maxRecDepth 10000
open Go.Proofs
section
variable {Γ : Glob} {m : Store}
theorem parse_ok (E : Env2 Γ) (s : List UInt8) (hs : s.length ≤ 281474976710656) (hf : (cutB s).2.2 = true → FmtNum Γ (cutB s).2.1) : ACalls Tryz.prog Γ 15 [bs s] m fun o m' => o = .ret (parseV s) ∧ m' = m := by
 refine ACalls.less (A := fun o m' => o = .ret (parseV s) ∧ SubS m m') ?_ fun o m' h => ⟨m, h.2, h.1, rfl⟩
 refine acalls_of_awp mixed F15_ok (by rintro v m b x _ ⟨⟨⟩, _⟩) ?_
 simp only [F15, q, qn, qg, qh, ss0, Nat.reduceSub, Nat.reduceAdd]
 simp only [ssS, Nat.reduceAdd, Nat.reduceLeDiff, reduceIte, Nat.reduceEqDiff]
 refine allocS_of fun b2 hb2 => ?_
 simp only [ssS, Nat.reduceAdd, Nat.reduceLeDiff, reduceIte, Nat.reduceEqDiff]
 refine callS_pure (cut_ok s hs) ?_
 simp only [ssS, Nat.reduceAdd, Nat.reduceLeDiff, reduceIte, Nat.reduceEqDiff]
 obtain ⟨w, rest, more, hc⟩ : ∃ w rest more, cutB s = (w, rest, more) := ⟨_, _, _, rfl⟩
 have hlen := (cutB_len s).2
 rw [hc] at hf hlen
 simp only [hc]
 refine awp_loop' (fun j st => ∃ k : Nat, j = 18 - k ∧ 1 ≤ k ∧ k ≤ 18 ∧ tryFrom s (18 - k) k = parseC s ∧ SubS m st.m ∧ st.m b2 = some (.var 24 [it 0, it 0, bs []]) ∧ st.t.length = 49 ∧ tget st.t 2 = .ptr b2 0 ∧ tget st.t 4 = bs w ∧ tget st.t 5 = bs rest ∧ tget st.t 6 = .val (.bool more) ∧ tget st.t 7 = it k)
  17 ⟨1, rfl, by omega, by omega, rfl, (SubS.refl m).out hb2 _, Store.set_same _ _ _, rfl, rfl, rfl, rfl, rfl, rfl⟩ ?_
 rintro j ⟨t, S⟩ J hJ ⟨k, hj, hk1, hk2, htry, hS, s2, hlen2, t2, t4, t5, t6, t7⟩
 simp only at hS s2 hlen2 t2 t4 t5 t6 t7
 rw [t_eq hlen2]
 simp only [upTo_succ, upTo_zero, Nat.reduceAdd, t2, t4, t5, t6, t7]
 simp only [ssS, Nat.reduceAdd, Nat.reduceLeDiff, reduceIte, Nat.reduceEqDiff]
 refine condS_split (fun h => ?_) (fun h => ?_)
 ·have hk : k ≤ 17 := by have := of_decide_eq_true h; omega
  obtain ⟨r, hr⟩ : ∃ r, 18 - k = r + 1 := ⟨17 - k, by omega⟩
  rw [hr] at htry
  simp only [tryFrom] at htry
  have hnext : tryK s k = none → tryFrom s (18 - (k + 1)) (k + 1) = parseC s := by
   intro h0
   rw [h0] at htry
   rw [← htry]
   congr 1
   omega
  simp only [ssS, Nat.reduceAdd, Nat.reduceLeDiff, reduceIte, Nat.reduceEqDiff]
  refine callS_pure (of_ok (k : Int)) ?_
  obtain ⟨fw, le, fn, fs, hff⟩ : ∃ fw le fn fs, formOf (k : Int) = ⟨fw, le, fn, fs⟩ := ⟨_, _, _, _, rfl⟩
  simp only [hff, formV, ssS, Nat.reduceAdd, Nat.reduceLeDiff, reduceIte, Nat.reduceEqDiff]
  refine allocS_of fun b8 hb8 => ?_
  have h28 : b2 ≠ b8 := ne_of_some s2 hb8
  have hS8 : ∀ x, SubS m (S.set b8 x) := fun x => hS.out (hS.none hb8) x
  simp only [Store.set_same, Store.set_set, ssS, Nat.reduceAdd, Nat.reduceLeDiff, reduceIte, Nat.reduceEqDiff]
  cases hw : (fw == w)
  ·have htk : tryK s k = none := by
    unfold tryK
    rw [hff, hc]
    simp only [hw, Bool.false_eq_true, if_false]
   simp only [hw, Bool.not_false, next_i64 (show k < 4611686018427387904 by omega), ssS, Nat.reduceAdd, Nat.reduceLeDiff, reduceIte, Nat.reduceEqDiff]
   exact hJ (18 - (k + 1)) _ (by omega) ⟨k + 1, rfl, by omega, by omega, hnext htk, hS8 _, by show (Store.set _ _ _) _ = _; rw [Store.set_ne _ _ h28]; exact s2, rfl, rfl, rfl, rfl, rfl, rfl⟩
  ·simp only [hw, Bool.not_true, Store.set_same, ssS, Nat.reduceAdd, Nat.reduceLeDiff, reduceIte, Nat.reduceEqDiff]
   have hfn : fn = true → (!more) = false → FmtNum Γ rest := fun _ h => hf (by simpa using h)
   refine callS_pure (behind_ok E ⟨fw, le, fn, fs⟩ rest (!more) (by simp only at hlen; omega) hfn) ?_
   obtain ⟨n, tx, ok, hbh⟩ : ∃ n tx ok, behB ⟨fw, le, fn, fs⟩ rest (!more) = (n, tx, ok) := ⟨_, _, _, rfl⟩
   have htk : tryK s k = if (ok && rightB k n tx) = true then some ((k : Int), n, tx) else none := by
    unfold tryK
    rw [hff, hc]
    simp only [hw, if_true, hbh]
   simp only [hbh, ssS, Nat.reduceAdd, Nat.reduceLeDiff, reduceIte, Nat.reduceEqDiff]
   refine allocS_of fun b12 hb12 => ?_
   have h212 : b2 ≠ b12 := ne_of_some (by rw [Store.set_ne _ _ h28]; exact s2) hb12
   have hS12 : ∀ x y, SubS m ((S.set b8 x).set b12 y) := fun x y => (hS8 x).out (by
    refine (hS8 (.var 100 [bs fw, it le, .val (.bool fn), .val (.bool fs)])).none hb12) y
   simp only [Store.set_same, Store.set_set, ssS, Nat.reduceAdd, Nat.reduceLeDiff, reduceIte, Nat.reduceEqDiff]
   cases ok
   ·simp only [Bool.false_and, Bool.false_eq_true, if_false] at htk
    simp only [next_i64 (show k < 4611686018427387904 by omega), ssS, Nat.reduceAdd, Nat.reduceLeDiff, reduceIte, Nat.reduceEqDiff]
    exact hJ (18 - (k + 1)) _ (by omega) ⟨k + 1, rfl, by omega, by omega, hnext htk, hS12 _ _, by show (Store.set _ _ _) _ = _; rw [Store.set_ne _ _ h212, Store.set_ne _ _ h28]; exact s2, rfl, rfl, rfl, rfl, rfl, rfl⟩
   ·simp only [Bool.true_and] at htk
    simp only [Store.set_same, ssS, Nat.reduceAdd, Nat.reduceLeDiff, reduceIte, Nat.reduceEqDiff]
    refine callS_pure (right_ok E.env k n tx) ?_
    cases hrt : rightB k n tx
    ·simp only [hrt, Bool.false_eq_true, if_false] at htk
     simp only [next_i64 (show k < 4611686018427387904 by omega), ssS, Nat.reduceAdd, Nat.reduceLeDiff, reduceIte, Nat.reduceEqDiff]
     exact hJ (18 - (k + 1)) _ (by omega) ⟨k + 1, rfl, by omega, by omega, hnext htk, hS12 _ _, by show (Store.set _ _ _) _ = _; rw [Store.set_ne _ _ h212, Store.set_ne _ _ h28]; exact s2, rfl, rfl, rfl, rfl, rfl, rfl⟩
    ·simp only [hrt, if_true] at htk
     rw [htk] at htry
     simp only at htry
     have hpv : parseV s = .tup [cmdV k n tx, it 0] := by
      unfold parseV
      rw [← htry]
     simp only [Store.set_same, Store.set_ne _ _ h212, Store.set_ne _ _ h28, s2, ssS, Nat.reduceAdd, Nat.reduceLeDiff, reduceIte, Nat.reduceEqDiff]
     refine bodyA_ret (resV_cut (u := cmdV k n tx) (b := b2) (o := 0) rfl (Store.set_same _ _ _) rfl) ⟨by rw [hpv]; rfl, ?_⟩
     exact (hS12 _ _).out hb2 _
 ·have hk : k = 18 := by have := of_decide_eq_false h; omega
  subst hk
  have hpv : parseV s = .tup [cmdV 0 0 [], it 6] := by
   unfold parseV
   rw [← htry]
   rfl
  simp only [s2, ssS, Nat.reduceAdd, Nat.reduceLeDiff, reduceIte, Nat.reduceEqDiff]
  refine bodyA_ret (resV_cut (u := cmdV 0 0 []) (b := b2) (o := 0) rfl (Store.set_same _ _ _) rfl) ⟨by rw [hpv]; rfl, ?_⟩
  exact hS.out hb2 _
end
end Go.Av.Fn
/- A command's text written; the document's examples. Conditions as ahead. -/
namespace Go.Av.Fn
set_option linter.unusedSimpArgs false
set_option linter.unusedVariables false
set_option maxRecDepth 100000
open Go.Proofs
def printB (k n : Int) (s : List UInt8) : List UInt8 :=
 let f := formOf k
 let w := if f.n then f.w ++ (32 :: Lib.itoa n) else f.w
 if (f.n && !(s == [])) = true then w ++ ([32, 105, 102, 32] ++ s) else if (f.s && !f.n) = true then w ++ (32 :: s) else w
theorem right_len {k n : Int} {s : List UInt8} (h : rightB k n s = true) : s.length ≤ 255 ∧ 0 ≤ n ∧ n ≤ 4294967296 := by
 unfold rightB at h
 split at h
 ·cases h
 ·rename_i h1
  simp only [Bool.or_eq_true, not_or, Bool.and_eq_true, Bool.not_eq_true', decide_eq_true_eq] at h1
  obtain ⟨⟨⟨⟨h1, h2⟩, h3⟩, h4⟩, h5⟩ := h1
  have hl : 0 ≤ (formOf k).least := by
   have hall : ∀ f ∈ forms, 0 ≤ f.least := by decide
   unfold formOf
   split
   ·decide
   ·cases hg : forms[k.toNat]? with
    | none => decide
    | some f => exact hall f (List.mem_of_getElem? hg)
  refine ⟨?_, by omega, by omega⟩
  split at h
  ·rename_i h6
   simp only [Bool.or_eq_true, Bool.and_eq_true, Bool.not_eq_true'] at h6
   rcases h6 with h6 | ⟨_, h6⟩
   ·have : s = [] := by
     cases hs : (s == []) with
     | true => exact eq_of_beq hs
     | false => exact absurd ⟨h6, hs⟩ h3
    subst this
    simp
   ·rw [eq_of_beq h6]
    simp
  ·unfold writtenB at h
   simp only [Bool.and_eq_true, decide_eq_true_eq] at h
   exact h.2
theorem form_w (k : Int) : (formOf k).w.length ≤ 13 := by
 have hall : ∀ f ∈ forms, f.w.length ≤ 13 := by decide
 unfold formOf
 split
 ·decide
 ·cases hg : forms[k.toNat]? with
  | none => decide
  | some f => exact hall f (List.mem_of_getElem? hg)
theorem decDigits_len : ∀ (u : Nat), (Lib.decDigits u).length ≤ u + 1 := by
 intro u
 induction u using Nat.strongRecOn with
 | ind u ih =>
  rw [Lib.decDigits]
  split
  ·simp
  ·rw [List.length_append]
   have := ih (u / 10) (by omega)
   simp
   omega
theorem itoa_len {n : Int} (h0 : 0 ≤ n) (h1 : n ≤ 4294967296) : (Lib.itoa n).length ≤ 4294967297 := by
 unfold Lib.itoa
 rw [if_neg (by omega)]
 have := decDigits_len n.toNat
 omega
theorem bs_add {P : Program} {T : TypeId} {xo yo : Operand} {x y : List UInt8} (h : x.length + y.length ≤ 9223372036854775807) : binV P .add T .other xo yo (bs x) (bs y) = some (bs (x ++ y)) := bin_badd h
section
variable {Γ : Glob} {m : Store}
theorem print_ok (E : Env Γ) (k n : Int) (s : List UInt8) (hf : rightB k n s = true → (formOf k).n = true → FmtAt Γ n) : ACalls Tryz.prog Γ 18 [cmdV k n s] m fun o m' => o = .ret (.tup [bs (if rightB k n s then printB k n s else []), it (if rightB k n s then 0 else 2)]) ∧ m' = m := by
 refine ACalls.less (A := fun o m' => o = .ret (.tup [bs (if rightB k n s then printB k n s else []), it (if rightB k n s then 0 else 2)]) ∧ SubS m m') ?_ fun o m' h => ⟨m, h.2, h.1, rfl⟩
 refine acalls_of_awp mixed F18_ok (by rintro v m b x _ ⟨⟨⟩, _⟩) ?_
 simp only [F18, cmdV, q, qn, qg, qh, ss0, Nat.reduceSub, Nat.reduceAdd]
 simp only [ssS, Nat.reduceAdd, Nat.reduceLeDiff, reduceIte, Nat.reduceEqDiff]
 refine allocS_of fun b1 hb1 => ?_
 simp only [Store.set_same, ssS, Nat.reduceAdd, Nat.reduceLeDiff, reduceIte, Nat.reduceEqDiff]
 refine callS_pure (right_ok E k n s) ?_
 cases hr : rightB k n s
 ·simp only [Bool.not_false, ssS, Nat.reduceAdd, Nat.reduceLeDiff, reduceIte, Nat.reduceEqDiff]
  exact bodyA_ret resV_two ⟨rfl, (SubS.refl m).out hb1 _⟩
 ·obtain ⟨hs, hn0, hn1⟩ := right_len hr
  have hw := form_w k
  have hi := itoa_len hn0 hn1
  simp only [Bool.not_true, Store.set_same, ssS, Nat.reduceAdd, Nat.reduceLeDiff, reduceIte, Nat.reduceEqDiff]
  refine callS_pure (of_ok k) ?_
  obtain ⟨w, le, fn, fs, hff⟩ : ∃ w le fn fs, formOf k = ⟨w, le, fn, fs⟩ := ⟨_, _, _, _, rfl⟩
  have hpb : printB k n s = (if (fn && !(s == [])) = true then (if fn then w ++ (32 :: Lib.itoa n) else w) ++ ([32, 105, 102, 32] ++ s) else if (fs && !fn) = true then (if fn then w ++ (32 :: Lib.itoa n) else w) ++ (32 :: s) else (if fn then w ++ (32 :: Lib.itoa n) else w)) := by
   unfold printB
   rw [hff]
  rw [hpb]
  rw [hff] at hf hw
  simp only at hw
  simp only [hff, formV, ssS, Nat.reduceAdd, Nat.reduceLeDiff, reduceIte, Nat.reduceEqDiff]
  refine allocS_of fun b4 hb4 => ?_
  have h14 : b1 ≠ b4 := ne_of_some (Store.set_same _ _ _) hb4
  have hS : ∀ x y, SubS m ((m.set b1 x).set b4 y) := fun x y => ((SubS.refl m).out hb1 _).out (by rw [Store.set_ne _ _ h14.symm] at hb4; exact hb4) _
  simp only [Store.set_same, Store.set_set, Store.set_ne _ _ h14, ssS, Nat.reduceAdd, Nat.reduceLeDiff, reduceIte, Nat.reduceEqDiff]
  cases fn
  ·cases fs
   ·simp only [Store.set_same, ssS, Nat.reduceAdd, Nat.reduceLeDiff, reduceIte, Nat.reduceEqDiff]
    exact bodyA_ret resV_two ⟨rfl, hS _ _⟩
   ·simp only [Store.set_same, Store.set_ne _ _ h14, Bool.not_false, bs_add (x := [32]) (y := s) (by simp; omega), bs_add (x := w) (y := [32] ++ s) (by simp; omega), ssS, Nat.reduceAdd, Nat.reduceLeDiff, reduceIte, Nat.reduceEqDiff]
    exact bodyA_ret resV_two ⟨rfl, hS _ _⟩
  ·simp only [Store.set_same, Store.set_ne _ _ h14, ssS, Nat.reduceAdd, Nat.reduceLeDiff, reduceIte, Nat.reduceEqDiff]
   refine callS_pure (itoa_ok (hf hr rfl)) ?_
   simp only [bs_add (x := [32]) (y := Lib.itoa n) (by simp; omega), bs_add (x := w) (y := [32] ++ Lib.itoa n) (by simp; omega), Store.set_same, Store.set_ne _ _ h14, ssS, Nat.reduceAdd, Nat.reduceLeDiff, reduceIte, Nat.reduceEqDiff]
   cases he : (s == [])
   ·simp only [bs_add (x := [32, 105, 102, 32]) (y := s) (by simp; omega), bs_add (x := w ++ ([32] ++ Lib.itoa n)) (y := [32, 105, 102, 32] ++ s) (by simp; omega), Bool.not_false, Store.set_same, Store.set_ne _ _ h14, ssS, Nat.reduceAdd, Nat.reduceLeDiff, reduceIte, Nat.reduceEqDiff]
    exact bodyA_ret resV_two ⟨rfl, hS _ _⟩
   ·cases fs
    ·simp only [Bool.not_true, Store.set_same, Store.set_ne _ _ h14, ssS, Nat.reduceAdd, Nat.reduceLeDiff, reduceIte, Nat.reduceEqDiff]
     exact bodyA_ret resV_two ⟨rfl, hS _ _⟩
    ·simp only [Bool.not_true, Store.set_same, Store.set_ne _ _ h14, ssS, Nat.reduceAdd, Nat.reduceLeDiff, reduceIte, Nat.reduceEqDiff]
     exact bodyA_ret resV_two ⟨rfl, hS _ _⟩
end
end Go.Av.Fn
/- The program tells the document's examples. No condition. -/
namespace Go.Av.Fn
set_option linter.unusedSimpArgs false
set_option linter.unusedVariables false
set_option maxRecDepth 10000
open Go.Proofs
def skipF : Nat → List UInt8 → Nat → Nat → Nat × Nat
 | 0, _, a, l => (a, l)
 | n + 1, r, a, l =>
  if [10].isPrefixOf r = true then skipF n (r.drop 1) (a + 1) (l + 1)
  else if ([32].isPrefixOf r || [9].isPrefixOf r) = true then skipF n (r.drop 1) (a + 1) l
  else if [47, 47].isPrefixOf r = true then skipF n (r.drop (r.takeWhile notNl).length) (a + (r.takeWhile notNl).length) l
  else (a, l)
theorem skipF_eq : ∀ (n : Nat) (r : List UInt8) (a l : Nat), r.length < n → skipF n r a l = skipL r a l
 | 0, r, a, l, h => absurd h (by omega)
 | n + 1, r, a, l, h => by
  rw [skipL.eq_1]
  simp only [skipF]
  by_cases h1 : [10].isPrefixOf r = true
  ·rw [if_pos h1, dif_pos h1]
   have := pre_len h1
   exact skipF_eq n _ _ _ (by simp at this ⊢; omega)
  ·rw [if_neg h1, dif_neg h1]
   by_cases h2 : ([32].isPrefixOf r || [9].isPrefixOf r) = true
   ·rw [if_pos h2, dif_pos h2]
    have : 1 ≤ r.length := by
     rw [Bool.or_eq_true] at h2
     rcases h2 with h2 | h2
     ·simpa using pre_len h2
     ·simpa using pre_len h2
    exact skipF_eq n _ _ _ (by simp; omega)
   ·rw [if_neg h2, dif_neg h2]
    by_cases h3 : [47, 47].isPrefixOf r = true
    ·rw [if_pos h3, dif_pos h3]
     have h4 := slash_run h3
     have h5 := pre_len h3
     exact skipF_eq n _ _ _ (by simp at h5 ⊢; omega)
    ·rw [if_neg h3, dif_neg h3]
def scanF : Nat → List UInt8 → Nat × Nat → List Tk → Except (Nat × Int) (List Tk)
 | 0, _, _, _ => .ok []
 | n + 1, r, x, acc => match tokL r with
  | .error e => if r.isEmpty then .ok (acc ++ [⟨0, [], 0, x.2, x.1⟩]) else .error (x.1, e)
  | .ok (t, k) => scanF n ((r.drop k).drop ((skipF (r.length + 1) (r.drop k) (x.1 + k) x.2).1 - (x.1 + k))) (skipF (r.length + 1) (r.drop k) (x.1 + k) x.2) (acc ++ [{ t with l := x.2, a := x.1 }])
theorem scanF_eq : ∀ (n : Nat) (r : List UInt8) (x : Nat × Nat) (acc : List Tk), r.length < n → scanF n r x acc = scanN r x acc
 | 0, r, x, acc, h => absurd h (by omega)
 | n + 1, r, x, acc, h => by
  simp only [scanF, scanN]
  cases ht : tokL r with
  | error e =>
   simp only
   cases r with
   | nil => rfl
   | cons c r => rfl
  | ok y =>
   obtain ⟨t, k⟩ := y
   have hk := tokL_len ht
   simp only
   have e1 : skipF (r.length + 1) (r.drop k) (x.1 + k) x.2 = skipL (r.drop k) (x.1 + k) x.2 := skipF_eq _ _ _ _ (by simp; omega)
   rw [e1, scanL_eq]
   exact scanF_eq n _ _ _ (by simp; omega)
theorem scanR_eq {s : List UInt8} {y : Except (Nat × Int) (List Tk)} (h : (s.length ≤ 4096 ∧ scanF (s.length + 1) (s.drop (skipF (s.length + 1) s 0 1).1) (skipF (s.length + 1) s 0 1) [] = y)) : scanR s = y := by
 unfold scanR
 rw [if_neg (by omega), scanL_eq, ← skipF_eq (s.length + 1) s 0 1 (by omega), Nat.sub_zero, ← scanF_eq (s.length + 1) _ _ _ (by simp; omega)]
 exact h.2
end Go.Av.Fn
/- A command's text read, reckoned. No condition. -/
namespace Go.Av.Fn
set_option linter.unusedSimpArgs false
set_option linter.unusedVariables false
set_option maxRecDepth 100000
open Go.Proofs
def decF : Nat → Nat → List UInt8
 | 0, _ => []
 | k + 1, u => if u < 10 then [UInt8.ofNat (48 + u)] else decF k (u / 10) ++ [UInt8.ofNat (48 + u % 10)]
theorem decF_eq : ∀ (k u : Nat), u < k → decF k u = Lib.decDigits u
 | 0, u, h => absurd h (by omega)
 | k + 1, u, h => by
  rw [Lib.decDigits, decF]
  by_cases h1 : u < 10
  ·rw [if_pos h1, dif_pos h1]
  ·rw [if_neg h1, dif_neg h1, decF_eq k (u / 10) (by omega)]
def itoaF (n : Int) : List UInt8 := if n < 0 then 45 :: decF (n.natAbs + 1) n.natAbs else decF (n.toNat + 1) n.toNat
theorem itoaF_eq (n : Int) : itoaF n = Lib.itoa n := by
 unfold itoaF Lib.itoa
 rw [decF_eq _ _ (by omega), decF_eq _ _ (by omega)]
def scanRF (s : List UInt8) : Except (Nat × Int) (List Tk) := if s.length > 4096 then .error (0, 5) else scanF (s.length + 1) (s.drop (skipF (s.length + 1) s 0 1).1) (skipF (s.length + 1) s 0 1) []
theorem scanRF_eq (s : List UInt8) : scanR s = scanRF s := by
 unfold scanRF
 by_cases h : s.length > 4096
 ·rw [if_pos h]
  unfold scanR
  rw [if_pos h]
 ·rw [if_neg h]
  exact scanR_eq ⟨by omega, rfl⟩
def readF (s : List UInt8) : Option Ex × Int × Int := match scanRF s with
 | .error (a, e) => (none, a, e)
 | .ok l => readT l
theorem readF_eq (s : List UInt8) : readS s = readF s := by
 unfold readS readF
 rw [scanRF_eq]
 all_goals (cases scanRF s <;> rfl)
def exprF (s : List UInt8) : Option Ex × Int × Int :=
 if (readF s).2.2 = 0 then (match (readF s).1 with
  | some e => if depthE e > 24 then (none, 0, 7) else (some e, 0, 0)
  | none => (none, 0, 0))
 else (none, (readF s).2.1, (readF s).2.2)
def writtenF (s : List UInt8) : Bool := (exprF s).2.2 == 0 && decide (s.length ≤ 255)
theorem writtenF_eq : writtenB = writtenF := by
 funext s
 unfold writtenB writtenF exprS exprF
 rw [readF_eq]
 all_goals rfl
def numF (s : List UInt8) : Int × List UInt8 × Bool := match Lib.parseIntB 64 (cutB s).1 with
 | .ok n => if (itoaF n == (cutB s).1) = true then (n, (cutB s).2.1, (cutB s).2.2) else (-1, [], false)
 | _ => (-1, [], false)
theorem numF_eq : numB = numF := by
 funext s
 unfold numB numF
 cases h : Lib.parseIntB 64 (cutB s).1 with
 | ok n => simp only [itoaF_eq]
 | _ => rfl
def rightG (wr : List UInt8 → Bool) (k n : Int) (s : List UInt8) : Bool :=
 if (decide (formOf k = noForm) || (!(formOf k).n && n != 0) || (!(formOf k).s && !(s == [])) || decide (n < (formOf k).least) || decide (n > 4294967296)) = true then false
 else if (!(formOf k).s || ((formOf k).n && s == [])) = true then true
 else wr s
def behG (num : List UInt8 → Int × List UInt8 × Bool) (f : Form) (rest : List UInt8) (no : Bool) : Int × List UInt8 × Bool :=
 if (no || (!f.n && !f.s)) = true then (0, [], no && !f.n && !f.s)
 else if f.n = false then (0, rest, true)
 else if (num rest).2.2 = false then ((num rest).1, [], decide ((num rest).1 ≥ 0))
 else ((num rest).1, (cutIf (num rest).2.1).1, (cutIf (num rest).2.1).2 && f.s && !((cutIf (num rest).2.1).1 == []))
def tryG (num : List UInt8 → Int × List UInt8 × Bool) (wr : List UInt8 → Bool) (s : List UInt8) (k : Nat) : Option (Int × Int × List UInt8) :=
 if ((formOf k).w == (cutB s).1) = true then
  (if ((behG num (formOf k) (cutB s).2.1 (!(cutB s).2.2)).2.2 && rightG wr k (behG num (formOf k) (cutB s).2.1 (!(cutB s).2.2)).1 (behG num (formOf k) (cutB s).2.1 (!(cutB s).2.2)).2.1) = true
   then some (k, (behG num (formOf k) (cutB s).2.1 (!(cutB s).2.2)).1, (behG num (formOf k) (cutB s).2.1 (!(cutB s).2.2)).2.1) else none)
 else none
def tryFromG (num : List UInt8 → Int × List UInt8 × Bool) (wr : List UInt8 → Bool) (s : List UInt8) : Nat → Nat → Option (Int × Int × List UInt8)
 | 0, _ => none
 | n + 1, k => match tryG num wr s k with
  | some x => some x
  | none => tryFromG num wr s n (k + 1)
theorem tryFrom_G (s : List UInt8) : ∀ n k, tryFrom s n k = tryFromG numB writtenB s n k
 | 0, _ => rfl
 | n + 1, k => by
  have h : tryK s k = tryG numB writtenB s k := rfl
  rw [tryFrom, tryFromG, h]
  cases tryG numB writtenB s k with
  | some x => rfl
  | none => exact tryFrom_G s n (k + 1)
theorem parse_eq {s : List UInt8} {r : Option (Int × Int × List UInt8)} (h : tryFromG numF writtenF s 17 1 = r) : parseC s = r := by
 rw [parseC, tryFrom_G, numF_eq, writtenF_eq]
 exact h
theorem right_eq {k n : Int} {s : List UInt8} {b : Bool} (h : rightG writtenF k n s = b) : rightB k n s = b := by
 rw [← h, ← writtenF_eq]
 rfl
theorem ex1 : parseC [98, 97, 99, 107, 45, 115, 116, 101, 112] = some (5, 0, []) := parse_eq (by kernel_rfl)
theorem ex2 : parseC [98, 114, 101, 97, 107, 32, 49, 50, 32, 105, 102, 32, 97, 32, 62, 32, 49] = some (10, 12, [97, 32, 62, 32, 49]) := parse_eq (by kernel_rfl)
theorem ex3 : parseC [103, 111, 116, 111, 32, 48] = some (9, 0, []) := parse_eq (by kernel_rfl)
theorem ex4 : parseC [103, 111, 116, 111, 32, 48, 49] = none := parse_eq (by kernel_rfl)
theorem ex5 : parseC [103, 111, 116, 111] = none := parse_eq (by kernel_rfl)
theorem ex6 : parseC [115, 116, 101, 112, 32, 49] = none := parse_eq (by kernel_rfl)
theorem ex7 : parseC [98, 114, 101, 97, 107, 32, 49, 32, 105, 102] = none := parse_eq (by kernel_rfl)
theorem ex8 : parseC [112, 114, 105, 110, 116, 32, 49, 32, 43] = none := parse_eq (by kernel_rfl)
theorem ex9 : rightB 10 12 [97, 32, 62, 32, 49] = true := right_eq (by kernel_rfl)
theorem ex10 : printB 10 12 [97, 32, 62, 32, 49] = [98, 114, 101, 97, 107, 32, 49, 50, 32, 105, 102, 32, 97, 32, 62, 32, 49] := by
 unfold printB
 rw [← itoaF_eq]
 kernel_rfl
end Go.Av.Fn
/- The document's examples of chapter 17: the program tells them. Conditions: the library's functions, and what some variables hold. -/
namespace Go.Av.Fn
set_option linter.unusedSimpArgs false
set_option linter.unusedVariables false
set_option maxRecDepth 10000
open Go.Proofs
theorem cmd_eq (xo yo : Operand) (k n k' n' : Int) (s s' : List UInt8) : binV Tryz.prog .eql 24 .other xo yo (.agg [it k, it n, bs s]) (.agg [it k', it n', bs s']) = some (.val (.bool (decide (k = k' ∧ n = n' ∧ s = s')))) := by
 have h := (struct_eq (P := Tryz.prog) (T := 24) (xo := xo) (yo := yo) (cs := [it k, it n, bs s]) (cs' := [it k', it n', bs s'])
  (xs := [.int .i64 k, .int .i64 n, .string ⟨s.toArray⟩]) (ys := [.int .i64 k', .int .i64 n', .string ⟨s'.toArray⟩])
  (r := (k == k' && (n == n' && ((ByteArray.mk s.toArray).toList == (ByteArray.mk s'.toArray).toList && true))))
  (by kernel_rfl) (by kernel_rfl) (by kernel_rfl) rfl rfl (by kernel_rfl)).1
 have e : (k == k' && (n == n' && ((ByteArray.mk s.toArray).toList == (ByteArray.mk s'.toArray).toList && true))) = decide (k = k' ∧ n = n' ∧ s = s') := by
  rw [ba_toList, ba_toList, Bool.eq_iff_iff]
  simp
 rw [e] at h
 exact h
theorem fmtNum_of {Γ : Glob} {rest : List UInt8} {i : Nat} (h : Lib.parseIntB 64 (cutB rest).1 = .ok (i : Int)) (hi : i < 100) : FmtNum Γ rest := by
 intro n hn
 rw [h] at hn
 cases hn
 exact fmt_small i hi
section
variable {Γ : Glob} {m : Store}
theorem is17_ok (E : Env2 Γ) (s : List UInt8) (hs : s.length ≤ 281474976710656) (hf : (cutB s).2.2 = true → FmtNum Γ (cutB s).2.1) {k n e : Int} {t : List UInt8} (h : parseV s = .tup [cmdV k n t, it e]) :
  ACalls Tryz.prog Γ 61 [bs s, cmdV k n t, it e] m fun o m' => o = .ret (.val (.bool true)) ∧ m' = m := by
 refine ACalls.less (A := fun o m' => o = .ret (.val (.bool true)) ∧ SubS m m') ?_ fun o m' h => ⟨m, h.2, h.1, rfl⟩
 refine acalls_of_awp mixed F61_ok (by rintro v m b x _ ⟨⟨⟩, _⟩) ?_
 simp only [F61, cmdV, q, qn, qg, qh, ss0, Nat.reduceSub, Nat.reduceAdd]
 simp only [ssS, Nat.reduceAdd, Nat.reduceLeDiff, reduceIte, Nat.reduceEqDiff]
 refine allocS_of fun b4 hb4 => ?_
 simp only [ssS, Nat.reduceAdd, Nat.reduceLeDiff, reduceIte, Nat.reduceEqDiff]
 refine callS_pure (parse_ok E s hs hf) ?_
 simp only [h, cmdV, ssS, Nat.reduceAdd, Nat.reduceLeDiff, reduceIte, Nat.reduceEqDiff]
 refine allocS_of fun b7 hb7 => ?_
 have h47 : b4 ≠ b7 := ne_of_some (Store.set_same _ _ _) hb7
 simp only [Store.set_same, Store.set_set, Store.set_ne _ _ h47, cmd_eq, and_self, decide_true, show (e == e) = true from beq_self_eq_true e, ssS, Nat.reduceAdd, Nat.reduceLeDiff, reduceIte, Nat.reduceEqDiff]
 refine bodyA_ret resV_one ⟨rfl, ?_⟩
 exact ((SubS.refl m).out hb4 _).out (by rw [Store.set_ne _ _ h47.symm] at hb7; exact hb7) _
theorem pv_some {s : List UInt8} {k n : Int} {t : List UInt8} (h : parseC s = some (k, n, t)) : parseV s = .tup [cmdV k n t, it 0] := by
 unfold parseV
 rw [h]
theorem pv_none {s : List UInt8} (h : parseC s = none) : parseV s = .tup [cmdV 0 0 [], it 6] := by
 unfold parseV
 rw [h]
theorem lives17_ok (E : Env2 Γ) : ACalls Tryz.prog Γ 17 [] m fun o m' => o = .ret (.val (.bool true)) ∧ m' = m := by
 refine acalls_of_awp mixed F17_ok (by rintro v m b x _ ⟨⟨⟩, _⟩) ?_
 simp only [F17, q, qn, qg, qh, ss0, Nat.reduceSub, Nat.reduceAdd]
 simp only [ssS, Nat.reduceAdd, Nat.reduceLeDiff, reduceIte, Nat.reduceEqDiff]
 refine callS_pure (print_ok E.env 10 12 [97, 32, 62, 32, 49] (fun _ _ => fmt_small 12 (by decide))) ?_
 rw [ex9, ex10]
 simp only [if_true, ssS, Nat.reduceAdd, Nat.reduceLeDiff, reduceIte, Nat.reduceEqDiff]
 refine callS_pure (is17_ok E [98, 97, 99, 107, 45, 115, 116, 101, 112] (by decide) (fun h => absurd h (by decide)) (pv_some ex1)) ?_
 simp only [ssS, Nat.reduceAdd, Nat.reduceLeDiff, reduceIte, Nat.reduceEqDiff]
 refine callS_pure (is17_ok E [98, 114, 101, 97, 107, 32, 49, 50, 32, 105, 102, 32, 97, 32, 62, 32, 49] (by decide) (fun h => fmtNum_of (i := 12) (by kernel_rfl) (by decide)) (pv_some ex2)) ?_
 simp only [ssS, Nat.reduceAdd, Nat.reduceLeDiff, reduceIte, Nat.reduceEqDiff]
 refine callS_pure (is17_ok E [103, 111, 116, 111, 32, 48] (by decide) (fun h => fmtNum_of (i := 0) (by kernel_rfl) (by decide)) (pv_some ex3)) ?_
 simp only [ssS, Nat.reduceAdd, Nat.reduceLeDiff, reduceIte, Nat.reduceEqDiff]
 refine callS_pure (is17_ok E [103, 111, 116, 111, 32, 48, 49] (by decide) (fun h => fmtNum_of (i := 1) (by kernel_rfl) (by decide)) (pv_none ex4)) ?_
 simp only [ssS, Nat.reduceAdd, Nat.reduceLeDiff, reduceIte, Nat.reduceEqDiff]
 refine callS_pure (is17_ok E [103, 111, 116, 111] (by decide) (fun h => absurd h (by decide)) (pv_none ex5)) ?_
 simp only [ssS, Nat.reduceAdd, Nat.reduceLeDiff, reduceIte, Nat.reduceEqDiff]
 refine callS_pure (is17_ok E [115, 116, 101, 112, 32, 49] (by decide) (fun h => fmtNum_of (i := 1) (by kernel_rfl) (by decide)) (pv_none ex6)) ?_
 simp only [ssS, Nat.reduceAdd, Nat.reduceLeDiff, reduceIte, Nat.reduceEqDiff]
 refine callS_pure (is17_ok E [98, 114, 101, 97, 107, 32, 49, 32, 105, 102] (by decide) (fun h => fmtNum_of (i := 1) (by kernel_rfl) (by decide)) (pv_none ex7)) ?_
 simp only [ssS, Nat.reduceAdd, Nat.reduceLeDiff, reduceIte, Nat.reduceEqDiff]
 refine callS_pure (is17_ok E [112, 114, 105, 110, 116, 32, 49, 32, 43] (by decide) (fun h => fmtNum_of (i := 1) (by kernel_rfl) (by decide)) (pv_none ex8)) ?_
 simp only [show (([98, 114, 101, 97, 107, 32, 49, 50, 32, 105, 102, 32, 97, 32, 62, 32, 49] : List UInt8) == [98, 114, 101, 97, 107, 32, 49, 50, 32, 105, 102, 32, 97, 32, 62, 32, 49]) = true from by decide, show ((0 : Int) == 0) = true from rfl, ssS, Nat.reduceAdd, Nat.reduceLeDiff, reduceIte, Nat.reduceEqDiff]
 exact bodyA_ret resV_one ⟨rfl, rfl⟩
end
end Go.Av.Fn
/- Commands put, and got. Conditions as ahead. -/
namespace Go.Av.Fn
set_option linter.unusedSimpArgs false
set_option linter.unusedVariables false
set_option maxRecDepth 10000
open Go.Proofs
section
variable {Γ : Glob} {m : Store} {rb a : Nat} {s : List UInt8} {e : Int}
end
end Go.Av.Fn
/- Commands put are got as they were: plain laws. No condition. -/
namespace Go.Av.Fn
set_option linter.unusedSimpArgs false
set_option linter.unusedVariables false
open Go.Lib
end Go.Av.Fn
/- Commands that are put are got as they were: the statement's function. Conditions as ahead. -/
namespace Go.Av.Fn
set_option linter.unusedSimpArgs false
set_option linter.unusedVariables false
set_option maxRecDepth 10000
open Go.Proofs
theorem nb_cmdV {k : Nat} (a b : Int) (c : List UInt8) : nb k (cmdV a b c) := by
 unfold cmdV
 simp only [nbS]
theorem nbs_cmd1 (a b : Int) (c : List UInt8) : nbs 0 [cmdV a b c] := by
 simp only [nbs_cons, nb_cmdV, nbs_nil, and_self]
end Go.Av.Fn
/- What a rule leaves is an end of what it read; the document's reader of tokens, in plain terms. No condition. -/
namespace Go.Av.Fn
set_option linter.unusedSimpArgs false
set_option linter.unusedVariables false
def restP : PR → List Tk
 | .ok _ l => l
 | .st l => l
def badP : PR → Bool
 | .ok _ _ => false
 | .st _ => true
def Sfx (l : List Tk) (r : Option PR) : Prop := ∀ p, r = some p → restP p <:+ l
theorem Sfx.mono {l l' : List Tk} {r : Option PR} (h : Sfx l r) (hl : l <:+ l') : Sfx l' r := fun p hp => (h p hp).trans hl
theorem sfx_bind1 {l l' : List Tk} {r : Option PR} {k : Ex → List Tk → Option PR} (h : Sfx l r) (hl : l <:+ l') (hk : ∀ e l1, l1 <:+ l → Sfx l' (k e l1)) : Sfx l' (bind1 r k) := by
 intro p hp
 rcases bind1_inv hp with ⟨e, l1, h1, h2⟩ | ⟨l1, h1, rfl⟩
 ·exact hk e l1 (h _ h1) p h2
 ·exact (h _ h1).trans hl
theorem sfx_bindL {l l' : List Tk} {r : Option PR} {k : List Ex → List Tk → Option PR} (h : Sfx l r) (hl : l <:+ l') (hk : ∀ e l1, l1 <:+ l → Sfx l' (k e l1)) : Sfx l' (bindL r k) := by
 intro p hp
 rcases bindL_inv hp with ⟨e, l1, h1, h2⟩ | ⟨l1, h1, rfl⟩
 ·exact hk e l1 (h _ h1) p h2
 ·exact (h _ h1).trans hl
theorem sfx_ok {l l' : List Tk} {es : List Ex} (h : l <:+ l') : Sfx l' (some (.ok es l)) := by
 intro p hp
 cases hp
 exact h
theorem sfx_st {l l' : List Tk} (h : l <:+ l') : Sfx l' (some (.st l)) := by
 intro p hp
 cases hp
 exact h
theorem sfx_must {s : List UInt8} {l l' : List Tk} {k : List Tk → Option PR} (hl : l <:+ l') (hk : ∀ l1, l1 <:+ l → Sfx l' (k l1)) : Sfx l' (mustK s l k) := by
 unfold mustK
 cases l with
 | nil => intro p hp; cases hp
 | cons t r =>
  simp only
  split
  ·exact hk r (List.suffix_cons t r)
  ·exact sfx_st hl
theorem sfx_name {l l' : List Tk} {k : List UInt8 → List Tk → Option PR} (hl : l <:+ l') (hk : ∀ s l1, l1 <:+ l → Sfx l' (k s l1)) : Sfx l' (nameK l k) := by
 unfold nameK
 cases l with
 | nil => intro p hp; cases hp
 | cons t r =>
  simp only
  split
  ·exact hk t.s r (List.suffix_cons t r)
  ·exact sfx_st hl
theorem run_sfx : ∀ (n : Nat) (r : Rule) (l : List Tk), Sfx l (run n r l)
 | 0, r, l => by intro p hp; cases hp
 | n + 1, r, [] => by intro p hp; cases hp
 | n + 1, r, t :: l => by
  have ih := run_sfx n
  have hc : l <:+ t :: l := List.suffix_cons t l
  have hrow : ∀ l', Sfx l' (rowR (run n) l') := fun l' => sfx_bind1 (ih (.ex 0) l') List.suffix_rfl fun e l1 h1 => (ih (.ro [e]) l1).mono h1
  have hunt : ∀ s l', Sfx l' (untilR (run n) s l') := by
   intro s l'
   unfold untilR
   cases l' with
   | nil => intro p hp; cases hp
   | cons t' r' =>
    simp only
    split
    ·exact sfx_ok (List.suffix_cons t' r')
    ·exact sfx_bindL (hrow _) List.suffix_rfl fun es l1 h1 => sfx_must h1 fun l2 h2 => sfx_ok (h2.trans h1)
  show Sfx (t :: l) (step (run n) t l r)
  cases r with
  | ex line =>
   simp only [step]
   split
   ·exact ih _ _
   ·exact sfx_bind1 (ih _ _) List.suffix_rfl fun e l1 h1 => (ih _ _).mono h1
  | lp line e =>
   simp only [step]
   split
   ·exact sfx_bind1 (ih _ _) hc fun e2 l2 h2 => (ih _ _).mono (h2.trans hc)
   ·exact sfx_ok List.suffix_rfl
  | un =>
   simp only [step]
   split
   ·exact sfx_bind1 (ih _ _) hc fun e l1 h1 => sfx_ok (h1.trans hc)
   ·exact sfx_bind1 (ih _ _) List.suffix_rfl fun e l1 h1 => (ih _ _).mono h1
  | po e =>
   simp only [step]
   split
   ·exact sfx_bind1 (ih _ _) hc fun e2 l2 h2 => sfx_must (h2.trans hc) fun l3 h3 => (ih _ _).mono (h3.trans (h2.trans hc))
   ·split
    ·exact sfx_name hc fun s l2 h2 => (ih _ _).mono (h2.trans hc)
    ·exact sfx_ok List.suffix_rfl
  | ro out =>
   simp only [step]
   split
   ·exact sfx_bind1 (ih _ _) hc fun e l1 h1 => (ih _ _).mono (h1.trans hc)
   ·exact sfx_ok List.suffix_rfl
  | si =>
   simp only [step, singleR]
   split
   ·exact sfx_ok hc
   ·split
    ·exact sfx_ok hc
    ·split
     ·unfold callR
      cases l with
      | nil => intro p hp; cases hp
      | cons t2 l2 =>
       have hc2 : l2 <:+ t :: t2 :: l2 := (List.suffix_cons t2 l2).trans hc
       simp only
       split
       ·exact sfx_bindL (hunt _ _) hc2 fun es l3 h3 => sfx_ok (h3.trans hc2)
       ·exact sfx_ok hc
     ·split
      ·exact sfx_ok hc
      ·split
       ·exact sfx_ok hc
       ·split
        ·exact sfx_name hc fun s l2 h2 => sfx_must (h2.trans hc) fun l3 h3 => sfx_bindL (hunt _ _) (h3.trans (h2.trans hc)) fun es l4 h4 => sfx_ok (h4.trans (h3.trans (h2.trans hc)))
        ·split
         ·exact sfx_bindL (hrow _) hc fun es l2 h2 => sfx_must (h2.trans hc) fun l3 h3 => sfx_ok (h3.trans (h2.trans hc))
         ·split
          ·exact sfx_bind1 (ih _ _) hc fun e l2 h2 => sfx_must (h2.trans hc) fun l3 h3 => sfx_ok (h3.trans (h2.trans hc))
          ·exact sfx_st List.suffix_rfl
/-! ### The document's reader -/
def rdR (L : List Tk) (a : Nat) (bad : Bool) : Blk := .var 199 [.sl (L.map tkV) [] .no, it a, .val (.bool bad)]
def rdS (L l : List Tk) (bad : Bool) : Blk := rdR L (L.length - l.length) bad
theorem sfx_drop {L l : List Tk} (h : l <:+ L) : L.drop (L.length - l.length) = l := by
 obtain ⟨p, rfl⟩ := h
 simp
theorem sfx_next {L l : List Tk} {t : Tk} (h : t :: l <:+ L) : L.length - (t :: l).length + 1 = L.length - l.length := by
 have := h.length_le
 simp only [List.length_cons] at this ⊢
 omega
theorem nb_tkV {k : Nat} (t : Tk) : nb k (tkV t) := by
 unfold tkV
 simp only [nbS]
theorem nb_rdR {k : Nat} {L : List Tk} {a : Nat} {b : Bool} : nbB k (rdR L a b) := by
 unfold rdR
 simp only [nbB_var, nbs_cons, nb_sl, nbs_nil, nbT_no, nb_val, and_true]
 exact nbs_map (fun t => nb_tkV t) L
mutual
theorem nb_exV {k : Nat} : ∀ e : Ex, nb k (exV e)
 | .mk a s n kids l => by
  simp only [exV, nb_agg, nbs_cons, nb_val, nb_bs, nb_sl, nbs_nil, nbT_no, and_true, true_and]
  exact nbs_exVs kids
theorem nbs_exVs {k : Nat} : ∀ l : List Ex, nbs k (exVs l)
 | [] => by rw [exVs]; exact .nil
 | e :: r => by
  rw [exVs, nbs_cons]
  exact ⟨nb_exV e, nbs_exVs r⟩
end
theorem idx_tkR {L l : List Tk} {t : Tk} (h : t :: l <:+ L) : idxLV 5 (.sl (L.map tkV) [] .no) (it (L.length - (t :: l).length : Nat)) = some (.elt [it t.k, bs t.s, it t.n, it t.l, it t.a]) := by
 have hd := sfx_drop h
 have hg : L[L.length - (t :: l).length]? = some t := by
  have := congrArg (fun x : List Tk => x[0]?) hd
  simpa using this
 exact idxLV_nat (e := tkV t) (by rw [List.getElem?_map, hg]; rfl) rfl
end Go.Av.Fn
/- The small steps of the document's reader: what they do. No condition. -/
namespace Go.Av
theorem acalls_lk {P : Program} {Γ : Glob} {f : FuncId} {args : List V} {m : Store} {rb : Nat} {X : Blk} {v : V} (hr : m rb = some X) (h : ACalls P Γ f args m fun o m' => ∃ v' Y, o = .ret v' ∧ m' = m.set rb Y ∧ (v' = v ∧ Y = X)) : ACalls P Γ f args m fun o m' => o = .ret v ∧ m' = m := by
  refine h.mono ?_
  rintro o m' ⟨v', Y, rfl, rfl, rfl, rfl⟩
  exact ⟨rfl, Store.set_eq m hr⟩
end Go.Av
namespace Go.Av.Fn
set_option linter.unusedSimpArgs false
set_option linter.unusedVariables false
set_option maxRecDepth 10000
open Go.Proofs
theorem idx_tkR' {L l : List Tk} {t : Tk} (h : t :: l <:+ L) : idxLV 5 (.sl (L.map tkV) [] .no) (it (L.length - (l.length + 1) : Nat)) = some (.elt [it t.k, bs t.s, it t.n, it t.l, it t.a]) := idx_tkR h
theorem sfx_next' {L l : List Tk} {t : Tk} (h : t :: l <:+ L) : L.length - (l.length + 1) + 1 = L.length - l.length := sfx_next h
section
variable {Γ : Glob} {m : Store} {rb : Nat} {L l : List Tk} {t : Tk} {s : List UInt8} {b : Bool}
theorem kTok_ok (hs : t :: l <:+ L) (hr : m rb = some (rdS L (t :: l) b)) : ACalls Tryz.prog Γ 154 [.ptr rb 0] m fun o m' => o = .ret (tkV t) ∧ m' = m := by
  refine acalls_lk hr (acalls_c mixed F154_ok F154_h gok_nil hr nb_rdR (by first | exact LR.nil | simp only [nbS]) ?_)
  simp only [F154, q, qn, qg, qh, ss0, Nat.reduceSub, Nat.reduceAdd]
  simp only [rdS, rdR, idx_tkR' hs, ssH, Nat.reduceAdd, Nat.reduceLeDiff, reduceIte, Nat.reduceEqDiff, Nat.reduceLT, Int.reduceBEq, Int.reduceBNe]
  exact bodyH_ret (v := tkV t) rfl ⟨nb_tkV t, _, rfl, nb_rdR (L := L), rfl, rfl⟩
theorem kIs_ok (hs : t :: l <:+ L) (hr : m rb = some (rdS L (t :: l) b)) : ACalls Tryz.prog Γ 226 [.ptr rb 0, bs s] m fun o m' => o = .ret (.val (.bool (!b && isS s t))) ∧ m' = m := by
  refine acalls_lk hr (acalls_c mixed F226_ok F226_h gok_nil hr nb_rdR (by first | exact LR.nil | simp only [nbS]) ?_)
  simp only [F226, q, qn, qg, qh, ss0, Nat.reduceSub, Nat.reduceAdd]
  simp only [ssH, Nat.reduceAdd, Nat.reduceLeDiff, reduceIte, Nat.reduceEqDiff, Nat.reduceLT, Int.reduceBEq, Int.reduceBNe]
  refine hcall_look (b := 0) rfl rfl (fun m b' h => kTok_ok hs h) nb_rdR (by first | exact LR.nil | simp only [nbS]) (nb_tkV t) ?_
  simp only [tkV, rdS, rdR, ssH, Nat.reduceAdd, Nat.reduceLeDiff, reduceIte, Nat.reduceEqDiff, Nat.reduceLT, Int.reduceBEq, Int.reduceBNe]
  cases b
  · cases h4 : (t.k == 4)
    · cases h5 : (t.k == 5)
      · simp only [h4, h5, ssH, Nat.reduceAdd, Nat.reduceLeDiff, reduceIte, Nat.reduceEqDiff, Nat.reduceLT, Int.reduceBEq, Int.reduceBNe]
        exact bodyH_ret resV_one ⟨(by simp only [tget_zero, tget_succ, nbS]), _, rfl, nb_rdR (L := L), by simp [tget, isS, h4, h5], rfl⟩
      · simp only [h4, h5, ssH, Nat.reduceAdd, Nat.reduceLeDiff, reduceIte, Nat.reduceEqDiff, Nat.reduceLT, Int.reduceBEq, Int.reduceBNe]
        exact bodyH_ret resV_one ⟨(by simp only [tget_zero, tget_succ, nbS]), _, rfl, nb_rdR (L := L), by simp [tget, isS, h4, h5], rfl⟩
    · simp only [h4, ssH, Nat.reduceAdd, Nat.reduceLeDiff, reduceIte, Nat.reduceEqDiff, Nat.reduceLT, Int.reduceBEq, Int.reduceBNe]
      exact bodyH_ret resV_one ⟨(by simp only [tget_zero, tget_succ, nbS]), _, rfl, nb_rdR (L := L), by simp [tget, isS, h4], rfl⟩
  · simp only [ssH, Nat.reduceAdd, Nat.reduceLeDiff, reduceIte, Nat.reduceEqDiff, Nat.reduceLT, Int.reduceBEq, Int.reduceBNe]
    exact bodyH_ret resV_one ⟨(by simp only [tget_zero, tget_succ, nbS]), _, rfl, nb_rdR (L := L), by simp [tget], rfl⟩
theorem kTake_no (hs : t :: l <:+ L) (hr : m rb = some (rdS L (t :: l) b)) (h : (!b && isS s t) = false) : ACalls Tryz.prog Γ 209 [.ptr rb 0, bs s] m fun o m' => o = .ret (.val (.bool false)) ∧ m' = m := by
  refine acalls_lk hr (acalls_c mixed F209_ok F209_h gok_nil hr nb_rdR (by first | exact LR.nil | simp only [nbS]) ?_)
  simp only [F209, q, qn, qg, qh, ss0, Nat.reduceSub, Nat.reduceAdd]
  simp only [ssH, Nat.reduceAdd, Nat.reduceLeDiff, reduceIte, Nat.reduceEqDiff, Nat.reduceLT, Int.reduceBEq, Int.reduceBNe]
  refine hcall_look (b := 0) (az := [bs s]) (v := .val (.bool false)) rfl rfl (fun m b' hh => by have := kIs_ok (Γ := Γ) (s := s) hs hh; rw [h] at this; exact this) nb_rdR (by first | exact LR.nil | simp only [nbS]) (by first | exact LR.nil | simp only [nbS]) ?_
  simp only [ssH, Nat.reduceAdd, Nat.reduceLeDiff, reduceIte, Nat.reduceEqDiff, Nat.reduceLT, Int.reduceBEq, Int.reduceBNe]
  exact bodyH_ret resV_one ⟨(by simp only [tget_zero, tget_succ, nbS]), _, rfl, nb_rdR (L := L), rfl, rfl⟩
theorem kTake_yes (hL : L.length < 4611686018427387904) (hs : t :: l <:+ L) (hr : m rb = some (rdS L (t :: l) false)) (h : isS s t = true) : ACalls Tryz.prog Γ 209 [.ptr rb 0, bs s] m fun o m' => o = .ret (.val (.bool true)) ∧ m' = m.set rb (rdS L l false) := by
  refine acalls_cv (acalls_c mixed F209_ok F209_h gok_nil hr nb_rdR (by first | exact LR.nil | simp only [nbS]) ?_)
  simp only [F209, q, qn, qg, qh, ss0, Nat.reduceSub, Nat.reduceAdd]
  simp only [ssH, Nat.reduceAdd, Nat.reduceLeDiff, reduceIte, Nat.reduceEqDiff, Nat.reduceLT, Int.reduceBEq, Int.reduceBNe]
  refine hcall_look (b := 0) (az := [bs s]) (v := .val (.bool true)) rfl rfl (fun m b' hh => by have := kIs_ok (Γ := Γ) (s := s) hs hh; rw [h] at this; exact this) nb_rdR (by first | exact LR.nil | simp only [nbS]) (by first | exact LR.nil | simp only [nbS]) ?_
  simp only [rdS, rdR, next_i64 (show L.length - (l.length + 1) < 4611686018427387904 by omega), sfx_next' hs, ssH, Nat.reduceAdd, Nat.reduceLeDiff, reduceIte, Nat.reduceEqDiff, Nat.reduceLT, Int.reduceBEq, Int.reduceBNe]
  exact bodyH_ret resV_one ⟨(by simp only [tget_zero, tget_succ, nbS]), _, rfl, nb_rdR (L := L), rfl, rfl⟩
theorem kMust_no (hs : t :: l <:+ L) (hr : m rb = some (rdS L (t :: l) b)) (h : (!b && isS s t) = false) : ACalls Tryz.prog Γ 211 [.ptr rb 0, bs s] m fun o m' => o = .ret (.tup []) ∧ m' = m.set rb (rdS L (t :: l) true) := by
  refine acalls_cv (acalls_c mixed F211_ok F211_h gok_nil hr nb_rdR (by first | exact LR.nil | simp only [nbS]) ?_)
  simp only [F211, q, qn, qg, qh, ss0, Nat.reduceSub, Nat.reduceAdd]
  simp only [ssH, Nat.reduceAdd, Nat.reduceLeDiff, reduceIte, Nat.reduceEqDiff, Nat.reduceLT, Int.reduceBEq, Int.reduceBNe]
  refine hcall_look (b := 0) (az := [bs s]) (v := .val (.bool false)) rfl rfl (fun m b' hh => kTake_no hs hh h) nb_rdR (by first | exact LR.nil | simp only [nbS]) (by first | exact LR.nil | simp only [nbS]) ?_
  simp only [rdS, rdR, ssH, Nat.reduceAdd, Nat.reduceLeDiff, reduceIte, Nat.reduceEqDiff, Nat.reduceLT, Int.reduceBEq, Int.reduceBNe]
  exact bodyH_normal rfl ⟨(by first | exact LR.nil | simp only [nbS]), _, rfl, nb_rdR (L := L), rfl, rfl⟩
theorem kMust_yes (hL : L.length < 4611686018427387904) (hs : t :: l <:+ L) (hr : m rb = some (rdS L (t :: l) false)) (h : isS s t = true) : ACalls Tryz.prog Γ 211 [.ptr rb 0, bs s] m fun o m' => o = .ret (.tup []) ∧ m' = m.set rb (rdS L l false) := by
  refine acalls_cv (acalls_c mixed F211_ok F211_h gok_nil hr nb_rdR (by first | exact LR.nil | simp only [nbS]) ?_)
  simp only [F211, q, qn, qg, qh, ss0, Nat.reduceSub, Nat.reduceAdd]
  simp only [ssH, Nat.reduceAdd, Nat.reduceLeDiff, reduceIte, Nat.reduceEqDiff, Nat.reduceLT, Int.reduceBEq, Int.reduceBNe]
  refine hcall_cell (b := 0) (az := [bs s]) (v := .val (.bool true)) rfl rfl (fun m b' hh => kTake_yes hL hs hh h) nb_rdR nb_rdR (by first | exact LR.nil | simp only [nbS]) (by first | exact LR.nil | simp only [nbS]) ?_
  simp only [ssH, Nat.reduceAdd, Nat.reduceLeDiff, reduceIte, Nat.reduceEqDiff, Nat.reduceLT, Int.reduceBEq, Int.reduceBNe]
  exact bodyH_normal rfl ⟨(by first | exact LR.nil | simp only [nbS]), _, rfl, nb_rdR (L := L), rfl, rfl⟩
theorem kName_yes (hL : L.length < 4611686018427387904) (hs : t :: l <:+ L) (hr : m rb = some (rdS L (t :: l) false)) (h : t.k = 1) : ACalls Tryz.prog Γ 212 [.ptr rb 0] m fun o m' => o = .ret (bs t.s) ∧ m' = m.set rb (rdS L l false) := by
  refine acalls_cv (acalls_c mixed F212_ok F212_h gok_nil hr nb_rdR (by first | exact LR.nil | simp only [nbS]) ?_)
  simp only [F212, q, qn, qg, qh, ss0, Nat.reduceSub, Nat.reduceAdd]
  simp only [ssH, Nat.reduceAdd, Nat.reduceLeDiff, reduceIte, Nat.reduceEqDiff, Nat.reduceLT, Int.reduceBEq, Int.reduceBNe]
  refine hcall_look (b := 0) rfl rfl (fun m b' hh => kTok_ok hs hh) nb_rdR (by first | exact LR.nil | simp only [nbS]) (nb_tkV t) ?_
  simp only [tkV, rdS, rdR, h, next_i64 (show L.length - (l.length + 1) < 4611686018427387904 by omega), sfx_next' hs, ssH, Nat.reduceAdd, Nat.reduceLeDiff, reduceIte, Nat.reduceEqDiff, Nat.reduceLT, Int.reduceBEq, Int.reduceBNe]
  exact bodyH_ret resV_one ⟨(by simp only [tget_zero, tget_succ, nbS]), _, rfl, nb_rdR (L := L), rfl, rfl⟩
theorem kName_no (hs : t :: l <:+ L) (hr : m rb = some (rdS L (t :: l) b)) (h : b = true ∨ t.k ≠ 1) : ACalls Tryz.prog Γ 212 [.ptr rb 0] m fun o m' => o = .ret (bs []) ∧ m' = m.set rb (rdS L (t :: l) true) := by
  refine acalls_cv (acalls_c mixed F212_ok F212_h gok_nil hr nb_rdR (by first | exact LR.nil | simp only [nbS]) ?_)
  simp only [F212, q, qn, qg, qh, ss0, Nat.reduceSub, Nat.reduceAdd]
  simp only [ssH, Nat.reduceAdd, Nat.reduceLeDiff, reduceIte, Nat.reduceEqDiff, Nat.reduceLT, Int.reduceBEq, Int.reduceBNe]
  refine hcall_look (b := 0) rfl rfl (fun m b' hh => kTok_ok hs hh) nb_rdR (by first | exact LR.nil | simp only [nbS]) (nb_tkV t) ?_
  cases b
  · have hk : (t.k != 1) = true := by rcases h with h | h; · cases h
                                      · simpa using h
    simp only [tkV, rdS, rdR, hk, ssH, Nat.reduceAdd, Nat.reduceLeDiff, reduceIte, Nat.reduceEqDiff, Nat.reduceLT, Int.reduceBEq, Int.reduceBNe]
    exact bodyH_ret resV_one ⟨(by simp only [tget_zero, tget_succ, nbS]), _, rfl, nb_rdR (L := L), rfl, rfl⟩
  · simp only [tkV, rdS, rdR, ssH, Nat.reduceAdd, Nat.reduceLeDiff, reduceIte, Nat.reduceEqDiff, Nat.reduceLT, Int.reduceBEq, Int.reduceBNe]
    exact bodyH_ret resV_one ⟨(by simp only [tget_zero, tget_succ, nbS]), _, rfl, nb_rdR (L := L), rfl, rfl⟩
end
end Go.Av.Fn
/- Functions of a cell whose answer is told without its slices' ends. No condition. -/
namespace Go.Av
set_option linter.unusedSimpArgs false
set_option linter.unusedVariables false
mutual
theorem VR.wk {R : Ren} : ∀ {v v' : V}, VR R v v' → VR R (weak v) (weak v')
 | _, _, .val v => .val v
 | _, _, .ptr o r => .ptr o r
 | _, _, .elt r => .elt r
 | _, _, .sl a b c => by
  simp only [Av.weak]
  exact .sl (LR.wk a) (LR.wk b) trivial
 | _, _, .fn h a b => .fn h a b
 | _, _, .ifc r => .ifc r
 | _, _, .agg r => by
  simp only [Av.weak]
  exact .agg (LR.wk r)
 | _, _, .tup r => by
  simp only [Av.weak]
  exact .tup (LR.wk r)
 | _, _, .arr o l c r => .arr o l c r
 | _, _, .res v z n r => .res v z n r
theorem LR.wk {R : Ren} : ∀ {v v' : List V}, LR R v v' → LR R (weaks v) (weaks v')
 | _, _, .nil => .nil
 | _, _, .cons a b => .cons (VR.wk a) (LR.wk b)
end
section
variable {P : Program} {Γ : Glob} {H : Nat → List (Nat × List Nat) × List Nat} {f : FuncId} {F : AFn} {gs : List Nat} {m : Store}
theorem acalls_cw (hm : P.follows .mixedOrders = true) (hF : compFn P H f = some F) (hok : F.body.okH gs = true) (hG : GOk Γ gs) {rb o : Nat} {az : List V} {X : Blk} (hb : m rb = some X) (hX : nbB 0 X) (ha : nbs 0 az) {Q : V → Blk → Prop}
  (h : hawp P Γ (fun _ _ => False) 1 F.body (bodyH F.res fun v h' => nb 0 (weak v) ∧ ∃ Y, lk h' 0 = some Y ∧ nbB 0 Y ∧ Q (weak v) Y) ⟨start F.ntmps (.ptr 0 o :: az), [some X]⟩) :
  ACalls P Γ f (.ptr rb o :: az) m fun o m' => ∃ v Y, o = .ret v ∧ m' = m.set rb Y ∧ Q v Y := by
 have h1 := acalls_h (P := P) (Γ := Γ) (R0 := fun a c => a = 0 ∧ c = rb) (N := 1) (m := one rb X) hm hF hok hG (args0 := .ptr 0 o :: az) (args := .ptr rb o :: az) (.cons (.ptr o ⟨rfl, rfl⟩) (ha.up _)) (hh_one hX) (fun _ _ q => by omega) (Q := fun o h' => match o with | .ret v => nb 0 (weak v) ∧ ∃ Y, lk h' 0 = some Y ∧ nbB 0 Y ∧ Q (weak v) Y | .pan _ => False) h
 have h2 := h1.frame (one_disj rb X (m := m))
 rw [one_del hb] at h2
 refine ACalls.weak (R := fun o m' => ∃ v Y, o = .ret v ∧ m' = m.set rb Y ∧ Q (weak v) Y) (ACalls.less h2 ?_) ?_ ?_
 ·rintro o m'' ⟨m', rfl, d, S, o0, h', s1, s2, s3, s4⟩
  cases o0 with
  | pan v => exact s4.elim
  | ret v =>
   cases o with
   | pan v' => exact s3.elim
   | ret v' =>
    obtain ⟨q1, Y, q2, q3, q4⟩ := s4
    obtain ⟨Y', g1, g2⟩ := s2.blk _ _ _ (s1 _ _ ⟨rfl, rfl⟩) q2
    obtain rfl := nbB_eq q3 g2
    have e3 : weak v' = weak v := nb_eq q1 (VR.wk s3)
    refine ⟨m.set rb Y', ?_, v', Y', rfl, rfl, by rw [e3]; exact q4⟩
    intro b x hx
    by_cases e : b = rb
    ·subst e
     rw [Store.set_same] at hx
     cases hx
     simp only [Store.or, g1]
    ·rw [Store.set_ne _ _ e] at hx
     rcases d b with q | q
     ·simp only [Store.or, q, del, if_neg e]; exact hx
     ·simp only [del, if_neg e] at q
      rw [q] at hx
      cases hx
 ·rintro v m' ⟨v', Y, e, e2, q⟩
  cases e
  exact ⟨_, Y, rfl, e2, q⟩
 ·rintro v m' ⟨v', Y, e, _⟩
  cases e
end
end Go.Av
/- The document's table of signs. No condition. -/
namespace Go.Av.Fn
set_option linter.unusedSimpArgs false
set_option linter.unusedVariables false
set_option maxRecDepth 10000
open Go.Proofs
def tabK : List (List (List UInt8)) := [[[124, 124]], [[38, 38]], [[61, 61], [33, 61]], [[60], [60, 61], [62], [62, 61]], [[43], [45]], [[42], [47], [37]]]
def rowV (r : List (List UInt8)) : V := .sl (r.map bs) [] .full
def tabV : V := .sl (tabK.map rowV) [] .full
theorem tab_level {i k : Nat} {r : List (List UInt8)} {x : List UInt8} (hr : tabK[i]? = some r) (hx : r[k]? = some x) : level x = i := by
 have hi : i < 6 := (List.getElem?_eq_some_iff.1 hr).1
 have : i = 0 ∨ i = 1 ∨ i = 2 ∨ i = 3 ∨ i = 4 ∨ i = 5 := by omega
 have hm := List.mem_of_getElem? hx
 rcases this with rfl | rfl | rfl | rfl | rfl | rfl <;> cases hr <;> simp only [List.mem_cons, List.not_mem_nil, or_false] at hm
 ·subst hm; rfl
 ·subst hm; rfl
 ·rcases hm with rfl | rfl <;> rfl
 ·rcases hm with rfl | rfl | rfl | rfl <;> rfl
 ·rcases hm with rfl | rfl <;> rfl
 ·rcases hm with rfl | rfl | rfl <;> rfl
theorem tab_none {s : List UInt8} (h : ∀ r ∈ tabK, s ∉ r) : level s = -1 := by
 simp only [tabK, List.mem_cons, List.not_mem_nil, or_false, forall_eq_or_imp, forall_eq, not_or] at h
 obtain ⟨h0, h1, ⟨h2, h3⟩, ⟨h4, h5, h6, h7⟩, ⟨h8, h9⟩, h10, h11, h12⟩ := h
 simp [level, h0, h1, h2, h3, h4, h5, h6, h7, h8, h9, h10, h11, h12]
theorem nb_tab {k : Nat} : nb k tabV := by
 unfold tabV tabK
 simp only [List.map, rowV, nbS]
theorem row_len : ∀ i : Nat, i < 6 → ∃ r, tabK[i]? = some r ∧ r.length ≤ 4 := by
 intro i hi
 have : i = 0 ∨ i = 1 ∨ i = 2 ∨ i = 3 ∨ i = 4 ∨ i = 5 := by omega
 rcases this with rfl | rfl | rfl | rfl | rfl | rfl <;> exact ⟨_, rfl, by decide⟩
theorem idx_tab {i : Nat} {r : List (List UInt8)} (h : tabK[i]? = some r) : idxLV 1 (.sl (tabK.map rowV) [] .full) (it i) = some (.elt [rowV r]) := idxLV_nat (e := rowV r) (by rw [List.getElem?_map, h]; rfl) rfl
theorem idx_row {r : List (List UInt8)} {k : Nat} {x : List UInt8} (h : r[k]? = some x) : idxLV 1 (.sl (r.map bs) [] .full) (it k) = some (.elt [bs x]) := idxLV_nat (e := bs x) (by rw [List.getElem?_map, h]; rfl) rfl
theorem kLine_ok {Γ : Glob} {m : Store} {s : List UInt8} : ACalls Tryz.prog Γ 183 [bs s] m fun o m' => o = .ret (it (level s)) ∧ m' = m := by
 refine acalls_v (acalls_p mixed F183_ok F183_h gok_nil (by first | exact LR.nil | simp only [nbS]) ?_)
 simp only [F183, q, qn, qg, qh, ss0, Nat.reduceSub, Nat.reduceAdd]
 have e7 : ∀ {t : List V} {m : Store}, evalL Tryz.prog (ev Γ t) m (.lits 1 [V.val (Value.string (ByteArray.mk #[]))] 1 [(0, .const (.string (ByteArray.mk #[124, 124])))]) = some (rowV [[124, 124]]) := fun {t m} => rfl
 have e8 : ∀ {t : List V} {m : Store}, evalL Tryz.prog (ev Γ t) m (.lits 1 [V.val (Value.string (ByteArray.mk #[]))] 1 [(0, .const (.string (ByteArray.mk #[38, 38])))]) = some (rowV [[38, 38]]) := fun {t m} => rfl
 have e9 : ∀ {t : List V} {m : Store}, evalL Tryz.prog (ev Γ t) m (.lits 1 [V.val (Value.string (ByteArray.mk #[]))] 2 [(0, .const (.string (ByteArray.mk #[61, 61]))), (1, .const (.string (ByteArray.mk #[33, 61])))]) = some (rowV [[61, 61], [33, 61]]) := fun {t m} => rfl
 have e10 : ∀ {t : List V} {m : Store}, evalL Tryz.prog (ev Γ t) m (.lits 1 [V.val (Value.string (ByteArray.mk #[]))] 4 [(0, .const (.string (ByteArray.mk #[60]))), (1, .const (.string (ByteArray.mk #[60, 61]))), (2, .const (.string (ByteArray.mk #[62]))), (3, .const (.string (ByteArray.mk #[62, 61])))]) = some (rowV [[60], [60, 61], [62], [62, 61]]) := fun {t m} => rfl
 have e11 : ∀ {t : List V} {m : Store}, evalL Tryz.prog (ev Γ t) m (.lits 1 [V.val (Value.string (ByteArray.mk #[]))] 2 [(0, .const (.string (ByteArray.mk #[43]))), (1, .const (.string (ByteArray.mk #[45])))]) = some (rowV [[43], [45]]) := fun {t m} => rfl
 have e12 : ∀ {t : List V} {m : Store}, evalL Tryz.prog (ev Γ t) m (.lits 1 [V.val (Value.string (ByteArray.mk #[]))] 3 [(0, .const (.string (ByteArray.mk #[42]))), (1, .const (.string (ByteArray.mk #[47]))), (2, .const (.string (ByteArray.mk #[37])))]) = some (rowV [[42], [47], [37]]) := fun {t m} => rfl
 have e13 : ∀ {t : List V} {m : Store}, tget t 6 = rowV [[124, 124]] → tget t 7 = rowV [[38, 38]] → tget t 8 = rowV [[61, 61], [33, 61]] → tget t 9 = rowV [[60], [60, 61], [62], [62, 61]] → tget t 10 = rowV [[43], [45]] → tget t 11 = rowV [[42], [47], [37]] → evalL Tryz.prog (ev Γ t) m (.lits 1 [V.sl [] [] Tok.full] 6 [(0, .tmp 6), (1, .tmp 7), (2, .tmp 8), (3, .tmp 9), (4, .tmp 10), (5, .tmp 11)]) = some tabV := by
  intro t m h6 h7 h8 h9 h10 h11
  show (litsV 1 [V.sl [] [] Tok.full, V.sl [] [] Tok.full, V.sl [] [] Tok.full, V.sl [] [] Tok.full, V.sl [] [] Tok.full, V.sl [] [] Tok.full] [(0, ev Γ t (.tmp 6)), (1, ev Γ t (.tmp 7)), (2, ev Γ t (.tmp 8)), (3, ev Γ t (.tmp 9)), (4, ev Γ t (.tmp 10)), (5, ev Γ t (.tmp 11))]).map (fun es => V.sl es [] .full) = _
  simp only [ev_tmp]
  rw [h6, h7, h8, h9, h10, h11]
  rfl
 simp only [e7, e8, e9, e10, e11, e12, ssH, Nat.reduceAdd, Nat.reduceLeDiff, reduceIte, Nat.reduceEqDiff, Nat.reduceLT, Int.reduceBEq, Int.reduceBNe]
 rw [e13 rfl rfl rfl rfl rfl rfl]
 simp only [ssH, Nat.reduceAdd, Nat.reduceLeDiff, reduceIte, Nat.reduceEqDiff, Nat.reduceLT, Int.reduceBEq, Int.reduceBNe]
 clear e7 e8 e9 e10 e11 e12 e13
 refine h_loop [0, 3, 4] 38 (fun n vs h => ∃ i : Nat, vs = [bs s, tabV, it i] ∧ i + n = 7 ∧ i ≤ 6 ∧ ∀ r ∈ tabK.take i, s ∉ r) 7 (by decide) (by decide) (List.range 0) (back_take rfl (Nat.le_refl _) (by decide) (by simp) (by simp only [List.map, tget_zero, tget_succ, nb_tab, nbS]) (fun a ha => by omega) ⟨0, rfl, rfl, by omega, by simp⟩) ?_
 rintro n t h J hJ hl ⟨i, hv, hn, hi, hs⟩
 simp only [List.map, List.cons.injEq, and_true] at hv
 obtain ⟨h0, h3, h4⟩ := hv
 have hlen : tabK.length = 6 := rfl
 rw [t_eq hl]
 simp only [upTo_succ, upTo, h0, h3, h4, ssH, Nat.reduceAdd, Nat.reduceLeDiff, reduceIte, Nat.reduceEqDiff, Nat.reduceLT, Int.reduceBEq, Int.reduceBNe]
 simp only [tabV, List.length_map, hlen, ssH, Nat.reduceAdd, Nat.reduceLeDiff, reduceIte, Nat.reduceEqDiff, Nat.reduceLT, Int.reduceBEq, Int.reduceBNe]
 by_cases h6 : i < 6
 ·obtain ⟨r, hr, hr4⟩ := row_len i h6
  rw [show decide ((i : Int) < ((6 : Nat) : Int)) = true by simp; omega]
  simp only [ssH, Nat.reduceAdd, Nat.reduceLeDiff, reduceIte, Nat.reduceEqDiff, Nat.reduceLT, Int.reduceBEq, Int.reduceBNe]
  refine h_loop [0, 3, 4, 5] 38 (fun n vs h => ∃ k : Nat, vs = [bs s, tabV, it i, it k] ∧ k + n = 5 ∧ k ≤ r.length ∧ s ∉ r.take k) 5 (by decide) (by decide) (List.range 0) (back_take rfl (Nat.le_refl _) (by decide) (by simp) (by show nbs 0 [bs s, tabV, it i, it 0]; simp only [nb_tab, nbS]) (fun a ha => by omega) ⟨0, rfl, rfl, by omega, by simp⟩) ?_
  rintro n2 t2 h2 J2 hJ2 hl2 ⟨k, hv, hn2, hk, hs2⟩
  simp only [List.map, List.cons.injEq, and_true] at hv
  obtain ⟨h0, h3, h4, h5⟩ := hv
  rw [t_eq hl2]
  simp only [upTo_succ, upTo, h0, h3, h4, h5, tabV, idx_tab hr, rowV, List.length_map, ssH, Nat.reduceAdd, Nat.reduceLeDiff, reduceIte, Nat.reduceEqDiff, Nat.reduceLT, Int.reduceBEq, Int.reduceBNe]
  by_cases hkr : k < r.length
  ·have hx : r[k]? = some r[k] := List.getElem?_eq_getElem hkr
   generalize r[k] = x at hx
   rw [show decide ((k : Int) < (r.length : Int)) = true by simp; omega]
   simp only [idx_tab hr, rowV, idx_row hx, ssH, Nat.reduceAdd, Nat.reduceLeDiff, reduceIte, Nat.reduceEqDiff, Nat.reduceLT, Int.reduceBEq, Int.reduceBNe]
   cases he : (x == s)
   ·simp only [next_i64 (show k < 4611686018427387904 by omega), ssH, Nat.reduceAdd, Nat.reduceLeDiff, reduceIte, Nat.reduceEqDiff, Nat.reduceLT, Int.reduceBEq, Int.reduceBNe]
    refine ⟨_, hJ2 (n2 - 1) (List.range 0) _ (by omega) (back_take rfl (Nat.le_refl _) (by decide) (by simp) (by show nbs 0 [bs s, tabV, it i, it (k + 1 : Nat)]; simp only [nb_tab, nbS]) (fun a ha => by omega) ⟨k + 1, rfl, by omega, by omega, ?_⟩)⟩
    rw [List.take_add_one, hx]
    intro hm
    rcases List.mem_append.1 hm with hm | hm
    ·exact hs2 hm
    ·simp only [Option.toList, List.mem_singleton] at hm
     subst hm
     simp at he
   ·simp only [ssH, Nat.reduceAdd, Nat.reduceLeDiff, reduceIte, Nat.reduceEqDiff, Nat.reduceLT, Int.reduceBEq, Int.reduceBNe]
    have e : x = s := by simpa using he
    exact bodyH_ret resV_one ⟨(by simp only [tget_zero, tget_succ, nbS]), by rw [← e, tab_level hr hx]; rfl⟩
  ·rw [show decide ((k : Int) < (r.length : Int)) = false by simp; omega]
   simp only [next_i64 (show i < 4611686018427387904 by omega), ssH, Nat.reduceAdd, Nat.reduceLeDiff, reduceIte, Nat.reduceEqDiff, Nat.reduceLT, Int.reduceBEq, Int.reduceBNe]
   refine ⟨_, hJ (n - 1) (List.range 0) _ (by omega) (back_take rfl (Nat.le_refl _) (by decide) (by simp) (by show nbs 0 [bs s, tabV, it (i + 1 : Nat)]; simp only [nb_tab, nbS]) (fun a ha => by omega) ⟨i + 1, rfl, by omega, by omega, ?_⟩)⟩
   rw [List.take_add_one, hr]
   intro q hq
   rcases List.mem_append.1 hq with hq | hq
   ·exact hs q hq
   ·simp only [Option.toList, List.mem_singleton] at hq
    have : k = r.length := by omega
    subst this
    rw [hq]
    simpa using hs2
 ·rw [show decide ((i : Int) < ((6 : Nat) : Int)) = false by simp; omega]
  simp only [ssH, Nat.reduceAdd, Nat.reduceLeDiff, reduceIte, Nat.reduceEqDiff, Nat.reduceLT, Int.reduceBEq, Int.reduceBNe]
  have : i = 6 := by omega
  subst this
  exact bodyH_ret resV_one ⟨(by simp only [tget_zero, tget_succ, nbS]), by rw [tab_none hs]; rfl⟩
end Go.Av.Fn
/- The document's rule for what stands between signs. No condition. -/
namespace Go.Av.Fn
set_option linter.unusedSimpArgs false
set_option linter.unusedVariables false
set_option maxRecDepth 10000
open Go.Proofs
def WX : Ex → List V → Prop
 | .mk k s nn kids ln, cs => ∃ vs tok, cs = [it k, bs s, it nn, .sl vs [] tok, it ln] ∧ weaks vs = exVs kids ∧ nbs 0 vs ∧ nbT 0 tok
theorem wx_exV : ∀ g : Ex, WX g (exV g).cells
 | .mk k s nn kids ln => ⟨exVs kids, .no, rfl, weaks_exVs kids, nbs_exVs kids, by rw [nbT_no]; trivial⟩
theorem wx_weak {g : Ex} {cs : List V} (h : WX g cs) : weak (.agg cs) = exV g := by
 obtain ⟨k, s, nn, kids, ln⟩ := g
 obtain ⟨vs, tok, rfl, hv, _, _⟩ := h
 simp only [weak, weaks, exV, hv, bs]
theorem wx_nb {g : Ex} {cs : List V} (h : WX g cs) : nbs 0 cs := by
 obtain ⟨k, s, nn, kids, ln⟩ := g
 obtain ⟨vs, tok, rfl, hv, h1, h2⟩ := h
 simp only [nbS]
 exact ⟨h1, h2⟩
theorem nbs_wx {k : Nat} {g : Ex} {cs : List V} (h : WX g cs) : nbs k cs := nbs_weaken (wx_nb h)
def zX : List V := [.val (.int .i64 0), .val (.string ⟨#[]⟩), .val (.int .i64 0), .sl [] [] .full, .val (.int .i64 0)]
theorem nb_zX {k : Nat} : nbs k zX := by
 unfold zX
 simp only [nbS]
theorem nbB3 {k : Nat} {A B C : Blk} {r : Hl} (hA : nbB k A) (hB : nbB k B) (hC : nbB k C) : ∀ a < 3, ∀ x, lk (some A :: some B :: some C :: r) a = some x → nbB k x := by
 intro a ha x hx
 have : a = 0 ∨ a = 1 ∨ a = 2 := by omega
 rcases this with rfl | rfl | rfl <;> cases hx <;> assumption
theorem nbB_wx {k : Nat} {T : TypeId} {g : Ex} {cs : List V} (h : WX g cs) : nbB k (.var T cs) := by
 rw [nbB_var]
 exact nbs_wx h
theorem nbB_zX {k : Nat} {T : TypeId} : nbB k (.var T zX) := by
 rw [nbB_var]
 exact nb_zX
def KQ (L : List Tk) (p : PR) (v : V) (Y : Blk) : Prop := ∃ g : Ex, v = exV g ∧ Y = rdS L (restP p) (badP p) ∧ ∀ e l, p = .ok [e] l → g = e
theorem kq_nb {L : List Tk} {p : PR} : ∀ v Y, KQ L p v Y → nb 0 v ∧ nbB 0 Y := by
 rintro v Y ⟨g, rfl, rfl, _⟩
 exact ⟨nb_exV g, nb_rdR⟩
def KEx (Γ : Glob) (L : List Tk) (n : Nat) : Prop := ∀ (line : Nat) (l : List Tk) (p : PR) (m : Store) (rb : Nat), line ≤ 6 → l <:+ L → Sgl p → m rb = some (rdS L l false) → run n (.ex line) l = some p →
 ACalls Tryz.prog Γ 153 [.ptr rb 0, it line] m fun o m' => ∃ v Y, o = .ret v ∧ m' = m.set rb Y ∧ KQ L p v Y
def KUn (Γ : Glob) (L : List Tk) (n : Nat) : Prop := ∀ (l : List Tk) (p : PR) (m : Store) (rb : Nat), l <:+ L → Sgl p → m rb = some (rdS L l false) → run n .un l = some p →
 ACalls Tryz.prog Γ 182 [.ptr rb 0] m fun o m' => ∃ v Y, o = .ret v ∧ m' = m.set rb Y ∧ KQ L p v Y
def KSi (Γ : Glob) (L : List Tk) (n : Nat) : Prop := ∀ (l : List Tk) (p : PR) (m : Store) (rb : Nat), l <:+ L → Sgl p → m rb = some (rdS L l false) → run n .si l = some p →
 ACalls Tryz.prog Γ 210 [.ptr rb 0] m fun o m' => ∃ v Y, o = .ret v ∧ m' = m.set rb Y ∧ KQ L p v Y
theorem bind1_next {r : Option PR} {k : Ex → List Tk → Option PR} {p : PR} (h : bind1 r k = some p) : ∃ p1, r = some p1 ∧ Sgl p1 ∧ ∀ g, (∀ e l, p1 = .ok [e] l → g = e) → (badP p1 = true ∧ p = .st (restP p1) ∨ badP p1 = false ∧ k g (restP p1) = some p) := by
 rcases bind1_inv h with ⟨e1, l1, k1, k2⟩ | ⟨l1, k1, rfl⟩
 ·exact ⟨_, k1, ⟨e1, rfl⟩, fun g hq => .inr ⟨rfl, by rw [hq _ _ rfl]; exact k2⟩⟩
 ·exact ⟨_, k1, trivial, fun g hq => .inl ⟨rfl, rfl⟩⟩
theorem kfin {L : List Tk} {p : PR} {g : Ex} {t : List V} {h : Hl} {cs : List V} {i : Nat} (hw : WX g cs) (ht : resV [.cell i (some 5)] ⟨t, lk h⟩ = some (.agg cs)) (h0 : lk h 0 = some (rdS L (restP p) (badP p))) (hq : ∀ e l, p = .ok [e] l → g = e) :
  bodyH [ARes.cell i (some 5)] (fun v h' => nb 0 (weak v) ∧ ∃ Y, lk h' 0 = some Y ∧ nbB 0 Y ∧ KQ L p (weak v) Y) .ret ⟨t, h⟩ := by
 have e := wx_weak hw
 exact bodyH_ret ht ⟨by rw [e]; exact nb_exV g, _, h0, nb_rdR, g, e, rfl, hq⟩
theorem kExpr_ok {Γ : Glob} {L : List Tk} {n : Nat} (hL : L.length < 4611686018427387904) (h : ∀ k < n, KEx Γ L k ∧ KUn Γ L k) : KEx Γ L n := by
 intro line l p m rb hl hs hp1 hr hp
 obtain ⟨j, t, l', rfl, rfl, hg⟩ := run_cons hp
 clear hp
 simp only [step] at hg
 refine acalls_cw mixed F153_ok F153_h gok_nil hr nb_rdR (by first | exact LR.nil | simp only [nbS]) ?_
 simp only [F153, q, qn, qg, qh, ss0, Nat.reduceSub, Nat.reduceAdd]
 simp only [ssH, Nat.reduceAdd, Nat.reduceLeDiff, reduceIte, Nat.reduceEqDiff, Nat.reduceLT, Int.reduceBEq, Int.reduceBNe]
 by_cases h6 : line = 6
 ·subst h6
  rw [if_pos rfl] at hg
  rw [show (((6 : Nat) : Int) == 6) = true from rfl]
  simp only [ssH, Nat.reduceAdd, Nat.reduceLeDiff, reduceIte, Nat.reduceEqDiff, Nat.reduceLT, Int.reduceBEq, Int.reduceBNe]
  refine hcall_cellq (b := 0) (az := []) rfl rfl (fun m b' hh => (h j (by omega)).2 _ p m b' hs hp1 hh hg) nb_rdR (by first | exact LR.nil | simp only [nbS]) kq_nb ?_
  rintro v Y ⟨⟨k, s, nn, kids, ln⟩, rfl, rfl, hq⟩
  simp only [exV, ssH, Nat.reduceAdd, Nat.reduceLeDiff, reduceIte, Nat.reduceEqDiff, Nat.reduceLT, Int.reduceBEq, Int.reduceBNe]
  exact kfin (wx_exV (.mk k s nn kids ln)) rfl rfl hq
 ·rw [if_neg h6] at hg
  rw [show ((line : Int) == 6) = false by simp; omega]
  simp only [next_i64 (show line < 4611686018427387904 by omega), ssH, Nat.reduceAdd, Nat.reduceLeDiff, reduceIte, Nat.reduceEqDiff, Nat.reduceLT, Int.reduceBEq, Int.reduceBNe]
  obtain ⟨p1, k1, hs1, hf⟩ := bind1_next hg
  refine hcall_cellq (b := 0) (az := [it (line + 1 : Nat)]) rfl rfl (fun m b' hh => (h j (by omega)).1 (line + 1) _ p1 m b' (by omega) hs hs1 hh k1) nb_rdR (by first | exact LR.nil | simp only [nbS]) kq_nb ?_
  rintro v Y ⟨⟨k, s, nn, kids, ln⟩, rfl, rfl, hq⟩
  have hf := hf _ hq
  have hsx : restP p1 <:+ L := (run_sfx j _ _ _ k1).trans hs
  simp only [exV, ssH, Nat.reduceAdd, Nat.reduceLeDiff, reduceIte, Nat.reduceEqDiff, Nat.reduceLT, Int.reduceBEq, Int.reduceBNe]
  refine h_loop [0, 1, 4, 5] 55 (fun n vs h => ∃ g l1 b cs, vs = [.ptr 0 0, it line, .ptr 1 0, .ptr 2 0] ∧ h = [some (rdS L l1 b), some (.var 170 zX), some (.var 170 cs)] ∧ WX g cs ∧ l1 <:+ L ∧ n ≤ j ∧ (b = true ∧ p = .st l1 ∨ b = false ∧ run n (.lp line g) l1 = some p)) j (by decide) (by decide) (List.range 3) (back_take rfl (by decide) (by decide) (by simp) (by show nbs 3 [.ptr 0 0, it line, .ptr 1 0, .ptr 2 0]; simp only [nbS]; decide) (nbB3 nb_rdR nbB_zX (nbB_wx (wx_exV (.mk k s nn kids ln)))) ⟨.mk k s nn kids ln, restP p1, badP p1, _, rfl, rfl, wx_exV _, hsx, Nat.le_refl _, hf⟩) ?_
  ·rintro n tt hh J hJ hl2 ⟨⟨k, s, nn, kids, ln⟩, l1, b, cs, hv, rfl, hw, hsx, hn, hc⟩
   have hwk := hw
   obtain ⟨vs, tok, rfl, hw1, hw2, hw3⟩ := hw
   simp only [List.map, List.cons.injEq, and_true] at hv
   obtain ⟨h0, h1, h4, h5⟩ := hv
   rw [t_eq hl2]
   simp only [upTo_succ, upTo, h0, h1, h4, h5, rdS, rdR, ssH, Nat.reduceAdd, Nat.reduceLeDiff, reduceIte, Nat.reduceEqDiff, Nat.reduceLT, Int.reduceBEq, Int.reduceBNe]
   rcases hc with ⟨rfl, rfl⟩ | ⟨rfl, hc⟩
   ·simp only [zX, ssH, Nat.reduceAdd, Nat.reduceLeDiff, reduceIte, Nat.reduceEqDiff, Nat.reduceLT, Int.reduceBEq, Int.reduceBNe]
    exact kfin hwk rfl rfl (by rintro e l ⟨⟩)
   ·obtain ⟨i, tk, l2, rfl, rfl, hg2⟩ := run_cons hc
    clear hc
    simp only [step] at hg2
    simp only [ssH, Nat.reduceAdd, Nat.reduceLeDiff, reduceIte, Nat.reduceEqDiff, Nat.reduceLT, Int.reduceBEq, Int.reduceBNe]
    refine hcall_look (b := 0) (az := []) rfl rfl (fun m b' hh => kTok_ok hsx hh) nb_rdR (by first | exact LR.nil | simp only [nbS]) (nb_tkV tk) ?_
    simp only [tkV, ssH, Nat.reduceAdd, Nat.reduceLeDiff, reduceIte, Nat.reduceEqDiff, Nat.reduceLT, Int.reduceBEq, Int.reduceBNe]
    cases hk : (tk.k == 4)
    ·simp only [hk, Bool.false_and, Bool.false_eq_true, if_false, Option.some.injEq] at hg2
     subst hg2
     simp only [zX, ssH, Nat.reduceAdd, Nat.reduceLeDiff, reduceIte, Nat.reduceEqDiff, Nat.reduceLT, Int.reduceBEq, Int.reduceBNe]
     exact kfin hwk rfl rfl (by rintro e l ⟨⟩; rfl)
    ·simp only [ssH, Nat.reduceAdd, Nat.reduceLeDiff, reduceIte, Nat.reduceEqDiff, Nat.reduceLT, Int.reduceBEq, Int.reduceBNe]
     refine hcall_look (b := 0) (az := []) rfl rfl (fun m b' hh => kTok_ok hsx hh) nb_rdR (by first | exact LR.nil | simp only [nbS]) (nb_tkV tk) ?_
     simp only [tkV, ssH, Nat.reduceAdd, Nat.reduceLeDiff, reduceIte, Nat.reduceEqDiff, Nat.reduceLT, Int.reduceBEq, Int.reduceBNe]
     refine hcall_pure (v := it (level tk.s)) (by exact fun m => kLine_ok) (by first | exact LR.nil | simp only [nbS]) (by first | exact LR.nil | simp only [nbS]) ?_
     simp only [ssH, Nat.reduceAdd, Nat.reduceLeDiff, reduceIte, Nat.reduceEqDiff, Nat.reduceLT, Int.reduceBEq, Int.reduceBNe]
     cases hlv : (level tk.s == (line : Int))
     ·simp only [hk, hlv, Bool.and_false, Bool.false_eq_true, if_false, Option.some.injEq] at hg2
      subst hg2
      simp only [zX, ssH, Nat.reduceAdd, Nat.reduceLeDiff, reduceIte, Nat.reduceEqDiff, Nat.reduceLT, Int.reduceBEq, Int.reduceBNe]
      exact kfin hwk rfl rfl (by rintro e l ⟨⟩; rfl)
     ·simp only [hk, hlv, Bool.and_self, if_true] at hg2
      simp only [ssH, Nat.reduceAdd, Nat.reduceLeDiff, reduceIte, Nat.reduceEqDiff, Nat.reduceLT, Int.reduceBEq, Int.reduceBNe]
      refine hcall_look (b := 0) (az := []) rfl rfl (fun m b' hh => kTok_ok hsx hh) nb_rdR (by first | exact LR.nil | simp only [nbS]) (nb_tkV tk) ?_
      simp only [tkV, next_i64 (show L.length - (l2.length + 1) < 4611686018427387904 by omega), next_i64 (show line < 4611686018427387904 by omega), sfx_next' hsx, ssH, Nat.reduceAdd, Nat.reduceLeDiff, reduceIte, Nat.reduceEqDiff, Nat.reduceLT, Int.reduceBEq, Int.reduceBNe]
      obtain ⟨p2, k2, hs2, hf2⟩ := bind1_next hg2
      have hsx2 : l2 <:+ L := (List.suffix_cons tk l2).trans hsx
      have hsx3 : restP p2 <:+ L := (run_sfx i _ _ _ k2).trans hsx2
      refine hcall_cellq (b := 0) (az := [it (line + 1 : Nat)]) rfl rfl (fun m b' hh => (h i (by omega)).1 (line + 1) l2 p2 m b' (by omega) hsx2 hs2 hh k2) (nb_rdR (L := L)) (by first | exact LR.nil | simp only [nbS]) kq_nb ?_
      rintro v Y ⟨e2, rfl, rfl, hq2⟩
      have hf2 := hf2 _ hq2
      simp only [lit52_eq, lits5_two (v := .agg [it k, bs s, it nn, .sl vs [] tok, it ln]) (u := exV e2) rfl (exV_cells e2), zX, ssH, Nat.reduceAdd, Nat.reduceLeDiff, reduceIte, Nat.reduceEqDiff, Nat.reduceLT, Int.reduceBEq, Int.reduceBNe]
      refine ⟨_, hJ i (List.range 3) _ (by omega) (back_take rfl (by decide) (by decide) (by simp) (by show nbs 3 [.ptr 0 0, it line, .ptr 1 0, .ptr 2 0]; simp only [nbS]; decide) (nbB3 nb_rdR nbB_zX (nbB_wx (g := .mk 7 tk.s 0 [.mk k s nn kids ln, e2] ln) ?_)) ⟨.mk 7 tk.s 0 [.mk k s nn kids ln, e2] ln, restP p2, badP p2, _, rfl, rfl, ?_, hsx3, by omega, hf2⟩)⟩
      all_goals
       refine ⟨[.agg [it k, bs s, it nn, .sl vs [] tok, it ln], exV e2], .full, rfl, ?_, ?_, by rw [nbT_full]; trivial⟩
       ·simp only [weaks, weak, exVs, exV, hw1, weak_exV, bs]
       ·simp only [nbS]
        exact ⟨⟨hw2, hw3⟩, nb_exV e2⟩
end Go.Av.Fn
/- The document's rule for rows of expressions. No condition. -/
namespace Go.Av.Fn
set_option linter.unusedSimpArgs false
set_option linter.unusedVariables false
set_option maxRecDepth 10000
open Go.Proofs
def Ne (r : Option PR) : Prop := ∀ l1, r = some (.st l1) → l1 ≠ []
theorem ne_bind1 {r : Option PR} {k : Ex → List Tk → Option PR} (h : Ne r) (hk : ∀ e l1, Ne (k e l1)) : Ne (bind1 r k) := by
 intro l hp
 rcases bind1_inv hp with ⟨e, l1, h1, h2⟩ | ⟨l1, h1, h2⟩
 ·exact hk e l1 _ h2
 ·cases h2
  exact h _ h1
theorem ne_bindL {r : Option PR} {k : List Ex → List Tk → Option PR} (h : Ne r) (hk : ∀ e l1, Ne (k e l1)) : Ne (bindL r k) := by
 intro l hp
 rcases bindL_inv hp with ⟨e, l1, h1, h2⟩ | ⟨l1, h1, h2⟩
 ·exact hk e l1 _ h2
 ·cases h2
  exact h _ h1
theorem ne_ok {es : List Ex} {l : List Tk} : Ne (some (.ok es l)) := fun _ h => by cases h
theorem ne_must {s : List UInt8} {l : List Tk} {k : List Tk → Option PR} (hk : ∀ l1, Ne (k l1)) : Ne (mustK s l k) := by
 unfold mustK
 cases l with
 | nil => intro p hp; cases hp
 | cons t r =>
  simp only
  split
  ·exact hk r
  ·rintro l1 ⟨⟩ ⟨⟩
theorem ne_name {l : List Tk} {k : List UInt8 → List Tk → Option PR} (hk : ∀ s l1, Ne (k s l1)) : Ne (nameK l k) := by
 unfold nameK
 cases l with
 | nil => intro p hp; cases hp
 | cons t r =>
  simp only
  split
  ·exact hk _ r
  ·rintro l1 ⟨⟩ ⟨⟩
theorem run_ne : ∀ (n : Nat) (r : Rule) (l : List Tk), Ne (run n r l)
 | 0, r, l => by intro p hp; cases hp
 | n + 1, r, [] => by intro p hp; cases hp
 | n + 1, r, t :: l => by
  have ih := run_ne n
  have hrow : ∀ l', Ne (rowR (run n) l') := fun l' => ne_bind1 (ih (.ex 0) l') fun e l1 => ih (.ro [e]) l1
  have hunt : ∀ s l', Ne (untilR (run n) s l') := by
   intro s l'
   unfold untilR
   cases l' with
   | nil => intro p hp; cases hp
   | cons t' r' =>
    simp only
    split
    ·exact ne_ok
    ·exact ne_bindL (hrow _) fun es l1 => ne_must fun l2 => ne_ok
  show Ne (step (run n) t l r)
  cases r with
  | ex line =>
   simp only [step]
   split
   ·exact ih _ _
   ·exact ne_bind1 (ih _ _) fun e l1 => ih _ _
  | lp line e =>
   simp only [step]
   split
   ·exact ne_bind1 (ih _ _) fun e2 l2 => ih _ _
   ·exact ne_ok
  | un =>
   simp only [step]
   split
   ·exact ne_bind1 (ih _ _) fun e l1 => ne_ok
   ·exact ne_bind1 (ih _ _) fun e l1 => ih _ _
  | po e =>
   simp only [step]
   split
   ·exact ne_bind1 (ih _ _) fun e2 l2 => ne_must fun l3 => ih _ _
   ·split
    ·exact ne_name fun s l2 => ih _ _
    ·exact ne_ok
  | ro out =>
   simp only [step]
   split
   ·exact ne_bind1 (ih _ _) fun e l1 => ih _ _
   ·exact ne_ok
  | si =>
   simp only [step, singleR]
   split
   ·exact ne_ok
   ·split
    ·exact ne_ok
    ·split
     ·unfold callR
      cases l with
      | nil => intro p hp; cases hp
      | cons t2 l2 =>
       simp only
       split
       ·exact ne_bindL (hunt _ _) fun es l3 => ne_ok
       ·exact ne_ok
     ·split
      ·exact ne_ok
      ·split
       ·exact ne_ok
       ·split
        ·exact ne_name fun s l2 => ne_must fun l3 => ne_bindL (hunt _ _) fun es l4 => ne_ok
        ·split
         ·exact ne_bindL (hrow _) fun es l2 => ne_must fun l3 => ne_ok
         ·split
          ·exact ne_bind1 (ih _ _) fun e l2 => ne_must fun l3 => ne_ok
          ·rintro l1 ⟨⟩ ⟨⟩
/-! ### Rows -/
def KL (L : List Tk) (p : PR) (v : V) (Y : Blk) : Prop := ∃ gs : List Ex, v = .sl (exVs gs) [] .no ∧ Y = rdS L (restP p) (badP p) ∧ ∀ es l, p = .ok es l → gs = es
theorem kl_nb {L : List Tk} {p : PR} : ∀ v Y, KL L p v Y → nb 0 v ∧ nbB 0 Y := by
 rintro v Y ⟨g, rfl, rfl, _⟩
 refine ⟨?_, nb_rdR⟩
 simp only [nbS]
 exact nbs_exVs g
def Bf (out : List Ex) (tok : Tok) (r : Hl) : Prop := tok = .full ∧ out = [] ∧ r = [] ∨ ∃ k, tok = .tip 1 k ∧ out ≠ [] ∧ r = [some (.tip 170 k)]
theorem bf_blk {X : Blk} {out : List Ex} {tok : Tok} {r : Hl} (h : Bf out tok r) (hX : ∀ k, nbB k X) : ∀ a < 1 + r.length, ∀ x, lk (some X :: r) a = some x → nbB (1 + r.length) x := by
 intro a ha x hx
 rcases h with ⟨rfl, rfl, rfl⟩ | ⟨k, rfl, _, rfl⟩
 ·have : a = 0 := by simp at ha; omega
  subst this
  cases hx
  exact hX _
 ·have : a = 0 ∨ a = 1 := by simp at ha; omega
  rcases this with rfl | rfl
  ·cases hx
   exact hX _
  ·cases hx
   simp only [nbS]
theorem bf_app {P : Program} {Γ : Glob} {Kp : V → Hl → Prop} {s : List (Tmp × Option (Tmp × Bool) × AOp)} {l : List Item} {K : HS → Prop} {t : List V} {d : Option Tmp} {X : Blk} {out : List Ex} {tok : Tok} {r : Hl} {e : Ex} (h : Bf out tok r) (hb : out.length ≤ 1099511627776)
  (hr : ∀ k, hth P Γ Kp s l K (hput t [some X, some (.tip 170 k)] d (some (.sl (exVs (out ++ [e])) [] (.tip 1 k))))) : happS P Γ Kp 170 64 5 (.sl (exVs out) [] tok) (.sl [exV e] [] .full) d s l K t (some X :: r) := by
 have he : elemsB 5 [exV e] = true := by
  obtain ⟨k, s, n, kids, ln⟩ := e
  rfl
 rw [exVs_append] at hr
 rcases h with ⟨rfl, rfl, rfl⟩ | ⟨k, rfl, h0, rfl⟩
 ·exact happ_full (ys := [exV e]) rfl (by simp) (by simp) rfl he (by simp [exVs]) (hr 0)
 ·have hne : exVs out ≠ [] := by
   cases out with
   | nil => exact absurd rfl h0
   | cons x y => simp [exVs]
  exact happ_tip (j := 1) (k := k) (x := .sl [exV e] [] .full) (ys := [exV e]) rfl (by simp) hne rfl (szOk_ex out) he (by rw [exVs_length]; simp; omega) (hr (k + 1))
theorem lfin {L : List Tk} {p : PR} {gs : List Ex} {tok : Tok} {t : List V} {h : Hl} {i : Nat} (ht : tget t i = .sl (exVs gs) [] tok) (h0 : lk h 0 = some (rdS L (restP p) (badP p))) (hq : ∀ es l, p = .ok es l → gs = es) :
  bodyH [ARes.tmp i] (fun v h' => nb 0 (weak v) ∧ ∃ Y, lk h' 0 = some Y ∧ nbB 0 Y ∧ KL L p (weak v) Y) .ret ⟨t, h⟩ := by
 have e : weak (.sl (exVs gs) [] tok) = .sl (exVs gs) [] .no := by simp only [weak, weaks, weaks_exVs]
 refine bodyH_ret resV_one ⟨?_, _, h0, nb_rdR, gs, ?_, rfl, hq⟩
 ·rw [ht, e]
  simp only [nbS]
  exact nbs_exVs gs
 ·rw [ht, e]
def listR (f : Rule → List Tk → Option PR) (s : List UInt8) (one : Bool) (t : Tk) (l : List Tk) : Option PR := if (!one && isS s t) = true then some (.ok [] l) else bindL (rowR f (t :: l)) fun es l2 => mustK s l2 fun l3 => some (.ok es l3)
section
variable {Γ : Glob} {m : Store} {rb n : Nat} {L l : List Tk} {t : Tk} {s : List UInt8} {one : Bool} {p : PR}
theorem kList_ok (hL : L.length < 4611686018427387904) (hn0 : n ≤ 1099511627776) (h : ∀ k ≤ n, KEx Γ L k) (hs : t :: l <:+ L) (hr : m rb = some (rdS L (t :: l) false)) (hp : listR (run n) s one t l = some p) :
  ACalls Tryz.prog Γ 227 [.ptr rb 0, bs s, .val (.bool one)] m fun o m' => ∃ v Y, o = .ret v ∧ m' = m.set rb Y ∧ KL L p v Y := by
 refine acalls_cw mixed F227_ok F227_h gok_nil hr nb_rdR (by first | exact LR.nil | simp only [nbS]) ?_
 simp only [F227, q, qn, qg, qh, ss0, Nat.reduceSub, Nat.reduceAdd]
 simp only [ssH, Nat.reduceAdd, Nat.reduceLeDiff, reduceIte, Nat.reduceEqDiff, Nat.reduceLT, Int.reduceBEq, Int.reduceBNe]
 by_cases hc : (!one && isS s t) = true
 ·obtain ⟨rfl, hi⟩ : one = false ∧ isS s t = true := by simpa using hc
  have : p = .ok [] l := by simpa [listR, hi] using hp.symm
  subst this
  simp only [ssH, Nat.reduceAdd, Nat.reduceLeDiff, reduceIte, Nat.reduceEqDiff, Nat.reduceLT, Int.reduceBEq, Int.reduceBNe]
  refine hcall_cell (b := 0) (az := [bs s]) (v := .val (.bool true)) rfl rfl (fun m b' hh => kTake_yes hL hs hh hi) nb_rdR nb_rdR (by first | exact LR.nil | simp only [nbS]) (by first | exact LR.nil | simp only [nbS]) ?_
  simp only [ssH, Nat.reduceAdd, Nat.reduceLeDiff, reduceIte, Nat.reduceEqDiff, Nat.reduceLT, Int.reduceBEq, Int.reduceBNe]
  exact lfin (gs := []) (tok := .full) rfl rfl (by rintro es l ⟨⟩; rfl)
 ·have hloop : bindL (rowR (run n) (t :: l)) (fun es l2 => mustK s l2 fun l3 => some (.ok es l3)) = some p := by
   simpa [listR, hc] using hp
  obtain ⟨q, hq, hq2⟩ : ∃ q, rowR (run n) (t :: l) = some q ∧ (∀ out l1, q = .ok out l1 → mustK s l1 (fun l3 => some (.ok out l3)) = some p) ∧ (∀ l1, q = .st l1 → p = .st l1) := by
   rcases bindL_inv hloop with ⟨es, l1, h1, h2⟩ | ⟨l1, h1, h2⟩
   ·exact ⟨_, h1, (fun out l1 e => by cases e; exact h2), (fun l1 e => by cases e)⟩
   ·exact ⟨_, h1, (fun out l1 e => by cases e), (fun l1 e => by cases e; exact h2)⟩
  cases one
  case' false =>
   have hi : isS s t = false := by simpa using hc
   simp only [ssH, Nat.reduceAdd, Nat.reduceLeDiff, reduceIte, Nat.reduceEqDiff, Nat.reduceLT, Int.reduceBEq, Int.reduceBNe]
   refine hcall_look (b := 0) (az := [bs s]) (v := .val (.bool false)) rfl rfl (fun m b' hh => kTake_no hs hh (by rw [hi]; rfl)) nb_rdR (by first | exact LR.nil | simp only [nbS]) (by first | exact LR.nil | simp only [nbS]) ?_
  all_goals
   simp only [ssH, Nat.reduceAdd, Nat.reduceLeDiff, reduceIte, Nat.reduceEqDiff, Nat.reduceLT, Int.reduceBEq, Int.reduceBNe]
   refine h_loop [0, 1, 7] 32 (fun j vs h => ∃ out l1 tok r, vs = [.ptr 0 0, bs s, .sl (exVs out) [] tok] ∧ h = some (rdS L l1 false) :: r ∧ Bf out tok r ∧ l1 <:+ L ∧ out.length + j ≤ n ∧ bind1 (run j (.ex 0) l1) (fun e l2 => run j (.ro (out ++ [e])) l2) = some q) n (by decide) (by decide) (List.range 1) (back_take rfl (by decide) (by decide) (by simp) (by show nbs 1 [.ptr 0 0, bs s, .sl [] [] .full]; simp only [nbS]; decide) (bf_blk (.inl ⟨rfl, rfl, rfl⟩) fun k => nb_rdR) ⟨[], t :: l, .full, [], rfl, rfl, .inl ⟨rfl, rfl, rfl⟩, hs, by simp, hq⟩) ?_
   rintro j tt hh J hJ hl2 ⟨out, l1, tok, r, hv, rfl, hb, hsx, hn, hg⟩
   simp only [List.map, List.cons.injEq, and_true] at hv
   obtain ⟨h0, h1, h7⟩ := hv
   rw [t_eq hl2]
   simp only [upTo_succ, upTo, h0, h1, h7, rdS, rdR, ssH, Nat.reduceAdd, Nat.reduceLeDiff, reduceIte, Nat.reduceEqDiff, Nat.reduceLT, Int.reduceBEq, Int.reduceBNe]
   obtain ⟨p1, k1, hs1, hf⟩ := bind1_next hg
   have hsx1 : restP p1 <:+ L := (run_sfx j _ _ _ k1).trans hsx
   refine hcall_cellq (b := 0) (az := [it ((0 : Nat) : Int)]) rfl rfl (fun m b' hh => h j (by omega) 0 l1 p1 m b' (by omega) hsx hs1 hh k1) (nb_rdR (L := L)) (by first | exact LR.nil | simp only [nbS]) kq_nb ?_
   rintro v Y ⟨e, rfl, rfl, hq1⟩
   have hf := hf _ hq1
   simp only [lit5_eq, lits5_one (exV_cells e), ssH, Nat.reduceAdd, Nat.reduceLeDiff, reduceIte, Nat.reduceEqDiff, Nat.reduceLT, Int.reduceBEq, Int.reduceBNe]
   refine bf_app hb (by omega) fun k => ?_
   simp only [ssH, Nat.reduceAdd, Nat.reduceLeDiff, reduceIte, Nat.reduceEqDiff, Nat.reduceLT, Int.reduceBEq, Int.reduceBNe]
   rcases hf with ⟨hbad, hqq⟩ | ⟨hgood, hqq⟩
   ·obtain ⟨t2, l2, rfl⟩ : ∃ t2 l2, p1 = .st (t2 :: l2) := by
     cases p1 with
     | ok es l => cases hbad
     | st l =>
      cases l with
      | nil => exact absurd rfl (run_ne _ _ _ _ k1)
      | cons t2 l2 => exact ⟨t2, l2, rfl⟩
    have hpp := hq2.2 _ hqq
    simp only [restP, badP] at hsx1 hpp ⊢
    subst hpp
    refine hcall_look (b := 0) (az := [bs [44]]) (v := .val (.bool false)) rfl rfl (fun m b' hh => kTake_no hsx1 hh rfl) nb_rdR (by first | exact LR.nil | simp only [nbS]) (by first | exact LR.nil | simp only [nbS]) ?_
    simp only [ssH, Nat.reduceAdd, Nat.reduceLeDiff, reduceIte, Nat.reduceEqDiff, Nat.reduceLT, Int.reduceBEq, Int.reduceBNe]
    refine hcall_cell (b := 0) (az := [bs s]) (v := .tup []) rfl rfl (fun m b' hh => kMust_no hsx1 hh rfl) nb_rdR nb_rdR (by first | exact LR.nil | simp only [nbS]) (by first | exact LR.nil | simp only [nbS]) ?_
    simp only [ssH, Nat.reduceAdd, Nat.reduceLeDiff, reduceIte, Nat.reduceEqDiff, Nat.reduceLT, Int.reduceBEq, Int.reduceBNe]
    exact lfin (gs := out ++ [e]) (tok := .tip 1 k) rfl rfl (by rintro es l ⟨⟩)
   ·obtain ⟨i, t2, l2, rfl, hl3, hg2⟩ := run_cons hqq
    simp only [step] at hg2
    rw [hl3] at hsx1 ⊢
    rw [hgood]
    cases hcm : isS [44] t2
    ·simp only [hcm, Bool.false_eq_true, if_false, Option.some.injEq] at hg2
     have hpp := hq2.1 _ _ hg2.symm
     refine hcall_look (b := 0) (az := [bs [44]]) (v := .val (.bool false)) rfl rfl (fun m b' hh => kTake_no hsx1 hh (by rw [hcm]; rfl)) nb_rdR (by first | exact LR.nil | simp only [nbS]) (by first | exact LR.nil | simp only [nbS]) ?_
     simp only [ssH, Nat.reduceAdd, Nat.reduceLeDiff, reduceIte, Nat.reduceEqDiff, Nat.reduceLT, Int.reduceBEq, Int.reduceBNe]
     simp only [mustK] at hpp
     cases hmm : isS s t2
     ·simp only [hmm, Bool.false_eq_true, if_false, Option.some.injEq] at hpp
      subst hpp
      refine hcall_cell (b := 0) (az := [bs s]) (v := .tup []) rfl rfl (fun m b' hh => kMust_no hsx1 hh (by rw [hmm]; rfl)) nb_rdR nb_rdR (by first | exact LR.nil | simp only [nbS]) (by first | exact LR.nil | simp only [nbS]) ?_
      simp only [ssH, Nat.reduceAdd, Nat.reduceLeDiff, reduceIte, Nat.reduceEqDiff, Nat.reduceLT, Int.reduceBEq, Int.reduceBNe]
      exact lfin (gs := out ++ [e]) (tok := .tip 1 k) rfl rfl (by rintro es l ⟨⟩)
     ·simp only [hmm, if_true, Option.some.injEq] at hpp
      subst hpp
      refine hcall_cell (b := 0) (az := [bs s]) (v := .tup []) rfl rfl (fun m b' hh => kMust_yes hL hsx1 hh hmm) nb_rdR nb_rdR (by first | exact LR.nil | simp only [nbS]) (by first | exact LR.nil | simp only [nbS]) ?_
      simp only [ssH, Nat.reduceAdd, Nat.reduceLeDiff, reduceIte, Nat.reduceEqDiff, Nat.reduceLT, Int.reduceBEq, Int.reduceBNe]
      exact lfin (gs := out ++ [e]) (tok := .tip 1 k) rfl rfl (by rintro es l ⟨⟩; rfl)
    ·simp only [hcm, if_true] at hg2
     refine hcall_cell (b := 0) (az := [bs [44]]) (v := .val (.bool true)) rfl rfl (fun m b' hh => kTake_yes hL hsx1 hh hcm) nb_rdR nb_rdR (by first | exact LR.nil | simp only [nbS]) (by first | exact LR.nil | simp only [nbS]) ?_
     simp only [ssH, Nat.reduceAdd, Nat.reduceLeDiff, reduceIte, Nat.reduceEqDiff, Nat.reduceLT, Int.reduceBEq, Int.reduceBNe]
     have hB : Bf (out ++ [e]) (.tip 1 k) [some (.tip 170 k)] := .inr ⟨k, rfl, by simp, rfl⟩
     refine ⟨_, hJ i (List.range 2) _ (by omega) (back_take rfl (by decide) (by decide) (by simp) ?_ (bf_blk hB fun k => nb_rdR) ⟨out ++ [e], l2, _, _, rfl, rfl, hB, (List.suffix_cons t2 l2).trans hsx1, by simp only [List.length_append, List.length_cons, List.length_nil]; omega, hg2⟩)⟩
     show nbs 2 [.ptr 0 0, bs s, .sl (exVs (out ++ [e])) [] (.tip 1 k)]
     simp only [nbS]
     exact ⟨by decide, nbs_exVs _, by decide⟩
end
end Go.Av.Fn
/- The document's rule for signs ahead and for what stands behind. No condition. -/
namespace Go.Av.Fn
set_option linter.unusedSimpArgs false
set_option linter.unusedVariables false
set_option maxRecDepth 10000
open Go.Proofs
def sg : Nat → List UInt8
 | 0 => [45]
 | _ => [33]
def sgV : V := .sl [bs [45], bs [33]] [] .full
theorem idx_sg {i : Nat} (h : i < 2) : idxLV 1 (.sl [bs [45], bs [33]] [] .full) (it i) = some (.elt [bs (sg i)]) := by
 have : i = 0 ∨ i = 1 := by omega
 rcases this with rfl | rfl
 ·exact idxLV_nat (e := bs [45]) rfl rfl
 ·exact idxLV_nat (e := bs [33]) rfl rfl
theorem nbB2 {k : Nat} {A B : Blk} {r : Hl} (hA : nbB k A) (hB : nbB k B) : ∀ a < 2, ∀ x, lk (some A :: some B :: r) a = some x → nbB k x := by
 intro a ha x hx
 have : a = 0 ∨ a = 1 := by omega
 rcases this with rfl | rfl <;> cases hx <;> assumption
theorem st_cons {n : Nat} {r : Rule} {l : List Tk} {p1 : PR} (k1 : run n r l = some p1) (hbad : badP p1 = true) : ∃ t2 l2, p1 = .st (t2 :: l2) := by
 cases p1 with
 | ok es l => cases hbad
 | st l =>
  cases l with
  | nil => exact absurd rfl (run_ne _ _ _ _ k1)
  | cons t2 l2 => exact ⟨t2, l2, rfl⟩
theorem kUnary_ok {Γ : Glob} {L : List Tk} {n : Nat} (hL : L.length < 4611686018427387904) (h : ∀ k < n, KEx Γ L k ∧ KUn Γ L k ∧ KSi Γ L k) : KUn Γ L n := by
 intro l p m rb hs hp1 hr hp
 obtain ⟨j, t, l', rfl, rfl, hg⟩ := run_cons hp
 clear hp
 simp only [step] at hg
 refine acalls_cw mixed F182_ok F182_h gok_nil hr nb_rdR (by first | exact LR.nil | simp only [nbS]) ?_
 simp only [F182, q, qn, qg, qh, ss0, Nat.reduceSub, Nat.reduceAdd]
 have e10 : ∀ {t : List V} {m : Store}, evalL Tryz.prog (ev Γ t) m (.lits 1 [V.val (Value.string (ByteArray.mk #[]))] 2 [(0, .const (.string (ByteArray.mk #[45]))), (1, .const (.string (ByteArray.mk #[33])))]) = some sgV := fun {t m} => rfl
 simp only [ssH, Nat.reduceAdd, Nat.reduceLeDiff, reduceIte, Nat.reduceEqDiff, Nat.reduceLT, Int.reduceBEq, Int.reduceBNe]
 refine hcall_look (b := 0) (az := []) rfl rfl (fun m b' hh => kTok_ok hs hh) nb_rdR (by first | exact LR.nil | simp only [nbS]) (nb_tkV t) ?_
 simp only [tkV, e10, ssH, Nat.reduceAdd, Nat.reduceLeDiff, reduceIte, Nat.reduceEqDiff, Nat.reduceLT, Int.reduceBEq, Int.reduceBNe]
 simp only [sgV, List.length_cons, List.length_nil, ssH, Nat.reduceAdd, Nat.reduceLeDiff, reduceIte, Nat.reduceEqDiff, Nat.reduceLT, Int.reduceBEq, Int.reduceBNe]
 refine h_loop [0, 2, 3, 10, 11, 12] 57 (fun n vs h => ∃ i : Nat, vs = [.ptr 0 0, .ptr 1 0, it t.l, sgV, it (2 : Nat), it i] ∧ h = [some (rdS L (t :: l') false), some (.var 170 zX)] ∧ i + n = 3 ∧ i ≤ 2 ∧ ∀ a < i, isS (sg a) t = false) 3 (by decide) (by decide) (List.range 2) (back_take rfl (by decide) (by decide) (by simp) (by show nbs 2 [.ptr 0 0, .ptr 1 0, it t.l, sgV, it (2 : Nat), it (0 : Nat)]; simp only [sgV, nbS]; decide) (nbB2 nb_rdR nbB_zX) ⟨0, rfl, rfl, rfl, by decide, fun a ha => by omega⟩) ?_
 rintro n tt hh J hJ hl2 ⟨i, hv, rfl, hn, hi, hno⟩
 simp only [List.map, List.cons.injEq, and_true] at hv
 obtain ⟨h0, h2, h3, h10, h11, h12⟩ := hv
 rw [t_eq hl2]
 simp only [upTo_succ, upTo, h0, h2, h3, h10, h11, h12, rdS, rdR, ssH, Nat.reduceAdd, Nat.reduceLeDiff, reduceIte, Nat.reduceEqDiff, Nat.reduceLT, Int.reduceBEq, Int.reduceBNe]
 by_cases h6 : i < 2
 ·rw [show decide ((i : Int) < ((2 : Nat) : Int)) = true by simp; omega]
  simp only [sgV, idx_sg h6, ssH, Nat.reduceAdd, Nat.reduceLeDiff, reduceIte, Nat.reduceEqDiff, Nat.reduceLT, Int.reduceBEq, Int.reduceBNe]
  cases hi2 : isS (sg i) t
  ·refine hcall_look (b := 0) (az := [bs (sg i)]) (v := .val (.bool false)) rfl rfl (fun m b' hh => kTake_no hs hh (by rw [hi2]; rfl)) nb_rdR (by first | exact LR.nil | simp only [nbS]) (by first | exact LR.nil | simp only [nbS]) ?_
   simp only [next_i64 (show i < 4611686018427387904 by omega), ssH, Nat.reduceAdd, Nat.reduceLeDiff, reduceIte, Nat.reduceEqDiff, Nat.reduceLT, Int.reduceBEq, Int.reduceBNe]
   refine ⟨_, hJ (n - 1) (List.range 2) _ (by omega) (back_take rfl (by decide) (by decide) (by simp) (by show nbs 2 [.ptr 0 0, .ptr 1 0, it t.l, sgV, it (2 : Nat), it (i + 1 : Nat)]; simp only [sgV, nbS]; decide) (nbB2 nb_rdR nbB_zX) ⟨i + 1, rfl, rfl, by omega, by omega, ?_⟩)⟩
   intro a ha
   by_cases e : a = i
   ·rw [e]; exact hi2
   ·exact hno a (by omega)
  ·have hg2 : bind1 (run j .un l') (fun e l1 => some (.ok [.mk 6 t.s 0 [e] t.l] l1)) = some p := by
    rw [if_pos] at hg
    ·exact hg
    ·have : i = 0 ∨ i = 1 := by omega
     rcases this with rfl | rfl <;> simp only [sg] at hi2 <;> rw [hi2] <;> simp
   have hts : t.s = sg i := by
    simp only [isS, Bool.and_eq_true, beq_iff_eq] at hi2
    exact hi2.2
   obtain ⟨p1, k1, hs1, hf⟩ := bind1_next hg2
   have hs' : l' <:+ L := (List.suffix_cons t l').trans hs
   refine hcall_cell (b := 0) (az := [bs (sg i)]) (v := .val (.bool true)) rfl rfl (fun m b' hh => kTake_yes hL hs hh hi2) nb_rdR nb_rdR (by first | exact LR.nil | simp only [nbS]) (by first | exact LR.nil | simp only [nbS]) ?_
   simp only [ssH, Nat.reduceAdd, Nat.reduceLeDiff, reduceIte, Nat.reduceEqDiff, Nat.reduceLT, Int.reduceBEq, Int.reduceBNe]
   refine hcall_cellq (b := 0) (az := []) rfl rfl (fun m b' hh => (h j (by omega)).2.1 l' p1 m b' hs' hs1 hh k1) nb_rdR (by first | exact LR.nil | simp only [nbS]) kq_nb ?_
   rintro v Y ⟨e, rfl, rfl, hq1⟩
   have hf := hf _ hq1
   simp only [lit5_eq, lits5_one (exV_cells e), zX, ssH, Nat.reduceAdd, Nat.reduceLeDiff, reduceIte, Nat.reduceEqDiff, Nat.reduceLT, Int.reduceBEq, Int.reduceBNe]
   have hw : WX (.mk 6 (sg i) 0 [e] t.l) [it 6, bs (sg i), it 0, .sl [exV e] [] .full, it t.l] := ⟨[exV e], .full, rfl, by simp only [weaks, weak_exV, exVs], by simp only [nbS]; exact nb_exV e, by rw [nbT_full]; trivial⟩
   rcases hf with ⟨hb, rfl⟩ | ⟨hb, hpp⟩
   ·exact kfin hw rfl (by rw [hb]; rfl) (by rintro e l ⟨⟩)
   ·simp only [Option.some.injEq] at hpp
    subst hpp
    exact kfin hw rfl (by rw [hb]; rfl) (by rintro e l ⟨⟩; rw [hts])
 ·rw [show decide ((i : Int) < ((2 : Nat) : Int)) = false by simp; omega]
  have : i = 2 := by omega
  subst this
  have ha : isS [45] t = false := hno 0 (by decide)
  have hb : isS [33] t = false := hno 1 (by decide)
  simp only [ha, hb, Bool.or_self, Bool.false_eq_true, if_false] at hg
  obtain ⟨p1, k1, hs1, hf⟩ := bind1_next hg
  have hsx1 : restP p1 <:+ L := (run_sfx j _ _ _ k1).trans hs
  simp only [ssH, Nat.reduceAdd, Nat.reduceLeDiff, reduceIte, Nat.reduceEqDiff, Nat.reduceLT, Int.reduceBEq, Int.reduceBNe]
  refine hcall_cellq (b := 0) (az := []) rfl rfl (fun m b' hh => (h j (by omega)).2.2 _ p1 m b' hs hs1 hh k1) nb_rdR (by first | exact LR.nil | simp only [nbS]) kq_nb ?_
  rintro v Y ⟨⟨k, s, nn, kids, ln⟩, rfl, rfl, hq1⟩
  have hf := hf _ hq1
  simp only [exV, ssH, Nat.reduceAdd, Nat.reduceLeDiff, reduceIte, Nat.reduceEqDiff, Nat.reduceLT, Int.reduceBEq, Int.reduceBNe]
  refine h_loop [0, 2, 6] 57 (fun n vs h => ∃ g l1 b cs, vs = [.ptr 0 0, .ptr 1 0, .ptr 2 0] ∧ h = [some (rdS L l1 b), some (.var 170 zX), some (.var 170 cs)] ∧ WX g cs ∧ l1 <:+ L ∧ n ≤ j ∧ (b = true ∧ p = .st l1 ∨ b = false ∧ run n (.po g) l1 = some p)) j (by decide) (by decide) (List.range 3) (back_take rfl (by decide) (by decide) (by simp) (by show nbs 3 [.ptr 0 0, .ptr 1 0, .ptr 2 0]; simp only [nbS]; decide) (nbB3 nb_rdR nbB_zX (nbB_wx (wx_exV (.mk k s nn kids ln)))) ⟨.mk k s nn kids ln, restP p1, badP p1, _, rfl, rfl, wx_exV _, hsx1, Nat.le_refl _, hf⟩) ?_
  clear hf hq1 k1 hs1 hsx1 hJ hg
  rintro n tt hh J hJ hl2 ⟨⟨k, s, nn, kids, ln⟩, l1, b, cs, hv, rfl, hw, hsx, hn, hc⟩
  have hwk := hw
  obtain ⟨vs, tok, rfl, hw1, hw2, hw3⟩ := hw
  simp only [List.map, List.cons.injEq, and_true] at hv
  obtain ⟨h0, h2, h6⟩ := hv
  rw [t_eq hl2]
  simp only [upTo_succ, upTo, h0, h2, h6, rdS, rdR, ssH, Nat.reduceAdd, Nat.reduceLeDiff, reduceIte, Nat.reduceEqDiff, Nat.reduceLT, Int.reduceBEq, Int.reduceBNe]
  rcases hc with ⟨rfl, rfl⟩ | ⟨rfl, hc⟩
  ·simp only [zX, ssH, Nat.reduceAdd, Nat.reduceLeDiff, reduceIte, Nat.reduceEqDiff, Nat.reduceLT, Int.reduceBEq, Int.reduceBNe]
   exact kfin hwk rfl rfl (by rintro e l ⟨⟩)
  ·obtain ⟨i, tk, l2, rfl, rfl, hg⟩ := run_cons hc
   clear hc
   simp only [step] at hg
   have hsx2 : l2 <:+ L := (List.suffix_cons tk l2).trans hsx
   have hnx : ∀ (K : Int) (S : List UInt8) (KE : List Ex) (KS : List V) (l3 : List Tk) (b : Bool) (tt' : List V), tt'.length = 57 → tget tt' 0 = .ptr 0 0 → tget tt' 2 = .ptr 1 0 → tget tt' 6 = .ptr 2 0 → weaks KS = exVs KE → nbs 0 KS → l3 <:+ L → (b = true ∧ p = .st l3 ∨ b = false ∧ run i (.po (.mk K S 0 KE ln)) l3 = some p) →
     ∃ names, J names ⟨tt', [some (rdS L l3 b), some (.var 170 zX), some (.var 170 [it K, bs S, it 0, .sl KS [] .full, it ln])]⟩ := by
    intro K S KE KS l3 b tt' q0 q1 q2 q3 q4 q5 q6 q7
    have hw : WX (.mk K S 0 KE ln) [it K, bs S, it 0, .sl KS [] .full, it ln] := ⟨KS, .full, rfl, q4, q5, by rw [nbT_full]; trivial⟩
    refine ⟨_, hJ i (List.range 3) _ (by omega) (back_take q0 (by decide) (by decide) (by simp) ?_ (nbB3 nb_rdR nbB_zX (nbB_wx hw)) ⟨.mk K S 0 KE ln, l3, b, _, ?_, rfl, hw, q6, by omega, q7⟩)⟩
    ·simp only [List.map, q1, q2, q3, nbS]
     decide
    ·simp only [List.map, q1, q2, q3]
   simp only [ssH, Nat.reduceAdd, Nat.reduceLeDiff, reduceIte, Nat.reduceEqDiff, Nat.reduceLT, Int.reduceBEq, Int.reduceBNe]
   cases hi1 : isS [91] tk
   ·refine hcall_look (b := 0) (az := [bs [91]]) (v := .val (.bool false)) rfl rfl (fun m b' hh => kTake_no hsx hh (by rw [hi1]; rfl)) nb_rdR (by first | exact LR.nil | simp only [nbS]) (by first | exact LR.nil | simp only [nbS]) ?_
    simp only [ssH, Nat.reduceAdd, Nat.reduceLeDiff, reduceIte, Nat.reduceEqDiff, Nat.reduceLT, Int.reduceBEq, Int.reduceBNe]
    cases hi2 : isS [46] tk
    ·refine hcall_look (b := 0) (az := [bs [46]]) (v := .val (.bool false)) rfl rfl (fun m b' hh => kTake_no hsx hh (by rw [hi2]; rfl)) nb_rdR (by first | exact LR.nil | simp only [nbS]) (by first | exact LR.nil | simp only [nbS]) ?_
     simp only [hi1, hi2, Bool.false_eq_true, if_false, Option.some.injEq] at hg
     subst hg
     simp only [zX, ssH, Nat.reduceAdd, Nat.reduceLeDiff, reduceIte, Nat.reduceEqDiff, Nat.reduceLT, Int.reduceBEq, Int.reduceBNe]
     exact kfin hwk rfl rfl (by rintro e l ⟨⟩; rfl)
    ·refine hcall_cell (b := 0) (az := [bs [46]]) (v := .val (.bool true)) rfl rfl (fun m b' hh => kTake_yes hL hsx hh hi2) nb_rdR nb_rdR (by first | exact LR.nil | simp only [nbS]) (by first | exact LR.nil | simp only [nbS]) ?_
     simp only [hi1, hi2, Bool.false_eq_true, if_false, if_true] at hg
     simp only [lit5_eq, lits5_one (v := .agg [it k, bs s, it nn, .sl vs [] tok, it ln]) rfl, ssH, Nat.reduceAdd, Nat.reduceLeDiff, reduceIte, Nat.reduceEqDiff, Nat.reduceLT, Int.reduceBEq, Int.reduceBNe]
     cases l2 with
     | nil => cases hg
     | cons t3 l3 =>
      have hsx3 : l3 <:+ L := (List.suffix_cons t3 l3).trans hsx2
      simp only [nameK] at hg
      by_cases hk : t3.k = 1
      ·rw [if_pos hk] at hg
       refine hcall_cell (b := 0) (az := []) (v := bs t3.s) rfl rfl (fun m b' hh => kName_yes hL hsx2 hh hk) nb_rdR nb_rdR (by first | exact LR.nil | simp only [nbS]) (by first | exact LR.nil | simp only [nbS]) ?_
       simp only [ssH, Nat.reduceAdd, Nat.reduceLeDiff, reduceIte, Nat.reduceEqDiff, Nat.reduceLT, Int.reduceBEq, Int.reduceBNe]
       exact hnx 9 t3.s [.mk k s nn kids ln] [.agg [it k, bs s, it nn, .sl vs [] tok, it ln]] l3 false _ rfl rfl rfl rfl (by simp only [weaks, weak, exVs, exV, hw1, bs]) (by simp only [nbS]; exact ⟨hw2, hw3⟩) hsx3 (.inr ⟨rfl, hg⟩)
      ·rw [if_neg hk] at hg
       simp only [Option.some.injEq] at hg
       refine hcall_cell (b := 0) (az := []) (v := bs []) rfl rfl (fun m b' hh => kName_no hsx2 hh (.inr hk)) nb_rdR nb_rdR (by first | exact LR.nil | simp only [nbS]) (by first | exact LR.nil | simp only [nbS]) ?_
       simp only [ssH, Nat.reduceAdd, Nat.reduceLeDiff, reduceIte, Nat.reduceEqDiff, Nat.reduceLT, Int.reduceBEq, Int.reduceBNe]
       exact hnx 9 [] [.mk k s nn kids ln] [.agg [it k, bs s, it nn, .sl vs [] tok, it ln]] (t3 :: l3) true _ rfl rfl rfl rfl (by simp only [weaks, weak, exVs, exV, hw1, bs]) (by simp only [nbS]; exact ⟨hw2, hw3⟩) hsx2 (.inl ⟨rfl, hg.symm⟩)
   ·refine hcall_cell (b := 0) (az := [bs [91]]) (v := .val (.bool true)) rfl rfl (fun m b' hh => kTake_yes hL hsx hh hi1) nb_rdR nb_rdR (by first | exact LR.nil | simp only [nbS]) (by first | exact LR.nil | simp only [nbS]) ?_
    simp only [hi1, if_true] at hg
    simp only [ssH, Nat.reduceAdd, Nat.reduceLeDiff, reduceIte, Nat.reduceEqDiff, Nat.reduceLT, Int.reduceBEq, Int.reduceBNe]
    obtain ⟨p2, k2, hs2, hf2⟩ := bind1_next hg
    have hsx3 : restP p2 <:+ L := (run_sfx i _ _ _ k2).trans hsx2
    refine hcall_cellq (b := 0) (az := [it ((0 : Nat) : Int)]) rfl rfl (fun m b' hh => (h i (by omega)).1 0 l2 p2 m b' (by omega) hsx2 hs2 hh k2) nb_rdR (by first | exact LR.nil | simp only [nbS]) kq_nb ?_
    rintro v Y ⟨e2, rfl, rfl, hq2⟩
    have hf2 := hf2 _ hq2
    simp only [lit52_eq, lits5_two (v := .agg [it k, bs s, it nn, .sl vs [] tok, it ln]) (u := exV e2) rfl (exV_cells e2), ssH, Nat.reduceAdd, Nat.reduceLeDiff, reduceIte, Nat.reduceEqDiff, Nat.reduceLT, Int.reduceBEq, Int.reduceBNe]
    have hv1 : weaks [.agg [it k, bs s, it nn, .sl vs [] tok, it ln], exV e2] = exVs [.mk k s nn kids ln, e2] := by simp only [weaks, weak, exVs, exV, hw1, weak_exV, bs]
    have hv2 : nbs 0 [.agg [it k, bs s, it nn, .sl vs [] tok, it ln], exV e2] := by
     simp only [nbS]
     exact ⟨⟨hw2, hw3⟩, nb_exV e2⟩
    rcases hf2 with ⟨hbad, hqq⟩ | ⟨hgood, hqq⟩
    ·obtain ⟨t2, l3, rfl⟩ := st_cons k2 hbad
     simp only [restP, badP] at hsx3 hqq ⊢
     refine hcall_cell (b := 0) (az := [bs [93]]) (v := .tup []) rfl rfl (fun m b' hh => kMust_no hsx3 hh rfl) nb_rdR nb_rdR (by first | exact LR.nil | simp only [nbS]) (by first | exact LR.nil | simp only [nbS]) ?_
     simp only [ssH, Nat.reduceAdd, Nat.reduceLeDiff, reduceIte, Nat.reduceEqDiff, Nat.reduceLT, Int.reduceBEq, Int.reduceBNe]
     exact hnx 8 [] [.mk k s nn kids ln, e2] _ (t2 :: l3) true _ rfl rfl rfl rfl hv1 hv2 hsx3 (.inl ⟨rfl, hqq⟩)
    ·rw [hgood]
     generalize restP p2 = l3 at hqq hsx3
     cases l3 with
     | nil => cases hqq
     | cons t3 l3 =>
      have hsx4 : l3 <:+ L := (List.suffix_cons t3 l3).trans hsx3
      simp only [mustK] at hqq
      cases hmm : isS [93] t3
      ·simp only [hmm, Bool.false_eq_true, if_false, Option.some.injEq] at hqq
       refine hcall_cell (b := 0) (az := [bs [93]]) (v := .tup []) rfl rfl (fun m b' hh => kMust_no hsx3 hh (by rw [hmm]; rfl)) nb_rdR nb_rdR (by first | exact LR.nil | simp only [nbS]) (by first | exact LR.nil | simp only [nbS]) ?_
       simp only [ssH, Nat.reduceAdd, Nat.reduceLeDiff, reduceIte, Nat.reduceEqDiff, Nat.reduceLT, Int.reduceBEq, Int.reduceBNe]
       exact hnx 8 [] [.mk k s nn kids ln, e2] _ (t3 :: l3) true _ rfl rfl rfl rfl hv1 hv2 hsx3 (.inl ⟨rfl, hqq.symm⟩)
      ·simp only [hmm, if_true] at hqq
       refine hcall_cell (b := 0) (az := [bs [93]]) (v := .tup []) rfl rfl (fun m b' hh => kMust_yes hL hsx3 hh hmm) nb_rdR nb_rdR (by first | exact LR.nil | simp only [nbS]) (by first | exact LR.nil | simp only [nbS]) ?_
       simp only [ssH, Nat.reduceAdd, Nat.reduceLeDiff, reduceIte, Nat.reduceEqDiff, Nat.reduceLT, Int.reduceBEq, Int.reduceBNe]
       exact hnx 8 [] [.mk k s nn kids ln, e2] _ l3 false _ rfl rfl rfl rfl hv1 hv2 hsx4 (.inr ⟨rfl, hqq⟩)
end Go.Av.Fn
/- The document's rule for single expressions. No condition. -/
namespace Go.Av.Fn
set_option linter.unusedSimpArgs false
set_option linter.unusedVariables false
set_option maxRecDepth 10000
open Go.Proofs
theorem isS_k {t : Tk} (h4 : t.k ≠ 4) (h5 : t.k ≠ 5) (s : List UInt8) : isS s t = false := by
 simp [isS, h4, h5]
section
variable {Γ : Glob} {m : Store} {rb n : Nat} {L l : List Tk} {t : Tk} {s : List UInt8} {one : Bool} {p : PR}
theorem kList_bad (hs : t :: l <:+ L) (hr : m rb = some (rdS L (t :: l) true)) :
  ACalls Tryz.prog Γ 227 [.ptr rb 0, bs s, .val (.bool one)] m fun o m' => ∃ v Y, o = .ret v ∧ m' = m.set rb Y ∧ KL L (.st (t :: l)) v Y := by
 refine acalls_cw mixed F227_ok F227_h gok_nil hr nb_rdR (by first | exact LR.nil | simp only [nbS]) ?_
 simp only [F227, q, qn, qg, qh, ss0, Nat.reduceSub, Nat.reduceAdd]
 simp only [ssH, Nat.reduceAdd, Nat.reduceLeDiff, reduceIte, Nat.reduceEqDiff, Nat.reduceLT, Int.reduceBEq, Int.reduceBNe]
 cases one
 case' false =>
  simp only [ssH, Nat.reduceAdd, Nat.reduceLeDiff, reduceIte, Nat.reduceEqDiff, Nat.reduceLT, Int.reduceBEq, Int.reduceBNe]
  refine hcall_look (b := 0) (az := [bs s]) (v := .val (.bool false)) rfl rfl (fun m b' hh => kTake_no hs hh rfl) nb_rdR (by first | exact LR.nil | simp only [nbS]) (by first | exact LR.nil | simp only [nbS]) ?_
 all_goals
  simp only [ssH, Nat.reduceAdd, Nat.reduceLeDiff, reduceIte, Nat.reduceEqDiff, Nat.reduceLT, Int.reduceBEq, Int.reduceBNe]
  refine h_loop [0, 1, 7] 32 (fun j vs h => vs = [.ptr 0 0, bs s, .sl [] [] .full] ∧ h = [some (rdS L (t :: l) true)]) 0 (by decide) (by decide) (List.range 1) (back_take rfl (by decide) (by decide) (by simp) (by show nbs 1 [.ptr 0 0, bs s, .sl [] [] .full]; simp only [nbS]; decide) (bf_blk (.inl ⟨rfl, rfl, rfl⟩) fun k => nb_rdR) ⟨rfl, rfl⟩) ?_
  rintro j tt hh J hJ hl2 ⟨hv, rfl⟩
  simp only [List.map, List.cons.injEq, and_true] at hv
  obtain ⟨h0, h1, h7⟩ := hv
  rw [t_eq hl2]
  simp only [upTo_succ, upTo, h0, h1, h7, rdS, rdR, ssH, Nat.reduceAdd, Nat.reduceLeDiff, reduceIte, Nat.reduceEqDiff, Nat.reduceLT, Int.reduceBEq, Int.reduceBNe]
  refine hcall_cell (b := 0) (az := [bs s]) (v := .tup []) rfl rfl (fun m b' hh => kMust_no hs hh rfl) nb_rdR nb_rdR (by first | exact LR.nil | simp only [nbS]) (by first | exact LR.nil | simp only [nbS]) ?_
  simp only [ssH, Nat.reduceAdd, Nat.reduceLeDiff, reduceIte, Nat.reduceEqDiff, Nat.reduceLT, Int.reduceBEq, Int.reduceBNe]
  exact lfin (gs := []) (tok := .full) rfl rfl (by rintro es l ⟨⟩)
end
theorem bindL_next {r : Option PR} {k : List Ex → List Tk → Option PR} {p : PR} (h : bindL r k = some p) : ∃ q, r = some q ∧ ∀ g, (∀ es l, q = .ok es l → g = es) → (badP q = true ∧ p = .st (restP q) ∨ badP q = false ∧ k g (restP q) = some p) := by
 rcases bindL_inv h with ⟨es, l1, k1, k2⟩ | ⟨l1, k1, rfl⟩
 ·exact ⟨_, k1, fun g hq => .inr ⟨rfl, by rw [hq _ _ rfl]; exact k2⟩⟩
 ·exact ⟨_, k1, fun g hq => .inl ⟨rfl, rfl⟩⟩
theorem list_until {f : Rule → List Tk → Option PR} {s : List UInt8} {t : Tk} {l : List Tk} : listR f s false t l = untilR f s (t :: l) := by
 simp only [listR, untilR, Bool.not_false, Bool.true_and]
theorem list_row {f : Rule → List Tk → Option PR} {s : List UInt8} {t : Tk} {l : List Tk} : listR f s true t l = bindL (rowR f (t :: l)) fun es l2 => mustK s l2 fun l3 => some (.ok es l3) := by
 simp only [listR, Bool.not_true, Bool.false_and, Bool.false_eq_true, if_false]
theorem row_nil {n : Nat} : rowR (run n) [] = none := by
 cases n <;> rfl
theorem row_next {f : Rule → List Tk → Option PR} {s : List UInt8} {l : List Tk} {k : List Ex → List Tk → Option PR} {p : PR} (h : (bindL (rowR f l) fun es l2 => mustK s l2 fun l3 => k es l3) = some p) : ∃ q, (bindL (rowR f l) fun es l2 => mustK s l2 fun l3 => some (.ok es l3)) = some q ∧ ∀ g, (∀ es l, q = .ok es l → g = es) → (badP q = true ∧ p = .st (restP q) ∨ badP q = false ∧ k g (restP q) = some p) := by
 rcases bindL_inv h with ⟨es, l1, k1, k2⟩ | ⟨l1, k1, rfl⟩
 ·rw [k1]
  cases l1 with
  | nil => cases k2
  | cons t2 l2 =>
   simp only [mustK, bindL] at k2 ⊢
   split at k2
   ·rename_i hm
    rw [if_pos hm]
    exact ⟨_, rfl, fun g hq => .inr ⟨rfl, by rw [hq _ _ rfl]; exact k2⟩⟩
   ·rename_i hm
    rw [if_neg hm]
    cases k2
    exact ⟨_, rfl, fun g hq => .inl ⟨rfl, rfl⟩⟩
 ·rw [k1]
  exact ⟨_, rfl, fun g hq => .inl ⟨rfl, rfl⟩⟩
theorem kSingle_ok {Γ : Glob} {L : List Tk} {n : Nat} (hL : L.length < 4611686018427387904) (hn0 : n ≤ 1099511627776) (h : ∀ k < n, KEx Γ L k) : KSi Γ L n := by
 intro l p m rb hs hp1 hr hp
 obtain ⟨j, t, l', rfl, rfl, hg⟩ := run_cons hp
 clear hp
 simp only [step, singleR] at hg
 have hs' : l' <:+ L := (List.suffix_cons t l').trans hs
 have hw : ∀ (K : Int) (S : List UInt8) (N : Int) (KE : List Ex) (tok : Tok), nbT 0 tok → WX (.mk K S N KE t.l) [it K, bs S, it N, .sl (exVs KE) [] tok, it t.l] := fun K S N KE tok ht => ⟨exVs KE, tok, rfl, weaks_exVs KE, nbs_exVs KE, ht⟩
 have hf : nbT 0 .full := by rw [nbT_full]; trivial
 have hz : nbT 0 .no := by rw [nbT_no]; trivial
 refine acalls_cw mixed F210_ok F210_h gok_nil hr nb_rdR (by first | exact LR.nil | simp only [nbS]) ?_
 simp only [F210, q, qn, qg, qh, ss0, Nat.reduceSub, Nat.reduceAdd]
 simp only [ssH, Nat.reduceAdd, Nat.reduceLeDiff, reduceIte, Nat.reduceEqDiff, Nat.reduceLT, Int.reduceBEq, Int.reduceBNe]
 refine hcall_look (b := 0) (az := []) rfl rfl (fun m b' hh => kTok_ok hs hh) nb_rdR (by first | exact LR.nil | simp only [nbS]) (nb_tkV t) ?_
 simp only [tkV, rdS, rdR, ssH, Nat.reduceAdd, Nat.reduceLeDiff, reduceIte, Nat.reduceEqDiff, Nat.reduceLT, Int.reduceBEq, Int.reduceBNe]
 by_cases h2 : t.k = 2
 ·rw [if_pos h2] at hg
  simp only [Option.some.injEq] at hg
  subst hg
  simp only [h2, next_i64 (show L.length - (l'.length + 1) < 4611686018427387904 by omega), sfx_next' hs, ssH, Nat.reduceAdd, Nat.reduceLeDiff, reduceIte, Nat.reduceEqDiff, Nat.reduceLT, Int.reduceBEq, Int.reduceBNe]
  exact kfin (hw 1 [] t.n [] .full hf) rfl rfl (by rintro e l ⟨⟩; rfl)
 rw [if_neg h2] at hg
 have b2 : (t.k == 2) = false := by simpa using h2
 simp only [b2, ssH, Nat.reduceAdd, Nat.reduceLeDiff, reduceIte, Nat.reduceEqDiff, Nat.reduceLT, Int.reduceBEq, Int.reduceBNe]
 by_cases h3 : t.k = 3
 ·rw [if_pos h3] at hg
  simp only [Option.some.injEq] at hg
  subst hg
  simp only [h3, next_i64 (show L.length - (l'.length + 1) < 4611686018427387904 by omega), sfx_next' hs, ssH, Nat.reduceAdd, Nat.reduceLeDiff, reduceIte, Nat.reduceEqDiff, Nat.reduceLT, Int.reduceBEq, Int.reduceBNe]
  exact kfin (hw 3 t.s 0 [] .full hf) rfl rfl (by rintro e l ⟨⟩; rfl)
 rw [if_neg h3] at hg
 have b3 : (t.k == 3) = false := by simpa using h3
 simp only [b3, ssH, Nat.reduceAdd, Nat.reduceLeDiff, reduceIte, Nat.reduceEqDiff, Nat.reduceLT, Int.reduceBEq, Int.reduceBNe]
 by_cases h1 : t.k = 1
 ·rw [if_pos h1] at hg
  have hi : ∀ x, isS x t = false := isS_k (by omega) (by omega)
  refine hcall_look (b := 0) (az := [bs [116, 114, 117, 101]]) (v := .val (.bool false)) rfl rfl (fun m b' hh => kTake_no hs hh (by rw [hi]; rfl)) (nb_rdR (L := L)) (by first | exact LR.nil | simp only [nbS]) (by first | exact LR.nil | simp only [nbS]) ?_
  simp only [ssH, Nat.reduceAdd, Nat.reduceLeDiff, reduceIte, Nat.reduceEqDiff, Nat.reduceLT, Int.reduceBEq, Int.reduceBNe]
  refine hcall_look (b := 0) (az := [bs [102, 97, 108, 115, 101]]) (v := .val (.bool false)) rfl rfl (fun m b' hh => kTake_no hs hh (by rw [hi]; rfl)) (nb_rdR (L := L)) (by first | exact LR.nil | simp only [nbS]) (by first | exact LR.nil | simp only [nbS]) ?_
  simp only [ssH, Nat.reduceAdd, Nat.reduceLeDiff, reduceIte, Nat.reduceEqDiff, Nat.reduceLT, Int.reduceBEq, Int.reduceBNe]
  refine hcall_look (b := 0) (az := [bs [110, 101, 119]]) (v := .val (.bool false)) rfl rfl (fun m b' hh => kTake_no hs hh (by rw [hi]; rfl)) (nb_rdR (L := L)) (by first | exact LR.nil | simp only [nbS]) (by first | exact LR.nil | simp only [nbS]) ?_
  simp only [ssH, Nat.reduceAdd, Nat.reduceLeDiff, reduceIte, Nat.reduceEqDiff, Nat.reduceLT, Int.reduceBEq, Int.reduceBNe]
  refine hcall_look (b := 0) (az := [bs [91]]) (v := .val (.bool false)) rfl rfl (fun m b' hh => kTake_no hs hh (by rw [hi]; rfl)) (nb_rdR (L := L)) (by first | exact LR.nil | simp only [nbS]) (by first | exact LR.nil | simp only [nbS]) ?_
  simp only [ssH, Nat.reduceAdd, Nat.reduceLeDiff, reduceIte, Nat.reduceEqDiff, Nat.reduceLT, Int.reduceBEq, Int.reduceBNe]
  refine hcall_look (b := 0) (az := [bs [40]]) (v := .val (.bool false)) rfl rfl (fun m b' hh => kTake_no hs hh (by rw [hi]; rfl)) (nb_rdR (L := L)) (by first | exact LR.nil | simp only [nbS]) (by first | exact LR.nil | simp only [nbS]) ?_
  simp only [ssH, Nat.reduceAdd, Nat.reduceLeDiff, reduceIte, Nat.reduceEqDiff, Nat.reduceLT, Int.reduceBEq, Int.reduceBNe]
  simp only [h1, next_i64 (show L.length - (l'.length + 1) < 4611686018427387904 by omega), sfx_next' hs, ssH, Nat.reduceAdd, Nat.reduceLeDiff, reduceIte, Nat.reduceEqDiff, Nat.reduceLT, Int.reduceBEq, Int.reduceBNe]
  cases l' with
  | nil => cases hg
  | cons t2 l2 =>
   simp only [callR] at hg
   have hs2 : l2 <:+ L := (List.suffix_cons t2 l2).trans hs'
   cases hp2 : isS [40] t2
   ·simp only [hp2, Bool.false_eq_true, if_false, Option.some.injEq] at hg
    subst hg
    refine hcall_look (b := 0) (az := [bs [40]]) (v := .val (.bool false)) rfl rfl (fun m b' hh => kTake_no hs' hh (by rw [hp2]; rfl)) (nb_rdR (L := L)) (by first | exact LR.nil | simp only [nbS]) (by first | exact LR.nil | simp only [nbS]) ?_
    simp only [ssH, Nat.reduceAdd, Nat.reduceLeDiff, reduceIte, Nat.reduceEqDiff, Nat.reduceLT, Int.reduceBEq, Int.reduceBNe]
    exact kfin (hw 4 t.s 0 [] .full hf) rfl rfl (by rintro e l ⟨⟩; rfl)
   ·simp only [hp2, if_true] at hg
    refine hcall_cell (b := 0) (az := [bs [40]]) (v := .val (.bool true)) rfl rfl (fun m b' hh => kTake_yes hL hs' hh hp2) (nb_rdR (L := L)) nb_rdR (by first | exact LR.nil | simp only [nbS]) (by first | exact LR.nil | simp only [nbS]) ?_
    simp only [ssH, Nat.reduceAdd, Nat.reduceLeDiff, reduceIte, Nat.reduceEqDiff, Nat.reduceLT, Int.reduceBEq, Int.reduceBNe]
    cases l2 with
    | nil => cases hg
    | cons t3 l3 =>
     obtain ⟨q, hq, hq2⟩ := bindL_next hg
     refine hcall_cellq (b := 0) (az := [bs [41], .val (.bool false)]) rfl rfl (fun m b' hh => kList_ok (n := j) (t := t3) (l := l3) (s := [41]) (one := false) (p := q) hL (by omega) (fun k hk => h k (by omega)) hs2 hh (by rw [list_until]; exact hq)) (nb_rdR (L := L)) (by first | exact LR.nil | simp only [nbS]) kl_nb ?_
     rintro v Y ⟨es, rfl, rfl, hq3⟩
     have hq2 := hq2 _ hq3
     simp only [ssH, Nat.reduceAdd, Nat.reduceLeDiff, reduceIte, Nat.reduceEqDiff, Nat.reduceLT, Int.reduceBEq, Int.reduceBNe]
     rcases hq2 with ⟨hb, rfl⟩ | ⟨hb, hpp⟩
     ·exact kfin (hw 5 t.s 0 es .no hz) rfl (by rw [hb]; rfl) (by rintro e l ⟨⟩)
     ·simp only [Option.some.injEq] at hpp
      subst hpp
      exact kfin (hw 5 t.s 0 es .no hz) rfl (by rw [hb]; rfl) (by rintro e l ⟨⟩; rfl)
 rw [if_neg h1] at hg
 have b1 : (t.k == 1) = false := by simpa using h1
 by_cases h_true : isS [116, 114, 117, 101] t = true
 ·rw [if_pos h_true] at hg
  simp only [Option.some.injEq] at hg
  subst hg
  refine hcall_cell (b := 0) (az := [bs [116, 114, 117, 101]]) (v := .val (.bool true)) rfl rfl (fun m b' hh => kTake_yes hL hs hh h_true) (nb_rdR (L := L)) nb_rdR (by first | exact LR.nil | simp only [nbS]) (by first | exact LR.nil | simp only [nbS]) ?_
  simp only [ssH, Nat.reduceAdd, Nat.reduceLeDiff, reduceIte, Nat.reduceEqDiff, Nat.reduceLT, Int.reduceBEq, Int.reduceBNe]
  exact kfin (hw 2 [] 1 [] .full hf) rfl rfl (by rintro e l ⟨⟩; rfl)
 rw [if_neg h_true] at hg
 refine hcall_look (b := 0) (az := [bs [116, 114, 117, 101]]) (v := .val (.bool false)) rfl rfl (fun m b' hh => kTake_no hs hh (by rw [Bool.eq_false_iff.2 h_true]; rfl)) (nb_rdR (L := L)) (by first | exact LR.nil | simp only [nbS]) (by first | exact LR.nil | simp only [nbS]) ?_
 simp only [ssH, Nat.reduceAdd, Nat.reduceLeDiff, reduceIte, Nat.reduceEqDiff, Nat.reduceLT, Int.reduceBEq, Int.reduceBNe]
 by_cases h_false : isS [102, 97, 108, 115, 101] t = true
 ·rw [if_pos h_false] at hg
  simp only [Option.some.injEq] at hg
  subst hg
  refine hcall_cell (b := 0) (az := [bs [102, 97, 108, 115, 101]]) (v := .val (.bool true)) rfl rfl (fun m b' hh => kTake_yes hL hs hh h_false) (nb_rdR (L := L)) nb_rdR (by first | exact LR.nil | simp only [nbS]) (by first | exact LR.nil | simp only [nbS]) ?_
  simp only [ssH, Nat.reduceAdd, Nat.reduceLeDiff, reduceIte, Nat.reduceEqDiff, Nat.reduceLT, Int.reduceBEq, Int.reduceBNe]
  exact kfin (hw 2 [] 0 [] .full hf) rfl rfl (by rintro e l ⟨⟩; rfl)
 rw [if_neg h_false] at hg
 refine hcall_look (b := 0) (az := [bs [102, 97, 108, 115, 101]]) (v := .val (.bool false)) rfl rfl (fun m b' hh => kTake_no hs hh (by rw [Bool.eq_false_iff.2 h_false]; rfl)) (nb_rdR (L := L)) (by first | exact LR.nil | simp only [nbS]) (by first | exact LR.nil | simp only [nbS]) ?_
 simp only [ssH, Nat.reduceAdd, Nat.reduceLeDiff, reduceIte, Nat.reduceEqDiff, Nat.reduceLT, Int.reduceBEq, Int.reduceBNe]
 by_cases h_new : isS [110, 101, 119] t = true
 ·rw [if_pos h_new] at hg
  refine hcall_cell (b := 0) (az := [bs [110, 101, 119]]) (v := .val (.bool true)) rfl rfl (fun m b' hh => kTake_yes hL hs hh h_new) (nb_rdR (L := L)) nb_rdR (by first | exact LR.nil | simp only [nbS]) (by first | exact LR.nil | simp only [nbS]) ?_
  simp only [ssH, Nat.reduceAdd, Nat.reduceLeDiff, reduceIte, Nat.reduceEqDiff, Nat.reduceLT, Int.reduceBEq, Int.reduceBNe]
  cases l' with
  | nil => cases hg
  | cons t2 l2 =>
   have hs2 : l2 <:+ L := (List.suffix_cons t2 l2).trans hs'
   simp only [nameK] at hg
   by_cases hk : t2.k = 1
   ·rw [if_pos hk] at hg
    refine hcall_cell (b := 0) (az := []) (v := bs t2.s) rfl rfl (fun m b' hh => kName_yes hL hs' hh hk) (nb_rdR (L := L)) nb_rdR (by first | exact LR.nil | simp only [nbS]) (by first | exact LR.nil | simp only [nbS]) ?_
    simp only [ssH, Nat.reduceAdd, Nat.reduceLeDiff, reduceIte, Nat.reduceEqDiff, Nat.reduceLT, Int.reduceBEq, Int.reduceBNe]
    cases l2 with
    | nil => cases hg
    | cons t3 l3 =>
     have hs3 : l3 <:+ L := (List.suffix_cons t3 l3).trans hs2
     simp only [mustK] at hg
     cases hm : isS [40] t3
     ·simp only [hm, Bool.false_eq_true, if_false, Option.some.injEq] at hg
      subst hg
      refine hcall_cell (b := 0) (az := [bs [40]]) (v := .tup []) rfl rfl (fun m b' hh => kMust_no hs2 hh (by rw [hm]; rfl)) (nb_rdR (L := L)) nb_rdR (by first | exact LR.nil | simp only [nbS]) (by first | exact LR.nil | simp only [nbS]) ?_
      simp only [ssH, Nat.reduceAdd, Nat.reduceLeDiff, reduceIte, Nat.reduceEqDiff, Nat.reduceLT, Int.reduceBEq, Int.reduceBNe]
      refine hcall_cellq (b := 0) (az := [bs [41], .val (.bool false)]) rfl rfl (fun m b' hh => kList_bad (s := [41]) (one := false) hs2 hh) (nb_rdR (L := L)) (by first | exact LR.nil | simp only [nbS]) kl_nb ?_
      rintro v Y ⟨es, rfl, rfl, hq3⟩
      simp only [ssH, Nat.reduceAdd, Nat.reduceLeDiff, reduceIte, Nat.reduceEqDiff, Nat.reduceLT, Int.reduceBEq, Int.reduceBNe]
      exact kfin (hw 11 t2.s 0 es .no hz) rfl rfl (by rintro e l ⟨⟩)
     ·simp only [hm, if_true] at hg
      refine hcall_cell (b := 0) (az := [bs [40]]) (v := .tup []) rfl rfl (fun m b' hh => kMust_yes hL hs2 hh hm) (nb_rdR (L := L)) nb_rdR (by first | exact LR.nil | simp only [nbS]) (by first | exact LR.nil | simp only [nbS]) ?_
      simp only [ssH, Nat.reduceAdd, Nat.reduceLeDiff, reduceIte, Nat.reduceEqDiff, Nat.reduceLT, Int.reduceBEq, Int.reduceBNe]
      cases l3 with
      | nil => cases hg
      | cons t4 l4 =>
       obtain ⟨q, hq, hq2⟩ := bindL_next hg
       refine hcall_cellq (b := 0) (az := [bs [41], .val (.bool false)]) rfl rfl (fun m b' hh => kList_ok (n := j) (t := t4) (l := l4) (s := [41]) (one := false) (p := q) hL (by omega) (fun k hk => h k (by omega)) hs3 hh (by rw [list_until]; exact hq)) (nb_rdR (L := L)) (by first | exact LR.nil | simp only [nbS]) kl_nb ?_
       rintro v Y ⟨es, rfl, rfl, hq3⟩
       have hq2 := hq2 _ hq3
       simp only [ssH, Nat.reduceAdd, Nat.reduceLeDiff, reduceIte, Nat.reduceEqDiff, Nat.reduceLT, Int.reduceBEq, Int.reduceBNe]
       rcases hq2 with ⟨hb, rfl⟩ | ⟨hb, hpp⟩
       ·exact kfin (hw 11 t2.s 0 es .no hz) rfl (by rw [hb]; rfl) (by rintro e l ⟨⟩)
       ·simp only [Option.some.injEq] at hpp
        subst hpp
        exact kfin (hw 11 t2.s 0 es .no hz) rfl (by rw [hb]; rfl) (by rintro e l ⟨⟩; rfl)
   ·rw [if_neg hk] at hg
    simp only [Option.some.injEq] at hg
    subst hg
    refine hcall_cell (b := 0) (az := []) (v := bs []) rfl rfl (fun m b' hh => kName_no hs' hh (.inr hk)) (nb_rdR (L := L)) nb_rdR (by first | exact LR.nil | simp only [nbS]) (by first | exact LR.nil | simp only [nbS]) ?_
    simp only [ssH, Nat.reduceAdd, Nat.reduceLeDiff, reduceIte, Nat.reduceEqDiff, Nat.reduceLT, Int.reduceBEq, Int.reduceBNe]
    refine hcall_cell (b := 0) (az := [bs [40]]) (v := .tup []) rfl rfl (fun m b' hh => kMust_no hs' hh rfl) (nb_rdR (L := L)) nb_rdR (by first | exact LR.nil | simp only [nbS]) (by first | exact LR.nil | simp only [nbS]) ?_
    simp only [ssH, Nat.reduceAdd, Nat.reduceLeDiff, reduceIte, Nat.reduceEqDiff, Nat.reduceLT, Int.reduceBEq, Int.reduceBNe]
    refine hcall_cellq (b := 0) (az := [bs [41], .val (.bool false)]) rfl rfl (fun m b' hh => kList_bad (s := [41]) (one := false) hs' hh) (nb_rdR (L := L)) (by first | exact LR.nil | simp only [nbS]) kl_nb ?_
    rintro v Y ⟨es, rfl, rfl, hq3⟩
    simp only [ssH, Nat.reduceAdd, Nat.reduceLeDiff, reduceIte, Nat.reduceEqDiff, Nat.reduceLT, Int.reduceBEq, Int.reduceBNe]
    exact kfin (hw 11 [] 0 es .no hz) rfl rfl (by rintro e l ⟨⟩)
 rw [if_neg h_new] at hg
 refine hcall_look (b := 0) (az := [bs [110, 101, 119]]) (v := .val (.bool false)) rfl rfl (fun m b' hh => kTake_no hs hh (by rw [Bool.eq_false_iff.2 h_new]; rfl)) (nb_rdR (L := L)) (by first | exact LR.nil | simp only [nbS]) (by first | exact LR.nil | simp only [nbS]) ?_
 simp only [ssH, Nat.reduceAdd, Nat.reduceLeDiff, reduceIte, Nat.reduceEqDiff, Nat.reduceLT, Int.reduceBEq, Int.reduceBNe]
 by_cases h_br : isS [91] t = true
 ·rw [if_pos h_br] at hg
  refine hcall_cell (b := 0) (az := [bs [91]]) (v := .val (.bool true)) rfl rfl (fun m b' hh => kTake_yes hL hs hh h_br) (nb_rdR (L := L)) nb_rdR (by first | exact LR.nil | simp only [nbS]) (by first | exact LR.nil | simp only [nbS]) ?_
  simp only [ssH, Nat.reduceAdd, Nat.reduceLeDiff, reduceIte, Nat.reduceEqDiff, Nat.reduceLT, Int.reduceBEq, Int.reduceBNe]
  cases l' with
  | nil => exact absurd hg (by rw [row_nil]; simp [bindL])
  | cons t2 l2 =>
   obtain ⟨q, hq, hq2⟩ := row_next hg
   refine hcall_cellq (b := 0) (az := [bs [93], .val (.bool true)]) rfl rfl (fun m b' hh => kList_ok (n := j) (t := t2) (l := l2) (s := [93]) (one := true) (p := q) hL (by omega) (fun k hk => h k (by omega)) hs' hh (by rw [list_row]; exact hq)) (nb_rdR (L := L)) (by first | exact LR.nil | simp only [nbS]) kl_nb ?_
   rintro v Y ⟨es, rfl, rfl, hq3⟩
   have hq2 := hq2 _ hq3
   simp only [ssH, Nat.reduceAdd, Nat.reduceLeDiff, reduceIte, Nat.reduceEqDiff, Nat.reduceLT, Int.reduceBEq, Int.reduceBNe]
   rcases hq2 with ⟨hb, rfl⟩ | ⟨hb, hpp⟩
   ·exact kfin (hw 10 [] 0 es .no hz) rfl (by rw [hb]; rfl) (by rintro e l ⟨⟩)
   ·simp only [Option.some.injEq] at hpp
    subst hpp
    exact kfin (hw 10 [] 0 es .no hz) rfl (by rw [hb]; rfl) (by rintro e l ⟨⟩; rfl)
 rw [if_neg h_br] at hg
 refine hcall_look (b := 0) (az := [bs [91]]) (v := .val (.bool false)) rfl rfl (fun m b' hh => kTake_no hs hh (by rw [Bool.eq_false_iff.2 h_br]; rfl)) (nb_rdR (L := L)) (by first | exact LR.nil | simp only [nbS]) (by first | exact LR.nil | simp only [nbS]) ?_
 simp only [ssH, Nat.reduceAdd, Nat.reduceLeDiff, reduceIte, Nat.reduceEqDiff, Nat.reduceLT, Int.reduceBEq, Int.reduceBNe]
 by_cases h_pa : isS [40] t = true
 ·rw [if_pos h_pa] at hg
  refine hcall_cell (b := 0) (az := [bs [40]]) (v := .val (.bool true)) rfl rfl (fun m b' hh => kTake_yes hL hs hh h_pa) (nb_rdR (L := L)) nb_rdR (by first | exact LR.nil | simp only [nbS]) (by first | exact LR.nil | simp only [nbS]) ?_
  simp only [ssH, Nat.reduceAdd, Nat.reduceLeDiff, reduceIte, Nat.reduceEqDiff, Nat.reduceLT, Int.reduceBEq, Int.reduceBNe]
  obtain ⟨p1, k1, hs1, hf1⟩ := bind1_next hg
  have hsx : restP p1 <:+ L := (run_sfx j _ _ _ k1).trans hs'
  refine hcall_cellq (b := 0) (az := [it ((0 : Nat) : Int)]) rfl rfl (fun m b' hh => h j (by omega) 0 l' p1 m b' (by omega) hs' hs1 hh k1) (nb_rdR (L := L)) (by first | exact LR.nil | simp only [nbS]) kq_nb ?_
  rintro v Y ⟨⟨K, S, N, KE, ln⟩, rfl, rfl, hq1⟩
  have hf1 := hf1 _ hq1
  have hwx := wx_exV (.mk K S N KE ln)
  simp only [exV, ssH, Nat.reduceAdd, Nat.reduceLeDiff, reduceIte, Nat.reduceEqDiff, Nat.reduceLT, Int.reduceBEq, Int.reduceBNe]
  rcases hf1 with ⟨hbad, rfl⟩ | ⟨hgood, hpp⟩
  ·obtain ⟨t2, l2, rfl⟩ := st_cons k1 hbad
   simp only [restP, badP] at hsx ⊢
   refine hcall_cell (b := 0) (az := [bs [41]]) (v := .tup []) rfl rfl (fun m b' hh => kMust_no hsx hh rfl) (nb_rdR (L := L)) nb_rdR (by first | exact LR.nil | simp only [nbS]) (by first | exact LR.nil | simp only [nbS]) ?_
   simp only [ssH, Nat.reduceAdd, Nat.reduceLeDiff, reduceIte, Nat.reduceEqDiff, Nat.reduceLT, Int.reduceBEq, Int.reduceBNe]
   exact kfin hwx rfl rfl (by rintro e l ⟨⟩)
  ·rw [hgood]
   generalize restP p1 = l2 at hpp hsx
   cases l2 with
   | nil => cases hpp
   | cons t2 l2 =>
    simp only [mustK] at hpp
    cases hm : isS [41] t2
    ·simp only [hm, Bool.false_eq_true, if_false, Option.some.injEq] at hpp
     subst hpp
     refine hcall_cell (b := 0) (az := [bs [41]]) (v := .tup []) rfl rfl (fun m b' hh => kMust_no hsx hh (by rw [hm]; rfl)) (nb_rdR (L := L)) nb_rdR (by first | exact LR.nil | simp only [nbS]) (by first | exact LR.nil | simp only [nbS]) ?_
     simp only [ssH, Nat.reduceAdd, Nat.reduceLeDiff, reduceIte, Nat.reduceEqDiff, Nat.reduceLT, Int.reduceBEq, Int.reduceBNe]
     exact kfin hwx rfl rfl (by rintro e l ⟨⟩)
    ·simp only [hm, if_true, Option.some.injEq] at hpp
     subst hpp
     refine hcall_cell (b := 0) (az := [bs [41]]) (v := .tup []) rfl rfl (fun m b' hh => kMust_yes hL hsx hh hm) (nb_rdR (L := L)) nb_rdR (by first | exact LR.nil | simp only [nbS]) (by first | exact LR.nil | simp only [nbS]) ?_
     simp only [ssH, Nat.reduceAdd, Nat.reduceLeDiff, reduceIte, Nat.reduceEqDiff, Nat.reduceLT, Int.reduceBEq, Int.reduceBNe]
     exact kfin hwx rfl rfl (by rintro e l ⟨⟩; rfl)
 rw [if_neg h_pa] at hg
 refine hcall_look (b := 0) (az := [bs [40]]) (v := .val (.bool false)) rfl rfl (fun m b' hh => kTake_no hs hh (by rw [Bool.eq_false_iff.2 h_pa]; rfl)) (nb_rdR (L := L)) (by first | exact LR.nil | simp only [nbS]) (by first | exact LR.nil | simp only [nbS]) ?_
 simp only [ssH, Nat.reduceAdd, Nat.reduceLeDiff, reduceIte, Nat.reduceEqDiff, Nat.reduceLT, Int.reduceBEq, Int.reduceBNe]
 simp only [Option.some.injEq] at hg
 subst hg
 simp only [b1, ssH, Nat.reduceAdd, Nat.reduceLeDiff, reduceIte, Nat.reduceEqDiff, Nat.reduceLT, Int.reduceBEq, Int.reduceBNe]
 exact kfin (hw 0 [] 0 [] .full hf) rfl rfl (by rintro e l ⟨⟩)
end Go.Av.Fn
/- The document's rules all; how deep an expression is. No condition. -/
namespace Go.Av
section
variable {P : Program} {Γ : Glob} {Kp : V → Hl → Prop} {t : List V} {h : Hl}
theorem heval_mm {mx : Bool} {xs : List Operand} {m : Store} : evalL P (ev Γ t) m (.mm mx xs) = mmV mx (xs.map (ev Γ t)) := rfl
end
end Go.Av
namespace Go.Av.Fn
set_option linter.unusedSimpArgs false
set_option linter.unusedVariables false
set_option maxRecDepth 10000
open Go.Proofs
theorem rules_ok {Γ : Glob} {L : List Tk} (hL : L.length < 4611686018427387904) : ∀ n, n ≤ 1099511627776 → KEx Γ L n ∧ KUn Γ L n ∧ KSi Γ L n := by
 intro n
 induction n using Nat.strongRecOn with
 | _ n ih =>
  intro hn
  have h : ∀ k < n, KEx Γ L k ∧ KUn Γ L k ∧ KSi Γ L k := fun k hk => ih k hk (by omega)
  exact ⟨kExpr_ok hL fun k hk => ⟨(h k hk).1, (h k hk).2.1⟩, kUnary_ok hL h, kSingle_ok hL hn fun k hk => (h k hk).1⟩
theorem kDepth_ok {Γ : Glob} : ∀ (N : Nat) (e : Ex) (m : Store), sizeE e ≤ N → N ≤ 1099511627776 → ACalls Tryz.prog Γ 155 [exV e] m fun o m' => o = .ret (it (depthE e)) ∧ m' = m
 | 0, e, m, h, _ => by
  obtain ⟨k, s, n, kids, l⟩ := e
  simp only [sizeE] at h
  omega
 | N + 1, e, m, h, hN => by
  have hex := nb_exV (k := 0) e
  obtain ⟨k, s, n, kids, l⟩ := e
  simp only [sizeE] at h
  have hle := length_sizes kids
  refine acalls_v (acalls_p mixed F155_ok F155_h gok_nil (by rw [nbs_cons]; exact ⟨hex, by rw [nbs_nil]; trivial⟩) ?_)
  simp only [F155, exV, q, qn, qg, qh, ss0, Nat.reduceSub, Nat.reduceAdd]
  simp only [ssH, Nat.reduceAdd, Nat.reduceLeDiff, reduceIte, Nat.reduceEqDiff, Nat.reduceLT, Int.reduceBEq, Int.reduceBNe]
  have hB : nbB 1 (.var 170 [it k, bs s, it n, .sl (exVs kids) [] .no, it l]) := by
   simp only [nbS]
   exact nbs_exVs kids
  have hB1 : ∀ a < 1, ∀ x, lk [some (.var 170 [it k, bs s, it n, .sl (exVs kids) [] .no, it l])] a = some x → nbB 1 x := by
   intro a ha x hx
   have : a = 0 := by omega
   subst this
   cases hx
   exact hB
  refine h_loop [1, 3, 4] 22 (fun j vs h => ∃ i : Nat, vs = [.ptr 0 0, it (depths (kids.take i)), it i] ∧ h = [some (.var 170 [it k, bs s, it n, .sl (exVs kids) [] .no, it l])] ∧ i + j = kids.length) kids.length (by decide) (by decide) (List.range 1) (back_take rfl (by decide) (by decide) (by simp) (by show nbs 1 [.ptr 0 0, it (0 : Nat), it (0 : Nat)]; simp only [nbS]; decide) hB1 ⟨0, rfl, rfl, by omega⟩) ?_
  rintro j tt hh J hJ hl2 ⟨i, hv, rfl, hij⟩
  simp only [List.map, List.cons.injEq, and_true] at hv
  obtain ⟨h1, h3, h4⟩ := hv
  rw [t_eq hl2]
  simp only [upTo_succ, upTo, h1, h3, h4, ssH, Nat.reduceAdd, Nat.reduceLeDiff, reduceIte, Nat.reduceEqDiff, Nat.reduceLT, Int.reduceBEq, Int.reduceBNe]
  by_cases hlt : i < kids.length
  ·have hget : kids[i]? = some kids[i] := List.getElem?_eq_getElem hlt
   generalize kids[i] = ei at hget
   have hsz : sizeE ei ≤ N := by
    have := size_mem (List.mem_of_getElem? hget)
    omega
   have hei := nb_exV (k := 0) ei
   obtain ⟨k2, s2, n2, kids2, l2⟩ := ei
   rw [exVs_length, show decide ((i : Int) < (kids.length : Int)) = true by simp; omega]
   simp only [idx_ex rfl hget, ssH, Nat.reduceAdd, Nat.reduceLeDiff, reduceIte, Nat.reduceEqDiff, Nat.reduceLT, Int.reduceBEq, Int.reduceBNe]
   refine hcall_pure (v := it (depthE (.mk k2 s2 n2 kids2 l2))) (by exact fun m => kDepth_ok N (.mk k2 s2 n2 kids2 l2) m hsz (by omega)) (by show nbs 0 [exV (.mk k2 s2 n2 kids2 l2)]; rw [nbs_cons]; exact ⟨hei, by rw [nbs_nil]; trivial⟩) (by first | exact LR.nil | simp only [nbS]) ?_
   simp only [heval_mm, q_mm, mm_max, next_i64 (show i < 4611686018427387904 by omega), ssH, Nat.reduceAdd, Nat.reduceLeDiff, reduceIte, Nat.reduceEqDiff, Nat.reduceLT, Int.reduceBEq, Int.reduceBNe]
   refine ⟨_, hJ (j - 1) (List.range 1) _ (by omega) (back_take rfl (by decide) (by decide) (by simp) (by simp only [List.map, tget_zero, tget_succ, nbS]; decide) hB1 ⟨i + 1, ?_, rfl, by omega⟩)⟩
   simp only [List.map, tget_zero, tget_succ, List.cons.injEq, and_true, true_and]
   show it _ = it _
   congr 2
   rw [List.take_add_one, hget, depths_append]
   simp only [Option.toList, depths]
   omega
  ·have hge : i = kids.length := by omega
   have hd := depths_sizes kids
   rw [exVs_length, show decide ((i : Int) < (kids.length : Int)) = false by simp; omega]
   have hw : IntKind.i64.wrap ((depths (kids.take i) : Int) + 1) = ((depthE (.mk k s n kids l) : Nat) : Int) := by
    rw [hge, List.take_length, wrap_i64 (by omega) (by omega)]
    simp only [depthE]
    omega
   simp only [hw, ssH, Nat.reduceAdd, Nat.reduceLeDiff, reduceIte, Nat.reduceEqDiff, Nat.reduceLT, Int.reduceBEq, Int.reduceBNe]
   exact bodyH_ret resV_one ⟨(by simp only [tget_zero, tget_succ, nbS]), rfl⟩
theorem kScan_ok {Γ : Glob} {m : Store} (s : List UInt8) : ACalls Tryz.prog Γ 152 [bs s] m fun o m' => o = .ret (scanV (scanR s)) ∧ m' = m := by
 refine ACalls.weak (refScan_ok s) ?_ ?_
 ·rintro v m' ⟨h, rfl⟩
  refine ⟨?_, rfl⟩
  unfold ScanOut at h
  split at h
  ·rename_i l hl
   obtain ⟨tok, h⟩ := h
   cases h
   rw [hl]
   simp only [scanV, weak, weaks, weaks_map weak_tk]
  ·rename_i a e hl
   cases h
   rw [hl]
   simp only [scanV, weak, weaks]
 ·rintro v m' ⟨h, _⟩
  exfalso
  unfold ScanOut at h
  split at h
  ·obtain ⟨_, h⟩ := h
   cases h
  ·cases h
end Go.Av.Fn
/- A text's expression by the document. No condition. -/
namespace Go.Av
section
variable {P : Program} {Γ : Glob} {H : Nat → List (Nat × List Nat) × List Nat} {f : FuncId} {F : AFn} {gs : List Nat} {m : Store}
theorem acalls_pw (hm : P.follows .mixedOrders = true) (hF : compFn P H f = some F) (hok : F.body.okH gs = true) (hG : GOk Γ gs) {args : List V} (ha : nbs 0 args) {Qv : V → Prop}
  (h : hawp P Γ (fun _ _ => False) 0 F.body (bodyH F.res fun v _ => nb 0 (weak v) ∧ Qv (weak v)) ⟨start F.ntmps args, []⟩) : ACalls P Γ f args m fun o m' => (∃ v, o = .ret v ∧ Qv v) ∧ m' = m := by
 have h1 := acalls_h (P := P) (Γ := Γ) (R0 := fun _ _ => False) (N := 0) (m := fun _ => none) hm hF hok hG (ha.up _) (hh_nil _ (fun _ _ q => q) _) (fun _ _ q => q.elim) (Q := fun o h => match o with | .ret v => nb 0 (weak v) ∧ Qv (weak v) | .pan _ => False) h
 have hD : Disj (fun _ => none) m := fun b => .inl rfl
 have e : Store.or (fun _ => none) m = m := by funext b; rfl
 have h2 := h1.frame hD
 rw [e] at h2
 refine ACalls.weak (R := fun o m' => (∃ v, o = .ret v ∧ Qv (weak v)) ∧ m' = m) (ACalls.less h2 ?_) ?_ ?_
 ·rintro o m'' ⟨m', rfl, d, S, o0, h', s1, s2, s3, s4⟩
  refine ⟨m, ?_, ?_, rfl⟩
  ·intro b x hb
   rcases d b with q | q
   ·simp only [Store.or, q]; exact hb
   ·rw [q] at hb; cases hb
  ·cases o0 with
   | ret v =>
    cases o with
    | ret v' =>
     have e3 : weak v' = weak v := nb_eq s4.1 (VR.wk s3)
     exact ⟨v', rfl, by rw [e3]; exact s4.2⟩
    | pan v' => exact s3.elim
   | pan v => exact s4.elim
 ·rintro v m' ⟨⟨v', e9, q⟩, h9⟩
  cases e9
  exact ⟨⟨_, rfl, q⟩, h9⟩
 ·rintro v m' ⟨⟨v', e9, q⟩, _⟩
  cases e9
end
end Go.Av
namespace Go.Av.Fn
set_option linter.unusedSimpArgs false
set_option linter.unusedVariables false
set_option maxRecDepth 10000
open Go.Proofs
theorem nb_scanV {k : Nat} (r : Except (Nat × Int) (List Tk)) : nb k (scanV r) := by
 cases r with
 | ok l =>
  simp only [scanV, nbS]
  exact nbs_map (fun t => nb_tkV t) l
 | error x =>
  obtain ⟨a, e⟩ := x
  simp only [scanV, nbS]
theorem triV_none {a e : Int} : weak (.tup [.agg zX, it a, it e]) = triV (none, a, e) := by
 simp only [weak, weaks, triV, exO, exV, exVs, zX, bs]
theorem nb_triV {k : Nat} (r : Option Ex × Int × Int) : nb k (triV r) := by
 obtain ⟨x, a, e⟩ := r
 cases x with
 | none =>
  simp only [triV, exO, nbS]
  exact nb_exV _
 | some g =>
  simp only [triV, exO, nbS]
  exact nb_exV _
theorem rd0 (L : List Tk) : Blk.var 199 [.sl (L.map tkV) [] .no, it 0, .val (.bool false)] = rdS L L false := by
 simp [rdS, rdR]
theorem efin {s : List UInt8} {t : List V} {h : Hl} {v : V} {rs : List ARes} (hv : resV rs ⟨t, lk h⟩ = some v) (e : weak v = triV (exprS s)) : bodyH rs (fun v _ => nb 0 (weak v) ∧ weak v = triV (exprS s)) .ret ⟨t, h⟩ :=
 bodyH_ret hv ⟨by rw [e]; exact nb_triV _, e⟩
theorem rExpr_ok {Γ : Glob} {m : Store} (s : List UInt8) : ACalls Tryz.prog Γ 130 [bs s] m fun o m' => o = .ret (triV (exprS s)) ∧ m' = m := by
 refine acalls_v (acalls_pw mixed F130_ok F130_h gok_nil (by first | exact LR.nil | simp only [nbS]) ?_)
 simp only [F130, q, qn, qg, qh, ss0, Nat.reduceSub, Nat.reduceAdd]
 simp only [ssH, Nat.reduceAdd, Nat.reduceLeDiff, reduceIte, Nat.reduceEqDiff, Nat.reduceLT, Int.reduceBEq, Int.reduceBNe]
 refine hcall_pure (v := scanV (scanR s)) (by exact fun m => kScan_ok s) (by first | exact LR.nil | simp only [nbS]) (nb_scanV _) ?_
 cases hsc : scanR s with
 | error x =>
  obtain ⟨a, e⟩ := x
  have hne := scanR_ne hsc
  have hE : exprS s = (none, (a : Int), e) := by
   simp [exprS, readS, hsc, hne]
  have hb : (e != 0) = true := by simpa using hne
  simp only [scanV, ssH, Nat.reduceAdd, Nat.reduceLeDiff, reduceIte, Nat.reduceEqDiff, Nat.reduceLT, Int.reduceBEq, Int.reduceBNe]
  simp only [hb, ssH, Nat.reduceAdd, Nat.reduceLeDiff, reduceIte, Nat.reduceEqDiff, Nat.reduceLT, Int.reduceBEq, Int.reduceBNe]
  refine efin (v := .tup [.agg zX, it a, it e]) rfl (by rw [hE]; exact triV_none)
 | ok L =>
  simp only [scanV, ssH, Nat.reduceAdd, Nat.reduceLeDiff, reduceIte, Nat.reduceEqDiff, Nat.reduceLT, Int.reduceBEq, Int.reduceBNe]
  rw [rd0]
  obtain ⟨p, hp, hsg, hfit⟩ := run_expr (scanR_good hsc)
  have hlen := scanR_len hsc
  refine hcall_cellq (b := 1) (az := [it ((0 : Nat) : Int)]) rfl rfl (fun m b' hh => (rules_ok (Γ := Γ) (L := L) (by omega) (10 * L.length + 9) (by omega)).1 0 L p m b' (by omega) List.suffix_rfl hsg hh hp) nb_rdR (by first | exact LR.nil | simp only [nbS]) kq_nb ?_
  rintro v Y ⟨⟨k, s', nn, kids, ln⟩, rfl, rfl, hq⟩
  have hsx : restP p <:+ L := run_sfx _ _ _ _ hp
  cases p with
  | st l1 =>
   obtain ⟨tk, l2, rfl⟩ := hfit.1.ne
   simp only [restP, badP] at hsx ⊢
   have hE : exprS s = (none, tk.a, 6) := by
    simp [exprS, readS, hsc, readT, hp]
   simp only [exV, rdS, rdR, ssH, Nat.reduceAdd, Nat.reduceLeDiff, reduceIte, Nat.reduceEqDiff, Nat.reduceLT, Int.reduceBEq, Int.reduceBNe]
   refine hcall_look (b := 1) (az := []) rfl rfl (fun m b' hh => kTok_ok hsx hh) (nb_rdR (L := L)) (by first | exact LR.nil | simp only [nbS]) (nb_tkV tk) ?_
   simp only [tkV, ssH, Nat.reduceAdd, Nat.reduceLeDiff, reduceIte, Nat.reduceEqDiff, Nat.reduceLT, Int.reduceBEq, Int.reduceBNe]
   refine efin (v := .tup [.agg zX, it tk.a, it 6]) rfl (by rw [hE]; exact triV_none)
  | ok es l1 =>
   obtain ⟨tk, l2, rfl⟩ := hfit.1.ne
   obtain ⟨e, rfl⟩ := hsg
   have he : Ex.mk k s' nn kids ln = e := hq _ _ rfl
   subst he
   simp only [restP, badP] at hsx ⊢
   simp only [exV, rdS, rdR, ssH, Nat.reduceAdd, Nat.reduceLeDiff, reduceIte, Nat.reduceEqDiff, Nat.reduceLT, Int.reduceBEq, Int.reduceBNe]
   refine hcall_look (b := 1) (az := []) rfl rfl (fun m b' hh => kTok_ok hsx hh) (nb_rdR (L := L)) (by first | exact LR.nil | simp only [nbS]) (nb_tkV tk) ?_
   simp only [tkV, ssH, Nat.reduceAdd, Nat.reduceLeDiff, reduceIte, Nat.reduceEqDiff, Nat.reduceLT, Int.reduceBEq, Int.reduceBNe]
   by_cases hk : tk.k = 0
   ·have hR : readS s = (some (.mk k s' nn kids ln), 0, 0) := by
     simp [readS, hsc, readT, hp, hk]
    have hsz := readS_size hR
    simp only [hk, ssH, Nat.reduceAdd, Nat.reduceLeDiff, reduceIte, Nat.reduceEqDiff, Nat.reduceLT, Int.reduceBEq, Int.reduceBNe]
    refine hcall_pure (v := it (depthE (.mk k s' nn kids ln))) (by exact fun m => kDepth_ok 4097 (.mk k s' nn kids ln) m hsz (by omega)) (by show nbs 0 [exV (.mk k s' nn kids ln)]; rw [nbs_cons]; exact ⟨nb_exV _, by rw [nbs_nil]; trivial⟩) (by first | exact LR.nil | simp only [nbS]) ?_
    simp only [ssH, Nat.reduceAdd, Nat.reduceLeDiff, reduceIte, Nat.reduceEqDiff, Nat.reduceLT, Int.reduceBEq, Int.reduceBNe]
    by_cases hd : depthE (.mk k s' nn kids ln) > 24
    ·have hE : exprS s = (none, 0, 7) := by
      simp [exprS, hR, hd]
     rw [show decide ((24 : Int) < (depthE (.mk k s' nn kids ln) : Int)) = true by simp; omega]
     simp only [ssH, Nat.reduceAdd, Nat.reduceLeDiff, reduceIte, Nat.reduceEqDiff, Nat.reduceLT, Int.reduceBEq, Int.reduceBNe]
     refine efin (v := .tup [.agg zX, it 0, it 7]) rfl (by rw [hE]; exact triV_none)
    ·have hE : exprS s = (some (.mk k s' nn kids ln), 0, 0) := by
      simp [exprS, hR, hd]
     rw [show decide ((24 : Int) < (depthE (.mk k s' nn kids ln) : Int)) = false by simp; omega]
     simp only [ssH, Nat.reduceAdd, Nat.reduceLeDiff, reduceIte, Nat.reduceEqDiff, Nat.reduceLT, Int.reduceBEq, Int.reduceBNe]
     refine efin (v := .tup [exV (.mk k s' nn kids ln), it 0, it 0]) rfl (by rw [hE]; simp only [weak, weaks, triV, exO, weak_exV])
   ·have hE : exprS s = (none, tk.a, 6) := by
     simp [exprS, readS, hsc, readT, hp, hk]
    have hb : (tk.k != 0) = true := by simpa using hk
    simp only [hb, ssH, Nat.reduceAdd, Nat.reduceLeDiff, reduceIte, Nat.reduceEqDiff, Nat.reduceLT, Int.reduceBEq, Int.reduceBNe]
    refine hcall_look (b := 1) (az := []) rfl rfl (fun m b' hh => kTok_ok hsx hh) (nb_rdR (L := L)) (by first | exact LR.nil | simp only [nbS]) (nb_tkV tk) ?_
    simp only [tkV, ssH, Nat.reduceAdd, Nat.reduceLeDiff, reduceIte, Nat.reduceEqDiff, Nat.reduceLT, Int.reduceBEq, Int.reduceBNe]
    refine efin (v := .tup [.agg zX, it tk.a, it 6]) rfl (by rw [hE]; exact triV_none)
end Go.Av.Fn
/- Commands printed are parsed as they were; what is parsed is printed as it stood: plain laws. No condition. -/
namespace Go.Av.Fn
set_option linter.unusedSimpArgs false
set_option linter.unusedVariables false
open Go.Lib
theorem decDigits_big {u : Nat} (h : ¬ u < 10) : decDigits u = decDigits (u / 10) ++ [UInt8.ofNat (48 + u % 10)] := by
 rw [decDigits, dif_neg h]
theorem digit_nat {d : Nat} (h : d < 10) : (UInt8.ofNat (48 + d)).toNat = 48 + d := by
 rw [UInt8.toNat_ofNat']
 omega
theorem decDigits_dig (u : Nat) : ∀ b ∈ decDigits u, 48 ≤ b.toNat ∧ b.toNat ≤ 57 := by
 induction u using Nat.strongRecOn with
 | _ u ih =>
  intro b hb
  by_cases h : u < 10
  ·rw [decDigits_one h] at hb
   simp only [List.mem_singleton] at hb
   subst hb
   rw [digit_nat h]
   omega
  ·rw [decDigits_big h] at hb
   rcases List.mem_append.1 hb with hb | hb
   ·exact ih (u / 10) (by omega) b hb
   ·simp only [List.mem_singleton] at hb
    subst hb
    rw [digit_nat (by omega)]
    omega
theorem decDigits_ne (u : Nat) : decDigits u ≠ [] := by
 by_cases h : u < 10
 ·rw [decDigits_one h]; simp
 ·rw [decDigits_big h]; simp
theorem parseM_dec {M : Nat} (hM : M ≤ 18446744073709551615) (u : Nat) : ∀ r, u ≤ M → parseUintM M 0 (decDigits u ++ r) = parseUintM M u r := by
 induction u using Nat.strongRecOn with
 | _ u ih =>
  intro r hu
  by_cases h : u < 10
  ·rw [decDigits_one h]
   simp only [List.cons_append, List.nil_append, parseUintM, digit_nat h]
   rw [if_pos (by omega), if_neg (by omega), if_neg (by omega)]
   congr 1
   omega
  ·rw [decDigits_big h, List.append_assoc, ih (u / 10) (by omega) _ (by omega)]
   simp only [List.cons_append, List.nil_append, parseUintM, digit_nat (show u % 10 < 10 by omega)]
   rw [if_pos (by omega), if_neg (by omega), if_neg (by omega)]
   congr 1
   omega
theorem itoa_pos {n : Int} (h : 0 ≤ n) : itoa n = decDigits n.toNat := by
 unfold itoa
 rw [if_neg (by omega)]
theorem parse_itoa {n : Int} (h0 : 0 ≤ n) (h1 : n < 9223372036854775808) : parseIntB 64 (itoa n) = .ok n := by
 rw [itoa_pos h0]
 have hd := decDigits_dig n.toNat
 have hp := parseM_dec (M := 2 ^ 64 - 1) (by decide) n.toNat [] (by omega)
 rw [List.append_nil] at hp
 cases he : decDigits n.toNat with
 | nil => exact absurd he (decDigits_ne _)
 | cons c r =>
  rw [he] at hd hp
  have hc := hd c (List.mem_cons_self ..)
  unfold parseIntB
  simp only
  rw [if_neg (by omega)]
  unfold parseUintB
  rw [if_neg (by simp), hp]
  simp only [parseUintM]
  rw [if_neg (by omega), if_neg (by omega), if_neg (by omega)]
  congr 1
  omega
/-! ### Cuts -/
theorem cutB_cons (b : UInt8) (s : List UInt8) : cutB (b :: s) = if (b == 32) = true then ([], s, true) else (b :: (cutB s).1, (cutB s).2.1, (cutB s).2.2) := by
 unfold cutB
 rw [List.findIdx?_cons]
 cases h : (b == 32)
 ·simp only [Bool.false_eq_true, if_false]
  cases s.findIdx? (· == 32) <;> simp
 ·simp
theorem cutB_nil : cutB [] = ([], [], false) := rfl
theorem cutB_app : ∀ {w : List UInt8} (r : List UInt8), (∀ b ∈ w, b ≠ 32) → cutB (w ++ 32 :: r) = (w, r, true)
 | [], r, _ => by rw [List.nil_append, cutB_cons]; rfl
 | b :: w, r, h => by
  rw [List.cons_append, cutB_cons, cutB_app r fun x hx => h x (List.mem_cons_of_mem _ hx)]
  have : (b == 32) = false := by simpa using h b (List.mem_cons_self ..)
  simp [this]
theorem cutB_none : ∀ {w : List UInt8}, (∀ b ∈ w, b ≠ 32) → cutB w = (w, [], false)
 | [], _ => rfl
 | b :: w, h => by
  rw [cutB_cons, cutB_none fun x hx => h x (List.mem_cons_of_mem _ hx)]
  have : (b == 32) = false := by simpa using h b (List.mem_cons_self ..)
  simp [this]
theorem cutB_true : ∀ {s : List UInt8}, (cutB s).2.2 = true → s = (cutB s).1 ++ 32 :: (cutB s).2.1
 | [], h => by simp [cutB_nil] at h
 | b :: s, h => by
  rw [cutB_cons] at h ⊢
  cases hb : (b == 32)
  ·simp only [hb, Bool.false_eq_true, if_false] at h ⊢
   rw [List.cons_append, ← cutB_true h]
  ·simp only [if_true, List.nil_append]
   rw [eq_of_beq hb]
theorem cutB_false : ∀ {s : List UInt8}, (cutB s).2.2 = false → (cutB s).1 = s ∧ (cutB s).2.1 = []
 | [], h => ⟨rfl, rfl⟩
 | b :: s, h => by
  rw [cutB_cons] at h ⊢
  cases hb : (b == 32)
  ·simp only [hb, Bool.false_eq_true, if_false] at h ⊢
   obtain ⟨h1, h2⟩ := cutB_false h
   exact ⟨by rw [h1], h2⟩
  ·simp [hb] at h
/-! ### Forms -/
theorem forms_len : forms.length = 18 := rfl
theorem formOf_get {k : Nat} (h : k < 18) : forms[k]? = some (formOf k) := by
 unfold formOf
 rw [if_neg (by omega)]
 simp only [Int.toNat_natCast]
 rw [List.getElem?_eq_getElem (by rw [forms_len]; exact h)]
 rfl
theorem forms_blank : (forms.all fun f => f.w.all fun b => b != 32) = true := by decide
theorem forms_nodup : (forms.map Form.w).Nodup := by decide
theorem form_blank (k : Int) : ∀ b ∈ (formOf k).w, b ≠ 32 := by
 have h : ∀ f ∈ forms, ∀ b ∈ f.w, b ≠ 32 := by
  intro f hf b hb
  have := List.all_eq_true.1 (List.all_eq_true.1 forms_blank f hf) b hb
  simpa using this
 unfold formOf
 split
 ·intro b hb; cases hb
 ·cases hk : forms[k.toNat]? with
  | none => intro b hb; cases hb
  | some f => exact h f (List.mem_of_getElem? hk)
theorem form_inj {i j : Nat} (hi : i < 18) (hj : j < 18) (h : (formOf i).w = (formOf j).w) : i = j := by
 have h1 : (forms.map Form.w)[i]? = some (formOf i).w := by rw [List.getElem?_map, formOf_get hi]; rfl
 have h2 : (forms.map Form.w)[j]? = some (formOf j).w := by rw [List.getElem?_map, formOf_get hj]; rfl
 exact (List.getElem?_inj (by simpa [forms_len] using hi) forms_nodup).1 (by rw [h1, h2, h])
/-! ### What is parsed -/
theorem tryFrom_some {s : List UInt8} {x : Int × Int × List UInt8} : ∀ {n k : Nat}, tryFrom s n k = some x → ∃ j, k ≤ j ∧ j < k + n ∧ tryK s j = some x
 | 0, k, h => by cases h
 | n + 1, k, h => by
  simp only [tryFrom] at h
  cases hk : tryK s k with
  | some y =>
   rw [hk] at h
   cases h
   exact ⟨k, Nat.le_refl _, by omega, hk⟩
  | none =>
   rw [hk] at h
   obtain ⟨j, h1, h2, h3⟩ := tryFrom_some h
   exact ⟨j, by omega, by omega, h3⟩
theorem tryFrom_of {s : List UInt8} {x : Int × Int × List UInt8} {j : Nat} (hj : tryK s j = some x) : ∀ {n k : Nat}, k ≤ j → j < k + n → (∀ i, k ≤ i → i < j → tryK s i = none) → tryFrom s n k = some x
 | 0, k, h1, h2, _ => by omega
 | n + 1, k, h1, h2, h3 => by
  simp only [tryFrom]
  by_cases e : k = j
  ·subst e
   rw [hj]
  ·rw [h3 k (Nat.le_refl _) (by omega)]
   exact tryFrom_of hj (by omega) (by omega) fun i hi => h3 i (by omega)
theorem tryK_word {s : List UInt8} {k : Nat} {x : Int × Int × List UInt8} (h : tryK s k = some x) : (formOf k).w = (cutB s).1 := by
 unfold tryK at h
 split at h
 ·rename_i e
  exact eq_of_beq e
 ·cases h
theorem numB_ok {s : List UInt8} (h : 0 ≤ (numB s).1) : (cutB s).1 = itoa (numB s).1 ∧ (numB s).2 = (cutB s).2 := by
 unfold numB at h ⊢
 split
 ·rename_i n hn
  rw [hn] at h
  simp only at h
  by_cases e : (itoa n == (cutB s).1) = true
  ·rw [if_pos e] at h ⊢
   exact ⟨(eq_of_beq e).symm, rfl⟩
  ·rw [if_neg e] at h
   simp at h
 ·rename_i hn
  exfalso
  split at h
  ·rename_i n hn2
   exact hn n hn2
  ·simp at h
theorem numB_more {s : List UInt8} (h : (numB s).2.2 = true) : (cutB s).1 = itoa (numB s).1 ∧ (numB s).2 = (cutB s).2 := by
 unfold numB at h ⊢
 split
 ·rename_i n hn
  rw [hn] at h
  simp only at h
  by_cases e : (itoa n == (cutB s).1) = true
  ·rw [if_pos e]
   exact ⟨(eq_of_beq e).symm, rfl⟩
  ·rw [if_neg e] at h
   cases h
 ·rename_i hn
  exfalso
  split at h
  ·rename_i n hn2
   exact hn n hn2
  ·cases h
theorem cutIf_true {s : List UInt8} (h : (cutIf s).2 = true) : s = [105, 102, 32] ++ (cutIf s).1 := by
 unfold cutIf at h ⊢
 by_cases e : [105, 102, 32].isPrefixOf s = true
 ·rw [if_pos e]
  obtain ⟨r, rfl⟩ := List.isPrefixOf_iff_prefix.1 e
  simp
 ·rw [if_neg e] at h
  cases h
theorem parse_print {s : List UInt8} {k n : Int} {t : List UInt8} (h : parseC s = some (k, n, t)) : rightB k n t = true ∧ printB k n t = s ∧ (∃ j : Nat, k = j ∧ 1 ≤ j ∧ j < 18) := by
 unfold parseC at h
 obtain ⟨j, h1, h2, h3⟩ := tryFrom_some h
 have hw := tryK_word h3
 unfold tryK at h3
 rw [if_pos (by rw [hw]; exact beq_self_eq_true _)] at h3
 split at h3
 ·rename_i hc
  simp only [Option.some.injEq, Prod.mk.injEq] at h3
  obtain ⟨rfl, hn, ht⟩ := h3
  simp only [Bool.and_eq_true] at hc
  obtain ⟨hok, hr⟩ := hc
  rw [hn, ht] at hr
  refine ⟨hr, ?_, j, rfl, h1, by omega⟩
  unfold printB
  simp only
  rw [hw]
  unfold behB at hok hn ht
  cases hm : (cutB s).2.2
  ·obtain ⟨c1, c2⟩ := cutB_false hm
   rw [hm] at hok hn ht
   simp only [Bool.not_false, Bool.true_or, if_true, Bool.and_eq_true, Bool.not_eq_true', Bool.true_and] at hok hn ht
   obtain ⟨hfn, hfs⟩ := hok
   simp only [hfn, hfs, Bool.false_and, Bool.false_eq_true, if_false]
   exact c1
  ·have c1 := cutB_true hm
   rw [hm] at hok hn ht
   simp only [Bool.not_true, Bool.false_or] at hok hn ht
   cases hfn : (formOf j).n
   ·cases hfs : (formOf j).s
    ·simp [hfn, hfs] at hok
    ·simp only [hfn, hfs, Bool.not_false, Bool.not_true, Bool.and_false, Bool.false_eq_true, if_false, if_true] at hok hn ht
     simp only [Bool.false_and, Bool.false_eq_true, if_false, Bool.not_false, Bool.and_self, if_true, Bool.true_and]
     rw [← ht]
     exact c1.symm
   ·simp only [hfn, Bool.not_true, Bool.false_and, Bool.false_eq_true, if_false, Bool.true_eq_false] at hok hn ht
    simp only [Bool.true_and, Bool.not_true, Bool.and_false, Bool.false_eq_true, if_false, if_true]
    cases hmore : (numB (cutB s).2.1).2.2
    ·simp only [hmore, if_true, decide_eq_true_eq] at hok hn ht
     obtain ⟨d1, d2⟩ := numB_ok hok
     rw [d2] at hmore
     obtain ⟨e1, e2⟩ := cutB_false hmore
     subst ht
     simp only [BEq.rfl, Bool.not_true, Bool.false_eq_true, if_false]
     rw [← hn, ← d1, e1]
     exact c1.symm
    ·simp only [hmore, Bool.true_eq_false, if_false, Bool.and_eq_true] at hok hn ht
     obtain ⟨⟨o1, o2⟩, o3⟩ := hok
     obtain ⟨d1, d2⟩ := numB_more hmore
     have e1 := cutB_true (s := (cutB s).2.1) (by rw [← d2]; exact hmore)
     have e2 := cutIf_true o1
     rw [ht] at o3 e2
     rw [if_pos (by simpa using o3), ← hn, ← d1]
     rw [d2] at e2
     rw [List.append_assoc, List.cons_append]
     have e3 : (cutB (cutB s).2.1).1 ++ ([32, 105, 102, 32] ++ t) = (cutB s).2.1 := by
      have : [32, 105, 102, 32] ++ t = 32 :: ([105, 102, 32] ++ t) := rfl
      rw [this, ← e2]
      exact e1.symm
     rw [e3]
     exact c1.symm
 ·cases h3
end Go.Av.Fn
/- A command that is printed is parsed as it was: plain laws. No condition. -/
namespace Go.Av.Fn
set_option linter.unusedSimpArgs false
set_option linter.unusedVariables false
open Go.Lib
theorem itoa_blank {n : Int} (h : 0 ≤ n) : ∀ b ∈ itoa n, b ≠ 32 := by
 rw [itoa_pos h]
 intro b hb e
 subst e
 have := decDigits_dig _ _ hb
 revert this
 decide
theorem numB_itoa {n : Int} (h0 : 0 ≤ n) (h1 : n < 9223372036854775808) : numB (itoa n) = (n, [], false) := by
 unfold numB
 rw [cutB_none (itoa_blank h0)]
 simp only [parse_itoa h0 h1, BEq.rfl, if_true]
theorem numB_itoa_more {n : Int} (h0 : 0 ≤ n) (h1 : n < 9223372036854775808) (r : List UInt8) : numB (itoa n ++ 32 :: r) = (n, r, true) := by
 unfold numB
 rw [cutB_app r (itoa_blank h0)]
 simp only [parse_itoa h0 h1, BEq.rfl, if_true]
theorem cutIf_app (t : List UInt8) : cutIf ([105, 102, 32] ++ t) = (t, true) := by
 unfold cutIf
 rw [if_pos (List.isPrefixOf_iff_prefix.2 ⟨t, rfl⟩)]
 rfl
theorem right_form {k n : Int} {t : List UInt8} (h : rightB k n t = true) : formOf k ≠ noForm ∧ ((formOf k).n = false → n = 0) ∧ ((formOf k).s = false → t = []) ∧ 0 ≤ n ∧ n ≤ 4294967296 := by
 have hl := right_len h
 unfold rightB at h
 split at h
 ·cases h
 ·rename_i hc
  simp only [Bool.or_eq_true, Bool.and_eq_true, decide_eq_true_eq, Bool.not_eq_true', bne_iff_ne, not_or, not_and, Bool.not_eq_false, beq_eq_false_iff_ne] at hc
  obtain ⟨⟨⟨⟨c1, c2⟩, c3⟩, c4⟩, c5⟩ := hc
  refine ⟨c1, fun hn => ?_, fun hs => ?_, hl.2.1, hl.2.2⟩
  ·have := c2 hn
   simpa using this
  ·have := c3 hs
   simpa using this
theorem form_range {k : Int} (h : formOf k ≠ noForm) : ∃ j : Nat, k = j ∧ 1 ≤ j ∧ j < 18 := by
 unfold formOf at h
 split at h
 ·exact absurd rfl h
 ·rename_i hk
  cases hg : forms[k.toNat]? with
  | none => rw [hg] at h; exact absurd rfl h
  | some f =>
   have hlt := (List.getElem?_eq_some_iff.1 hg).1
   rw [forms_len] at hlt
   refine ⟨k.toNat, by omega, ?_, hlt⟩
   by_cases e : k.toNat = 0
   ·rw [hg] at h
    rw [e] at hg
    cases hg
    exact absurd rfl h
   ·omega
theorem print_parse {k n : Int} {t : List UInt8} (h : rightB k n t = true) : parseC (printB k n t) = some (k, n, t) := by
 obtain ⟨hf, hn, hs, h0, h1⟩ := right_form h
 obtain ⟨j, rfl, hj1, hj2⟩ := form_range hf
 have hb := form_blank (j : Int)
 have key : (cutB (printB j n t)).1 = (formOf j).w ∧ behB (formOf j) (cutB (printB j n t)).2.1 (!(cutB (printB j n t)).2.2) = (n, t, true) := by
  cases hfn : (formOf j).n
  ·have hn0 := hn hfn
   subst hn0
   cases hfs : (formOf j).s
   ·have ht := hs hfs
    subst ht
    have : printB j 0 [] = (formOf j).w := by simp [printB, hfn, hfs]
    rw [this, cutB_none hb]
    exact ⟨rfl, by simp [behB, hfn, hfs]⟩
   ·have : printB j 0 t = (formOf j).w ++ 32 :: t := by simp [printB, hfn, hfs]
    rw [this, cutB_app t hb]
    exact ⟨rfl, by simp [behB, hfn, hfs]⟩
  ·by_cases ht : t = []
   ·subst ht
    have : printB j n [] = (formOf j).w ++ 32 :: itoa n := by simp [printB, hfn]
    rw [this, cutB_app _ hb]
    refine ⟨rfl, ?_⟩
    unfold behB
    rw [numB_itoa h0 (by omega)]
    simp [hfn, h0]
   ·have hfs : (formOf j).s = true := by
     cases hfs : (formOf j).s
     ·exact absurd (hs hfs) ht
     ·rfl
    have : printB j n t = (formOf j).w ++ 32 :: (itoa n ++ 32 :: ([105, 102, 32] ++ t)) := by simp [printB, hfn, ht]
    rw [this, cutB_app _ hb]
    refine ⟨rfl, ?_⟩
    unfold behB
    rw [numB_itoa_more h0 (by omega)]
    simp only [hfn, Bool.not_true, Bool.false_and, Bool.or_self, Bool.false_eq_true, if_false, Bool.true_eq_false]
    rw [cutIf_app]
    simp [hfs, ht]
 unfold parseC
 refine tryFrom_of (j := j) ?_ hj1 (by omega) fun i hi1 hi2 => ?_
 ·unfold tryK
  rw [if_pos (by rw [key.1]; exact beq_self_eq_true _), key.2]
  simp [h]
 ·unfold tryK
  rw [if_neg]
  intro e
  have := eq_of_beq e
  rw [key.1] at this
  have := form_inj (by omega) hj2 this
  omega
end Go.Av.Fn
/- A command that is printed is parsed as it was; what is parsed is printed as it stood: the statement's function, walked. Conditions as ahead; numbers are written. -/
namespace Go.Av.Fn
set_option linter.unusedSimpArgs false
set_option linter.unusedVariables false
set_option maxRecDepth 10000
open Go.Proofs
def FmtAll (Γ : Glob) : Prop := ∀ n : Int, -9223372036854775808 ≤ n → n ≤ 9223372036854775807 → FmtAt Γ n
theorem FmtAll.num {Γ : Glob} (h : FmtAll Γ) (s : List UInt8) : FmtNum Γ s := by
 intro n hn
 have := Lib.parseIntB_bounds hn
 exact h n (by have := this.1; simpa using this) (by have := this.2; simp at this; omega)
theorem fin6 {t : List V} {h : Hl} {i : Nat} (ht : tget t i = .val (.bool true)) : bodyH [ARes.tmp i] (fun v _ => nb 0 v ∧ v = .val (.bool true)) .ret ⟨t, h⟩ :=
 bodyH_ret resV_one ⟨by rw [show (⟨t, lk h⟩ : St).t = t from rfl, ht]; exact .val _, ht⟩
theorem nbs_c1 (a b : Int) (c : List UInt8) : nbs 0 [.agg [it a, it b, bs c]] := nbs_cmd1 a b c
end Go.Av.Fn
/- Whether a command fits its kind, by the document. No condition. -/
namespace Go.Av.Fn
set_option linter.unusedSimpArgs false
set_option linter.unusedVariables false
set_option maxRecDepth 10000
open Go.Proofs
def fitsB (k n : Int) (s : List UInt8) : Bool := decide (formOf k ≠ noForm) && ((formOf k).n || n == 0) && ((formOf k).s || s == [])
theorem bs_eq0 {P : Program} {T : TypeId} {xo yo : Operand} {s : List UInt8} : binV P .eql T .other xo yo (bs s) (.val (.string (ByteArray.mk #[]))) = some (.val (.bool (s == []))) := bin_beql (x := s) (y := [])
theorem bs_ne0 {P : Program} {T : TypeId} {xo yo : Operand} {s : List UInt8} : binV P .neq T .other xo yo (bs s) (.val (.string (ByteArray.mk #[]))) = some (.val (.bool (!(s == [])))) := bin_bneq (x := s) (y := [])
theorem nbs_cmdV (k n : Int) (s : List UInt8) : nbs 0 [cmdV k n s] := by
 simp only [nb_cmdV, nbS]
section
variable {Γ : Glob} {m : Store}
theorem kWritten_ok (s : List UInt8) : ACalls Tryz.prog Γ 106 [bs s] m fun o m' => o = .ret (.val (.bool (writtenB s))) ∧ m' = m := by
 refine acalls_v (acalls_p mixed F106_ok F106_h gok_nil (by first | exact LR.nil | simp only [nbS]) ?_)
 simp only [F106, q, qn, qg, qh, ss0, Nat.reduceSub, Nat.reduceAdd]
 simp only [ssH, Nat.reduceAdd, Nat.reduceLeDiff, reduceIte, Nat.reduceEqDiff, Nat.reduceLT, Int.reduceBEq, Int.reduceBNe]
 refine hcall_pure (by exact fun m => rExpr_ok s) (by first | exact LR.nil | simp only [nbS]) (nb_triV _) ?_
 obtain ⟨k, s', nn, kids, ln, he⟩ : ∃ k s' nn kids ln, exO (exprS s).1 = exV (.mk k s' nn kids ln) := by
  cases (exprS s).1 with
  | none => exact ⟨0, [], 0, [], 0, rfl⟩
  | some e =>
   obtain ⟨k, s', nn, kids, ln⟩ := e
   exact ⟨k, s', nn, kids, ln, rfl⟩
 simp only [triV, he, exV, ssH, Nat.reduceAdd, Nat.reduceLeDiff, reduceIte, Nat.reduceEqDiff, Nat.reduceLT, Int.reduceBEq, Int.reduceBNe]
 cases h0 : ((exprS s).2.2 == 0)
 ·simp only [ssH, Nat.reduceAdd, Nat.reduceLeDiff, reduceIte, Nat.reduceEqDiff, Nat.reduceLT, Int.reduceBEq, Int.reduceBNe]
  exact bodyH_ret resV_one ⟨(by simp only [tget_zero, tget_succ, nbS]), by simp [tget, writtenB, h0]; try omega⟩
 ·simp only [ssH, Nat.reduceAdd, Nat.reduceLeDiff, reduceIte, Nat.reduceEqDiff, Nat.reduceLT, Int.reduceBEq, Int.reduceBNe]
  exact bodyH_ret resV_one ⟨(by simp only [tget_zero, tget_succ, nbS]), by simp [tget, writtenB, h0]; try omega⟩
theorem kFits_ok (k n : Int) (s : List UInt8) : ACalls Tryz.prog Γ 105 [cmdV k n s] m fun o m' => o = .ret (.val (.bool (fitsB k n s))) ∧ m' = m := by
 refine acalls_v (acalls_p mixed F105_ok F105_h gok_nil (nbs_cmdV _ _ _) ?_)
 simp only [F105, cmdV, q, qn, qg, qh, ss0, Nat.reduceSub, Nat.reduceAdd]
 simp only [ssH, Nat.reduceAdd, Nat.reduceLeDiff, reduceIte, Nat.reduceEqDiff, Nat.reduceLT, Int.reduceBEq, Int.reduceBNe]
 by_cases hk : 1 ≤ k ∧ k ≤ 17
 ·have : k = 1 ∨ k = 2 ∨ k = 3 ∨ k = 4 ∨ k = 5 ∨ k = 6 ∨ k = 7 ∨ k = 8 ∨ k = 9 ∨ k = 10 ∨ k = 11 ∨ k = 12 ∨ k = 13 ∨ k = 14 ∨ k = 15 ∨ k = 16 ∨ k = 17 := by omega
  rcases this with rfl | rfl | rfl | rfl | rfl | rfl | rfl | rfl | rfl | rfl | rfl | rfl | rfl | rfl | rfl | rfl | rfl
  all_goals
   simp only [ge_iff_le, gt_iff_lt, Int.reduceLE, Int.reduceLT, decide_true, decide_false, bs_eq0, ssH, Nat.reduceAdd, Nat.reduceLeDiff, reduceIte, Nat.reduceEqDiff, Nat.reduceLT, Int.reduceBEq, Int.reduceBNe]
   first
    | exact bodyH_ret resV_one ⟨(by simp only [tget_zero, tget_succ, nbS]), by simp [tget, fitsB, formOf, forms, noForm]⟩
    | (cases hn : (n == 0) <;> simp only [bs_eq0, ssH, Nat.reduceAdd, Nat.reduceLeDiff, reduceIte, Nat.reduceEqDiff, Nat.reduceLT, Int.reduceBEq, Int.reduceBNe] <;> exact bodyH_ret resV_one ⟨(by simp only [tget_zero, tget_succ, nbS]), by simp [tget, fitsB, formOf, forms, noForm, hn]⟩)
 ·have hno : formOf k = noForm := by
   by_cases e : formOf k = noForm
   ·exact e
   ·obtain ⟨j, rfl, h1, h2⟩ := form_range e
    omega
  have hq : ∀ c : Int, 1 ≤ c → c ≤ 17 → (k == c) = false := by
   intro c h1 h2
   have : k ≠ c := by omega
   simpa using this
  rcases (show k < 1 ∨ 17 < k by omega) with h | h
  ·simp only [ge_iff_le, gt_iff_lt, show decide (1 ≤ k) = false by simp; omega, show decide (12 ≤ k) = false by simp; omega, hq 15 (by decide) (by decide), hq 16 (by decide) (by decide), hq 9 (by decide) (by decide), hq 11 (by decide) (by decide), hq 17 (by decide) (by decide), hq 10 (by decide) (by decide), ssH, Nat.reduceAdd, Nat.reduceLeDiff, reduceIte, Nat.reduceEqDiff, Nat.reduceLT, Int.reduceBEq, Int.reduceBNe]
   exact bodyH_ret resV_one ⟨(by simp only [tget_zero, tget_succ, nbS]), by simp [tget, fitsB, hno]⟩
  ·simp only [ge_iff_le, gt_iff_lt, show decide (1 ≤ k) = true by simp; omega, show decide (12 ≤ k) = true by simp; omega, show decide (k ≤ 8) = false by simp; omega, show decide (k ≤ 14) = false by simp; omega, hq 15 (by decide) (by decide), hq 16 (by decide) (by decide), hq 9 (by decide) (by decide), hq 11 (by decide) (by decide), hq 17 (by decide) (by decide), hq 10 (by decide) (by decide), ssH, Nat.reduceAdd, Nat.reduceLeDiff, reduceIte, Nat.reduceEqDiff, Nat.reduceLT, Int.reduceBEq, Int.reduceBNe]
   exact bodyH_ret resV_one ⟨(by simp only [tget_zero, tget_succ, nbS]), by simp [tget, fitsB, hno]⟩
end
end Go.Av.Fn
/- A number's digits by the document. No condition. -/
namespace Go.Av.Fn
set_option linter.unusedSimpArgs false
set_option linter.unusedVariables false
set_option maxRecDepth 10000
open Go.Proofs Go.Lib
theorem conv_i64_u8 {n : Int} : convV Tryz.prog 3 5 (.val (.int .i64 n)) = some (.val (.int .u8 (IntKind.u8.wrap n))) := by kernel_rfl
theorem dig_lit {d : Nat} (h : d < 10) : b2sV (.sl [.val (.int .u8 (IntKind.u8.wrap (IntKind.i64.wrap (48 + (d : Int)))))] [] .full) = some (bs [UInt8.ofNat (48 + d)]) := by
 have : d = 0 ∨ d = 1 ∨ d = 2 ∨ d = 3 ∨ d = 4 ∨ d = 5 ∨ d = 6 ∨ d = 7 ∨ d = 8 ∨ d = 9 := by omega
 rcases this with rfl | rfl | rfl | rfl | rfl | rfl | rfl | rfl | rfl | rfl <;> rfl
theorem kDigits_ok {Γ : Glob} : ∀ (u : Nat) (m : Store), u ≤ 4611686018427387904 → (decDigits u).length ≤ u + 1 → ACalls Tryz.prog Γ 64 [it u] m fun o m' => o = .ret (bs (decDigits u)) ∧ m' = m := by
 intro u
 induction u using Nat.strongRecOn with
 | _ u ih =>
  intro m hu hlen
  refine acalls_v (acalls_p mixed F64_ok F64_h gok_nil (by first | exact LR.nil | simp only [nbS]) ?_)
  simp only [F64, q, qn, qg, qh, ss0, Nat.reduceSub, Nat.reduceAdd]
  simp only [ssH, Nat.reduceAdd, Nat.reduceLeDiff, reduceIte, Nat.reduceEqDiff, Nat.reduceLT, Int.reduceBEq, Int.reduceBNe]
  by_cases h : u < 10
  ·rw [show decide ((u : Int) < 10) = true by simp; omega]
   simp only [eval_conv, conv_i64_u8, eval_lit1, litV1_val, eval_b2s, dig_lit h, ssH, Nat.reduceAdd, Nat.reduceLeDiff, reduceIte, Nat.reduceEqDiff, Nat.reduceLT, Int.reduceBEq, Int.reduceBNe]
   exact bodyH_ret resV_one ⟨(by simp only [tget_zero, tget_succ, nbS]), by rw [decDigits_one h]; rfl⟩
  ·rw [show decide ((u : Int) < 10) = false by simp; omega]
   have hq : IntKind.i64.wrap ((u : Int).tdiv 10) = ((u / 10 : Nat) : Int) := by
    rw [Int.tdiv_eq_ediv_of_nonneg (Int.natCast_nonneg u), wrap_i64 (by omega) (by omega)]
    omega
   have hm : (u : Int).tmod 10 = ((u % 10 : Nat) : Int) := by
    rw [Int.tmod_eq_emod_of_nonneg (Int.natCast_nonneg u)]
    omega
   have hl := decDigits_len (u / 10)
   simp only [bin_quo (show (10 : Int) ≠ 0 by decide), bin_rem (show (10 : Int) ≠ 0 by decide), hq, hm, eval_conv, conv_i64_u8, eval_lit1, litV1_val, eval_b2s, dig_lit (show u % 10 < 10 by omega), ssH, Nat.reduceAdd, Nat.reduceLeDiff, reduceIte, Nat.reduceEqDiff, Nat.reduceLT, Int.reduceBEq, Int.reduceBNe]
   refine hcall_pure (v := bs (decDigits (u / 10))) (by exact fun m => ih (u / 10) (by omega) m (by omega) hl) (by first | exact LR.nil | simp only [nbS]) (by first | exact LR.nil | simp only [nbS]) ?_
   simp only [bs_add (show (decDigits (u / 10)).length + [UInt8.ofNat (48 + u % 10)].length ≤ 9223372036854775807 by simp only [List.length_cons, List.length_nil]; omega), ssH, Nat.reduceAdd, Nat.reduceLeDiff, reduceIte, Nat.reduceEqDiff, Nat.reduceLT, Int.reduceBEq, Int.reduceBNe]
   exact bodyH_ret resV_one ⟨(by simp only [tget_zero, tget_succ, nbS]), by rw [decDigits_big h]; rfl⟩
end Go.Av.Fn
/- Whether a command is right by the document. No condition. -/
namespace Go.Av.Fn
set_option linter.unusedSimpArgs false
set_option linter.unusedVariables false
set_option maxRecDepth 10000
open Go.Proofs Go.Lib
theorem fits_right {k n : Int} {s : List UInt8} (h : rightB k n s = true) : fitsB k n s = true := by
  obtain ⟨h1, h2, h3, _, _⟩ := right_form h
  unfold fitsB
  cases a : (formOf k).n <;> cases b : (formOf k).s <;> simp [h1] <;> first | exact ⟨h2 a, h3 b⟩ | exact h2 a | exact h3 b | skip
theorem fits_range {k n : Int} {s : List UInt8} (h : fitsB k n s = true) : k = 1 ∨ k = 2 ∨ k = 3 ∨ k = 4 ∨ k = 5 ∨ k = 6 ∨ k = 7 ∨ k = 8 ∨ k = 9 ∨ k = 10 ∨ k = 11 ∨ k = 12 ∨ k = 13 ∨ k = 14 ∨ k = 15 ∨ k = 16 ∨ k = 17 := by
  unfold fitsB at h
  simp only [Bool.and_eq_true, decide_eq_true_eq] at h
  obtain ⟨j, rfl, h1, h2⟩ := form_range h.1.1
  omega
section
variable {Γ : Glob} {m : Store}
theorem rfin {b : Bool} {k n : Int} {s : List UInt8} {t : List V} {h : Hl} (ht : tget t 2 = .val (.bool b)) (e : rightB k n s = b) : bodyH [ARes.tmp 2] (fun v _ => nb 0 v ∧ v = .val (.bool (rightB k n s))) .ret ⟨t, h⟩ :=
  bodyH_ret resV_one ⟨by rw [show (⟨t, lk h⟩ : St).t = t from rfl, ht]; exact .val _, by rw [show (⟨t, lk h⟩ : St).t = t from rfl, ht, e]⟩
theorem kRight_ok (k n : Int) (s : List UInt8) : ACalls Tryz.prog Γ 63 [cmdV k n s] m fun o m' => o = .ret (.val (.bool (rightB k n s))) ∧ m' = m := by
  refine acalls_v (acalls_p mixed F63_ok F63_h gok_nil (nbs_cmdV _ _ _) ?_)
  simp only [F63, cmdV, q, qn, qg, qh, ss0, Nat.reduceSub, Nat.reduceAdd]
  simp only [ssH, Nat.reduceAdd, Nat.reduceLeDiff, reduceIte, Nat.reduceEqDiff, Nat.reduceLT, Int.reduceBEq, Int.reduceBNe]
  refine hcall_pure (v := .val (.bool (fitsB k n s))) (by exact fun m => kFits_ok k n s) (nbs_c1 _ _ _) (by first | exact LR.nil | simp only [nbS]) ?_
  cases hf : fitsB k n s
  · simp only [ssH, Nat.reduceAdd, Nat.reduceLeDiff, reduceIte, Nat.reduceEqDiff, Nat.reduceLT, Int.reduceBEq, Int.reduceBNe]
    refine rfin rfl ?_
    cases hr : rightB k n s
    · rfl
    · rw [fits_right hr] at hf
      cases hf
  · by_cases hn : 0 ≤ n ∧ n ≤ 4294967296
    · obtain ⟨hn1, hn2⟩ := hn
      simp only [gt_iff_lt, show decide (n < 0) = false by simp; omega, show decide (4294967296 < n) = false by simp; omega, ssH, Nat.reduceAdd, Nat.reduceLeDiff, reduceIte, Nat.reduceEqDiff, Nat.reduceLT, Int.reduceBEq, Int.reduceBNe]
      rcases fits_range hf with rfl | rfl | rfl | rfl | rfl | rfl | rfl | rfl | rfl | rfl | rfl | rfl | rfl | rfl | rfl | rfl | rfl
      all_goals simp only [fitsB, formOf, forms, noForm] at hf
      all_goals simp at hf
      all_goals simp only [ge_iff_le, gt_iff_lt, bs_eq0, ssH, Nat.reduceAdd, Nat.reduceLeDiff, reduceIte, Nat.reduceEqDiff, Nat.reduceLT, Int.reduceBEq, Int.reduceBNe]
      all_goals first
        | (have hh : n = 0 ∧ s = [] := hf
           obtain ⟨rfl, rfl⟩ := hh
           exact rfin rfl (by simp [rightB, formOf, forms, noForm]))
        | (have hv : rightB 9 n s = true := by (simp [rightB, formOf, forms, noForm, hf]; omega)
           exact rfin rfl hv)
        | (subst hf
           refine hcall_pure (v := .val (.bool (writtenB s))) (by exact fun m => kWritten_ok s) (by first | exact LR.nil | simp only [nbS]) (by first | exact LR.nil | simp only [nbS]) ?_
           simp only [ssH, Nat.reduceAdd, Nat.reduceLeDiff, reduceIte, Nat.reduceEqDiff, Nat.reduceLT, Int.reduceBEq, Int.reduceBNe]
           exact rfin rfl (by simp [rightB, formOf, forms, noForm]))
        | (subst hf
           by_cases h1 : 1 ≤ n
           · exact rfin (b := true) (by simp [tget, h1]) (by simp [rightB, formOf, forms, noForm]; omega)
           · exact rfin (b := false) (by simp [tget, h1]) (by simp [rightB, formOf, forms, noForm]; omega))
        | skip
      by_cases h1 : 1 ≤ n
      · rw [show decide (1 ≤ n) = true by simp [h1]]
        simp only [bs_eq0, ssH, Nat.reduceAdd, Nat.reduceLeDiff, reduceIte, Nat.reduceEqDiff, Nat.reduceLT, Int.reduceBEq, Int.reduceBNe]
        cases hs : (s == [])
        · simp only [ssH, Nat.reduceAdd, Nat.reduceLeDiff, reduceIte, Nat.reduceEqDiff, Nat.reduceLT, Int.reduceBEq, Int.reduceBNe]
          refine hcall_pure (v := .val (.bool (writtenB s))) (by exact fun m => kWritten_ok s) (by first | exact LR.nil | simp only [nbS]) (by first | exact LR.nil | simp only [nbS]) ?_
          simp only [ssH, Nat.reduceAdd, Nat.reduceLeDiff, reduceIte, Nat.reduceEqDiff, Nat.reduceLT, Int.reduceBEq, Int.reduceBNe]
          exact rfin rfl (by simp only [rightB, formOf, forms, noForm]; simp [hs]; omega)
        · simp only [ssH, Nat.reduceAdd, Nat.reduceLeDiff, reduceIte, Nat.reduceEqDiff, Nat.reduceLT, Int.reduceBEq, Int.reduceBNe]
          exact rfin rfl (by simp only [rightB, formOf, forms, noForm]; simp [hs]; omega)
      · rw [show decide (1 ≤ n) = false by simp [h1]]
        simp only [ssH, Nat.reduceAdd, Nat.reduceLeDiff, reduceIte, Nat.reduceEqDiff, Nat.reduceLT, Int.reduceBEq, Int.reduceBNe]
        exact rfin rfl (by simp only [rightB, formOf, forms, noForm]; simp; omega)
    · have hr : rightB k n s = false := by
        cases hr : rightB k n s
        · rfl
        · obtain ⟨_, _, _, h1, h2⟩ := right_form hr
          exact absurd ⟨h1, h2⟩ hn
      by_cases h0 : n < 0
      · simp only [gt_iff_lt, show decide (n < 0) = true by simp [h0], ssH, Nat.reduceAdd, Nat.reduceLeDiff, reduceIte, Nat.reduceEqDiff, Nat.reduceLT, Int.reduceBEq, Int.reduceBNe]
        exact rfin rfl hr
      · simp only [gt_iff_lt, show decide (n < 0) = false by simp; omega, show decide (4294967296 < n) = true by simp; omega, ssH, Nat.reduceAdd, Nat.reduceLeDiff, reduceIte, Nat.reduceEqDiff, Nat.reduceLT, Int.reduceBEq, Int.reduceBNe]
        exact rfin rfl hr
end
end Go.Av.Fn
/- A command's text by the document. No condition. -/
namespace Go.Av.Fn
set_option linter.unusedSimpArgs false
set_option linter.unusedVariables false
set_option maxRecDepth 10000
open Go.Proofs Go.Lib
def wordsK : List (List UInt8) := (forms.drop 1).map Form.w
theorem words_get {j : Nat} (h1 : 1 ≤ j) (h2 : j < 18) : wordsK[j - 1]? = some (formOf j).w := by
  have : j = 1 ∨ j = 2 ∨ j = 3 ∨ j = 4 ∨ j = 5 ∨ j = 6 ∨ j = 7 ∨ j = 8 ∨ j = 9 ∨ j = 10 ∨ j = 11 ∨ j = 12 ∨ j = 13 ∨ j = 14 ∨ j = 15 ∨ j = 16 ∨ j = 17 := by omega
  rcases this with rfl | rfl | rfl | rfl | rfl | rfl | rfl | rfl | rfl | rfl | rfl | rfl | rfl | rfl | rfl | rfl | rfl <;> rfl
section
variable {Γ : Glob} {m : Store}
theorem kWord_ok {j : Nat} (h1 : 1 ≤ j) (h2 : j < 18) : ACalls Tryz.prog Γ 59 [it j] m fun o m' => o = .ret (bs (formOf j).w) ∧ m' = m := by
  refine acalls_v (acalls_p mixed F59_ok F59_h gok_nil (by first | exact LR.nil | simp only [nbS]) ?_)
  simp only [F59, q, qn, qg, qh, ss0, Nat.reduceSub, Nat.reduceAdd]
  have e : ∀ {t : List V} {m : Store}, evalL Tryz.prog (ev Γ t) m (.lits 1 [.val (.string (ByteArray.mk #[]))] 17 [(0, .const (.string (ByteArray.mk #[115, 116, 101, 112]))), (1, .const (.string (ByteArray.mk #[110, 101, 120, 116]))), (2, .const (.string (ByteArray.mk #[102, 105, 110, 105, 115, 104]))), (3, .const (.string (ByteArray.mk #[99, 111, 110, 116, 105, 110, 117, 101]))), (4, .const (.string (ByteArray.mk #[98, 97, 99, 107, 45, 115, 116, 101, 112]))), (5, .const (.string (ByteArray.mk #[98, 97, 99, 107, 45, 110, 101, 120, 116]))), (6, .const (.string (ByteArray.mk #[98, 97, 99, 107, 45, 102, 105, 110, 105, 115, 104]))), (7, .const (.string (ByteArray.mk #[98, 97, 99, 107, 45, 99, 111, 110, 116, 105, 110, 117, 101]))), (8, .const (.string (ByteArray.mk #[103, 111, 116, 111]))), (9, .const (.string (ByteArray.mk #[98, 114, 101, 97, 107]))), (10, .const (.string (ByteArray.mk #[119, 97, 116, 99, 104]))), (11, .const (.string (ByteArray.mk #[100, 101, 108, 101, 116, 101]))), (12, .const (.string (ByteArray.mk #[101, 110, 97, 98, 108, 101]))), (13, .const (.string (ByteArray.mk #[100, 105, 115, 97, 98, 108, 101]))), (14, .const (.string (ByteArray.mk #[117, 112]))), (15, .const (.string (ByteArray.mk #[100, 111, 119, 110]))), (16, .const (.string (ByteArray.mk #[112, 114, 105, 110, 116])))]) = some (.sl (wordsK.map bs) [] .full) := by
    intro t m
    kernel_rfl
  have hi : idxLV 1 (.sl (wordsK.map bs) [] .full) (it (j - 1 : Nat)) = some (.elt [bs (formOf j).w]) := idxLV_nat (e := bs (formOf j).w) (by rw [List.getElem?_map, words_get h1 h2]; rfl) rfl
  have hw : IntKind.i64.wrap ((j : Int) - 1) = ((j - 1 : Nat) : Int) := by
    rw [wrap_i64 (by omega) (by omega)]
    omega
  simp only [e, hw, hi, ssH, Nat.reduceAdd, Nat.reduceLeDiff, reduceIte, Nat.reduceEqDiff, Nat.reduceLT, Int.reduceBEq, Int.reduceBNe]
  exact bodyH_ret resV_one ⟨(by simp only [tget_zero, tget_succ, nbS]), rfl⟩
theorem pfin {X W : List UInt8} {t : List V} {h : Hl} (h2 : tget t 2 = bs W) (h3 : tget t 3 = it 0) (e : X = W) : bodyH [ARes.tmp 2, ARes.tmp 3] (fun v _ => nb 0 v ∧ v = .tup [bs X, it 0]) .ret ⟨t, h⟩ := by
  refine bodyH_ret resV_two ⟨?_, ?_⟩
  · rw [show (⟨t, lk h⟩ : St).t = t from rfl, h2, h3]
    simp only [nbS]
  · rw [show (⟨t, lk h⟩ : St).t = t from rfl, h2, h3, e]
theorem kPrint_ok (k n : Int) (s : List UInt8) : ACalls Tryz.prog Γ 19 [cmdV k n s] m fun o m' => o = .ret (.tup [bs (if rightB k n s = true then printB k n s else []), it (if rightB k n s = true then 0 else 2)]) ∧ m' = m := by
  refine acalls_v (acalls_p mixed F19_ok F19_h gok_nil (nbs_cmdV _ _ _) ?_)
  simp only [F19, cmdV, q, qn, qg, qh, ss0, Nat.reduceSub, Nat.reduceAdd]
  simp only [ssH, Nat.reduceAdd, Nat.reduceLeDiff, reduceIte, Nat.reduceEqDiff, Nat.reduceLT, Int.reduceBEq, Int.reduceBNe]
  refine hcall_pure (v := .val (.bool (rightB k n s))) (by exact fun m => kRight_ok k n s) (nbs_c1 _ _ _) (by first | exact LR.nil | simp only [nbS]) ?_
  cases hr : rightB k n s
  · simp only [ssH, Nat.reduceAdd, Nat.reduceLeDiff, reduceIte, Nat.reduceEqDiff, Nat.reduceLT, Int.reduceBEq, Int.reduceBNe]
    exact bodyH_ret resV_two ⟨(by simp only [tget_zero, tget_succ, nbS]), rfl⟩
  · obtain ⟨_, hn0, hs0, h0, h9⟩ := right_form hr
    have hsl := (right_len hr).1
    have hWl := form_w k
    obtain ⟨u, rfl⟩ : ∃ u : Nat, n = u := ⟨n.toNat, by omega⟩
    have hdl := decDigits_len u
    have hi : itoa (u : Int) = decDigits u := by rw [itoa_pos (by omega)]; rfl
    obtain ⟨j, rfl, hj1, hj2⟩ : ∃ j : Nat, k = j ∧ 1 ≤ j ∧ j < 18 := by
      have := fits_range (fits_right hr)
      exact ⟨k.toNat, by omega, by omega, by omega⟩
    have hfn : ∀ b, (formOf (j : Int)).n = b → ∀ c, (formOf (j : Int)).s = c → printB j u s = (if (b && !(s == [])) = true then (if b then (formOf (j : Int)).w ++ (32 :: decDigits u) else (formOf (j : Int)).w) ++ ([32, 105, 102, 32] ++ s) else if (c && !b) = true then (if b then (formOf (j : Int)).w ++ (32 :: decDigits u) else (formOf (j : Int)).w) ++ (32 :: s) else (if b then (formOf (j : Int)).w ++ (32 :: decDigits u) else (formOf (j : Int)).w)) := by
      rintro b rfl c rfl
      simp only [printB, hi]
    simp only [ssH, Nat.reduceAdd, Nat.reduceLeDiff, reduceIte, Nat.reduceEqDiff, Nat.reduceLT, Int.reduceBEq, Int.reduceBNe]
    refine hcall_pure (v := bs (formOf (j : Int)).w) (by exact fun m => kWord_ok hj1 hj2) (by first | exact LR.nil | simp only [nbS]) (by first | exact LR.nil | simp only [nbS]) ?_
    have a1 : (formOf (j : Int)).w.length + ([32] : List UInt8).length ≤ 9223372036854775807 := by simp only [List.length_cons, List.length_nil]; omega
    have a2 : ((formOf (j : Int)).w ++ [32]).length + (decDigits u).length ≤ 9223372036854775807 := by simp only [List.length_append, List.length_cons, List.length_nil]; omega
    have a3 : ((formOf (j : Int)).w ++ [32]).length + s.length ≤ 9223372036854775807 := by simp only [List.length_append, List.length_cons, List.length_nil]; omega
    have a4 : ((formOf (j : Int)).w ++ [32] ++ decDigits u).length + ([32, 105, 102, 32] : List UInt8).length ≤ 9223372036854775807 := by simp only [List.length_append, List.length_cons, List.length_nil]; omega
    have a5 : ((formOf (j : Int)).w ++ [32] ++ decDigits u ++ [32, 105, 102, 32]).length + s.length ≤ 9223372036854775807 := by simp only [List.length_append, List.length_cons, List.length_nil]; omega
    generalize (formOf (j : Int)).w = W at *
    have : j = 1 ∨ j = 2 ∨ j = 3 ∨ j = 4 ∨ j = 5 ∨ j = 6 ∨ j = 7 ∨ j = 8 ∨ j = 9 ∨ j = 10 ∨ j = 11 ∨ j = 12 ∨ j = 13 ∨ j = 14 ∨ j = 15 ∨ j = 16 ∨ j = 17 := by omega
    rcases this with rfl | rfl | rfl | rfl | rfl | rfl | rfl | rfl | rfl | rfl | rfl | rfl | rfl | rfl | rfl | rfl | rfl
    case inr.inr.inr.inr.inr.inr.inr.inr.inr.inl =>
      simp only [Int.cast_ofNat_Int, bs_add a1, ssH, Nat.reduceAdd, Nat.reduceLeDiff, reduceIte, Nat.reduceEqDiff, Nat.reduceLT, Int.reduceBEq, Int.reduceBNe]
      refine hcall_pure (v := bs (decDigits u)) (by exact fun m => kDigits_ok u m (by omega) hdl) (by first | exact LR.nil | simp only [nbS]) (by first | exact LR.nil | simp only [nbS]) ?_
      cases hs : (s == [])
      · simp only [bs_add a2, bs_add a4, bs_add a5, bs_ne0, hs, Bool.not_false, ssH, Nat.reduceAdd, Nat.reduceLeDiff, reduceIte, Nat.reduceEqDiff, Nat.reduceLT, Int.reduceBEq, Int.reduceBNe]
        exact pfin rfl rfl (by have := hfn true rfl true rfl; simp only [Int.cast_ofNat_Int] at this; rw [this]; simp [hs])
      · simp only [bs_add a2, bs_ne0, hs, Bool.not_true, ssH, Nat.reduceAdd, Nat.reduceLeDiff, reduceIte, Nat.reduceEqDiff, Nat.reduceLT, Int.reduceBEq, Int.reduceBNe]
        exact pfin rfl rfl (by have := hfn true rfl true rfl; simp only [Int.cast_ofNat_Int] at this; rw [this]; simp [hs])
    all_goals first
      | (simp only [Int.cast_ofNat_Int, ssH, Nat.reduceAdd, Nat.reduceLeDiff, reduceIte, Nat.reduceEqDiff, Nat.reduceLT, Int.reduceBEq, Int.reduceBNe]
         exact pfin (W := W) rfl rfl (by have := hfn false rfl false rfl; simp only [Int.cast_ofNat_Int] at this; rw [this]; simp))
      | (simp only [Int.cast_ofNat_Int, bs_add a1, bs_add a3, ssH, Nat.reduceAdd, Nat.reduceLeDiff, reduceIte, Nat.reduceEqDiff, Nat.reduceLT, Int.reduceBEq, Int.reduceBNe]
         exact pfin (W := W ++ [32] ++ s) rfl rfl (by have := hfn false rfl true rfl; simp only [Int.cast_ofNat_Int] at this; rw [this]; simp))
      | (simp only [Int.cast_ofNat_Int, bs_add a1, ssH, Nat.reduceAdd, Nat.reduceLeDiff, reduceIte, Nat.reduceEqDiff, Nat.reduceLT, Int.reduceBEq, Int.reduceBNe]
         refine hcall_pure (v := bs (decDigits u)) (by exact fun m => kDigits_ok u m (by omega) hdl) (by first | exact LR.nil | simp only [nbS]) (by first | exact LR.nil | simp only [nbS]) ?_
         simp only [bs_add a2, ssH, Nat.reduceAdd, Nat.reduceLeDiff, reduceIte, Nat.reduceEqDiff, Nat.reduceLT, Int.reduceBEq, Int.reduceBNe]
         exact pfin rfl rfl (by have := hfn true rfl false rfl; simp only [Int.cast_ofNat_Int] at this; rw [this]; simp [hs0 rfl]))
end
end Go.Av.Fn
/- Any command is right or not, and has the text that the document says: the statement's function, walked. Conditions az ahead; numbers are written. -/
namespace Go.Av.Fn
set_option linter.unusedSimpArgs false
set_option linter.unusedVariables false
set_option maxRecDepth 10000
open Go.Proofs
end Go.Av.Fn
/- A number in a command's text, by the document. No condition. -/
namespace Go.Av.Fn
set_option linter.unusedSimpArgs false
set_option linter.unusedVariables false
set_option maxRecDepth 10000
open Go.Proofs Go.Lib
def numK : List UInt8 → Nat → Nat → Nat × Nat
 | [], n, a => (n, a)
 | b :: r, n, a => if 48 ≤ b.toNat ∧ b.toNat ≤ 57 ∧ n ≤ 4294967296 then numK r (10 * n + (b.toNat - 48)) (a + 1) else (n, a)
theorem conv_u8_i64 {n : Int} : convV Tryz.prog 5 3 (.val (.int .u8 n)) = some (.val (.int .i64 (IntKind.i64.wrap n))) := by kernel_rfl
theorem kNumber_ok {Γ : Glob} {m : Store} (s : List UInt8) (a : Nat) (hs : s.length < 4611686018427387904) (ha : a < 4611686018427387904) :
  ACalls Tryz.prog Γ 60 [bs s, it a] m fun o m' => o = .ret (.tup [it (numK (s.drop a) 0 a).1, it (numK (s.drop a) 0 a).2]) ∧ m' = m := by
 refine acalls_v (acalls_p mixed F60_ok F60_h gok_nil (by first | exact LR.nil | simp only [nbS]) ?_)
 simp only [F60, q, qn, qg, qh, ss0, Nat.reduceSub, Nat.reduceAdd]
 simp only [ssH, Nat.reduceAdd, Nat.reduceLeDiff, reduceIte, Nat.reduceEqDiff, Nat.reduceLT, Int.reduceBEq, Int.reduceBNe]
 refine h_loop [0, 1, 6] 39 (fun j vs h => ∃ (i n : Nat), vs = [bs s, it i, it n] ∧ i + j = s.length + a ∧ n ≤ 42949672969 ∧ numK (s.drop i) n i = numK (s.drop a) 0 a) s.length (by decide) (by decide) (List.range 0) (back_take rfl (Nat.le_refl _) (by decide) (by simp) (by show nbs 0 [bs s, it a, it (0 : Nat)]; simp only [nbS]) (fun a ha => by omega) ⟨a, 0, rfl, by omega, by omega, rfl⟩) ?_
 rintro j tt hh J hJ hl2 ⟨i, n, hv, hij, hn, hgo⟩
 simp only [List.map, List.cons.injEq, and_true] at hv
 obtain ⟨h0, h1, h6⟩ := hv
 rw [t_eq hl2]
 simp only [upTo_succ, upTo, h0, h1, h6, ssH, Nat.reduceAdd, Nat.reduceLeDiff, reduceIte, Nat.reduceEqDiff, Nat.reduceLT, Int.reduceBEq, Int.reduceBNe]
 have hout : ∀ (h : numK (s.drop i) n i = (n, i)), (it (numK (s.drop a) 0 a).1, it (numK (s.drop a) 0 a).2) = (it n, it i) := by
  intro h
  rw [← hgo, h]
 by_cases hi : i < s.length
 ·have hb : s[i]? = some s[i] := List.getElem?_eq_getElem hi
  have hd : s.drop i = s[i] :: s.drop (i + 1) := List.drop_eq_getElem_cons hi
  generalize s[i] = b at hb hd
  rw [hd, numK] at hgo
  have hb8 := b.toNat_lt
  rw [show decide ((i : Int) < (s.length : Int)) = true by simp; omega]
  by_cases h48 : 48 ≤ b.toNat
  ·by_cases h57 : b.toNat ≤ 57
   ·by_cases hbig : n ≤ 4294967296
    ·rw [if_pos ⟨h48, h57, hbig⟩] at hgo
     have w1 : IntKind.i64.wrap (10 * (n : Int)) = ((10 * n : Nat) : Int) := by
      rw [wrap_i64 (by omega) (by omega)]
      omega
     have w2 : IntKind.i64.wrap (IntKind.u8.wrap ((b.toNat : Int) - 48)) = ((b.toNat - 48 : Nat) : Int) := by
      have : IntKind.u8.wrap ((b.toNat : Int) - 48) = (b.toNat : Int) - 48 := by
       rw [IntKind.wrap_u8]
       omega
      rw [this, wrap_i64 (by omega) (by omega)]
      omega
     have w3 : IntKind.i64.wrap (((10 * n : Nat) : Int) + ((b.toNat - 48 : Nat) : Int)) = ((10 * n + (b.toNat - 48) : Nat) : Int) := by
      rw [wrap_i64 (by omega) (by omega)]
      omega
     simp only [ge_iff_le, idx_bs hb, show decide ((48 : Int) ≤ (b.toNat : Int)) = true by simp; omega, show decide ((b.toNat : Int) ≤ 57) = true by simp; omega, show decide ((n : Int) ≤ 4294967296) = true by simp; omega, bin_mul, eval_conv, conv_u8_i64, w1, w2, w3, next_i64 (show i < 4611686018427387904 by omega), ssH, Nat.reduceAdd, Nat.reduceLeDiff, reduceIte, Nat.reduceEqDiff, Nat.reduceLT, Int.reduceBEq, Int.reduceBNe]
     exact ⟨_, hJ (j - 1) (List.range 0) _ (by omega) (back_take rfl (Nat.le_refl _) (by decide) (by simp) (by show nbs 0 [bs s, it (i + 1 : Nat), it (10 * n + (b.toNat - 48) : Nat)]; simp only [nbS]) (fun a ha => by omega) ⟨i + 1, 10 * n + (b.toNat - 48), rfl, by omega, by omega, hgo⟩)⟩
    ·rw [if_neg (fun h => hbig h.2.2)] at hgo
     simp only [ge_iff_le, idx_bs hb, show decide ((48 : Int) ≤ (b.toNat : Int)) = true by simp; omega, show decide ((b.toNat : Int) ≤ 57) = true by simp; omega, show decide ((n : Int) ≤ 4294967296) = false by simp; omega, ssH, Nat.reduceAdd, Nat.reduceLeDiff, reduceIte, Nat.reduceEqDiff, Nat.reduceLT, Int.reduceBEq, Int.reduceBNe]
     exact bodyH_ret resV_two ⟨(by simp only [tget_zero, tget_succ, nbS]), by rw [← hgo]; rfl⟩
   ·rw [if_neg (fun h => h57 h.2.1)] at hgo
    simp only [ge_iff_le, idx_bs hb, show decide ((48 : Int) ≤ (b.toNat : Int)) = true by simp; omega, show decide ((b.toNat : Int) ≤ 57) = false by simp; omega, ssH, Nat.reduceAdd, Nat.reduceLeDiff, reduceIte, Nat.reduceEqDiff, Nat.reduceLT, Int.reduceBEq, Int.reduceBNe]
    exact bodyH_ret resV_two ⟨(by simp only [tget_zero, tget_succ, nbS]), by rw [← hgo]; rfl⟩
  ·rw [if_neg (fun h => h48 h.1)] at hgo
   simp only [ge_iff_le, idx_bs hb, show decide ((48 : Int) ≤ (b.toNat : Int)) = false by simp; omega, ssH, Nat.reduceAdd, Nat.reduceLeDiff, reduceIte, Nat.reduceEqDiff, Nat.reduceLT, Int.reduceBEq, Int.reduceBNe]
   exact bodyH_ret resV_two ⟨(by simp only [tget_zero, tget_succ, nbS]), by rw [← hgo]; rfl⟩
 ·rw [List.drop_eq_nil_of_le (by omega), numK] at hgo
  rw [show decide ((i : Int) < (s.length : Int)) = false by simp; omega]
  simp only [ssH, Nat.reduceAdd, Nat.reduceLeDiff, reduceIte, Nat.reduceEqDiff, Nat.reduceLT, Int.reduceBEq, Int.reduceBNe]
  exact bodyH_ret resV_two ⟨(by simp only [tget_zero, tget_succ, nbS]), by rw [← hgo]; rfl⟩
end Go.Av.Fn
/- The commands that a text may be of: plain laws. No condition. -/
namespace Go.Av.Fn
set_option linter.unusedSimpArgs false
set_option linter.unusedVariables false
open Go.Lib
theorem numK_dec (u : Nat) : ∀ (r : List UInt8) (a : Nat), u ≤ 42949672960 → numK (decDigits u ++ r) 0 a = numK r u (a + (decDigits u).length) := by
 induction u using Nat.strongRecOn with
 | _ u ih =>
  intro r a hu
  by_cases h : u < 10
  ·rw [decDigits_one h]
   simp only [List.cons_append, List.nil_append, numK, digit_nat h, List.length_cons, List.length_nil]
   rw [if_pos (by omega)]
   congr 1
   omega
  ·rw [decDigits_big h, List.append_assoc, ih (u / 10) (by omega) _ a (by omega)]
   simp only [List.cons_append, List.nil_append, numK, digit_nat (show u % 10 < 10 by omega), List.length_append, List.length_cons, List.length_nil]
   rw [if_pos (by omega)]
   congr 1
   omega
theorem numK_blank (r : List UInt8) (u a : Nat) : numK (32 :: r) u a = (u, a) := by
 rw [numK, if_neg]
 rintro ⟨h, _⟩
 exact absurd h (by decide)
def cands (k : Nat) (s : List UInt8) : List (Int × Int × List UInt8) :=
 let w := (formOf k).w
 let x := numK (s.drop (w.length + 1)) 0 (w.length + 1)
 [((k : Int), (0 : Int), ([] : List UInt8)), ((k : Int), (x.1 : Int), [])] ++ (if w.length < s.length then [((k : Int), (0 : Int), s.drop (w.length + 1))] else []) ++ (if x.2 + 4 ≤ s.length then [((k : Int), (x.1 : Int), s.drop (x.2 + 4))] else [])
theorem parse_cand {s : List UInt8} {k n : Int} {t : List UInt8} (h : parseC s = some (k, n, t)) : ∃ j : Nat, k = j ∧ 1 ≤ j ∧ j < 18 ∧ (formOf j).w <+: s ∧ (k, n, t) ∈ cands j s := by
 obtain ⟨hr, hp, j, rfl, h1, h2⟩ := parse_print h
 obtain ⟨hf, hn, hs, h0, h9⟩ := right_form hr
 obtain ⟨u, rfl⟩ : ∃ u : Nat, n = u := ⟨n.toNat, by omega⟩
 have hi : itoa (u : Int) = decDigits u := by rw [itoa_pos (by omega)]; rfl
 refine ⟨j, rfl, h1, h2, ?_⟩
 subst hp
 unfold printB cands
 simp only [hi]
 generalize (formOf (j : Int)).w = w
 have hd : ∀ r : List UInt8, (w ++ 32 :: r).drop (w.length + 1) = r := by
  intro r
  rw [List.drop_append]
  simp
 cases a : (formOf (j : Int)).n <;> cases b : (formOf (j : Int)).s
 ·have := hn a
  have := hs b
  subst this
  simp only [Bool.false_and, Bool.false_eq_true, if_false]
  refine ⟨List.prefix_rfl, ?_⟩
  simp [show (u : Int) = 0 by omega]
 ·have := hn a
  simp only [Bool.false_and, Bool.false_eq_true, if_false, Bool.not_false, Bool.and_self, if_true, hd]
  refine ⟨List.prefix_append _ _, ?_⟩
  simp [show (u : Int) = 0 by omega]
 ·have := hs b
  subst this
  simp only [beq_self_eq_true, Bool.not_true, Bool.and_false, Bool.false_eq_true, if_false, if_true, Bool.false_and]
  refine ⟨List.prefix_append _ _, ?_⟩
  have hk : numK ((w ++ 32 :: decDigits u).drop (w.length + 1)) 0 (w.length + 1) = (u, w.length + 1 + (decDigits u).length) := by
   rw [hd]
   have := numK_dec u [] (w.length + 1) (by omega)
   rw [List.append_nil] at this
   rw [this]
   rfl
  rw [hk]
  simp
 ·simp only [Bool.true_and, if_true, Bool.not_true, Bool.and_false, Bool.false_eq_true, if_false]
  by_cases ht : t = []
  ·subst ht
   simp only [beq_self_eq_true, Bool.not_true, Bool.false_eq_true, if_false]
   refine ⟨List.prefix_append _ _, ?_⟩
   have hk : numK ((w ++ 32 :: decDigits u).drop (w.length + 1)) 0 (w.length + 1) = (u, w.length + 1 + (decDigits u).length) := by
    rw [hd]
    have := numK_dec u [] (w.length + 1) (by omega)
    rw [List.append_nil] at this
    rw [this]
    rfl
   rw [hk]
   simp
  ·have hb : (t == []) = false := by simpa using ht
   simp only [hb, Bool.not_false, if_true, List.append_assoc, List.cons_append, List.nil_append]
   refine ⟨List.prefix_append _ _, ?_⟩
   have hk : numK ((w ++ 32 :: (decDigits u ++ 32 :: 105 :: 102 :: 32 :: t)).drop (w.length + 1)) 0 (w.length + 1) = (u, w.length + 1 + (decDigits u).length) := by
    rw [hd, numK_dec u _ (w.length + 1) (by omega), numK_blank]
   rw [hk]
   have hd2 : (w ++ 32 :: (decDigits u ++ 32 :: 105 :: 102 :: 32 :: t)).drop (w.length + 1 + (decDigits u).length + 4) = t := by
    rw [show w ++ 32 :: (decDigits u ++ 32 :: 105 :: 102 :: 32 :: t) = (w ++ [32] ++ decDigits u ++ [32, 105, 102, 32]) ++ t by simp]
    exact List.drop_left' (by simp; omega)
   simp only [hd2]
   rw [if_pos (show w.length + 1 + (decDigits u).length + 4 ≤ (w ++ 32 :: (decDigits u ++ 32 :: 105 :: 102 :: 32 :: t)).length by simp; omega)]
   simp
theorem parse_none {s : List UInt8} (h : ∀ j : Nat, 1 ≤ j → j < 18 → (formOf j).w <+: s → ∀ x ∈ cands j s, ¬ (rightB x.1 x.2.1 x.2.2 = true ∧ printB x.1 x.2.1 x.2.2 = s)) : parseC s = none := by
 cases hp : parseC s with
 | none => rfl
 | some x =>
  obtain ⟨k, n, t⟩ := x
  obtain ⟨j, rfl, h1, h2, h3, h4⟩ := parse_cand hp
  obtain ⟨hr, hpp, _⟩ := parse_print hp
  exact absurd ⟨hr, hpp⟩ (h j h1 h2 h3 _ h4)
end Go.Av.Fn
