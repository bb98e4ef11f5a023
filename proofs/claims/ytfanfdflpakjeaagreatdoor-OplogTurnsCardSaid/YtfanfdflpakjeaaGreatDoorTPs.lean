/- Commands put, and got. Conditions as ahead. -/
import Derived.Lib.ItoaLen
import Derived.Lib.ParseIntBCases
import Derived.Test.YtfanfdflpakjeaaGreatDoorTFh
open Bool renaming false_eq_true → zd5, and_false → zeR, and_eq_true → zd6, not_false → zd8, true_and → zeH, not_true → zd9, eq_iff_iff → zeB
open Int renaming reduceBEq → zd0, reduceBNe → zd1, toNat_natCast → zeS
open List renaming suffix_cons → zej, suffix_rfl → zey, length_cons → zd4, getElem?_map → zez, mem_of_getElem? → zen, map → zev, range → zef, length_map → zed, getElem?_eq_getElem → zd7, take_add_one → zeh, length_nil → zec, take_of_length_le → zes
open Nat renaming reduceSub → zd3, reduceAdd → zdY, reduceLeDiff → zdW, reduceEqDiff → zdX, reduceLT → zd2, le_refl → zek, zero_le → zeQ
open Option renaming bind_some → zel
namespace Go.Av.Fn
set_option linter.unusedSimpArgs false
set_option linter.unusedVariables false
set_option maxRecDepth 10000
open Go.Proofs
section
variable {Γ : Glob} {m : Store} {rb a : Nat} {s : List UInt8} {e : Int}
end
end Go.Av.Fn
/- Commands put are got as they were: plain laws. No condition. -/
namespace Go.Av.Fn
set_option linter.unusedSimpArgs false
set_option linter.unusedVariables false
open Go.Lib
end Go.Av.Fn
/- Commands that are put are got as they were: the statement's function. Conditions as ahead. -/
namespace Go.Av.Fn
set_option linter.unusedSimpArgs false
set_option linter.unusedVariables false
set_option maxRecDepth 10000
open Go.Proofs
theorem nb_cmdV {k : Nat} (a b : Int) (c : List UInt8) : nb k (cmdV a b c) := by
 unfold cmdV
 simp only [nbS]
theorem nbs_cmd1 (a b : Int) (c : List UInt8) : nbs 0 [cmdV a b c] := by
 simp only [zcS, nb_cmdV, nbs_nil, and_self]
end Go.Av.Fn
/- What a rule leaves is an end of what it read; the document's reader of tokens, in plain terms. No condition. -/
namespace Go.Av.Fn
set_option linter.unusedSimpArgs false
set_option linter.unusedVariables false
def zci : PR → List Tk
 | .ok _ l => l
 | .st l => l
def badP : PR → Bool
 | .ok _ _ => false
 | .st _ => true
def Sfx (l : List Tk) (r : Option PR) : Prop := ∀ p, r = some p → zci p <:+ l
theorem Sfx.mono {l l' : List Tk} {r : Option PR} (h : Sfx l r) (hl : l <:+ l') : Sfx l' r := fun p hp => (h p hp).trans hl
theorem zcx {l l' : List Tk} {r : Option PR} {k : Ex → List Tk → Option PR} (h : Sfx l r) (hl : l <:+ l') (hk : ∀ e l1, l1 <:+ l → Sfx l' (k e l1)) : Sfx l' (bind1 r k) := by
 intro p hp
 rcases zbx hp with ⟨e, l1, h1, h2⟩ | ⟨l1, h1, rfl⟩
 ·exact hk e l1 (h _ h1) p h2
 ·exact (h _ h1).trans hl
theorem sfx_bindL {l l' : List Tk} {r : Option PR} {k : List Ex → List Tk → Option PR} (h : Sfx l r) (hl : l <:+ l') (hk : ∀ e l1, l1 <:+ l → Sfx l' (k e l1)) : Sfx l' (bindL r k) := by
 intro p hp
 rcases zcg hp with ⟨e, l1, h1, h2⟩ | ⟨l1, h1, rfl⟩
 ·exact hk e l1 (h _ h1) p h2
 ·exact (h _ h1).trans hl
theorem zcY {l l' : List Tk} {es : List Ex} (h : l <:+ l') : Sfx l' (some (.ok es l)) := by
 intro p hp
 cases hp
 exact h
theorem sfx_st {l l' : List Tk} (h : l <:+ l') : Sfx l' (some (.st l)) := by
 intro p hp
 cases hp
 exact h
theorem sfx_must {s : List UInt8} {l l' : List Tk} {k : List Tk → Option PR} (hl : l <:+ l') (hk : ∀ l1, l1 <:+ l → Sfx l' (k l1)) : Sfx l' (zbn s l k) := by
 unfold zbn
 cases l with
 | nil => intro p hp; cases hp
 | cons t r =>
  simp only
  split
  ·exact hk r (zej t r)
  ·exact sfx_st hl
theorem sfx_name {l l' : List Tk} {k : List UInt8 → List Tk → Option PR} (hl : l <:+ l') (hk : ∀ s l1, l1 <:+ l → Sfx l' (k s l1)) : Sfx l' (nameK l k) := by
 unfold nameK
 cases l with
 | nil => intro p hp; cases hp
 | cons t r =>
  simp only
  split
  ·exact hk t.s r (zej t r)
  ·exact sfx_st hl
theorem run_sfx : ∀ (n : Nat) (r : Rule) (l : List Tk), Sfx l (run n r l)
 | 0, r, l => by intro p hp; cases hp
 | n + 1, r, [] => by intro p hp; cases hp
 | n + 1, r, t :: l => by
  have ih := run_sfx n
  have hc : l <:+ t :: l := zej t l
  have hrow : ∀ l', Sfx l' (rowR (run n) l') := fun l' => zcx (ih (.ex 0) l') zey fun e l1 h1 => (ih (.ro [e]) l1).mono h1
  have hunt : ∀ s l', Sfx l' (untilR (run n) s l') := by
   intro s l'
   unfold untilR
   cases l' with
   | nil => intro p hp; cases hp
   | cons t' r' =>
    simp only
    split
    ·exact zcY (zej t' r')
    ·exact sfx_bindL (hrow _) zey fun es l1 h1 => sfx_must h1 fun l2 h2 => zcY (h2.trans h1)
  show Sfx (t :: l) (step (run n) t l r)
  cases r with
  | ex line =>
   simp only [step]
   split
   ·exact ih _ _
   ·exact zcx (ih _ _) zey fun e l1 h1 => (ih _ _).mono h1
  | lp line e =>
   simp only [step]
   split
   ·exact zcx (ih _ _) hc fun e2 l2 h2 => (ih _ _).mono (h2.trans hc)
   ·exact zcY zey
  | un =>
   simp only [step]
   split
   ·exact zcx (ih _ _) hc fun e l1 h1 => zcY (h1.trans hc)
   ·exact zcx (ih _ _) zey fun e l1 h1 => (ih _ _).mono h1
  | po e =>
   simp only [step]
   split
   ·exact zcx (ih _ _) hc fun e2 l2 h2 => sfx_must (h2.trans hc) fun l3 h3 => (ih _ _).mono (h3.trans (h2.trans hc))
   ·split
    ·exact sfx_name hc fun s l2 h2 => (ih _ _).mono (h2.trans hc)
    ·exact zcY zey
  | ro out =>
   simp only [step]
   split
   ·exact zcx (ih _ _) hc fun e l1 h1 => (ih _ _).mono (h1.trans hc)
   ·exact zcY zey
  | si =>
   simp only [step, singleR]
   split
   ·exact zcY hc
   ·split
    ·exact zcY hc
    ·split
     ·unfold callR
      cases l with
      | nil => intro p hp; cases hp
      | cons t2 l2 =>
       have hc2 : l2 <:+ t :: t2 :: l2 := (zej t2 l2).trans hc
       simp only
       split
       ·exact sfx_bindL (hunt _ _) hc2 fun es l3 h3 => zcY (h3.trans hc2)
       ·exact zcY hc
     ·split
      ·exact zcY hc
      ·split
       ·exact zcY hc
       ·split
        ·exact sfx_name hc fun s l2 h2 => sfx_must (h2.trans hc) fun l3 h3 => sfx_bindL (hunt _ _) (h3.trans (h2.trans hc)) fun es l4 h4 => zcY (h4.trans (h3.trans (h2.trans hc)))
        ·split
         ·exact sfx_bindL (hrow _) hc fun es l2 h2 => sfx_must (h2.trans hc) fun l3 h3 => zcY (h3.trans (h2.trans hc))
         ·split
          ·exact zcx (ih _ _) hc fun e l2 h2 => sfx_must (h2.trans hc) fun l3 h3 => zcY (h3.trans (h2.trans hc))
          ·exact sfx_st zey
/-! ### The document's reader -/
def rdR (L : List Tk) (a : Nat) (bad : Bool) : Blk := .var 199 [.sl (L.map tkV) [] .no, it a, .val (.bool bad)]
def rdS (L l : List Tk) (bad : Bool) : Blk := rdR L (L.length - l.length) bad
theorem sfx_drop {L l : List Tk} (h : l <:+ L) : L.drop (L.length - l.length) = l := by
 obtain ⟨p, rfl⟩ := h
 simp
theorem sfx_next {L l : List Tk} {t : Tk} (h : t :: l <:+ L) : L.length - (t :: l).length + 1 = L.length - l.length := by
 have := h.length_le
 simp only [zd4] at this ⊢
 omega
theorem zdh {k : Nat} (t : Tk) : nb k (tkV t) := by
 unfold tkV
 simp only [nbS]
theorem zai {k : Nat} {L : List Tk} {a : Nat} {b : Bool} : nbB k (rdR L a b) := by
 unfold rdR
 simp only [nbB_var, zcS, nb_sl, nbs_nil, nbT_no, nb_val, and_true]
 exact zc0 (fun t => zdh t) L
mutual
theorem nb_exV {k : Nat} : ∀ e : Ex, nb k (exV e)
 | .mk a s n kids l => by
  simp only [exV, nb_agg, zcS, nb_val, nb_bs, nb_sl, nbs_nil, nbT_no, and_true, true_and]
  exact zdg kids
theorem zdg {k : Nat} : ∀ l : List Ex, nbs k (exVs l)
 | [] => by rw [exVs]; exact .nil
 | e :: r => by
  rw [exVs, zcS]
  exact ⟨nb_exV e, zdg r⟩
end
theorem idx_tkR {L l : List Tk} {t : Tk} (h : t :: l <:+ L) : idxLV 5 (.sl (L.map tkV) [] .no) (it (L.length - (t :: l).length : Nat)) = some (.elt [it t.k, bs t.s, it t.n, it t.l, it t.a]) := by
 have hd := sfx_drop h
 have hg : L[L.length - (t :: l).length]? = some t := by
  have := congrArg (fun x : List Tk => x[0]?) hd
  simpa using this
 exact zbX (e := tkV t) (by rw [zez, hg]; rfl) rfl
end Go.Av.Fn
/- The small steps of the document's reader: what they do. No condition. -/
namespace Go.Av
theorem acalls_lk {P : Program} {Γ : Glob} {f : FuncId} {args : List V} {m : Store} {rb : Nat} {X : Blk} {v : V} (hr : m rb = some X) (h : zae P Γ f args m fun o m' => ∃ v' Y, o = .ret v' ∧ m' = m.set rb Y ∧ (v' = v ∧ Y = X)) : zae P Γ f args m fun o m' => o = .ret v ∧ m' = m := by
  refine h.mono ?_
  rintro o m' ⟨v', Y, rfl, rfl, rfl, rfl⟩
  exact ⟨rfl, Store.set_eq m hr⟩
end Go.Av
namespace Go.Av.Fn
set_option linter.unusedSimpArgs false
set_option linter.unusedVariables false
set_option maxRecDepth 10000
open Go.Proofs
theorem idx_tkR' {L l : List Tk} {t : Tk} (h : t :: l <:+ L) : idxLV 5 (.sl (L.map tkV) [] .no) (it (L.length - (l.length + 1) : Nat)) = some (.elt [it t.k, bs t.s, it t.n, it t.l, it t.a]) := idx_tkR h
theorem zdv {L l : List Tk} {t : Tk} (h : t :: l <:+ L) : L.length - (l.length + 1) + 1 = L.length - l.length := sfx_next h
section
variable {Γ : Glob} {m : Store} {rb : Nat} {L l : List Tk} {t : Tk} {s : List UInt8} {b : Bool}
theorem zc4 (hs : t :: l <:+ L) (hr : m rb = some (rdS L (t :: l) b)) : zae Tryz.prog Γ 154 [.ptr rb 0] m fun o m' => o = .ret (tkV t) ∧ m' = m := by
  refine acalls_lk hr (zdp mixed F154_ok F154_h zaw hr zai (by first | exact LR.nil | simp only [nbS]) ?_)
  simp only [F154, ss0, zd3, zdY]
  simp only [rdS, rdR, idx_tkR' hs, ssH, zdY, zdW, reduceIte, zdX, zd2, zd0, zd1]
  exact zac (v := tkV t) rfl ⟨zdh t, _, rfl, zai (L := L), rfl, rfl⟩
theorem kIs_ok (hs : t :: l <:+ L) (hr : m rb = some (rdS L (t :: l) b)) : zae Tryz.prog Γ 226 [.ptr rb 0, bs s] m fun o m' => o = .ret (.val (.bool (!b && isS s t))) ∧ m' = m := by
  refine acalls_lk hr (zdp mixed F226_ok F226_h zaw hr zai (by first | exact LR.nil | simp only [nbS]) ?_)
  simp only [F226, ss0, zd3, zdY]
  simp only [ssH, zdY, zdW, reduceIte, zdX, zd2, zd0, zd1]
  refine zav (b := 0) rfl rfl (fun m b' h => zc4 hs h) zai (by first | exact LR.nil | simp only [nbS]) (zdh t) ?_
  simp only [tkV, rdS, rdR, ssH, zdY, zdW, reduceIte, zdX, zd2, zd0, zd1]
  cases b
  · cases h4 : (t.k == 4)
    · cases h5 : (t.k == 5)
      · simp only [h4, h5, ssH, zdY, zdW, reduceIte, zdX, zd2, zd0, zd1]
        exact zac zad ⟨(by simp only [zaa, zab, nbS]), _, rfl, zai (L := L), by simp [tget, isS, h4, h5], rfl⟩
      · simp only [h4, h5, ssH, zdY, zdW, reduceIte, zdX, zd2, zd0, zd1]
        exact zac zad ⟨(by simp only [zaa, zab, nbS]), _, rfl, zai (L := L), by simp [tget, isS, h4, h5], rfl⟩
    · simp only [h4, ssH, zdY, zdW, reduceIte, zdX, zd2, zd0, zd1]
      exact zac zad ⟨(by simp only [zaa, zab, nbS]), _, rfl, zai (L := L), by simp [tget, isS, h4], rfl⟩
  · simp only [ssH, zdY, zdW, reduceIte, zdX, zd2, zd0, zd1]
    exact zac zad ⟨(by simp only [zaa, zab, nbS]), _, rfl, zai (L := L), by simp [tget], rfl⟩
theorem za0 (hs : t :: l <:+ L) (hr : m rb = some (rdS L (t :: l) b)) (h : (!b && isS s t) = false) : zae Tryz.prog Γ 209 [.ptr rb 0, bs s] m fun o m' => o = .ret (.val (.bool false)) ∧ m' = m := by
  refine acalls_lk hr (zdp mixed F209_ok F209_h zaw hr zai (by first | exact LR.nil | simp only [nbS]) ?_)
  simp only [F209, ss0, zd3, zdY]
  simp only [ssH, zdY, zdW, reduceIte, zdX, zd2, zd0, zd1]
  refine zav (b := 0) (az := [bs s]) (v := .val (.bool false)) rfl rfl (fun m b' hh => by have := kIs_ok (Γ := Γ) (s := s) hs hh; rw [h] at this; exact this) zai (by first | exact LR.nil | simp only [nbS]) (by first | exact LR.nil | simp only [nbS]) ?_
  simp only [ssH, zdY, zdW, reduceIte, zdX, zd2, zd0, zd1]
  exact zac zad ⟨(by simp only [zaa, zab, nbS]), _, rfl, zai (L := L), rfl, rfl⟩
theorem zbu (hL : L.length < 4611686018427387904) (hs : t :: l <:+ L) (hr : m rb = some (rdS L (t :: l) false)) (h : isS s t = true) : zae Tryz.prog Γ 209 [.ptr rb 0, bs s] m fun o m' => o = .ret (.val (.bool true)) ∧ m' = m.set rb (rdS L l false) := by
  refine acalls_cv (zdp mixed F209_ok F209_h zaw hr zai (by first | exact LR.nil | simp only [nbS]) ?_)
  simp only [F209, ss0, zd3, zdY]
  simp only [ssH, zdY, zdW, reduceIte, zdX, zd2, zd0, zd1]
  refine zav (b := 0) (az := [bs s]) (v := .val (.bool true)) rfl rfl (fun m b' hh => by have := kIs_ok (Γ := Γ) (s := s) hs hh; rw [h] at this; exact this) zai (by first | exact LR.nil | simp only [nbS]) (by first | exact LR.nil | simp only [nbS]) ?_
  simp only [rdS, rdR, zas (show L.length - (l.length + 1) < 4611686018427387904 by omega), zdv hs, ssH, zdY, zdW, reduceIte, zdX, zd2, zd0, zd1]
  exact zac zad ⟨(by simp only [zaa, zab, nbS]), _, rfl, zai (L := L), rfl, rfl⟩
theorem zcT (hs : t :: l <:+ L) (hr : m rb = some (rdS L (t :: l) b)) (h : (!b && isS s t) = false) : zae Tryz.prog Γ 211 [.ptr rb 0, bs s] m fun o m' => o = .ret (.tup []) ∧ m' = m.set rb (rdS L (t :: l) true) := by
  refine acalls_cv (zdp mixed F211_ok F211_h zaw hr zai (by first | exact LR.nil | simp only [nbS]) ?_)
  simp only [F211, ss0, zd3, zdY]
  simp only [ssH, zdY, zdW, reduceIte, zdX, zd2, zd0, zd1]
  refine zav (b := 0) (az := [bs s]) (v := .val (.bool false)) rfl rfl (fun m b' hh => za0 hs hh h) zai (by first | exact LR.nil | simp only [nbS]) (by first | exact LR.nil | simp only [nbS]) ?_
  simp only [rdS, rdR, ssH, zdY, zdW, reduceIte, zdX, zd2, zd0, zd1]
  exact bodyH_normal rfl ⟨(by first | exact LR.nil | simp only [nbS]), _, rfl, zai (L := L), rfl, rfl⟩
theorem kMust_yes (hL : L.length < 4611686018427387904) (hs : t :: l <:+ L) (hr : m rb = some (rdS L (t :: l) false)) (h : isS s t = true) : zae Tryz.prog Γ 211 [.ptr rb 0, bs s] m fun o m' => o = .ret (.tup []) ∧ m' = m.set rb (rdS L l false) := by
  refine acalls_cv (zdp mixed F211_ok F211_h zaw hr zai (by first | exact LR.nil | simp only [nbS]) ?_)
  simp only [F211, ss0, zd3, zdY]
  simp only [ssH, zdY, zdW, reduceIte, zdX, zd2, zd0, zd1]
  refine zax (b := 0) (az := [bs s]) (v := .val (.bool true)) rfl rfl (fun m b' hh => zbu hL hs hh h) zai zai (by first | exact LR.nil | simp only [nbS]) (by first | exact LR.nil | simp only [nbS]) ?_
  simp only [ssH, zdY, zdW, reduceIte, zdX, zd2, zd0, zd1]
  exact bodyH_normal rfl ⟨(by first | exact LR.nil | simp only [nbS]), _, rfl, zai (L := L), rfl, rfl⟩
theorem kName_yes (hL : L.length < 4611686018427387904) (hs : t :: l <:+ L) (hr : m rb = some (rdS L (t :: l) false)) (h : t.k = 1) : zae Tryz.prog Γ 212 [.ptr rb 0] m fun o m' => o = .ret (bs t.s) ∧ m' = m.set rb (rdS L l false) := by
  refine acalls_cv (zdp mixed F212_ok F212_h zaw hr zai (by first | exact LR.nil | simp only [nbS]) ?_)
  simp only [F212, ss0, zd3, zdY]
  simp only [ssH, zdY, zdW, reduceIte, zdX, zd2, zd0, zd1]
  refine zav (b := 0) rfl rfl (fun m b' hh => zc4 hs hh) zai (by first | exact LR.nil | simp only [nbS]) (zdh t) ?_
  simp only [tkV, rdS, rdR, h, zas (show L.length - (l.length + 1) < 4611686018427387904 by omega), zdv hs, ssH, zdY, zdW, reduceIte, zdX, zd2, zd0, zd1]
  exact zac zad ⟨(by simp only [zaa, zab, nbS]), _, rfl, zai (L := L), rfl, rfl⟩
theorem kName_no (hs : t :: l <:+ L) (hr : m rb = some (rdS L (t :: l) b)) (h : b = true ∨ t.k ≠ 1) : zae Tryz.prog Γ 212 [.ptr rb 0] m fun o m' => o = .ret (bs []) ∧ m' = m.set rb (rdS L (t :: l) true) := by
  refine acalls_cv (zdp mixed F212_ok F212_h zaw hr zai (by first | exact LR.nil | simp only [nbS]) ?_)
  simp only [F212, ss0, zd3, zdY]
  simp only [ssH, zdY, zdW, reduceIte, zdX, zd2, zd0, zd1]
  refine zav (b := 0) rfl rfl (fun m b' hh => zc4 hs hh) zai (by first | exact LR.nil | simp only [nbS]) (zdh t) ?_
  cases b
  · have hk : (t.k != 1) = true := by rcases h with h | h; · cases h
                                      · simpa using h
    simp only [tkV, rdS, rdR, hk, ssH, zdY, zdW, reduceIte, zdX, zd2, zd0, zd1]
    exact zac zad ⟨(by simp only [zaa, zab, nbS]), _, rfl, zai (L := L), rfl, rfl⟩
  · simp only [tkV, rdS, rdR, ssH, zdY, zdW, reduceIte, zdX, zd2, zd0, zd1]
    exact zac zad ⟨(by simp only [zaa, zab, nbS]), _, rfl, zai (L := L), rfl, rfl⟩
end
end Go.Av.Fn
/- Functions of a cell whose answer is told without its slices' ends. No condition. -/
namespace Go.Av
set_option linter.unusedSimpArgs false
set_option linter.unusedVariables false
mutual
theorem VR.wk {R : Ren} : ∀ {v v' : V}, VR R v v' → VR R (weak v) (weak v')
 | _, _, .val v => .val v
 | _, _, .ptr o r => .ptr o r
 | _, _, .elt r => .elt r
 | _, _, .sl a b c => by
  simp only [Av.weak]
  exact .sl (LR.wk a) (LR.wk b) trivial
 | _, _, .fn h a b => .fn h a b
 | _, _, .ifc r => .ifc r
 | _, _, .agg r => by
  simp only [Av.weak]
  exact .agg (LR.wk r)
 | _, _, .tup r => by
  simp only [Av.weak]
  exact .tup (LR.wk r)
 | _, _, .arr o l c r => .arr o l c r
 | _, _, .res v z n r => .res v z n r
theorem LR.wk {R : Ren} : ∀ {v v' : List V}, LR R v v' → LR R (zaM v) (zaM v')
 | _, _, .nil => .nil
 | _, _, .cons a b => .cons (VR.wk a) (LR.wk b)
end
section
variable {P : Program} {Γ : Glob} {H : Nat → List (Nat × List Nat) × List Nat} {f : FuncId} {F : AFn} {gs : List Nat} {m : Store}
theorem acalls_cw (hm : P.follows .mixedOrders = true) (hF : zao P H f = some F) (hok : F.body.okH gs = true) (hG : GOk Γ gs) {rb o : Nat} {az : List V} {X : Blk} (hb : m rb = some X) (hX : nbB 0 X) (ha : nbs 0 az) {Q : V → Blk → Prop}
  (h : hawp P Γ (fun _ _ => False) 1 F.body (bodyH F.res fun v h' => nb 0 (weak v) ∧ ∃ Y, lk h' 0 = some Y ∧ nbB 0 Y ∧ Q (weak v) Y) ⟨start F.ntmps (.ptr 0 o :: az), [some X]⟩) :
  zae P Γ f (.ptr rb o :: az) m fun o m' => ∃ v Y, o = .ret v ∧ m' = m.set rb Y ∧ Q v Y := by
 have h1 := acalls_h (P := P) (Γ := Γ) (R0 := fun a c => a = 0 ∧ c = rb) (N := 1) (m := one rb X) hm hF hok hG (args0 := .ptr 0 o :: az) (args := .ptr rb o :: az) (.cons (.ptr o ⟨rfl, rfl⟩) (ha.up _)) (hh_one hX) (fun _ _ q => by omega) (Q := fun o h' => match o with | .ret v => nb 0 (weak v) ∧ ∃ Y, lk h' 0 = some Y ∧ nbB 0 Y ∧ Q (weak v) Y | .pan _ => False) h
 have h2 := h1.frame (one_disj rb X (m := m))
 rw [one_del hb] at h2
 refine zae.weak (R := fun o m' => ∃ v Y, o = .ret v ∧ m' = m.set rb Y ∧ Q (weak v) Y) (zae.less h2 ?_) ?_ ?_
 ·rintro o m'' ⟨m', rfl, d, S, o0, h', s1, s2, s3, s4⟩
  cases o0 with
  | pan v => exact s4.elim
  | ret v =>
   cases o with
   | pan v' => exact s3.elim
   | ret v' =>
    obtain ⟨q1, Y, q2, q3, q4⟩ := s4
    obtain ⟨Y', g1, g2⟩ := s2.blk _ _ _ (s1 _ _ ⟨rfl, rfl⟩) q2
    obtain rfl := nbB_eq q3 g2
    have e3 : weak v' = weak v := nb_eq q1 (VR.wk s3)
    refine ⟨m.set rb Y', ?_, v', Y', rfl, rfl, by rw [e3]; exact q4⟩
    intro b x hx
    by_cases e : b = rb
    ·subst e
     rw [Store.set_same] at hx
     cases hx
     simp only [Store.or, g1]
    ·rw [Store.set_ne _ _ e] at hx
     rcases d b with q | q
     ·simp only [Store.or, q, del, if_neg e]; exact hx
     ·simp only [del, if_neg e] at q
      rw [q] at hx
      cases hx
 ·rintro v m' ⟨v', Y, e, e2, q⟩
  cases e
  exact ⟨_, Y, rfl, e2, q⟩
 ·rintro v m' ⟨v', Y, e, _⟩
  cases e
end
end Go.Av
/- The document's table of signs. No condition. -/
namespace Go.Av.Fn
set_option linter.unusedSimpArgs false
set_option linter.unusedVariables false
set_option maxRecDepth 10000
open Go.Proofs
def tabK : List (List (List UInt8)) := [[[124, 124]], [[38, 38]], [[61, 61], [33, 61]], [[60], [60, 61], [62], [62, 61]], [[43], [45]], [[42], [47], [37]]]
def rowV (r : List (List UInt8)) : V := .sl (r.map bs) [] .full
def tabV : V := .sl (tabK.map rowV) [] .full
theorem tab_level {i k : Nat} {r : List (List UInt8)} {x : List UInt8} (hr : tabK[i]? = some r) (hx : r[k]? = some x) : level x = i := by
 have hi : i < 6 := (List.getElem?_eq_some_iff.1 hr).1
 have : i = 0 ∨ i = 1 ∨ i = 2 ∨ i = 3 ∨ i = 4 ∨ i = 5 := by omega
 have hm := zen hx
 rcases this with rfl | rfl | rfl | rfl | rfl | rfl <;> cases hr <;> simp only [List.mem_cons, List.not_mem_nil, or_false] at hm
 ·subst hm; rfl
 ·subst hm; rfl
 ·rcases hm with rfl | rfl <;> rfl
 ·rcases hm with rfl | rfl | rfl | rfl <;> rfl
 ·rcases hm with rfl | rfl <;> rfl
 ·rcases hm with rfl | rfl | rfl <;> rfl
theorem tab_none {s : List UInt8} (h : ∀ r ∈ tabK, s ∉ r) : level s = -1 := by
 simp only [tabK, List.mem_cons, List.not_mem_nil, or_false, forall_eq_or_imp, forall_eq, not_or] at h
 obtain ⟨h0, h1, ⟨h2, h3⟩, ⟨h4, h5, h6, h7⟩, ⟨h8, h9⟩, h10, h11, h12⟩ := h
 simp [level, h0, h1, h2, h3, h4, h5, h6, h7, h8, h9, h10, h11, h12]
theorem nb_tab {k : Nat} : nb k tabV := by
 unfold tabV tabK
 simp only [zev, rowV, nbS]
theorem row_len : ∀ i : Nat, i < 6 → ∃ r, tabK[i]? = some r ∧ r.length ≤ 4 := by
 intro i hi
 have : i = 0 ∨ i = 1 ∨ i = 2 ∨ i = 3 ∨ i = 4 ∨ i = 5 := by omega
 rcases this with rfl | rfl | rfl | rfl | rfl | rfl <;> exact ⟨_, rfl, by decide⟩
theorem idx_tab {i : Nat} {r : List (List UInt8)} (h : tabK[i]? = some r) : idxLV 1 (.sl (tabK.map rowV) [] .full) (it i) = some (.elt [rowV r]) := zbX (e := rowV r) (by rw [zez, h]; rfl) rfl
theorem idx_row {r : List (List UInt8)} {k : Nat} {x : List UInt8} (h : r[k]? = some x) : idxLV 1 (.sl (r.map bs) [] .full) (it k) = some (.elt [bs x]) := zbX (e := bs x) (by rw [zez, h]; rfl) rfl
theorem kLine_ok {Γ : Glob} {m : Store} {s : List UInt8} : zae Tryz.prog Γ 183 [bs s] m fun o m' => o = .ret (it (level s)) ∧ m' = m := by
 refine zay (zaE mixed F183_ok F183_h zaw (by first | exact LR.nil | simp only [nbS]) ?_)
 simp only [F183, ss0, zd3, zdY]
 have e7 : ∀ {t : List V} {m : Store}, zan Tryz.prog (ev Γ t) m (.lits 1 [V.val (Value.string (ByteArray.mk #[]))] 1 [(0, .const (.string (ByteArray.mk #[124, 124])))]) = some (rowV [[124, 124]]) := fun {t m} => rfl
 have e8 : ∀ {t : List V} {m : Store}, zan Tryz.prog (ev Γ t) m (.lits 1 [V.val (Value.string (ByteArray.mk #[]))] 1 [(0, .const (.string (ByteArray.mk #[38, 38])))]) = some (rowV [[38, 38]]) := fun {t m} => rfl
 have e9 : ∀ {t : List V} {m : Store}, zan Tryz.prog (ev Γ t) m (.lits 1 [V.val (Value.string (ByteArray.mk #[]))] 2 [(0, .const (.string (ByteArray.mk #[61, 61]))), (1, .const (.string (ByteArray.mk #[33, 61])))]) = some (rowV [[61, 61], [33, 61]]) := fun {t m} => rfl
 have e10 : ∀ {t : List V} {m : Store}, zan Tryz.prog (ev Γ t) m (.lits 1 [V.val (Value.string (ByteArray.mk #[]))] 4 [(0, .const (.string (ByteArray.mk #[60]))), (1, .const (.string (ByteArray.mk #[60, 61]))), (2, .const (.string (ByteArray.mk #[62]))), (3, .const (.string (ByteArray.mk #[62, 61])))]) = some (rowV [[60], [60, 61], [62], [62, 61]]) := fun {t m} => rfl
 have e11 : ∀ {t : List V} {m : Store}, zan Tryz.prog (ev Γ t) m (.lits 1 [V.val (Value.string (ByteArray.mk #[]))] 2 [(0, .const (.string (ByteArray.mk #[43]))), (1, .const (.string (ByteArray.mk #[45])))]) = some (rowV [[43], [45]]) := fun {t m} => rfl
 have e12 : ∀ {t : List V} {m : Store}, zan Tryz.prog (ev Γ t) m (.lits 1 [V.val (Value.string (ByteArray.mk #[]))] 3 [(0, .const (.string (ByteArray.mk #[42]))), (1, .const (.string (ByteArray.mk #[47]))), (2, .const (.string (ByteArray.mk #[37])))]) = some (rowV [[42], [47], [37]]) := fun {t m} => rfl
 have e13 : ∀ {t : List V} {m : Store}, tget t 6 = rowV [[124, 124]] → tget t 7 = rowV [[38, 38]] → tget t 8 = rowV [[61, 61], [33, 61]] → tget t 9 = rowV [[60], [60, 61], [62], [62, 61]] → tget t 10 = rowV [[43], [45]] → tget t 11 = rowV [[42], [47], [37]] → zan Tryz.prog (ev Γ t) m (.lits 1 [V.sl [] [] Tok.full] 6 [(0, .tmp 6), (1, .tmp 7), (2, .tmp 8), (3, .tmp 9), (4, .tmp 10), (5, .tmp 11)]) = some tabV := by
  intro t m h6 h7 h8 h9 h10 h11
  show (zc2 1 [V.sl [] [] Tok.full, V.sl [] [] Tok.full, V.sl [] [] Tok.full, V.sl [] [] Tok.full, V.sl [] [] Tok.full, V.sl [] [] Tok.full] [(0, ev Γ t (.tmp 6)), (1, ev Γ t (.tmp 7)), (2, ev Γ t (.tmp 8)), (3, ev Γ t (.tmp 9)), (4, ev Γ t (.tmp 10)), (5, ev Γ t (.tmp 11))]).map (fun es => V.sl es [] .full) = _
  simp only [ev_tmp]
  rw [h6, h7, h8, h9, h10, h11]
  rfl
 simp only [e7, e8, e9, e10, e11, e12, ssH, zdY, zdW, reduceIte, zdX, zd2, zd0, zd1]
 rw [e13 rfl rfl rfl rfl rfl rfl]
 simp only [ssH, zdY, zdW, reduceIte, zdX, zd2, zd0, zd1]
 clear e7 e8 e9 e10 e11 e12 e13
 refine zdA [0, 3, 4] 38 (fun n vs h => ∃ i : Nat, vs = [bs s, tabV, it i] ∧ i + n = 7 ∧ i ≤ 6 ∧ ∀ r ∈ tabK.take i, s ∉ r) 7 (by decide) (by decide) (zef 0) (zaB rfl (zek _) (by decide) (by simp) (by simp only [zev, zaa, zab, nb_tab, nbS]) (fun a ha => by omega) ⟨0, rfl, rfl, by omega, by simp⟩) ?_
 rintro n t h J hJ hl ⟨i, hv, hn, hi, hs⟩
 simp only [zev, List.cons.injEq, and_true] at hv
 obtain ⟨h0, h3, h4⟩ := hv
 have hlen : tabK.length = 6 := rfl
 rw [t_eq hl]
 simp only [zat, upTo, h0, h3, h4, ssH, zdY, zdW, reduceIte, zdX, zd2, zd0, zd1]
 simp only [tabV, zed, hlen, ssH, zdY, zdW, reduceIte, zdX, zd2, zd0, zd1]
 by_cases h6 : i < 6
 ·obtain ⟨r, hr, hr4⟩ := row_len i h6
  rw [show decide ((i : Int) < ((6 : Nat) : Int)) = true by simp; omega]
  simp only [ssH, zdY, zdW, reduceIte, zdX, zd2, zd0, zd1]
  refine zdA [0, 3, 4, 5] 38 (fun n vs h => ∃ k : Nat, vs = [bs s, tabV, it i, it k] ∧ k + n = 5 ∧ k ≤ r.length ∧ s ∉ r.take k) 5 (by decide) (by decide) (zef 0) (zaB rfl (zek _) (by decide) (by simp) (by show nbs 0 [bs s, tabV, it i, it 0]; simp only [nb_tab, nbS]) (fun a ha => by omega) ⟨0, rfl, rfl, by omega, by simp⟩) ?_
  rintro n2 t2 h2 J2 hJ2 hl2 ⟨k, hv, hn2, hk, hs2⟩
  simp only [zev, List.cons.injEq, and_true] at hv
  obtain ⟨h0, h3, h4, h5⟩ := hv
  rw [t_eq hl2]
  simp only [zat, upTo, h0, h3, h4, h5, tabV, idx_tab hr, rowV, zed, ssH, zdY, zdW, reduceIte, zdX, zd2, zd0, zd1]
  by_cases hkr : k < r.length
  ·have hx : r[k]? = some r[k] := zd7 hkr
   generalize r[k] = x at hx
   rw [show decide ((k : Int) < (r.length : Int)) = true by simp; omega]
   simp only [idx_tab hr, rowV, idx_row hx, ssH, zdY, zdW, reduceIte, zdX, zd2, zd0, zd1]
   cases he : (x == s)
   ·simp only [zas (show k < 4611686018427387904 by omega), ssH, zdY, zdW, reduceIte, zdX, zd2, zd0, zd1]
    refine ⟨_, hJ2 (n2 - 1) (zef 0) _ (by omega) (zaB rfl (zek _) (by decide) (by simp) (by show nbs 0 [bs s, tabV, it i, it (k + 1 : Nat)]; simp only [nb_tab, nbS]) (fun a ha => by omega) ⟨k + 1, rfl, by omega, by omega, ?_⟩)⟩
    rw [zeh, hx]
    intro hm
    rcases List.mem_append.1 hm with hm | hm
    ·exact hs2 hm
    ·simp only [Option.toList, List.mem_singleton] at hm
     subst hm
     simp at he
   ·simp only [ssH, zdY, zdW, reduceIte, zdX, zd2, zd0, zd1]
    have e : x = s := by simpa using he
    exact zac zad ⟨(by simp only [zaa, zab, nbS]), by rw [← e, tab_level hr hx]; rfl⟩
  ·rw [show decide ((k : Int) < (r.length : Int)) = false by simp; omega]
   simp only [zas (show i < 4611686018427387904 by omega), ssH, zdY, zdW, reduceIte, zdX, zd2, zd0, zd1]
   refine ⟨_, hJ (n - 1) (zef 0) _ (by omega) (zaB rfl (zek _) (by decide) (by simp) (by show nbs 0 [bs s, tabV, it (i + 1 : Nat)]; simp only [nb_tab, nbS]) (fun a ha => by omega) ⟨i + 1, rfl, by omega, by omega, ?_⟩)⟩
   rw [zeh, hr]
   intro q hq
   rcases List.mem_append.1 hq with hq | hq
   ·exact hs q hq
   ·simp only [Option.toList, List.mem_singleton] at hq
    have : k = r.length := by omega
    subst this
    rw [hq]
    simpa using hs2
 ·rw [show decide ((i : Int) < ((6 : Nat) : Int)) = false by simp; omega]
  simp only [ssH, zdY, zdW, reduceIte, zdX, zd2, zd0, zd1]
  have : i = 6 := by omega
  subst this
  exact zac zad ⟨(by simp only [zaa, zab, nbS]), by rw [tab_none hs]; rfl⟩
end Go.Av.Fn
/- The document's rule for what stands between signs. No condition. -/
namespace Go.Av.Fn
set_option linter.unusedSimpArgs false
set_option linter.unusedVariables false
set_option maxRecDepth 10000
open Go.Proofs
def WX : Ex → List V → Prop
 | .mk k s nn kids ln, cs => ∃ vs tok, cs = [it k, bs s, it nn, .sl vs [] tok, it ln] ∧ zaM vs = exVs kids ∧ nbs 0 vs ∧ nbT 0 tok
theorem wx_exV : ∀ g : Ex, WX g (exV g).cells
 | .mk k s nn kids ln => ⟨exVs kids, .no, rfl, zaK kids, zdg kids, by rw [nbT_no]; trivial⟩
theorem wx_weak {g : Ex} {cs : List V} (h : WX g cs) : weak (.agg cs) = exV g := by
 obtain ⟨k, s, nn, kids, ln⟩ := g
 obtain ⟨vs, tok, rfl, hv, _, _⟩ := h
 simp only [weak, zaM, exV, hv, bs]
theorem wx_nb {g : Ex} {cs : List V} (h : WX g cs) : nbs 0 cs := by
 obtain ⟨k, s, nn, kids, ln⟩ := g
 obtain ⟨vs, tok, rfl, hv, h1, h2⟩ := h
 simp only [nbS]
 exact ⟨h1, h2⟩
theorem nbs_wx {k : Nat} {g : Ex} {cs : List V} (h : WX g cs) : nbs k cs := nbs_weaken (wx_nb h)
def zX : List V := [.val (.int .i64 0), .val (.string ⟨#[]⟩), .val (.int .i64 0), .sl [] [] .full, .val (.int .i64 0)]
theorem nb_zX {k : Nat} : nbs k zX := by
 unfold zX
 simp only [nbS]
theorem nbB3 {k : Nat} {A B C : Blk} {r : Hl} (hA : nbB k A) (hB : nbB k B) (hC : nbB k C) : ∀ a < 3, ∀ x, lk (some A :: some B :: some C :: r) a = some x → nbB k x := by
 intro a ha x hx
 have : a = 0 ∨ a = 1 ∨ a = 2 := by omega
 rcases this with rfl | rfl | rfl <;> cases hx <;> assumption
theorem nbB_wx {k : Nat} {T : TypeId} {g : Ex} {cs : List V} (h : WX g cs) : nbB k (.var T cs) := by
 rw [nbB_var]
 exact nbs_wx h
theorem nbB_zX {k : Nat} {T : TypeId} : nbB k (.var T zX) := by
 rw [nbB_var]
 exact nb_zX
def KQ (L : List Tk) (p : PR) (v : V) (Y : Blk) : Prop := ∃ g : Ex, v = exV g ∧ Y = rdS L (zci p) (badP p) ∧ ∀ e l, p = .ok [e] l → g = e
theorem kq_nb {L : List Tk} {p : PR} : ∀ v Y, KQ L p v Y → nb 0 v ∧ nbB 0 Y := by
 rintro v Y ⟨g, rfl, rfl, _⟩
 exact ⟨nb_exV g, zai⟩
def KEx (Γ : Glob) (L : List Tk) (n : Nat) : Prop := ∀ (line : Nat) (l : List Tk) (p : PR) (m : Store) (rb : Nat), line ≤ 6 → l <:+ L → Sgl p → m rb = some (rdS L l false) → run n (.ex line) l = some p →
 zae Tryz.prog Γ 153 [.ptr rb 0, it line] m fun o m' => ∃ v Y, o = .ret v ∧ m' = m.set rb Y ∧ KQ L p v Y
def KUn (Γ : Glob) (L : List Tk) (n : Nat) : Prop := ∀ (l : List Tk) (p : PR) (m : Store) (rb : Nat), l <:+ L → Sgl p → m rb = some (rdS L l false) → run n .un l = some p →
 zae Tryz.prog Γ 182 [.ptr rb 0] m fun o m' => ∃ v Y, o = .ret v ∧ m' = m.set rb Y ∧ KQ L p v Y
def KSi (Γ : Glob) (L : List Tk) (n : Nat) : Prop := ∀ (l : List Tk) (p : PR) (m : Store) (rb : Nat), l <:+ L → Sgl p → m rb = some (rdS L l false) → run n .si l = some p →
 zae Tryz.prog Γ 210 [.ptr rb 0] m fun o m' => ∃ v Y, o = .ret v ∧ m' = m.set rb Y ∧ KQ L p v Y
theorem zco {r : Option PR} {k : Ex → List Tk → Option PR} {p : PR} (h : bind1 r k = some p) : ∃ p1, r = some p1 ∧ Sgl p1 ∧ ∀ g, (∀ e l, p1 = .ok [e] l → g = e) → (badP p1 = true ∧ p = .st (zci p1) ∨ badP p1 = false ∧ k g (zci p1) = some p) := by
 rcases zbx h with ⟨e1, l1, k1, k2⟩ | ⟨l1, k1, rfl⟩
 ·exact ⟨_, k1, ⟨e1, rfl⟩, fun g hq => .inr ⟨rfl, by rw [hq _ _ rfl]; exact k2⟩⟩
 ·exact ⟨_, k1, trivial, fun g hq => .inl ⟨rfl, rfl⟩⟩
theorem kfin {L : List Tk} {p : PR} {g : Ex} {t : List V} {h : Hl} {cs : List V} {i : Nat} (hw : WX g cs) (ht : resV [.cell i (some 5)] ⟨t, lk h⟩ = some (.agg cs)) (h0 : lk h 0 = some (rdS L (zci p) (badP p))) (hq : ∀ e l, p = .ok [e] l → g = e) :
  bodyH [ARes.cell i (some 5)] (fun v h' => nb 0 (weak v) ∧ ∃ Y, lk h' 0 = some Y ∧ nbB 0 Y ∧ KQ L p (weak v) Y) .ret ⟨t, h⟩ := by
 have e := wx_weak hw
 exact zac ht ⟨by rw [e]; exact nb_exV g, _, h0, zai, g, e, rfl, hq⟩
theorem kExpr_ok {Γ : Glob} {L : List Tk} {n : Nat} (hL : L.length < 4611686018427387904) (h : ∀ k < n, KEx Γ L k ∧ KUn Γ L k) : KEx Γ L n := by
 intro line l p m rb hl hs hp1 hr hp
 obtain ⟨j, t, l', rfl, rfl, hg⟩ := zbj hp
 clear hp
 simp only [step] at hg
 refine acalls_cw mixed F153_ok F153_h zaw hr zai (by first | exact LR.nil | simp only [nbS]) ?_
 simp only [F153, ss0, zd3, zdY]
 simp only [ssH, zdY, zdW, reduceIte, zdX, zd2, zd0, zd1]
 by_cases h6 : line = 6
 ·subst h6
  rw [if_pos rfl] at hg
  rw [show (((6 : Nat) : Int) == 6) = true from rfl]
  simp only [ssH, zdY, zdW, reduceIte, zdX, zd2, zd0, zd1]
  refine zaN (b := 0) (az := []) rfl rfl (fun m b' hh => (h j (by omega)).2 _ p m b' hs hp1 hh hg) zai (by first | exact LR.nil | simp only [nbS]) kq_nb ?_
  rintro v Y ⟨⟨k, s, nn, kids, ln⟩, rfl, rfl, hq⟩
  simp only [exV, ssH, zdY, zdW, reduceIte, zdX, zd2, zd0, zd1]
  exact kfin (wx_exV (.mk k s nn kids ln)) rfl rfl hq
 ·rw [if_neg h6] at hg
  rw [show ((line : Int) == 6) = false by simp; omega]
  simp only [zas (show line < 4611686018427387904 by omega), ssH, zdY, zdW, reduceIte, zdX, zd2, zd0, zd1]
  obtain ⟨p1, k1, hs1, hf⟩ := zco hg
  refine zaN (b := 0) (az := [it (line + 1 : Nat)]) rfl rfl (fun m b' hh => (h j (by omega)).1 (line + 1) _ p1 m b' (by omega) hs hs1 hh k1) zai (by first | exact LR.nil | simp only [nbS]) kq_nb ?_
  rintro v Y ⟨⟨k, s, nn, kids, ln⟩, rfl, rfl, hq⟩
  have hf := hf _ hq
  have hsx : zci p1 <:+ L := (run_sfx j _ _ _ k1).trans hs
  simp only [exV, ssH, zdY, zdW, reduceIte, zdX, zd2, zd0, zd1]
  refine zdA [0, 1, 4, 5] 55 (fun n vs h => ∃ g l1 b cs, vs = [.ptr 0 0, it line, .ptr 1 0, .ptr 2 0] ∧ h = [some (rdS L l1 b), some (.var 170 zX), some (.var 170 cs)] ∧ WX g cs ∧ l1 <:+ L ∧ n ≤ j ∧ (b = true ∧ p = .st l1 ∨ b = false ∧ run n (.lp line g) l1 = some p)) j (by decide) (by decide) (zef 3) (zaB rfl (by decide) (by decide) (by simp) (by show nbs 3 [.ptr 0 0, it line, .ptr 1 0, .ptr 2 0]; simp only [nbS]; decide) (nbB3 zai nbB_zX (nbB_wx (wx_exV (.mk k s nn kids ln)))) ⟨.mk k s nn kids ln, zci p1, badP p1, _, rfl, rfl, wx_exV _, hsx, zek _, hf⟩) ?_
  ·rintro n tt hh J hJ hl2 ⟨⟨k, s, nn, kids, ln⟩, l1, b, cs, hv, rfl, hw, hsx, hn, hc⟩
   have hwk := hw
   obtain ⟨vs, tok, rfl, hw1, hw2, hw3⟩ := hw
   simp only [zev, List.cons.injEq, and_true] at hv
   obtain ⟨h0, h1, h4, h5⟩ := hv
   rw [t_eq hl2]
   simp only [zat, upTo, h0, h1, h4, h5, rdS, rdR, ssH, zdY, zdW, reduceIte, zdX, zd2, zd0, zd1]
   rcases hc with ⟨rfl, rfl⟩ | ⟨rfl, hc⟩
   ·simp only [zX, ssH, zdY, zdW, reduceIte, zdX, zd2, zd0, zd1]
    exact kfin hwk rfl rfl (by rintro e l ⟨⟩)
   ·obtain ⟨i, tk, l2, rfl, rfl, hg2⟩ := zbj hc
    clear hc
    simp only [step] at hg2
    simp only [ssH, zdY, zdW, reduceIte, zdX, zd2, zd0, zd1]
    refine zav (b := 0) (az := []) rfl rfl (fun m b' hh => zc4 hsx hh) zai (by first | exact LR.nil | simp only [nbS]) (zdh tk) ?_
    simp only [tkV, ssH, zdY, zdW, reduceIte, zdX, zd2, zd0, zd1]
    cases hk : (tk.k == 4)
    ·simp only [hk, Bool.false_and, zd5, if_false, Option.some.injEq] at hg2
     subst hg2
     simp only [zX, ssH, zdY, zdW, reduceIte, zdX, zd2, zd0, zd1]
     exact kfin hwk rfl rfl (by rintro e l ⟨⟩; rfl)
    ·simp only [ssH, zdY, zdW, reduceIte, zdX, zd2, zd0, zd1]
     refine zav (b := 0) (az := []) rfl rfl (fun m b' hh => zc4 hsx hh) zai (by first | exact LR.nil | simp only [nbS]) (zdh tk) ?_
     simp only [tkV, ssH, zdY, zdW, reduceIte, zdX, zd2, zd0, zd1]
     refine zah (v := it (level tk.s)) (by exact fun m => kLine_ok) (by first | exact LR.nil | simp only [nbS]) (by first | exact LR.nil | simp only [nbS]) ?_
     simp only [ssH, zdY, zdW, reduceIte, zdX, zd2, zd0, zd1]
     cases hlv : (level tk.s == (line : Int))
     ·simp only [hk, hlv, zeR, zd5, if_false, Option.some.injEq] at hg2
      subst hg2
      simp only [zX, ssH, zdY, zdW, reduceIte, zdX, zd2, zd0, zd1]
      exact kfin hwk rfl rfl (by rintro e l ⟨⟩; rfl)
     ·simp only [hk, hlv, Bool.and_self, if_true] at hg2
      simp only [ssH, zdY, zdW, reduceIte, zdX, zd2, zd0, zd1]
      refine zav (b := 0) (az := []) rfl rfl (fun m b' hh => zc4 hsx hh) zai (by first | exact LR.nil | simp only [nbS]) (zdh tk) ?_
      simp only [tkV, zas (show L.length - (l2.length + 1) < 4611686018427387904 by omega), zas (show line < 4611686018427387904 by omega), zdv hsx, ssH, zdY, zdW, reduceIte, zdX, zd2, zd0, zd1]
      obtain ⟨p2, k2, hs2, hf2⟩ := zco hg2
      have hsx2 : l2 <:+ L := (zej tk l2).trans hsx
      have hsx3 : zci p2 <:+ L := (run_sfx i _ _ _ k2).trans hsx2
      refine zaN (b := 0) (az := [it (line + 1 : Nat)]) rfl rfl (fun m b' hh => (h i (by omega)).1 (line + 1) l2 p2 m b' (by omega) hsx2 hs2 hh k2) (zai (L := L)) (by first | exact LR.nil | simp only [nbS]) kq_nb ?_
      rintro v Y ⟨e2, rfl, rfl, hq2⟩
      have hf2 := hf2 _ hq2
      simp only [lit52_eq, lits5_two (v := .agg [it k, bs s, it nn, .sl vs [] tok, it ln]) (u := exV e2) rfl (zbw e2), zX, ssH, zdY, zdW, reduceIte, zdX, zd2, zd0, zd1]
      refine ⟨_, hJ i (zef 3) _ (by omega) (zaB rfl (by decide) (by decide) (by simp) (by show nbs 3 [.ptr 0 0, it line, .ptr 1 0, .ptr 2 0]; simp only [nbS]; decide) (nbB3 zai nbB_zX (nbB_wx (g := .mk 7 tk.s 0 [.mk k s nn kids ln, e2] ln) ?_)) ⟨.mk 7 tk.s 0 [.mk k s nn kids ln, e2] ln, zci p2, badP p2, _, rfl, rfl, ?_, hsx3, by omega, hf2⟩)⟩
      all_goals
       refine ⟨[.agg [it k, bs s, it nn, .sl vs [] tok, it ln], exV e2], .full, rfl, ?_, ?_, by rw [nbT_full]; trivial⟩
       ·simp only [zaM, weak, exVs, exV, hw1, zcM, bs]
       ·simp only [nbS]
        exact ⟨⟨hw2, hw3⟩, nb_exV e2⟩
def Ne (r : Option PR) : Prop := ∀ l1, r = some (.st l1) → l1 ≠ []
theorem zdf {r : Option PR} {k : Ex → List Tk → Option PR} (h : Ne r) (hk : ∀ e l1, Ne (k e l1)) : Ne (bind1 r k) := by
 intro l hp
 rcases zbx hp with ⟨e, l1, h1, h2⟩ | ⟨l1, h1, h2⟩
 ·exact hk e l1 _ h2
 ·cases h2
  exact h _ h1
theorem ne_bindL {r : Option PR} {k : List Ex → List Tk → Option PR} (h : Ne r) (hk : ∀ e l1, Ne (k e l1)) : Ne (bindL r k) := by
 intro l hp
 rcases zcg hp with ⟨e, l1, h1, h2⟩ | ⟨l1, h1, h2⟩
 ·exact hk e l1 _ h2
 ·cases h2
  exact h _ h1
theorem ne_ok {es : List Ex} {l : List Tk} : Ne (some (.ok es l)) := fun _ h => by cases h
theorem ne_must {s : List UInt8} {l : List Tk} {k : List Tk → Option PR} (hk : ∀ l1, Ne (k l1)) : Ne (zbn s l k) := by
 unfold zbn
 cases l with
 | nil => intro p hp; cases hp
 | cons t r =>
  simp only
  split
  ·exact hk r
  ·rintro l1 ⟨⟩ ⟨⟩
theorem ne_name {l : List Tk} {k : List UInt8 → List Tk → Option PR} (hk : ∀ s l1, Ne (k s l1)) : Ne (nameK l k) := by
 unfold nameK
 cases l with
 | nil => intro p hp; cases hp
 | cons t r =>
  simp only
  split
  ·exact hk _ r
  ·rintro l1 ⟨⟩ ⟨⟩
theorem run_ne : ∀ (n : Nat) (r : Rule) (l : List Tk), Ne (run n r l)
 | 0, r, l => by intro p hp; cases hp
 | n + 1, r, [] => by intro p hp; cases hp
 | n + 1, r, t :: l => by
  have ih := run_ne n
  have hrow : ∀ l', Ne (rowR (run n) l') := fun l' => zdf (ih (.ex 0) l') fun e l1 => ih (.ro [e]) l1
  have hunt : ∀ s l', Ne (untilR (run n) s l') := by
   intro s l'
   unfold untilR
   cases l' with
   | nil => intro p hp; cases hp
   | cons t' r' =>
    simp only
    split
    ·exact ne_ok
    ·exact ne_bindL (hrow _) fun es l1 => ne_must fun l2 => ne_ok
  show Ne (step (run n) t l r)
  cases r with
  | ex line =>
   simp only [step]
   split
   ·exact ih _ _
   ·exact zdf (ih _ _) fun e l1 => ih _ _
  | lp line e =>
   simp only [step]
   split
   ·exact zdf (ih _ _) fun e2 l2 => ih _ _
   ·exact ne_ok
  | un =>
   simp only [step]
   split
   ·exact zdf (ih _ _) fun e l1 => ne_ok
   ·exact zdf (ih _ _) fun e l1 => ih _ _
  | po e =>
   simp only [step]
   split
   ·exact zdf (ih _ _) fun e2 l2 => ne_must fun l3 => ih _ _
   ·split
    ·exact ne_name fun s l2 => ih _ _
    ·exact ne_ok
  | ro out =>
   simp only [step]
   split
   ·exact zdf (ih _ _) fun e l1 => ih _ _
   ·exact ne_ok
  | si =>
   simp only [step, singleR]
   split
   ·exact ne_ok
   ·split
    ·exact ne_ok
    ·split
     ·unfold callR
      cases l with
      | nil => intro p hp; cases hp
      | cons t2 l2 =>
       simp only
       split
       ·exact ne_bindL (hunt _ _) fun es l3 => ne_ok
       ·exact ne_ok
     ·split
      ·exact ne_ok
      ·split
       ·exact ne_ok
       ·split
        ·exact ne_name fun s l2 => ne_must fun l3 => ne_bindL (hunt _ _) fun es l4 => ne_ok
        ·split
         ·exact ne_bindL (hrow _) fun es l2 => ne_must fun l3 => ne_ok
         ·split
          ·exact zdf (ih _ _) fun e l2 => ne_must fun l3 => ne_ok
          ·rintro l1 ⟨⟩ ⟨⟩
/-! ### Rows -/
def KL (L : List Tk) (p : PR) (v : V) (Y : Blk) : Prop := ∃ gs : List Ex, v = .sl (exVs gs) [] .no ∧ Y = rdS L (zci p) (badP p) ∧ ∀ es l, p = .ok es l → gs = es
theorem kl_nb {L : List Tk} {p : PR} : ∀ v Y, KL L p v Y → nb 0 v ∧ nbB 0 Y := by
 rintro v Y ⟨g, rfl, rfl, _⟩
 refine ⟨?_, zai⟩
 simp only [nbS]
 exact zdg g
def Bf (out : List Ex) (tok : Tok) (r : Hl) : Prop := tok = .full ∧ out = [] ∧ r = [] ∨ ∃ k, tok = .tip 1 k ∧ out ≠ [] ∧ r = [some (.tip 170 k)]
theorem bf_blk {X : Blk} {out : List Ex} {tok : Tok} {r : Hl} (h : Bf out tok r) (hX : ∀ k, nbB k X) : ∀ a < 1 + r.length, ∀ x, lk (some X :: r) a = some x → nbB (1 + r.length) x := by
 intro a ha x hx
 rcases h with ⟨rfl, rfl, rfl⟩ | ⟨k, rfl, _, rfl⟩
 ·have : a = 0 := by simp at ha; omega
  subst this
  cases hx
  exact hX _
 ·have : a = 0 ∨ a = 1 := by simp at ha; omega
  rcases this with rfl | rfl
  ·cases hx
   exact hX _
  ·cases hx
   simp only [nbS]
theorem bf_app {P : Program} {Γ : Glob} {Kp : V → Hl → Prop} {s : List (Tmp × Option (Tmp × Bool) × AOp)} {l : List Item} {K : HS → Prop} {t : List V} {d : Option Tmp} {X : Blk} {out : List Ex} {tok : Tok} {r : Hl} {e : Ex} (h : Bf out tok r) (hb : out.length ≤ 1099511627776)
  (hr : ∀ k, hth P Γ Kp s l K (hput t [some X, some (.tip 170 k)] d (some (.sl (exVs (out ++ [e])) [] (.tip 1 k))))) : happS P Γ Kp 170 64 5 (.sl (exVs out) [] tok) (.sl [exV e] [] .full) d s l K t (some X :: r) := by
 have he : elemsB 5 [exV e] = true := by
  obtain ⟨k, s, n, kids, ln⟩ := e
  rfl
 rw [exVs_append] at hr
 rcases h with ⟨rfl, rfl, rfl⟩ | ⟨k, rfl, h0, rfl⟩
 ·exact happ_full (ys := [exV e]) rfl (by simp) (by simp) rfl he (by simp [exVs]) (hr 0)
 ·have hne : exVs out ≠ [] := by
   cases out with
   | nil => exact absurd rfl h0
   | cons x y => simp [exVs]
  exact happ_tip (j := 1) (k := k) (x := .sl [exV e] [] .full) (ys := [exV e]) rfl (by simp) hne rfl (szOk_ex out) he (by rw [zc5]; simp; omega) (hr (k + 1))
theorem lfin {L : List Tk} {p : PR} {gs : List Ex} {tok : Tok} {t : List V} {h : Hl} {i : Nat} (ht : tget t i = .sl (exVs gs) [] tok) (h0 : lk h 0 = some (rdS L (zci p) (badP p))) (hq : ∀ es l, p = .ok es l → gs = es) :
  bodyH [ARes.tmp i] (fun v h' => nb 0 (weak v) ∧ ∃ Y, lk h' 0 = some Y ∧ nbB 0 Y ∧ KL L p (weak v) Y) .ret ⟨t, h⟩ := by
 have e : weak (.sl (exVs gs) [] tok) = .sl (exVs gs) [] .no := by simp only [weak, zaM, zaK]
 refine zac zad ⟨?_, _, h0, zai, gs, ?_, rfl, hq⟩
 ·rw [ht, e]
  simp only [nbS]
  exact zdg gs
 ·rw [ht, e]
def listR (f : Rule → List Tk → Option PR) (s : List UInt8) (one : Bool) (t : Tk) (l : List Tk) : Option PR := if (!one && isS s t) = true then some (.ok [] l) else bindL (rowR f (t :: l)) fun es l2 => zbn s l2 fun l3 => some (.ok es l3)
section
variable {Γ : Glob} {m : Store} {rb n : Nat} {L l : List Tk} {t : Tk} {s : List UInt8} {one : Bool} {p : PR}
theorem kList_ok (hL : L.length < 4611686018427387904) (hn0 : n ≤ 1099511627776) (h : ∀ k ≤ n, KEx Γ L k) (hs : t :: l <:+ L) (hr : m rb = some (rdS L (t :: l) false)) (hp : listR (run n) s one t l = some p) :
  zae Tryz.prog Γ 227 [.ptr rb 0, bs s, .val (.bool one)] m fun o m' => ∃ v Y, o = .ret v ∧ m' = m.set rb Y ∧ KL L p v Y := by
 refine acalls_cw mixed F227_ok F227_h zaw hr zai (by first | exact LR.nil | simp only [nbS]) ?_
 simp only [F227, ss0, zd3, zdY]
 simp only [ssH, zdY, zdW, reduceIte, zdX, zd2, zd0, zd1]
 by_cases hc : (!one && isS s t) = true
 ·obtain ⟨rfl, hi⟩ : one = false ∧ isS s t = true := by simpa using hc
  have : p = .ok [] l := by simpa [listR, hi] using hp.symm
  subst this
  simp only [ssH, zdY, zdW, reduceIte, zdX, zd2, zd0, zd1]
  refine zax (b := 0) (az := [bs s]) (v := .val (.bool true)) rfl rfl (fun m b' hh => zbu hL hs hh hi) zai zai (by first | exact LR.nil | simp only [nbS]) (by first | exact LR.nil | simp only [nbS]) ?_
  simp only [ssH, zdY, zdW, reduceIte, zdX, zd2, zd0, zd1]
  exact lfin (gs := []) (tok := .full) rfl rfl (by rintro es l ⟨⟩; rfl)
 ·have hloop : bindL (rowR (run n) (t :: l)) (fun es l2 => zbn s l2 fun l3 => some (.ok es l3)) = some p := by
   simpa [listR, hc] using hp
  obtain ⟨q, hq, hq2⟩ : ∃ q, rowR (run n) (t :: l) = some q ∧ (∀ out l1, q = .ok out l1 → zbn s l1 (fun l3 => some (.ok out l3)) = some p) ∧ (∀ l1, q = .st l1 → p = .st l1) := by
   rcases zcg hloop with ⟨es, l1, h1, h2⟩ | ⟨l1, h1, h2⟩
   ·exact ⟨_, h1, (fun out l1 e => by cases e; exact h2), (fun l1 e => by cases e)⟩
   ·exact ⟨_, h1, (fun out l1 e => by cases e), (fun l1 e => by cases e; exact h2)⟩
  cases one
  case' false =>
   have hi : isS s t = false := by simpa using hc
   simp only [ssH, zdY, zdW, reduceIte, zdX, zd2, zd0, zd1]
   refine zav (b := 0) (az := [bs s]) (v := .val (.bool false)) rfl rfl (fun m b' hh => za0 hs hh (by rw [hi]; rfl)) zai (by first | exact LR.nil | simp only [nbS]) (by first | exact LR.nil | simp only [nbS]) ?_
  all_goals
   simp only [ssH, zdY, zdW, reduceIte, zdX, zd2, zd0, zd1]
   refine zdA [0, 1, 7] 32 (fun j vs h => ∃ out l1 tok r, vs = [.ptr 0 0, bs s, .sl (exVs out) [] tok] ∧ h = some (rdS L l1 false) :: r ∧ Bf out tok r ∧ l1 <:+ L ∧ out.length + j ≤ n ∧ bind1 (run j (.ex 0) l1) (fun e l2 => run j (.ro (out ++ [e])) l2) = some q) n (by decide) (by decide) (zef 1) (zaB rfl (by decide) (by decide) (by simp) (by show nbs 1 [.ptr 0 0, bs s, .sl [] [] .full]; simp only [nbS]; decide) (bf_blk (.inl ⟨rfl, rfl, rfl⟩) fun k => zai) ⟨[], t :: l, .full, [], rfl, rfl, .inl ⟨rfl, rfl, rfl⟩, hs, by simp, hq⟩) ?_
   rintro j tt hh J hJ hl2 ⟨out, l1, tok, r, hv, rfl, hb, hsx, hn, hg⟩
   simp only [zev, List.cons.injEq, and_true] at hv
   obtain ⟨h0, h1, h7⟩ := hv
   rw [t_eq hl2]
   simp only [zat, upTo, h0, h1, h7, rdS, rdR, ssH, zdY, zdW, reduceIte, zdX, zd2, zd0, zd1]
   obtain ⟨p1, k1, hs1, hf⟩ := zco hg
   have hsx1 : zci p1 <:+ L := (run_sfx j _ _ _ k1).trans hsx
   refine zaN (b := 0) (az := [it ((0 : Nat) : Int)]) rfl rfl (fun m b' hh => h j (by omega) 0 l1 p1 m b' (by omega) hsx hs1 hh k1) (zai (L := L)) (by first | exact LR.nil | simp only [nbS]) kq_nb ?_
   rintro v Y ⟨e, rfl, rfl, hq1⟩
   have hf := hf _ hq1
   simp only [lit5_eq, zcA (zbw e), ssH, zdY, zdW, reduceIte, zdX, zd2, zd0, zd1]
   refine bf_app hb (by omega) fun k => ?_
   simp only [ssH, zdY, zdW, reduceIte, zdX, zd2, zd0, zd1]
   rcases hf with ⟨hbad, hqq⟩ | ⟨hgood, hqq⟩
   ·obtain ⟨t2, l2, rfl⟩ : ∃ t2 l2, p1 = .st (t2 :: l2) := by
     cases p1 with
     | ok es l => cases hbad
     | st l =>
      cases l with
      | nil => exact absurd rfl (run_ne _ _ _ _ k1)
      | cons t2 l2 => exact ⟨t2, l2, rfl⟩
    have hpp := hq2.2 _ hqq
    simp only [zci, badP] at hsx1 hpp ⊢
    subst hpp
    refine zav (b := 0) (az := [bs [44]]) (v := .val (.bool false)) rfl rfl (fun m b' hh => za0 hsx1 hh rfl) zai (by first | exact LR.nil | simp only [nbS]) (by first | exact LR.nil | simp only [nbS]) ?_
    simp only [ssH, zdY, zdW, reduceIte, zdX, zd2, zd0, zd1]
    refine zax (b := 0) (az := [bs s]) (v := .tup []) rfl rfl (fun m b' hh => zcT hsx1 hh rfl) zai zai (by first | exact LR.nil | simp only [nbS]) (by first | exact LR.nil | simp only [nbS]) ?_
    simp only [ssH, zdY, zdW, reduceIte, zdX, zd2, zd0, zd1]
    exact lfin (gs := out ++ [e]) (tok := .tip 1 k) rfl rfl (by rintro es l ⟨⟩)
   ·obtain ⟨i, t2, l2, rfl, hl3, hg2⟩ := zbj hqq
    simp only [step] at hg2
    rw [hl3] at hsx1 ⊢
    rw [hgood]
    cases hcm : isS [44] t2
    ·simp only [hcm, zd5, if_false, Option.some.injEq] at hg2
     have hpp := hq2.1 _ _ hg2.symm
     refine zav (b := 0) (az := [bs [44]]) (v := .val (.bool false)) rfl rfl (fun m b' hh => za0 hsx1 hh (by rw [hcm]; rfl)) zai (by first | exact LR.nil | simp only [nbS]) (by first | exact LR.nil | simp only [nbS]) ?_
     simp only [ssH, zdY, zdW, reduceIte, zdX, zd2, zd0, zd1]
     simp only [zbn] at hpp
     cases hmm : isS s t2
     ·simp only [hmm, zd5, if_false, Option.some.injEq] at hpp
      subst hpp
      refine zax (b := 0) (az := [bs s]) (v := .tup []) rfl rfl (fun m b' hh => zcT hsx1 hh (by rw [hmm]; rfl)) zai zai (by first | exact LR.nil | simp only [nbS]) (by first | exact LR.nil | simp only [nbS]) ?_
      simp only [ssH, zdY, zdW, reduceIte, zdX, zd2, zd0, zd1]
      exact lfin (gs := out ++ [e]) (tok := .tip 1 k) rfl rfl (by rintro es l ⟨⟩)
     ·simp only [hmm, if_true, Option.some.injEq] at hpp
      subst hpp
      refine zax (b := 0) (az := [bs s]) (v := .tup []) rfl rfl (fun m b' hh => kMust_yes hL hsx1 hh hmm) zai zai (by first | exact LR.nil | simp only [nbS]) (by first | exact LR.nil | simp only [nbS]) ?_
      simp only [ssH, zdY, zdW, reduceIte, zdX, zd2, zd0, zd1]
      exact lfin (gs := out ++ [e]) (tok := .tip 1 k) rfl rfl (by rintro es l ⟨⟩; rfl)
    ·simp only [hcm, if_true] at hg2
     refine zax (b := 0) (az := [bs [44]]) (v := .val (.bool true)) rfl rfl (fun m b' hh => zbu hL hsx1 hh hcm) zai zai (by first | exact LR.nil | simp only [nbS]) (by first | exact LR.nil | simp only [nbS]) ?_
     simp only [ssH, zdY, zdW, reduceIte, zdX, zd2, zd0, zd1]
     have hB : Bf (out ++ [e]) (.tip 1 k) [some (.tip 170 k)] := .inr ⟨k, rfl, by simp, rfl⟩
     refine ⟨_, hJ i (zef 2) _ (by omega) (zaB rfl (by decide) (by decide) (by simp) ?_ (bf_blk hB fun k => zai) ⟨out ++ [e], l2, _, _, rfl, rfl, hB, (zej t2 l2).trans hsx1, by simp only [List.length_append, zd4, zec]; omega, hg2⟩)⟩
     show nbs 2 [.ptr 0 0, bs s, .sl (exVs (out ++ [e])) [] (.tip 1 k)]
     simp only [nbS]
     exact ⟨by decide, zdg _, by decide⟩
end
def sg : Nat → List UInt8
 | 0 => [45]
 | _ => [33]
def sgV : V := .sl [bs [45], bs [33]] [] .full
theorem idx_sg {i : Nat} (h : i < 2) : idxLV 1 (.sl [bs [45], bs [33]] [] .full) (it i) = some (.elt [bs (sg i)]) := by
 have : i = 0 ∨ i = 1 := by omega
 rcases this with rfl | rfl
 ·exact zbX (e := bs [45]) rfl rfl
 ·exact zbX (e := bs [33]) rfl rfl
theorem nbB2 {k : Nat} {A B : Blk} {r : Hl} (hA : nbB k A) (hB : nbB k B) : ∀ a < 2, ∀ x, lk (some A :: some B :: r) a = some x → nbB k x := by
 intro a ha x hx
 have : a = 0 ∨ a = 1 := by omega
 rcases this with rfl | rfl <;> cases hx <;> assumption
theorem st_cons {n : Nat} {r : Rule} {l : List Tk} {p1 : PR} (k1 : run n r l = some p1) (hbad : badP p1 = true) : ∃ t2 l2, p1 = .st (t2 :: l2) := by
 cases p1 with
 | ok es l => cases hbad
 | st l =>
  cases l with
  | nil => exact absurd rfl (run_ne _ _ _ _ k1)
  | cons t2 l2 => exact ⟨t2, l2, rfl⟩
theorem kUnary_ok {Γ : Glob} {L : List Tk} {n : Nat} (hL : L.length < 4611686018427387904) (h : ∀ k < n, KEx Γ L k ∧ KUn Γ L k ∧ KSi Γ L k) : KUn Γ L n := by
 intro l p m rb hs hp1 hr hp
 obtain ⟨j, t, l', rfl, rfl, hg⟩ := zbj hp
 clear hp
 simp only [step] at hg
 refine acalls_cw mixed F182_ok F182_h zaw hr zai (by first | exact LR.nil | simp only [nbS]) ?_
 simp only [F182, ss0, zd3, zdY]
 have e10 : ∀ {t : List V} {m : Store}, zan Tryz.prog (ev Γ t) m (.lits 1 [V.val (Value.string (ByteArray.mk #[]))] 2 [(0, .const (.string (ByteArray.mk #[45]))), (1, .const (.string (ByteArray.mk #[33])))]) = some sgV := fun {t m} => rfl
 simp only [ssH, zdY, zdW, reduceIte, zdX, zd2, zd0, zd1]
 refine zav (b := 0) (az := []) rfl rfl (fun m b' hh => zc4 hs hh) zai (by first | exact LR.nil | simp only [nbS]) (zdh t) ?_
 simp only [tkV, e10, ssH, zdY, zdW, reduceIte, zdX, zd2, zd0, zd1]
 simp only [sgV, zd4, zec, ssH, zdY, zdW, reduceIte, zdX, zd2, zd0, zd1]
 refine zdA [0, 2, 3, 10, 11, 12] 57 (fun n vs h => ∃ i : Nat, vs = [.ptr 0 0, .ptr 1 0, it t.l, sgV, it (2 : Nat), it i] ∧ h = [some (rdS L (t :: l') false), some (.var 170 zX)] ∧ i + n = 3 ∧ i ≤ 2 ∧ ∀ a < i, isS (sg a) t = false) 3 (by decide) (by decide) (zef 2) (zaB rfl (by decide) (by decide) (by simp) (by show nbs 2 [.ptr 0 0, .ptr 1 0, it t.l, sgV, it (2 : Nat), it (0 : Nat)]; simp only [sgV, nbS]; decide) (nbB2 zai nbB_zX) ⟨0, rfl, rfl, rfl, by decide, fun a ha => by omega⟩) ?_
 rintro n tt hh J hJ hl2 ⟨i, hv, rfl, hn, hi, hno⟩
 simp only [zev, List.cons.injEq, and_true] at hv
 obtain ⟨h0, h2, h3, h10, h11, h12⟩ := hv
 rw [t_eq hl2]
 simp only [zat, upTo, h0, h2, h3, h10, h11, h12, rdS, rdR, ssH, zdY, zdW, reduceIte, zdX, zd2, zd0, zd1]
 by_cases h6 : i < 2
 ·rw [show decide ((i : Int) < ((2 : Nat) : Int)) = true by simp; omega]
  simp only [sgV, idx_sg h6, ssH, zdY, zdW, reduceIte, zdX, zd2, zd0, zd1]
  cases hi2 : isS (sg i) t
  ·refine zav (b := 0) (az := [bs (sg i)]) (v := .val (.bool false)) rfl rfl (fun m b' hh => za0 hs hh (by rw [hi2]; rfl)) zai (by first | exact LR.nil | simp only [nbS]) (by first | exact LR.nil | simp only [nbS]) ?_
   simp only [zas (show i < 4611686018427387904 by omega), ssH, zdY, zdW, reduceIte, zdX, zd2, zd0, zd1]
   refine ⟨_, hJ (n - 1) (zef 2) _ (by omega) (zaB rfl (by decide) (by decide) (by simp) (by show nbs 2 [.ptr 0 0, .ptr 1 0, it t.l, sgV, it (2 : Nat), it (i + 1 : Nat)]; simp only [sgV, nbS]; decide) (nbB2 zai nbB_zX) ⟨i + 1, rfl, rfl, by omega, by omega, ?_⟩)⟩
   intro a ha
   by_cases e : a = i
   ·rw [e]; exact hi2
   ·exact hno a (by omega)
  ·have hg2 : bind1 (run j .un l') (fun e l1 => some (.ok [.mk 6 t.s 0 [e] t.l] l1)) = some p := by
    rw [if_pos] at hg
    ·exact hg
    ·have : i = 0 ∨ i = 1 := by omega
     rcases this with rfl | rfl <;> simp only [sg] at hi2 <;> rw [hi2] <;> simp
   have hts : t.s = sg i := by
    simp only [isS, zd6, beq_iff_eq] at hi2
    exact hi2.2
   obtain ⟨p1, k1, hs1, hf⟩ := zco hg2
   have hs' : l' <:+ L := (zej t l').trans hs
   refine zax (b := 0) (az := [bs (sg i)]) (v := .val (.bool true)) rfl rfl (fun m b' hh => zbu hL hs hh hi2) zai zai (by first | exact LR.nil | simp only [nbS]) (by first | exact LR.nil | simp only [nbS]) ?_
   simp only [ssH, zdY, zdW, reduceIte, zdX, zd2, zd0, zd1]
   refine zaN (b := 0) (az := []) rfl rfl (fun m b' hh => (h j (by omega)).2.1 l' p1 m b' hs' hs1 hh k1) zai (by first | exact LR.nil | simp only [nbS]) kq_nb ?_
   rintro v Y ⟨e, rfl, rfl, hq1⟩
   have hf := hf _ hq1
   simp only [lit5_eq, zcA (zbw e), zX, ssH, zdY, zdW, reduceIte, zdX, zd2, zd0, zd1]
   have hw : WX (.mk 6 (sg i) 0 [e] t.l) [it 6, bs (sg i), it 0, .sl [exV e] [] .full, it t.l] := ⟨[exV e], .full, rfl, by simp only [zaM, zcM, exVs], by simp only [nbS]; exact nb_exV e, by rw [nbT_full]; trivial⟩
   rcases hf with ⟨hb, rfl⟩ | ⟨hb, hpp⟩
   ·exact kfin hw rfl (by rw [hb]; rfl) (by rintro e l ⟨⟩)
   ·simp only [Option.some.injEq] at hpp
    subst hpp
    exact kfin hw rfl (by rw [hb]; rfl) (by rintro e l ⟨⟩; rw [hts])
 ·rw [show decide ((i : Int) < ((2 : Nat) : Int)) = false by simp; omega]
  have : i = 2 := by omega
  subst this
  have ha : isS [45] t = false := hno 0 (by decide)
  have hb : isS [33] t = false := hno 1 (by decide)
  simp only [ha, hb, Bool.or_self, zd5, if_false] at hg
  obtain ⟨p1, k1, hs1, hf⟩ := zco hg
  have hsx1 : zci p1 <:+ L := (run_sfx j _ _ _ k1).trans hs
  simp only [ssH, zdY, zdW, reduceIte, zdX, zd2, zd0, zd1]
  refine zaN (b := 0) (az := []) rfl rfl (fun m b' hh => (h j (by omega)).2.2 _ p1 m b' hs hs1 hh k1) zai (by first | exact LR.nil | simp only [nbS]) kq_nb ?_
  rintro v Y ⟨⟨k, s, nn, kids, ln⟩, rfl, rfl, hq1⟩
  have hf := hf _ hq1
  simp only [exV, ssH, zdY, zdW, reduceIte, zdX, zd2, zd0, zd1]
  refine zdA [0, 2, 6] 57 (fun n vs h => ∃ g l1 b cs, vs = [.ptr 0 0, .ptr 1 0, .ptr 2 0] ∧ h = [some (rdS L l1 b), some (.var 170 zX), some (.var 170 cs)] ∧ WX g cs ∧ l1 <:+ L ∧ n ≤ j ∧ (b = true ∧ p = .st l1 ∨ b = false ∧ run n (.po g) l1 = some p)) j (by decide) (by decide) (zef 3) (zaB rfl (by decide) (by decide) (by simp) (by show nbs 3 [.ptr 0 0, .ptr 1 0, .ptr 2 0]; simp only [nbS]; decide) (nbB3 zai nbB_zX (nbB_wx (wx_exV (.mk k s nn kids ln)))) ⟨.mk k s nn kids ln, zci p1, badP p1, _, rfl, rfl, wx_exV _, hsx1, zek _, hf⟩) ?_
  clear hf hq1 k1 hs1 hsx1 hJ hg
  rintro n tt hh J hJ hl2 ⟨⟨k, s, nn, kids, ln⟩, l1, b, cs, hv, rfl, hw, hsx, hn, hc⟩
  have hwk := hw
  obtain ⟨vs, tok, rfl, hw1, hw2, hw3⟩ := hw
  simp only [zev, List.cons.injEq, and_true] at hv
  obtain ⟨h0, h2, h6⟩ := hv
  rw [t_eq hl2]
  simp only [zat, upTo, h0, h2, h6, rdS, rdR, ssH, zdY, zdW, reduceIte, zdX, zd2, zd0, zd1]
  rcases hc with ⟨rfl, rfl⟩ | ⟨rfl, hc⟩
  ·simp only [zX, ssH, zdY, zdW, reduceIte, zdX, zd2, zd0, zd1]
   exact kfin hwk rfl rfl (by rintro e l ⟨⟩)
  ·obtain ⟨i, tk, l2, rfl, rfl, hg⟩ := zbj hc
   clear hc
   simp only [step] at hg
   have hsx2 : l2 <:+ L := (zej tk l2).trans hsx
   have hnx : ∀ (K : Int) (S : List UInt8) (KE : List Ex) (KS : List V) (l3 : List Tk) (b : Bool) (tt' : List V), tt'.length = 57 → tget tt' 0 = .ptr 0 0 → tget tt' 2 = .ptr 1 0 → tget tt' 6 = .ptr 2 0 → zaM KS = exVs KE → nbs 0 KS → l3 <:+ L → (b = true ∧ p = .st l3 ∨ b = false ∧ run i (.po (.mk K S 0 KE ln)) l3 = some p) →
     ∃ names, J names ⟨tt', [some (rdS L l3 b), some (.var 170 zX), some (.var 170 [it K, bs S, it 0, .sl KS [] .full, it ln])]⟩ := by
    intro K S KE KS l3 b tt' q0 q1 q2 q3 q4 q5 q6 q7
    have hw : WX (.mk K S 0 KE ln) [it K, bs S, it 0, .sl KS [] .full, it ln] := ⟨KS, .full, rfl, q4, q5, by rw [nbT_full]; trivial⟩
    refine ⟨_, hJ i (zef 3) _ (by omega) (zaB q0 (by decide) (by decide) (by simp) ?_ (nbB3 zai nbB_zX (nbB_wx hw)) ⟨.mk K S 0 KE ln, l3, b, _, ?_, rfl, hw, q6, by omega, q7⟩)⟩
    ·simp only [zev, q1, q2, q3, nbS]
     decide
    ·simp only [zev, q1, q2, q3]
   simp only [ssH, zdY, zdW, reduceIte, zdX, zd2, zd0, zd1]
   cases hi1 : isS [91] tk
   ·refine zav (b := 0) (az := [bs [91]]) (v := .val (.bool false)) rfl rfl (fun m b' hh => za0 hsx hh (by rw [hi1]; rfl)) zai (by first | exact LR.nil | simp only [nbS]) (by first | exact LR.nil | simp only [nbS]) ?_
    simp only [ssH, zdY, zdW, reduceIte, zdX, zd2, zd0, zd1]
    cases hi2 : isS [46] tk
    ·refine zav (b := 0) (az := [bs [46]]) (v := .val (.bool false)) rfl rfl (fun m b' hh => za0 hsx hh (by rw [hi2]; rfl)) zai (by first | exact LR.nil | simp only [nbS]) (by first | exact LR.nil | simp only [nbS]) ?_
     simp only [hi1, hi2, zd5, if_false, Option.some.injEq] at hg
     subst hg
     simp only [zX, ssH, zdY, zdW, reduceIte, zdX, zd2, zd0, zd1]
     exact kfin hwk rfl rfl (by rintro e l ⟨⟩; rfl)
    ·refine zax (b := 0) (az := [bs [46]]) (v := .val (.bool true)) rfl rfl (fun m b' hh => zbu hL hsx hh hi2) zai zai (by first | exact LR.nil | simp only [nbS]) (by first | exact LR.nil | simp only [nbS]) ?_
     simp only [hi1, hi2, zd5, if_false, if_true] at hg
     simp only [lit5_eq, zcA (v := .agg [it k, bs s, it nn, .sl vs [] tok, it ln]) rfl, ssH, zdY, zdW, reduceIte, zdX, zd2, zd0, zd1]
     cases l2 with
     | nil => cases hg
     | cons t3 l3 =>
      have hsx3 : l3 <:+ L := (zej t3 l3).trans hsx2
      simp only [nameK] at hg
      by_cases hk : t3.k = 1
      ·rw [if_pos hk] at hg
       refine zax (b := 0) (az := []) (v := bs t3.s) rfl rfl (fun m b' hh => kName_yes hL hsx2 hh hk) zai zai (by first | exact LR.nil | simp only [nbS]) (by first | exact LR.nil | simp only [nbS]) ?_
       simp only [ssH, zdY, zdW, reduceIte, zdX, zd2, zd0, zd1]
       exact hnx 9 t3.s [.mk k s nn kids ln] [.agg [it k, bs s, it nn, .sl vs [] tok, it ln]] l3 false _ rfl rfl rfl rfl (by simp only [zaM, weak, exVs, exV, hw1, bs]) (by simp only [nbS]; exact ⟨hw2, hw3⟩) hsx3 (.inr ⟨rfl, hg⟩)
      ·rw [if_neg hk] at hg
       simp only [Option.some.injEq] at hg
       refine zax (b := 0) (az := []) (v := bs []) rfl rfl (fun m b' hh => kName_no hsx2 hh (.inr hk)) zai zai (by first | exact LR.nil | simp only [nbS]) (by first | exact LR.nil | simp only [nbS]) ?_
       simp only [ssH, zdY, zdW, reduceIte, zdX, zd2, zd0, zd1]
       exact hnx 9 [] [.mk k s nn kids ln] [.agg [it k, bs s, it nn, .sl vs [] tok, it ln]] (t3 :: l3) true _ rfl rfl rfl rfl (by simp only [zaM, weak, exVs, exV, hw1, bs]) (by simp only [nbS]; exact ⟨hw2, hw3⟩) hsx2 (.inl ⟨rfl, hg.symm⟩)
   ·refine zax (b := 0) (az := [bs [91]]) (v := .val (.bool true)) rfl rfl (fun m b' hh => zbu hL hsx hh hi1) zai zai (by first | exact LR.nil | simp only [nbS]) (by first | exact LR.nil | simp only [nbS]) ?_
    simp only [hi1, if_true] at hg
    simp only [ssH, zdY, zdW, reduceIte, zdX, zd2, zd0, zd1]
    obtain ⟨p2, k2, hs2, hf2⟩ := zco hg
    have hsx3 : zci p2 <:+ L := (run_sfx i _ _ _ k2).trans hsx2
    refine zaN (b := 0) (az := [it ((0 : Nat) : Int)]) rfl rfl (fun m b' hh => (h i (by omega)).1 0 l2 p2 m b' (by omega) hsx2 hs2 hh k2) zai (by first | exact LR.nil | simp only [nbS]) kq_nb ?_
    rintro v Y ⟨e2, rfl, rfl, hq2⟩
    have hf2 := hf2 _ hq2
    simp only [lit52_eq, lits5_two (v := .agg [it k, bs s, it nn, .sl vs [] tok, it ln]) (u := exV e2) rfl (zbw e2), ssH, zdY, zdW, reduceIte, zdX, zd2, zd0, zd1]
    have hv1 : zaM [.agg [it k, bs s, it nn, .sl vs [] tok, it ln], exV e2] = exVs [.mk k s nn kids ln, e2] := by simp only [zaM, weak, exVs, exV, hw1, zcM, bs]
    have hv2 : nbs 0 [.agg [it k, bs s, it nn, .sl vs [] tok, it ln], exV e2] := by
     simp only [nbS]
     exact ⟨⟨hw2, hw3⟩, nb_exV e2⟩
    rcases hf2 with ⟨hbad, hqq⟩ | ⟨hgood, hqq⟩
    ·obtain ⟨t2, l3, rfl⟩ := st_cons k2 hbad
     simp only [zci, badP] at hsx3 hqq ⊢
     refine zax (b := 0) (az := [bs [93]]) (v := .tup []) rfl rfl (fun m b' hh => zcT hsx3 hh rfl) zai zai (by first | exact LR.nil | simp only [nbS]) (by first | exact LR.nil | simp only [nbS]) ?_
     simp only [ssH, zdY, zdW, reduceIte, zdX, zd2, zd0, zd1]
     exact hnx 8 [] [.mk k s nn kids ln, e2] _ (t2 :: l3) true _ rfl rfl rfl rfl hv1 hv2 hsx3 (.inl ⟨rfl, hqq⟩)
    ·rw [hgood]
     generalize zci p2 = l3 at hqq hsx3
     cases l3 with
     | nil => cases hqq
     | cons t3 l3 =>
      have hsx4 : l3 <:+ L := (zej t3 l3).trans hsx3
      simp only [zbn] at hqq
      cases hmm : isS [93] t3
      ·simp only [hmm, zd5, if_false, Option.some.injEq] at hqq
       refine zax (b := 0) (az := [bs [93]]) (v := .tup []) rfl rfl (fun m b' hh => zcT hsx3 hh (by rw [hmm]; rfl)) zai zai (by first | exact LR.nil | simp only [nbS]) (by first | exact LR.nil | simp only [nbS]) ?_
       simp only [ssH, zdY, zdW, reduceIte, zdX, zd2, zd0, zd1]
       exact hnx 8 [] [.mk k s nn kids ln, e2] _ (t3 :: l3) true _ rfl rfl rfl rfl hv1 hv2 hsx3 (.inl ⟨rfl, hqq.symm⟩)
      ·simp only [hmm, if_true] at hqq
       refine zax (b := 0) (az := [bs [93]]) (v := .tup []) rfl rfl (fun m b' hh => kMust_yes hL hsx3 hh hmm) zai zai (by first | exact LR.nil | simp only [nbS]) (by first | exact LR.nil | simp only [nbS]) ?_
       simp only [ssH, zdY, zdW, reduceIte, zdX, zd2, zd0, zd1]
       exact hnx 8 [] [.mk k s nn kids ln, e2] _ l3 false _ rfl rfl rfl rfl hv1 hv2 hsx4 (.inr ⟨rfl, hqq⟩)
theorem isS_k {t : Tk} (h4 : t.k ≠ 4) (h5 : t.k ≠ 5) (s : List UInt8) : isS s t = false := by
 simp [isS, h4, h5]
section
variable {Γ : Glob} {m : Store} {rb n : Nat} {L l : List Tk} {t : Tk} {s : List UInt8} {one : Bool} {p : PR}
theorem kList_bad (hs : t :: l <:+ L) (hr : m rb = some (rdS L (t :: l) true)) :
  zae Tryz.prog Γ 227 [.ptr rb 0, bs s, .val (.bool one)] m fun o m' => ∃ v Y, o = .ret v ∧ m' = m.set rb Y ∧ KL L (.st (t :: l)) v Y := by
 refine acalls_cw mixed F227_ok F227_h zaw hr zai (by first | exact LR.nil | simp only [nbS]) ?_
 simp only [F227, ss0, zd3, zdY]
 simp only [ssH, zdY, zdW, reduceIte, zdX, zd2, zd0, zd1]
 cases one
 case' false =>
  simp only [ssH, zdY, zdW, reduceIte, zdX, zd2, zd0, zd1]
  refine zav (b := 0) (az := [bs s]) (v := .val (.bool false)) rfl rfl (fun m b' hh => za0 hs hh rfl) zai (by first | exact LR.nil | simp only [nbS]) (by first | exact LR.nil | simp only [nbS]) ?_
 all_goals
  simp only [ssH, zdY, zdW, reduceIte, zdX, zd2, zd0, zd1]
  refine zdA [0, 1, 7] 32 (fun j vs h => vs = [.ptr 0 0, bs s, .sl [] [] .full] ∧ h = [some (rdS L (t :: l) true)]) 0 (by decide) (by decide) (zef 1) (zaB rfl (by decide) (by decide) (by simp) (by show nbs 1 [.ptr 0 0, bs s, .sl [] [] .full]; simp only [nbS]; decide) (bf_blk (.inl ⟨rfl, rfl, rfl⟩) fun k => zai) ⟨rfl, rfl⟩) ?_
  rintro j tt hh J hJ hl2 ⟨hv, rfl⟩
  simp only [zev, List.cons.injEq, and_true] at hv
  obtain ⟨h0, h1, h7⟩ := hv
  rw [t_eq hl2]
  simp only [zat, upTo, h0, h1, h7, rdS, rdR, ssH, zdY, zdW, reduceIte, zdX, zd2, zd0, zd1]
  refine zax (b := 0) (az := [bs s]) (v := .tup []) rfl rfl (fun m b' hh => zcT hs hh rfl) zai zai (by first | exact LR.nil | simp only [nbS]) (by first | exact LR.nil | simp only [nbS]) ?_
  simp only [ssH, zdY, zdW, reduceIte, zdX, zd2, zd0, zd1]
  exact lfin (gs := []) (tok := .full) rfl rfl (by rintro es l ⟨⟩)
end
theorem bindL_next {r : Option PR} {k : List Ex → List Tk → Option PR} {p : PR} (h : bindL r k = some p) : ∃ q, r = some q ∧ ∀ g, (∀ es l, q = .ok es l → g = es) → (badP q = true ∧ p = .st (zci q) ∨ badP q = false ∧ k g (zci q) = some p) := by
 rcases zcg h with ⟨es, l1, k1, k2⟩ | ⟨l1, k1, rfl⟩
 ·exact ⟨_, k1, fun g hq => .inr ⟨rfl, by rw [hq _ _ rfl]; exact k2⟩⟩
 ·exact ⟨_, k1, fun g hq => .inl ⟨rfl, rfl⟩⟩
theorem list_until {f : Rule → List Tk → Option PR} {s : List UInt8} {t : Tk} {l : List Tk} : listR f s false t l = untilR f s (t :: l) := by
 simp only [listR, untilR, zd8, zeH]
theorem list_row {f : Rule → List Tk → Option PR} {s : List UInt8} {t : Tk} {l : List Tk} : listR f s true t l = bindL (rowR f (t :: l)) fun es l2 => zbn s l2 fun l3 => some (.ok es l3) := by
 simp only [listR, zd9, Bool.false_and, zd5, if_false]
theorem row_nil {n : Nat} : rowR (run n) [] = none := by
 cases n <;> rfl
theorem row_next {f : Rule → List Tk → Option PR} {s : List UInt8} {l : List Tk} {k : List Ex → List Tk → Option PR} {p : PR} (h : (bindL (rowR f l) fun es l2 => zbn s l2 fun l3 => k es l3) = some p) : ∃ q, (bindL (rowR f l) fun es l2 => zbn s l2 fun l3 => some (.ok es l3)) = some q ∧ ∀ g, (∀ es l, q = .ok es l → g = es) → (badP q = true ∧ p = .st (zci q) ∨ badP q = false ∧ k g (zci q) = some p) := by
 rcases zcg h with ⟨es, l1, k1, k2⟩ | ⟨l1, k1, rfl⟩
 ·rw [k1]
  cases l1 with
  | nil => cases k2
  | cons t2 l2 =>
   simp only [zbn, bindL] at k2 ⊢
   split at k2
   ·rename_i hm
    rw [if_pos hm]
    exact ⟨_, rfl, fun g hq => .inr ⟨rfl, by rw [hq _ _ rfl]; exact k2⟩⟩
   ·rename_i hm
    rw [if_neg hm]
    cases k2
    exact ⟨_, rfl, fun g hq => .inl ⟨rfl, rfl⟩⟩
 ·rw [k1]
  exact ⟨_, rfl, fun g hq => .inl ⟨rfl, rfl⟩⟩
theorem kSingle_ok {Γ : Glob} {L : List Tk} {n : Nat} (hL : L.length < 4611686018427387904) (hn0 : n ≤ 1099511627776) (h : ∀ k < n, KEx Γ L k) : KSi Γ L n := by
 intro l p m rb hs hp1 hr hp
 obtain ⟨j, t, l', rfl, rfl, hg⟩ := zbj hp
 clear hp
 simp only [step, singleR] at hg
 have hs' : l' <:+ L := (zej t l').trans hs
 have hw : ∀ (K : Int) (S : List UInt8) (N : Int) (KE : List Ex) (tok : Tok), nbT 0 tok → WX (.mk K S N KE t.l) [it K, bs S, it N, .sl (exVs KE) [] tok, it t.l] := fun K S N KE tok ht => ⟨exVs KE, tok, rfl, zaK KE, zdg KE, ht⟩
 have hf : nbT 0 .full := by rw [nbT_full]; trivial
 have hz : nbT 0 .no := by rw [nbT_no]; trivial
 refine acalls_cw mixed F210_ok F210_h zaw hr zai (by first | exact LR.nil | simp only [nbS]) ?_
 simp only [F210, ss0, zd3, zdY]
 simp only [ssH, zdY, zdW, reduceIte, zdX, zd2, zd0, zd1]
 refine zav (b := 0) (az := []) rfl rfl (fun m b' hh => zc4 hs hh) zai (by first | exact LR.nil | simp only [nbS]) (zdh t) ?_
 simp only [tkV, rdS, rdR, ssH, zdY, zdW, reduceIte, zdX, zd2, zd0, zd1]
 by_cases h2 : t.k = 2
 ·rw [if_pos h2] at hg
  simp only [Option.some.injEq] at hg
  subst hg
  simp only [h2, zas (show L.length - (l'.length + 1) < 4611686018427387904 by omega), zdv hs, ssH, zdY, zdW, reduceIte, zdX, zd2, zd0, zd1]
  exact kfin (hw 1 [] t.n [] .full hf) rfl rfl (by rintro e l ⟨⟩; rfl)
 rw [if_neg h2] at hg
 have b2 : (t.k == 2) = false := by simpa using h2
 simp only [b2, ssH, zdY, zdW, reduceIte, zdX, zd2, zd0, zd1]
 by_cases h3 : t.k = 3
 ·rw [if_pos h3] at hg
  simp only [Option.some.injEq] at hg
  subst hg
  simp only [h3, zas (show L.length - (l'.length + 1) < 4611686018427387904 by omega), zdv hs, ssH, zdY, zdW, reduceIte, zdX, zd2, zd0, zd1]
  exact kfin (hw 3 t.s 0 [] .full hf) rfl rfl (by rintro e l ⟨⟩; rfl)
 rw [if_neg h3] at hg
 have b3 : (t.k == 3) = false := by simpa using h3
 simp only [b3, ssH, zdY, zdW, reduceIte, zdX, zd2, zd0, zd1]
 by_cases h1 : t.k = 1
 ·rw [if_pos h1] at hg
  have hi : ∀ x, isS x t = false := isS_k (by omega) (by omega)
  refine zav (b := 0) (az := [bs [116, 114, 117, 101]]) (v := .val (.bool false)) rfl rfl (fun m b' hh => za0 hs hh (by rw [hi]; rfl)) (zai (L := L)) (by first | exact LR.nil | simp only [nbS]) (by first | exact LR.nil | simp only [nbS]) ?_
  simp only [ssH, zdY, zdW, reduceIte, zdX, zd2, zd0, zd1]
  refine zav (b := 0) (az := [bs [102, 97, 108, 115, 101]]) (v := .val (.bool false)) rfl rfl (fun m b' hh => za0 hs hh (by rw [hi]; rfl)) (zai (L := L)) (by first | exact LR.nil | simp only [nbS]) (by first | exact LR.nil | simp only [nbS]) ?_
  simp only [ssH, zdY, zdW, reduceIte, zdX, zd2, zd0, zd1]
  refine zav (b := 0) (az := [bs [110, 101, 119]]) (v := .val (.bool false)) rfl rfl (fun m b' hh => za0 hs hh (by rw [hi]; rfl)) (zai (L := L)) (by first | exact LR.nil | simp only [nbS]) (by first | exact LR.nil | simp only [nbS]) ?_
  simp only [ssH, zdY, zdW, reduceIte, zdX, zd2, zd0, zd1]
  refine zav (b := 0) (az := [bs [91]]) (v := .val (.bool false)) rfl rfl (fun m b' hh => za0 hs hh (by rw [hi]; rfl)) (zai (L := L)) (by first | exact LR.nil | simp only [nbS]) (by first | exact LR.nil | simp only [nbS]) ?_
  simp only [ssH, zdY, zdW, reduceIte, zdX, zd2, zd0, zd1]
  refine zav (b := 0) (az := [bs [40]]) (v := .val (.bool false)) rfl rfl (fun m b' hh => za0 hs hh (by rw [hi]; rfl)) (zai (L := L)) (by first | exact LR.nil | simp only [nbS]) (by first | exact LR.nil | simp only [nbS]) ?_
  simp only [ssH, zdY, zdW, reduceIte, zdX, zd2, zd0, zd1]
  simp only [h1, zas (show L.length - (l'.length + 1) < 4611686018427387904 by omega), zdv hs, ssH, zdY, zdW, reduceIte, zdX, zd2, zd0, zd1]
  cases l' with
  | nil => cases hg
  | cons t2 l2 =>
   simp only [callR] at hg
   have hs2 : l2 <:+ L := (zej t2 l2).trans hs'
   cases hp2 : isS [40] t2
   ·simp only [hp2, zd5, if_false, Option.some.injEq] at hg
    subst hg
    refine zav (b := 0) (az := [bs [40]]) (v := .val (.bool false)) rfl rfl (fun m b' hh => za0 hs' hh (by rw [hp2]; rfl)) (zai (L := L)) (by first | exact LR.nil | simp only [nbS]) (by first | exact LR.nil | simp only [nbS]) ?_
    simp only [ssH, zdY, zdW, reduceIte, zdX, zd2, zd0, zd1]
    exact kfin (hw 4 t.s 0 [] .full hf) rfl rfl (by rintro e l ⟨⟩; rfl)
   ·simp only [hp2, if_true] at hg
    refine zax (b := 0) (az := [bs [40]]) (v := .val (.bool true)) rfl rfl (fun m b' hh => zbu hL hs' hh hp2) (zai (L := L)) zai (by first | exact LR.nil | simp only [nbS]) (by first | exact LR.nil | simp only [nbS]) ?_
    simp only [ssH, zdY, zdW, reduceIte, zdX, zd2, zd0, zd1]
    cases l2 with
    | nil => cases hg
    | cons t3 l3 =>
     obtain ⟨q, hq, hq2⟩ := bindL_next hg
     refine zaN (b := 0) (az := [bs [41], .val (.bool false)]) rfl rfl (fun m b' hh => kList_ok (n := j) (t := t3) (l := l3) (s := [41]) (one := false) (p := q) hL (by omega) (fun k hk => h k (by omega)) hs2 hh (by rw [list_until]; exact hq)) (zai (L := L)) (by first | exact LR.nil | simp only [nbS]) kl_nb ?_
     rintro v Y ⟨es, rfl, rfl, hq3⟩
     have hq2 := hq2 _ hq3
     simp only [ssH, zdY, zdW, reduceIte, zdX, zd2, zd0, zd1]
     rcases hq2 with ⟨hb, rfl⟩ | ⟨hb, hpp⟩
     ·exact kfin (hw 5 t.s 0 es .no hz) rfl (by rw [hb]; rfl) (by rintro e l ⟨⟩)
     ·simp only [Option.some.injEq] at hpp
      subst hpp
      exact kfin (hw 5 t.s 0 es .no hz) rfl (by rw [hb]; rfl) (by rintro e l ⟨⟩; rfl)
 rw [if_neg h1] at hg
 have b1 : (t.k == 1) = false := by simpa using h1
 by_cases h_true : isS [116, 114, 117, 101] t = true
 ·rw [if_pos h_true] at hg
  simp only [Option.some.injEq] at hg
  subst hg
  refine zax (b := 0) (az := [bs [116, 114, 117, 101]]) (v := .val (.bool true)) rfl rfl (fun m b' hh => zbu hL hs hh h_true) (zai (L := L)) zai (by first | exact LR.nil | simp only [nbS]) (by first | exact LR.nil | simp only [nbS]) ?_
  simp only [ssH, zdY, zdW, reduceIte, zdX, zd2, zd0, zd1]
  exact kfin (hw 2 [] 1 [] .full hf) rfl rfl (by rintro e l ⟨⟩; rfl)
 rw [if_neg h_true] at hg
 refine zav (b := 0) (az := [bs [116, 114, 117, 101]]) (v := .val (.bool false)) rfl rfl (fun m b' hh => za0 hs hh (by rw [Bool.eq_false_iff.2 h_true]; rfl)) (zai (L := L)) (by first | exact LR.nil | simp only [nbS]) (by first | exact LR.nil | simp only [nbS]) ?_
 simp only [ssH, zdY, zdW, reduceIte, zdX, zd2, zd0, zd1]
 by_cases h_false : isS [102, 97, 108, 115, 101] t = true
 ·rw [if_pos h_false] at hg
  simp only [Option.some.injEq] at hg
  subst hg
  refine zax (b := 0) (az := [bs [102, 97, 108, 115, 101]]) (v := .val (.bool true)) rfl rfl (fun m b' hh => zbu hL hs hh h_false) (zai (L := L)) zai (by first | exact LR.nil | simp only [nbS]) (by first | exact LR.nil | simp only [nbS]) ?_
  simp only [ssH, zdY, zdW, reduceIte, zdX, zd2, zd0, zd1]
  exact kfin (hw 2 [] 0 [] .full hf) rfl rfl (by rintro e l ⟨⟩; rfl)
 rw [if_neg h_false] at hg
 refine zav (b := 0) (az := [bs [102, 97, 108, 115, 101]]) (v := .val (.bool false)) rfl rfl (fun m b' hh => za0 hs hh (by rw [Bool.eq_false_iff.2 h_false]; rfl)) (zai (L := L)) (by first | exact LR.nil | simp only [nbS]) (by first | exact LR.nil | simp only [nbS]) ?_
 simp only [ssH, zdY, zdW, reduceIte, zdX, zd2, zd0, zd1]
 by_cases h_new : isS [110, 101, 119] t = true
 ·rw [if_pos h_new] at hg
  refine zax (b := 0) (az := [bs [110, 101, 119]]) (v := .val (.bool true)) rfl rfl (fun m b' hh => zbu hL hs hh h_new) (zai (L := L)) zai (by first | exact LR.nil | simp only [nbS]) (by first | exact LR.nil | simp only [nbS]) ?_
  simp only [ssH, zdY, zdW, reduceIte, zdX, zd2, zd0, zd1]
  cases l' with
  | nil => cases hg
  | cons t2 l2 =>
   have hs2 : l2 <:+ L := (zej t2 l2).trans hs'
   simp only [nameK] at hg
   by_cases hk : t2.k = 1
   ·rw [if_pos hk] at hg
    refine zax (b := 0) (az := []) (v := bs t2.s) rfl rfl (fun m b' hh => kName_yes hL hs' hh hk) (zai (L := L)) zai (by first | exact LR.nil | simp only [nbS]) (by first | exact LR.nil | simp only [nbS]) ?_
    simp only [ssH, zdY, zdW, reduceIte, zdX, zd2, zd0, zd1]
    cases l2 with
    | nil => cases hg
    | cons t3 l3 =>
     have hs3 : l3 <:+ L := (zej t3 l3).trans hs2
     simp only [zbn] at hg
     cases hm : isS [40] t3
     ·simp only [hm, zd5, if_false, Option.some.injEq] at hg
      subst hg
      refine zax (b := 0) (az := [bs [40]]) (v := .tup []) rfl rfl (fun m b' hh => zcT hs2 hh (by rw [hm]; rfl)) (zai (L := L)) zai (by first | exact LR.nil | simp only [nbS]) (by first | exact LR.nil | simp only [nbS]) ?_
      simp only [ssH, zdY, zdW, reduceIte, zdX, zd2, zd0, zd1]
      refine zaN (b := 0) (az := [bs [41], .val (.bool false)]) rfl rfl (fun m b' hh => kList_bad (s := [41]) (one := false) hs2 hh) (zai (L := L)) (by first | exact LR.nil | simp only [nbS]) kl_nb ?_
      rintro v Y ⟨es, rfl, rfl, hq3⟩
      simp only [ssH, zdY, zdW, reduceIte, zdX, zd2, zd0, zd1]
      exact kfin (hw 11 t2.s 0 es .no hz) rfl rfl (by rintro e l ⟨⟩)
     ·simp only [hm, if_true] at hg
      refine zax (b := 0) (az := [bs [40]]) (v := .tup []) rfl rfl (fun m b' hh => kMust_yes hL hs2 hh hm) (zai (L := L)) zai (by first | exact LR.nil | simp only [nbS]) (by first | exact LR.nil | simp only [nbS]) ?_
      simp only [ssH, zdY, zdW, reduceIte, zdX, zd2, zd0, zd1]
      cases l3 with
      | nil => cases hg
      | cons t4 l4 =>
       obtain ⟨q, hq, hq2⟩ := bindL_next hg
       refine zaN (b := 0) (az := [bs [41], .val (.bool false)]) rfl rfl (fun m b' hh => kList_ok (n := j) (t := t4) (l := l4) (s := [41]) (one := false) (p := q) hL (by omega) (fun k hk => h k (by omega)) hs3 hh (by rw [list_until]; exact hq)) (zai (L := L)) (by first | exact LR.nil | simp only [nbS]) kl_nb ?_
       rintro v Y ⟨es, rfl, rfl, hq3⟩
       have hq2 := hq2 _ hq3
       simp only [ssH, zdY, zdW, reduceIte, zdX, zd2, zd0, zd1]
       rcases hq2 with ⟨hb, rfl⟩ | ⟨hb, hpp⟩
       ·exact kfin (hw 11 t2.s 0 es .no hz) rfl (by rw [hb]; rfl) (by rintro e l ⟨⟩)
       ·simp only [Option.some.injEq] at hpp
        subst hpp
        exact kfin (hw 11 t2.s 0 es .no hz) rfl (by rw [hb]; rfl) (by rintro e l ⟨⟩; rfl)
   ·rw [if_neg hk] at hg
    simp only [Option.some.injEq] at hg
    subst hg
    refine zax (b := 0) (az := []) (v := bs []) rfl rfl (fun m b' hh => kName_no hs' hh (.inr hk)) (zai (L := L)) zai (by first | exact LR.nil | simp only [nbS]) (by first | exact LR.nil | simp only [nbS]) ?_
    simp only [ssH, zdY, zdW, reduceIte, zdX, zd2, zd0, zd1]
    refine zax (b := 0) (az := [bs [40]]) (v := .tup []) rfl rfl (fun m b' hh => zcT hs' hh rfl) (zai (L := L)) zai (by first | exact LR.nil | simp only [nbS]) (by first | exact LR.nil | simp only [nbS]) ?_
    simp only [ssH, zdY, zdW, reduceIte, zdX, zd2, zd0, zd1]
    refine zaN (b := 0) (az := [bs [41], .val (.bool false)]) rfl rfl (fun m b' hh => kList_bad (s := [41]) (one := false) hs' hh) (zai (L := L)) (by first | exact LR.nil | simp only [nbS]) kl_nb ?_
    rintro v Y ⟨es, rfl, rfl, hq3⟩
    simp only [ssH, zdY, zdW, reduceIte, zdX, zd2, zd0, zd1]
    exact kfin (hw 11 [] 0 es .no hz) rfl rfl (by rintro e l ⟨⟩)
 rw [if_neg h_new] at hg
 refine zav (b := 0) (az := [bs [110, 101, 119]]) (v := .val (.bool false)) rfl rfl (fun m b' hh => za0 hs hh (by rw [Bool.eq_false_iff.2 h_new]; rfl)) (zai (L := L)) (by first | exact LR.nil | simp only [nbS]) (by first | exact LR.nil | simp only [nbS]) ?_
 simp only [ssH, zdY, zdW, reduceIte, zdX, zd2, zd0, zd1]
 by_cases h_br : isS [91] t = true
 ·rw [if_pos h_br] at hg
  refine zax (b := 0) (az := [bs [91]]) (v := .val (.bool true)) rfl rfl (fun m b' hh => zbu hL hs hh h_br) (zai (L := L)) zai (by first | exact LR.nil | simp only [nbS]) (by first | exact LR.nil | simp only [nbS]) ?_
  simp only [ssH, zdY, zdW, reduceIte, zdX, zd2, zd0, zd1]
  cases l' with
  | nil => exact absurd hg (by rw [row_nil]; simp [bindL])
  | cons t2 l2 =>
   obtain ⟨q, hq, hq2⟩ := row_next hg
   refine zaN (b := 0) (az := [bs [93], .val (.bool true)]) rfl rfl (fun m b' hh => kList_ok (n := j) (t := t2) (l := l2) (s := [93]) (one := true) (p := q) hL (by omega) (fun k hk => h k (by omega)) hs' hh (by rw [list_row]; exact hq)) (zai (L := L)) (by first | exact LR.nil | simp only [nbS]) kl_nb ?_
   rintro v Y ⟨es, rfl, rfl, hq3⟩
   have hq2 := hq2 _ hq3
   simp only [ssH, zdY, zdW, reduceIte, zdX, zd2, zd0, zd1]
   rcases hq2 with ⟨hb, rfl⟩ | ⟨hb, hpp⟩
   ·exact kfin (hw 10 [] 0 es .no hz) rfl (by rw [hb]; rfl) (by rintro e l ⟨⟩)
   ·simp only [Option.some.injEq] at hpp
    subst hpp
    exact kfin (hw 10 [] 0 es .no hz) rfl (by rw [hb]; rfl) (by rintro e l ⟨⟩; rfl)
 rw [if_neg h_br] at hg
 refine zav (b := 0) (az := [bs [91]]) (v := .val (.bool false)) rfl rfl (fun m b' hh => za0 hs hh (by rw [Bool.eq_false_iff.2 h_br]; rfl)) (zai (L := L)) (by first | exact LR.nil | simp only [nbS]) (by first | exact LR.nil | simp only [nbS]) ?_
 simp only [ssH, zdY, zdW, reduceIte, zdX, zd2, zd0, zd1]
 by_cases h_pa : isS [40] t = true
 ·rw [if_pos h_pa] at hg
  refine zax (b := 0) (az := [bs [40]]) (v := .val (.bool true)) rfl rfl (fun m b' hh => zbu hL hs hh h_pa) (zai (L := L)) zai (by first | exact LR.nil | simp only [nbS]) (by first | exact LR.nil | simp only [nbS]) ?_
  simp only [ssH, zdY, zdW, reduceIte, zdX, zd2, zd0, zd1]
  obtain ⟨p1, k1, hs1, hf1⟩ := zco hg
  have hsx : zci p1 <:+ L := (run_sfx j _ _ _ k1).trans hs'
  refine zaN (b := 0) (az := [it ((0 : Nat) : Int)]) rfl rfl (fun m b' hh => h j (by omega) 0 l' p1 m b' (by omega) hs' hs1 hh k1) (zai (L := L)) (by first | exact LR.nil | simp only [nbS]) kq_nb ?_
  rintro v Y ⟨⟨K, S, N, KE, ln⟩, rfl, rfl, hq1⟩
  have hf1 := hf1 _ hq1
  have hwx := wx_exV (.mk K S N KE ln)
  simp only [exV, ssH, zdY, zdW, reduceIte, zdX, zd2, zd0, zd1]
  rcases hf1 with ⟨hbad, rfl⟩ | ⟨hgood, hpp⟩
  ·obtain ⟨t2, l2, rfl⟩ := st_cons k1 hbad
   simp only [zci, badP] at hsx ⊢
   refine zax (b := 0) (az := [bs [41]]) (v := .tup []) rfl rfl (fun m b' hh => zcT hsx hh rfl) (zai (L := L)) zai (by first | exact LR.nil | simp only [nbS]) (by first | exact LR.nil | simp only [nbS]) ?_
   simp only [ssH, zdY, zdW, reduceIte, zdX, zd2, zd0, zd1]
   exact kfin hwx rfl rfl (by rintro e l ⟨⟩)
  ·rw [hgood]
   generalize zci p1 = l2 at hpp hsx
   cases l2 with
   | nil => cases hpp
   | cons t2 l2 =>
    simp only [zbn] at hpp
    cases hm : isS [41] t2
    ·simp only [hm, zd5, if_false, Option.some.injEq] at hpp
     subst hpp
     refine zax (b := 0) (az := [bs [41]]) (v := .tup []) rfl rfl (fun m b' hh => zcT hsx hh (by rw [hm]; rfl)) (zai (L := L)) zai (by first | exact LR.nil | simp only [nbS]) (by first | exact LR.nil | simp only [nbS]) ?_
     simp only [ssH, zdY, zdW, reduceIte, zdX, zd2, zd0, zd1]
     exact kfin hwx rfl rfl (by rintro e l ⟨⟩)
    ·simp only [hm, if_true, Option.some.injEq] at hpp
     subst hpp
     refine zax (b := 0) (az := [bs [41]]) (v := .tup []) rfl rfl (fun m b' hh => kMust_yes hL hsx hh hm) (zai (L := L)) zai (by first | exact LR.nil | simp only [nbS]) (by first | exact LR.nil | simp only [nbS]) ?_
     simp only [ssH, zdY, zdW, reduceIte, zdX, zd2, zd0, zd1]
     exact kfin hwx rfl rfl (by rintro e l ⟨⟩; rfl)
 rw [if_neg h_pa] at hg
 refine zav (b := 0) (az := [bs [40]]) (v := .val (.bool false)) rfl rfl (fun m b' hh => za0 hs hh (by rw [Bool.eq_false_iff.2 h_pa]; rfl)) (zai (L := L)) (by first | exact LR.nil | simp only [nbS]) (by first | exact LR.nil | simp only [nbS]) ?_
 simp only [ssH, zdY, zdW, reduceIte, zdX, zd2, zd0, zd1]
 simp only [Option.some.injEq] at hg
 subst hg
 simp only [b1, ssH, zdY, zdW, reduceIte, zdX, zd2, zd0, zd1]
 exact kfin (hw 0 [] 0 [] .full hf) rfl rfl (by rintro e l ⟨⟩)
end Go.Av.Fn
/- The document's rules all; how deep an expression is. No condition. -/
namespace Go.Av
section
variable {P : Program} {Γ : Glob} {Kp : V → Hl → Prop} {t : List V} {h : Hl}
theorem heval_mm {mx : Bool} {xs : List Operand} {m : Store} : zan P (ev Γ t) m (.mm mx xs) = mmV mx (xs.map (ev Γ t)) := rfl
end
end Go.Av
namespace Go.Av.Fn
set_option linter.unusedSimpArgs false
set_option linter.unusedVariables false
set_option maxRecDepth 10000
open Go.Proofs
theorem rules_ok {Γ : Glob} {L : List Tk} (hL : L.length < 4611686018427387904) : ∀ n, n ≤ 1099511627776 → KEx Γ L n ∧ KUn Γ L n ∧ KSi Γ L n := by
 intro n
 induction n using Nat.strongRecOn with
 | _ n ih =>
  intro hn
  have h : ∀ k < n, KEx Γ L k ∧ KUn Γ L k ∧ KSi Γ L k := fun k hk => ih k hk (by omega)
  exact ⟨kExpr_ok hL fun k hk => ⟨(h k hk).1, (h k hk).2.1⟩, kUnary_ok hL h, kSingle_ok hL hn fun k hk => (h k hk).1⟩
theorem kDepth_ok {Γ : Glob} : ∀ (N : Nat) (e : Ex) (m : Store), zbb e ≤ N → N ≤ 1099511627776 → zae Tryz.prog Γ 155 [exV e] m fun o m' => o = .ret (it (zcf e)) ∧ m' = m
 | 0, e, m, h, _ => by
  obtain ⟨k, s, n, kids, l⟩ := e
  simp only [zbb] at h
  omega
 | N + 1, e, m, h, hN => by
  have hex := nb_exV (k := 0) e
  obtain ⟨k, s, n, kids, l⟩ := e
  simp only [zbb] at h
  have hle := length_sizes kids
  refine zay (zaE mixed F155_ok F155_h zaw (by rw [zcS]; exact ⟨hex, by rw [nbs_nil]; trivial⟩) ?_)
  simp only [F155, exV, ss0, zd3, zdY]
  simp only [ssH, zdY, zdW, reduceIte, zdX, zd2, zd0, zd1]
  have hB : nbB 1 (.var 170 [it k, bs s, it n, .sl (exVs kids) [] .no, it l]) := by
   simp only [nbS]
   exact zdg kids
  have hB1 : ∀ a < 1, ∀ x, lk [some (.var 170 [it k, bs s, it n, .sl (exVs kids) [] .no, it l])] a = some x → nbB 1 x := by
   intro a ha x hx
   have : a = 0 := by omega
   subst this
   cases hx
   exact hB
  refine zdA [1, 3, 4] 22 (fun j vs h => ∃ i : Nat, vs = [.ptr 0 0, it (depths (kids.take i)), it i] ∧ h = [some (.var 170 [it k, bs s, it n, .sl (exVs kids) [] .no, it l])] ∧ i + j = kids.length) kids.length (by decide) (by decide) (zef 1) (zaB rfl (by decide) (by decide) (by simp) (by show nbs 1 [.ptr 0 0, it (0 : Nat), it (0 : Nat)]; simp only [nbS]; decide) hB1 ⟨0, rfl, rfl, by omega⟩) ?_
  rintro j tt hh J hJ hl2 ⟨i, hv, rfl, hij⟩
  simp only [zev, List.cons.injEq, and_true] at hv
  obtain ⟨h1, h3, h4⟩ := hv
  rw [t_eq hl2]
  simp only [zat, upTo, h1, h3, h4, ssH, zdY, zdW, reduceIte, zdX, zd2, zd0, zd1]
  by_cases hlt : i < kids.length
  ·have hget : kids[i]? = some kids[i] := zd7 hlt
   generalize kids[i] = ei at hget
   have hsz : zbb ei ≤ N := by
    have := size_mem (zen hget)
    omega
   have hei := nb_exV (k := 0) ei
   obtain ⟨k2, s2, n2, kids2, l2⟩ := ei
   rw [zc5, show decide ((i : Int) < (kids.length : Int)) = true by simp; omega]
   simp only [idx_ex rfl hget, ssH, zdY, zdW, reduceIte, zdX, zd2, zd0, zd1]
   refine zah (v := it (zcf (.mk k2 s2 n2 kids2 l2))) (by exact fun m => kDepth_ok N (.mk k2 s2 n2 kids2 l2) m hsz (by omega)) (by show nbs 0 [exV (.mk k2 s2 n2 kids2 l2)]; rw [zcS]; exact ⟨hei, by rw [nbs_nil]; trivial⟩) (by first | exact LR.nil | simp only [nbS]) ?_
   simp only [heval_mm, q_mm, mm_max, zas (show i < 4611686018427387904 by omega), ssH, zdY, zdW, reduceIte, zdX, zd2, zd0, zd1]
   refine ⟨_, hJ (j - 1) (zef 1) _ (by omega) (zaB rfl (by decide) (by decide) (by simp) (by simp only [zev, zaa, zab, nbS]; decide) hB1 ⟨i + 1, ?_, rfl, by omega⟩)⟩
   simp only [zev, zaa, zab, List.cons.injEq, and_true, true_and]
   show it _ = it _
   congr 2
   rw [zeh, hget, zdU]
   simp only [Option.toList, depths]
   omega
  ·have hge : i = kids.length := by omega
   have hd := zdm kids
   rw [zc5, show decide ((i : Int) < (kids.length : Int)) = false by simp; omega]
   have hw : IntKind.i64.wrap ((depths (kids.take i) : Int) + 1) = ((zcf (.mk k s n kids l) : Nat) : Int) := by
    rw [hge, List.take_length, wrap_i64 (by omega) (by omega)]
    simp only [zcf]
    omega
   simp only [hw, ssH, zdY, zdW, reduceIte, zdX, zd2, zd0, zd1]
   exact zac zad ⟨(by simp only [zaa, zab, nbS]), rfl⟩
theorem kScan_ok {Γ : Glob} {m : Store} (s : List UInt8) : zae Tryz.prog Γ 152 [bs s] m fun o m' => o = .ret (scanV (zdq s)) ∧ m' = m := by
 refine zae.weak (refScan_ok s) ?_ ?_
 ·rintro v m' ⟨h, rfl⟩
  refine ⟨?_, rfl⟩
  unfold ScanOut at h
  split at h
  ·rename_i l hl
   obtain ⟨tok, h⟩ := h
   cases h
   rw [hl]
   simp only [scanV, weak, zaM, weaks_map weak_tk]
  ·rename_i a e hl
   cases h
   rw [hl]
   simp only [scanV, weak, zaM]
 ·rintro v m' ⟨h, _⟩
  exfalso
  unfold ScanOut at h
  split at h
  ·obtain ⟨_, h⟩ := h
   cases h
  ·cases h
end Go.Av.Fn
/- A text's expression by the document. No condition. -/
namespace Go.Av
section
variable {P : Program} {Γ : Glob} {H : Nat → List (Nat × List Nat) × List Nat} {f : FuncId} {F : AFn} {gs : List Nat} {m : Store}
theorem acalls_pw (hm : P.follows .mixedOrders = true) (hF : zao P H f = some F) (hok : F.body.okH gs = true) (hG : GOk Γ gs) {args : List V} (ha : nbs 0 args) {Qv : V → Prop}
  (h : hawp P Γ (fun _ _ => False) 0 F.body (bodyH F.res fun v _ => nb 0 (weak v) ∧ Qv (weak v)) ⟨start F.ntmps args, []⟩) : zae P Γ f args m fun o m' => (∃ v, o = .ret v ∧ Qv v) ∧ m' = m := by
 have h1 := acalls_h (P := P) (Γ := Γ) (R0 := fun _ _ => False) (N := 0) (m := fun _ => none) hm hF hok hG (ha.up _) (hh_nil _ (fun _ _ q => q) _) (fun _ _ q => q.elim) (Q := fun o h => match o with | .ret v => nb 0 (weak v) ∧ Qv (weak v) | .pan _ => False) h
 have hD : Disj (fun _ => none) m := fun b => .inl rfl
 have e : Store.or (fun _ => none) m = m := by funext b; rfl
 have h2 := h1.frame hD
 rw [e] at h2
 refine zae.weak (R := fun o m' => (∃ v, o = .ret v ∧ Qv (weak v)) ∧ m' = m) (zae.less h2 ?_) ?_ ?_
 ·rintro o m'' ⟨m', rfl, d, S, o0, h', s1, s2, s3, s4⟩
  refine ⟨m, ?_, ?_, rfl⟩
  ·intro b x hb
   rcases d b with q | q
   ·simp only [Store.or, q]; exact hb
   ·rw [q] at hb; cases hb
  ·cases o0 with
   | ret v =>
    cases o with
    | ret v' =>
     have e3 : weak v' = weak v := nb_eq s4.1 (VR.wk s3)
     exact ⟨v', rfl, by rw [e3]; exact s4.2⟩
    | pan v' => exact s3.elim
   | pan v => exact s4.elim
 ·rintro v m' ⟨⟨v', e9, q⟩, h9⟩
  cases e9
  exact ⟨⟨_, rfl, q⟩, h9⟩
 ·rintro v m' ⟨⟨v', e9, q⟩, _⟩
  cases e9
end
end Go.Av
namespace Go.Av.Fn
set_option linter.unusedSimpArgs false
set_option linter.unusedVariables false
set_option maxRecDepth 10000
open Go.Proofs
theorem nb_scanV {k : Nat} (r : Except (Nat × Int) (List Tk)) : nb k (scanV r) := by
 cases r with
 | ok l =>
  simp only [scanV, nbS]
  exact zc0 (fun t => zdh t) l
 | error x =>
  obtain ⟨a, e⟩ := x
  simp only [scanV, nbS]
theorem triV_none {a e : Int} : weak (.tup [.agg zX, it a, it e]) = triV (none, a, e) := by
 simp only [weak, zaM, triV, exO, exV, exVs, zX, bs]
theorem nb_triV {k : Nat} (r : Option Ex × Int × Int) : nb k (triV r) := by
 obtain ⟨x, a, e⟩ := r
 cases x with
 | none =>
  simp only [triV, exO, nbS]
  exact nb_exV _
 | some g =>
  simp only [triV, exO, nbS]
  exact nb_exV _
theorem rd0 (L : List Tk) : Blk.var 199 [.sl (L.map tkV) [] .no, it 0, .val (.bool false)] = rdS L L false := by
 simp [rdS, rdR]
theorem efin {s : List UInt8} {t : List V} {h : Hl} {v : V} {rs : List ARes} (hv : resV rs ⟨t, lk h⟩ = some v) (e : weak v = triV (zcm s)) : bodyH rs (fun v _ => nb 0 (weak v) ∧ weak v = triV (zcm s)) .ret ⟨t, h⟩ :=
 zac hv ⟨by rw [e]; exact nb_triV _, e⟩
theorem rExpr_ok {Γ : Glob} {m : Store} (s : List UInt8) : zae Tryz.prog Γ 130 [bs s] m fun o m' => o = .ret (triV (zcm s)) ∧ m' = m := by
 refine zay (acalls_pw mixed F130_ok F130_h zaw (by first | exact LR.nil | simp only [nbS]) ?_)
 simp only [F130, ss0, zd3, zdY]
 simp only [ssH, zdY, zdW, reduceIte, zdX, zd2, zd0, zd1]
 refine zah (v := scanV (zdq s)) (by exact fun m => kScan_ok s) (by first | exact LR.nil | simp only [nbS]) (nb_scanV _) ?_
 cases hsc : zdq s with
 | error x =>
  obtain ⟨a, e⟩ := x
  have hne := scanR_ne hsc
  have hE : zcm s = (none, (a : Int), e) := by
   simp [zcm, zcy, hsc, hne]
  have hb : (e != 0) = true := by simpa using hne
  simp only [scanV, ssH, zdY, zdW, reduceIte, zdX, zd2, zd0, zd1]
  simp only [hb, ssH, zdY, zdW, reduceIte, zdX, zd2, zd0, zd1]
  refine efin (v := .tup [.agg zX, it a, it e]) rfl (by rw [hE]; exact triV_none)
 | ok L =>
  simp only [scanV, ssH, zdY, zdW, reduceIte, zdX, zd2, zd0, zd1]
  rw [rd0]
  obtain ⟨p, hp, hsg, hfit⟩ := run_expr (scanR_good hsc)
  have hlen := scanR_len hsc
  refine zaN (b := 1) (az := [it ((0 : Nat) : Int)]) rfl rfl (fun m b' hh => (rules_ok (Γ := Γ) (L := L) (by omega) (10 * L.length + 9) (by omega)).1 0 L p m b' (by omega) zey hsg hh hp) zai (by first | exact LR.nil | simp only [nbS]) kq_nb ?_
  rintro v Y ⟨⟨k, s', nn, kids, ln⟩, rfl, rfl, hq⟩
  have hsx : zci p <:+ L := run_sfx _ _ _ _ hp
  cases p with
  | st l1 =>
   obtain ⟨tk, l2, rfl⟩ := hfit.1.ne
   simp only [zci, badP] at hsx ⊢
   have hE : zcm s = (none, tk.a, 6) := by
    simp [zcm, zcy, hsc, readT, hp]
   simp only [exV, rdS, rdR, ssH, zdY, zdW, reduceIte, zdX, zd2, zd0, zd1]
   refine zav (b := 1) (az := []) rfl rfl (fun m b' hh => zc4 hsx hh) (zai (L := L)) (by first | exact LR.nil | simp only [nbS]) (zdh tk) ?_
   simp only [tkV, ssH, zdY, zdW, reduceIte, zdX, zd2, zd0, zd1]
   refine efin (v := .tup [.agg zX, it tk.a, it 6]) rfl (by rw [hE]; exact triV_none)
  | ok es l1 =>
   obtain ⟨tk, l2, rfl⟩ := hfit.1.ne
   obtain ⟨e, rfl⟩ := hsg
   have he : Ex.mk k s' nn kids ln = e := hq _ _ rfl
   subst he
   simp only [zci, badP] at hsx ⊢
   simp only [exV, rdS, rdR, ssH, zdY, zdW, reduceIte, zdX, zd2, zd0, zd1]
   refine zav (b := 1) (az := []) rfl rfl (fun m b' hh => zc4 hsx hh) (zai (L := L)) (by first | exact LR.nil | simp only [nbS]) (zdh tk) ?_
   simp only [tkV, ssH, zdY, zdW, reduceIte, zdX, zd2, zd0, zd1]
   by_cases hk : tk.k = 0
   ·have hR : zcy s = (some (.mk k s' nn kids ln), 0, 0) := by
     simp [zcy, hsc, readT, hp, hk]
    have hsz := readS_size hR
    simp only [hk, ssH, zdY, zdW, reduceIte, zdX, zd2, zd0, zd1]
    refine zah (v := it (zcf (.mk k s' nn kids ln))) (by exact fun m => kDepth_ok 4097 (.mk k s' nn kids ln) m hsz (by omega)) (by show nbs 0 [exV (.mk k s' nn kids ln)]; rw [zcS]; exact ⟨nb_exV _, by rw [nbs_nil]; trivial⟩) (by first | exact LR.nil | simp only [nbS]) ?_
    simp only [ssH, zdY, zdW, reduceIte, zdX, zd2, zd0, zd1]
    by_cases hd : zcf (.mk k s' nn kids ln) > 24
    ·have hE : zcm s = (none, 0, 7) := by
      simp [zcm, hR, hd]
     rw [show decide ((24 : Int) < (zcf (.mk k s' nn kids ln) : Int)) = true by simp; omega]
     simp only [ssH, zdY, zdW, reduceIte, zdX, zd2, zd0, zd1]
     refine efin (v := .tup [.agg zX, it 0, it 7]) rfl (by rw [hE]; exact triV_none)
    ·have hE : zcm s = (some (.mk k s' nn kids ln), 0, 0) := by
      simp [zcm, hR, hd]
     rw [show decide ((24 : Int) < (zcf (.mk k s' nn kids ln) : Int)) = false by simp; omega]
     simp only [ssH, zdY, zdW, reduceIte, zdX, zd2, zd0, zd1]
     refine efin (v := .tup [exV (.mk k s' nn kids ln), it 0, it 0]) rfl (by rw [hE]; simp only [weak, zaM, triV, exO, zcM])
   ·have hE : zcm s = (none, tk.a, 6) := by
     simp [zcm, zcy, hsc, readT, hp, hk]
    have hb : (tk.k != 0) = true := by simpa using hk
    simp only [hb, ssH, zdY, zdW, reduceIte, zdX, zd2, zd0, zd1]
    refine zav (b := 1) (az := []) rfl rfl (fun m b' hh => zc4 hsx hh) (zai (L := L)) (by first | exact LR.nil | simp only [nbS]) (zdh tk) ?_
    simp only [tkV, ssH, zdY, zdW, reduceIte, zdX, zd2, zd0, zd1]
    refine efin (v := .tup [.agg zX, it tk.a, it 6]) rfl (by rw [hE]; exact triV_none)
end Go.Av.Fn
/- Commands printed are parsed as they were; what is parsed is printed as it stood: plain laws. No condition. -/
namespace Go.Av.Fn
set_option linter.unusedSimpArgs false
set_option linter.unusedVariables false
open Go.Lib
/-! ### Cuts -/
/-! ### Forms -/
theorem forms_len : forms.length = 18 := rfl
/-! ### What is parsed -/
theorem right_form {k n : Int} {t : List UInt8} (h : zaU k n t = true) : zaV k ≠ za4 ∧ ((zaV k).n = false → n = 0) ∧ ((zaV k).s = false → t = []) ∧ 0 ≤ n ∧ n ≤ 4294967296 := by
 have hl := right_len h
 unfold zaU at h
 split at h
 ·cases h
 ·rename_i hc
  simp only [Bool.or_eq_true, zd6, decide_eq_true_eq, Bool.not_eq_true', bne_iff_ne, not_or, not_and, Bool.not_eq_false, beq_eq_false_iff_ne] at hc
  obtain ⟨⟨⟨⟨c1, c2⟩, c3⟩, c4⟩, c5⟩ := hc
  refine ⟨c1, fun hn => ?_, fun hs => ?_, hl.2.1, hl.2.2⟩
  ·have := c2 hn
   simpa using this
  ·have := c3 hs
   simpa using this
theorem form_range {k : Int} (h : zaV k ≠ za4) : ∃ j : Nat, k = j ∧ 1 ≤ j ∧ j < 18 := by
 unfold zaV at h
 split at h
 ·exact absurd rfl h
 ·rename_i hk
  cases hg : forms[k.toNat]? with
  | none => rw [hg] at h; exact absurd rfl h
  | some f =>
   have hlt := (List.getElem?_eq_some_iff.1 hg).1
   rw [forms_len] at hlt
   refine ⟨k.toNat, by omega, ?_, hlt⟩
   by_cases e : k.toNat = 0
   ·rw [hg] at h
    rw [e] at hg
    cases hg
    exact absurd rfl h
   ·omega
end Go.Av.Fn
/- A command that is printed is parsed as it was; what is parsed is printed as it stood: the statement's function, walked. Conditions as ahead; numbers are written. -/
namespace Go.Av.Fn
set_option linter.unusedSimpArgs false
set_option linter.unusedVariables false
set_option maxRecDepth 10000
open Go.Proofs
theorem fin6 {t : List V} {h : Hl} {i : Nat} (ht : tget t i = .val (.bool true)) : bodyH [ARes.tmp i] (fun v _ => nb 0 v ∧ v = .val (.bool true)) .ret ⟨t, h⟩ :=
 zac zad ⟨by rw [show (⟨t, lk h⟩ : St).t = t from rfl, ht]; exact .val _, ht⟩
theorem cmd_neq (xo yo : Operand) (k n k' n' : Int) (s s' : List UInt8) : binV Tryz.prog .neq 24 .other xo yo (.agg [it k, it n, bs s]) (.agg [it k', it n', bs s']) = some (.val (.bool (!decide (k = k' ∧ n = n' ∧ s = s')))) := by
 have h := (struct_eq (P := Tryz.prog) (T := 24) (xo := xo) (yo := yo) (cs := [it k, it n, bs s]) (cs' := [it k', it n', bs s'])
  (xs := [.int .i64 k, .int .i64 n, .string ⟨s.toArray⟩]) (ys := [.int .i64 k', .int .i64 n', .string ⟨s'.toArray⟩])
  (r := (k == k' && (n == n' && ((ByteArray.mk s.toArray).toList == (ByteArray.mk s'.toArray).toList && true))))
  (by kernel_rfl) (by kernel_rfl) (by kernel_rfl) rfl rfl (by kernel_rfl)).2
 have e : (k == k' && (n == n' && ((ByteArray.mk s.toArray).toList == (ByteArray.mk s'.toArray).toList && true))) = decide (k = k' ∧ n = n' ∧ s = s') := by
  rw [zbZ, zbZ, zeB]
  simp
 rw [e] at h
 exact h
theorem nbs_c1 (a b : Int) (c : List UInt8) : nbs 0 [.agg [it a, it b, bs c]] := nbs_cmd1 a b c
def fitsB (k n : Int) (s : List UInt8) : Bool := decide (zaV k ≠ za4) && ((zaV k).n || n == 0) && ((zaV k).s || s == [])
theorem zdD {P : Program} {T : TypeId} {xo yo : Operand} {s : List UInt8} : binV P .eql T .other xo yo (bs s) (.val (.string (ByteArray.mk #[]))) = some (.val (.bool (s == []))) := bin_beql (x := s) (y := [])
theorem bs_ne0 {P : Program} {T : TypeId} {xo yo : Operand} {s : List UInt8} : binV P .neq T .other xo yo (bs s) (.val (.string (ByteArray.mk #[]))) = some (.val (.bool (!(s == [])))) := bin_bneq (x := s) (y := [])
theorem nbs_cmdV (k n : Int) (s : List UInt8) : nbs 0 [cmdV k n s] := by
 simp only [nb_cmdV, nbS]
section
variable {Γ : Glob} {m : Store}
theorem kWritten_ok (s : List UInt8) : zae Tryz.prog Γ 106 [bs s] m fun o m' => o = .ret (.val (.bool (zbC s))) ∧ m' = m := by
 refine zay (zaE mixed F106_ok F106_h zaw (by first | exact LR.nil | simp only [nbS]) ?_)
 simp only [F106, ss0, zd3, zdY]
 simp only [ssH, zdY, zdW, reduceIte, zdX, zd2, zd0, zd1]
 refine zah (by exact fun m => rExpr_ok s) (by first | exact LR.nil | simp only [nbS]) (nb_triV _) ?_
 obtain ⟨k, s', nn, kids, ln, he⟩ : ∃ k s' nn kids ln, exO (zcm s).1 = exV (.mk k s' nn kids ln) := by
  cases (zcm s).1 with
  | none => exact ⟨0, [], 0, [], 0, rfl⟩
  | some e =>
   obtain ⟨k, s', nn, kids, ln⟩ := e
   exact ⟨k, s', nn, kids, ln, rfl⟩
 simp only [triV, he, exV, ssH, zdY, zdW, reduceIte, zdX, zd2, zd0, zd1]
 cases h0 : ((zcm s).2.2 == 0)
 ·simp only [ssH, zdY, zdW, reduceIte, zdX, zd2, zd0, zd1]
  exact zac zad ⟨(by simp only [zaa, zab, nbS]), by simp [tget, zbC, h0]; try omega⟩
 ·simp only [ssH, zdY, zdW, reduceIte, zdX, zd2, zd0, zd1]
  exact zac zad ⟨(by simp only [zaa, zab, nbS]), by simp [tget, zbC, h0]; try omega⟩
theorem kFits_ok (k n : Int) (s : List UInt8) : zae Tryz.prog Γ 105 [cmdV k n s] m fun o m' => o = .ret (.val (.bool (fitsB k n s))) ∧ m' = m := by
 refine zay (zaE mixed F105_ok F105_h zaw (nbs_cmdV _ _ _) ?_)
 simp only [F105, cmdV, ss0, zd3, zdY]
 simp only [ssH, zdY, zdW, reduceIte, zdX, zd2, zd0, zd1]
 by_cases hk : 1 ≤ k ∧ k ≤ 17
 ·have : k = 1 ∨ k = 2 ∨ k = 3 ∨ k = 4 ∨ k = 5 ∨ k = 6 ∨ k = 7 ∨ k = 8 ∨ k = 9 ∨ k = 10 ∨ k = 11 ∨ k = 12 ∨ k = 13 ∨ k = 14 ∨ k = 15 ∨ k = 16 ∨ k = 17 := by omega
  rcases this with rfl | rfl | rfl | rfl | rfl | rfl | rfl | rfl | rfl | rfl | rfl | rfl | rfl | rfl | rfl | rfl | rfl
  all_goals
   simp only [ge_iff_le, gt_iff_lt, Int.reduceLE, Int.reduceLT, decide_true, decide_false, zdD, ssH, zdY, zdW, reduceIte, zdX, zd2, zd0, zd1]
   first
    | exact zac zad ⟨(by simp only [zaa, zab, nbS]), by simp [tget, fitsB, zaV, forms, za4]⟩
    | (cases hn : (n == 0) <;> simp only [zdD, ssH, zdY, zdW, reduceIte, zdX, zd2, zd0, zd1] <;> exact zac zad ⟨(by simp only [zaa, zab, nbS]), by simp [tget, fitsB, zaV, forms, za4, hn]⟩)
 ·have hno : zaV k = za4 := by
   by_cases e : zaV k = za4
   ·exact e
   ·obtain ⟨j, rfl, h1, h2⟩ := form_range e
    omega
  have hq : ∀ c : Int, 1 ≤ c → c ≤ 17 → (k == c) = false := by
   intro c h1 h2
   have : k ≠ c := by omega
   simpa using this
  rcases (show k < 1 ∨ 17 < k by omega) with h | h
  ·simp only [ge_iff_le, gt_iff_lt, show decide (1 ≤ k) = false by simp; omega, show decide (12 ≤ k) = false by simp; omega, hq 15 (by decide) (by decide), hq 16 (by decide) (by decide), hq 9 (by decide) (by decide), hq 11 (by decide) (by decide), hq 17 (by decide) (by decide), hq 10 (by decide) (by decide), ssH, zdY, zdW, reduceIte, zdX, zd2, zd0, zd1]
   exact zac zad ⟨(by simp only [zaa, zab, nbS]), by simp [tget, fitsB, hno]⟩
  ·simp only [ge_iff_le, gt_iff_lt, show decide (1 ≤ k) = true by simp; omega, show decide (12 ≤ k) = true by simp; omega, show decide (k ≤ 8) = false by simp; omega, show decide (k ≤ 14) = false by simp; omega, hq 15 (by decide) (by decide), hq 16 (by decide) (by decide), hq 9 (by decide) (by decide), hq 11 (by decide) (by decide), hq 17 (by decide) (by decide), hq 10 (by decide) (by decide), ssH, zdY, zdW, reduceIte, zdX, zd2, zd0, zd1]
   exact zac zad ⟨(by simp only [zaa, zab, nbS]), by simp [tget, fitsB, hno]⟩
end
end Go.Av.Fn
/- A number's digits by the document. No condition. -/
namespace Go.Av.Fn
set_option linter.unusedSimpArgs false
set_option linter.unusedVariables false
set_option maxRecDepth 10000
open Go.Proofs Go.Lib
end Go.Av.Fn
/- Whether a command is right by the document. No condition. -/
namespace Go.Av.Fn
set_option linter.unusedSimpArgs false
set_option linter.unusedVariables false
set_option maxRecDepth 10000
open Go.Proofs Go.Lib
theorem fits_right {k n : Int} {s : List UInt8} (h : zaU k n s = true) : fitsB k n s = true := by
  obtain ⟨h1, h2, h3, _, _⟩ := right_form h
  unfold fitsB
  cases a : (zaV k).n <;> cases b : (zaV k).s <;> simp [h1] <;> first | exact ⟨h2 a, h3 b⟩ | exact h2 a | exact h3 b | skip
theorem fits_range {k n : Int} {s : List UInt8} (h : fitsB k n s = true) : k = 1 ∨ k = 2 ∨ k = 3 ∨ k = 4 ∨ k = 5 ∨ k = 6 ∨ k = 7 ∨ k = 8 ∨ k = 9 ∨ k = 10 ∨ k = 11 ∨ k = 12 ∨ k = 13 ∨ k = 14 ∨ k = 15 ∨ k = 16 ∨ k = 17 := by
  unfold fitsB at h
  simp only [zd6, decide_eq_true_eq] at h
  obtain ⟨j, rfl, h1, h2⟩ := form_range h.1.1
  omega
section
variable {Γ : Glob} {m : Store}
theorem rfin {b : Bool} {k n : Int} {s : List UInt8} {t : List V} {h : Hl} (ht : tget t 2 = .val (.bool b)) (e : zaU k n s = b) : bodyH [ARes.tmp 2] (fun v _ => nb 0 v ∧ v = .val (.bool (zaU k n s))) .ret ⟨t, h⟩ :=
  zac zad ⟨by rw [show (⟨t, lk h⟩ : St).t = t from rfl, ht]; exact .val _, by rw [show (⟨t, lk h⟩ : St).t = t from rfl, ht, e]⟩
theorem kRight_ok (k n : Int) (s : List UInt8) : zae Tryz.prog Γ 63 [cmdV k n s] m fun o m' => o = .ret (.val (.bool (zaU k n s))) ∧ m' = m := by
  refine zay (zaE mixed F63_ok F63_h zaw (nbs_cmdV _ _ _) ?_)
  simp only [F63, cmdV, ss0, zd3, zdY]
  simp only [ssH, zdY, zdW, reduceIte, zdX, zd2, zd0, zd1]
  refine zah (v := .val (.bool (fitsB k n s))) (by exact fun m => kFits_ok k n s) (nbs_c1 _ _ _) (by first | exact LR.nil | simp only [nbS]) ?_
  cases hf : fitsB k n s
  · simp only [ssH, zdY, zdW, reduceIte, zdX, zd2, zd0, zd1]
    refine rfin rfl ?_
    cases hr : zaU k n s
    · rfl
    · rw [fits_right hr] at hf
      cases hf
  · by_cases hn : 0 ≤ n ∧ n ≤ 4294967296
    · obtain ⟨hn1, hn2⟩ := hn
      simp only [gt_iff_lt, show decide (n < 0) = false by simp; omega, show decide (4294967296 < n) = false by simp; omega, ssH, zdY, zdW, reduceIte, zdX, zd2, zd0, zd1]
      rcases fits_range hf with rfl | rfl | rfl | rfl | rfl | rfl | rfl | rfl | rfl | rfl | rfl | rfl | rfl | rfl | rfl | rfl | rfl
      all_goals simp only [fitsB, zaV, forms, za4] at hf
      all_goals simp at hf
      all_goals simp only [ge_iff_le, gt_iff_lt, zdD, ssH, zdY, zdW, reduceIte, zdX, zd2, zd0, zd1]
      all_goals first
        | (have hh : n = 0 ∧ s = [] := hf
           obtain ⟨rfl, rfl⟩ := hh
           exact rfin rfl (by simp [zaU, zaV, forms, za4]))
        | (have hv : zaU 9 n s = true := by (simp [zaU, zaV, forms, za4, hf]; omega)
           exact rfin rfl hv)
        | (subst hf
           refine zah (v := .val (.bool (zbC s))) (by exact fun m => kWritten_ok s) (by first | exact LR.nil | simp only [nbS]) (by first | exact LR.nil | simp only [nbS]) ?_
           simp only [ssH, zdY, zdW, reduceIte, zdX, zd2, zd0, zd1]
           exact rfin rfl (by simp [zaU, zaV, forms, za4]))
        | (subst hf
           by_cases h1 : 1 ≤ n
           · exact rfin (b := true) (by simp [tget, h1]) (by simp [zaU, zaV, forms, za4]; omega)
           · exact rfin (b := false) (by simp [tget, h1]) (by simp [zaU, zaV, forms, za4]; omega))
        | skip
      by_cases h1 : 1 ≤ n
      · rw [show decide (1 ≤ n) = true by simp [h1]]
        simp only [zdD, ssH, zdY, zdW, reduceIte, zdX, zd2, zd0, zd1]
        cases hs : (s == [])
        · simp only [ssH, zdY, zdW, reduceIte, zdX, zd2, zd0, zd1]
          refine zah (v := .val (.bool (zbC s))) (by exact fun m => kWritten_ok s) (by first | exact LR.nil | simp only [nbS]) (by first | exact LR.nil | simp only [nbS]) ?_
          simp only [ssH, zdY, zdW, reduceIte, zdX, zd2, zd0, zd1]
          exact rfin rfl (by simp only [zaU, zaV, forms, za4]; simp [hs]; omega)
        · simp only [ssH, zdY, zdW, reduceIte, zdX, zd2, zd0, zd1]
          exact rfin rfl (by simp only [zaU, zaV, forms, za4]; simp [hs]; omega)
      · rw [show decide (1 ≤ n) = false by simp [h1]]
        simp only [ssH, zdY, zdW, reduceIte, zdX, zd2, zd0, zd1]
        exact rfin rfl (by simp only [zaU, zaV, forms, za4]; simp; omega)
    · have hr : zaU k n s = false := by
        cases hr : zaU k n s
        · rfl
        · obtain ⟨_, _, _, h1, h2⟩ := right_form hr
          exact absurd ⟨h1, h2⟩ hn
      by_cases h0 : n < 0
      · simp only [gt_iff_lt, show decide (n < 0) = true by simp [h0], ssH, zdY, zdW, reduceIte, zdX, zd2, zd0, zd1]
        exact rfin rfl hr
      · simp only [gt_iff_lt, show decide (n < 0) = false by simp; omega, show decide (4294967296 < n) = true by simp; omega, ssH, zdY, zdW, reduceIte, zdX, zd2, zd0, zd1]
        exact rfin rfl hr
end
section
variable {Γ : Glob} {m : Store}
end
end Go.Av.Fn
/- Any command is right or not, and has the text that the document says: the statement's function, walked. Conditions az ahead; numbers are written. -/
namespace Go.Av.Fn
set_option linter.unusedSimpArgs false
set_option linter.unusedVariables false
set_option maxRecDepth 10000
open Go.Proofs
end Go.Av.Fn
/- An entry's parts: clients, names. Conditions: az ahead. -/
namespace Go.Av.Fn
set_option linter.unusedSimpArgs false
set_option linter.unusedVariables false
set_option maxRecDepth 10000
open Go.Proofs
def zb4 (n : Int) : Bool := decide (1 ≤ n) && decide (n ≤ 2147483647)
section
variable {Γ : Glob} {m : Store}
theorem client_ok (n : Int) : zae Tryz.prog Γ 118 [it n] m fun o m' => o = .ret (.val (.bool (zb4 n))) ∧ m' = m := by
 refine zay (zaE mixed F118_ok F118_h zaw (by first | exact LR.nil | simp only [nbS]) ?_)
 simp only [F118, ss0, zd3, zdY]
 simp only [ge_iff_le, ssH, zdY, zdW, reduceIte, zdX, zd2, zd0, zd1]
 cases h : decide (1 ≤ n)
 ·simp only [h, ssH, zdY, zdW, reduceIte, zdX, zd2, zd0, zd1]
  exact zac zad ⟨(by simp only [zaa, zab, nbS]), by simp only [zb4, h]; rfl⟩
 ·simp only [h, ssH, zdY, zdW, reduceIte, zdX, zd2, zd0, zd1]
  exact zac zad ⟨(by simp only [zaa, zab, nbS]), by simp only [zb4, h]; rfl⟩
def nameB (s : List UInt8) : Bool := !(s == []) && decide (s.length ≤ 20) && !(dig (s.headD 0)) && !(zaP.contains s) && decide ((s.takeWhile fun b => let8 b || dig b).length = s.length)
theorem lname1_ok (b : UInt8) : zae Tryz.prog Γ 186 [by8 b] m fun o m' => o = .ret (.val (.bool (let8 b || dig b))) ∧ m' = m := by
 refine zay (zaE mixed F186_ok F186_h zaw (by first | exact LR.nil | simp only [nbS]) ?_)
 simp only [F186, ss0, zd3, zdY]
 simp only [ssH, zdY, zdW, reduceIte, zdX, zd2, zd0, zd1]
 refine zah (by exact fun m => letter_ok b) (by first | exact LR.nil | simp only [nbS]) (by first | exact LR.nil | simp only [nbS]) ?_
 cases h : let8 b
 ·simp only [ssH, zdY, zdW, reduceIte, zdX, zd2, zd0, zd1]
  refine zah (by exact fun m => digit_ok b) (by first | exact LR.nil | simp only [nbS]) (by first | exact LR.nil | simp only [nbS]) ?_
  simp only [ssH, zdY, zdW, reduceIte, zdX, zd2, zd0, zd1]
  exact zac zad ⟨(by simp only [zaa, zab, nbS]), by simp [tget]⟩
 ·simp only [ssH, zdY, zdW, reduceIte, zdX, zd2, zd0, zd1]
  exact zac zad ⟨(by simp only [zaa, zab, nbS]), by simp [tget]⟩
theorem lname_ok (hw : Γ 3 = some (zaP.map bs)) (s : List UInt8) : zae Tryz.prog Γ 156 [bs s] m fun o m' => o = .ret (.val (.bool (nameB s))) ∧ m' = m := by
 refine zay (zaE mixed F156_ok F156_h zaw (by first | exact LR.nil | simp only [nbS]) ?_)
 simp only [F156, ss0, zd3, zdY]
 simp only [bs_ne0, ssH, zdY, zdW, reduceIte, zdX, zd2, zd0, zd1]
 cases s with
 | nil =>
  have h0 : (([] : List UInt8) == []) = true := rfl
  have hn : nameB [] = false := rfl
  simp only [h0, zd9, hn, ssH, zdY, zdW, reduceIte, zdX, zd2, zd0, zd1]
  exact zac zad ⟨(by simp only [zaa, zab, nbS]), rfl⟩
 | cons b r =>
  have h0 : ((b :: r) == []) = false := rfl
  have hx : idxStrV (bs (b :: r)) (.val (.int .i64 0)) = some (by8 b) := zbE (i := 0) rfl
  by_cases hl : (b :: r).length ≤ 20
  ·have hd : decide (((r.length + 1 : Nat) : Int) ≤ 20) = true := by
    simp only [zd4] at hl
    simp
    omega
   have hl2 : decide ((b :: r).length ≤ 20) = true := by simpa using hl
   simp only [h0, zd8, hd, hx, ssH, zdY, zdW, reduceIte, zdX, zd2, zd0, zd1]
   refine zah (by exact fun m => digit_ok b) (by first | exact LR.nil | simp only [nbS]) (by first | exact LR.nil | simp only [nbS]) ?_
   cases h1 : dig b
   ·simp only [ssH, zdY, zdW, reduceIte, zdX, zd2, zd0, zd1]
    refine zah (by exact fun m => Word_ok hw (b :: r)) (by first | exact LR.nil | simp only [nbS]) (by first | exact LR.nil | simp only [nbS]) ?_
    cases h2 : zaP.contains (b :: r)
    ·simp only [ssH, zdY, zdW, reduceIte, zdX, zd2, zd0, zd1]
     refine zah (by exact fun m => row_ok (b :: r) (by omega) (p := fun b => let8 b || dig b) (fun b => lname1_ok b)) (by first | exact LR.nil | simp only [nbS]) (by first | exact LR.nil | simp only [nbS]) ?_
     simp only [ssH, zdY, zdW, reduceIte, zdX, zd2, zd0, zd1]
     refine zac zad ⟨(by simp only [zaa, zab, nbS]), ?_⟩
     have e : (((((b :: r).takeWhile fun b => let8 b || dig b).length : Nat) : Int) == ((r.length + 1 : Nat) : Int)) = nameB (b :: r) := by
      simp only [nameB, h0, hl2, List.headD_cons, h1, h2, zd8, zeH]
      rw [zeB, beq_iff_eq, decide_eq_true_eq, zd4]
      omega
     exact congrArg (fun b => V.val (.bool b)) e
    ·simp only [ssH, zdY, zdW, reduceIte, zdX, zd2, zd0, zd1]
     exact zac zad ⟨(by simp only [zaa, zab, nbS]), by simp only [zaa, zab, nameB, h0, hl2, List.headD_cons, h1, h2]; rfl⟩
   ·simp only [ssH, zdY, zdW, reduceIte, zdX, zd2, zd0, zd1]
    exact zac zad ⟨(by simp only [zaa, zab, nbS]), by simp only [zaa, zab, nameB, h0, hl2, List.headD_cons, h1]; rfl⟩
  ·have hd : decide (((r.length + 1 : Nat) : Int) ≤ 20) = false := by
    simp only [zd4] at hl
    simp
    omega
   have hl2 : decide ((b :: r).length ≤ 20) = false := by simpa using hl
   simp only [h0, zd8, hd, ssH, zdY, zdW, reduceIte, zdX, zd2, zd0, zd1]
   exact zac zad ⟨(by simp only [zaa, zab, nbS]), by simp only [zaa, zab, nameB, h0, hl2]; rfl⟩
end
section
variable {Γ : Glob} {m : Store}
theorem lTextName_ok (hw : Γ 3 = some (zaP.map bs)) (s : List UInt8) : zae Tryz.prog Γ 133 [.agg [it 1, bs s, it 0, it 0, it 0]] m fun o m' => o = .ret (.tup [bs (if nameB s = true then s else []), it (if nameB s = true then 0 else 2)]) ∧ m' = m := by
 refine zay (zaE mixed F133_ok F133_h zaw (by first | exact LR.nil | simp only [nbS]) ?_)
 simp only [F133, ss0, zd3, zdY]
 simp only [ssH, zdY, zdW, reduceIte, zdX, zd2, zd0, zd1]
 refine zah (by exact fun m => lname_ok hw s) (by first | exact LR.nil | simp only [nbS]) (by first | exact LR.nil | simp only [nbS]) ?_
 cases h : nameB s
 ·simp only [zd5, if_false, ssH, zdY, zdW, reduceIte, zdX, zd2, zd0, zd1]
  exact zac resV_two ⟨(by simp only [zaa, zab, nbS]), rfl⟩
 ·simp only [if_true, ssH, zdY, zdW, reduceIte, zdX, zd2, zd0, zd1]
  exact zac resV_two ⟨(by simp only [zaa, zab, nbS]), rfl⟩
theorem oName_ok (hw : Γ 3 = some (zaP.map bs)) (s : List UInt8) : zae Tryz.prog Γ 119 [bs s] m fun o m' => o = .ret (.val (.bool (nameB s))) ∧ m' = m := by
 refine zay (zaE mixed F119_ok F119_h zaw (by first | exact LR.nil | simp only [nbS]) ?_)
 simp only [F119, ss0, zd3, zdY]
 simp only [ssH, zdY, zdW, reduceIte, zdX, zd2, zd0, zd1]
 refine zah (by exact fun m => lTextName_ok hw s) (by first | exact LR.nil | simp only [nbS]) (by first | exact LR.nil | simp only [nbS]) ?_
 cases h : nameB s
 ·simp only [zd5, if_false, ssH, zdY, zdW, reduceIte, zdX, zd2, zd0, zd1]
  exact zac zad ⟨(by simp only [zaa, zab, nbS]), rfl⟩
 ·simp only [if_true, ssH, zdY, zdW, reduceIte, zdX, zd2, zd0, zd1]
  exact zac zad ⟨(by simp only [zaa, zab, nbS]), rfl⟩
end
theorem zdn (xo yo : Operand) (k n : Int) (s : List UInt8) : binV Tryz.prog .neq 24 .other xo yo (.agg [it k, it n, bs s]) (.agg [.val (.int .i64 0), .val (.int .i64 0), .val (.string (ByteArray.mk #[]))]) = some (.val (.bool (!decide (k = 0 ∧ n = 0 ∧ s = [])))) := cmd_neq xo yo k n 0 0 s []
structure Ent where
 c : Int
 q : Int
 k : Int
 n : Int
 s : List UInt8
 ck : Int
 cn : Int
 cs : List UInt8
 deriving DecidableEq
def entV (e : Ent) : V := .agg [it e.c, it e.q, it e.k, it e.n, bs e.s, it e.ck, it e.cn, bs e.cs]
def noCmd (e : Ent) : Bool := decide (e.ck = 0 ∧ e.cn = 0 ∧ e.cs = [])
def entB (e : Ent) : Bool := zb4 e.c && zb4 e.q &&
 (if e.k = 1 then nameB e.s && (e.n == 0 || e.n == 1) && noCmd e
 else if e.k = 4 then e.s == [] && zb4 e.n && noCmd e
 else if e.k = 2 ∨ e.k = 3 ∨ e.k = 5 ∨ e.k = 6 then e.s == [] && e.n == 0 && noCmd e
 else if e.k = 7 then e.s == [] && e.n == 0 && zaU e.ck e.cn e.cs
 else false)
section
variable {Γ : Glob} {m : Store}
set_option maxHeartbeats 3200000 in
theorem oCheckE_ok (E : Env Γ) (e : Ent) : zae Tryz.prog Γ 84 [entV e] m fun o m' => o = .ret (it (if entB e = true then 0 else 2)) ∧ m' = m := by
 obtain ⟨c, q, k, n, s, ck, cn, cs⟩ := e
 refine zay (zaE mixed F84_ok F84_h zaw (by simp only [entV, nbS]) ?_)
 simp only [F84, entV, ss0, zd3, zdY]
 simp only [ssH, zdY, zdW, reduceIte, zdX, zd2, zd0, zd1]
 refine zah (by exact fun m => client_ok c) (by first | exact LR.nil | simp only [nbS]) (by first | exact LR.nil | simp only [nbS]) ?_
 have hk : k = 1 ∨ k = 4 ∨ k = 2 ∨ k = 3 ∨ k = 5 ∨ k = 6 ∨ k = 7 ∨ (k ≠ 1 ∧ k ≠ 4 ∧ k ≠ 2 ∧ k ≠ 3 ∧ k ≠ 5 ∧ k ≠ 6 ∧ k ≠ 7) := by omega
 cases h1 : zb4 c
 ·simp only [ssH, zdY, zdW, reduceIte, zdX, zd2, zd0, zd1]
  rcases hk with rfl | rfl | rfl | rfl | rfl | rfl | rfl | ⟨n1, n4, n2, n3, n5, n6, n7⟩
  case inr.inr.inr.inr.inr.inr.inr =>
   simp only [show (k == 1) = false by simpa using n1, show (k == 4) = false by simpa using n4, show (k == 2) = false by simpa using n2, show (k == 3) = false by simpa using n3, show (k == 5) = false by simpa using n5, show (k == 6) = false by simpa using n6, show (k == 7) = false by simpa using n7, ssH, zdY, zdW, reduceIte, zdX, zd2, zd0, zd1]
   exact zac zad ⟨(by simp only [zaa, zab, nbS]), by simp [tget, entB, h1]⟩
  all_goals
   simp only [ssH, zdY, zdW, reduceIte, zdX, zd2, zd0, zd1]
   exact zac zad ⟨(by simp only [zaa, zab, nbS]), by simp [tget, entB, h1]⟩
 ·simp only [ssH, zdY, zdW, reduceIte, zdX, zd2, zd0, zd1]
  refine zah (by exact fun m => client_ok q) (by first | exact LR.nil | simp only [nbS]) (by first | exact LR.nil | simp only [nbS]) ?_
  simp only [ssH, zdY, zdW, reduceIte, zdX, zd2, zd0, zd1]
  cases h2 : zb4 q
  ·rcases hk with rfl | rfl | rfl | rfl | rfl | rfl | rfl | ⟨n1, n4, n2, n3, n5, n6, n7⟩
   case inr.inr.inr.inr.inr.inr.inr =>
    simp only [show (k == 1) = false by simpa using n1, show (k == 4) = false by simpa using n4, show (k == 2) = false by simpa using n2, show (k == 3) = false by simpa using n3, show (k == 5) = false by simpa using n5, show (k == 6) = false by simpa using n6, show (k == 7) = false by simpa using n7, ssH, zdY, zdW, reduceIte, zdX, zd2, zd0, zd1]
    exact zac zad ⟨(by simp only [zaa, zab, nbS]), by simp [tget, entB, h2]⟩
   all_goals
    simp only [ssH, zdY, zdW, reduceIte, zdX, zd2, zd0, zd1]
    exact zac zad ⟨(by simp only [zaa, zab, nbS]), by simp [tget, entB, h2]⟩
  ·rcases hk with rfl | rfl | rfl | rfl | rfl | rfl | rfl | ⟨n1, n4, n2, n3, n5, n6, n7⟩
   case inr.inr.inr.inr.inr.inr.inr =>
    simp only [show (k == 1) = false by simpa using n1, show (k == 4) = false by simpa using n4, show (k == 2) = false by simpa using n2, show (k == 3) = false by simpa using n3, show (k == 5) = false by simpa using n5, show (k == 6) = false by simpa using n6, show (k == 7) = false by simpa using n7, ssH, zdY, zdW, reduceIte, zdX, zd2, zd0, zd1]
    exact zac zad ⟨(by simp only [zaa, zab, nbS]), by simp [tget, entB, n1, n2, n3, n4, n5, n6, n7]⟩
   case inr.inr.inr.inr.inr.inr.inl =>
    cases h3 : (s == []) <;> cases h4 : (n == 0) <;> simp only [bs_ne0, bne, h3, h4, zd9, zd8, ssH, zdY, zdW, reduceIte, zdX, zd2, zd0, zd1]
    case true.true =>
     refine zah (by exact fun m => cCheck_ok E ck cn cs) (nbs_c1 _ _ _) (by first | exact LR.nil | simp only [nbS]) ?_
     simp only [ssH, zdY, zdW, reduceIte, zdX, zd2, zd0, zd1]
     refine zac zad ⟨(by simp only [zaa, zab, nbS]), ?_⟩
     simp only [zaa, zab, entB, h1, h2, h3, h4]
     cases zaU ck cn cs <;> rfl
    all_goals exact zac zad ⟨(by simp only [zaa, zab, nbS]), by simp only [zaa, zab, entB, h1, h2, h3, h4]; rfl⟩
   case inl =>
    simp only [ssH, zdY, zdW, reduceIte, zdX, zd2, zd0, zd1]
    refine zah (by exact fun m => oName_ok E.words s) (by first | exact LR.nil | simp only [nbS]) (by first | exact LR.nil | simp only [nbS]) ?_
    cases h3 : nameB s <;> cases h4 : (n == 0) <;> cases h6 : (n == 1) <;> cases h5 : decide (ck = 0 ∧ cn = 0 ∧ cs = []) <;> simp only [h4, h6, zdn, h5, zd9, zd8, ssH, zdY, zdW, reduceIte, zdX, zd2, zd0, zd1] <;> exact zac zad ⟨(by simp only [zaa, zab, nbS]), by simp only [zaa, zab, entB, noCmd, h1, h2, h3, h4, h5, h6]; rfl⟩
   case inr.inl =>
    cases h3 : (s == [])
    ·simp only [zdD, h3, ssH, zdY, zdW, reduceIte, zdX, zd2, zd0, zd1]
     exact zac zad ⟨(by simp only [zaa, zab, nbS]), by simp only [zaa, zab, entB, h1, h2, h3]; rfl⟩
    ·simp only [zdD, h3, ssH, zdY, zdW, reduceIte, zdX, zd2, zd0, zd1]
     refine zah (by exact fun m => client_ok n) (by first | exact LR.nil | simp only [nbS]) (by first | exact LR.nil | simp only [nbS]) ?_
     cases h4 : zb4 n <;> cases h5 : decide (ck = 0 ∧ cn = 0 ∧ cs = []) <;> simp only [zdn, h5, zd9, zd8, ssH, zdY, zdW, reduceIte, zdX, zd2, zd0, zd1] <;> exact zac zad ⟨(by simp only [zaa, zab, nbS]), by simp only [zaa, zab, entB, noCmd, h1, h2, h3, h4, h5]; rfl⟩
   all_goals
    cases h3 : (s == []) <;> cases h4 : (n == 0) <;> cases h5 : decide (ck = 0 ∧ cn = 0 ∧ cs = []) <;> simp only [zdD, h3, h4, zdn, h5, zd9, zd8, ssH, zdY, zdW, reduceIte, zdX, zd2, zd0, zd1] <;> exact zac zad ⟨(by simp only [zaa, zab, nbS]), by simp only [zaa, zab, entB, noCmd, h1, h2, h3, h4, h5]; rfl⟩
end
structure Lg where
 b : Int
 c : List UInt8
 l : List Ent
def zaW (nn : Bool) (l : List Ent) : V := .sl (l.map entV) [] (if nn then .non else .full)
def lgV (nn : Bool) (x : Lg) : V := .agg [it x.b, bs x.c, zaW nn x.l]
def lgB (x : Lg) : Bool := decide (0 ≤ x.b) && decide (x.b ≤ 2147483647) && decide (x.c.length ≤ 65536) && ((x.c == []) == (x.b == 0)) && decide (x.l.length ≤ 64) && decide ((x.l.length : Int) ≤ 2147483647 - x.b) && x.l.all entB
theorem za5 {k : Nat} (e : Ent) : nb k (entV e) := by simp only [entV, nbS]
theorem zaD {k : Nat} (nn : Bool) (l : List Ent) : nb k (zaW nn l) := by
 cases nn <;> simp only [zaW, zd5, if_false, if_true, nbS] <;> exact zc0 za5 l
theorem zaL {k : Nat} (nn : Bool) (x : Lg) : nb k (lgV nn x) := by
 have := zaD (k := k) nn x.l
 simp only [lgV, this, nbS]
theorem idx_ent {l : List Ent} {more : List V} {tok : Tok} {i : Nat} {e : Ent} (h : l[i]? = some e) : idxLV 8 (.sl (l.map entV) more tok) (it i) = some (.elt [it e.c, it e.q, it e.k, it e.n, bs e.s, it e.ck, it e.cn, bs e.cs]) := zbX (e := entV e) (by rw [zez, h]; rfl) rfl
section
variable {Γ : Glob} {m : Store}
theorem pIndexF_ok {g : FuncId} {p : Ent → Bool} (hp : ∀ e m, zae Tryz.prog Γ g ([] ++ [entV e] ++ []) m fun o m' => o = .ret (.val (.bool (p e))) ∧ m' = m) (nn : Bool) (l : List Ent) (hl : l.length < 4611686018427387904) :
  zae Tryz.prog Γ 117 [zaW nn l, .fn (.func g) [] []] m fun o m' => (∃ v, o = .ret v ∧ ∃ i : Int, v = it i ∧ decide (0 ≤ i) = l.any p) ∧ m' = m := by
 have hnb := zaD (k := 0) nn l
 refine zaE mixed F117_ok F117_h zaw (by simp only [hnb, nbS]) ?_
 simp only [F117, ss0, zd3, zdY]
 simp only [zaW, zed, ssH, zdY, zdW, reduceIte, zdX, zd2, zd0, zd1]
 refine zdA [0, 1, 7, 8] 19 (fun n vs h => ∃ i : Nat, vs = [zaW nn l, .fn (.func g) [] [], it l.length, it i] ∧ i + n = l.length + 1 ∧ i ≤ l.length ∧ (l.take i).any p = false) (l.length + 1) (by decide) (by decide) (zef 0) (zaB rfl (zek _) (by decide) (by simp) (by show nbs 0 [zaW nn l, .fn (.func g) [] [], it l.length, it 0]; simp only [hnb, nbS]) (fun a ha => by omega) ⟨0, rfl, by omega, by omega, by simp⟩) ?_
 rintro n t h J hJ hlt ⟨i, hv, hn, hi, hpre⟩
 simp only [zev, List.cons.injEq, and_true] at hv
 obtain ⟨h0, h1, h7, h8⟩ := hv
 rw [t_eq hlt]
 simp only [zat, upTo, h0, h1, h7, h8, zaW, ssH, zdY, zdW, reduceIte, zdX, zd2, zd0, zd1]
 by_cases hil : i < l.length
 ·rw [show decide ((i : Int) < (l.length : Int)) = true by simp; omega]
  have hx : l[i]? = some l[i] := zd7 hil
  generalize l[i] = e at hx
  simp only [idx_ent hx, ssH, zdY, zdW, reduceIte, zdX, zd2, zd0, zd1]
  refine zah (by exact fun m => hp e m) (by have := za5 (k := 0) e; simp only [entV] at this; simp only [this, nbS]) (by first | exact LR.nil | simp only [nbS]) ?_
  have hany : (l.take (i + 1)).any p = p e := by
   rw [zeh, hx, List.any_append, hpre]
   simp
  cases he : p e
  ·simp only [zas (show i < 4611686018427387904 by omega), ssH, zdY, zdW, reduceIte, zdX, zd2, zd0, zd1]
   refine ⟨_, hJ (n - 1) (zef 0) _ (by omega) (zaB rfl (zek _) (by decide) (by simp) (by show nbs 0 [zaW nn l, .fn (.func g) [] [], it l.length, it (i + 1 : Nat)]; simp only [hnb, nbS]) (fun a ha => by omega) ⟨i + 1, rfl, by omega, by omega, by rw [hany, he]⟩)⟩
  ·simp only [ssH, zdY, zdW, reduceIte, zdX, zd2, zd0, zd1]
   refine zac zad ⟨(by simp only [zaa, zab, nbS]), i, rfl, ?_⟩
   rw [decide_eq_true (by omega)]
   symm
   rw [List.any_eq_true]
   exact ⟨e, zen hx, he⟩
 ·rw [show decide ((i : Int) < (l.length : Int)) = false by simp; omega]
  simp only [ssH, zdY, zdW, reduceIte, zdX, zd2, zd0, zd1]
  refine zac zad ⟨(by simp only [zaa, zab, nbS]), -1, rfl, ?_⟩
  rw [show l.take i = l from zes (by omega)] at hpre
  rw [hpre]
  rfl
theorem pContains_ok {g : FuncId} {p : Ent → Bool} (hp : ∀ e m, zae Tryz.prog Γ g ([] ++ [entV e] ++ []) m fun o m' => o = .ret (.val (.bool (p e))) ∧ m' = m) (nn : Bool) (l : List Ent) (hl : l.length < 4611686018427387904) :
  zae Tryz.prog Γ 82 [zaW nn l, .fn (.func g) [] []] m fun o m' => o = .ret (.val (.bool (l.any p))) ∧ m' = m := by
 have hnb := zaD (k := 0) nn l
 refine zay (zaE mixed F82_ok F82_h zaw (by simp only [hnb, nbS]) ?_)
 simp only [F82, ss0, zd3, zdY]
 simp only [ssH, zdY, zdW, reduceIte, zdX, zd2, zd0, zd1]
 refine hcall_some (by exact fun m => pIndexF_ok hp nn l hl) (by simp only [hnb, nbS]) (by rintro v ⟨i, rfl, _⟩; exact .val _) ?_
 rintro v ⟨i, rfl, hi⟩
 simp only [ge_iff_le, ssH, zdY, zdW, reduceIte, zdX, zd2, zd0, zd1]
 exact zac zad ⟨(by simp only [zaa, zab, nbS]), by rw [← hi]; rfl⟩
theorem pCheck1_ok (E : Env Γ) (e : Ent) : zae Tryz.prog Γ 83 [entV e] m fun o m' => o = .ret (.val (.bool (!entB e))) ∧ m' = m := by
 have hnb := za5 (k := 0) e
 refine zay (zaE mixed F83_ok F83_h zaw (by simp only [hnb, nbS]) ?_)
 simp only [F83, ss0, zd3, zdY]
 simp only [entV, ssH, zdY, zdW, reduceIte, zdX, zd2, zd0, zd1]
 refine zah (by exact fun m => oCheckE_ok E e) (by simp only [entV] at hnb; simp only [hnb, nbS]) (by first | exact LR.nil | simp only [nbS]) ?_
 cases h : entB e
 ·simp only [zd5, if_false, ssH, zdY, zdW, reduceIte, zdX, zd2, zd0, zd1]
  exact zac zad ⟨(by simp only [zaa, zab, nbS]), rfl⟩
 ·simp only [if_true, ssH, zdY, zdW, reduceIte, zdX, zd2, zd0, zd1]
  exact zac zad ⟨(by simp only [zaa, zab, nbS]), rfl⟩
end
section
variable {Γ : Glob} {m : Store}
theorem neq_bool (xo yo : Operand) (a b : Bool) : binV Tryz.prog .neq 4 .other xo yo (.val (.bool a)) (.val (.bool b)) = some (.val (.bool (a != b))) := by cases a <;> cases b <;> kernel_rfl
theorem pCheck_ok (E : Env Γ) (nn : Bool) (x : Lg) : zae Tryz.prog Γ 36 [lgV nn x] m fun o m' => o = .ret (it (if lgB x = true then 0 else 4)) ∧ m' = m := by
 obtain ⟨b, c, l⟩ := x
 have hnb := zaL (k := 0) nn ⟨b, c, l⟩
 have hnl := zaD (k := 0) nn l
 have hno : lgB ⟨b, c, l⟩ ≠ true → it 4 = it (if lgB ⟨b, c, l⟩ = true then 0 else 4) := fun h => by rw [if_neg h]
 refine zay (zaE mixed F36_ok F36_h zaw (by simp only [hnb, nbS]) ?_)
 simp only [F36, lgV, ss0, zd3, zdY]
 simp only [zaW, zed, gt_iff_lt, zdD, ssH, zdY, zdW, reduceIte, zdX, zd2, zd0, zd1]
 by_cases h1 : b < 0
 ·simp only [decide_eq_true h1, ssH, zdY, zdW, reduceIte, zdX, zd2, zd0, zd1]
  exact zac zad ⟨(by simp only [zaa, zab, nbS]), hno fun h => by simp only [lgB, zd6, decide_eq_true_eq] at h; omega⟩
 simp only [decide_eq_false h1, ssH, zdY, zdW, reduceIte, zdX, zd2, zd0, zd1]
 by_cases h2 : 2147483647 < b
 ·simp only [decide_eq_true h2, ssH, zdY, zdW, reduceIte, zdX, zd2, zd0, zd1]
  exact zac zad ⟨(by simp only [zaa, zab, nbS]), hno fun h => by simp only [lgB, zd6, decide_eq_true_eq] at h; omega⟩
 simp only [decide_eq_false h2, ssH, zdY, zdW, reduceIte, zdX, zd2, zd0, zd1]
 by_cases h3 : (65536 : Int) < (c.length : Int)
 ·simp only [decide_eq_true h3, ssH, zdY, zdW, reduceIte, zdX, zd2, zd0, zd1]
  exact zac zad ⟨(by simp only [zaa, zab, nbS]), hno fun h => by simp only [lgB, zd6, decide_eq_true_eq] at h; omega⟩
 simp only [decide_eq_false h3, neq_bool, ssH, zdY, zdW, reduceIte, zdX, zd2, zd0, zd1]
 cases h4 : ((c == []) != (b == 0))
 case true =>
  simp only [ssH, zdY, zdW, reduceIte, zdX, zd2, zd0, zd1]
  refine zac zad ⟨(by simp only [zaa, zab, nbS]), hno fun h => ?_⟩
  simp only [lgB, zd6, beq_iff_eq] at h
  rw [h.1.1.1.2] at h4
  simp at h4
 simp only [ssH, zdY, zdW, reduceIte, zdX, zd2, zd0, zd1]
 by_cases h5 : (64 : Int) < (l.length : Int)
 ·simp only [decide_eq_true h5, ssH, zdY, zdW, reduceIte, zdX, zd2, zd0, zd1]
  exact zac zad ⟨(by simp only [zaa, zab, nbS]), hno fun h => by simp only [lgB, zd6, decide_eq_true_eq] at h; omega⟩
 have hw : IntKind.i64.wrap (2147483647 - b) = 2147483647 - b := wrap_i64 (by omega) (by omega)
 simp only [decide_eq_false h5, hw, ssH, zdY, zdW, reduceIte, zdX, zd2, zd0, zd1]
 by_cases h6 : 2147483647 - b < (l.length : Int)
 ·simp only [decide_eq_true h6, ssH, zdY, zdW, reduceIte, zdX, zd2, zd0, zd1]
  exact zac zad ⟨(by simp only [zaa, zab, nbS]), hno fun h => by simp only [lgB, zd6, decide_eq_true_eq] at h; omega⟩
 simp only [decide_eq_false h6, ssH, zdY, zdW, reduceIte, zdX, zd2, zd0, zd1]
 refine zah (by exact fun m => pContains_ok (p := fun e => !entB e) (fun e m => pCheck1_ok E e) nn l (by omega)) (by simp only [zaW] at hnl; simp only [hnl, nbS]) (by first | exact LR.nil | simp only [nbS]) ?_
 have hb : lgB ⟨b, c, l⟩ = l.all entB := by
  have h4' : ((c == []) == (b == 0)) = true := by
   revert h4
   cases (c == []) <;> cases (b == 0) <;> simp
  simp only [lgB, h4', decide_eq_true (show (0 : Int) ≤ b by omega), decide_eq_true (show b ≤ 2147483647 by omega), decide_eq_true (show c.length ≤ 65536 by omega), decide_eq_true (show l.length ≤ 64 by omega), decide_eq_true (show (l.length : Int) ≤ 2147483647 - b by omega), zeH]
 have ha : l.any (fun e => !entB e) = !l.all entB := by
  rw [List.all_eq_not_any_not]; simp
 cases h7 : l.any fun e => !entB e
 ·simp only [ssH, zdY, zdW, reduceIte, zdX, zd2, zd0, zd1]
  have hy : lgB ⟨b, c, l⟩ = true := by rw [hb]; rw [h7] at ha; simpa using ha.symm
  have h0 : it 0 = it (if lgB ⟨b, c, l⟩ = true then 0 else 4) := by rw [if_pos hy]
  exact zac zad ⟨(by simp only [zaa, zab, nbS]), h0⟩
 ·simp only [ssH, zdY, zdW, reduceIte, zdX, zd2, zd0, zd1]
  refine zac zad ⟨(by simp only [zaa, zab, nbS]), hno ?_⟩
  rw [hb]
  rw [h7] at ha
  simpa using ha.symm
def zcF (b : Int) (n : Nat) (op : Int) : Int × Int := if op < b then (0, 16) else if b + (n : Int) < op then (0, 10) else (op - b, 0)
theorem pWithin_ok (nn : Bool) (x : Lg) (op : Int) (hx : lgB x = true) : zae Tryz.prog Γ 76 [lgV nn x, it op] m fun o m' => o = .ret (.tup [it (zcF x.b x.l.length op).1, it (zcF x.b x.l.length op).2]) ∧ m' = m := by
 have hnb := zaL (k := 0) nn x
 have hnl := zaD (k := 0) nn x.l
 have hb : 0 ≤ x.b ∧ x.b ≤ 2147483647 ∧ x.l.length ≤ 64 := by simp only [lgB, zd6, decide_eq_true_eq] at hx; omega
 have hw : IntKind.i64.wrap (x.b + (x.l.length : Int)) = x.b + (x.l.length : Int) := wrap_i64 (by omega) (by omega)
 refine zay (zaE mixed F76_ok F76_h zaw (by simp only [hnb, nbS]) ?_)
 simp only [F76, lgV, ss0, zd3, zdY]
 simp only [zaW, gt_iff_lt, zed, ssH, zdY, zdW, reduceIte, zdX, zd2, zd0, zd1]
 unfold zcF
 by_cases h1 : op < x.b
 ·simp only [decide_eq_true h1, ssH, zdY, zdW, reduceIte, zdX, zd2, zd0, zd1]
  exact zac resV_two ⟨(by simp only [zaa, zab, nbS]), by rw [if_pos h1]; rfl⟩
 simp only [decide_eq_false h1, hw, ssH, zdY, zdW, reduceIte, zdX, zd2, zd0, zd1]
 by_cases h2 : x.b + (x.l.length : Int) < op
 ·simp only [decide_eq_true h2, ssH, zdY, zdW, reduceIte, zdX, zd2, zd0, zd1]
  exact zac resV_two ⟨(by simp only [zaa, zab, nbS]), by rw [if_neg h1, if_pos h2]; rfl⟩
 have hw2 : IntKind.i64.wrap (op - x.b) = op - x.b := wrap_i64 (by omega) (by omega)
 simp only [decide_eq_false h2, hw2, ssH, zdY, zdW, reduceIte, zdX, zd2, zd0, zd1]
 exact zac resV_two ⟨(by simp only [zaa, zab, nbS]), by rw [if_neg h1, if_neg h2]; rfl⟩
end
end Go.Av.Fn
/- Functions that are handed a closure that holds variables' pointers. No condition. -/
namespace Go.Av
set_option linter.unusedSimpArgs false
set_option linter.unusedVariables false
def tokN : List V → Tok → Tok
 | [], .full => .full
 | [], t => if zcj t then .no else .non
 | _ :: _, _ => .non
mutual
def wN : V → V
 | .agg cs => .agg (wNs cs)
 | .tup cs => .tup (wNs cs)
 | .sl es more t => .sl (wNs es) (wNs more) (tokN es t)
 | v => v
def wNs : List V → List V
 | [] => []
 | v :: l => wN v :: wNs l
end
theorem wNs_append : ∀ (a b : List V), wNs (a ++ b) = wNs a ++ wNs b
 | [], b => rfl
 | v :: l, b => by rw [List.cons_append, wNs, wNs_append l b]; rfl
theorem zdu : ∀ l : List V, (wNs l).length = l.length
 | [] => rfl
 | v :: l => by rw [wNs, zd4, zdu l]; rfl
theorem wNs_map {α : Type} {f : α → V} (h : ∀ x, wN (f x) = f x) : ∀ l : List α, wNs (l.map f) = l.map f
 | [] => rfl
 | x :: l => by rw [List.map_cons, wNs, h, wNs_map h l]
theorem wN_cells (v : V) : (wN v).cells = wNs v.cells := by
 cases v <;> rfl
theorem flat_wNs : ∀ l : List V, flat (wNs l) = wNs (flat l)
 | [] => rfl
 | v :: l => by rw [wNs, zaO, zaO, wNs_append, wN_cells, flat_wNs l]
theorem wNs_mem : ∀ {l : List V} {e : V}, e ∈ wNs l → ∃ x ∈ l, e = wN x
 | v :: l, e, h => by
  rw [wNs] at h
  rcases List.mem_cons.1 h with rfl | h
  ·exact ⟨v, List.mem_cons_self .., rfl⟩
  ·obtain ⟨x, hx, rfl⟩ := wNs_mem h
   exact ⟨x, List.mem_cons_of_mem _ hx, rfl⟩
theorem tokN_ok {G : Gh} {es : List V} {t : Tok} {a : Addr} {cap s : Nat} (h : G.tokOk t a es.length cap s) : G.tokOk (tokN es t) a es.length cap s := by
 cases es with
 | cons x l => trivial
 | nil =>
  cases t with
  | full => exact absurd rfl h.2
  | _ => simp only [tokN]; split <;> trivial
theorem tokN_nil {t : Tok} (h : zcj t = true) : zcj (tokN [] t) = true := by
 cases t <;> first | rfl | cases h | (simp only [tokN, h, if_true]; rfl)
mutual
theorem RelV.wN {G : Gh} : ∀ {v : V} {u : Value}, RelV G v u → RelV G (wN v) u
 | _, _, .val h => .val h
 | _, _, .ptr b o => .ptr b o
 | _, _, .elt h k => .elt h k
 | _, _, .nil h => by
  simp only [Av.wN, wNs]
  exact .nil (tokN_nil h)
 | _, _, .arr a b c d => .arr a b c d
 | _, _, .res a b c => .res a b c
 | _, _, .sl (es := es) (more := more) a b c d e f => by
  simp only [Av.wN]
  have hb := RelL.wN b
  rw [← flat_wNs, wNs_append] at hb
  have h8 := tokN_ok f
  rw [← zdu es] at h8 ⊢
  refine .sl (fun x hx => ?_) hb c (by rw [zdu, zdu]; exact d) e h8
  rw [← wNs_append] at hx
  obtain ⟨y, hy, rfl⟩ := wNs_mem hx
  rw [wN_cells, zdu]
  exact a y hy
 | _, _, .fn h k => .fn h k
 | _, _, .ifc h => .ifc h
 | _, _, .agg h => by
  simp only [Av.wN]
  exact .agg (RelL.wN h)
 | _, _, .tup h => by
  simp only [Av.wN]
  exact .tup (RelL.wN h)
theorem RelL.wN {G : Gh} : ∀ {v : List V} {u : List Value}, RelL G v u → RelL G (wNs v) u
 | _, _, .nil => .nil
 | _, _, .cons a b => .cons (RelV.wN a) (RelL.wN b)
end
theorem tokN_vr {R : Ren} {es es' : List V} {k k' : Tok} (a : LR R es es') (c : TokR R k k') : TokR R (tokN es k) (tokN es' k') := by
 cases a with
 | cons _ _ => trivial
 | nil =>
  have hn := nilTok_vr c
  cases k <;> cases k' <;> first | exact c.elim | trivial | (simp only [tokN, hn]; split <;> trivial)
mutual
theorem VR.wN {R : Ren} : ∀ {v v' : V}, VR R v v' → VR R (wN v) (wN v')
 | _, _, .val v => .val v
 | _, _, .ptr o r => .ptr o r
 | _, _, .elt r => .elt r
 | _, _, .sl a b c => by
  simp only [Av.wN]
  exact .sl (LR.wN a) (LR.wN b) (tokN_vr a c)
 | _, _, .fn h a b => .fn h a b
 | _, _, .ifc r => .ifc r
 | _, _, .agg r => by
  simp only [Av.wN]
  exact .agg (LR.wN r)
 | _, _, .tup r => by
  simp only [Av.wN]
  exact .tup (LR.wN r)
 | _, _, .arr o l c r => .arr o l c r
 | _, _, .res v z n r => .res v z n r
theorem LR.wN {R : Ren} : ∀ {v v' : List V}, LR R v v' → LR R (wNs v) (wNs v')
 | _, _, .nil => .nil
 | _, _, .cons a b => .cons (VR.wN a) (LR.wN b)
end
theorem zae.wnd {P : Program} {Γ : Glob} {f : FuncId} {args : List V} {m : Store} {R R' : Out → Store → Prop} (h : zae P Γ f args m R) (hr : ∀ v m', R (.ret v) m' → R' (.ret (Av.wN v)) m') (hp : ∀ v m', R (.pan v) m' → R' (.pan v) m') : zae P Γ f args m R' := by
 refine ⟨h.1, fun G B0 mF w cargs hD hR hL => (h.2 G B0 mF w cargs hD hR hL).mono ?_⟩
 rintro e w' ⟨G', m', o, a, b, c, d, r, s⟩
 cases o with
 | ret v =>
  cases r with
  | ret r => exact ⟨G', m', .ret (Av.wN v), a, b, c, d, .ret r.wN, hr _ _ s⟩
 | pan v => exact ⟨G', m', .pan v, a, b, c, d, r, hp _ _ s⟩
def closA (pre : List V) (w : Option FuncId) (bs : List Nat) : List V := pre ++ match w with
 | some f => [.fn (.func f) [] (bs.map fun b => .ptr b 0)]
 | none => bs.map fun b => .ptr b 0
structure CellsOk (Xs : List Blk) (cs : List Nat) (m : Store) : Prop where
 len : cs.length = Xs.length
 nodup : ∀ (i j c : Nat), cs[i]? = some c → cs[j]? = some c → i = j
 cell : ∀ (i c : Nat) (X : Blk), cs[i]? = some c → Xs[i]? = some X → m c = some X
def delL (m : Store) (cs : List Nat) : Store := fun c => if c ∈ cs then none else m c
def KCalls (P : Program) (Γ : Glob) (g : FuncId) (pre : List V) (w : Option FuncId) (Xs : List Blk) (Qv : V → Prop) : Prop :=
 ∀ m cs, CellsOk Xs cs m → zae P Γ g (closA pre w cs) m fun o m' => (∃ v, o = .ret v ∧ Qv v) ∧ m' = delL m cs
section
variable {P : Program} {Γ : Glob} {H : Nat → List (Nat × List Nat) × List Nat} {f : FuncId} {F : AFn} {gs : List Nat}
theorem lr_ptrs {R : Ren} : ∀ {bs cs : List Nat}, bs.length = cs.length → (∀ (i b c : Nat), bs[i]? = some b → cs[i]? = some c → R b c) → LR R (bs.map fun b => .ptr b 0) (cs.map fun b => .ptr b 0)
 | [], [], _, _ => .nil
 | b :: bs, c :: cs, hl, h => .cons (.ptr 0 (h 0 b c rfl rfl)) (lr_ptrs (by simpa using hl) fun i => h (i + 1))
theorem lr_ptrs_inv {R : Ren} : ∀ {bs : List Nat} {vs : List V}, LR R (bs.map fun b => .ptr b 0) vs → ∃ cs : List Nat, vs = cs.map (fun b => V.ptr b 0) ∧ cs.length = bs.length ∧ ∀ (i b c : Nat), bs[i]? = some b → cs[i]? = some c → R b c
 | [], vs, h => by cases h; exact ⟨[], rfl, rfl, fun i b c hb => by simp at hb⟩
 | b :: bs, vs, h => by
  cases h with
  | cons h1 h2 =>
   cases h1 with
   | @ptr _ c _ r =>
    obtain ⟨cs, rfl, hl, hr⟩ := lr_ptrs_inv h2
    refine ⟨c :: cs, rfl, by simp [hl], ?_⟩
    intro i b' c' hb hc
    cases i with
    | zero => cases hb; cases hc; exact r
    | succ i => exact hr i b' c' (by simpa using hb) (by simpa using hc)
theorem lr_app_inv {R : Ren} : ∀ {a b : List V} {vs : List V}, LR R (a ++ b) vs → ∃ a' b', vs = a' ++ b' ∧ LR R a a' ∧ LR R b b'
 | [], b, vs, h => ⟨[], vs, rfl, .nil, h⟩
 | x :: a, b, vs, h => by
  cases h with
  | cons h1 h2 =>
   obtain ⟨a', b', rfl, r1, r2⟩ := lr_app_inv h2
   exact ⟨_ :: a', b', rfl, .cons h1 r1, r2⟩
theorem closA_lr {R : Ren} {pre : List V} {w : Option FuncId} {bs cs : List Nat} (hp : nbs 0 pre) (hl : bs.length = cs.length) (h : ∀ (i b c : Nat), bs[i]? = some b → cs[i]? = some c → R b c) : LR R (closA pre w bs) (closA pre w cs) := by
 refine (hp.up R).append ?_
 cases w with
 | none => exact lr_ptrs hl h
 | some f => exact .cons (.fn rfl .nil (lr_ptrs hl h)) .nil
theorem closA_inv {R : Ren} {pre : List V} {w : Option FuncId} {bs : List Nat} {vs : List V} (hp : nbs 0 pre) (h : LR R (closA pre w bs) vs) : ∃ cs : List Nat, vs = closA pre w cs ∧ cs.length = bs.length ∧ ∀ (i b c : Nat), bs[i]? = some b → cs[i]? = some c → R b c := by
 obtain ⟨a', b', rfl, r1, r2⟩ := lr_app_inv h
 obtain rfl := nbs_eq hp r1
 cases w with
 | none =>
  obtain ⟨cs, rfl, q1, q2⟩ := lr_ptrs_inv r2
  exact ⟨cs, rfl, q1, q2⟩
 | some f =>
  cases r2 with
  | cons h1 h2 =>
   cases h2
   cases h1 with
   | fn _ r3 r4 =>
    cases r3
    obtain ⟨cs, rfl, q1, q2⟩ := lr_ptrs_inv r4
    exact ⟨cs, rfl, q1, q2⟩
theorem get_map_some {Xs : List Blk} : ∀ {a : Nat} {x : Blk}, lk (Xs.map some) a = some x → Xs[a]? = some x := by
 induction Xs with
 | nil => intro a x h; cases a <;> cases h
 | cons X Xs ih =>
  intro a x h
  cases a with
  | zero => simpa [lk] using h
  | succ a => simpa using ih (a := a) h
theorem range_get {n i b : Nat} (h : (zef n)[i]? = some b) : b = i ∧ i < n := by
 obtain ⟨h1, rfl⟩ := List.getElem?_eq_some_iff.1 h
 simp at h1 ⊢
 exact h1
theorem kcalls (hm : P.follows .mixedOrders = true) (hF : zao P H f = some F) (hok : F.body.okH gs = true) (hG : GOk Γ gs) {pre : List V} {w : Option FuncId} {Xs : List Blk} (ha : nbs 0 pre) (hX : ∀ X ∈ Xs, nbB 0 X) {Qv : V → Prop}
  (h : hawp P Γ (fun _ _ => False) Xs.length F.body (bodyH F.res fun v _ => nb 0 (wN v) ∧ Qv (wN v)) ⟨start F.ntmps (closA pre w (zef Xs.length)), Xs.map some⟩) : KCalls P Γ f pre w Xs Qv := by
 intro m cs hc
 have hH : HH (fun a c => cs[a]? = some c) (Xs.map some) (fun c => if c ∈ cs then m c else none) := {
  blk := by
   intro a c x r hx
   refine ⟨x, ?_, (hX x ?_).up _⟩
   ·show (if c ∈ cs then m c else none) = some x
    rw [if_pos (zen r)]
    exact hc.cell a c x r (get_map_some hx)
   ·exact zen (get_map_some hx)
  left := by
   intro a c c' r r'
   rw [r] at r'
   exact Option.some.inj r'
  right := by
   intro a b c x y r r' _ _
   exact hc.nodup a b c r r'
  dom := by
   intro a c r
   left
   have := (List.getElem?_eq_some_iff.1 r).1
   rw [hc.len] at this
   simpa using this }
 have h1 := acalls_h (P := P) (Γ := Γ) (R0 := fun a c => cs[a]? = some c) (N := Xs.length) (m := fun c => if c ∈ cs then m c else none) hm hF hok hG (args0 := closA pre w (zef Xs.length)) (args := closA pre w cs)
  (closA_lr ha (by simp [hc.len]) fun i b c hb hc' => by rw [(range_get hb).1]; exact hc') hH (fun b b' r => by have := (List.getElem?_eq_some_iff.1 r).1; rw [hc.len] at this; exact this) (Q := fun o h' => match o with | .ret v => nb 0 (wN v) ∧ Qv (wN v) | .pan _ => False) h
 have hD : Disj (fun c => if c ∈ cs then m c else none) (delL m cs) := by
  intro c
  unfold delL
  by_cases e : c ∈ cs
  ·exact .inr (by simp [e])
  ·exact .inl (by simp [e])
 have e : Store.or (fun c => if c ∈ cs then m c else none) (delL m cs) = m := by
  funext c
  unfold Store.or delL
  by_cases e : c ∈ cs
  ·simp only [if_pos e]
   cases m c <;> rfl
  ·simp only [if_neg e]
 have h2 := h1.frame hD
 rw [e] at h2
 refine zae.wnd (R := fun o m' => (∃ v, o = .ret v ∧ Qv (wN v)) ∧ m' = delL m cs) (zae.less h2 ?_) ?_ ?_
 ·rintro o m'' ⟨m', rfl, d, S, o0, h', s1, s2, s3, s4⟩
  refine ⟨delL m cs, ?_, ?_, rfl⟩
  ·intro b x hb
   rcases d b with q | q
   ·simp only [Store.or, q]; exact hb
   ·rw [q] at hb; cases hb
  ·cases o0 with
   | ret v =>
    cases o with
    | ret v' =>
     have e3 : wN v' = wN v := nb_eq s4.1 (VR.wN s3)
     exact ⟨v', rfl, by rw [e3]; exact s4.2⟩
    | pan v' => exact s3.elim
   | pan v => exact s4.elim
 ·rintro v m' ⟨⟨v', e9, q⟩, h9⟩
  cases e9
  exact ⟨⟨_, rfl, q⟩, h9⟩
 ·rintro v m' ⟨⟨v', e9, q⟩, _⟩
  cases e9
theorem zdE (hm : P.follows .mixedOrders = true) (hF : zao P H f = some F) (hok : F.body.okH gs = true) (hG : GOk Γ gs) {args : List V} {m : Store} (ha : nbs 0 args) {Qv : V → Prop}
  (h : hawp P Γ (fun _ _ => False) 0 F.body (bodyH F.res fun v _ => nb 0 (wN v) ∧ Qv (wN v)) ⟨start F.ntmps args, []⟩) : zae P Γ f args m fun o m' => (∃ v, o = .ret v ∧ Qv v) ∧ m' = m := by
 have := kcalls (pre := args) (w := none) (Xs := []) hm hF hok hG ha (fun _ h => by cases h) (Qv := Qv) (by simpa [closA] using h) m [] ⟨rfl, fun i j c h => by simp at h, fun i c X h => by simp at h⟩
 have e : delL m [] = m := by funext c; simp [delL]
 rw [e] at this
 simpa [closA] using this
def hdrop (h : Hl) : List Nat → Hl
 | [] => h
 | b :: bs => hdrop (hset h b none) bs
theorem hh_drops {R : Ren} {m : Store} : ∀ {h : Hl} (bs : List Nat), HH R h m → HH R (hdrop h bs) m
 | h, [], H => H
 | h, b :: bs, H => hh_drops bs (H.drop b)
theorem lk_hset_le {h : Hl} {b c : Nat} {x : Blk} (e : lk (hset h b none) c = some x) : c ≠ b ∧ lk h c = some x := by
 rw [lk_hset] at e
 split at e
 ·cases e
 ·rename_i k
  refine ⟨?_, e⟩
  rintro rfl
  exact k ⟨rfl, lk_lt e⟩
theorem lk_hdrop_le : ∀ (bs : List Nat) {h : Hl} {c : Nat} {x : Blk}, lk (hdrop h bs) c = some x → c ∉ bs ∧ lk h c = some x
 | [], h, c, x, e => ⟨by simp, e⟩
 | b :: bs, h, c, x, e => by
  obtain ⟨h1, h2⟩ := lk_hdrop_le bs e
  obtain ⟨h3, h4⟩ := lk_hset_le h2
  exact ⟨by simp [h1, h3], h4⟩
section
variable {Γ : Glob} {Kp : V → Hl → Prop} {l : List Item} {K : HS → Prop} {t : List V} {h : Hl} {d : Option Tmp} {s : List (Tmp × Option (Tmp × Bool) × AOp)} {g : FuncId} {first args caps : List V}
theorem hcall_k {pre : List V} {w : Option FuncId} {Xs : List Blk} {Qv : V → Prop} (bs : List Nat) (hA : KCalls P Γ g pre w Xs Qv) (he : first ++ args ++ caps = closA pre w bs) (hl : bs.length = Xs.length) (hn : bs.Nodup) (hb : ∀ (i b : Nat) (X : Blk), bs[i]? = some b → Xs[i]? = some X → lk h b = some X)
  (hp : nbs 0 pre) (hX : ∀ X ∈ Xs, nbB 0 X) (hv : ∀ v, Qv v → nb 0 v) (hr : ∀ v, Qv v → hth P Γ Kp s l K (hput t (hdrop h bs) d (some v))) : hcallS P Γ Kp (.fn (.func g) first caps) args d s l K t h := by
 intro R args' m' rl H
 rw [he] at rl
 obtain ⟨cs, rfl, c1, c2⟩ := closA_inv hp rl
 have hcell : ∀ (i b c : Nat) (X : Blk), bs[i]? = some b → cs[i]? = some c → Xs[i]? = some X → m' c = some X := by
  intro i b c X h1 h2 h3
  obtain ⟨x', h4, h5⟩ := H.blk _ _ _ (c2 i b c h1 h2) (hb i b X h1 h3)
  obtain rfl := nbB_eq (hX X (zen h3)) h5
  exact h4
 have hlen : cs.length = Xs.length := c1.trans hl
 have hok : CellsOk Xs cs m' := {
  len := hlen
  nodup := by
   intro i j c e1 e2
   have hi := (List.getElem?_eq_some_iff.1 e1).1
   have hj := (List.getElem?_eq_some_iff.1 e2).1
   have b1 : bs[i]? = some (bs[i]'(by omega)) := zd7 (by omega)
   have b2 : bs[j]? = some (bs[j]'(by omega)) := zd7 (by omega)
   have x1 : Xs[i]? = some (Xs[i]'(by omega)) := zd7 (by omega)
   have x2 : Xs[j]? = some (Xs[j]'(by omega)) := zd7 (by omega)
   have e := H.right _ _ _ _ _ (c2 i _ _ b1 e1) (c2 j _ _ b2 e2) (hb i _ _ b1 x1) (hb j _ _ b2 x2)
   have hp2 := List.pairwise_iff_getElem.1 hn
   rcases Nat.lt_trichotomy i j with k | k | k
   ·exact absurd e (hp2 i j (by omega) (by omega) k)
   ·exact k
   ·exact absurd e.symm (hp2 j i (by omega) (by omega) k)
  cell := by
   intro i c X h2 h3
   have hi : i < bs.length := by have := (List.getElem?_eq_some_iff.1 h3).1; omega
   exact hcell i _ c X (zd7 hi) h2 h3 }
 refine (hA m' cs hok).mono ?_
 rintro o m'' ⟨⟨v, rfl, hq⟩, rfl⟩
 refine ⟨R, .ret v, hdrop h bs, R.le_refl, (hh_drops bs H).to fun b c x hbc hx => ?_, (hv v hq).up R, hr v hq⟩
 unfold delL
 rw [if_neg]
 intro hmem
 obtain ⟨i, hi⟩ := List.getElem?_of_mem hmem
 have hlt := (List.getElem?_eq_some_iff.1 hi).1
 have b1 : bs[i]? = some (bs[i]'(by omega)) := zd7 (by omega)
 have x1 : Xs[i]? = some (Xs[i]'(by omega)) := zd7 (by omega)
 obtain ⟨h1, h2⟩ := lk_hdrop_le bs hx
 have e := H.right _ _ _ _ _ hbc (c2 i _ _ b1 hi) h2 (hb i _ _ b1 x1)
 subst e
 exact h1 (zen b1)
end
end
end Go.Av
/- Entries copied; what is done with a right log. Conditions: az ahead. -/
namespace Go.Av.Fn
set_option linter.unusedSimpArgs false
set_option linter.unusedVariables false
set_option maxRecDepth 10000
open Go.Proofs
theorem wN_entV (e : Ent) : wN (entV e) = entV e := by simp only [entV, wN, wNs]; rfl
theorem wNs_ents (l : List Ent) : wNs (l.map entV) = l.map entV := wNs_map wN_entV l
theorem wN_some {l : List Ent} {t : Tok} (h : l ≠ [] ∨ zcj t = false) : wN (.sl (l.map entV) [] t) = zaW true l := by
 simp only [wN, wNs_ents, zaW, if_true]
 cases l with
 | nil =>
  have ht : zcj t = false := by simpa using h
  have e2 : tokN [] t = .non := by
   cases t with
   | no => cases ht
   | full => cases ht
   | zero b => cases b <;> first | rfl | cases ht
   | _ => rfl
  simp only [List.map_nil, wNs, e2]
 | cons e l => rfl
theorem wN_entsV {nn : Bool} {l : List Ent} (h : nn = true ∨ l = []) : wN (zaW nn l) = zaW nn l := by
 cases nn
 ·have : l = [] := by simpa using h
  subst this
  rfl
 ·exact wN_some (.inr rfl)
theorem wN_lgV {nn : Bool} {x : Lg} (h : nn = true ∨ x.l = []) : wN (lgV nn x) = lgV nn x := by
 simp only [lgV, wN, wNs, wN_entsV h, bs]
theorem elemsB_ents (l : List Ent) : elemsB 8 (l.map entV) = true := by
 simp only [elemsB, List.all_map, List.all_eq_true]
 intro x _
 rfl
theorem zcb (l : List Ent) : szOk 8 (l.map entV) = true := by
 simp only [szOk, List.all_map, List.all_eq_true]
 intro x _
 rfl
section
variable {Γ : Glob} {m : Store}
theorem eq_nil {xo yo : Operand} {l : List Ent} {more : List V} {t : Tok} (h : l ≠ [] ∨ zcj t = false) : binV Tryz.prog .eql 54 .slice xo yo (.sl (l.map entV) more t) (.sl [] [] .full) = some (.val (.bool false)) := by
 have hs : zch .slice (.sl (l.map entV) more t) = true := by
  cases l with
  | nil =>
   have ht : zcj t = false := by simpa using h
   simp only [List.map_nil, zch, ht]
   rfl
  | cons e l => rfl
 unfold binV
 rw [hs]
 rfl
theorem eq_nil_nil {xo yo : Operand} : binV Tryz.prog .eql 54 .slice xo yo (.sl [] [] .full) (.sl [] [] .full) = some (.val (.bool true)) := by kernel_rfl
theorem pClone_nil : zae Tryz.prog Γ 79 [.sl [] [] .full] m fun o m' => (∃ v, o = .ret v ∧ v = zaW false []) ∧ m' = m := by
 refine zaE mixed F79_ok F79_h zaw (by first | exact LR.nil | simp only [nbS]) ?_
 simp only [F79, ss0, zd3, zdY]
 simp only [eq_nil_nil, ssH, zdY, zdW, reduceIte, zdX, zd2, zd0, zd1]
 exact zac zad ⟨(by simp only [zaa, zab, nbS]), rfl⟩
theorem pClone_ok {t : Tok} (ht : nbT 0 t) (l : List Ent) (hl : l.length ≤ 1000000) (h : l ≠ [] ∨ zcj t = false) : zae Tryz.prog Γ 79 [.sl (l.map entV) [] t] m fun o m' => (∃ v, o = .ret v ∧ v = zaW true l) ∧ m' = m := by
 have hnl := zc0 (k := 0) za5 l
 have hne := zaD (k := 0) true l
 refine zdE mixed F79_ok F79_h zaw (by simp only [ht, hnl, nbS]) ?_
 simp only [F79, ss0, zd3, zdY]
 simp only [eq_nil h, lits_zero, ssH, zdY, zdW, reduceIte, zdX, zd2, zd0, zd1]
 by_cases h0 : l = []
 ·subst h0
  refine happ_none rfl ?_
  simp only [ssH, zdY, zdW, reduceIte, zdX, zd2, zd0, zd1]
  exact zac zad ⟨by simp only [zaa, zab, wN, wNs, tokN, zcj, zd5, if_false, nbS], rfl⟩
 ·have hne2 : l.map entV ≠ [] := by simpa using h0
  refine happ_zero (ys := l.map entV) rfl hne2 (by simp only [zd4, zec, zdY, zd2]) rfl (elemsB_ents _) (by simp only [zed, zec]; omega) ?_
  simp only [ssH, zdY, zdW, reduceIte, zdX, zd2, zd0, zd1]
  have e : ∀ k, wN (.sl (l.map entV) [] (.tip k 0)) = zaW true l := fun k => wN_some (.inl h0)
  exact zac zad ⟨by simp only [zaa, zab, e, hne], by simp only [zaa, zab, e]⟩
end
def logB (nn : Bool) (x : Lg) : Blk := .var 56 [it x.b, bs x.c, zaW nn x.l]
theorem zdt (nn : Bool) (x : Lg) : nbB 0 (logB nn x) := by
 have := zaD (k := 0) nn x.l
 simp only [logB, this, nbS]
theorem cells_ents {nn : Bool} {l : List Ent} : (zaW nn l).cells = [zaW nn l] := (rfl)
theorem zaG {nn : Bool} {l : List Ent} : oneV (zaW nn l) = true := (rfl)
theorem cut_from {nn : Bool} {l : List Ent} (h : nn = true ∨ l = []) {n : Nat} (hn : n ≤ l.length) : zcG 8 (zaW nn l) (some (some (n : Int))) (some none) (some none) = some (zaW nn (l.drop n)) := by
 have hs : szOk 8 (l.map entV ++ []) = true := by rw [List.append_nil]; exact zcb l
 simp only [zaW, zcG, hs, if_true, cutV, Option.getD_none, Option.getD_some, zeS, zed]
 rw [if_pos ⟨by omega, hn, by omega⟩, List.map_drop]
 cases nn
 ·have hl : l = [] := by simpa using h
  subst hl
  have : n = 0 := by simpa using hn
  subst this
  rfl
 ·rfl
def upV (nn : Bool) (l : List Ent) (n : Nat) : V := .sl ((l.take n).map entV) [] (if 0 < n then .full else if nn then .zero true else .full)
theorem cut_upto {nn : Bool} {l : List Ent} (h : nn = true ∨ l = []) {n : Nat} (hn : n ≤ l.length) : zcG 8 (zaW nn l) (some none) (some (some (n : Int))) (some (some (n : Int))) = some (upV nn l n) := by
 have hs : szOk 8 (l.map entV ++ []) = true := by rw [List.append_nil]; exact zcb l
 simp only [zaW, zcG, hs, if_true, cutV, Option.getD_none, Option.getD_some, zeS, zed, Int.toNat_zero, List.drop_zero]
 rw [if_pos ⟨by omega, by omega, by omega, rfl, trivial, by omega, hn⟩, upV, List.map_take]
 congr 2
 simp only [cutEnd]
 by_cases h0 : 0 < n
 ·rw [if_pos h0, if_pos h0]
 ·rw [if_neg h0, if_neg h0]
  cases l with
  | nil => cases nn <;> rfl
  | cons e l =>
   have : nn = true := by simpa using h
   subst this
   rfl
section
variable {Γ : Glob} {m : Store}
theorem pClone_e {nn : Bool} {l : List Ent} (h : nn = true ∨ l = []) (hl : l.length ≤ 1000000) : zae Tryz.prog Γ 79 [zaW nn l] m fun o m' => o = .ret (zaW nn l) ∧ m' = m := by
 cases nn
 ·have : l = [] := by simpa using h
  subst this
  exact zay pClone_nil
 ·exact zay (pClone_ok (t := .non) trivial l hl (.inr rfl))
theorem pClone_u {nn : Bool} {l : List Ent} (h : nn = true ∨ l = []) (hl : l.length ≤ 1000000) {n : Nat} (hn : n ≤ l.length) : zae Tryz.prog Γ 79 [upV nn l n] m fun o m' => o = .ret (zaW nn (l.take n)) ∧ m' = m := by
 have hle : (l.take n).length ≤ 1000000 := by simp; omega
 cases nn
 ·have : l = [] := by simpa using h
  subst this
  have : n = 0 := by simpa using hn
  subst this
  exact zay pClone_nil
 ·by_cases h0 : 0 < n
  ·have := zay (pClone_ok (Γ := Γ) (m := m) (t := .full) trivial (l.take n) hle (.inl (by intro e; have := congrArg List.length e; rw [List.length_take] at this; simp only [zec] at this; omega)))
   simpa only [upV, if_pos h0] using this
  ·have := zay (pClone_ok (Γ := Γ) (m := m) (t := .zero true) rfl (l.take n) hle (.inr rfl))
   simpa only [upV, if_neg h0, if_true] using this
theorem nb_upV {k : Nat} {nn : Bool} {l : List Ent} {n : Nat} : nb k (upV nn l n) := by
 have := zc0 (k := k) za5 (l.take n)
 unfold upV
 split
 ·simp only [this, nbS]
 ·split <;> simp only [this, nbS]
theorem withL_le {x : Lg} {op : Int} (hx : lgB x = true) (h : (zcF x.b x.l.length op).2 = 0) : ∃ n : Nat, (zcF x.b x.l.length op).1 = (n : Int) ∧ n ≤ x.l.length ∧ op = x.b + n := by
 unfold zcF at h ⊢
 split at h
 ·cases h
 ·rename_i h1
  rw [if_neg h1]
  split at h
  ·cases h
  ·rename_i h2
   rw [if_neg h2]
   exact ⟨(op - x.b).toNat, by show op - x.b = _; omega, by omega, by omega⟩
theorem two_blk {X1 X2 : Blk} (h1 : nbB 0 X1) (h2 : nbB 0 X2) : ∀ X ∈ [X1, X2], nbB 0 X := by
 intro X hX
 simp only [List.mem_cons, List.not_mem_nil, or_false] at hX
 rcases hX with rfl | rfl <;> assumption
theorem two_get {h : Hl} {X1 X2 : Blk} {a b : Nat} (h1 : lk h a = some X1) (h2 : lk h b = some X2) : ∀ (i c : Nat) (X : Blk), [a, b][i]? = some c → [X1, X2][i]? = some X → lk h c = some X := by
 intro i c X hb hX
 match i with
 | 0 => cases hb; cases hX; exact h1
 | 1 => cases hb; cases hX; exact h2
 | i + 2 => simp at hb
def intB (n : Int) : Blk := .var 3 [it n]
theorem nb_intB (n : Int) : nbB 0 (intB n) := by simp only [intB, nbS]
end
theorem nameB_eq (b : UInt8) (r : List UInt8) : nameB (b :: r) = (decide ((b :: r).length ≤ 20) && let8 b && !(zaP.contains (b :: r)) && r.all fun x => let8 x || dig x) := by
 have hall : ∀ l : List UInt8, decide ((l.takeWhile fun x => let8 x || dig x).length = l.length) = l.all fun x => let8 x || dig x := by
  intro l
  induction l with
  | nil => rfl
  | cons x l ih =>
   rw [List.takeWhile_cons, List.all_cons]
   cases hx : (let8 x || dig x)
   ·simp
   ·simp only [if_true, zd4, zeH, Nat.add_right_cancel_iff]
    exact ih
 have hd : let8 b = true → dig b = false := by
  intro h
  cases hd : dig b
  ·rfl
  ·simp only [let8, dig, Bool.or_eq_true, zd6, decide_eq_true_eq, beq_iff_eq] at h hd
   omega
 simp only [nameB, hall, List.all_cons, List.headD_cons, show ((b :: r) == []) = false from rfl, zd8, zeH]
 cases h1 : let8 b
 ·cases dig b <;> cases zaP.contains (b :: r) <;> simp
 ·rw [hd h1]
  cases zaP.contains (b :: r) <;> simp
section
variable {Γ : Glob} {m : Store}
theorem rClient_ok (n : Int) : zae Tryz.prog Γ 120 [it n] m fun o m' => o = .ret (.val (.bool (zb4 n))) ∧ m' = m := by
 refine zay (zaE mixed F120_ok F120_h zaw (by first | exact LR.nil | simp only [nbS]) ?_)
 simp only [F120, ss0, zd3, zdY]
 simp only [ge_iff_le, ssH, zdY, zdW, reduceIte, zdX, zd2, zd0, zd1]
 cases h : decide (1 ≤ n)
 ·simp only [h, ssH, zdY, zdW, reduceIte, zdX, zd2, zd0, zd1]
  exact zac zad ⟨(by simp only [zaa, zab, nbS]), by simp only [zb4, h]; rfl⟩
 ·simp only [h, ssH, zdY, zdW, reduceIte, zdX, zd2, zd0, zd1]
  exact zac zad ⟨(by simp only [zaa, zab, nbS]), by simp only [zb4, h]; rfl⟩
theorem rName3_ok (s : List UInt8) : zae Tryz.prog Γ 121 [bs s] m fun o m' => o = .ret (.val (.bool (nameB s))) ∧ m' = m := by
 refine zay (zaE mixed F121_ok F121_h zaw (by first | exact LR.nil | simp only [nbS]) ?_)
 simp only [F121, ss0, zd3, zdY]
 simp only [zdO, gt_iff_lt, ssH, zdY, zdW, reduceIte, zdX, zd2, zd0, zd1]
 cases s with
 | nil =>
  simp only [show decide ((([] : List UInt8).length : Int) < 1) = true from rfl, zec, show decide (((0 : Nat) : Int) < 1) = true from rfl, ssH, zdY, zdW, reduceIte, zdX, zd2, zd0, zd1]
  exact zac zad ⟨(by simp only [zaa, zab, nbS]), rfl⟩
 | cons b r =>
  rw [nameB_eq]
  have hx : idxStrV (bs (b :: r)) (.val (.int .i64 0)) = some (by8 b) := zbE (i := 0) rfl
  have hd1 : decide ((((b :: r).length : Nat) : Int) < 1) = false := by simp only [zd4]; exact decide_eq_false (by omega)
  have hd1' : decide (((r.length + 1 : Nat) : Int) < 1) = false := decide_eq_false (by omega)
  by_cases hl : (b :: r).length ≤ 20
  ·have hd2 : decide ((20 : Int) < ((r.length + 1 : Nat) : Int)) = false := by simp only [zd4] at hl; exact decide_eq_false (by omega)
   have hl2 : decide ((b :: r).length ≤ 20) = true := decide_eq_true hl
   rw [hl2, zeH]
   simp only [hd1, hd1', hd2, hx, ssH, zdY, zdW, reduceIte, zdX, zd2, zd0, zd1]
   refine zah (by exact fun m => zdd b) (by first | exact LR.nil | simp only [nbS]) (by first | exact LR.nil | simp only [nbS]) ?_
   cases h1 : let8 b
   ·simp only [zd8, ssH, zdY, zdW, reduceIte, zdX, zd2, zd0, zd1]
    exact zac zad ⟨(by simp only [zaa, zab, nbS]), rfl⟩
   ·simp only [zd9, ssH, zdY, zdW, reduceIte, zdX, zd2, zd0, zd1]
    refine zah (by exact fun m => refWord_ok (b :: r)) (by first | exact LR.nil | simp only [nbS]) (by first | exact LR.nil | simp only [nbS]) ?_
    cases h2 : zaP.contains (b :: r)
    case true =>
     simp only [ssH, zdY, zdW, reduceIte, zdX, zd2, zd0, zd1]
     exact zac zad ⟨(by simp only [zaa, zab, nbS]), rfl⟩
    simp only [zd8, zeH, ssH, zdY, zdW, reduceIte, zdX, zd2, zd0, zd1]
    refine zdA [0, 3] 40 (fun n vs h => ∃ i : Nat, vs = [bs (b :: r), it (i + 1 : Nat)] ∧ i + n = r.length + 1 ∧ i ≤ r.length ∧ (r.take i).all (fun x => let8 x || dig x) = true) (r.length + 1) (by decide) (by decide) (zef 0) (zaB rfl (zek _) (by decide) (by simp) (by show nbs 0 [bs (b :: r), it 1]; simp only [nbS]) (fun a ha => by omega) ⟨0, rfl, by omega, by omega, by simp⟩) ?_
    rintro n t h J hJ hlt ⟨i, hv, hn, hi, hpre⟩
    simp only [zev, List.cons.injEq, and_true] at hv
    obtain ⟨g0, g3⟩ := hv
    rw [t_eq hlt]
    simp only [zat, upTo, g0, g3, zdO, ssH, zdY, zdW, reduceIte, zdX, zd2, zd0, zd1]
    by_cases hil : i < r.length
    ·have hx2 : (b :: r)[i + 1]? = some r[i] := by simp [zd7 hil]
     have hx3 : r[i]? = some r[i] := zd7 hil
     generalize r[i] = c at hx2 hx3
     have hany : (r.take (i + 1)).all (fun x => let8 x || dig x) = (let8 c || dig c) := by
      rw [zeh, hx3, List.all_append, hpre]
      simp
     have hfin : (let8 c || dig c) = false → r.all (fun x => let8 x || dig x) = false := by
      intro hc
      rw [List.all_eq_false]
      exact ⟨c, zen hx3, by simpa using hc⟩
     simp only [show decide (((i + 1 : Nat) : Int) < ((r.length + 1 : Nat) : Int)) = true from decide_eq_true (by omega), zbE hx2, ssH, zdY, zdW, reduceIte, zdX, zd2, zd0, zd1]
     refine zah (by exact fun m => zdd c) (by first | exact LR.nil | simp only [nbS]) (by first | exact LR.nil | simp only [nbS]) ?_
     cases h3 : let8 c
     ·simp only [zd8, zbE hx2, ssH, zdY, zdW, reduceIte, zdX, zd2, zd0, zd1]
      refine zah (by exact fun m => zdI c) (by first | exact LR.nil | simp only [nbS]) (by first | exact LR.nil | simp only [nbS]) ?_
      cases h4 : dig c
      ·simp only [zd8, ssH, zdY, zdW, reduceIte, zdX, zd2, zd0, zd1]
       exact zac zad ⟨(by simp only [zaa, zab, nbS]), by rw [hfin (by rw [h3, h4]; rfl)]; rfl⟩
      ·simp only [zd9, zas (show i + 1 < 4611686018427387904 by simp only [zd4] at hl; omega), ssH, zdY, zdW, reduceIte, zdX, zd2, zd0, zd1]
       refine ⟨_, hJ (n - 1) (zef 0) _ (by omega) (zaB rfl (zek _) (by decide) (by simp) (by show nbs 0 [bs (b :: r), it (i + 1 + 1 : Nat)]; simp only [nbS]) (fun a ha => by omega) ⟨i + 1, rfl, by omega, by omega, by rw [hany, h3, h4]; rfl⟩)⟩
     ·simp only [zd9, zas (show i + 1 < 4611686018427387904 by simp only [zd4] at hl; omega), ssH, zdY, zdW, reduceIte, zdX, zd2, zd0, zd1]
      refine ⟨_, hJ (n - 1) (zef 0) _ (by omega) (zaB rfl (zek _) (by decide) (by simp) (by show nbs 0 [bs (b :: r), it (i + 1 + 1 : Nat)]; simp only [nbS]) (fun a ha => by omega) ⟨i + 1, rfl, by omega, by omega, by rw [hany, h3]; rfl⟩)⟩
    ·simp only [show decide (((i + 1 : Nat) : Int) < ((r.length + 1 : Nat) : Int)) = false from decide_eq_false (by omega), ssH, zdY, zdW, reduceIte, zdX, zd2, zd0, zd1]
     rw [zes (by omega)] at hpre
     exact zac zad ⟨(by simp only [zaa, zab, nbS]), by rw [hpre]; rfl⟩
  ·have hd2 : decide ((20 : Int) < ((r.length + 1 : Nat) : Int)) = true := by simp only [zd4] at hl; exact decide_eq_true (by omega)
   have hl2 : decide ((b :: r).length ≤ 20) = false := decide_eq_false hl
   rw [hl2]
   simp only [hd1, hd1', hd2, Bool.false_and, ssH, zdY, zdW, reduceIte, zdX, zd2, zd0, zd1]
   exact zac zad ⟨(by simp only [zaa, zab, nbS]), rfl⟩
end
def lg0 : Lg := ⟨0, [], []⟩
theorem three_blk {X1 X2 X3 : Blk} (h1 : nbB 0 X1) (h2 : nbB 0 X2) (h3 : nbB 0 X3) : ∀ X ∈ [X1, X2, X3], nbB 0 X := by
 intro X hX
 simp only [List.mem_cons, List.not_mem_nil, or_false] at hX
 rcases hX with rfl | rfl | rfl <;> assumption
theorem three_get {h : Hl} {X1 X2 X3 : Blk} {a b d : Nat} (h1 : lk h a = some X1) (h2 : lk h b = some X2) (h3 : lk h d = some X3) : ∀ (i c : Nat) (X : Blk), [a, b, d][i]? = some c → [X1, X2, X3][i]? = some X → lk h c = some X := by
 intro i c X hb hX
 match i with
 | 0 => cases hb; cases hX; exact h1
 | 1 => cases hb; cases hX; exact h2
 | 2 => cases hb; cases hX; exact h3
 | i + 3 => simp at hb
section
variable {Γ : Glob} {m : Store}
theorem pOfL2_ok (E : Env Γ) {nn : Bool} {x : Lg} {g : FuncId} {X1 X2 : Blk} {a : Bool} {y : Lg} {e : Int} (ha : a = true ∨ y.l = []) (hX : ∀ X ∈ [X1, X2], nbB 0 X)
  (hdo : lgB x = true → KCalls Tryz.prog Γ g [] none [X1, X2] fun v => v = .tup [lgV a y, it e]) :
  KCalls Tryz.prog Γ 85 [lgV nn x] (some g) [X1, X2] fun v => v = if lgB x = true then (if e = 0 then .tup [lgV a y, it 0] else .tup [lgV false lg0, it e]) else .tup [lgV false lg0, it 4] := by
 have hnb := zaL (k := 0) nn x
 have hna := zaL (k := 0) a y
 have hn0 := zaL (k := 0) false lg0
 have hwa := wN_lgV ha
 have hw0 := wN_lgV (nn := false) (x := lg0) (.inr rfl)
 refine kcalls mixed F85_ok F85_h zaw (by simp only [hnb, nbS]) hX ?_
 simp only [F85, closA, zd4, zec, zdY, zef, List.range.loop, zev, lgV, ss0, zd3, zdY]
 simp only [zal, zaG, ssH, zdY, zdW, reduceIte, zdX, zd2, zd0, zd1]
 refine zah (by exact fun m => pCheck_ok E nn x) (by simp only [lgV] at hnb; simp only [hnb, nbS]) (by first | exact LR.nil | simp only [nbS]) ?_
 cases hx : lgB x
 ·simp only [zd5, if_false, ssH, zdY, zdW, reduceIte, zdX, zd2, zd0, zd1]
  exact zac (v := .tup [lgV false lg0, it 4]) rfl ⟨by simp only [wN, wNs, hw0, hn0, nbS], by simp only [wN, wNs, hw0]; rfl⟩
 ·simp only [if_true, ssH, zdY, zdW, reduceIte, zdX, zd2, zd0, zd1]
  refine hcall_k [0, 1] (hdo hx) rfl rfl (by decide) (two_get rfl rfl) (by first | exact LR.nil | simp only [nbS]) hX (by rintro v rfl; simp only [hna, nbS]) ?_
  rintro v rfl
  simp only [hdrop, lgV, zal, zaG, ssH, zdY, zdW, reduceIte, zdX, zd2, zd0, zd1]
  by_cases he : e = 0
  ·subst he
   simp only [if_true, zal, zaG, ssH, zdY, zdW, reduceIte, zdX, zd2, zd0, zd1]
   exact zac (v := .tup [lgV a y, it 0]) rfl ⟨by simp only [wN, wNs, hwa, hna, nbS], by simp only [wN, wNs, hwa]; rfl⟩
  ·have hb : (e != 0) = true := by simpa using he
   simp only [hb, if_neg he, zal, zaG, ssH, zdY, zdW, reduceIte, zdX, zd2, zd0, zd1]
   exact zac (v := .tup [lgV false lg0, it e]) rfl ⟨by simp only [wN, wNs, hw0, hn0, nbS], by simp only [wN, wNs, hw0]; rfl⟩
theorem pOfL3_ok (E : Env Γ) {nn : Bool} {x : Lg} {g : FuncId} {X1 X2 X3 : Blk} {a : Bool} {y : Lg} {e : Int} (ha : a = true ∨ y.l = []) (hX : ∀ X ∈ [X1, X2, X3], nbB 0 X)
  (hdo : lgB x = true → KCalls Tryz.prog Γ g [] none [X1, X2, X3] fun v => v = .tup [lgV a y, it e]) :
  KCalls Tryz.prog Γ 85 [lgV nn x] (some g) [X1, X2, X3] fun v => v = if lgB x = true then (if e = 0 then .tup [lgV a y, it 0] else .tup [lgV false lg0, it e]) else .tup [lgV false lg0, it 4] := by
 have hnb := zaL (k := 0) nn x
 have hna := zaL (k := 0) a y
 have hn0 := zaL (k := 0) false lg0
 have hwa := wN_lgV ha
 have hw0 := wN_lgV (nn := false) (x := lg0) (.inr rfl)
 refine kcalls mixed F85_ok F85_h zaw (by simp only [hnb, nbS]) hX ?_
 simp only [F85, closA, zd4, zec, zdY, zef, List.range.loop, zev, lgV, ss0, zd3, zdY]
 simp only [zal, zaG, ssH, zdY, zdW, reduceIte, zdX, zd2, zd0, zd1]
 refine zah (by exact fun m => pCheck_ok E nn x) (by simp only [lgV] at hnb; simp only [hnb, nbS]) (by first | exact LR.nil | simp only [nbS]) ?_
 cases hx : lgB x
 ·simp only [zd5, if_false, ssH, zdY, zdW, reduceIte, zdX, zd2, zd0, zd1]
  exact zac (v := .tup [lgV false lg0, it 4]) rfl ⟨by simp only [wN, wNs, hw0, hn0, nbS], by simp only [wN, wNs, hw0]; rfl⟩
 ·simp only [if_true, ssH, zdY, zdW, reduceIte, zdX, zd2, zd0, zd1]
  refine hcall_k [0, 1, 2] (hdo hx) rfl rfl (by decide) (three_get rfl rfl rfl) (by first | exact LR.nil | simp only [nbS]) hX (by rintro v rfl; simp only [hna, nbS]) ?_
  rintro v rfl
  simp only [hdrop, lgV, zal, zaG, ssH, zdY, zdW, reduceIte, zdX, zd2, zd0, zd1]
  by_cases he : e = 0
  ·subst he
   simp only [if_true, zal, zaG, ssH, zdY, zdW, reduceIte, zdX, zd2, zd0, zd1]
   exact zac (v := .tup [lgV a y, it 0]) rfl ⟨by simp only [wN, wNs, hwa, hna, nbS], by simp only [wN, wNs, hwa]; rfl⟩
  ·have hb : (e != 0) = true := by simpa using he
   simp only [hb, if_neg he, zal, zaG, ssH, zdY, zdW, reduceIte, zdX, zd2, zd0, zd1]
   exact zac (v := .tup [lgV false lg0, it e]) rfl ⟨by simp only [wN, wNs, hw0, hn0, nbS], by simp only [wN, wNs, hw0]; rfl⟩
def zca (nn : Bool) (x : Lg) (op : Int) : Bool × Lg × Int :=
 if (zcF x.b x.l.length op).2 = 0 then (nn, ⟨x.b, x.c, x.l.take (zcF x.b x.l.length op).1.toNat⟩, 0) else (false, lg0, (zcF x.b x.l.length op).2)
def doL (x : Lg) (r : Bool × Lg × Int) : Bool × Lg × Int := if lgB x = true then (if r.2.2 = 0 then r else (false, lg0, r.2.2)) else (false, lg0, 4)
theorem doL_nil {x : Lg} {r : Bool × Lg × Int} (h : r.1 = true ∨ r.2.1.l = []) : (doL x r).1 = true ∨ (doL x r).2.1.l = [] := by
 unfold doL
 split
 ·split
  ·exact h
  ·exact .inr rfl
 ·exact .inr rfl
theorem doL_v {x : Lg} {r : Bool × Lg × Int} : (if lgB x = true then (if r.2.2 = 0 then V.tup [lgV r.1 r.2.1, it 0] else .tup [lgV false lg0, it r.2.2]) else .tup [lgV false lg0, it 4]) = .tup [lgV (doL x r).1 (doL x r).2.1, it (doL x r).2.2] := by
 unfold doL
 by_cases h : lgB x = true
 ·by_cases he : r.2.2 = 0
  ·simp only [if_pos h, if_pos he]
   rw [he]
  ·simp only [if_pos h, if_neg he]
 ·simp only [if_neg h]
theorem cutIn_nil {nn : Bool} {x : Lg} (hn : nn = true ∨ x.l = []) {op : Int} : (zca nn x op).1 = true ∨ (zca nn x op).2.1.l = [] := by
 unfold zca
 split
 ·exact hn.imp id fun h => by rw [h, List.take_nil]
 ·exact .inr rfl
theorem pCut1_ok {nn : Bool} {x : Lg} (hn : nn = true ∨ x.l = []) (op : Int) (hx : lgB x = true) :
  KCalls Tryz.prog Γ 88 [] none [logB nn x, intB op] fun v => v = .tup [lgV (zca nn x op).1 (zca nn x op).2.1, it (zca nn x op).2.2] := by
 have hnb := zaL (k := 0) nn x
 have hle : x.l.length ≤ 64 := by simp only [lgB, zd6, decide_eq_true_eq] at hx; omega
 refine kcalls mixed F88_ok F88_h zaw (by first | exact LR.nil | simp only [nbS]) (two_blk (zdt nn x) (nb_intB op)) ?_
 simp only [F88, closA, logB, intB, zd4, zec, zdY, zef, List.range.loop, zev, ss0, zd3, zdY]
 simp only [ssH, zdY, zdW, reduceIte, zdX, zd2, zd0, zd1]
 refine zah (by exact fun m => pWithin_ok nn x op hx) (by simp only [lgV] at hnb; simp only [hnb, nbS]) (by first | exact LR.nil | simp only [nbS]) ?_
 by_cases he : (zcF x.b x.l.length op).2 = 0
 ·obtain ⟨n, h1, h2, _⟩ := withL_le hx he
  have hnd := zaD (k := 0) nn (x.l.take n)
  have hr : zca nn x op = (nn, ⟨x.b, x.c, x.l.take n⟩, 0) := by simp only [zca, he, h1, if_true, zeS]
  have hnl := zaL (k := 0) nn ⟨x.b, x.c, x.l.take n⟩
  have hw := wN_lgV (nn := nn) (x := ⟨x.b, x.c, x.l.take n⟩) (hn.imp id fun h => by simp [h])
  rw [hr]
  simp only [he, h1, if_true, za6, za7, optV, cut_upto hn h2, ssH, zdY, zdW, reduceIte, zdX, zd2, zd0, zd1]
  refine zah (by exact fun m => pClone_u hn (by omega) h2) (by simp only [nb_upV, nbS]) (by simp only [hnd]) ?_
  simp only [cells_ents, zaG, zal, ssH, zdY, zdW, reduceIte, zdX, zd2, zd0, zd1]
  exact zac (v := .tup [lgV nn ⟨x.b, x.c, x.l.take n⟩, it 0]) rfl ⟨by simp only [wN, wNs, hw, hnl, nbS], by simp only [wN, wNs, hw]⟩
 ·have hb : ((zcF x.b x.l.length op).2 != 0) = true := by simpa using he
  have hn0 := zaL (k := 0) false lg0
  have hw0 := wN_lgV (nn := false) (x := lg0) (.inr rfl)
  have hr : zca nn x op = (false, lg0, (zcF x.b x.l.length op).2) := by simp only [zca, if_neg he]
  rw [hr]
  simp only [hb, ssH, zdY, zdW, reduceIte, zdX, zd2, zd0, zd1]
  exact zac (v := .tup [lgV false lg0, it (zcF x.b x.l.length op).2]) rfl ⟨by simp only [wN, wNs, hw0, hn0, nbS], by simp only [wN, wNs, hw0]⟩
theorem pCut_ok (E : Env Γ) {nn : Bool} {x : Lg} (hn : nn = true ∨ x.l = []) (op : Int) :
  zae Tryz.prog Γ 44 [lgV nn x, it op] m fun o m' => o = .ret (.tup [lgV (doL x (zca nn x op)).1 (doL x (zca nn x op)).2.1, it (doL x (zca nn x op)).2.2]) ∧ m' = m := by
 have hnb := zaL (k := 0) nn x
 have hdn := doL_nil (x := x) (cutIn_nil hn (op := op))
 refine zay (zdE mixed F44_ok F44_h zaw (by simp only [hnb, nbS]) ?_)
 simp only [F44, lgV, ss0, zd3, zdY]
 simp only [zal, ssH, zdY, zdW, reduceIte, zdX, zd2, zd0, zd1]
 refine hcall_k [0, 1] (pOfL2_ok E (nn := nn) (x := x) (cutIn_nil hn (op := op)) (two_blk (zdt nn x) (nb_intB op)) (fun hx => pCut1_ok hn op hx)) rfl rfl (by decide) (two_get rfl rfl) (by simp only [hnb, nbS]) (two_blk (zdt nn x) (nb_intB op)) ?_ ?_
 ·rintro v rfl
  rw [doL_v]
  simp only [zaL, nbS]
 ·rintro v rfl
  rw [doL_v]
  generalize doL x (zca nn x op) = r at hdn
  obtain ⟨a, y, e⟩ := r
  have hwa := wN_lgV hdn
  have hna := zaL (k := 0) a y
  simp only [hdrop, lgV, zal, zaG, ssH, zdY, zdW, reduceIte, zdX, zd2, zd0, zd1]
  exact zac (v := .tup [lgV a y, it e]) rfl ⟨by simp only [wN, wNs, hwa, hna, nbS], by simp only [wN, wNs, hwa]; rfl⟩
end
theorem nbB_one {k : Nat} {A : Blk} {r : Hl} (hA : nbB k A) : ∀ a < 1, ∀ x, lk (some A :: r) a = some x → nbB k x := by
 intro a ha x hx
 have : a = 0 := by omega
 subst this
 cases hx
 exact hA
theorem nbs_cm (a b : Int) (c : List UInt8) : nbs 0 [.agg [it a, it b, bs c]] := by simp only [nbS]
section
variable {Γ : Glob} {m : Store}
set_option maxHeartbeats 6400000 in
theorem rRight19_ok (e : Ent) : zae Tryz.prog Γ 87 [entV e] m fun o m' => o = .ret (.val (.bool (entB e))) ∧ m' = m := by
 obtain ⟨c, q, k, n, s, ck, cn, cs⟩ := e
 refine zay (zaE mixed F87_ok F87_h zaw (by simp only [entV, nbS]) ?_)
 simp only [F87, entV, ss0, zd3, zdY]
 simp only [zal, ssH, zdY, zdW, reduceIte, zdX, zd2, zd0, zd1]
 refine zah (by exact fun m => rClient_ok c) (by first | exact LR.nil | simp only [nbS]) (by first | exact LR.nil | simp only [nbS]) ?_
 have hk : k = 1 ∨ k = 4 ∨ k = 2 ∨ k = 3 ∨ k = 5 ∨ k = 6 ∨ k = 7 ∨ (k ≠ 1 ∧ k ≠ 4 ∧ k ≠ 2 ∧ k ≠ 3 ∧ k ≠ 5 ∧ k ≠ 6 ∧ k ≠ 7) := by omega
 cases h1 : zb4 c
 ·simp only [zd8, ssH, zdY, zdW, reduceIte, zdX, zd2, zd0, zd1]
  exact zac zad ⟨(by simp only [zaa, zab, nbS]), by simp [tget, entB, h1]⟩
 simp only [zd9, ssH, zdY, zdW, reduceIte, zdX, zd2, zd0, zd1]
 refine zah (by exact fun m => rClient_ok q) (by first | exact LR.nil | simp only [nbS]) (by first | exact LR.nil | simp only [nbS]) ?_
 cases h2 : zb4 q
 ·simp only [zd8, ssH, zdY, zdW, reduceIte, zdX, zd2, zd0, zd1]
  exact zac zad ⟨(by simp only [zaa, zab, nbS]), by simp [tget, entB, h2]⟩
 simp only [zd9, ssH, zdY, zdW, reduceIte, zdX, zd2, zd0, zd1]
 rcases hk with rfl | rfl | rfl | rfl | rfl | rfl | rfl | ⟨n1, n4, n2, n3, n5, n6, n7⟩
 case inr.inr.inr.inr.inr.inr.inr =>
  have b7 : (k != 7) = true := by simpa using n7
  have b1 : (k != 1) = true := by simpa using n1
  cases h5 : decide (ck = 0 ∧ cn = 0 ∧ cs = []) <;> cases h3 : (s == []) <;> simp only [b7, b1, zdn, h5, bs_ne0, h3, zd9, zd8, ssH, zdY, zdW, reduceIte, zdX, zd2, zd0, zd1]
  case true.true =>
   simp only [show (k == 1) = false by simpa using n1, show (k == 4) = false by simpa using n4, show (k == 2) = false by simpa using n2, show (k == 3) = false by simpa using n3, show (k == 5) = false by simpa using n5, show (k == 6) = false by simpa using n6, show (k == 7) = false by simpa using n7, ssH, zdY, zdW, reduceIte, zdX, zd2, zd0, zd1]
   exact zac zad ⟨(by simp only [zaa, zab, nbS]), by simp [tget, entB, n1, n2, n3, n4, n5, n6, n7]⟩
  all_goals exact zac zad ⟨(by simp only [zaa, zab, nbS]), by simp [tget, entB, n1, n2, n3, n4, n5, n6, n7]⟩
 case inr.inr.inr.inr.inr.inr.inl =>
  cases h3 : (s == []) <;> cases h4 : (n == 0) <;> simp only [bs_ne0, h3, h4, zd9, zd8, ssH, zdY, zdW, reduceIte, zdX, zd2, zd0, zd1]
  case true.true =>
   refine zah (by exact fun m => kRight_ok ck cn cs) (nbs_cm _ _ _) (by first | exact LR.nil | simp only [nbS]) ?_
   simp only [ssH, zdY, zdW, reduceIte, zdX, zd2, zd0, zd1]
   exact zac zad ⟨(by simp only [zaa, zab, nbS]), by simp only [zaa, zab, entB, h1, h2, h3, h4]; rfl⟩
  all_goals exact zac zad ⟨(by simp only [zaa, zab, nbS]), by simp only [zaa, zab, entB, h1, h2, h3, h4]; rfl⟩
 case inl =>
  cases h5 : decide (ck = 0 ∧ cn = 0 ∧ cs = [])
  ·simp only [zdn, h5, zd8, ssH, zdY, zdW, reduceIte, zdX, zd2, zd0, zd1]
   exact zac zad ⟨(by simp only [zaa, zab, nbS]), by simp only [zaa, zab, entB, noCmd, h1, h2, h5, zeR]; rfl⟩
  ·simp only [zdn, h5, zd9, ssH, zdY, zdW, reduceIte, zdX, zd2, zd0, zd1]
   refine zah (by exact fun m => rName3_ok s) (by first | exact LR.nil | simp only [nbS]) (by first | exact LR.nil | simp only [nbS]) ?_
   cases h3 : nameB s <;> cases h4 : (n == 0) <;> cases h6 : (n == 1) <;> simp only [h4, h6, ssH, zdY, zdW, reduceIte, zdX, zd2, zd0, zd1] <;> exact zac zad ⟨(by simp only [zaa, zab, nbS]), by simp only [zaa, zab, entB, noCmd, h1, h2, h3, h4, h5, h6]; rfl⟩
 case inr.inl =>
  cases h5 : decide (ck = 0 ∧ cn = 0 ∧ cs = []) <;> cases h3 : (s == []) <;> simp only [zdn, h5, bs_ne0, h3, zd9, zd8, ssH, zdY, zdW, reduceIte, zdX, zd2, zd0, zd1]
  case true.true =>
   refine zah (by exact fun m => rClient_ok n) (by first | exact LR.nil | simp only [nbS]) (by first | exact LR.nil | simp only [nbS]) ?_
   simp only [ssH, zdY, zdW, reduceIte, zdX, zd2, zd0, zd1]
   exact zac zad ⟨(by simp only [zaa, zab, nbS]), by simp only [zaa, zab, entB, noCmd, h1, h2, h3, h5]; cases zb4 n <;> rfl⟩
  all_goals exact zac zad ⟨(by simp only [zaa, zab, nbS]), by simp only [zaa, zab, entB, noCmd, h1, h2, h3, h5, zeR]; rfl⟩
 all_goals
  cases h5 : decide (ck = 0 ∧ cn = 0 ∧ cs = []) <;> cases h3 : (s == []) <;> cases h4 : (n == 0) <;> simp only [zdn, h4, h5, bs_ne0, h3, zd9, zd8, ssH, zdY, zdW, reduceIte, zdX, zd2, zd0, zd1] <;> exact zac zad ⟨(by simp only [zaa, zab, nbS]), by simp only [zaa, zab, entB, noCmd, h1, h2, h3, h4, h5, zeR]; rfl⟩
theorem rRight20_ok (nn : Bool) (x : Lg) : zae Tryz.prog Γ 53 [lgV nn x] m fun o m' => o = .ret (.val (.bool (lgB x))) ∧ m' = m := by
 obtain ⟨b, c, l⟩ := x
 have hnb := zaL (k := 0) nn ⟨b, c, l⟩
 have hnl := zaD (k := 0) nn l
 have hlb := zdt nn ⟨b, c, l⟩
 have hno : lgB ⟨b, c, l⟩ ≠ true → V.val (.bool false) = .val (.bool (lgB ⟨b, c, l⟩)) := fun h => by rw [Bool.eq_false_iff.2 h]
 refine zay (zaE mixed F53_ok F53_h zaw (by simp only [hnb, nbS]) ?_)
 simp only [F53, lgV, ss0, zd3, zdY]
 simp only [zaW, zed, gt_iff_lt, zdD, zal, ssH, zdY, zdW, reduceIte, zdX, zd2, zd0, zd1]
 by_cases h1 : b < 0
 ·simp only [decide_eq_true h1, ssH, zdY, zdW, reduceIte, zdX, zd2, zd0, zd1]
  exact zac zad ⟨(by simp only [zaa, zab, nbS]), hno fun h => by simp only [lgB, zd6, decide_eq_true_eq] at h; omega⟩
 simp only [decide_eq_false h1, ssH, zdY, zdW, reduceIte, zdX, zd2, zd0, zd1]
 by_cases h2 : 2147483647 < b
 ·simp only [decide_eq_true h2, ssH, zdY, zdW, reduceIte, zdX, zd2, zd0, zd1]
  exact zac zad ⟨(by simp only [zaa, zab, nbS]), hno fun h => by simp only [lgB, zd6, decide_eq_true_eq] at h; omega⟩
 simp only [decide_eq_false h2, ssH, zdY, zdW, reduceIte, zdX, zd2, zd0, zd1]
 by_cases h3 : (65536 : Int) < (c.length : Int)
 ·simp only [decide_eq_true h3, ssH, zdY, zdW, reduceIte, zdX, zd2, zd0, zd1]
  exact zac zad ⟨(by simp only [zaa, zab, nbS]), hno fun h => by simp only [lgB, zd6, decide_eq_true_eq] at h; omega⟩
 simp only [decide_eq_false h3, neq_bool, zdD, ssH, zdY, zdW, reduceIte, zdX, zd2, zd0, zd1]
 cases h4 : ((c == []) != (b == 0))
 case true =>
  simp only [ssH, zdY, zdW, reduceIte, zdX, zd2, zd0, zd1]
  refine zac zad ⟨(by simp only [zaa, zab, nbS]), hno fun h => ?_⟩
  simp only [lgB, zd6, beq_iff_eq] at h
  rw [h.1.1.1.2] at h4
  simp at h4
 simp only [zed, gt_iff_lt, ssH, zdY, zdW, reduceIte, zdX, zd2, zd0, zd1]
 by_cases h5 : (64 : Int) < (l.length : Int)
 ·simp only [decide_eq_true h5, ssH, zdY, zdW, reduceIte, zdX, zd2, zd0, zd1]
  exact zac zad ⟨(by simp only [zaa, zab, nbS]), hno fun h => by simp only [lgB, zd6, decide_eq_true_eq] at h; omega⟩
 have hw : IntKind.i64.wrap (2147483647 - b) = 2147483647 - b := wrap_i64 (by omega) (by omega)
 simp only [decide_eq_false h5, zed, gt_iff_lt, hw, ssH, zdY, zdW, reduceIte, zdX, zd2, zd0, zd1]
 by_cases h6 : 2147483647 - b < (l.length : Int)
 ·simp only [decide_eq_true h6, ssH, zdY, zdW, reduceIte, zdX, zd2, zd0, zd1]
  exact zac zad ⟨(by simp only [zaa, zab, nbS]), hno fun h => by simp only [lgB, zd6, decide_eq_true_eq] at h; omega⟩
 simp only [decide_eq_false h6, ssH, zdY, zdW, reduceIte, zdX, zd2, zd0, zd1]
 have hb : lgB ⟨b, c, l⟩ = l.all entB := by
  have h4' : ((c == []) == (b == 0)) = true := by
   revert h4
   cases (c == []) <;> cases (b == 0) <;> simp
  simp only [lgB, h4', decide_eq_true (show (0 : Int) ≤ b by omega), decide_eq_true (show b ≤ 2147483647 by omega), decide_eq_true (show c.length ≤ 65536 by omega), decide_eq_true (show l.length ≤ 64 by omega), decide_eq_true (show (l.length : Int) ≤ 2147483647 - b by omega), zeH]
 rw [hb]
 refine zdA [1, 3] 56 (fun n vs h => ∃ i : Nat, vs = [.ptr 0 0, it i] ∧ h = [some (logB nn ⟨b, c, l⟩)] ∧ i + n = l.length + 1 ∧ i ≤ l.length ∧ (l.take i).all entB = true) (l.length + 1) (by decide) (by decide) (zef 1) (zaB rfl (zeQ _) (by decide) (by simp) (by show nbs 1 [.ptr 0 0, it 0]; simp only [nbS]; decide) (nbB_one (by have := zaD (k := 1) nn l; simp only [zaW, nbS] at this; simp only [this, nbS])) ⟨0, rfl, rfl, by omega, by omega, by simp⟩) ?_
 rintro n t h J hJ hlt ⟨i, hv, rfl, hn, hi, hpre⟩
 simp only [zev, List.cons.injEq, and_true] at hv
 obtain ⟨g1, g3⟩ := hv
 rw [t_eq hlt]
 simp only [zat, upTo, g1, g3, logB, zaW, zed, ssH, zdY, zdW, reduceIte, zdX, zd2, zd0, zd1]
 by_cases hil : i < l.length
 ·rw [show decide ((i : Int) < (l.length : Int)) = true by simp; omega]
  have hx : l[i]? = some l[i] := zd7 hil
  generalize l[i] = e at hx
  have hne := za5 (k := 0) e
  have hall : (l.take (i + 1)).all entB = entB e := by
   rw [zeh, hx, List.all_append, hpre]
   simp
  simp only [idx_ent hx, ssH, zdY, zdW, reduceIte, zdX, zd2, zd0, zd1]
  refine zah (by exact fun m => rRight19_ok e) (by simp only [entV] at hne; simp only [hne, nbS]) (by first | exact LR.nil | simp only [nbS]) ?_
  cases he : entB e
  ·simp only [zd8, ssH, zdY, zdW, reduceIte, zdX, zd2, zd0, zd1]
   refine zac zad ⟨(by simp only [zaa, zab, nbS]), ?_⟩
   have : l.all entB = false := by
    rw [List.all_eq_false]
    exact ⟨e, zen hx, by rw [he]; decide⟩
   rw [this]
   rfl
  ·simp only [zd9, zas (show i < 4611686018427387904 by omega), ssH, zdY, zdW, reduceIte, zdX, zd2, zd0, zd1]
   refine ⟨_, hJ (n - 1) (zef 1) _ (by omega) (zaB rfl (zeQ _) (by decide) (by simp) (by show nbs 1 [.ptr 0 0, it (i + 1 : Nat)]; simp only [nbS]; decide) (nbB_one (by have := zaD (k := 1) nn l; simp only [zaW, nbS] at this; simp only [this, nbS])) ⟨i + 1, rfl, rfl, by omega, by omega, by rw [hall, he]⟩)⟩
 ·rw [show decide ((i : Int) < (l.length : Int)) = false by simp; omega]
  simp only [ssH, zdY, zdW, reduceIte, zdX, zd2, zd0, zd1]
  rw [zes (by omega)] at hpre
  rw [hpre]
  exact zac zad ⟨(by simp only [zaa, zab, nbS]), rfl⟩
theorem zdw (nn : Bool) (x : Lg) : zae Tryz.prog Γ 39 [lgV nn x] m fun o m' => o = .ret (it (if lgB x = true then x.b + x.l.length else 0)) ∧ m' = m := by
 have hnb := zaL (k := 0) nn x
 have hnl := zaD (k := 0) nn x.l
 refine zay (zaE mixed F39_ok F39_h zaw (by simp only [hnb, nbS]) ?_)
 simp only [F39, lgV, ss0, zd3, zdY]
 simp only [zal, ssH, zdY, zdW, reduceIte, zdX, zd2, zd0, zd1]
 refine zah (by exact fun m => rRight20_ok nn x) (by simp only [hnl, nbS]) (by first | exact LR.nil | simp only [nbS]) ?_
 cases h : lgB x
 ·simp only [zd8, zd5, if_false, ssH, zdY, zdW, reduceIte, zdX, zd2, zd0, zd1]
  exact zac zad ⟨(by simp only [zaa, zab, nbS]), rfl⟩
 ·have hx : 0 ≤ x.b ∧ x.b ≤ 2147483647 ∧ x.l.length ≤ 64 := by simp only [lgB, zd6, decide_eq_true_eq] at h; omega
  have hw : IntKind.i64.wrap (x.b + (x.l.length : Int)) = x.b + (x.l.length : Int) := wrap_i64 (by omega) (by omega)
  simp only [zd9, if_true, zaW, zed, hw, ssH, zdY, zdW, reduceIte, zdX, zd2, zd0, zd1]
  exact zac zad ⟨(by simp only [zaa, zab, nbS]), rfl⟩
def badL (x : Lg) (op : Int) : Int := if lgB x = true then (zcF x.b x.l.length op).2 else 4
theorem rBad_ok (nn : Bool) (x : Lg) (op : Int) : zae Tryz.prog Γ 80 [lgV nn x, it op] m fun o m' => o = .ret (it (badL x op)) ∧ m' = m := by
 have hnb := zaL (k := 0) nn x
 have hnl := zaD (k := 0) nn x.l
 refine zay (zaE mixed F80_ok F80_h zaw (by simp only [hnb, nbS]) ?_)
 simp only [F80, lgV, ss0, zd3, zdY]
 simp only [zal, gt_iff_lt, ssH, zdY, zdW, reduceIte, zdX, zd2, zd0, zd1]
 refine zah (by exact fun m => rRight20_ok nn x) (by simp only [hnl, nbS]) (by first | exact LR.nil | simp only [nbS]) ?_
 unfold badL zcF
 cases h : lgB x
 ·simp only [zd8, zd5, if_false, ssH, zdY, zdW, reduceIte, zdX, zd2, zd0, zd1]
  exact zac zad ⟨(by simp only [zaa, zab, nbS]), rfl⟩
 ·simp only [zd9, if_true, ssH, zdY, zdW, reduceIte, zdX, zd2, zd0, zd1]
  by_cases h1 : op < x.b
  ·simp only [decide_eq_true h1, if_pos h1, ssH, zdY, zdW, reduceIte, zdX, zd2, zd0, zd1]
   exact zac zad ⟨(by simp only [zaa, zab, nbS]), rfl⟩
  ·simp only [decide_eq_false h1, if_neg h1, ssH, zdY, zdW, reduceIte, zdX, zd2, zd0, zd1]
   refine zah (by exact fun m => zdw nn x) (by simp only [hnl, nbS]) (by first | exact LR.nil | simp only [nbS]) ?_
   simp only [h, if_true, ssH, zdY, zdW, reduceIte, zdX, zd2, zd0, zd1]
   by_cases h2 : x.b + (x.l.length : Int) < op
   ·simp only [decide_eq_true h2, if_pos h2, ssH, zdY, zdW, reduceIte, zdX, zd2, zd0, zd1]
    exact zac zad ⟨(by simp only [zaa, zab, nbS]), rfl⟩
   ·simp only [decide_eq_false h2, if_neg h2, ssH, zdY, zdW, reduceIte, zdX, zd2, zd0, zd1]
    exact zac zad ⟨(by simp only [zaa, zab, nbS]), rfl⟩
end
end Go.Av.Fn
/- Entries compared; rows of them. Conditions: az ahead. -/
namespace Go.Av
set_option linter.unusedSimpArgs false
set_option linter.unusedVariables false
section
variable {P : Program}
def eqF2 (P : Program) (T0 : TypeId) (xs ys : Array Value) : List Field → Option Bool
 | [] => some true
 | f :: fs => if f.name = "_" then eqF2 P T0 xs ys fs else match zaA P (part f.type xs f.offset), zaA P (part f.type ys f.offset) with
  | some a, some b => match (match a, b with | .agg az', .agg bs' => if f.type = T0 then eqF P az' bs' (P.fieldsOf T0).toList else none | a, b => eqField P f.type a b), eqF2 P T0 xs ys fs with
   | some r, some q => some (r && q)
   | _, _ => none
  | _, _ => none
theorem eqF2_sound {T0 : TypeId} (ht : P.underlying T0 = some (.struct (P.fieldsOf T0))) (hp : P.stoodInHeld T0 = false) {xs ys : Array Value} {d : Nat} : ∀ {fs : List Field} {r : Bool}, eqF2 P T0 xs ys fs = some r → zaA P (Op.eqFields (d + 1 + 1) xs ys fs) = some r
 | [], r, h => by
  simp only [eqF2, Option.some.injEq] at h
  subst h
  rfl
 | f :: fs, r, h => by
  simp only [eqF2] at h
  split at h
  ·rename_i hn
   simp only [Op.eqFields, hn, ne_eq, not_true_eq_false, if_false]
   exact eqF2_sound ht hp h
  ·rename_i hn
   split at h
   ·rename_i a b ha hb
    split at h
    ·rename_i q1 q2 h1 h2
     simp only [Option.some.injEq] at h
     subst h
     have key : zaA P (Op.equalIn (d + 1 + 1) f.type a b) = some q1 := by
      split at h1
      ·split at h1
       ·rename_i e
        rw [e, zbJ _ _ _ _ ht hp]
        exact eqF_sound h1
       ·cases h1
      ·exact eqField_sound h1
     simp only [Op.eqFields, ne_eq, hn, not_false_eq_true, if_true, zaF, ha, hb, zel, key]
     cases q1
     ·rfl
     ·simpa using eqF2_sound ht hp h2
    ·cases h
   ·cases h
theorem struct_eq2 {T T0 : TypeId} {xo yo : Operand} {cs cs' : List V} {xs ys : List Value} {r : Bool} (ht : P.underlying T = some (.struct (P.fieldsOf T))) (hp : P.stoodInHeld T = false) (hg : P.eqGuardType P.depth T = false)
  (ht0 : P.underlying T0 = some (.struct (P.fieldsOf T0))) (hp0 : P.stoodInHeld T0 = false)
  (h1 : raws cs = some xs) (h2 : raws cs' = some ys) (he : eqF2 P T0 xs.toArray ys.toArray (P.fieldsOf T).toList = some r) :
  binV P .eql T .other xo yo (.agg cs) (.agg cs') = some (.val (.bool r)) ∧ binV P .neq T .other xo yo (.agg cs) (.agg cs') = some (.val (.bool !r)) := by
 have e0 : zaA P (Op.equal T (.agg xs.toArray) (.agg ys.toArray)) = some r := by
  show zaA P (Op.equalIn (9997 + 1 + 1 + 1) T _ _) = some r
  rw [zbJ _ _ _ _ ht hp]
  exact eqF2_sound ht0 hp0 he
 have g : ∀ op, zaA P (eqGuard op T xo yo (.agg xs.toArray) (.agg ys.toArray)) = some () := by
  intro op
  unfold eqGuard
  split <;> simp only [zd9, zd8, zd5, if_false, if_true, zaF, zcs, zel, hg, zaY]
 have r1 : raw (.agg cs) = some (.agg xs.toArray) := by simp only [raw, h1, Option.map_some]
 have r2 : raw (.agg cs') = some (.agg ys.toArray) := by simp only [raw, h2, Option.map_some]
 refine ⟨?_, ?_⟩
 ·simp only [binV, zch, zaQ, Bool.false_and, zeR, Bool.or_false, zd5, if_false, r1, r2, isSliceC, binOp, zaF, g, zel, e0, zaY]
  rfl
 ·simp only [binV, zch, zaQ, Bool.false_and, zeR, Bool.or_false, zd5, if_false, r1, r2, isSliceC, binOp, zaF, g, zel, e0, zaY]
  rfl
end
end Go.Av
namespace Go.Av.Fn
set_option linter.unusedSimpArgs false
set_option linter.unusedVariables false
set_option maxRecDepth 10000
open Go.Proofs
theorem ent_cmp (xo yo : Operand) (a b : Ent) : binV Tryz.prog .eql 60 .other xo yo (entV a) (entV b) = some (.val (.bool (decide (a = b)))) ∧ binV Tryz.prog .neq 60 .other xo yo (entV a) (entV b) = some (.val (.bool (!decide (a = b)))) := by
 obtain ⟨c, q, k, n, s, ck, cn, cs⟩ := a
 obtain ⟨c', q', k', n', s', ck', cn', cs'⟩ := b
 have h := struct_eq2 (P := Tryz.prog) (T := 60) (T0 := 24) (xo := xo) (yo := yo) (cs := [it c, it q, it k, it n, bs s, it ck, it cn, bs cs]) (cs' := [it c', it q', it k', it n', bs s', it ck', it cn', bs cs'])
  (xs := [.int .i64 c, .int .i64 q, .int .i64 k, .int .i64 n, .string ⟨s.toArray⟩, .int .i64 ck, .int .i64 cn, .string ⟨cs.toArray⟩]) (ys := [.int .i64 c', .int .i64 q', .int .i64 k', .int .i64 n', .string ⟨s'.toArray⟩, .int .i64 ck', .int .i64 cn', .string ⟨cs'.toArray⟩])
  (r := (c == c' && (q == q' && (k == k' && (n == n' && ((ByteArray.mk s.toArray).toList == (ByteArray.mk s'.toArray).toList && ((ck == ck' && (cn == cn' && ((ByteArray.mk cs.toArray).toList == (ByteArray.mk cs'.toArray).toList && true))) && true)))))))
  (by kernel_rfl) (by kernel_rfl) (by kernel_rfl) (by kernel_rfl) (by kernel_rfl) rfl rfl (by kernel_rfl)
 have e : (c == c' && (q == q' && (k == k' && (n == n' && ((ByteArray.mk s.toArray).toList == (ByteArray.mk s'.toArray).toList && ((ck == ck' && (cn == cn' && ((ByteArray.mk cs.toArray).toList == (ByteArray.mk cs'.toArray).toList && true))) && true)))))) = decide ((⟨c, q, k, n, s, ck, cn, cs⟩ : Ent) = ⟨c', q', k', n', s', ck', cn', cs'⟩) := by
  simp only [zbZ]
  rw [zeB]
  simp [and_assoc]
 rw [e] at h
 exact h
theorem relNo {G : Gh} {es more : List V} {tok : Tok} {u : Value} (h : RelV G (.sl es more tok) u) : RelV G (.sl es more .no) u := by
 cases h with
 | nil h => exact .nil rfl
 | sl a b c d e f => exact .sl a b c d e trivial
theorem acalls_weak {P : Program} {Γ : Glob} {f : FuncId} {args args' : List V} {m : Store} {R : Out → Store → Prop} (h : ∀ G cargs, RelL G args cargs → RelL G args' cargs) (hc : zae P Γ f args' m R) : zae P Γ f args m R :=
 ⟨hc.1, fun G B0 mF w cargs hD hR hL => hc.2 G B0 mF w cargs hD hR (h G cargs hL)⟩
section
variable {Γ : Glob} {m : Store}
theorem pSameE_ok (nn : Bool) {t : Tok} (la lb : List Ent) (ht : nbT 0 t) (hl : la.length < 4611686018427387904) :
  zae Tryz.prog Γ 40 [.sl (la.map entV) [] t, zaW nn lb] m fun o m' => o = .ret (.val (.bool (decide (la = lb)))) ∧ m' = m := by
 have hnb := zaD (k := 0) nn lb
 have hna := zc0 (k := 0) za5 la
 refine zay (zaE mixed F40_ok F40_h zaw (by simp only [hnb, hna, ht, nbS]) ?_)
 simp only [F40, ss0, zd3, zdY]
 simp only [zaW, zed, ssH, zdY, zdW, reduceIte, zdX, zd2, zd0, zd1]
 by_cases h0 : la.length = lb.length
 case neg =>
  have hb : ((la.length : Int) != (lb.length : Int)) = true := by simp; omega
  simp only [hb, ssH, zdY, zdW, reduceIte, zdX, zd2, zd0, zd1]
  exact zac zad ⟨(by simp only [zaa, zab, nbS]), by rw [decide_eq_false (by rintro rfl; exact h0 rfl)]; rfl⟩
 have hb : ((la.length : Int) != (lb.length : Int)) = false := by simp; omega
 simp only [hb, ssH, zdY, zdW, reduceIte, zdX, zd2, zd0, zd1]
 refine zdA [0, 1, 5] 26 (fun n vs h => ∃ i : Nat, vs = [.sl (la.map entV) [] t, zaW nn lb, it i] ∧ i + n = la.length + 1 ∧ i ≤ la.length ∧ la.take i = lb.take i) (la.length + 1) (by decide) (by decide) (zef 0) (zaB rfl (zek _) (by decide) (by simp) (by show nbs 0 [.sl (la.map entV) [] t, zaW nn lb, it 0]; simp only [hnb, hna, ht, nbS]) (fun a ha => by omega) ⟨0, rfl, by omega, by omega, by simp⟩) ?_
 rintro n t1 h J hJ hlt ⟨i, hv, hn, hi, hpre⟩
 simp only [zev, List.cons.injEq, and_true] at hv
 obtain ⟨h0', h1, h5⟩ := hv
 rw [t_eq hlt]
 simp only [zat, upTo, h0', h1, h5, zaW, zed, ssH, zdY, zdW, reduceIte, zdX, zd2, zd0, zd1]
 by_cases hil : i < la.length
 ·rw [show decide ((i : Int) < (la.length : Int)) = true by simp; omega]
  have hx : la[i]? = some la[i] := zd7 hil
  have hy : lb[i]? = some (lb[i]'(by omega)) := zd7 (by omega)
  generalize la[i] = a at hx
  generalize (lb[i]'(by omega)) = b at hy
  have hc := (ent_cmp (.tmp 20) (.tmp 24) a b).2
  simp only [entV] at hc
  simp only [idx_ent hx, idx_ent hy, hc, ssH, zdY, zdW, reduceIte, zdX, zd2, zd0, zd1]
  by_cases he : a = b
  ·simp only [decide_eq_true he, zd9, zas (show i < 4611686018427387904 by omega), ssH, zdY, zdW, reduceIte, zdX, zd2, zd0, zd1]
   refine ⟨_, hJ (n - 1) (zef 0) _ (by omega) (zaB rfl (zek _) (by decide) (by simp) (by show nbs 0 [.sl (la.map entV) [] t, zaW nn lb, it (i + 1 : Nat)]; simp only [hnb, hna, ht, nbS]) (fun a ha => by omega) ⟨i + 1, rfl, by omega, by omega, by rw [zeh, zeh, hx, hy, hpre, he]⟩)⟩
  ·simp only [decide_eq_false he, zd8, ssH, zdY, zdW, reduceIte, zdX, zd2, zd0, zd1]
   refine zac zad ⟨(by simp only [zaa, zab, nbS]), ?_⟩
   rw [decide_eq_false]
   ·rfl
   ·rintro rfl
    rw [hx] at hy
    exact he (Option.some.inj hy)
 ·rw [show decide ((i : Int) < (la.length : Int)) = false by simp; omega]
  simp only [ssH, zdY, zdW, reduceIte, zdX, zd2, zd0, zd1]
  refine zac zad ⟨(by simp only [zaa, zab, nbS]), ?_⟩
  rw [zes (by omega), zes (by omega)] at hpre
  rw [decide_eq_true hpre]
  rfl
theorem pSameE_any (nn : Bool) {t : Tok} (la lb : List Ent) (hl : la.length < 4611686018427387904) :
  zae Tryz.prog Γ 40 [.sl (la.map entV) [] t, zaW nn lb] m fun o m' => o = .ret (.val (.bool (decide (la = lb)))) ∧ m' = m := by
 refine acalls_weak (fun G cargs h => ?_) (pSameE_ok nn (t := .no) la lb trivial hl)
 cases h with
 | cons a b => exact .cons (relNo a) b
end
/-! ### Entries between two numbers -/
def cndB (base a b : Int) (i : Nat) : Bool := decide (a < base + 1 + i) && decide (base + 1 + i ≤ b)
def bet (base a b : Int) : Nat → List Ent → List Ent
 | _, [] => []
 | i, e :: l => if cndB base a b i = true then e :: bet base a b (i + 1) l else bet base a b (i + 1) l
theorem bet_app {base a b : Int} : ∀ (l1 l2 : List Ent) (i : Nat), bet base a b i (l1 ++ l2) = bet base a b i l1 ++ bet base a b (i + l1.length) l2
 | [], l2, i => rfl
 | e :: l1, l2, i => by
  simp only [List.cons_append, bet, zd4]
  rw [bet_app l1 l2 (i + 1), show i + 1 + l1.length = i + (l1.length + 1) by omega]
  split <;> rfl
theorem bet_len {base a b : Int} : ∀ (l : List Ent) (i : Nat), (bet base a b i l).length ≤ l.length
 | [], i => zek _
 | e :: l, i => by
  have := bet_len (base := base) (a := a) (b := b) l (i + 1)
  simp only [bet, zd4]
  split <;> simp <;> omega
theorem bet_drop {base a b : Int} {n : Nat} : ∀ (l : List Ent) (i : Nat), (∀ j, i ≤ j → j < i + l.length → cndB base a b j = decide (n ≤ j)) → bet base a b i l = l.drop (n - i)
 | [], i, _ => by simp [bet]
 | e :: l, i, h => by
  have h0 := h i (zek _) (by simp)
  have ih := bet_drop (base := base) (a := a) (b := b) (n := n) l (i + 1) fun j h1 h2 => h j (by omega) (by simp only [zd4]; omega)
  simp only [bet, h0]
  by_cases hn : n ≤ i
  ·rw [if_pos (decide_eq_true hn), ih, show n - i = 0 by omega, show n - (i + 1) = 0 by omega]
   rfl
  ·rw [if_neg (by simpa using hn), ih, show n - i = (n - (i + 1)) + 1 by omega]
   rfl
theorem bet_take {base a b : Int} {n : Nat} : ∀ (l : List Ent) (i : Nat), (∀ j, i ≤ j → j < i + l.length → cndB base a b j = decide (j < n)) → bet base a b i l = l.take (n - i)
 | [], i, _ => by simp [bet]
 | e :: l, i, h => by
  have h0 := h i (zek _) (by simp)
  have ih := bet_take (base := base) (a := a) (b := b) (n := n) l (i + 1) fun j h1 h2 => h j (by omega) (by simp only [zd4]; omega)
  simp only [bet, h0]
  by_cases hn : i < n
  ·rw [if_pos (decide_eq_true hn), ih, show n - i = (n - (i + 1)) + 1 by omega]
   rfl
  ·rw [if_neg (by simpa using hn), ih, show n - i = 0 by omega, show n - (i + 1) = 0 by omega]
   simp
def entsN (l : List Ent) : V := zaW (!l.isEmpty) l
def Be (out : List Ent) (tok : Tok) (r : Hl) : Prop := tok = .full ∧ out = [] ∧ r = [] ∨ ∃ k, tok = .tip 1 k ∧ out ≠ [] ∧ r = [some (.tip 60 k)]
theorem be_nb {out : List Ent} {tok : Tok} {r : Hl} (h : Be out tok r) : nb (1 + r.length) (.sl (out.map entV) [] tok) := by
 rcases h with ⟨rfl, rfl, rfl⟩ | ⟨k, rfl, _, rfl⟩
 ·simp only [List.map_nil, nbS]
 ·have := zc0 (k := 2) za5 out
  simp only [zd4, zec, this, nbS]
  decide
theorem be_blk {X : Blk} {out : List Ent} {tok : Tok} {r : Hl} (h : Be out tok r) (hX : ∀ k, nbB k X) : ∀ a < 1 + r.length, ∀ x, lk (some X :: r) a = some x → nbB (1 + r.length) x := by
 intro a ha x hx
 rcases h with ⟨rfl, rfl, rfl⟩ | ⟨k, rfl, _, rfl⟩
 ·have : a = 0 := by simp at ha; omega
  subst this
  cases hx
  exact hX _
 ·have : a = 0 ∨ a = 1 := by simp at ha; omega
  rcases this with rfl | rfl
  ·cases hx
   exact hX _
  ·cases hx
   simp only [nbS]
theorem be_app {Γ : Glob} {Kp : V → Hl → Prop} {s : List (Tmp × Option (Tmp × Bool) × AOp)} {l : List Item} {K : HS → Prop} {t : List V} {d : Option Tmp} {X : Blk} {out : List Ent} {tok : Tok} {r : Hl} {e : Ent} (h : Be out tok r) (hb : out.length ≤ 1000000)
  (hr : ∀ k, hth Tryz.prog Γ Kp s l K (hput t [some X, some (.tip 60 k)] d (some (.sl ((out ++ [e]).map entV) [] (.tip 1 k))))) : happS Tryz.prog Γ Kp 60 80 8 (.sl (out.map entV) [] tok) (.sl [entV e] [] .full) d s l K t (some X :: r) := by
 have he : elemsB 8 [entV e] = true := rfl
 rw [List.map_append] at hr
 rcases h with ⟨rfl, rfl, rfl⟩ | ⟨k, rfl, h0, rfl⟩
 ·exact happ_full (ys := [entV e]) rfl (by simp) (by simp) rfl he (by simp) (hr 0)
 ·exact happ_tip (j := 1) (k := k) (x := .sl [entV e] [] .full) (ys := [entV e]) rfl (by simp) (by simpa using h0) rfl (zcb out) he (by simp; omega) (hr (k + 1))
theorem be_wN {out : List Ent} {tok : Tok} {r : Hl} (h : Be out tok r) : wN (.sl (out.map entV) [] tok) = entsN out := by
 rcases h with ⟨rfl, rfl, rfl⟩ | ⟨k, rfl, h0, rfl⟩
 ·rfl
 ·rw [wN_some (.inl h0), entsN]
  cases out with
  | nil => exact absurd rfl h0
  | cons e l => rfl
def zEnt : List V := [.val (.int .i64 0), .val (.int .i64 0), .val (.int .i64 0), .val (.int .i64 0), .val (.string (ByteArray.mk #[])), .val (.int .i64 0), .val (.int .i64 0), .val (.string (ByteArray.mk #[]))]
def litE (v : V) : Option V := (zc2 8 [.agg zEnt] [(0, v)]).map fun es => .sl es [] .full
theorem litE_eq {Γ : Glob} {t : List V} {m : Store} {x : Nat} : zan Tryz.prog (ev Γ t) m (.lits 8 [.val (.int .i64 0), .val (.int .i64 0), .val (.int .i64 0), .val (.int .i64 0), .val (.string (ByteArray.mk #[])), .val (.int .i64 0), .val (.int .i64 0), .val (.string (ByteArray.mk #[]))] 1 [(0, .tmp x)]) = litE (tget t x) := by
 rw [← ev_tmp (Γ := Γ)]
 rfl
theorem litE_ent (e : Ent) : litE (.agg [it e.c, it e.q, it e.k, it e.n, bs e.s, it e.ck, it e.cn, bs e.cs]) = some (.sl [entV e] [] .full) := rfl
section
variable {Γ : Glob} {m : Store}
theorem rBetween_w (nn : Bool) (x : Lg) (a b : Int) (hx : lgB x = true) {Q : V → Hl → Prop} (hQ : ∀ tok r, Be (bet x.b a b 0 x.l) tok r → Q (.sl ((bet x.b a b 0 x.l).map entV) [] tok) (some (logB nn x) :: r)) :
  hawp Tryz.prog Γ (fun _ _ => False) 0 F81.body (bodyH F81.res Q) ⟨start F81.ntmps [lgV nn x, it a, it b], []⟩ := by
 have hlb : ∀ k, nbB k (logB nn x) := fun k => by have := zaD (k := k) nn x.l; simp only [logB, this, nbS]
 have hb : 0 ≤ x.b ∧ x.b ≤ 2147483647 ∧ x.l.length ≤ 64 := by simp only [lgB, zd6, decide_eq_true_eq] at hx; omega
 simp only [F81, lgV, ss0, zd3, zdY]
 simp only [zal, ssH, zdY, zdW, reduceIte, zdX, zd2, zd0, zd1]
 refine zdA [1, 2, 3, 7, 8] 39 (fun n vs h => ∃ (i : Nat) (out : List Ent) (tok : Tok) (r : Hl), vs = [it a, it b, .ptr 0 0, .sl (out.map entV) [] tok, it i] ∧ h = some (logB nn x) :: r ∧ Be out tok r ∧ i + n = x.l.length + 1 ∧ i ≤ x.l.length ∧ out = bet x.b a b 0 (x.l.take i)) (x.l.length + 1) (by decide) (by decide) (zef 1) (zaB rfl (zeQ _) (by decide) (by simp) (by show nbs 1 [it a, it b, .ptr 0 0, .sl [] [] .full, it 0]; simp only [nbS]; decide) (nbB_one (hlb 1)) ⟨0, [], .full, [], rfl, rfl, .inl ⟨rfl, rfl, rfl⟩, by omega, by omega, by simp [bet]⟩) ?_
 rintro n t h J hJ hlt ⟨i, out, tok, r, hv, rfl, hB, hn, hi, ho⟩
 simp only [zev, List.cons.injEq, and_true] at hv
 obtain ⟨g1, g2, g3, g7, g8⟩ := hv
 have hol : out.length ≤ 64 := by
  have := bet_len (base := x.b) (a := a) (b := b) (x.l.take i) 0
  rw [← ho] at this
  rw [List.length_take] at this
  omega
 rw [t_eq hlt]
 simp only [zat, upTo, g1, g2, g3, g7, g8, logB, zaW, zed, ssH, zdY, zdW, reduceIte, zdX, zd2, zd0, zd1]
 by_cases hil : i < x.l.length
 ·have hx2 : x.l[i]? = some x.l[i] := zd7 hil
  generalize x.l[i] = e at hx2
  have hw1 : IntKind.i64.wrap (x.b + 1) = x.b + 1 := wrap_i64 (by omega) (by omega)
  have hw2 : IntKind.i64.wrap (x.b + 1 + (i : Int)) = x.b + 1 + (i : Int) := wrap_i64 (by omega) (by omega)
  have hstep : bet x.b a b 0 (x.l.take (i + 1)) = out ++ (if cndB x.b a b i = true then [e] else []) := by
   rw [zeh, hx2, bet_app, ← ho]
   simp only [Option.toList, bet, List.length_take, Nat.min_eq_left hi, Nat.zero_add]
  simp only [show decide ((i : Int) < (x.l.length : Int)) = true from decide_eq_true (by omega), hw1, hw2, gt_iff_lt, ssH, zdY, zdW, reduceIte, zdX, zd2, zd0, zd1]
  have same : ∀ {t' : List V} {h' : Hl}, cndB x.b a b i = false → t'.length = 39 → tget t' 1 = it a → tget t' 2 = it b → tget t' 3 = .ptr 0 0 → tget t' 7 = .sl (out.map entV) [] tok → tget t' 8 = it (i + 1 : Nat) → h' = some (logB nn x) :: r → Back [1, 2, 3, 7, 8] (zef (1 + r.length)) 0 39 (fun vs h => ∃ (i : Nat) (out : List Ent) (tok : Tok) (r : Hl), vs = [it a, it b, .ptr 0 0, .sl (out.map entV) [] tok, it i] ∧ h = some (logB nn x) :: r ∧ Be out tok r ∧ i + (n - 1) = x.l.length + 1 ∧ i ≤ x.l.length ∧ out = bet x.b a b 0 (x.l.take i)) ⟨t', h'⟩ := by
   rintro t' h' hc q0 q1 q2 q3 q7 q8 rfl
   refine zaB q0 (zeQ _) (by rcases hB with ⟨_, _, rfl⟩ | ⟨k, _, _, rfl⟩ <;> simp) (by simp; omega) ?_ (be_blk hB hlb) ⟨i + 1, out, tok, r, by simp only [zev, q1, q2, q3, q7, q8], by rw [zes]; simp; omega, hB, by omega, by omega, by rw [hstep, hc]; simp⟩
   have hnv := be_nb hB
   simp only [zev, q1, q2, q3, q7, q8, hnv, nbS]
   omega
  cases h1 : decide (a < x.b + 1 + (i : Int))
  ·simp only [zas (show i < 4611686018427387904 by omega), ssH, zdY, zdW, reduceIte, zdX, zd2, zd0, zd1]
   exact ⟨_, hJ (n - 1) _ _ (by omega) (same (by simp only [cndB, h1]; rfl) rfl rfl rfl rfl rfl rfl rfl)⟩
  ·cases h2 : decide (x.b + 1 + (i : Int) ≤ b)
   ·simp only [h2, zas (show i < 4611686018427387904 by omega), ssH, zdY, zdW, reduceIte, zdX, zd2, zd0, zd1]
    exact ⟨_, hJ (n - 1) _ _ (by omega) (same (by simp only [cndB, h1, h2]; rfl) rfl rfl rfl rfl rfl rfl rfl)⟩
   ·have hc : cndB x.b a b i = true := by simp only [cndB, h1, h2]; rfl
    simp only [h2, idx_ent hx2, litE_eq, litE_ent, ssH, zdY, zdW, reduceIte, zdX, zd2, zd0, zd1]
    refine be_app hB (by omega) fun k => ?_
    simp only [zas (show i < 4611686018427387904 by omega), ssH, zdY, zdW, reduceIte, zdX, zd2, zd0, zd1]
    have hB2 : Be (out ++ [e]) (.tip 1 k) [some (.tip 60 k)] := .inr ⟨k, rfl, by simp, rfl⟩
    have hnv := be_nb hB2
    simp only [zd4, zec] at hnv
    refine ⟨_, hJ (n - 1) (zef 2) _ (by omega) (zaB rfl (zeQ _) (by decide) (by simp) (by show nbs 2 [it a, it b, .ptr 0 0, .sl ((out ++ [e]).map entV) [] (.tip 1 k), it (i + 1 : Nat)]; simp only [hnv, nbS]; decide) (be_blk hB2 hlb) ⟨i + 1, out ++ [e], .tip 1 k, _, rfl, rfl, hB2, by omega, by omega, by rw [hstep, hc]; rfl⟩)⟩
 ·simp only [show decide ((i : Int) < (x.l.length : Int)) = false from decide_eq_false (by omega), ssH, zdY, zdW, reduceIte, zdX, zd2, zd0, zd1]
  rw [zes (by omega)] at ho
  subst ho
  exact zac rfl (hQ tok r hB)
theorem rBetween_ok (nn : Bool) (x : Lg) (a b : Int) (hx : lgB x = true) : zae Tryz.prog Γ 81 [lgV nn x, it a, it b] m fun o m' => o = .ret (entsN (bet x.b a b 0 x.l)) ∧ m' = m := by
 have hnb := zaL (k := 0) nn x
 refine zay (zdE mixed F81_ok F81_h zaw (by simp only [hnb, nbS]) (rBetween_w nn x a b hx fun tok r hB => ?_))
 rw [be_wN hB]
 exact ⟨zaD _ _, rfl⟩
end
end Go.Av.Fn
/- What is asked of logs: the program's answers, and the document's. Conditions: as ahead. -/
namespace Go.Av
theorem relRoom {G : Gh} {es : List V} {y : V} {tok : Tok} {u : Value} (h : RelV G (.sl es [y] tok) u) : RelV G (.sl es [] .non) u := by
 cases h with
 | sl a b c d e f =>
  rw [zb2] at b
  have key : ∀ (p q : List V) (us : List Value), RelL G (p ++ q) us → ∃ u1 u2, us = u1 ++ u2 ∧ RelL G p u1 := by
   intro p
   induction p with
   | nil => exact fun q us h => ⟨[], us, rfl, .nil⟩
   | cons v p ih =>
    intro q us h
    cases h with
    | cons r1 r2 =>
     obtain ⟨u1, u2, rfl, r⟩ := ih q _ r2
     exact ⟨_ :: u1, u2, rfl, .cons r1 r⟩
  obtain ⟨u1, u2, rfl, r⟩ := key _ _ _ b
  refine .sl (fun e he => a e ?_) (by rw [List.append_nil]; exact r) ⟨c.1, fun i u hu => c.2 i u ?_⟩ (by simp; simp at d; omega) e trivial
  ·rw [List.append_nil] at he
   exact List.mem_append_left _ he
  ·rw [List.getElem?_append_left (List.getElem?_eq_some_iff.1 hu).1]
   exact hu
end Go.Av
namespace Go.Av.Fn
set_option linter.unusedSimpArgs false
set_option linter.unusedVariables false
set_option maxRecDepth 10000
open Go.Proofs
def e0 : Ent := ⟨0, 0, 0, 0, [], 0, 0, []⟩
def lv77 : Ent := ⟨1, 77, 2, 0, [], 0, 0, []⟩
def ownV (x : Lg) : V := .agg [it x.b, bs x.c, .sl (x.l.map entV) [entV lv77] .no]
theorem own_rel {G : Gh} {x : Lg} {u : Value} (h : RelV G (ownV x) u) : RelV G (lgV true x) u := by
 cases h with
 | agg r =>
  cases r with
  | cons a r =>
   cases r with
   | cons b r =>
    cases r with
    | cons c r => exact .agg (.cons a (.cons b (.cons (relRoom c) r)))
theorem own_args {P : Program} {Γ : Glob} {f : FuncId} {x : Lg} {as' : List V} {m : Store} {R : Out → Store → Prop} (h : zae P Γ f (lgV true x :: as') m R) : zae P Γ f (ownV x :: as') m R := by
 refine acalls_weak (fun G cargs h => ?_) h
 cases h with
 | cons a b => exact .cons (own_rel a) b
theorem nb_ownV {k : Nat} (x : Lg) : nb k (ownV x) := by
 have h1 := zc0 (k := k) za5 x.l
 have h2 := za5 (k := k) lv77
 simp only [ownV, h1, h2, nbS]
section
variable {Γ : Glob} {m : Store}
theorem rSame_ok (a b : Bool) (x : Lg) (hl : x.l.length ≤ 1000000) : zae Tryz.prog Γ 41 [lgV a x, lgV b x] m fun o m' => o = .ret (.val (.bool true)) ∧ m' = m := by
 have hna := zaL (k := 0) a x
 have hnb := zaL (k := 0) b x
 have hla := zaD (k := 0) a x.l
 have hlb := zaD (k := 0) b x.l
 refine zay (zaE mixed F41_ok F41_h zaw (by simp only [hna, hnb, nbS]) ?_)
 simp only [F41, lgV, ss0, zd3, zdY]
 simp only [zal, beq_self_eq_true, ssH, zdY, zdW, reduceIte, zdX, zd2, zd0, zd1]
 refine zah (v := .val (.bool true)) (by intro m; have := pSameE_any (Γ := Γ) (m := m) b (t := if a then .non else .full) x.l x.l (by omega); rw [decide_eq_true rfl] at this; exact this) (by simp only [hla, hlb, nbS]) (by first | exact LR.nil | simp only [nbS]) ?_
 simp only [ssH, zdY, zdW, reduceIte, zdX, zd2, zd0, zd1]
 exact fin6 rfl
end
end Go.Av.Fn
/- The document's examples of logs, reckoned. No condition. -/
namespace Go.Av.Fn
set_option linter.unusedSimpArgs false
set_option linter.unusedVariables false
set_option maxRecDepth 100000
open Go.Proofs
def G20 : Glob := fun _ => none
def tab20 : List (Nat × AFn) := [(30, F30), (32, F32), (34, F34), (36, F36), (38, F38), (42, F42), (44, F44), (46, F46), (74, F74), (75, F75), (76, F76), (77, F77), (78, F78), (79, F79), (82, F82), (83, F83), (85, F85), (86, F86), (88, F88), (89, F89), (117, F117), (84, F84), (118, F118), (48, F48)]
theorem tab20_ok : TabOk Tryz.prog G20 tab20 :=
 (.cons ⟨_, F30_ok⟩ (by kernel_rfl) (.cons ⟨_, F32_ok⟩ (by kernel_rfl) (.cons ⟨_, F34_ok⟩ (by kernel_rfl) (.cons ⟨_, F36_ok⟩ (by kernel_rfl) (.cons ⟨_, F38_ok⟩ (by kernel_rfl) (.cons ⟨_, F42_ok⟩ (by kernel_rfl) (.cons ⟨_, F44_ok⟩ (by kernel_rfl) (.cons ⟨_, F46_ok⟩ (by kernel_rfl) (.cons ⟨_, F74_ok⟩ (by kernel_rfl) (.cons ⟨_, F75_ok⟩ (by kernel_rfl) (.cons ⟨_, F76_ok⟩ (by kernel_rfl) (.cons ⟨_, F77_ok⟩ (by kernel_rfl) (.cons ⟨_, F78_ok⟩ (by kernel_rfl) (.cons ⟨_, F79_ok⟩ (by kernel_rfl) (.cons ⟨_, F82_ok⟩ (by kernel_rfl) (.cons ⟨_, F83_ok⟩ (by kernel_rfl) (.cons ⟨_, F85_ok⟩ (by kernel_rfl) (.cons ⟨_, F86_ok⟩ (by kernel_rfl) (.cons ⟨_, F88_ok⟩ (by kernel_rfl) (.cons ⟨_, F89_ok⟩ (by kernel_rfl) (.cons ⟨_, F117_ok⟩ (by kernel_rfl) (.cons ⟨_, F84_ok⟩ (by kernel_rfl) (.cons ⟨_, F118_ok⟩ (by kernel_rfl) (.cons ⟨_, F48_ok⟩ (by kernel_rfl) TabOk.nil))))))))))))))))))))))))
theorem lives20_ok {Γ : Glob} {m : Store} : zae Tryz.prog Γ 30 [] m fun o m' => o = .ret (.val (.bool true)) ∧ m' = m :=
 acalls_true (Γ0 := G20) (N := 1000) (n := 30) mixed (by intro g cs h; cases h) tab20_ok .nil (by kernel_rfl)
end Go.Av.Fn
