/- Entries and logs got, by the document. Conditions: az ahead. -/
import Derived.Test.YtfanfdflpakjeaaGreatDoorTFh
open Int renaming reduceBEq → zdy, reduceBNe → zdz
open List renaming range → zdQ, append_nil → zdV, length_append → zdE, length_cons → zdF, length_map → zdW, length_nil → zdJ
open Nat renaming reduceSub → zdB, reduceAdd → zdx, reduceLeDiff → zdv, reduceEqDiff → zdw, reduceLT → zdA
namespace Go.Av.Fn
set_option linter.unusedSimpArgs false
set_option linter.unusedVariables false
set_option maxRecDepth 10000
open Go.Proofs
def tkB (s : List UInt8) (a : Nat) (e : Int) : Blk := .var 86 [bs s, it a, it e]
theorem zax {k : Nat} {s : List UInt8} {a : Nat} {e : Int} : nbB k (tkB s a e) := by simp only [tkB, nbS]
section
variable {Γ : Glob} {m : Store} {rb a : Nat} {s : List UInt8} {e : Int}
theorem tNum_ok (hr : m rb = some (tkB s a e)) (ha : a ≤ s.length) (hs : s.length < 4611686018427387904) :
  zab Tryz.prog Γ 92 [.ptr rb 0] m fun o m' => o = .ret (it (rInt s a e).1) ∧ m' = m.set rb (tkB s (rInt s a e).2.1 (rInt s a e).2.2) := by
 refine zcn (acalls_c mixed F92_ok F92_h zaA hr zax (by first | exact LR.nil | simp only [nbS]) ?_)
 simp only [F92, tkB, ss0, zdB, zdx]
 simp only [ssH, zdx, zdv, reduceIte, zdw, zdA, zdy, zdz]
 refine zad (by exact fun m => zRInt_ok s a e ha hs) (by simp only [nbS]) (by simp only [za3, nbS]) ?_
 simp only [rdV, zaa, ssH, zdx, zdv, reduceIte, zdw, zdA, zdy, zdz]
 exact zae (v := it (rInt s a e).1) rfl ⟨by simp only [nbS], _, rfl, zax, rfl, rfl⟩
theorem tText_ok (most : Int) (hr : m rb = some (tkB s a e)) (ha : a ≤ s.length) (hs : s.length < 4611686018427387904) :
  zab Tryz.prog Γ 93 [.ptr rb 0, it most] m fun o m' => o = .ret (bs (zaG s a e most).1) ∧ m' = m.set rb (tkB s (zaG s a e most).2.1 (zaG s a e most).2.2) := by
 refine zcn (acalls_c mixed F93_ok F93_h zaA hr zax (by first | exact LR.nil | simp only [nbS]) ?_)
 simp only [F93, tkB, ss0, zdB, zdx]
 simp only [ssH, zdx, zdv, reduceIte, zdw, zdA, zdy, zdz]
 refine zad (by exact fun m => zRText_ok s a e most ha hs) (by simp only [nbS]) (by simp only [za3, nbS]) ?_
 simp only [rdV, zaa, ssH, zdx, zdv, reduceIte, zdw, zdA, zdy, zdz]
 exact zae (v := bs (zaG s a e most).1) rfl ⟨by simp only [nbS], _, rfl, zax, rfl, rfl⟩
theorem tCount_ok (hr : m rb = some (tkB s a e)) (ha : a ≤ s.length) (hs : s.length < 4611686018427387904) :
  zab Tryz.prog Γ 94 [.ptr rb 0] m fun o m' => o = .ret (it (zaz s a e 1048576).1) ∧ m' = m.set rb (tkB s (zaz s a e 1048576).2.1 (zaz s a e 1048576).2.2) := by
 refine zcn (acalls_c mixed F94_ok F94_h zaA hr zax (by first | exact LR.nil | simp only [nbS]) ?_)
 simp only [F94, tkB, ss0, zdB, zdx]
 simp only [ssH, zdx, zdv, reduceIte, zdw, zdA, zdy, zdz]
 refine zad (by exact fun m => zRCount_ok s a e 1048576 ha hs) (by simp only [nbS]) (by simp only [za3, nbS]) ?_
 simp only [rdV, zaa, ssH, zdx, zdv, reduceIte, zdw, zdA, zdy, zdz]
 exact zae (v := it (zaz s a e 1048576).1) rfl ⟨by simp only [nbS], _, rfl, zax, rfl, rfl⟩
theorem tWell_ok (hr : m rb = some (tkB s a e)) : zab Tryz.prog Γ 95 [.ptr rb 0] m fun o m' => o = .ret (.val (.bool (e == 0))) ∧ m' = m := by
 refine acalls_lk hr (acalls_c mixed F95_ok F95_h zaA hr zax (by first | exact LR.nil | simp only [nbS]) ?_)
 simp only [F95, tkB, ss0, zdB, zdx]
 simp only [ssH, zdx, zdv, reduceIte, zdw, zdA, zdy, zdz]
 exact zae (v := .val (.bool (e == 0))) rfl ⟨by simp only [nbS], _, rfl, zax, rfl, rfl⟩
set_option maxHeartbeats 1600000 in
theorem tEntry_ok (hr : m rb = some (tkB s a e)) (ha : a ≤ s.length) (hs : s.length < 4611686018427387904) :
  zab Tryz.prog Γ 96 [.ptr rb 0] m fun o m' => o = .ret (entV (getE s a e).1) ∧ m' = m.set rb (tkB s (getE s a e).2.1 (getE s a e).2.2) := by
 unfold getE
 obtain ⟨c, a1, e1, h1⟩ : ∃ x y z, rInt s a e = (x, y, z) := ⟨_, _, _, rfl⟩
 have l1 := zaQ (e := e) ha
 rw [h1] at l1
 obtain ⟨q, a2, e2, h2⟩ : ∃ x y z, rInt s a1 e1 = (x, y, z) := ⟨_, _, _, rfl⟩
 have l2 := zaQ (e := e1) l1
 rw [h2] at l2
 obtain ⟨k, a3, e3, h3⟩ : ∃ x y z, rInt s a2 e2 = (x, y, z) := ⟨_, _, _, rfl⟩
 have l3 := zaQ (e := e2) l2
 rw [h3] at l3
 obtain ⟨n, a4, e4, h4⟩ : ∃ x y z, rInt s a3 e3 = (x, y, z) := ⟨_, _, _, rfl⟩
 have l4 := zaQ (e := e3) l3
 rw [h4] at l4
 obtain ⟨t, a5, e5, h5⟩ : ∃ x y z, zaG s a4 e4 255 = (x, y, z) := ⟨_, _, _, rfl⟩
 have l5 := rText_le (most := 255) (e := e4) l4
 rw [h5] at l5
 obtain ⟨⟨dk, dn, dt⟩, a6, e6, h6⟩ : ∃ x y z, getC s a5 e5 = (x, y, z) := ⟨_, _, _, rfl⟩
 simp only at l1 l2 l3 l4 l5
 simp only [h1, h2, h3, h4, h5, h6]
 refine zcn (acalls_c mixed F96_ok F96_h zaA hr zax (by first | exact LR.nil | simp only [nbS]) ?_)
 simp only [F96, ss0, zdB, zdx]
 simp only [ssH, zdx, zdv, reduceIte, zdw, zdA, zdy, zdz]
 refine zaq (b := 0) (X := tkB s a e) rfl rfl (fun m b' h => tNum_ok h ha hs) zax zax (by first | exact LR.nil | simp only [nbS]) (by first | exact LR.nil | simp only [nbS]) ?_
 simp only [h1, ssH, zdx, zdv, reduceIte, zdw, zdA, zdy, zdz]
 refine zaq (b := 0) (X := tkB s a1 e1) rfl rfl (fun m b' h => tNum_ok h l1 hs) zax zax (by first | exact LR.nil | simp only [nbS]) (by first | exact LR.nil | simp only [nbS]) ?_
 simp only [h2, ssH, zdx, zdv, reduceIte, zdw, zdA, zdy, zdz]
 refine zaq (b := 0) (X := tkB s a2 e2) rfl rfl (fun m b' h => tNum_ok h l2 hs) zax zax (by first | exact LR.nil | simp only [nbS]) (by first | exact LR.nil | simp only [nbS]) ?_
 simp only [h3, ssH, zdx, zdv, reduceIte, zdw, zdA, zdy, zdz]
 refine zaq (b := 0) (X := tkB s a3 e3) rfl rfl (fun m b' h => tNum_ok h l3 hs) zax zax (by first | exact LR.nil | simp only [nbS]) (by first | exact LR.nil | simp only [nbS]) ?_
 simp only [h4, ssH, zdx, zdv, reduceIte, zdw, zdA, zdy, zdz]
 refine zaq (b := 0) (az := [it 255]) (X := tkB s a4 e4) rfl rfl (fun m b' h => tText_ok 255 h l4 hs) zax zax (by first | exact LR.nil | simp only [nbS]) (by first | exact LR.nil | simp only [nbS]) ?_
 simp only [h5, ssH, zdx, zdv, reduceIte, zdw, zdA, zdy, zdz]
 simp only [tkB, ssH, zdx, zdv, reduceIte, zdw, zdA, zdy, zdz]
 refine zad (by exact fun m => zGet_ok s a5 e5 l5 hs) (by simp only [nbS]) (by simp only [za3, nb_cmdT, nbS]) ?_
 simp only [h6, rdV, cmdT, cmdV, zaa, ssH, zdx, zdv, reduceIte, zdw, zdA, zdy, zdz]
 refine za1 (b := 0) (X := tkB s a6 e6) rfl rfl (fun m b' h => tWell_ok h) zax (by first | exact LR.nil | simp only [nbS]) (by first | exact LR.nil | simp only [nbS]) ?_
 cases he : (e6 == 0)
 ·have h0 : e6 ≠ 0 := by simpa using he
  simp only [he, zaa, ssH, zdx, zdv, reduceIte, zdw, zdA, zdy, zdz]
  exact zae (v := entV e0) rfl ⟨zbW _, _, rfl, zax, by rw [if_pos h0], rfl⟩
 ·have h0 : e6 = 0 := by simpa using he
  subst h0
  simp only [he, zaa, ssH, zdx, zdv, reduceIte, zdw, zdA, zdy, zdz]
  exact zae (v := entV ⟨c, q, k, n, t, dk, dn, dt⟩) rfl ⟨zbW _, _, rfl, zax, by simp, rfl⟩
set_option maxHeartbeats 1600000 in
theorem rGet20_ok (hr : m rb = some (tkB s a e)) (ha : a ≤ s.length) (hs : s.length < 4611686018427387904) :
  zab Tryz.prog Γ 50 [.ptr rb 0] m fun o m' => o = .ret (lgN (getL s a e).1) ∧ m' = m.set rb (tkB s (getL s a e).2.1 (getL s a e).2.2) := by
 unfold getL
 obtain ⟨b, a1, e1, h1⟩ : ∃ x y z, rInt s a e = (x, y, z) := ⟨_, _, _, rfl⟩
 have l1 := zaQ (e := e) ha
 rw [h1] at l1
 obtain ⟨c, a2, e2, h2⟩ : ∃ x y z, zaG s a1 e1 65536 = (x, y, z) := ⟨_, _, _, rfl⟩
 have l2 := rText_le (most := 65536) (e := e1) l1
 rw [h2] at l2
 have hcr := rCount_rng (s := s) (a := a2) (e := e2)
 obtain ⟨n0, a3, e3, h3⟩ : ∃ x y z, zaz s a2 e2 1048576 = (x, y, z) := ⟨_, _, _, rfl⟩
 have l3 := rCount_le (most := 1048576) (e := e2) l2
 rw [h3] at l3 hcr
 simp only at l1 l2 l3 hcr
 obtain ⟨n1, rfl⟩ := Int.eq_ofNat_of_zero_le hcr.1
 simp only [h1, h2, h3, Int.toNat_natCast]
 have hn1 : n1 ≤ 1048576 := by omega
 refine zcn (acalls_cn mixed F50_ok F50_h zaA hr zax (by first | exact LR.nil | simp only [nbS]) ?_)
 simp only [F50, ss0, zdB, zdx]
 simp only [ssH, zdx, zdv, reduceIte, zdw, zdA, zdy, zdz]
 refine zaq (b := 0) (X := tkB s a e) rfl rfl (fun m b' h => tNum_ok h ha hs) zax zax (by first | exact LR.nil | simp only [nbS]) (by first | exact LR.nil | simp only [nbS]) ?_
 simp only [h1, zaa, ssH, zdx, zdv, reduceIte, zdw, zdA, zdy, zdz]
 refine zaq (b := 0) (az := [it 65536]) (X := tkB s a1 e1) rfl rfl (fun m b' h => tText_ok 65536 h l1 hs) zax zax (by first | exact LR.nil | simp only [nbS]) (by first | exact LR.nil | simp only [nbS]) ?_
 simp only [h2, zaa, ssH, zdx, zdv, reduceIte, zdw, zdA, zdy, zdz]
 refine zaq (b := 0) (X := tkB s a2 e2) rfl rfl (fun m b' h => tCount_ok h l2 hs) zax zax (by first | exact LR.nil | simp only [nbS]) (by first | exact LR.nil | simp only [nbS]) ?_
 simp only [h3, ssH, zdx, zdv, reduceIte, zdw, zdA, zdy, zdz]
 generalize hQ : zbL 0 _ = Q
 have tail : ∀ {t' : List V} {a : Nat} {e : Int} {out : List Ent} {tok : Tok} {r : Hl}, t'.length = 35 → tget t' 0 = .ptr 0 0 → tget t' 2 = .ptr 1 0 → tget t' 3 = .ptr 2 0 → Bo out tok r → zdn n1 s a3 e3 = (out, a, e) →
   Q (.exit 0) ⟨t', some (tkB s a e) :: some lgZ :: some (lgT b c out tok) :: r⟩ := by
  intro t' a e out tok r hlt q0 q2 q3 hB hg
  rw [← hQ, t_eq hlt]
  simp only [zaY, upTo, q0, q2, q3, hg, lgZ, lgT, ssH, zdx, zdv, reduceIte, zdw, zdA, zdy, zdz]
  refine za1 (b := 0) (X := tkB s a e) rfl rfl (fun m b' h => tWell_ok h) zax (by first | exact LR.nil | simp only [nbS]) (by first | exact LR.nil | simp only [nbS]) ?_
  cases he : (e == 0)
  ·have h0 : e ≠ 0 := by simpa using he
   simp only [he, zaa, ssH, zdx, zdv, reduceIte, zdw, zdA, zdy, zdz]
   exact zae (v := .agg [it 0, bs [], .sl [] [] .full]) rfl ⟨nb_lgN (x := lg0), _, rfl, zax, by rw [if_pos h0]; rfl, rfl⟩
  ·have h0 : e = 0 := by simpa using he
   subst h0
   have hw : wN (.agg [it b, bs c, .sl (out.map entV) [] tok]) = lgN ⟨b, c, out⟩ := by
    have := bo_wN hB
    simp only [wN, wNs] at this ⊢
    rw [this]
    rfl
   simp only [he, zaa, ssH, zdx, zdv, reduceIte, zdw, zdA, zdy, zdz]
   exact zae (v := .agg [it b, bs c, .sl (out.map entV) [] tok]) rfl ⟨by rw [hw]; exact nb_lgN, _, rfl, zax, by rw [hw, if_neg (by simp)], rfl⟩
 have blk : ∀ {a : Nat} {e : Int} {out : List Ent} {tok : Tok} {r : Hl}, Bo out tok r → ∀ i < 3 + r.length, ∀ x, lk (some (tkB s a e) :: some lgZ :: some (lgT b c out tok) :: r) i = some x → nbB (3 + r.length) x := by
  intro a e out tok r hB i hi x hx
  cases i with
  | zero => cases hx; exact zax
  | succ i => exact bo_blk (s := s) (a := a) (e := e) (b := b) (c := c) hB (i + 1) hi x hx
 refine h_loop [0, 2, 3, 4, 5] 35 (fun n vs h => ∃ (i j a : Nat) (e : Int) (out : List Ent) (tok : Tok) (r : Hl), vs = [.ptr 0 0, .ptr 1 0, .ptr 2 0, it n1, it i] ∧ h = some (tkB s a e) :: some lgZ :: some (lgT b c out tok) :: r ∧ Bo out tok r ∧ a ≤ s.length ∧ n = j + 1 ∧ i + j = n1 ∧ j + out.length ≤ n1 ∧ zdn n1 s a3 e3 = (out ++ (zdn j s a e).1, (zdn j s a e).2)) (n1 + 1) (by decide) (by decide) (zdQ 3) (zaV rfl (by decide) (by decide) (by simp) ?_ ?_ ⟨0, n1, a3, e3, [], .full, [], rfl, rfl, .inl ⟨rfl, rfl, rfl⟩, l3, rfl, by omega, by simp, rfl⟩) ?_
 ·show nbs 3 [.ptr 0 0, .ptr 1 0, .ptr 2 0, it n1, it 0]
  simp only [nbS]
  decide
 ·exact blk (r := []) (.inl ⟨rfl, rfl, rfl⟩)
 rintro n t h J hJ hlt ⟨i, j, a, e, out, tok, r, hv, rfl, hB, hle, hn, hij, hjo, hg⟩
 simp only [List.map, List.cons.injEq, and_true] at hv
 obtain ⟨g0, g2, g3, g4, g5⟩ := hv
 rw [t_eq hlt]
 simp only [zaY, upTo, g0, g2, g3, g4, g5, ssH, zdx, zdv, reduceIte, zdw, zdA, zdy, zdz]
 by_cases hj : 0 < j
 ·simp only [show decide ((i : Int) < (n1 : Int)) = true from decide_eq_true (by omega), ssH, zdx, zdv, reduceIte, zdw, zdA, zdy, zdz]
  refine za1 (b := 0) (X := tkB s a e) rfl rfl (fun m b' h => tWell_ok h) zax (by first | exact LR.nil | simp only [nbS]) (by first | exact LR.nil | simp only [nbS]) ?_
  cases he : (e == 0)
  ·have h0 : e ≠ 0 := by simpa using he
   rw [getEs_bad h0] at hg
   simp only [he, ssH, zdx, zdv, reduceIte, zdw, zdA, zdy, zdz]
   exact tail rfl rfl rfl rfl hB (by rw [hg, zdV])
  ·have h0 : e = 0 := by simpa using he
   subst h0
   obtain ⟨j, rfl⟩ : ∃ i, j = i + 1 := ⟨j - 1, by omega⟩
   have l4 := getE_le (e := 0) hle
   obtain ⟨x, a4, e4, h4⟩ : ∃ x y z, getE s a 0 = (x, y, z) := ⟨_, _, _, rfl⟩
   rw [zdn, if_pos rfl, h4] at hg
   rw [h4] at l4
   simp only [he, lgT, ssH, zdx, zdv, reduceIte, zdw, zdA, zdy, zdz]
   refine zaq (b := 0) (X := tkB s a 0) rfl rfl (fun m b' h => tEntry_ok h hle hs) zax zax (by first | exact LR.nil | simp only [nbS]) (zbW _) ?_
   simp only [h4, entV, litE_eq, litE_ent, ssH, zdx, zdv, reduceIte, zdw, zdA, zdy, zdz]
   refine bo_app hB (by omega) fun k => ?_
   simp only [zcD, oneV_sl, zbb (show i < 4611686018427387904 by omega), ssH, zdx, zdv, reduceIte, zdw, zdA, zdy, zdz]
   have hB2 : Bo (out ++ [x]) (.tip 3 k) [some (.tip 60 k)] := .inr ⟨k, rfl, by simp, rfl⟩
   refine ⟨_, hJ (j + 1) (zdQ 4) _ (by omega) (zaV rfl (by decide) (by decide) (by simp) ?_ (blk hB2 (a := a4) (e := e4)) ⟨i + 1, j, a4, e4, out ++ [x], .tip 3 k, _, rfl, rfl, hB2, l4, rfl, by omega, by simp; omega, by rw [hg]; simp⟩)⟩
   show nbs 4 [.ptr 0 0, .ptr 1 0, .ptr 2 0, it n1, it (i + 1 : Nat)]
   simp only [nbS]
   decide
 ·have hj0 : j = 0 := by omega
  subst hj0
  simp only [show decide ((i : Int) < (n1 : Int)) = false from decide_eq_false (by omega), ssH, zdx, zdv, reduceIte, zdw, zdA, zdy, zdz]
  rw [zdn] at hg
  exact tail rfl rfl rfl rfl hB (by rw [hg, zdV])
end
theorem add_bs {P : Program} {T : TypeId} {xo yo : Operand} (x y : List UInt8) (h : x.length + y.length ≤ 1000000000000000000) : binV P .add T .other xo yo (bs x) (bs y) = some (bs (x ++ y)) := bs_add (x := x) (y := y) (by omega)
section
variable {Γ : Glob} {m : Store}
theorem rPut19_ok (e : Ent) (he : EntW e) : zab Tryz.prog Γ 98 [entV e] m fun o m' => o = .ret (bs (putE e)) ∧ m' = m := by
 have hne := zbW (k := 0) e
 obtain ⟨⟨h1, h2, h3, h4, h5, h6⟩, hs, hc⟩ := he
 have z1 := zbP h1
 have z2 := zbP h2
 have z3 := zbP h3
 have z4 := zbP h4
 have z5 := zbP (n := (e.s.length : Int)) ⟨by omega, by omega⟩
 have z6 := putC_len (k := e.ck) (n := e.cn) h5 h6 (t := e.cs) (by omega)
 have e0 : putE e = uz e.c ++ uz e.q ++ uz e.k ++ uz e.n ++ (uz e.s.length ++ e.s) ++ putC e.ck e.cn e.cs := by
  simp only [putE, zbj, List.append_assoc, zdV]
 rw [e0]
 refine zaN (zaO mixed F98_ok F98_h zaA (by simp only [hne, nbS]) ?_)
 simp only [F98, entV, ss0, zdB, zdx]
 simp only [zaa, ssH, zdx, zdv, reduceIte, zdw, zdA, zdy, zdz]
 refine zad (v := bs (uz e.c)) (by exact fun m => zde h1) (by first | exact LR.nil | simp only [nbS]) (by first | exact LR.nil | simp only [nbS]) ?_
 simp only [ssH, zdx, zdv, reduceIte, zdw, zdA, zdy, zdz]
 refine zad (v := bs (uz e.q)) (by exact fun m => zde h2) (by first | exact LR.nil | simp only [nbS]) (by first | exact LR.nil | simp only [nbS]) ?_
 simp only [add_bs _ _ (show (uz e.c).length + (uz e.q).length ≤ 1000000000000000000 by omega), ssH, zdx, zdv, reduceIte, zdw, zdA, zdy, zdz]
 refine zad (v := bs (uz e.k)) (by exact fun m => zde h3) (by first | exact LR.nil | simp only [nbS]) (by first | exact LR.nil | simp only [nbS]) ?_
 simp only [add_bs _ _ (show (uz e.c ++ uz e.q).length + (uz e.k).length ≤ 1000000000000000000 by simp only [zdE]; omega), ssH, zdx, zdv, reduceIte, zdw, zdA, zdy, zdz]
 refine zad (v := bs (uz e.n)) (by exact fun m => zde h4) (by first | exact LR.nil | simp only [nbS]) (by first | exact LR.nil | simp only [nbS]) ?_
 simp only [add_bs _ _ (show (uz e.c ++ uz e.q ++ uz e.k).length + (uz e.n).length ≤ 1000000000000000000 by simp only [zdE]; omega), ssH, zdx, zdv, reduceIte, zdw, zdA, zdy, zdz]
 refine zad (v := bs (uz e.s.length ++ e.s)) (by exact fun m => zText_ok e.s (by omega)) (by first | exact LR.nil | simp only [nbS]) (by first | exact LR.nil | simp only [nbS]) ?_
 simp only [add_bs _ _ (show (uz e.c ++ uz e.q ++ uz e.k ++ uz e.n).length + (uz e.s.length ++ e.s).length ≤ 1000000000000000000 by simp only [zdE]; omega), ssH, zdx, zdv, reduceIte, zdw, zdA, zdy, zdz]
 refine zad (v := bs (putC e.ck e.cn e.cs)) (by exact fun m => zPut_ok h5 h6 (by omega)) (by simp only [nbS]) (by first | exact LR.nil | simp only [nbS]) ?_
 simp only [add_bs _ _ (show (uz e.c ++ uz e.q ++ uz e.k ++ uz e.n ++ (uz e.s.length ++ e.s)).length + (putC e.ck e.cn e.cs).length ≤ 1000000000000000000 by simp only [zdE]; omega), ssH, zdx, zdv, reduceIte, zdw, zdA, zdy, zdz]
 exact zae (v := bs (uz e.c ++ uz e.q ++ uz e.k ++ uz e.n ++ (uz e.s.length ++ e.s) ++ putC e.ck e.cn e.cs)) rfl ⟨by simp only [nbS], rfl⟩
theorem rPut20_ok (nn : Bool) (x : Lg) (hx : LogW x) : zab Tryz.prog Γ 52 [lgV nn x] m fun o m' => o = .ret (bs (putL x)) ∧ m' = m := by
 have hnb := nb_lgV (k := 0) nn x
 have hnl := zbc (k := 0) nn x.l
 have hlb : ∀ k, nbB k (logB nn x) := fun k => by have := zbc (k := k) nn x.l; simp only [logB, this, nbS]
 obtain ⟨h1, h2, h3, h4⟩ := id hx
 have z1 := zbP h1
 have z2 := zbP (n := (x.c.length : Int)) ⟨by omega, by omega⟩
 have z3 := zbP (n := (x.l.length : Int)) ⟨by omega, by omega⟩
 refine zaN (zaO mixed F52_ok F52_h zaA (by simp only [hnb, nbS]) ?_)
 simp only [F52, lgV, ss0, zdB, zdx]
 simp only [len_ents, zaa, ssH, zdx, zdv, reduceIte, zdw, zdA, zdy, zdz]
 refine zad (v := bs (uz x.b)) (by exact fun m => zde h1) (by first | exact LR.nil | simp only [nbS]) (by first | exact LR.nil | simp only [nbS]) ?_
 simp only [ssH, zdx, zdv, reduceIte, zdw, zdA, zdy, zdz]
 refine zad (v := bs (uz x.c.length ++ x.c)) (by exact fun m => zText_ok x.c (by omega)) (by first | exact LR.nil | simp only [nbS]) (by first | exact LR.nil | simp only [nbS]) ?_
 simp only [add_bs _ _ (show (uz x.b).length + (uz x.c.length ++ x.c).length ≤ 1000000000000000000 by simp only [zdE]; omega), ssH, zdx, zdv, reduceIte, zdw, zdA, zdy, zdz]
 refine zad (v := bs (uz x.l.length)) (by exact fun m => zde ⟨by omega, by omega⟩) (by first | exact LR.nil | simp only [nbS]) (by first | exact LR.nil | simp only [nbS]) ?_
 simp only [add_bs _ _ (show (uz x.b ++ (uz x.c.length ++ x.c)).length + (uz x.l.length).length ≤ 1000000000000000000 by simp only [zdE]; omega), ssH, zdx, zdv, reduceIte, zdw, zdA, zdy, zdz]
 have hpe : putL x = uz x.b ++ (uz x.c.length ++ x.c) ++ uz x.l.length ++ zbQ x.l := rfl
 obtain ⟨pl, hpl⟩ : ∃ z, z = uz x.b ++ (uz x.c.length ++ x.c) ++ uz x.l.length := ⟨_, rfl⟩
 rw [hpe, ← hpl]
 have hpo : pl.length ≤ 3100000 := by rw [hpl]; simp only [zdE]; omega
 clear hpl hpe
 refine h_loop [1, 3, 4] 33 (fun n vs h => ∃ i : Nat, vs = [.ptr 0 0, bs (pl ++ zbQ (x.l.take i)), it i] ∧ i + n = x.l.length + 1 ∧ i ≤ x.l.length ∧ h = [some (logB nn x)]) (x.l.length + 1) (by decide) (by decide) (zdQ 1) (zaV rfl (by decide) (by decide) (by simp) (by show nbs 1 [.ptr 0 0, bs pl, it 0]; simp only [nbS]; decide) (nbB_one (hlb 1)) ⟨0, by simp only [List.take_zero, zbQ, zdV]; rfl, by omega, by omega, rfl⟩) ?_
 rintro n t h J hJ hlt ⟨i, hv, hi1, hi2, rfl⟩
 simp only [List.map, List.cons.injEq, and_true] at hv
 obtain ⟨g1, g3, g4⟩ := hv
 have hlen : (zbQ (x.l.take i)).length ≤ 4000100 * 1000 := by
  have := putEs_lenW (l := x.l.take i) fun e he => h4 e (List.mem_of_mem_take he)
  rw [List.length_take] at this
  omega
 obtain ⟨pr, hpr⟩ : ∃ z, z = pl ++ zbQ (x.l.take i) := ⟨_, rfl⟩
 have hprl : pr.length ≤ 5000000000 := by rw [hpr, zdE]; omega
 rw [← hpr] at g3
 rw [t_eq hlt]
 simp only [zaY, upTo, g1, g3, g4, logB, len_ents, ssH, zdx, zdv, reduceIte, zdw, zdA, zdy, zdz]
 by_cases hil : i < x.l.length
 ·have hx2 : x.l[i]? = some x.l[i] := List.getElem?_eq_getElem hil
  have hei : EntW x.l[i] := h4 _ (List.getElem_mem _)
  have hst : pl ++ zbQ (x.l.take (i + 1)) = pr ++ putE x.l[i] := by
   rw [List.take_add_one, hx2, putEs_app, hpr]
   simp [zbQ]
  generalize x.l[i] = e at hx2 hei hst
  have hpel := putE_len hei.1 (by have := hei.2.2; omega) (by have := hei.2.1; omega)
  have hel := hei.2
  simp only [show decide ((i : Int) < (x.l.length : Int)) = true from decide_eq_true (by omega), zb3, idx_ent hx2, zaa, ssH, zdx, zdv, reduceIte, zdw, zdA, zdy, zdz]
  refine zad (by exact fun m => rPut19_ok e hei) (by simp only [nbS]) (by first | exact LR.nil | simp only [nbS]) ?_
  simp only [add_bs pr (putE e) (by omega), zbb (show i < 4611686018427387904 by omega), ssH, zdx, zdv, reduceIte, zdw, zdA, zdy, zdz]
  exact ⟨_, hJ (n - 1) (zdQ 1) _ (by omega) (zaV rfl (by decide) (by decide) (by simp) (by show nbs 1 [.ptr 0 0, bs (pr ++ putE e), it (i + 1 : Nat)]; simp only [nbS]; decide) (nbB_one (hlb 1)) ⟨i + 1, by rw [hst]; rfl, by omega, by omega, rfl⟩)⟩
 ·simp only [show decide ((i : Int) < (x.l.length : Int)) = false from decide_eq_false (by omega), ssH, zdx, zdv, reduceIte, zdw, zdA, zdy, zdz]
  have hie : i = x.l.length := by omega
  rw [hie, List.take_length] at hpr
  subst hpr
  exact zae (v := bs (pl ++ zbQ x.l)) rfl ⟨by simp only [nbS], rfl⟩
end
theorem fill_three {a b c x y z : V} : zbg [a, b, c] [(0, 3, .agg [x, y, z])] = some [x, y, z] := (rfl)
theorem getEs_cnt : ∀ (n : Nat) (s : List UInt8) (a : Nat) (e : Int), (zdn n s a e).1.length ≤ n
 | 0, s, a, e => Nat.le_refl _
 | n + 1, s, a, e => by
  rw [zdn]
  split
  ·have := getEs_cnt n s (getE s a e).2.1 (getE s a e).2.2
   simp only [zdF]
   omega
  ·simp
theorem getL_cnt (s : List UInt8) (a : Nat) (e : Int) : (getL s a e).1.l.length ≤ 1048576 := by
 unfold getL
 simp only
 split
 ·simp [lg0]
 ·have h := rCount_rng (s := s) (a := (zaG s (rInt s a e).2.1 (rInt s a e).2.2 65536).2.1) (e := (zaG s (rInt s a e).2.1 (rInt s a e).2.2 65536).2.2)
  have := getEs_cnt (zaz s (zaG s (rInt s a e).2.1 (rInt s a e).2.2 65536).2.1 (zaG s (rInt s a e).2.1 (rInt s a e).2.2 65536).2.2 1048576).1.toNat s (zaz s (zaG s (rInt s a e).2.1 (rInt s a e).2.2 65536).2.1 (zaG s (rInt s a e).2.1 (rInt s a e).2.2 65536).2.2 1048576).2.1 (zaz s (zaG s (rInt s a e).2.1 (rInt s a e).2.2 65536).2.1 (zaG s (rInt s a e).2.1 (rInt s a e).2.2 65536).2.2 1048576).2.2
  simp only at this ⊢
  omega
section
variable {Γ : Glob} {m : Store}
set_option maxHeartbeats 3200000 in
theorem oplogBytes_ok (E : Env Γ) (nn : Bool) (x : Lg) (l : List UInt8) (hb : Av.I64 x.b) (hc : x.c.length ≤ 2000000) (he : ∀ e ∈ x.l, EntW e) : zab Tryz.prog Γ 12 [lgV nn x, .sl (l.map by8) [] .no] m fun o m' => o = .ret (.val (.bool true)) ∧ m' = m := by
 have hnb := nb_lgV (k := 0) nn x
 have hnl := zbc (k := 0) nn x.l
 refine zaN (zaO mixed F12_ok F12_h zaA (by simp only [hnb, nbS]) ?_)
 simp only [F12, lgV, ss0, zdB, zdx]
 simp only [len_ents, zbp, zdW, gt_iff_lt, zaa, ssH, zdx, zdv, reduceIte, zdw, zdA, zdy, zdz]
 by_cases h100 : (100 : Int) < (x.l.length : Int)
 ·simp only [decide_eq_true h100, ssH, zdx, zdv, reduceIte, zdw, zdA, zdy, zdz]
  refine zad (v := .val (.bool true)) (by exact fun m => lives20_ok) (by first | exact LR.nil | simp only [nbS]) (by first | exact LR.nil | simp only [nbS]) ?_
  simp only [ssH, zdx, zdv, reduceIte, zdw, zdA, zdy, zdz]
  exact fin6 rfl
 by_cases h2 : (20000 : Int) < (l.length : Int)
 ·simp only [decide_eq_false h100, zdW, gt_iff_lt, decide_eq_true h2, ssH, zdx, zdv, reduceIte, zdw, zdA, zdy, zdz]
  refine zad (v := .val (.bool true)) (by exact fun m => lives20_ok) (by first | exact LR.nil | simp only [nbS]) (by first | exact LR.nil | simp only [nbS]) ?_
  simp only [ssH, zdx, zdv, reduceIte, zdw, zdA, zdy, zdz]
  exact fin6 rfl
 have hW : LogW x := ⟨hb, hc, by omega, he⟩
 have hpl := putL_lenW hW
 have hyl := getL_cnt l 0 0
 obtain ⟨y, a1, e1, g1⟩ : ∃ c a1 e1, getL l 0 0 = (c, a1, e1) := ⟨_, _, _, rfl⟩
 rw [g1] at hyl
 have hyl : y.l.length ≤ 2000000 := by simp only at hyl; omega
 have hxn : (120 :: putL x).map by8 ≠ [] := by simp
 have hbx : ∀ tk, b2sV (.sl (by8 120 :: (putL x).map by8) [] tk) = some (bs (120 :: putL x)) := fun tk => b2s_bs (l := 120 :: putL x)
 have hput : ∀ m, zab Tryz.prog Γ 51 [.sl [by8 120] [] .own, lgV nn x] m fun o m2 => ∃ v2, o = .ret v2 ∧ Buf 5 1 m m2 v2 ((120 :: putL x).map by8) := by
  intro m
  have := oPut_ok (Γ := Γ) (m := m) (m' := m) (v := .sl [by8 120] [] .full) (l := [120]) (.inr ⟨rfl, rfl, rfl⟩) nn x hW (by simp)
  refine acalls_less (fun G cargs h => ?_) this
  cases h with
  | cons a b => exact .cons (relFull a) b
 simp only [decide_eq_false h100, zdW, gt_iff_lt, decide_eq_false h2, lits_zero, ssH, zdx, zdv, reduceIte, zdw, zdA, zdy, zdz]
 refine app_bytes l (by omega) (by simp only [zdF, zdJ, zdx, zdA]) (fun h0 => ?_) (fun h0 => ?_)
 ·simp only [ssH, zdx, zdv, reduceIte, zdw, zdA, zdy, zdz]
  refine hcall_newsl (Y := rdB l 0 0) (by simp only [zdF, zdJ, zdx, zdA]) rfl (fun m tok => wNew_ok) (zai _) (by first | exact LR.nil | simp only [nbS]) (by first | exact LR.nil | simp only [nbS]) zay ?_
  simp only [ptr_nn, eval_b2s, b2s_bs, fill_three, zaa, ssH, zdx, zdv, reduceIte, zdw, zdA, zdy, zdz]
  refine zaq (b := 1) (X := rdB l 0 0) rfl rfl (fun m b' h => oGet_ok E.lib h (Nat.zero_le _) (by omega)) zay zay (by first | exact LR.nil | simp only [nbS]) nb_lgN ?_
  simp only [g1, ssH, zdx, zdv, reduceIte, zdw, zdA, zdy, zdz]
  refine zaq (b := 2) (X := tkB l 0 0) rfl rfl (fun m b' h => rGet20_ok h (Nat.zero_le _) (by omega)) zax zax (by first | exact LR.nil | simp only [nbS]) nb_lgN ?_
  simp only [g1, lgN, lgV, lit_x, zaa, oneV_ents, ssH, zdx, zdv, reduceIte, zdw, zdA, zdy, zdz]
  refine hcall_bufg (e := 5) (size := 1) (az := [.sl [by8 120] [] .own, lgV nn x]) (by simp only [zdF, zdJ, zdx, zdA]) rfl hxn hput (by simp only [nb_lgV, nbS]) (zai _) (fun j => ?_)
  simp only [eval_b2s, hbx, zaa, ssH, zdx, zdv, reduceIte, zdw, zdA, zdy, zdz]
  refine zad (by exact fun m => rPut20_ok nn x hW) (by simp only [zbc, nbS]) (by first | exact LR.nil | simp only [nbS]) ?_
  simp only [bs_cons_add _ (show (putL x).length ≤ 1000000000000000000 by omega), bs_cons_add2 _ (show (putL x).length ≤ 1000000000000000000 by omega), beq_self_eq_true, ssH, zdx, zdv, reduceIte, zdw, zdA, zdy, zdz]
  refine zad (v := .val (.bool true)) (by exact fun m => rSame_ok _ _ y hyl) (by simp only [zbc, nbS]) (by first | exact LR.nil | simp only [nbS]) ?_
  simp only [ssH, zdx, zdv, reduceIte, zdw, zdA, zdy, zdz]
  refine za1 (b := 1) (X := rdB l a1 e1) rfl rfl (fun m b' h => wAt_ok h) zay (by first | exact LR.nil | simp only [nbS]) (by first | exact LR.nil | simp only [nbS]) ?_
  simp only [tkB, beq_self_eq_true, ssH, zdx, zdv, reduceIte, zdw, zdA, zdy, zdz]
  refine ⟨by first | exact rfl | exact fun _ => rfl, ?_⟩
  first | simp only [beq_self_eq_true, ssH, zdx, zdv, reduceIte, zdw, zdA, zdy, zdz] | skip
  refine za1 (b := 1) (X := rdB l a1 e1) rfl rfl (fun m b' h => wErr_ok h) zay (by first | exact LR.nil | simp only [nbS]) (by first | exact LR.nil | simp only [nbS]) ?_
  simp only [beq_self_eq_true, ssH, zdx, zdv, reduceIte, zdw, zdA, zdy, zdz]
  refine ⟨by first | exact rfl | exact fun _ => rfl, ?_⟩
  first | simp only [beq_self_eq_true, ssH, zdx, zdv, reduceIte, zdw, zdA, zdy, zdz] | skip
  refine zad (v := .val (.bool true)) (by exact fun m => lives20_ok) (by first | exact LR.nil | simp only [nbS]) (by first | exact LR.nil | simp only [nbS]) ?_
  simp only [ssH, zdx, zdv, reduceIte, zdw, zdA, zdy, zdz]
  exact fin6 rfl
 ·simp only [ssH, zdx, zdv, reduceIte, zdw, zdA, zdy, zdz]
  refine hcall_newsl (Y := rdB l 0 0) (by simp only [zdF, zdJ, zdx, zdA]) rfl (fun m tok => wNew_ok) (zai _) (by first | exact LR.nil | simp only [nbS]) (by first | exact LR.nil | simp only [nbS]) zay ?_
  simp only [ptr_nn, eval_b2s, b2s_bs, fill_three, zaa, ssH, zdx, zdv, reduceIte, zdw, zdA, zdy, zdz]
  refine zaq (b := 2) (X := rdB l 0 0) rfl rfl (fun m b' h => oGet_ok E.lib h (Nat.zero_le _) (by omega)) zay zay (by first | exact LR.nil | simp only [nbS]) nb_lgN ?_
  simp only [g1, ssH, zdx, zdv, reduceIte, zdw, zdA, zdy, zdz]
  refine zaq (b := 3) (X := tkB l 0 0) rfl rfl (fun m b' h => rGet20_ok h (Nat.zero_le _) (by omega)) zax zax (by first | exact LR.nil | simp only [nbS]) nb_lgN ?_
  simp only [g1, lgN, lgV, lit_x, zaa, oneV_ents, ssH, zdx, zdv, reduceIte, zdw, zdA, zdy, zdz]
  refine hcall_bufg (e := 5) (size := 1) (az := [.sl [by8 120] [] .own, lgV nn x]) (by simp only [zdF, zdJ, zdx, zdA]) rfl hxn hput (by simp only [nb_lgV, nbS]) (zai _) (fun j => ?_)
  simp only [eval_b2s, hbx, zaa, ssH, zdx, zdv, reduceIte, zdw, zdA, zdy, zdz]
  refine zad (by exact fun m => rPut20_ok nn x hW) (by simp only [zbc, nbS]) (by first | exact LR.nil | simp only [nbS]) ?_
  simp only [bs_cons_add _ (show (putL x).length ≤ 1000000000000000000 by omega), bs_cons_add2 _ (show (putL x).length ≤ 1000000000000000000 by omega), beq_self_eq_true, ssH, zdx, zdv, reduceIte, zdw, zdA, zdy, zdz]
  refine zad (v := .val (.bool true)) (by exact fun m => rSame_ok _ _ y hyl) (by simp only [zbc, nbS]) (by first | exact LR.nil | simp only [nbS]) ?_
  simp only [ssH, zdx, zdv, reduceIte, zdw, zdA, zdy, zdz]
  refine za1 (b := 2) (X := rdB l a1 e1) rfl rfl (fun m b' h => wAt_ok h) zay (by first | exact LR.nil | simp only [nbS]) (by first | exact LR.nil | simp only [nbS]) ?_
  simp only [tkB, beq_self_eq_true, ssH, zdx, zdv, reduceIte, zdw, zdA, zdy, zdz]
  refine ⟨by first | exact rfl | exact fun _ => rfl, ?_⟩
  first | simp only [beq_self_eq_true, ssH, zdx, zdv, reduceIte, zdw, zdA, zdy, zdz] | skip
  refine za1 (b := 2) (X := rdB l a1 e1) rfl rfl (fun m b' h => wErr_ok h) zay (by first | exact LR.nil | simp only [nbS]) (by first | exact LR.nil | simp only [nbS]) ?_
  simp only [beq_self_eq_true, ssH, zdx, zdv, reduceIte, zdw, zdA, zdy, zdz]
  refine ⟨by first | exact rfl | exact fun _ => rfl, ?_⟩
  first | simp only [beq_self_eq_true, ssH, zdx, zdv, reduceIte, zdw, zdA, zdy, zdz] | skip
  refine zad (v := .val (.bool true)) (by exact fun m => lives20_ok) (by first | exact LR.nil | simp only [nbS]) (by first | exact LR.nil | simp only [nbS]) ?_
  simp only [ssH, zdx, zdv, reduceIte, zdw, zdA, zdy, zdz]
  exact fin6 rfl
end
end Go.Av.Fn
