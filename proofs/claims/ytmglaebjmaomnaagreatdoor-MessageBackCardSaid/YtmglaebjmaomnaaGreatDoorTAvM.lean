/- Going through a code by rewriting: operations that change memory or call, loops, results, strings as lists. No condition. -/
import Derived.Laws.Concat
import Derived.Laws.Strings2
import Derived.Test.YtmglaebjmaomnaaGreatDoorTAvL
open Option renaming getD_some → zfp, getD_none → zfo
namespace Go.Av
set_option linter.unusedSimpArgs false
set_option linter.unusedVariables false
section
variable {P : Program} {Γ : Glob} {Kp : V → Store → Prop} {l : List Item} {K : St → Prop} {t : List V} {m : Store} {d : Option Tmp} {s : List (Tmp × Option (Tmp × Bool) × AOp)}
def zbY (P : Program) (Γ : Glob) (Kp : V → Store → Prop) (s : List (Tmp × Option (Tmp × Bool) × AOp)) (l : List Item) (K : St → Prop) : Option St → Prop
 | some st => (∀ y ∈ s,zba P Γ y st) ∧ runA P Γ Kp l K st
 | none => False
theorem thenO_nil {o : Option St} : zbY P Γ Kp [] l K o = runO P Γ Kp l K o := by
 cases o <;> simp [zbY,runO]
theorem zde {y : Tmp × Option (Tmp × Bool) × AOp} {st : St} : zbY P Γ Kp (y :: s) l K (some st) = (zba P Γ y st ∧ zbY P Γ Kp s l K (some st)) := by
 apply propext
 simp only [zbY,List.mem_cons,forall_eq_or_imp,and_assoc]
theorem zdf {e : Tmp} {ao : AOp} : zba P Γ (e,none,ao) ⟨t,m⟩ = (zao P (ev Γ t) m ao = some (tget t e)) := by
 simp only [zba,zaB,if_true,zbc]
def gE (P : Program) (Γ : Glob) (Kp : V → Store → Prop) (v : V) (w : Bool) (ao : AOp) (d : Option Tmp) (s : List (Tmp × Option (Tmp × Bool) × AOp)) (l : List Item) (K : St → Prop) (t : List V) (m : Store) : Prop :=
 if isBool w v then runO P Γ Kp (⟨d,none,ao,s⟩ :: l) K (some ⟨t,m⟩) else zbY P Γ Kp s l K (putO t m d (some un))
theorem gE_tt {ao : AOp} : gE P Γ Kp (.val (.bool true)) true ao d s l K t m = runO P Γ Kp (⟨d,none,ao,s⟩ :: l) K (some ⟨t,m⟩) := (rfl)
theorem gE_ff {ao : AOp} : gE P Γ Kp (.val (.bool false)) false ao d s l K t m = runO P Γ Kp (⟨d,none,ao,s⟩ :: l) K (some ⟨t,m⟩) := (rfl)
theorem gE_tf {ao : AOp} : gE P Γ Kp (.val (.bool true)) false ao d s l K t m = zbY P Γ Kp s l K (putO t m d (some un)) := (rfl)
theorem gE_ft {ao : AOp} : gE P Γ Kp (.val (.bool false)) true ao d s l K t m = zbY P Γ Kp s l K (putO t m d (some un)) := (rfl)
theorem gE_un {w : Bool} {ao : AOp} : gE P Γ Kp (.val undef) w ao d s l K t m = zbY P Γ Kp s l K (putO t m d (some un)) := (rfl)
def effB (ao : AOp) : Bool := !zaW ao
theorem runO_ge {ao : AOp} {j : Nat} {w : Bool} (hq : effB ao = true) : runO P Γ Kp (⟨d,some (j,w),ao,s⟩ :: l) K (some ⟨t,m⟩) = gE P Γ Kp (tget t j) w ao d s l K t m := by
 show zaJ P Γ Kp ⟨d,some (j,w),ao,s⟩ (fun st => (∀ y ∈ s,zba P Γ y st) ∧ runA P Γ Kp l K st) ⟨t,m⟩ = _
 unfold gE zaJ zaB
 simp only [zbc]
 split
 ·rfl
 ·rfl
theorem e_call {f : Operand} {a : List Operand} : effB (.call f a) = true := (rfl)
theorem e_store {n : Nat} {a x : Operand} : effB (.store n a x) = true := (rfl)
theorem e_alloc {T : TypeId} {c : List V} : effB (.alloc T c) = true := (rfl)
theorem e_box {T : TypeId} {x : Operand} : effB (.box T x) = true := (rfl)
theorem e_app {e : TypeId} {a b : Nat} {x y : Operand} : effB (.app e a b x y) = true := (rfl)
theorem e_s2b {e : TypeId} {x : Operand} : effB (.s2b e x) = true := (rfl)
theorem e_mark {x : Operand} : effB (.mark x) = true := (rfl)
/-! ### Calls -/
def callS (P : Program) (Γ : Glob) (Kp : V → Store → Prop) (f : V) (args : List V) (d : Option Tmp) (s : List (Tmp × Option (Tmp × Bool) × AOp)) (l : List Item) (K : St → Prop) (t : List V) (m : Store) : Prop := match f with
 | .fn (.func g) first caps => zab P Γ g (first ++ args ++ caps) m fun o m' => match o with
   | .ret v => zbY P Γ Kp s l K (putO t m' d (some v))
   | .pan v => Kp v m'
 | .fn (.yield y) [] [] => zby P Γ y args m fun o m' => match o with
   | .ret v => zbY P Γ Kp s l K (putO t m' d (some v))
   | .pan v => Kp v m'
 | _ => False
theorem callS_yield {y : Nat} {args : List V} {R : Out → Store → Prop} (h : zby P Γ y args m R) (hr : ∀ v m',R (.ret v) m' → zbY P Γ Kp s l K (putO t m' d (some v))) (hp : ∀ v m',R (.pan v) m' → Kp v m') :
  callS P Γ Kp (.fn (.yield y) [] []) args d s l K t m := by
 refine zby.mono (R := R) h fun o m' ho => ?_
 cases o with
 | ret v => exact hr v m' ho
 | pan v => exact hp v m' ho
theorem runO_call {f : Operand} {a : List Operand} : runO P Γ Kp (⟨d,none,.call f a,s⟩ :: l) K (some ⟨t,m⟩) = callS P Γ Kp (ev Γ t f) (a.map (ev Γ t)) d s l K t m := by
 show (match ev Γ t f with
  | .fn (.func g) first caps => _
  | .fn (.yield y) [] [] => _
  | _ => False) = _
 unfold callS
 split <;> rfl
theorem zbT {g : FuncId} {first args caps : List V} {R : Out → Store → Prop} (h : zab P Γ g (first ++ args ++ caps) m R) (hr : ∀ v m',R (.ret v) m' → zbY P Γ Kp s l K (putO t m' d (some v))) (hp : ∀ v m',R (.pan v) m' → Kp v m') :
  callS P Γ Kp (.fn (.func g) first caps) args d s l K t m := by
 refine h.mono fun o m' ho => ?_
 cases o with
 | ret v => exact hr v m' ho
 | pan v => exact hp v m' ho
theorem zak {g : FuncId} {first args caps : List V} {v : V} (h : zab P Γ g (first ++ args ++ caps) m fun o m' => o = .ret v ∧ m' = m) (hr : zbY P Γ Kp s l K (putO t m d (some v))) :
  callS P Γ Kp (.fn (.func g) first caps) args d s l K t m :=
 zbT h (by rintro v' m' ⟨h1,rfl⟩; cases h1; exact hr) (by rintro v' m' ⟨h1,_⟩; cases h1)
theorem zaK {g : FuncId} {first args caps : List V} {v : V} {m' : Store} (h : zab P Γ g (first ++ args ++ caps) m fun o m2 => o = .ret v ∧ m2 = m') (hr : zbY P Γ Kp s l K (putO t m' d (some v))) :
  callS P Γ Kp (.fn (.func g) first caps) args d s l K t m :=
 zbT h (by rintro v' m' ⟨h1,rfl⟩; cases h1; exact hr) (by rintro v' m' ⟨h1,_⟩; cases h1)
/-! ### Memory -/
def storeC (size o : Nat) (x : List V) (b : Nat) (d : Option Tmp) (t : List V) (m : Store) : Option Blk → Option St
 | some (.var T cs) => if x.length = size ∧ o + size ≤ cs.length ∧ (x.all oneV) = true then putO t (m.set b (.var T (setV cs o x))) d (some un) else none
 | _ => none
def storeO (size : Nat) (a : V) (x : List V) (d : Option Tmp) (t : List V) (m : Store) : Option St := match a with
 | .ptr b o => storeC size o x b d t m (m b)
 | _ => none
theorem runO_store {n : Nat} {a x : Operand} : runO P Γ Kp (⟨d,none,.store n a x,s⟩ :: l) K (some ⟨t,m⟩) = zbY P Γ Kp s l K (storeO n (ev Γ t a) (ev Γ t x).cells d t m) := by
 apply propext
 show (match ev Γ t a with
  | .ptr b o => match m b with
   | some (.var T cs) => (ev Γ t x).cells.length = n ∧ o + n ≤ cs.length ∧ (∀ c ∈ (ev Γ t x).cells,oneV c = true) ∧ _
   | _ => False
  | _ => False) ↔ _
 cases ev Γ t a with
 | ptr b o =>
  simp only [storeO]
  cases hb : m b with
  | none => simp [storeC,zbY]
  | some blk =>
   cases blk with
   | tip T v => simp [storeC,zbY]
   | loop r f t ps x y D => simp [storeC,zbY]
   | defer => simp [storeC,zbY]
   | var T cs =>
    simp only [storeC]
    split
    ·rename_i h
     constructor
     ·rintro ⟨_,_,_,h4⟩
      exact h4
     ·intro h4
      exact ⟨h.1,h.2.1,by simpa using h.2.2,h4⟩
    ·rename_i h
     constructor
     ·rintro ⟨h1,h2,h3,_⟩
      exact absurd ⟨h1,h2,by simpa using h3⟩ h
     ·intro h4
      exact h4.elim
 | _ => simp [storeO,zbY]
theorem storeO_ptr {n b o : Nat} {x : List V} : storeO n (.ptr b o) x d t m = storeC n o x b d t m (m b) := rfl
theorem storeC_var {n b o : Nat} {T : TypeId} {x cs : List V} : storeC n o x b d t m (some (.var T cs)) = if x.length = n ∧ o + n ≤ cs.length ∧ (x.all oneV) = true then putO t (m.set b (.var T (setV cs o x))) d (some un) else none := rfl
theorem setV_nil {cs : List V} {o : Nat} : setV cs o [] = cs := rfl
theorem zd3 {cs r : List V} {x : V} {o : Nat} : setV cs o (x :: r) = setV (tset cs o x) (o + 1) r := by
 simp only [setV,zeu]
theorem oneV_ptr {b o : Nat} : oneV (.ptr b o) = true := rfl
theorem oneV_elt {cs : List V} : oneV (.elt cs) = true := rfl
theorem zbW {a b : List V} {k : Tok} : oneV (.sl a b k) = true := rfl
theorem oneV_fn {f : Fn} {a b : List V} : oneV (.fn f a b) = true := rfl
theorem oneV_ifc {T : TypeId} {v : V} : oneV (.ifc T v) = true := rfl
theorem zen {v : Value} : (V.val v).cells = [.val v] := rfl
theorem zeo {b o : Nat} : (V.ptr b o).cells = [.ptr b o] := rfl
theorem zeq {cs : List V} : (V.elt cs).cells = [.elt cs] := rfl
theorem zbh {a b : List V} {k : Tok} : (V.sl a b k).cells = [.sl a b k] := rfl
theorem cells_fn {f : Fn} {a b : List V} : (V.fn f a b).cells = [.fn f a b] := rfl
theorem zep {T : TypeId} {v : V} : (V.ifc T v).cells = [.ifc T v] := rfl
theorem zaj {cs : List V} : (V.agg cs).cells = cs := rfl
def loadB (o : Nat) (sz : Option Nat) : Option Blk → Option V
 | some (.var _ cs) => zbB cs o sz
 | _ => none
theorem zdK {b o : Nat} {sz : Option Nat} : loadV m sz (.ptr b o) = loadB o sz (m b) := by
 simp only [loadV,loadB]
 split <;> simp_all
theorem zeb {o : Nat} {sz : Option Nat} {T : TypeId} {cs : List V} : loadB o sz (some (.var T cs)) = zbB cs o sz := rfl
def allocS (P : Program) (Γ : Glob) (Kp : V → Store → Prop) (T : TypeId) (cells : List V) (d : Option Tmp) (s : List (Tmp × Option (Tmp × Bool) × AOp)) (l : List Item) (K : St → Prop) (t : List V) (m : Store) : Prop :=
 ∀ b,m b = none → zbY P Γ Kp s l K (putO t (m.set b (.var T cells)) d (some (.ptr b 0)))
theorem runO_alloc {T : TypeId} {c : List V} : runO P Γ Kp (⟨d,none,.alloc T c,s⟩ :: l) K (some ⟨t,m⟩) = allocS P Γ Kp T c d s l K t m := (rfl)
theorem runO_box {T : TypeId} {x : Operand} : runO P Γ Kp (⟨d,none,.box T x,s⟩ :: l) K (some ⟨t,m⟩) = allocS P Γ Kp T (ev Γ t x).cells d s l K t m := (rfl)
theorem zaq {T : TypeId} {cells : List V} (h : ∀ b,m b = none → zbY P Γ Kp s l K (putO t (m.set b (.var T cells)) d (some (.ptr b 0)))) : allocS P Γ Kp T cells d s l K t m := h
def s2bS (P : Program) (Γ : Glob) (Kp : V → Store → Prop) (e : TypeId) (x : V) (d : Option Tmp) (s : List (Tmp × Option (Tmp × Bool) × AOp)) (l : List Item) (K : St → Prop) (t : List V) (m : Store) : Prop := match x with
 | .val (.string z) => ∀ b,m b = none → zbY P Γ Kp s l K (putO t (m.set b (.tip e 0)) d (some (.sl (bytesV z) [] (.tip b 0))))
 | _ => False
theorem runO_s2b {e : TypeId} {x : Operand} : runO P Γ Kp (⟨d,none,.s2b e x,s⟩ :: l) K (some ⟨t,m⟩) = s2bS P Γ Kp e (ev Γ t x) d s l K t m := by
 show (match ev Γ t x with
  | .val (.string s) => _
  | _ => False) = _
 unfold s2bS
 split <;> rfl
def appS (P : Program) (Γ : Glob) (Kp : V → Store → Prop) (e : TypeId) (bytes size : Nat) (z x : V) (d : Option Tmp) (s : List (Tmp × Option (Tmp × Bool) × AOp)) (l : List Item) (K : St → Prop) (t : List V) (m : Store) : Prop :=
 opE P Γ (fun o => match o with | .tmp 0 => z | _ => x) m (fun v m' => zbY P Γ Kp s l K (putO t m' d (some v))) Kp (.app e bytes size (.tmp 0) (.tmp 1))
theorem runO_app {e : TypeId} {bytes size : Nat} {z x : Operand} : runO P Γ Kp (⟨d,none,.app e bytes size z x,s⟩ :: l) K (some ⟨t,m⟩) = appS P Γ Kp e bytes size (ev Γ t z) (ev Γ t x) d s l K t m := (rfl)
theorem appS_full {e : TypeId} {bytes size : Nat} {es ys more : List V} {tok : Tok} (hne : ys ≠ []) (h1 : szOk size es = true) (h2 : zdz size ys) (h3 : (es.length + ys.length) * bytes ≤ 140737488355328)
  (h : ∀ b,m b = none → zbY P Γ Kp s l K (putO t (m.set b (.tip e 0)) d (some (.sl (es ++ ys) [] (.tip b 0))))) : appS P Γ Kp e bytes size (.sl es [] .full) (.sl ys more tok) d s l K t m :=
 ⟨fun h0 => absurd h0 hne,fun _ => ⟨h1,h2,.inl h3,rfl,h⟩⟩
theorem appS_tip {e : TypeId} {bytes size b v : Nat} {es ys more : List V} {tok : Tok} (hne : ys ≠ []) (h0 : es ≠ []) (hb : m b = some (.tip e v)) (h1 : szOk size es = true) (h2 : zdz size ys) (h3 : (es.length + ys.length) * bytes ≤ 140737488355328)
  (h : zbY P Γ Kp s l K (putO t (m.set b (.tip e (v + 1))) d (some (.sl (es ++ ys) [] (.tip b (v + 1)))))) : appS P Γ Kp e bytes size (.sl es [] (.tip b v)) (.sl ys more tok) d s l K t m :=
 ⟨fun h0 => absurd h0 hne,fun _ => ⟨h1,h2,.inl h3,rfl,h0,hb,h⟩⟩
/-! ### Loops and results -/
theorem zdc {c : za4} {Q : Ex → St → Prop} {st : St} (I : Nat → St → Prop) (n : Nat) (h0 : I n st) (h : ∀ n s,I n s → awp P Γ Kp c (thenA (fun s' => ∃ n',n' < n ∧ I n' s') Q) s) : awp P Γ Kp (.loop c) Q st := ⟨I,n,h0,h⟩
theorem zai {rs : List ARes} {R : Out → Store → Prop} {v : V} (hv : resV rs ⟨t,m⟩ = some v) (h : R (.ret v) m) : bodyA rs R .ret ⟨t,m⟩ := ⟨v,hv,m,fun _ _ h => h,h⟩
theorem bodyA_normal {rs : List ARes} {R : Out → Store → Prop} {v : V} (hv : resV rs ⟨t,m⟩ = some v) (h : R (.ret v) m) : bodyA rs R .normal ⟨t,m⟩ := ⟨v,hv,m,fun _ _ h => h,h⟩
theorem zbA {rs : List ARes} {R : Out → Store → Prop} {v : V} {m' : Store} (hv : resV rs ⟨t,m⟩ = some v) (hs : ∀ b x,m' b = some x → m b = some x) (h : R (.ret v) m') : bodyA rs R .ret ⟨t,m⟩ := ⟨v,hv,m',hs,h⟩
theorem zah {k : Nat} {st : St} : resV [.tmp k] st = some (tget st.t k) := by simp only [resV,zcn,zbc]
theorem sub_set {m m' : Store} {b : Nat} {x : Blk} (hb : m' b = none) (h : ∀ c y,m' c = some y → m c = some y) : ∀ c y,m' c = some y → (m.set b x) c = some y := by
 intro c y hc
 have : c ≠ b := by
  rintro rfl
  rw [hb] at hc
  cases hc
 rw [Store.set_ne _ _ this]
 exact h c y hc
end
/-! ### Strings as lists of bytes -/
def bs (l : List UInt8) : V := .val (.string ⟨l.toArray⟩)
abbrev it (n : Int) : V := .val (.int .i64 n)
abbrev by8 (b : UInt8) : V := .val (.int .u8 b.toNat)
theorem zdj {l : List UInt8} : zbK (.string ⟨l.toArray⟩) = bs l := rfl
theorem zcY {l : List UInt8} : lenV true (bs l) = some (.val (.int .i64 l.length)) := rfl
theorem cells_bs {l : List UInt8} : (bs l).cells = [bs l] := rfl
theorem oneV_bs {l : List UInt8} : oneV (bs l) = true := rfl
theorem zbO (l : List UInt8) : (ByteArray.mk l.toArray).toList = l := ByteArray.toList_mk l
section
variable {P : Program} {T : TypeId} {xo yo : Operand} {x y : List UInt8}
theorem zeM : binV P .eql T .other xo yo (bs x) (bs y) = some (.val (.bool (x == y))) := by
 unfold bs
 rw [zdQ,zbO,zbO]
theorem zeL : binV P .neq T .other xo yo (bs x) (bs y) = some (.val (.bool !(x == y))) := by
 unfold bs
 rw [zdP,zbO,zbO]
theorem bin_badd (h : x.length + y.length ≤ 9223372036854775807) : binV P .add T .other xo yo (bs x) (bs y) = some (bs (x ++ y)) := by
 unfold bs
 rw [bin_sadd]
 ·rw [ByteArray.mk_append_mk x y]
 ·have e : IntKind.i64.max = 9223372036854775807 := rfl
  have e1 : (ByteArray.mk x.toArray).size = x.length := by simp [ByteArray.size]
  have e2 : (ByteArray.mk y.toArray).size = y.length := by simp [ByteArray.size]
  omega
theorem idx_bs {k : IntKind} {i : Nat} {b : UInt8} (h : x[i]? = some b) : idxStrV (bs x) (.val (.int k (i : Int))) = some (.val (.int .u8 b.toNat)) := by
 obtain ⟨hi,hb⟩ := List.getElem?_eq_some_iff.1 h
 have hi' : i < (ByteArray.mk x.toArray).size := by simpa [ByteArray.size] using hi
 unfold bs
 rw [idxStrV_nat hi']
 congr 4
 simp [ByteArray.getElem_eq_getElem_data,hb]
end
def zbV : V → Option (Option Int) → Option (Option Int) → Option V
 | .val (.string s),some lo,some hi => match bounds s.size s.size lo hi none with
   | some (a,b,_) => some (.val (.string (s.extract a b)))
   | none => none
 | _,_,_ => none
theorem zcz {P : Program} {Γ : Glob} {t : List V} {m : Store} {x : Operand} {lo hi : Option Operand} : zao P (ev Γ t) m (.sliceS x lo hi) = zbV (ev Γ t x) (zbd (ev Γ t) lo) (zbd (ev Γ t) hi) := by
 simp only [zao,zbV]
 generalize ev Γ t x = a,zbd (ev Γ t) lo = b,zbd (ev Γ t) hi = c
 split
 ·rfl
 ·rename_i h
  split
  ·exact (h _ _ _ rfl rfl rfl).elim
  ·rfl
theorem zdi {ρ : Operand → V} : zbd ρ none = some none := rfl
def optV : V → Option (Option Int)
 | .val (.int _ n) => some (some n)
 | _ => none
theorem zcr {ρ : Operand → V} {x : Operand} : zbd ρ (some x) = optV (ρ x) := by
 simp only [zbd,optV]
 split <;> simp_all
theorem optV_int {k : IntKind} {n : Int} : optV (.val (.int k n)) = some (some n) := rfl
theorem slice_bs {x : List UInt8} {a b : Nat} (h1 : a ≤ b) (h2 : b ≤ x.length) : zbV (bs x) (some (some (a : Int))) (some (some (b : Int))) = some (bs ((x.take b).drop a)) := by
 have e : (ByteArray.mk x.toArray).size = x.length := by simp [ByteArray.size]
 simp only [zbV,bs,bounds,e,zfp,zfo]
 rw [if_pos (by simp; omega)]
 simp only [Int.toNat_natCast,ByteArray.extract_mk,List.drop_take]
theorem zd2 {x : List UInt8} {a : Nat} (h : a ≤ x.length) : zbV (bs x) (some (some (a : Int))) (some none) = some (bs (x.drop a)) := by
 have e : (ByteArray.mk x.toArray).size = x.length := by simp [ByteArray.size]
 simp only [zbV,bs,bounds,e,zfp,zfo]
 rw [if_pos (by simp; omega)]
 simp only [Int.toNat_natCast,ByteArray.extract_mk]
 rw [List.take_of_length_le (by simp)]
theorem slice_upto {x : List UInt8} {b : Nat} (h : b ≤ x.length) : zbV (bs x) (some none) (some (some (b : Int))) = some (bs (x.take b)) := by
 have e : (ByteArray.mk x.toArray).size = x.length := by simp [ByteArray.size]
 simp only [zbV,bs,bounds,e,zfp,zfo]
 rw [if_pos (by simp; omega)]
 simp [ByteArray.extract_mk]
theorem wrap_i64 {n : Int} (h1 : -9223372036854775808 ≤ n) (h2 : n < 9223372036854775808) : IntKind.wrap .i64 n = n := by
 unfold IntKind.wrap
 simp only [IntKind.bits,IntKind.signed,Bool.true_and]
 split <;> rename_i h <;> simp at h <;> omega
theorem zef {cells : List V} : zbM cells [] = some cells := rfl
theorem zdy {cells : List V} {off : Nat} {v : V} {r : List (Nat × Nat × V)} (h : v.cells = [v]) : zbM cells ((off,1,v) :: r) = if off + 1 ≤ cells.length then zbM (tset cells off v) r else none := by
 simp only [zbM,h,List.length_singleton,true_and,List.zipIdx_singleton,List.foldl_cons,List.foldl_nil,Nat.add_zero,zeu]
theorem zed {cells : List V} {off : Nat} {r : List (Nat × Nat × V)} {u : Value} : zbM cells ((off,1,.val u) :: r) = if off + 1 ≤ cells.length then zbM (tset cells off (.val u)) r else none := zdy rfl
theorem fillV_bs {cells : List V} {off : Nat} {r : List (Nat × Nat × V)} {u : List UInt8} : zbM cells ((off,1,bs u) :: r) = if off + 1 ≤ cells.length then zbM (tset cells off (bs u)) r else none := zdy rfl
theorem fillV_sl {cells : List V} {off : Nat} {r : List (Nat × Nat × V)} {a b : List V} {k : Tok} : zbM cells ((off,1,.sl a b k) :: r) = if off + 1 ≤ cells.length then zbM (tset cells off (.sl a b k)) r else none := zdy rfl
theorem zee {cells : List V} {off : Nat} {r : List (Nat × Nat × V)} {a b : Nat} : zbM cells ((off,1,.ptr a b) :: r) = if off + 1 ≤ cells.length then zbM (tset cells off (.ptr a b)) r else none := zdy rfl
theorem zeh {cells : List V} {off : Nat} {r : List (Nat × Nat × V)} {a : List V} : zbM cells ((off,1,.elt a) :: r) = if off + 1 ≤ cells.length then zbM (tset cells off (.elt a)) r else none := zdy rfl
theorem fillV_fn {cells : List V} {off : Nat} {r : List (Nat × Nat × V)} {f : Fn} {a b : List V} : zbM cells ((off,1,.fn f a b) :: r) = if off + 1 ≤ cells.length then zbM (tset cells off (.fn f a b)) r else none := zdy rfl
theorem zeg {cells : List V} {off : Nat} {r : List (Nat × Nat × V)} {T : TypeId} {v : V} : zbM cells ((off,1,.ifc T v) :: r) = if off + 1 ≤ cells.length then zbM (tset cells off (.ifc T v)) r else none := zdy rfl
theorem map_agg {cs : List V} : (some cs).map V.agg = some (.agg cs) := rfl
theorem zdh {cs : List V} {o n : Nat} : zbB cs o (some n) = if o + n ≤ cs.length then some (.agg ((cs.drop o).take n)) else none := rfl
theorem zdI {k : IntKind} {n : Int} : oneV (.val (.int k n)) = true := rfl
theorem oneV_str {s : ByteArray} : oneV (.val (.string s)) = true := rfl
theorem zd6 {b : Bool} : oneV (.val (.bool b)) = true := rfl
theorem zd4 : oneV (.val (.pointer none)) = true := rfl
theorem zd5 : oneV (.val .nilIface) = true := rfl
theorem zdq {k b o : Nat} {T : TypeId} {sz : Option Nat} {cs : List V} {t : List V} {m : Store} (h1 : tget t k = .ptr b o) (h2 : m b = some (.var T cs)) : resV [.cell k sz] ⟨t,m⟩ = zbB cs o sz := by
 simp only [resV,zcn,zbc,h1,h2]
def upTo (f : Nat → V) : Nat → Nat → List V
 | 0,_ => []
 | n + 1,k => f k :: upTo f n (k + 1)
theorem zaY {f : Nat → V} {k : Nat} : upTo f 0 k = [] := rfl
theorem zaE {f : Nat → V} {n k : Nat} : upTo f (n + 1) k = f k :: upTo f n (k + 1) := rfl
theorem upTo_tail {a : V} {t : List V} : ∀ (n k : Nat),upTo (tget (a :: t)) n (k + 1) = upTo (tget t) n k
 | 0,_ => rfl
 | n + 1,k => by simp only [upTo,zad,upTo_tail n (k + 1)]
theorem t_eq : ∀ {n : Nat} {t : List V},t.length = n → t = upTo (tget t) n 0
 | 0,[],_ => rfl
 | n + 1,a :: t,h => by
  simp only [upTo,zac]
  rw [upTo_tail n 0,← t_eq (by simpa using h)]
theorem ev_global {Γ : Glob} {t : List V} {g : Nat} {cs : List V} (h : Γ g = some cs) : ev Γ t (.global g) = .elt cs := by simp only [ev,h]
def idxAV (n size : Nat) : V → V → Option V
 | .ptr b o,.val (.int _ k) => if 0 ≤ k ∧ k < n then some (.ptr b (o + k.toNat * size)) else none
 | .elt cs,.val (.int _ k) => if 0 ≤ k ∧ k < n then some (.elt (cs.drop (k.toNat * size))) else none
 | _,_ => none
theorem zb5 {P : Program} {Γ : Glob} {t : List V} {m : Store} {n size : Nat} {x i : Operand} : zao P (ev Γ t) m (.idxA n size x i) = idxAV n size (ev Γ t x) (ev Γ t i) := by
 simp only [zao,idxAV]
 generalize ev Γ t x = a,ev Γ t i = b
 cases a <;> cases b <;> first | rfl | (rename_i u; cases u <;> rfl)
theorem idxA_elt {n size i : Nat} {k : IntKind} {cs : List V} (h : i < n) : idxAV n size (.elt cs) (.val (.int k (i : Int))) = some (.elt (cs.drop (i * size))) := by
 simp only [idxAV]
 rw [if_pos (by omega)]
 rfl
theorem loadV_drop {m : Store} {cs : List V} {i : Nat} : loadV m none (.elt (cs.drop (i * 1))) = cs[i]? := by
 simp [loadV,zbB]
theorem litsV_done {size : Nat} {es : List V} : zcX size es [] = some es := rfl
theorem litsV_next {size i : Nat} {es : List V} {v : V} {r : List (Nat × V)} (h1 : v.cells.length = size) (h2 : i < es.length) : zcX size es ((i,v) :: r) = zcX size (tset es i v) r := by
 simp only [zcX,h1,h2,zeu]
 simp
end Go.Av
