/- Going through a code made ready by rewriting: each quiet operation makes the next state. No condition. -/
import Derived.Test.YtmglaebjmaomnaaGreatDoorTAvH
namespace Go.Av
set_option linter.unusedSimpArgs false
set_option linter.unusedVariables false
abbrev un : V := .val undef
def tget : List V → Nat → V
  | [], _ => un
  | a :: _, 0 => a
  | _ :: t, n + 1 => tget t n
theorem zac (a : V) (t : List V) : tget (a :: t) 0 = a := rfl
theorem zad (a : V) (t : List V) (n : Nat) : tget (a :: t) (n + 1) = tget t n := rfl
theorem zbc : ∀ (t : List V) (n : Nat), t.getD n un = tget t n
  | [], n => by simp [tget]
  | a :: t, 0 => rfl
  | a :: t, n + 1 => by simpa [tget] using zbc t n
def tset : List V → Nat → V → List V
  | [], _, _ => []
  | _ :: t, 0, v => v :: t
  | a :: t, n + 1, v => a :: tset t n v
theorem zdZ (a v : V) (t : List V) : tset (a :: t) 0 v = v :: t := rfl
theorem zd0 (a v : V) (t : List V) (n : Nat) : tset (a :: t) (n + 1) v = a :: tset t n v := rfl
theorem zeu : ∀ (t : List V) (n : Nat) (v : V), t.set n v = tset t n v
  | [], n, v => rfl
  | a :: t, 0, v => rfl
  | a :: t, n + 1, v => by simpa [tset] using zeu t n v
theorem zel (Γ : Glob) (t : List V) (n : Nat) : ev Γ t (.tmp n) = tget t n := zbc t n
theorem ev_const (Γ : Glob) (t : List V) (v : Value) : ev Γ t (.const v) = zbK v := rfl
theorem ev_func (Γ : Glob) (t : List V) (f : FuncId) : ev Γ t (.func f) = .fn (.func f) [] [] := rfl
theorem zcs (k : IntKind) (n : Int) : zbK (.int k n) = .val (.int k n) := rfl
theorem zcd (b : Bool) : zbK (.bool b) = .val (.bool b) := rfl
theorem za6 : zbK .nilIface = .val .nilIface := rfl
theorem zbm : zbK .nilFunc = .val .nilFunc := rfl
theorem zbl (a : Option Addr) : zbK (.pointer a) = .val (.pointer a) := rfl
theorem za5 : zbK (.slice none 0 0) = .sl [] [] .full := rfl
section
variable {P : Program} {Γ : Glob} {Kp : V → Store → Prop}
def putO (t : List V) (m : Store) (d : Option Tmp) : Option V → Option St
  | some v => some ((⟨t, m⟩ : St).put d v)
  | none => none
theorem putO_some (t : List V) (m : Store) (d : Nat) (v : V) : putO t m (some d) (some v) = some ⟨tset t d v, m⟩ := by
  simp only [putO, St.put, zeu]
theorem putO_skip (t : List V) (m : Store) (v : V) : putO t m none (some v) = some ⟨t, m⟩ := rfl
def runO (P : Program) (Γ : Glob) (Kp : V → Store → Prop) (l : List Item) (K : St → Prop) : Option St → Prop
  | some st => runA P Γ Kp l K st
  | none => False
def gO (P : Program) (Γ : Glob) (v : V) (want : Bool) (ao : AOp) (d : Option Tmp) (t : List V) (m : Store) : Option St :=
  if isBool want v then putO t m d (zao P (ev Γ t) m ao) else putO t m d (some un)
theorem gO_tt {ao : AOp} {d : Option Tmp} {t : List V} {m : Store} : gO P Γ (.val (.bool true)) true ao d t m = putO t m d (zao P (ev Γ t) m ao) := (rfl)
theorem gO_ff {ao : AOp} {d : Option Tmp} {t : List V} {m : Store} : gO P Γ (.val (.bool false)) false ao d t m = putO t m d (zao P (ev Γ t) m ao) := (rfl)
theorem gO_tf {ao : AOp} {d : Option Tmp} {t : List V} {m : Store} : gO P Γ (.val (.bool true)) false ao d t m = putO t m d (some un) := (rfl)
theorem gO_ft {ao : AOp} {d : Option Tmp} {t : List V} {m : Store} : gO P Γ (.val (.bool false)) true ao d t m = putO t m d (some un) := (rfl)
theorem gO_un {w : Bool} {ao : AOp} {d : Option Tmp} {t : List V} {m : Store} : gO P Γ (.val undef) w ao d t m = putO t m d (some un) := (rfl)
theorem runA_still {x : Item} {l : List Item} {K : St → Prop} {st : St} (hs : x.still = []) : runA P Γ Kp (x :: l) K st ↔ zaJ P Γ Kp x (runA P Γ Kp l K) st := by
  show zaJ P Γ Kp x (fun s => (∀ y ∈ x.still, zba P Γ y s) ∧ runA P Γ Kp l K s) st ↔ _
  rw [hs]
  have : (fun s => (∀ y ∈ ([] : List (Tmp × Option (Tmp × Bool) × AOp)), zba P Γ y s) ∧ runA P Γ Kp l K s) = runA P Γ Kp l K := by
    funext s
    simp
  rw [this]
def zaW (ao : AOp) : Bool := match kindOf ao with
  | .loc | .load => true
  | _ => false
theorem q_mov {x : Operand} : zaW (.mov x) = true := (rfl)
theorem q_pick {a b c : Operand} : zaW (.pick a b c) = true := (rfl)
theorem q_build {a : List V} {b : List (Nat × Nat × Operand)} : zaW (.build a b) = true := (rfl)
theorem q_lits {a c : Nat} {b : List V} {d : List (Nat × Operand)} : zaW (.lits a b c d) = true := (rfl)
theorem q_load {a : Option Nat} {b : Operand} : zaW (.load a b) = true := (rfl)
theorem q_nilc {a : Operand} : zaW (.nilc a) = true := (rfl)
theorem q_bin {a : BinOp} {b : TypeId} {c : Cmp} {d e : Operand} : zaW (.bin a b c d e) = true := (rfl)
theorem q_un {a : UnOp} {b : Operand} : zaW (.un a b) = true := (rfl)
theorem q_conv {a b : TypeId} {c : Operand} : zaW (.conv a b c) = true := (rfl)
theorem q_b2s {a : Operand} : zaW (.b2s a) = true := (rfl)
theorem q_mki {a : TypeId} {b : Operand} : zaW (.mki a b) = true := (rfl)
theorem q_mkf {a : Fn} {b c : List Operand} : zaW (.mkf a b c) = true := (rfl)
theorem q_sliceS {a : Operand} {b c : Option Operand} : zaW (.sliceS a b c) = true := (rfl)
theorem q_sliceL {a : Nat} {b : Operand} {c d e : Option Operand} : zaW (.sliceL a b c d e) = true := (rfl)
theorem q_fieldA {a : Nat} {b : Operand} : zaW (.fieldA a b) = true := (rfl)
theorem q_field {a : Nat} {b : Option Nat} {c : Operand} : zaW (.field a b c) = true := (rfl)
theorem q_idxA {a b : Nat} {c d : Operand} : zaW (.idxA a b c d) = true := (rfl)
theorem q_idxL {a : Nat} {b c : Operand} : zaW (.idxL a b c) = true := (rfl)
theorem q_idxStr {a b : Operand} : zaW (.idxStr a b) = true := (rfl)
theorem q_len {a : Bool} {b : Operand} : zaW (.len a b) = true := (rfl)
theorem q_ext {a : Operand} {b : Nat} : zaW (.ext a b) = true := (rfl)
theorem runO_g {ao : AOp} {d : Option Tmp} {j : Nat} {w : Bool} {l : List Item} {K : St → Prop} {t : List V} {m : Store} (hq : zaW ao = true) :
    runO P Γ Kp (⟨d, some (j, w), ao, []⟩ :: l) K (some ⟨t, m⟩) = runO P Γ Kp l K (gO P Γ (tget t j) w ao d t m) := by
  apply propext
  show runA P Γ Kp (_ :: l) K ⟨t, m⟩ ↔ _
  rw [runA_still rfl]
  unfold gO zaJ zaB
  simp only [zbc]
  split
  · have hk : kindOf ao = .loc ∨ kindOf ao = .load := by
      unfold zaW at hq
      split at hq <;> simp_all
    have := quiet_iff (P := P) (Γ := Γ) (Kp := Kp) (st := ⟨t, m⟩) (x := ⟨d, none, ao, []⟩) (.inl hk) (K := runA P Γ Kp l K)
    unfold zaJ valX zaB at this
    simp only [if_true] at this
    rw [this]
    cases he : zao P (ev Γ t) m ao with
    | none => simp [putO, runO]
    | some v => simp [putO, runO]
  · rfl
theorem runO_q {ao : AOp} {d : Option Tmp} {l : List Item} {K : St → Prop} {t : List V} {m : Store} (hq : zaW ao = true) :
    runO P Γ Kp (⟨d, none, ao, []⟩ :: l) K (some ⟨t, m⟩) = runO P Γ Kp l K (putO t m d (zao P (ev Γ t) m ao)) := by
  apply propext
  show runA P Γ Kp (_ :: l) K ⟨t, m⟩ ↔ _
  rw [runA_still rfl]
  have hk : kindOf ao = .loc ∨ kindOf ao = .load := by
    unfold zaW at hq
    split at hq <;> simp_all
  rw [quiet_iff (.inl hk)]
  unfold valX zaB
  simp only [if_true]
  cases he : zao P (ev Γ t) m ao with
  | none => simp [putO, runO]
  | some v => simp [putO, runO]
theorem runO_nil {K : St → Prop} {st : St} : runO P Γ Kp [] K (some st) = K st := (rfl)
theorem zdb {b w : Bool} {ao : AOp} {d : Option Tmp} {t : List V} {m : Store} {l : List Item} {K : St → Prop} (h1 : b = true → runO P Γ Kp l K (gO P Γ (.val (.bool true)) w ao d t m)) (h2 : b = false → runO P Γ Kp l K (gO P Γ (.val (.bool false)) w ao d t m)) : runO P Γ Kp l K (gO P Γ (.val (.bool b)) w ao d t m) := by
  cases b
  · exact h2 rfl
  · exact h1 rfl
/-! ### Codes -/
def condS (P : Program) (Γ : Glob) (Kp : V → Store → Prop) (v : V) (a b : za4) (Q : Ex → St → Prop) (st : St) : Prop := match v with
  | .val (.bool t) => (t = true → awp P Γ Kp a Q st) ∧ (t = false → awp P Γ Kp b Q st)
  | _ => False
theorem awp_skip {Q : Ex → St → Prop} {st : St} : awp P Γ Kp .skip Q st = Q .normal st := (rfl)
theorem awp_row {l : List Item} {Q : Ex → St → Prop} {st : St} : awp P Γ Kp (.row l) Q st = runO P Γ Kp l (Q .normal) (some st) := (rfl)
theorem awp_seq {a b : za4} {Q : Ex → St → Prop} {st : St} : awp P Γ Kp (.seq a b) Q st = awp P Γ Kp a (thenA (awp P Γ Kp b Q) Q) st := (rfl)
theorem awp_cond {c : Operand} {a b : za4} {Q : Ex → St → Prop} {t : List V} {m : Store} : awp P Γ Kp (.cond c a b) Q ⟨t, m⟩ = condS P Γ Kp (ev Γ t c) a b Q ⟨t, m⟩ := (rfl)
theorem awp_block {id : Nat} {c : za4} {Q : Ex → St → Prop} {st : St} : awp P Γ Kp (.block id c) Q st = awp P Γ Kp c (zbv id Q) st := (rfl)
theorem awp_exit {id : Nat} {Q : Ex → St → Prop} {st : St} : awp P Γ Kp (.exit id) Q st = Q (.exit id) st := (rfl)
theorem awp_ret {Q : Ex → St → Prop} {st : St} : awp P Γ Kp .ret Q st = Q .ret st := (rfl)
theorem condS_true {a b : za4} {Q : Ex → St → Prop} {st : St} : condS P Γ Kp (.val (.bool true)) a b Q st = awp P Γ Kp a Q st := by simp [condS]
theorem zeG {a b : za4} {Q : Ex → St → Prop} {st : St} : condS P Γ Kp (.val (.bool false)) a b Q st = awp P Γ Kp b Q st := by simp [condS]
theorem zat {x : Bool} {a b : za4} {Q : Ex → St → Prop} {st : St} (h1 : x = true → awp P Γ Kp a Q st) (h2 : x = false → awp P Γ Kp b Q st) : condS P Γ Kp (.val (.bool x)) a b Q st := ⟨h1, h2⟩
theorem zdG {n : St → Prop} {Q : Ex → St → Prop} {st : St} : thenA n Q .normal st = n st := (rfl)
theorem thenA_ret {n : St → Prop} {Q : Ex → St → Prop} {st : St} : thenA n Q .ret st = Q .ret st := (rfl)
theorem thenA_exit {n : St → Prop} {Q : Ex → St → Prop} {st : St} {i : Nat} : thenA n Q (.exit i) st = Q (.exit i) st := (rfl)
theorem zcj {i : Nat} {Q : Ex → St → Prop} {st : St} : zbv i Q .normal st = Q .normal st := (rfl)
theorem zdN {i : Nat} {Q : Ex → St → Prop} {st : St} : zbv i Q .ret st = Q .ret st := (rfl)
theorem zda {i j : Nat} {Q : Ex → St → Prop} {st : St} : zbv i Q (.exit j) st = if j = i then Q .normal st else Q (.exit j) st := (rfl)
theorem zc9 {i : Nat} {Q : Ex → St → Prop} {st : St} : zbv i Q (.exit i) st = Q .normal st := if_pos rfl
/-! ### What operations come to -/
theorem eval_mov {t : List V} {m : Store} {x : Operand} : zao P (ev Γ t) m (.mov x) = some (ev Γ t x) := rfl
def pickV (c a b : V) : Option V := match c with
  | .val (.bool t) => some (bif t then a else b)
  | _ => none
theorem zdg {a b : V} : pickV (.val (.bool true)) a b = some a := rfl
theorem zcq {a b : V} : pickV (.val (.bool false)) a b = some b := rfl
theorem zei {t : List V} {m : Store} {c a b : Operand} : zao P (ev Γ t) m (.pick c a b) = pickV (ev Γ t c) (ev Γ t a) (ev Γ t b) := rfl
theorem eval_bin {t : List V} {m : Store} {op : BinOp} {T : TypeId} {k : Cmp} {x y : Operand} : zao P (ev Γ t) m (.bin op T k x y) = binV P op T k x y (ev Γ t x) (ev Γ t y) := rfl
def unV (P : Program) (op : UnOp) (v : V) : Option V := match raw v with
    | some a => match zaw P (Op.unary op a) with
      | some v => if zbn v then some (.val v) else none
      | none => none
    | none => none
theorem zdX {t : List V} {m : Store} {op : UnOp} {x : Operand} : zao P (ev Γ t) m (.un op x) = unV P op (ev Γ t x) := rfl
theorem unV_not {b : Bool} : unV P .not (.val (.bool b)) = some (.val (.bool !b)) := rfl
theorem unV_neg {k : IntKind} {n : Int} : unV P .neg (.val (.int k n)) = some (.val (.int k (k.wrap (0 - n)))) := rfl
def convV (P : Program) (s d : TypeId) (v : V) : Option V := match raw v with
    | some a => match zaw P (convert s d a) with
      | some v => if zbn v then some (.val v) else none
      | none => none
    | none => none
theorem zbN {t : List V} {m : Store} {s d : TypeId} {x : Operand} : zao P (ev Γ t) m (.conv s d x) = convV P s d (ev Γ t x) := rfl
def loadV (m : Store) (s : Option Nat) : V → Option V
    | .elt cs => zbB cs 0 s
    | .ptr b o => match m b with
      | some (.var _ cs) => zbB cs o s
      | _ => none
    | _ => none
theorem zb4 {t : List V} {m : Store} {s : Option Nat} {x : Operand} : zao P (ev Γ t) m (.load s x) = loadV m s (ev Γ t x) := rfl
theorem zea {m : Store} {s : Option Nat} {cs : List V} : loadV m s (.elt cs) = zbB cs 0 s := rfl
def nilcV : V → Option V
    | .ptr b o => some (.ptr b o)
    | .elt cs => some (.elt cs)
    | .fn (.func f) a b => some (.fn (.func f) a b)
    | _ => none
theorem zej {t : List V} {m : Store} {x : Operand} : zao P (ev Γ t) m (.nilc x) = nilcV (ev Γ t x) := rfl
theorem zd7 {b o : Nat} : nilcV (.ptr b o) = some (.ptr b o) := rfl
theorem zd8 {cs : List V} : nilcV (.elt cs) = some (.elt cs) := rfl
theorem nilcV_fn {f : FuncId} {a b : List V} : nilcV (.fn (.func f) a b) = some (.fn (.func f) a b) := rfl
theorem eval_mki {t : List V} {m : Store} {T : TypeId} {x : Operand} : zao P (ev Γ t) m (.mki T x) = some (.ifc T (ev Γ t x)) := rfl
theorem eval_mkf {t : List V} {m : Store} {fn : Fn} {f c : List Operand} : zao P (ev Γ t) m (.mkf fn f c) = some (.fn fn (f.map (ev Γ t)) (c.map (ev Γ t))) := rfl
def fieldAV (off : Nat) : V → Option V
    | .ptr b o => some (.ptr b (o + off))
    | .elt cs => some (.elt (cs.drop off))
    | _ => none
theorem zcB {t : List V} {m : Store} {off : Nat} {x : Operand} : zao P (ev Γ t) m (.fieldA off x) = fieldAV off (ev Γ t x) := rfl
theorem zcx {off b o : Nat} : fieldAV off (.ptr b o) = some (.ptr b (o + off)) := rfl
theorem zcy {off : Nat} {cs : List V} : fieldAV off (.elt cs) = some (.elt (cs.drop off)) := rfl
def fieldV (off : Nat) (s : Option Nat) : V → Option V
    | .agg cs => zbB cs off s
    | _ => none
theorem zdl {t : List V} {m : Store} {off : Nat} {s : Option Nat} {x : Operand} : zao P (ev Γ t) m (.field off s x) = fieldV off s (ev Γ t x) := rfl
theorem zdk {off : Nat} {s : Option Nat} {cs : List V} : fieldV off s (.agg cs) = zbB cs off s := rfl
theorem zdm {t : List V} {m : Store} {z : List V} {parts : List (Nat × Nat × Operand)} : zao P (ev Γ t) m (.build z parts) = (zbM z (parts.map fun x => (x.1, x.2.1, ev Γ t x.2.2))).map .agg := rfl
def lenV : Bool → V → Option V
    | true, .val (.string s) => some (.val (.int .i64 s.size))
    | false, .sl es _ _ => some (.val (.int .i64 es.length))
    | false, .arr _ _ n _ => some (.val (.int .i64 n))
    | false, .res _ _ _ n => some (.val (.int .i64 n))
    | _, _ => none
theorem eval_len {t : List V} {m : Store} {b : Bool} {x : Operand} : zao P (ev Γ t) m (.len b x) = lenV b (ev Γ t x) := by
  cases b <;> generalize h : ev Γ t x = v <;> simp only [zao, lenV, h] <;> cases v <;> first | rfl | (rename_i u; cases u <;> rfl)
theorem zcu {s : ByteArray} : lenV true (.val (.string s)) = some (.val (.int .i64 s.size)) := rfl
theorem zaX {es more : List V} {tok : Tok} : lenV false (.sl es more tok) = some (.val (.int .i64 es.length)) := rfl
def extV (k : Nat) : V → Option V
    | .tup vs => vs[k]?
    | _ => none
theorem eval_ext {t : List V} {m : Store} {k : Nat} {x : Operand} : zao P (ev Γ t) m (.ext x k) = extV k (ev Γ t x) := rfl
theorem extV_tup {k : Nat} {vs : List V} : extV k (.tup vs) = vs[k]? := rfl
def idxStrV : V → V → Option V
    | .val (.string s), .val (.int _ k) => if 0 ≤ k then match s[k.toNat]? with
        | some b => some (.val (.int .u8 b.toNat))
        | none => none
      else none
    | _, _ => none
theorem zcA {t : List V} {m : Store} {x i : Operand} : zao P (ev Γ t) m (.idxStr x i) = idxStrV (ev Γ t x) (ev Γ t i) := rfl
theorem idxStrV_nat {s : ByteArray} {k : IntKind} {i : Nat} (h : i < s.size) : idxStrV (.val (.string s)) (.val (.int k (i : Int))) = some (.val (.int .u8 (s[i]'h).toNat)) := by
  simp [idxStrV, h]
def idxLV (size : Nat) : V → V → Option V
    | .sl es _ _, .val (.int _ k) => if 0 ≤ k then match es[k.toNat]? with
        | some e => if e.cells.length = size then some (.elt e.cells) else none
        | none => none
      else none
    | .arr b o len _, .val (.int _ k) => if 0 ≤ k ∧ k < len then some (.ptr b (o + k.toNat * size)) else none
    | _, _ => none
theorem zek {t : List V} {m : Store} {size : Nat} {x i : Operand} : zao P (ev Γ t) m (.idxL size x i) = idxLV size (ev Γ t x) (ev Γ t i) := rfl
theorem idxLV_nat {size : Nat} {es more : List V} {tok : Tok} {k : IntKind} {i : Nat} {e : V} (h : es[i]? = some e) (hs : e.cells.length = size) : idxLV size (.sl es more tok) (.val (.int k (i : Int))) = some (.elt e.cells) := by
  simp [idxLV, h, hs]
theorem zds {cs : List V} {o : Nat} : zbB cs o none = cs[o]? := rfl
/-! ### Numbers and strings -/
section
variable {T : TypeId} {k : IntKind} {xo yo : Operand} {a b : Int} {x y : ByteArray}
theorem zeK : binV P .eql T .other xo yo (.val (.int k a)) (.val (.int k b)) = some (.val (.bool (a == b))) := by simp [binV, zbZ, zaM, raw, eqGuard, binOp, zaw, Op.intCmp, zbn, pure, bind, Sem.bind]
theorem zeI : binV P .neq T .other xo yo (.val (.int k a)) (.val (.int k b)) = some (.val (.bool (a != b))) := by simp [binV, zbZ, zaM, raw, eqGuard, binOp, zaw, Op.intCmp, zbn, pure, bind, Sem.bind]
theorem bin_lss : binV P .lss T .other xo yo (.val (.int k a)) (.val (.int k b)) = some (.val (.bool (decide (a < b)))) := by simp [binV, zbZ, zaM, raw, eqGuard, binOp, zaw, Op.intCmp, zbn, pure, bind, Sem.bind]
theorem bin_leq : binV P .leq T .other xo yo (.val (.int k a)) (.val (.int k b)) = some (.val (.bool (decide (a ≤ b)))) := by simp [binV, zbZ, zaM, raw, eqGuard, binOp, zaw, Op.intCmp, zbn, pure, bind, Sem.bind]
theorem bin_gtr : binV P .gtr T .other xo yo (.val (.int k a)) (.val (.int k b)) = some (.val (.bool (decide (a > b)))) := by simp [binV, zbZ, zaM, raw, eqGuard, binOp, zaw, Op.intCmp, zbn, pure, bind, Sem.bind]
theorem bin_geq : binV P .geq T .other xo yo (.val (.int k a)) (.val (.int k b)) = some (.val (.bool (decide (a ≥ b)))) := by simp [binV, zbZ, zaM, raw, eqGuard, binOp, zaw, Op.intCmp, zbn, pure, bind, Sem.bind]
theorem bin_add : binV P .add T .other xo yo (.val (.int k a)) (.val (.int k b)) = some (.val (.int k (k.wrap (a + b)))) := by simp [binV, zbZ, zaM, raw, eqGuard, binOp, zaw, Op.intArith, zbn, pure, bind, Sem.bind]
theorem bin_sub : binV P .sub T .other xo yo (.val (.int k a)) (.val (.int k b)) = some (.val (.int k (k.wrap (a - b)))) := by simp [binV, zbZ, zaM, raw, eqGuard, binOp, zaw, Op.intArith, zbn, pure, bind, Sem.bind]
theorem zeJ : binV P .mul T .other xo yo (.val (.int k a)) (.val (.int k b)) = some (.val (.int k (k.wrap (a * b)))) := by simp [binV, zbZ, zaM, raw, eqGuard, binOp, zaw, Op.intArith, zbn, pure, bind, Sem.bind]
theorem bin_or : binV P .or T .other xo yo (.val (.int k a)) (.val (.int k b)) = some (.val (.int k (k.wrap (BitVec.ofInt k.bits a ||| BitVec.ofInt k.bits b).toNat))) := by simp [binV, zbZ, zaM, raw, eqGuard, binOp, zaw, Op.intBits, zbn, pure, bind, Sem.bind]
theorem bin_and : binV P .and T .other xo yo (.val (.int k a)) (.val (.int k b)) = some (.val (.int k (k.wrap (BitVec.ofInt k.bits a &&& BitVec.ofInt k.bits b).toNat))) := by simp [binV, zbZ, zaM, raw, eqGuard, binOp, zaw, Op.intBits, zbn, pure, bind, Sem.bind]
theorem zdQ : binV P .eql T .other xo yo (.val (.string x)) (.val (.string y)) = some (.val (.bool (x.toList == y.toList))) := by simp [binV, zbZ, zaM, raw, eqGuard, binOp, zaw, Op.stringOp, zbn, pure, bind, Sem.bind]
theorem zdP : binV P .neq T .other xo yo (.val (.string x)) (.val (.string y)) = some (.val (.bool !(x.toList == y.toList))) := by simp [binV, zbZ, zaM, raw, eqGuard, binOp, zaw, Op.stringOp, zbn, pure, bind, Sem.bind]
theorem bin_sadd (h : ((x.size + y.size : Nat) : Int) ≤ IntKind.i64.max) : binV P .add T .other xo yo (.val (.string x)) (.val (.string y)) = some (.val (.string (x ++ y))) := by
  have : ¬ (9223372036854775807 : Int) < (x.size : Int) + (y.size : Int) := by
    have e : IntKind.i64.max = 9223372036854775807 := rfl
    omega
  simp [binV, zbZ, zaM, raw, eqGuard, binOp, zaw, Op.stringOp, zbn, pure, bind, Sem.bind, this]
end
end
end Go.Av
