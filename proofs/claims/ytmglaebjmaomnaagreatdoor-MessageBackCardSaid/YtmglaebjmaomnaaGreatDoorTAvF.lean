/- The quiet operations reckoned out fast: what they come to is what the layer's own reckoning says. No condition. -/
import Derived.Test.YtmglaebjmaomnaaGreatDoorTAvV
open Nat renaming beq → zfJ, eq_of_beq_eq_true → zfl
namespace Go.Av
open Go.RowKit
set_option linter.unusedSimpArgs false
set_option linter.unusedVariables false
def eqBytes : List UInt8 → List UInt8 → Bool
 | [],[] => true
 | a :: l,b :: r => bif zfJ a.toNat b.toNat then eqBytes l r else false
 | _,_ => false
theorem eqBytes_eq : ∀ {a b : List UInt8},eqBytes a b = (a == b)
 | [],[] => rfl
 | a :: l,b :: r => by
  simp only [eqBytes,List.cons_beq_cons]
  rw [eqBytes_eq]
  by_cases h : a = b
  ·subst h; simp
  ·have : zfJ a.toNat b.toNat = false := by
    rw [Bool.eq_false_iff]
    intro k
    exact h (UInt8.toNat_inj.1 (zfl k))
   simp [this,h]
 | [],_ :: _ => rfl
 | _ :: _,[] => rfl
theorem eqBytes_sound {a b : List UInt8} (h : eqBytes a b = true) : a = b := by
 rw [eqBytes_eq] at h
 exact beq_iff_eq.1 h
def eqInt : Int → Int → Bool
 | .ofNat a,.ofNat b => zfJ a b
 | .negSucc a,.negSucc b => zfJ a b
 | _,_ => false
theorem eqInt_eq {a b : Int} : eqInt a b = (a == b) := by
 cases a <;> cases b <;> simp only [eqInt]
 ·rename_i a b
  by_cases h : a = b
  ·subst h; simp
  ·have h2 : zfJ a b = false := by
    rw [Bool.eq_false_iff]
    intro k
    exact h (zfl k)
   rw [h2]
   have : Int.ofNat a ≠ Int.ofNat b := fun e => h (Int.ofNat.inj e)
   exact (beq_eq_false_iff_ne.2 this).symm
 ·rfl
 ·rfl
 ·rename_i a b
  by_cases h : a = b
  ·subst h; simp
  ·have h2 : zfJ a b = false := by
    rw [Bool.eq_false_iff]
    intro k
    exact h (zfl k)
   rw [h2]
   have : Int.negSucc a ≠ Int.negSucc b := fun e => h (Int.negSucc.inj e)
   exact (beq_eq_false_iff_ne.2 this).symm
theorem eqInt_sound {a b : Int} (h : eqInt a b = true) : a = b := by
 rw [eqInt_eq] at h
 exact beq_iff_eq.1 h
def leInt : Int → Int → Bool
 | .ofNat a,.ofNat b => Nat.ble a b
 | .negSucc a,.negSucc b => Nat.ble b a
 | .ofNat _,.negSucc _ => false
 | .negSucc _,.ofNat _ => true
theorem ble_dec {a b : Nat} {p : Prop} [Decidable p] (h : p ↔ a ≤ b) : Nat.ble a b = decide p := by
 by_cases k : a ≤ b
 ·rw [decide_eq_true (h.2 k),(Nat.ble_eq ▸ k : Nat.ble a b = true)]
 ·rw [decide_eq_false (fun x => k (h.1 x)),Bool.eq_false_iff]
  exact fun x => k (Nat.le_of_ble_eq_true x)
theorem leInt_eq {a b : Int} : leInt a b = decide (a ≤ b) := by
 cases a with
 | ofNat a =>
  cases b with
  | ofNat b => exact ble_dec Int.ofNat_le
  | negSucc b =>
   have : ¬ ((a : Int) ≤ Int.negSucc b) := by omega
   exact (decide_eq_false this).symm
 | negSucc a =>
  cases b with
  | ofNat b =>
   have : Int.negSucc a ≤ (b : Int) := by omega
   exact (decide_eq_true this).symm
  | negSucc b => exact ble_dec (by omega)
def eqKind : IntKind → IntKind → Bool
 | .i8,.i8 | .i16,.i16 | .i32,.i32 | .i64,.i64 | .u8,.u8 | .u16,.u16 | .u32,.u32 | .u64,.u64 => true
 | _,_ => false
theorem eqKind_sound {a b : IntKind} (h : eqKind a b = true) : a = b := by
 cases a <;> cases b <;> first | rfl | cases h
def topOf : IntKind → Nat
 | .i8 => 128
 | .i16 => 32768
 | .i32 => 2147483648
 | .i64 => 9223372036854775808
 | .u8 => 256
 | .u16 => 65536
 | .u32 => 4294967296
 | .u64 => 18446744073709551616
def wrapF (k : IntKind) (n : Int) : Int := match n with
 | .ofNat m => bif Nat.ble (m + 1) (topOf k) then .ofNat m else k.wrap (.ofNat m)
 | .negSucc m => k.wrap (.negSucc m)
theorem wrapF_eq (k : IntKind) (n : Int) : wrapF k n = k.wrap n := by
 cases n with
 | negSucc m => rfl
 | ofNat m =>
  simp only [wrapF]
  cases h : Nat.ble (m + 1) (topOf k)
  ·rfl
  ·have hm : m < topOf k := Nat.le_of_ble_eq_true h
   have e : Int.ofNat m = (m : Int) := rfl
   simp only [cond_true]
   rw [e]
   cases k <;> simp only [topOf] at hm <;> simp only [IntKind.wrap,IntKind.bits,IntKind.signed] <;> simp <;> omega
def strOf (a : ByteArray) : List UInt8 := a.data.toList
theorem zdF (a : ByteArray) : a.toList = strOf a := by
 obtain ⟨⟨l⟩⟩ := a
 exact zbO l
def cmpF (op : BinOp) (x y : Int) : Option Bool := match op with
 | .eql => some (eqInt x y)
 | .neq => some (!eqInt x y)
 | .lss => some (!leInt y x)
 | .leq => some (leInt x y)
 | .gtr => some (!leInt x y)
 | .geq => some (leInt y x)
 | _ => none
def ariF (op : BinOp) (k : IntKind) (x y : Int) : Option Int := match op with
 | .add => some (wrapF k (x + y))
 | .sub => some (wrapF k (x - y))
 | .mul => some (wrapF k (x * y))
 | _ => none
def binF (op : BinOp) : Value → Value → Option Value
 | .int k x,.int k' y => bif eqKind k k' then match cmpF op x y with
   | some b => some (.bool b)
   | none => match ariF op k x y with
    | some n => some (.int k n)
    | none => none
  else none
 | .string a,.string b => match op with
  | .eql => some (.bool (eqBytes (strOf a) (strOf b)))
  | .neq => some (.bool (!eqBytes (strOf a) (strOf b)))
  | .add => bif Nat.ble ((strOf a).length + (strOf b).length) 9223372036854775807 then some (.string ⟨⟨strOf a ++ strOf b⟩⟩) else none
  | _ => none
 | _,_ => none
section
variable {P : Program} {T : TypeId} {xo yo : Operand}
theorem binV_int {op : BinOp} {k k0 : IntKind} {c : Cmp} {a b : Int} : binV P op T c xo yo (.val (.int k a)) (.val (.int k0 b)) = binV P op T .other xo yo (.val (.int k a)) (.val (.int k0 b)) := by
 cases c <;> rfl
theorem binV_str {op : BinOp} {c : Cmp} {a b : ByteArray} : binV P op T c xo yo (.val (.string a)) (.val (.string b)) = binV P op T .other xo yo (.val (.string a)) (.val (.string b)) := by
 cases c <;> rfl
theorem cmpF_sound {op : BinOp} {k : IntKind} {a b : Int} {r : Bool} (h : cmpF op a b = some r) : binV P op T .other xo yo (.val (.int k a)) (.val (.int k b)) = some (.val (.bool r)) := by
 have hgt : (!leInt a b) = decide (a > b) := by
  rw [leInt_eq,← decide_not]
  exact decide_eq_decide.2 (by omega)
 have hlt : (!leInt b a) = decide (a < b) := by
  rw [leInt_eq,← decide_not]
  exact decide_eq_decide.2 (by omega)
 cases op <;> simp only [cmpF] at h <;> cases h
 ·rw [zeK,eqInt_eq]
 ·rw [zeI,eqInt_eq]; rfl
 ·rw [bin_lss,hlt]
 ·rw [bin_leq,leInt_eq]
 ·rw [bin_gtr,hgt]
 ·rw [bin_geq,leInt_eq]
theorem ariF_sound {op : BinOp} {k : IntKind} {a b r : Int} (h : ariF op k a b = some r) : binV P op T .other xo yo (.val (.int k a)) (.val (.int k b)) = some (.val (.int k r)) := by
 cases op <;> simp only [ariF] at h <;> cases h
 ·rw [bin_add,wrapF_eq]
 ·rw [bin_sub,wrapF_eq]
 ·rw [zeJ,wrapF_eq]
theorem binF_sound {op : BinOp} {c : Cmp} {a b r : Value} (h : binF op a b = some r) : binV P op T c xo yo (.val a) (.val b) = some (.val r) := by
 unfold binF at h
 split at h
 ·rename_i k x k' y
  rw [binV_int]
  cases hk : eqKind k k'
  ·simp [hk] at h
  ·obtain rfl := eqKind_sound hk
   simp only [hk,cond_true] at h
   split at h
   ·rename_i r hr
    cases h
    exact cmpF_sound hr
   ·split at h
    ·rename_i r hr
     cases h
     exact ariF_sound hr
    ·cases h
 ·rw [binV_str]
  split at h
  ·cases h
   rw [zdQ,zdF,zdF,eqBytes_eq]
  ·cases h
   rw [zdP,zdF,zdF,eqBytes_eq]
  ·rename_i a b _
   cases hl : Nat.ble ((strOf a).length + (strOf b).length) 9223372036854775807
   ·simp [hl] at h
   ·simp only [hl,cond_true] at h
    cases h
    obtain ⟨⟨a⟩⟩ := a
    obtain ⟨⟨b⟩⟩ := b
    have := Nat.le_of_ble_eq_true hl
    exact bin_badd (x := a) (y := b) (by simpa [strOf] using this)
  ·cases h
 ·cases h
end
def binFV (P : Program) (op : BinOp) (T : TypeId) (k : Cmp) (xo yo : Operand) (x y : V) : Option V := match x,y with
 | .val a,.val b => match binF op a b with
  | some r => some (.val r)
  | none => binV P op T k xo yo (.val a) (.val b)
 | x,y => binV P op T k xo yo x y
theorem binFV_eq {P : Program} {op : BinOp} {T : TypeId} {k : Cmp} {xo yo : Operand} {x y : V} : binFV P op T k xo yo x y = binV P op T k xo yo x y := by
 unfold binFV
 split
 ·split
  ·rename_i h
   exact (binF_sound h).symm
  ·rfl
 ·rfl
def sliceF (s : ByteArray) (lo hi : Option Int) : Option V := match bounds s.size s.size lo hi none with
 | some (a,b,_) => some (.val (.string ⟨⟨((strOf s).take b).drop a⟩⟩))
 | none => none
def sliceFV : V → Option (Option Int) → Option (Option Int) → Option V
 | .val (.string s),some lo,some hi => sliceF s lo hi
 | _,_,_ => none
theorem sliceFV_eq {v : V} {lo hi : Option (Option Int)} : sliceFV v lo hi = zbV v lo hi := by
 unfold sliceFV zbV
 split
 ·rename_i s lo hi
  unfold sliceF
  simp only
  generalize bounds s.size s.size lo hi none = z
  cases z with
  | none => rfl
  | some x =>
   obtain ⟨a,b,c⟩ := x
   obtain ⟨⟨l⟩⟩ := s
   simp only [strOf]
   have : (ByteArray.mk l.toArray).extract a b = ⟨((l.take b).drop a).toArray⟩ := by
    rw [ByteArray.extract_mk,List.drop_take]
   exact (congrArg (fun x => some (V.val (.string x))) this).symm
 ·rename_i h
  split
  ·exact (h _ _ _ rfl rfl rfl).elim
  ·rfl
def buildF (ρ : Operand → V) (z : List V) (parts : List (Nat × Nat × Operand)) : Option V := (zbM z (parts.map fun x => (x.1,x.2.1,ρ x.2.2))).map .agg
def litsF (ρ : Operand → V) (s : Nat) (z : List V) (len : Nat) (parts : List (Nat × Operand)) : Option V := (zcX s (List.replicate len (if s = 1 then z.headD (.val undef) else .agg z)) (parts.map fun x => (x.1,ρ x.2))).map fun es => .sl es [] (litTok z len parts)
def b2sF : V → Option V
 | .sl es _ _ => match bytesOf es with
  | some bs => some (.val (.string ⟨bs.toArray⟩))
  | none => none
 | _ => none
def zew (s : Nat) (v : V) (lo hi mx : Option (Option Int)) : Option V := match v,lo,hi,mx with
 | .sl es more tok,some l,some h,some m => if szOk s (es ++ more) then cutV es more tok l h m else none
 | .arr b o len cap,some l,some h,some m => match bounds len cap l h m with
  | some (i,j,k) => some (.arr b (if k = i then o else o + i * s) (j - i) (k - i))
  | none => none
 | .res t v z _,some none,some (some 0),some none => if z = s ∧ 0 < z then some (.sl [] [] (.tipz t v z)) else none
 | _,_,_,_ => none
def slicePF (n s : Nat) (v : V) (lo hi mx : Option (Option Int)) : Option V := match v,lo,hi,mx with
 | .ptr b o,some l,some h,some m => match bounds n n l h m with
  | some (i,j,k) => some (.arr b (if k = i then o else o + i * s) (j - i) (k - i))
  | none => none
 | _,_,_,_ => none
def s2apF (n : Nat) : V → Option V
 | .sl es more _ => if n ≤ es.length then some (.elt (flat (es ++ more))) else none
 | .arr b o len _ => if n ≤ len then some (.ptr b o) else none
 | _ => none
def capF : V → Option V
 | .sl es [] .full => some (.val (.int .i64 es.length))
 | .sl [] [] (.zero _) => some (.val (.int .i64 0))
 | .arr _ _ _ c => some (.val (.int .i64 c))
 | _ => none
def idxArrF (n s : Nat) (a : Option Nat) : V → V → Option V
 | .agg cs,.val (.int _ k) => if 0 ≤ k ∧ k < n then zbB cs (k.toNat * s) a else none
 | _,_ => none
def optF (ρ : Operand → V) : Option Operand → Option (Option Int)
 | none => some none
 | some x => optV (ρ x)
def evalF (P : Program) (ρ : Operand → V) (m : Store) : AOp → Option V
 | .mov x => some (ρ x)
 | .pick c a b => pickV (ρ c) (ρ a) (ρ b)
 | .alloc _ _ => none
 | .box _ _ => none
 | .build z parts => buildF ρ z parts
 | .lits s z len parts => litsF ρ s z len parts
 | .load s x => loadV m s (ρ x)
 | .store _ _ _ => none
 | .nilc x => nilcV (ρ x)
 | .bin op T k x y => binFV P op T k x y (ρ x) (ρ y)
 | .un op x => unV P op (ρ x)
 | .conv s d x => convV P s d (ρ x)
 | .b2s x => b2sF (ρ x)
 | .s2b _ _ => none
 | .mark _ => none
 | .mki T x => some (.ifc T (ρ x))
 | .mkf fn f c => some (.fn fn (f.map ρ) (c.map ρ))
 | .sliceS x lo hi => sliceFV (ρ x) (optF ρ lo) (optF ρ hi)
 | .sliceL s x lo hi mx => zew s (ρ x) (optF ρ lo) (optF ρ hi) (optF ρ mx)
 | .fieldA off x => fieldAV off (ρ x)
 | .field off s x => fieldV off s (ρ x)
 | .idxA n s x i => idxAV n s (ρ x) (ρ i)
 | .idxL s x i => idxLV s (ρ x) (ρ i)
 | .idxStr x i => idxStrV (ρ x) (ρ i)
 | .idxArr n s a x i => idxArrF n s a (ρ x) (ρ i)
 | .bad => none
 | .capS x => capF (ρ x)
 | .asrt T x => asrtV P T (ρ x)
 | .mm mx xs => mmV mx (xs.map ρ)
 | .appz _ _ _ _ _ => none
 | .mks _ _ _ _ _ => none
 | .sliceP n s x lo hi mx => slicePF n s (ρ x) (optF ρ lo) (optF ρ hi) (optF ρ mx)
 | .s2ap n x => s2apF n (ρ x)
 | .panic _ => none
 | .len b x => lenV b (ρ x)
 | .ext x k => extV k (ρ x)
 | .app _ _ _ _ _ => none
 | .call _ _ => none
theorem optF_eq {ρ : Operand → V} {x : Option Operand} : optF ρ x = zbd ρ x := by
 cases x with
 | none => rfl
 | some x => exact zcr.symm
theorem evalF_eq (P : Program) (ρ : Operand → V) (m : Store) (ao : AOp) : evalF P ρ m ao = zao P ρ m ao := by
 cases ao with
 | bin op T k x y => exact binFV_eq
 | sliceS x lo hi =>
  simp only [evalF,sliceFV_eq,optF_eq]
  simp only [zao,zbV]
  generalize ρ x = a,zbd ρ lo = b,zbd ρ hi = c
  split
  ·rfl
  ·rename_i h
   split
   ·exact (h _ _ _ rfl rfl rfl).elim
   ·rfl
 | sliceL s x lo hi mx => simp only [evalF,optF_eq]; rfl
 | sliceP n s x lo hi mx => simp only [evalF,optF_eq]; rfl
 | idxA n s x i =>
  simp only [evalF,zao,idxAV]
  generalize ρ x = a,ρ i = b
  cases a <;> cases b <;> first | rfl | (rename_i u; cases u <;> rfl)
 | len b x =>
  simp only [evalF,zao,lenV]
  generalize ρ x = v
  cases b <;> cases v <;> first | rfl | (rename_i u; cases u <;> rfl)
 | _ => rfl
end Go.Av
