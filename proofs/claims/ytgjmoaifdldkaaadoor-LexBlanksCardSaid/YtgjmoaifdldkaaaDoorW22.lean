/- The statement's function returns true, whatever the text; what the package's variables hold is read off the row. No condition. -/
import Derived.Test.YtgjmoaifdldkaaaDoorW21
import Derived.Test.YtgjmoaifdldkaaaDoorTie
import Derived.Test.YtgjmoaifdldkaaaDoorCards
import Derived.ProofKit
import Derived.LaidMore
import Derived.OpenShut
import Derived.Stop.Joined
import Derived.Stop.LaidErr
import Derived.Lib.LaidU8
namespace Go.Av
open Go.RowKit
/-- A table of strings, read off its listed variable. -/
theorem strs_of_reads {P : Program} {w : World} {n : String} {L : List (List UInt8)} {g : Nat} {t e : TypeId} (h : Lib.VarReads P w n (.agg (L.map fun s => .lit (.string s)))) (hg : P.globalNamed n = some g) (ht : (P.globals[g]?).map (·.type) = some t)
    (ha : P.underlying t = some (.array L.length e)) (he : P.underlying e = some .string) (hc : P.cellsOf e = 1) : ∀ (i : Nat) (s : List UInt8), L[i]? = some s → w.cell? ⟨g, i, none⟩ = some (.string ⟨s.toArray⟩) := by
  intro i s hi
  obtain ⟨g', t', cs, fuel, p, hg', ht', hv, hd⟩ := h
  obtain rfl := Option.some.inj (hg.symm.trans hg')
  obtain rfl := Option.some.inj (ht.symm.trans ht')
  have hlt := (List.getElem?_eq_some_iff.1 hi).1
  obtain ⟨f2, d, q, h1, h2⟩ := Lib.array_elem ha hd i hlt
  rw [hc, Nat.mul_one] at h2
  have hd1 : d = .lit (.string s) := by
    rw [List.getElem?_map, hi] at h1
    exact (Option.some.inj h1).symm
  subst hd1
  obtain ⟨s', h3, h4, _⟩ := DataW.trod_string he h2
  simp only [Prod.mk.injEq, DataW.lit.injEq, Lit.string.injEq] at h4
  have h5 : cs.toList[i]? = some (.string s') := by
    have := congrArg (·[0]?) h3
    simpa [List.getElem?_take, List.getElem?_drop] using this
  rw [World.var?_cell hg hv i, ← Array.getElem?_toList, h5, h4.1]

/-- A world's start: what is known of some variables' cells. -/
def startG (Γ : Glob) (w : World) : Gh := { K := fun b o => if (Γ b).isSome then w.cell? ⟨b, o, none⟩ else none, H := fun _ _ => none }
theorem start_rep {Γ : Glob} {w : World} (h : ∀ g cs, Γ g = some cs → ∃ us, RelL (startG Γ w) cs us ∧ ∀ i u, us[i]? = some u → w.cell? ⟨g, i, none⟩ = some u) : Rep Γ w.heap.size (startG Γ w) (fun _ => none) w where
  K := fun b o u hu => by
    simp only [startG] at hu
    split at hu
    · exact hu
    · cases hu
  base := Nat.le_refl _
  hist := fun t v x hx => by cases hx
  var := fun b T cs hb => by cases hb
  tip := fun t T v ht => by cases ht
  apart := fun t T v t' T' v' B E C E' C' a => by cases a
  glob := fun g cs hg => by
    obtain ⟨us, h1, h2⟩ := h g cs hg
    refine ⟨us, h1, rfl, fun i u hu => ?_⟩
    simp only [startG, hg, Option.isSome_some, if_true, Nat.zero_add]
    exact h2 i u hu
  loop := fun b r f t ps x y D hb => by cases hb
  defer := fun b hb => by cases hb

theorem rel_bs {G : Gh} : ∀ (L : List (List UInt8)), RelL G (L.map bs) (L.map fun s => Value.string ⟨s.toArray⟩)
  | [] => .nil
  | s :: L => .cons (.val rfl) (rel_bs L)

/-- A function that answers true and leaves the store, called in a world. -/
theorem calls_true {P : Program} {Γ : Glob} {f : FuncId} {args : List V} {cargs : List Value} {w : World} (hw : Rep Γ w.heap.size (startG Γ w) (fun _ => none) w) (hl : RelL (startG Γ w) args cargs)
    (h : ACalls P Γ f args (fun _ => none) fun o m' => o = .ret (.val (.bool true)) ∧ m' = fun _ => none) : Calls P f cargs.toArray w fun e w' => e = .returned (.bool true) ∧ Below w.heap.size w w' := by
  refine (h.2 (startG Γ w) w.heap.size (fun _ => none) w cargs (fun _ => .inl rfl) ?_ hl).mono ?_
  · have : Store.or (fun _ => none) (fun _ => none) = fun _ => none := rfl
    rw [this]
    exact hw
  · rintro e w' ⟨G', m', o, _, _, _, hB, ho, rfl, _⟩
    cases ho with
    | ret r =>
      cases r
      exact ⟨rfl, hB⟩
end Go.Av
namespace Go.Av.Fn
set_option linter.unusedVariables false
set_option maxRecDepth 100000
open Go.Proofs Go.RowKit Go.Proofs.YtgjmoaifdldkaaaDoor

def laidL : List (String × DataW Unit) := [("math/bits.deBruijn32tab", Rows.laid_math_bits_deBruijn32tab), ("math/bits.deBruijn64tab", Rows.laid_math_bits_deBruijn64tab), ("internal/strconv.uint64pow10", Rows.laid_internal_strconv_uint64pow10), ("strconv.ErrRange", Rows.laid_strconv_ErrRange), ("strconv.ErrSyntax", Rows.laid_strconv_ErrSyntax), ("hindcast/lex.words", Rows.laid_hindcast_lex_words), ("hindcast/lex.signs", Rows.laid_hindcast_lex_signs)]

theorem gWords : Tryd.prog.globalNamed "hindcast/lex.words" = some 0 := by kernel_rfl
theorem gSigns : Tryd.prog.globalNamed "hindcast/lex.signs" = some 1 := by kernel_rfl
theorem gRange : Tryd.prog.globalNamed "strconv.ErrRange" = some 3 := by kernel_rfl
theorem tWords : (Tryd.prog.globals[0]?).map (·.type) = some 51 := by kernel_rfl
theorem tSigns : (Tryd.prog.globals[1]?).map (·.type) = some 72 := by kernel_rfl
theorem tRange : (Tryd.prog.globals[3]?).map (·.type) = some 56 := by kernel_rfl
theorem cells9 : Tryd.prog.cellsOf 9 = 1 := by kernel_rfl
theorem cells91 : Tryd.prog.cellsOf 91 = 1 := by kernel_rfl
theorem star : "*" ++ "errors.errorString" = "*errors.errorString" := by decide
theorem row89 (u : TypeId) (h : Tryd.prog.typeName? 3 u = some "*errors.errorString") : u = 89 :=
  typeName_ptr_named (nm := "errors.errorString") (by rw [star]; kernel_rfl) (by kernel_rfl) (by decide) u (by rw [star]; exact h)

/-- What the three variables hold. -/
def gl (p : Value) : Glob := fun g => if g = 0 then some (wordsB.map bs) else if g = 1 then some (signsB.map bs) else if g = 3 then some [.ifc 89 (.val p)] else none

theorem start_of_laid {W : World} (h : laidMetH Tryd.prog laidL W) : ∃ p, Rep (gl p) W.heap.size (startG (gl p) W) (fun _ => none) W := by
  rw [MakeChecks.laidMetH_plain _ _ _ (by kernel_rfl)] at h
  have hw := strs_of_reads (L := wordsB) (Lib.laidMet.reads h (.tail _ (.tail _ (.tail _ (.tail _ (.tail _ (.head _))))))) gWords tWords Tryd.underlying51 Tryd.underlying9 cells9
  have hs := strs_of_reads (L := signsB) (Lib.laidMet.reads h (.tail _ (.tail _ (.tail _ (.tail _ (.tail _ (.tail _ (.head _)))))))) gSigns tSigns Tryd.underlying72 Tryd.underlying9 cells9
  obtain ⟨a, s, hv, _⟩ := laid_sentinel h.tail.tail.tail gRange tRange Tryd.underlying56 row89 Tryd.underlying89 Tryd.underlying91 rfl rfl Tryd.underlying9 cells91 cells9
  have he : W.cell? ⟨3, 0, none⟩ = some (.iface 89 (.pointer (some a))) := by simpa using World.var?_cell gRange hv 0
  refine ⟨.pointer (some a), start_rep fun g cs hg => ?_⟩
  unfold gl at hg
  split at hg
  · rename_i h0
    subst h0
    cases hg
    refine ⟨_, rel_bs wordsB, fun i u hu => ?_⟩
    rw [List.getElem?_map] at hu
    obtain ⟨s, h1, rfl⟩ := Option.map_eq_some_iff.1 hu
    exact hw i s h1
  · split at hg
    · rename_i h0
      subst h0
      cases hg
      refine ⟨_, rel_bs signsB, fun i u hu => ?_⟩
      rw [List.getElem?_map] at hu
      obtain ⟨s, h1, rfl⟩ := Option.map_eq_some_iff.1 hu
      exact hs i s h1
    · split at hg
      · rename_i h0
        subst h0
        cases hg
        refine ⟨[.iface 89 (.pointer (some a))], .cons (.ifc (.val rfl)) .nil, fun i u hu => ?_⟩
        cases i with
        | zero =>
          simp only [List.getElem?_cons_zero, Option.some.injEq] at hu
          rw [← hu]
          exact he
        | succ i => simp at hu
      · cases hg

theorem lexScans_calls {W : World} (h : laidMetH Tryd.prog laidL W) (s : ByteArray) : Calls Tryd.prog 3 #[.string s] W fun e W' => e = .returned (.bool true) ∧ Below W.heap.size W W' := by
  obtain ⟨p, hr⟩ := start_of_laid h
  have hP : ParseOk (gl p) := parse28 (T := 89) (v := .val p) rfl
  refine calls_true (cargs := [.string s]) hr (.cons ?_ .nil) (lexScans_ok libOk hP rfl rfl s.data.toList)
  have : (⟨s.data.toList.toArray⟩ : ByteArray) = s := by simp
  show RelV _ (.val (.string ⟨s.data.toList.toArray⟩)) _
  rw [this]
  exact .val rfl
end Go.Av.Fn
