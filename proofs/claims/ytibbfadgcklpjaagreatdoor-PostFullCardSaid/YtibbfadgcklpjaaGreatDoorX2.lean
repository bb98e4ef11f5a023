/- What the package's variables hold is read off the row; the statements' functions called in a world. No condition. -/
import Derived.Test.YtibbfadgcklpjaaGreatDoorX1
import Derived.Test.YtibbfadgcklpjaaGreatDoorAvG
import Derived.Test.YtibbfadgcklpjaaGreatDoorTie
import Derived.Test.YtibbfadgcklpjaaGreatDoorCards
namespace Go.Av.Fn
set_option linter.unusedVariables false
set_option maxRecDepth 100000
open Go.Proofs Go.RowKit Go.Proofs.YtibbfadgcklpjaaGreatDoor

def laidL : List (String × DataW Unit) := [("math/bits.deBruijn32tab", Rows.laid_math_bits_deBruijn32tab), ("math/bits.deBruijn64tab", Rows.laid_math_bits_deBruijn64tab), ("internal/strconv.uint64pow10", Rows.laid_internal_strconv_uint64pow10), ("errors.errorType", Rows.laid_errors_errorType), ("strconv.ErrRange", Rows.laid_strconv_ErrRange), ("strconv.ErrSyntax", Rows.laid_strconv_ErrSyntax), ("hindcast/lex.words", Rows.laid_hindcast_lex_words), ("hindcast/lex.signs", Rows.laid_hindcast_lex_signs)]

theorem gWords : Tryz.prog.globalNamed "hindcast/lex.words" = some 1 := by kernel_rfl
theorem gSigns : Tryz.prog.globalNamed "hindcast/lex.signs" = some 0 := by kernel_rfl
theorem tWords : (Tryz.prog.globals[1]?).map (·.type) = some 155 := by kernel_rfl
theorem tSigns : (Tryz.prog.globals[0]?).map (·.type) = some 153 := by kernel_rfl
theorem cells9 : Tryz.prog.cellsOf 9 = 1 := by kernel_rfl

/-- What the two variables hold. -/
def gl : Glob := fun g => if g = 0 then some (signsB.map bs) else if g = 1 then some (wordsB.map bs) else none

def laidP : List (String × DataW Unit) := [("math/bits.deBruijn32tab", Rows.laid_math_bits_deBruijn32tab), ("math/bits.deBruijn64tab", Rows.laid_math_bits_deBruijn64tab), ("internal/strconv.uint64pow10", Rows.laid_internal_strconv_uint64pow10), ("strconv.ErrRange", Rows.laid_strconv_ErrRange), ("strconv.ErrSyntax", Rows.laid_strconv_ErrSyntax), ("hindcast/lex.words", Rows.laid_hindcast_lex_words), ("hindcast/lex.signs", Rows.laid_hindcast_lex_signs)]
theorem laid_some : (laidL.filter fun x => x.2.handleName?.isSome) = [("errors.errorType", Rows.laid_errors_errorType)] := by kernel_rfl
theorem laid_none : (laidL.filter fun x => x.2.handleName?.isNone) = laidP := by kernel_rfl

theorem start_of_laid {W : World} (hH : laidMetH Tryz.prog laidL W) : Rep gl W.heap.size (startG gl W) (fun _ => none) W := by
  have h : laidMet Tryz.prog laidP W := by
    unfold laidMetH at hH
    rw [laid_some, laid_none] at hH
    exact hH.1
  have hw := strs_of_reads (L := wordsB) (Lib.laidMet.reads h (.tail _ (.tail _ (.tail _ (.tail _ (.tail _ (.head _))))))) gWords tWords Tryz.underlying155 Tryz.underlying9 cells9
  have hs := strs_of_reads (L := signsB) (Lib.laidMet.reads h (.tail _ (.tail _ (.tail _ (.tail _ (.tail _ (.tail _ (.head _)))))))) gSigns tSigns Tryz.underlying153 Tryz.underlying9 cells9
  refine start_rep fun g cs hg => ?_
  unfold gl at hg
  split at hg
  · rename_i h0
    subst h0
    cases hg
    refine ⟨_, rel_bs signsB, fun i u hu => ?_⟩
    rw [List.getElem?_map] at hu
    obtain ⟨s, h1, rfl⟩ := Option.map_eq_some_iff.1 hu
    exact hs i s h1
  · split at hg
    · rename_i h0
      subst h0
      cases hg
      refine ⟨_, rel_bs wordsB, fun i u hu => ?_⟩
      rw [List.getElem?_map] at hu
      obtain ⟨s, h1, rfl⟩ := Option.map_eq_some_iff.1 hu
      exact hw i s h1
    · cases hg

theorem postNil_calls {W : World} (h : laidMetH Tryz.prog laidL W) (i : Int) (b : Bool) : Calls Tryz.prog 6 #[.int .i64 i, .bool b] W fun e W' => e = .returned (.bool true) ∧ Below W.heap.size W W' :=
  calls_true (cargs := [.int .i64 i, .bool b]) (start_of_laid h) (.cons (.val rfl) (.cons (.val rfl) .nil)) (postNil_ok rfl rfl i b)
end Go.Av.Fn
