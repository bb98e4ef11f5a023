/- A command read as data. No condition. -/
import Derived.ChangeMaps5
import Derived.Deep.Strs
import Derived.LaidHandle
import Derived.Test.YtmglaebjmaomnaaGreatDoorCards
import Derived.Test.YtmglaebjmaomnaaGreatDoorTie
import Derived.Test.YtmglaebjmaomnaaGreatDoorTAvA
namespace Go.Proofs.YtmglaebjmaomnaaGreatDoor
open Go.ChangeShapes Go.WideShapes Go.ChangeAt Go.RowKit Go.Av.Fn Go.ChangeMaps Go.Av
set_option linter.unusedVariables false
set_option maxRecDepth 100000
theorem wf_i64 {n : Int} (h : (Lit.int .i64 n).wf = true) : I64 n := by
 unfold Lit.wf at h
 simp only [Bool.and_eq_true,decide_eq_true_eq] at h
 have h1 : IntKind.i64.min = -9223372036854775808 := rfl
 have h2 : IntKind.i64.max = 9223372036854775807 := rfl
 rw [h1,h2] at h
 exact ⟨h.1,by omega⟩
end Go.Proofs.YtmglaebjmaomnaaGreatDoor
/- What the listed variables hold is read off the row. No condition. -/
namespace Go.Av.Fn
set_option linter.unusedSimpArgs false
set_option linter.unusedVariables false
set_option linter.unusedVariables false
set_option maxRecDepth 100000
open Go.Proofs Go.RowKit Go.Proofs.YtmglaebjmaomnaaGreatDoor
def laidL : List (String × DataW Unit) := [("math/bits.deBruijn32tab", Rows.laid_math_bits_deBruijn32tab), ("math/bits.deBruijn64tab", Rows.laid_math_bits_deBruijn64tab), ("internal/strconv.uint64pow10", Rows.laid_internal_strconv_uint64pow10), ("errors.errorType", Rows.laid_errors_errorType), ("strconv.ErrRange", Rows.laid_strconv_ErrRange), ("strconv.ErrSyntax", Rows.laid_strconv_ErrSyntax), ("hindcast/lex.words", Rows.laid_hindcast_lex_words), ("hindcast/lex.signs", Rows.laid_hindcast_lex_signs)]
def laidP : List (String × DataW Unit) := [("math/bits.deBruijn32tab", Rows.laid_math_bits_deBruijn32tab), ("math/bits.deBruijn64tab", Rows.laid_math_bits_deBruijn64tab), ("internal/strconv.uint64pow10", Rows.laid_internal_strconv_uint64pow10), ("strconv.ErrRange", Rows.laid_strconv_ErrRange), ("strconv.ErrSyntax", Rows.laid_strconv_ErrSyntax), ("hindcast/lex.words", Rows.laid_hindcast_lex_words), ("hindcast/lex.signs", Rows.laid_hindcast_lex_signs)]
theorem laid_some : (laidL.filter fun x => x.2.handleName?.isSome) = [("errors.errorType", Rows.laid_errors_errorType)] := by kernel_rfl
theorem laid_none : (laidL.filter fun x => x.2.handleName?.isNone) = laidP := by kernel_rfl
theorem gWords : Tryz.prog.globalNamed "hindcast/lex.words" = some 1 := by kernel_rfl
theorem gSigns : Tryz.prog.globalNamed "hindcast/lex.signs" = some 0 := by kernel_rfl
theorem gRange : Tryz.prog.globalNamed "strconv.ErrRange" = some 7 := by kernel_rfl
theorem gSyntax : Tryz.prog.globalNamed "strconv.ErrSyntax" = some 6 := by kernel_rfl
theorem gErrT : Tryz.prog.globalNamed "errors.errorType" = some 3 := by kernel_rfl
theorem tWords : (Tryz.prog.globals[1]?).map (·.type) = some 213 := by kernel_rfl
theorem tSigns : (Tryz.prog.globals[0]?).map (·.type) = some 211 := by kernel_rfl
theorem tRange : (Tryz.prog.globals[7]?).map (·.type) = some 266 := by kernel_rfl
theorem tSyntax : (Tryz.prog.globals[6]?).map (·.type) = some 266 := by kernel_rfl
theorem gPow : Tryz.prog.globalNamed "internal/strconv.uint64pow10" = some 2 := by kernel_rfl
theorem tPow : (Tryz.prog.globals[2]?).map (·.type) = some 278 := by kernel_rfl
theorem cells9 : Tryz.prog.cellsOf 9 = 1 := by kernel_rfl
theorem cellsES : Tryz.prog.cellsOf 385 = 1 := by kernel_rfl
theorem star : "*" ++ "errors.errorString" = "*errors.errorString" := by decide
theorem rowES (u : TypeId) (h : Tryz.prog.typeName? 3 u = some "*errors.errorString") : u = 383 :=
 typeName_ptr_named (nm := "errors.errorString") (by rw [star]; kernel_rfl) (by kernel_rfl) (by decide) u (by rw [star]; exact h)
theorem rtRow : (Tryz.prog.cutTypes.find? (·.1 == "internal/reflectlite.rtype")).map (·.2) = some 333 := by kernel_rfl
theorem oneRow : ((List.range Tryz.prog.types.size).filter fun t => Tryz.prog.rowNamed t [101,114,114,111,114]) = [266] := by kernel_rfl
def gl (p q : Value) : Glob := fun g => if g = 0 then some (zbs.map bs) else if g = 1 then some (za8.map bs) else if g = 7 then some [.ifc 383 (.val p)] else if g = 6 then some [.ifc 383 (.val q)] else if g = 3 then some [.ifc 333 (.agg [.ptr 9 266])] else if g = 2 then some powV else none
theorem errT_of {W : World} (h : handlesMet Tryz.prog [("errors.errorType", Rows.laid_errors_errorType)] W) : W.cell? ⟨3, 0, none⟩ = some (.iface 333 (.agg #[.pointer (some ⟨9, 266, none⟩)])) := by
 obtain ⟨name,u,ty,e1,e2,e3,e4,e5⟩ := h _ (List.mem_singleton.2 rfl)
 have en : name = [101,114,114,111,114] := (Option.some.inj e1).symm
 subst en
 obtain rfl := Option.some.inj (rtRow.symm.trans e2)
 have hm : ty ∈ (List.range Tryz.prog.types.size).filter fun t => Tryz.prog.rowNamed t [101,114,114,111,114] := List.mem_filter.2 ⟨List.mem_range.2 e3,e4⟩
 rw [oneRow] at hm
 obtain rfl := List.mem_singleton.1 hm
 have hh : typeHandle Tryz.prog 266 = .pointer (some ⟨9,266,none⟩) := by kernel_rfl
 rw [hh] at e5
 simpa using World.var?_cell gErrT e5 0
theorem pow_rel {G : Gh} : ∀ l : List Int,RelL G (l.map fun z => V.val (.int .u64 z)) (l.map fun z => Value.int .u64 z)
 | [] => .nil
 | z :: l => .cons (.val rfl) (pow_rel l)
theorem start_of_laid {W : World} (hH : laidMetH Tryz.prog laidL W) : ∃ p q,zbn p = true ∧ zbn q = true ∧ Rep (gl p q) W.heap.size (startG (gl p q) W) (fun _ => none) W := by
 obtain ⟨h, hh⟩ : laidMet Tryz.prog laidP W ∧ handlesMet Tryz.prog [("errors.errorType", Rows.laid_errors_errorType)] W := by
  unfold laidMetH at hH
  rw [laid_some,laid_none] at hH
  exact hH
 have hw := strs_of_reads (L := za8) (Lib.laidMet.reads h (.tail _ (.tail _ (.tail _ (.tail _ (.tail _ (.head _))))))) gWords tWords Tryz.underlying213 Tryz.underlying9 cells9
 have hs := strs_of_reads (L := zbs) (Lib.laidMet.reads h (.tail _ (.tail _ (.tail _ (.tail _ (.tail _ (.tail _ (.head _)))))))) gSigns tSigns Tryz.underlying211 Tryz.underlying9 cells9
 obtain ⟨a1,s1,hv1,_⟩ := laid_sentinel h.tail.tail.tail gRange tRange Tryz.underlying266 rowES Tryz.underlying383 Tryz.underlying385 rfl rfl Tryz.underlying9 cellsES cells9
 obtain ⟨a2,s2,hv2,_⟩ := laid_sentinel h.tail.tail.tail.tail gSyntax tSyntax Tryz.underlying266 rowES Tryz.underlying383 Tryz.underlying385 rfl rfl Tryz.underlying9 cellsES cells9
 have he1 : W.cell? ⟨7,0,none⟩ = some (.iface 383 (.pointer (some a1))) := by simpa using World.var?_cell gRange hv1 0
 have he2 : W.cell? ⟨6,0,none⟩ = some (.iface 383 (.pointer (some a2))) := by simpa using World.var?_cell gSyntax hv2 0
 have he3 := errT_of hh
 have hpow : Lib.TabIs Tryz.prog W "internal/strconv.uint64pow10" .u64 Lib.pow10Tab := Lib.tabIs_of_head gPow tPow Tryz.underlying278 Tryz.underlying150 (by kernel_rfl) (by kernel_rfl) h.tail.tail
 have hpc : ∃ T fz,W.heap[2]? = some (.cells (Lib.pow10Tab.map fun z => Value.int .u64 z).toArray T fz) := by
  unfold Lib.TabIs World.var? at hpow
  rw [gPow] at hpow
  simp only [Option.bind_some] at hpow
  split at hpow
  ·rename_i cs T fz hcs
   cases hpow
   exact ⟨_,_,hcs⟩
  ·cases hpow
 refine ⟨.pointer (some a1),.pointer (some a2),rfl,rfl,start_rep (fun g cs hg => ?_) ?_⟩
 rotate_left
 ·intro g cs hg h20
  unfold gl at hg
  split at hg
  ·cases hg; simp [zbs] at h20
  ·split at hg
   ·cases hg; simp [za8] at h20
   ·split at hg
    ·cases hg; simp at h20
    ·split at hg
     ·cases hg; simp at h20
     ·split at hg
      ·cases hg; simp at h20
      ·split at hg
       ·rename_i e
        subst e
        obtain ⟨T,fz,hcs⟩ := hpc
        exact ⟨(Array.getElem?_eq_some_iff.1 hcs).1,_,T,fz,hcs,by simp [Lib.pow10Tab]⟩
       ·cases hg
 have hone : ∀ {g : Nat} {v : V} {x : Value},RelV (startG (gl (.pointer (some a1)) (.pointer (some a2))) W) v x → W.cell? ⟨g,0,none⟩ = some x → ∃ us,RelL (startG (gl (.pointer (some a1)) (.pointer (some a2))) W) [v] us ∧ ∀ i u,us[i]? = some u → W.cell? ⟨g,i,none⟩ = some u := by
  intro g v x hv hc
  refine ⟨[x],.cons hv .nil,fun i u hu => ?_⟩
  cases i with
  | zero =>
   simp only [List.getElem?_cons_zero,Option.some.injEq] at hu
   rw [← hu]
   exact hc
  | succ i => simp at hu
 unfold gl at hg
 split at hg
 ·rename_i h0
  subst h0
  cases hg
  refine ⟨_,rel_bs zbs,fun i u hu => ?_⟩
  rw [List.getElem?_map] at hu
  obtain ⟨s,h1,rfl⟩ := Option.map_eq_some_iff.1 hu
  exact hs i s h1
 ·split at hg
  ·rename_i h0
   subst h0
   cases hg
   refine ⟨_,rel_bs za8,fun i u hu => ?_⟩
   rw [List.getElem?_map] at hu
   obtain ⟨s,h1,rfl⟩ := Option.map_eq_some_iff.1 hu
   exact hw i s h1
  ·split at hg
   ·rename_i h0
    subst h0
    cases hg
    exact hone (.ifc (.val rfl)) he1
   ·split at hg
    ·rename_i h0
     subst h0
     cases hg
     exact hone (.ifc (.val rfl)) he2
    ·split at hg
     ·rename_i h0
      subst h0
      cases hg
      exact hone (.ifc (.agg (.cons (.ptr _ _) .nil))) he3
     ·split at hg
      ·rename_i h0
       subst h0
       cases hg
       obtain ⟨T,fz,hcs⟩ := hpc
       refine ⟨Lib.pow10Tab.map fun z => Value.int .u64 z,pow_rel _,fun i u hu => ?_⟩
       simp only [World.cell?,hcs,Option.isSome_none,Bool.false_eq_true,if_false]
       rw [List.getElem?_toArray]
       exact hu
      ·cases hg
theorem env_gl (p q : Value) : Env2 (gl p q) where
 env := { lib := libOk,parse := parse28 (T := 383) (v := .val p) rfl,words := rfl,signs := rfl,errT := rfl }
 range := ⟨383,.val p,rfl⟩
 syn := ⟨383,.val q,rfl⟩
end Go.Av.Fn
