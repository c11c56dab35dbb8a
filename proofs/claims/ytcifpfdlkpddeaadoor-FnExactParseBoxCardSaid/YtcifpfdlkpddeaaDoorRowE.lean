/- What a listed row hands to its walk: the library's variable for texts that are no numbers. -/
import Derived.Test.YtcifpfdlkpddeaaDoorRowL
import Derived.Test.YtcifpfdlkpddeaaDoorFnRead
import Derived.Stop.ErrReads
set_option linter.unusedSimpArgs false
set_option linter.unusedVariables false
namespace Go.Proofs.YtcifpfdlkpddeaaDoor
open Go.ChangeShapes Go.WideShapes Go.ChangeAt Go.RowKit

theorem Tryd.starErr : "*" ++ "errors.errorString" = "*errors.errorString" := by decide
theorem Tryd.rowErr (u : TypeId) (h : Tryd.prog.typeName? 3 u = some "*errors.errorString") : u = 104 :=
  typeName_ptr_named (nm := "errors.errorString") (by rw [Tryd.starErr]; kernel_rfl) (by kernel_rfl) (by decide) u (by rw [Tryd.starErr]; exact h)
theorem errS_of_laid {W : World} {rest : List (String × DataW Unit)} (h : laidMet Tryd.prog (("strconv.ErrSyntax", Rows.laid_strconv_ErrSyntax) :: rest) W) : ErrS W := by
  obtain ⟨a, s, hv, _⟩ := laid_sentinel (g := 1) (ti := 50) (tp := 104) (te := 106) (ts := 9) h Tryd.gErrS (by kernel_rfl) Tryd.underlying50 Tryd.rowErr
    Tryd.underlying104 Tryd.underlying106 rfl rfl Tryd.underlying9 (by kernel_rfl) (by kernel_rfl)
  exact ⟨_, _, hv⟩
theorem tabErr_of_laid5 {W : World} {x y z : String × DataW Unit} {rest : List (String × DataW Unit)} (h : laidMetH Tryd.prog (x :: y :: ("internal/strconv.uint64pow10", Rows.laid_internal_strconv_uint64pow10) :: z :: ("strconv.ErrSyntax", Rows.laid_strconv_ErrSyntax) :: rest) W)
    (hp : ((x :: y :: ("internal/strconv.uint64pow10", Rows.laid_internal_strconv_uint64pow10) :: z :: ("strconv.ErrSyntax", Rows.laid_strconv_ErrSyntax) :: rest).all fun x => x.2.handleName?.isNone) = true := by kernel_rfl) : Tab W ∧ ErrS W := by
  rw [MakeChecks.laidMetH_plain _ _ _ hp] at h
  exact ⟨tab_of_laid h.tail.tail, errS_of_laid h.tail.tail.tail.tail⟩
theorem tabErr_of_laid7 {W : World} {x y z r : String × DataW Unit} {rest : List (String × DataW Unit)} (h : laidMetH Tryd.prog (x :: y :: ("internal/strconv.uint64pow10", Rows.laid_internal_strconv_uint64pow10) :: z :: r :: ("strconv.ErrSyntax", Rows.laid_strconv_ErrSyntax) :: rest) W)
    (hp : ((x :: y :: ("internal/strconv.uint64pow10", Rows.laid_internal_strconv_uint64pow10) :: z :: r :: ("strconv.ErrSyntax", Rows.laid_strconv_ErrSyntax) :: rest).all fun x => x.2.handleName?.isNone) = true := by kernel_rfl) : Tab W ∧ ErrS W := by
  rw [MakeChecks.laidMetH_plain _ _ _ hp] at h
  exact ⟨tab_of_laid h.tail.tail, errS_of_laid h.tail.tail.tail.tail.tail⟩
end Go.Proofs.YtcifpfdlkpddeaaDoor
