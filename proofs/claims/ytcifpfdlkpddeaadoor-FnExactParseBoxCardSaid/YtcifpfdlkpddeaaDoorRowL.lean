/- What a listed row hands to its walk: the table of powers of ten. -/
import Derived.Test.YtcifpfdlkpddeaaDoorRow
import Derived.Test.YtcifpfdlkpddeaaDoorFnNum
import Derived.Test.YtcifpfdlkpddeaaDoorTie
import Derived.Test.YtcifpfdlkpddeaaDoorCards
import Derived.ProofKit
import Derived.LaidMore
import Derived.OpenShut
import Derived.MakeChecks
import Derived.Stop.Joined
import Derived.Stop.LaidErr
import Derived.SevenTiedAt
set_option linter.unusedSimpArgs false
set_option linter.unusedVariables false
namespace Go.Proofs.YtcifpfdlkpddeaaDoor
open Go.ChangeShapes Go.WideShapes Go.ChangeAt Go.RowKit

theorem tab_of_laid {W : World} {rest : List (String × DataW Unit)} (h : laidMet Tryd.prog (("internal/strconv.uint64pow10", Rows.laid_internal_strconv_uint64pow10) :: rest) W) : Tab W := by
  have e : (Rows.laid_internal_strconv_uint64pow10 : DataW Unit) = Lib.tabData .u64 Lib.pow10Tab := by kernel_rfl
  rw [e] at h
  exact Lib.tabIs_of_head (t := 108) (e := 81) (n := 20) Tryd.gPow (by kernel_rfl) Tryd.underlying108 Tryd.underlying81 (by kernel_rfl) (by kernel_rfl) h
theorem tab_of_laid3 {W : World} {x y : String × DataW Unit} {rest : List (String × DataW Unit)} (h : laidMetH Tryd.prog (x :: y :: ("internal/strconv.uint64pow10", Rows.laid_internal_strconv_uint64pow10) :: rest) W)
    (hp : ((x :: y :: ("internal/strconv.uint64pow10", Rows.laid_internal_strconv_uint64pow10) :: rest).all fun x => x.2.handleName?.isNone) = true := by kernel_rfl) : Tab W := by
  rw [MakeChecks.laidMetH_plain _ _ _ hp] at h
  exact tab_of_laid h.tail.tail
end Go.Proofs.YtcifpfdlkpddeaaDoor
