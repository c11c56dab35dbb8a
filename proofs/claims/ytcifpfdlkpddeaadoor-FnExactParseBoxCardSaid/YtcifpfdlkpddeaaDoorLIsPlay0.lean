/- IsPlay: the program's answers are the reference's, for all arguments. -/
import Derived.Test.YtcifpfdlkpddeaaDoorFnA
set_option linter.unusedSimpArgs false
set_option linter.unusedVariables false
namespace Go.Proofs.YtcifpfdlkpddeaaDoor
open Go.RowKit

theorem ret_bool2 {a b c d : Bool} (h : a = c) (h' : b = d) : Ending.returned (.tuple #[.bool a, .bool b]) = .returned (.tuple #[.bool c, .bool d]) := by rw [h, h']

end Go.Proofs.YtcifpfdlkpddeaaDoor
