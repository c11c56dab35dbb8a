/- NoiseBox: contracts of the program's and the reference's function; what they give. -/
import Derived.Test.YtcifpfdlkpddeaaDoorFnNew
import Derived.Test.YtcifpfdlkpddeaaDoorBoxRel
import Derived.Test.YtcifpfdlkpddeaaDoorFnBoxI
set_option linter.unusedSimpArgs false
set_option linter.unusedVariables false
namespace Go.Proofs.YtcifpfdlkpddeaaDoor
open Go.RowKit

def zeroD : BoxD := ⟨0, 0, 0, []⟩
/-- A call handed back a box of its own and a bool. -/
def BoxRes (w : World) (D : BoxD) (ok : Bool) (e : Ending) (w' : World) : Prop :=
  ∃ a c vs, e = .returned (.tuple #[.agg #[.int .i64 D.X, .int .i64 D.Y, .int .i64 D.Whole, .slice a D.Rows.length c], .bool ok]) ∧
    OwnII 34 3 w.heap.size w'.heap.size w' (.slice a D.Rows.length c) D.Rows vs ∧ Below w.heap.size w w'
theorem BoxRes.zero {w w' : World} (h : Below w.heap.size w w') : BoxRes w zeroD false (.returned (.tuple #[.agg #[.int .i64 0, .int .i64 0, .int .i64 0, .slice none 0 0], .bool false])) w' :=
  ⟨none, 0, [], rfl, OwnII.nil _ _ _ _ _, h⟩


end Go.Proofs.YtcifpfdlkpddeaaDoor
