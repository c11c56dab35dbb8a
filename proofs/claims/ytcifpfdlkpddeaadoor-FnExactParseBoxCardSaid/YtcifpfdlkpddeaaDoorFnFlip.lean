/- FlipPlay: contracts of the program's and the reference's function. -/
import Derived.Test.YtcifpfdlkpddeaaDoorFnA
import Derived.Test.YtcifpfdlkpddeaaDoorStepApp
import Derived.Test.YtcifpfdlkpddeaaDoorLIsPlay0
set_option linter.unusedSimpArgs false
set_option linter.unusedVariables false
namespace Go.Proofs.YtcifpfdlkpddeaaDoor
open Go.RowKit

/-- A call handed back a slice of ints of its own and a bool. -/
def IntsRes (w : World) (xs : List Int) (ok : Bool) (e : Ending) (w' : World) : Prop :=
  ∃ a c, e = .returned (.tuple #[.slice a xs.length c, .bool ok]) ∧ OwnV 3 w.heap.size w'.heap.size w' (.slice a xs.length c) (ints xs) ∧ Below w.heap.size w w'
theorem IntsRes.zero {w w' : World} (h : Below w.heap.size w w') : IntsRes w [] false (.returned (.tuple #[.slice none 0 0, .bool false])) w' :=
  ⟨none, 0, rfl, OwnV.nil _ _ _ _, h⟩

end Go.Proofs.YtcifpfdlkpddeaaDoor
