/- PlayBox: contracts of the program's function. -/
import Derived.Test.YtbleeakcmmpcgaaBoxOut
import Derived.Test.YtbleeakcmmpcgaaFnFlip
set_option linter.unusedSimpArgs false
set_option linter.unusedVariables false
namespace Go.Proofs.Ytbleeakcmmpcgaa
open Go.RowKit

def playN (x : Int) (ps : List Int) (whole : Int) : Num := fun i k a b => if ps.getD i.toNat 0 = a ∧ ps.getD (x.toNat + k.toNat) 0 = b then whole else 0
end Go.Proofs.Ytbleeakcmmpcgaa
