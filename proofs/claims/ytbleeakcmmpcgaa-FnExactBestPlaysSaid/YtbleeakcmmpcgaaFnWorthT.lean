/- WorthOf: contracts of the program's and the reference's functions. -/
import Derived.Test.YtbleeakcmmpcgaaFnWorth
set_option linter.unusedSimpArgs false
set_option linter.unusedVariables false
namespace Go.Proofs.Ytbleeakcmmpcgaa
open Go.RowKit

def worthOk (f : List (List Int)) (b : BoxD) : Bool := boxB b && funcB b.X b.Y f
def worthD (f : List (List Int)) (b : BoxD) : Int := if worthOk f b then worthR f b.Rows else 0
end Go.Proofs.Ytbleeakcmmpcgaa
