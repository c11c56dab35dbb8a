/- AreAlike: contracts of the program's and the reference's functions. -/
import Derived.Test.YtbleeakcmmpcgaaFnAlike
import Derived.Test.YtbleeakcmmpcgaaSpMix
set_option linter.unusedSimpArgs false
set_option linter.unusedVariables false
namespace Go.Proofs.Ytbleeakcmmpcgaa
open Go.RowKit

def alikeD (a b : BoxD) : Bool := sameB a b && alikeR a.Rows b.Rows a.Whole b.Whole
end Go.Proofs.Ytbleeakcmmpcgaa
