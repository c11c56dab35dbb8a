/- MixBoxes: contracts of the program's function. -/
import Derived.Test.YtbleeakcmmpcgaaFnPlayBox
import Derived.Test.YtbleeakcmmpcgaaSame
set_option linter.unusedSimpArgs false
set_option linter.unusedVariables false
namespace Go.Proofs.Ytbleeakcmmpcgaa
open Go.RowKit

end Go.Proofs.Ytbleeakcmmpcgaa
