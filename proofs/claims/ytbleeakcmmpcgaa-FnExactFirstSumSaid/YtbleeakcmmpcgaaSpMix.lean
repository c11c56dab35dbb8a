/- MixBoxes: contracts of the reference's function. -/
import Derived.Test.YtbleeakcmmpcgaaFnMix
set_option linter.unusedSimpArgs false
set_option linter.unusedVariables false
namespace Go.Proofs.Ytbleeakcmmpcgaa
open Go.RowKit

end Go.Proofs.Ytbleeakcmmpcgaa
