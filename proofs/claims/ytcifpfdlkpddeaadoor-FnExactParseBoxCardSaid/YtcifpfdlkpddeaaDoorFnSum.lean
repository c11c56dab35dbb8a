/- Checksum: the program's answer is the reference's, for all arguments. -/
import Derived.Test.YtcifpfdlkpddeaaDoorPlain
import Derived.Test.YtcifpfdlkpddeaaDoorChecked
set_option linter.unusedSimpArgs false
set_option linter.unusedVariables false
namespace Go.Proofs.YtcifpfdlkpddeaaDoor
open Go.ChangeShapes Go.WideShapes Go.ChangeAt Go.RowKit
open Go.ChangeMaps (open_string shut_string)

end Go.Proofs.YtcifpfdlkpddeaaDoor
