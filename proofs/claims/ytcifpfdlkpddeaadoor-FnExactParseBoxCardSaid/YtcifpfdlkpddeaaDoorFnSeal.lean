/- A text with its checksum: what the reference's and the program's AppendChecksum hand back. -/
import Derived.Test.YtcifpfdlkpddeaaDoorFnSum
import Derived.Test.YtcifpfdlkpddeaaDoorFnNum
import Derived.Test.YtcifpfdlkpddeaaDoorPlainN
import Derived.Test.YtcifpfdlkpddeaaDoorFnStands
set_option linter.unusedSimpArgs false
set_option linter.unusedVariables false
namespace Go.Proofs.YtcifpfdlkpddeaaDoor
open Go.RowKit

end Go.Proofs.YtcifpfdlkpddeaaDoor
