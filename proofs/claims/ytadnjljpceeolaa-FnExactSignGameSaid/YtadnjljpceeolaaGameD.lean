/- A game as data. -/
import Derived.Test.YtadnjljpceeolaaBase
set_option linter.unusedSimpArgs false
set_option linter.unusedVariables false
namespace Go.Proofs.Ytadnjljpceeolaa
structure GameD where
  X : Int
  Y : Int
  Weights : List Int
  Wins : List (List Int)
  deriving DecidableEq
end Go.Proofs.Ytadnjljpceeolaa
