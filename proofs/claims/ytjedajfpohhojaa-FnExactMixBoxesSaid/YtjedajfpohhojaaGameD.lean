/- A game as data. -/
import Derived.Test.YtjedajfpohhojaaBase
set_option linter.unusedSimpArgs false
set_option linter.unusedVariables false
namespace Go.Proofs.Ytjedajfpohhojaa
structure GameD where
  X : Int
  Y : Int
  Weights : List Int
  Wins : List (List Int)
  deriving DecidableEq
end Go.Proofs.Ytjedajfpohhojaa
