/-
  The document's proofs: does a step stand on a fact?
-/
import Derived.Test.YtahnedkdodjomaaProofRef
set_option linter.unusedVariables false
set_option linter.unusedSimpArgs false
set_option linter.unnecessarySimpa false
namespace Go.Proofs.Ytahnedkdodjomaa
open Go.ChangeShapes Go.WideShapes Go.ChangeAt Go.RowKit Go.Deep SetPlain
set_option maxRecDepth 100000
set_option maxHeartbeats 3200000
end Go.Proofs.Ytahnedkdodjomaa
