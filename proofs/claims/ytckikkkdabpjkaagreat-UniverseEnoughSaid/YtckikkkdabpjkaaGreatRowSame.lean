/-
 The document's Same of any rows of statements, of roles.
-/
import Derived.Test.YtckikkkdabpjkaaGreatStmEql
set_option linter.unusedVariables false
set_option linter.unusedSimpArgs false
set_option linter.unnecessarySimpa false
namespace Go.Proofs.YtckikkkdabpjkaaGreat
open Go.ChangeShapes Go.WideShapes Go.ChangeAt Go.RowKit Go.Deep
set_option maxRecDepth 100000
set_option maxHeartbeats 3200000
end Go.Proofs.YtckikkkdabpjkaaGreat
