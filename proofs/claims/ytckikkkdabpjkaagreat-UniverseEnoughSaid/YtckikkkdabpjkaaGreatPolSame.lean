/-
 The document's Same of queries, of rows of them, of policies: of such as are the same.
-/
import Derived.Test.YtckikkkdabpjkaaGreatME
import Derived.Test.YtckikkkdabpjkaaGreatMO
import Derived.Test.YtckikkkdabpjkaaGreatMI
set_option linter.unusedVariables false
set_option linter.unusedSimpArgs false
set_option linter.unnecessarySimpa false
namespace Go.Proofs.YtckikkkdabpjkaaGreat
open Go.ChangeShapes Go.WideShapes Go.ChangeAt Go.RowKit Go.Deep
set_option maxRecDepth 100000
set_option maxHeartbeats 6400000
end Go.Proofs.YtckikkkdabpjkaaGreat
