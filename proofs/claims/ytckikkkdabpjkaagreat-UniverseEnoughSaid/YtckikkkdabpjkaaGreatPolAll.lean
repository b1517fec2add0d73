/-
 The document's Right of any policy.
-/
import Derived.Test.YtckikkkdabpjkaaGreatML
import Derived.Test.YtckikkkdabpjkaaGreatMP
import Derived.Test.YtckikkkdabpjkaaGreatRowSame
import Derived.Test.YtckikkkdabpjkaaGreatMV
import Derived.Test.YtckikkkdabpjkaaGreatMO
import Derived.Test.YtckikkkdabpjkaaGreatMG
set_option linter.unusedVariables false
set_option linter.unusedSimpArgs false
set_option linter.unnecessarySimpa false
namespace Go.Proofs.YtckikkkdabpjkaaGreat
open Go.ChangeShapes Go.WideShapes Go.ChangeAt Go.RowKit Go.Deep
set_option maxRecDepth 100000
set_option maxHeartbeats 6400000
end Go.Proofs.YtckikkkdabpjkaaGreat
