/-
 A number's decimal digits: the program's and the document's.
-/
import Derived.Test.YtededjfjbkcepaaGreatMD
import Derived.Laws.IdiomStrings
set_option linter.unusedVariables false
set_option linter.unusedSimpArgs false
set_option linter.unnecessarySimpa false
namespace Go.Proofs.YtededjfjbkcepaaGreat
open Go.ChangeShapes Go.WideShapes Go.ChangeAt Go.RowKit Go.Deep
set_option maxRecDepth 100000
set_option maxHeartbeats 3200000
end Go.Proofs.YtededjfjbkcepaaGreat
/-
 Fresh texts: X1, X2 and so on, but for those that a row has. No program in sight.
-/
set_option linter.unusedVariables false
set_option linter.unusedSimpArgs false
namespace Go.Proofs.YtededjfjbkcepaaGreat
end Go.Proofs.YtededjfjbkcepaaGreat
/-
 Where a text is in a table: the library's search in halves, and Find.
-/
set_option linter.unusedVariables false
set_option linter.unusedSimpArgs false
set_option linter.unnecessarySimpa false
namespace Go.Proofs.YtededjfjbkcepaaGreat
open Go.ChangeShapes Go.WideShapes Go.ChangeAt Go.RowKit Go.Deep
set_option maxRecDepth 100000
set_option maxHeartbeats 3200000
end Go.Proofs.YtededjfjbkcepaaGreat
/-
 Fresh texts: the program's; two rows of the same texts.
-/
set_option linter.unusedVariables false
set_option linter.unusedSimpArgs false
set_option linter.unnecessarySimpa false
namespace Go.Proofs.YtededjfjbkcepaaGreat
open Go.ChangeShapes Go.WideShapes Go.ChangeAt Go.RowKit Go.Deep
set_option maxRecDepth 100000
set_option maxHeartbeats 3200000
end Go.Proofs.YtededjfjbkcepaaGreat
