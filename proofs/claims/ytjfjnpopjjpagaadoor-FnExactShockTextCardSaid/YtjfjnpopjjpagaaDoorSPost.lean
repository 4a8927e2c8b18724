/-
  Searches in lists of Post. Conditions: none.
-/
import Derived.Test.YtjfjnpopjjpagaaDoorTPost
import Derived.Test.YtjfjnpopjjpagaaDoorSearch
set_option linter.unusedSimpArgs false
set_option linter.unusedVariables false
set_option maxRecDepth 100000
namespace Go.Proofs
open Go.Lv
end Go.Proofs
