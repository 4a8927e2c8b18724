/-
  Short lists of Shock, sorted in place. Conditions: none.
-/
import Derived.Test.YtekhnmibkkinaaaTShock
import Derived.Test.YtekhnmibkkinaaaSort
import Derived.Test.YtekhnmibkkinaaaRev
set_option linter.unusedSimpArgs false
set_option linter.unusedVariables false
set_option maxRecDepth 100000
set_option maxHeartbeats 1000000
namespace Go.Proofs
open Go.Lv
end Go.Proofs
