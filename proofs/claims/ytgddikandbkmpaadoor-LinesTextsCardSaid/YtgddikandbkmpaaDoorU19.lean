/-
  A text is read, the document's way: haymowref46.Parse. No conditions.
-/
import Derived.Test.YtgddikandbkmpaaDoorU16
set_option linter.unusedVariables false
set_option linter.unusedSimpArgs false
set_option linter.constructorNameAsVariable false
set_option linter.unusedSimpArgs false
set_option linter.unusedVariables false
set_option maxHeartbeats 2000000
namespace Go.Abs.Tryd
open Go Go.Abs
variable {O : Type}
end Go.Abs.Tryd
namespace Go.Abs.Tryd
open Go Go.Abs
variable {O : Type}
end Go.Abs.Tryd
