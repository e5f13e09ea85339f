/-
  AbsExtern: functions of the library that only reckon.
-/
import Derived.Test.YtgddikandbkmpaaDoorAbsFrz
import Derived.Laws.Externs
set_option linter.unusedVariables false
set_option linter.unusedSimpArgs false
set_option linter.constructorNameAsVariable false
namespace Go.Abs
open Go
variable {O : Type} {P : Program}
end Go.Abs
