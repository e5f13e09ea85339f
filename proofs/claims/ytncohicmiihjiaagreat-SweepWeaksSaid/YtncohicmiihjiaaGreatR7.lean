/-
  The document's answer for layers 1 and 7, as it is run. No conditions.
-/
import Derived.Test.YtncohicmiihjiaaGreatM7
set_option linter.unusedVariables false
set_option linter.unusedSimpArgs false
set_option linter.constructorNameAsVariable false
set_option linter.unusedSimpArgs false
set_option linter.unusedVariables false
set_option maxHeartbeats 1000000
namespace Go.Abs.Tryz
open Go Go.Abs
variable {O:Type}
def p32 (a:Int):List AV:=[.i .u64 (a % 4294967296),.i .u64 (a / 4294967296 % 4294967296),.i .u64 (a / 18446744073709551616 % 4294967296),.i .u64 (a / 79228162514264337593543950336),.i .u64 0,.i .u64 0]
end Go.Abs.Tryz
namespace Go.Abs.Tryz
open Go Go.Abs
variable {O:Type}
end Go.Abs.Tryz
