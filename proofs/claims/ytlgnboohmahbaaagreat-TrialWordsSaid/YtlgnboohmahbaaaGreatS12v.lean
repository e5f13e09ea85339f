/-
  Slices as values, for slices.Delete. No conditions.
-/
import Derived.Sort.Row
set_option linter.unusedVariables false
set_option linter.unusedSimpArgs false
set_option linter.constructorNameAsVariable false
namespace Go.Proofs
open Go
structure SV where
 a : Option Addr
 n : Nat
 c : Nat
 deriving Inhabited
def SV.nil : SV := ⟨none, 0, 0⟩
def encSl (v : SV) : Value := .slice v.a v.n v.c
end Go.Proofs
