/-
  The statement DiffBack for what comes in. No conditions.
-/
import Derived.Test.YteklninbijohcaaF17
import Derived.Test.YteklninbijohcaaD1
set_option linter.unusedVariables false
set_option linter.unusedSimpArgs false
set_option linter.constructorNameAsVariable false
set_option maxRecDepth 100000
namespace Go.Abs.Try
open Go Go.Abs Go.Proofs
theorem diffBack_all {O : Type} {x y : AV} {σ : AH O} (hx : ArgIs Try.prog 39 x) (hy : ArgIs Try.prog 39 y) : Ok (law47_DiffBack [x, y] σ) fun r => r.1 = .b true := by
  obtain ⟨F, hF, _⟩ := form_in hx
  obtain ⟨G, hG, _⟩ := form_in hy
  exact diffBack_ok hF hG
end Go.Abs.Try
