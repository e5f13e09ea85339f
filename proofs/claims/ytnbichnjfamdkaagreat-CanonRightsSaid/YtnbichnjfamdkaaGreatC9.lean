/-
  The page's example of layer 40, behind two forms. No conditions.
-/
import Derived.Test.YtnbichnjfamdkaaGreatS11d
import Derived.Test.YtnbichnjfamdkaaGreatAbsSim
import Derived.Test.YtnbichnjfamdkaaGreatAbsArgs
import Derived.KernelRfl
set_option linter.unusedVariables false
set_option linter.unusedSimpArgs false
set_option linter.constructorNameAsVariable false
set_option linter.unusedVariables false
set_option linter.unusedSimpArgs false
set_option maxRecDepth 100000
namespace Go.Abs.Tryz
open Go Go.Abs
variable {O : Type}
theorem awake40 (a b c d e f : SA) (k l m n p q : Nat) : Ok (law40_awake (O := Unit) [] ((((startH : AH Unit).bump 2).put (startH : AH Unit).next (.cells true 25 [.sl a k, .sl b l, .sl c m])).put ((startH : AH Unit).next + 1) (.cells true 25 [.sl d n, .sl e p, .sl f q])))
  fun r => r.1 = .b true ∧ r.2.blk 0 = some (.cells true 25 [.sl a k, .sl b l, .sl c m]) ∧ r.2.blk 1 = some (.cells true 25 [.sl d n, .sl e p, .sl f q]) ∧ 2 ≤ r.2.next := by
 have h : (law40_awake (O := Unit) [] ((((startH : AH Unit).bump 2).put (startH : AH Unit).next (.cells true 25 [.sl a k, .sl b l, .sl c m])).put ((startH : AH Unit).next + 1) (.cells true 25 [.sl d n, .sl e p, .sl f q]))).map (fun r => (r.1, r.2.blk 0, r.2.blk 1, Nat.ble 2 r.2.next))
   = some (.b true, some (.cells true 25 [.sl a k, .sl b l, .sl c m]), some (.cells true 25 [.sl d n, .sl e p, .sl f q]), true) := by kernel_rfl
 obtain ⟨⟨r, σ⟩, e, h⟩ := Option.map_eq_some_iff.1 h
 simp only [Prod.mk.injEq] at h
 obtain ⟨h1, h2, h3, h4⟩ := h
 exact Ok_of e ⟨h1, h2, h3, Nat.le_of_ble_eq_true h4⟩
end Go.Abs.Tryz
