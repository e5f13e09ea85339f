/-
  Forms as texts, by definition, and that they are read back. No conditions.
-/
import Derived.Test.YtnbichnjfamdkaaGreatT1
import Derived.Test.YtnbichnjfamdkaaGreatI4
set_option linter.unusedVariables false
set_option linter.unusedSimpArgs false
set_option linter.constructorNameAsVariable false
set_option linter.unusedSimpArgs false
set_option linter.unusedVariables false
set_option maxHeartbeats 1000000
namespace Go.Abs
def nodeB : Bs := [110, 111, 100, 101]
def largeB : Bs := [108, 97, 114, 103, 101]
def smallB : Bs := [115, 109, 97, 108, 108]
def colonB : Bs := [58]
def colonAt (w : List Bs) : Nat := w.findIdx fun s => decide (s = colonB)
def nodeOK (w : List Bs) : Prop := 4 ≤ colonAt w ∧ colonAt w < w.length ∧ w[0]? = some nodeB ∧ (w[1]? = some largeB ∨ w[1]? = some smallB)
instance (w : List Bs) : Decidable (nodeOK w) := by unfold nodeOK; infer_instance
def I64 (n : Int) : Prop := -9223372036854775808 ≤ n ∧ n ≤ 9223372036854775807
def U64 (n : Int) : Prop := 0 ≤ n ∧ n < 18446744073709551616
structure NV.rng (x : NV) : Prop where
 s : I64 x.h.site
 g : I64 x.h.age
 P : ∀ n ∈ x.P, I64 n
 R : ∀ n ∈ x.R, U64 n
end Go.Abs
