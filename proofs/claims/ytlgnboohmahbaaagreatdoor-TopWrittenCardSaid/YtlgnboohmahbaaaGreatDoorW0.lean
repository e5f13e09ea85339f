/-
  The example of the theorems through the layers, behind a form. No conditions.
-/
import Derived.Test.YtlgnboohmahbaaaGreatDoorS13d
import Derived.Test.YtlgnboohmahbaaaGreatDoorAbsSim
import Derived.Test.YtlgnboohmahbaaaGreatDoorAbsArgs
import Derived.KernelRfl
set_option linter.unusedVariables false
set_option linter.unusedSimpArgs false
set_option linter.constructorNameAsVariable false
set_option linter.unusedVariables false
set_option linter.unusedSimpArgs false
set_option maxRecDepth 100000
namespace Go.Abs.Tryz
open Go Go.Abs
variable {O:Type}
theorem ajv (a b c:SA) (k l m:Nat):Ok (eP (O:=O) 200 [] (((startH:AH O).bump 1).put (startH:AH O).next (.cells true 25 [.sl a k,.sl b l,.sl c m])))
  fun r=>r.1=.b true ∧ r.2.ai 0=some (.cells true 25 [.sl a k,.sl b l,.sl c m]) ∧ 1 ≤ r.2.next:=by
 have h:(eP (O:=O) 200 [] (((startH:AH O).bump 1).put (startH:AH O).next (.cells true 25 [.sl a k,.sl b l,.sl c m]))).map (fun r=>(r.1,r.2.ai 0,Nat.ble 1 r.2.next))
   = some (.b true,some (.cells true 25 [.sl a k,.sl b l,.sl c m]),true):=by kernel_rfl
 obtain ⟨⟨r,σ⟩,e,h⟩:=Option.map_eq_some_iff.1 h
 simp only [Prod.mk.injEq] at h
 obtain ⟨h1,h2,h3⟩:=h
 exact Tm e ⟨h1,h2,Nat.le_of_ble_eq_true h3⟩
end Go.Abs.Tryz
