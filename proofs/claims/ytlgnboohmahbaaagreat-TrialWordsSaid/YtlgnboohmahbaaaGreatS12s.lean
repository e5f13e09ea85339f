/-
  slices.Delete at a slice of slices, in this program. No conditions.
-/
import Derived.Test.YtlgnboohmahbaaaGreatS12c
import Derived.Test.YtlgnboohmahbaaaGreatS12d
set_option linter.unusedVariables false
set_option linter.unusedSimpArgs false
set_option linter.constructorNameAsVariable false
namespace Go.Abs.Tryz
open Go Go.Abs Go.Proofs
noncomputable def slices_Delete_____int___int_ {O : Type} : Sm O := delS
theorem slices_Delete_____int___int__ent : Entered Tryz.prog 11 := Tryz.call11
theorem slices_Delete_____int___int__sound {O : Type} {RO : O → Loc → (Nat → Option Obj) → Prop} : FSound RO Tryz.prog 11 (slices_Delete_____int___int_ (O := O)) := delS_sound fun blk off cap i j d w h1 h2 h3 h4 h5 => Del.delSl blk off cap i j d w h1 h2 h3 h4 h5
end Go.Abs.Tryz
