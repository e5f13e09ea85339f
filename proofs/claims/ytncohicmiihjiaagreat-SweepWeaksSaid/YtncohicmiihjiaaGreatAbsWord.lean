/-
  Short words for what stands often in printed functions: a load with its kind, a cell of an aggregate. No conditions.
-/
import Derived.Test.YtncohicmiihjiaaGreatAbsCore
set_option linter.unusedVariables false
set_option linter.unusedSimpArgs false
set_option linter.constructorNameAsVariable false
namespace Go.Abs
open Go
variable {O R:Type}
noncomputable def aj (J:AH O) (p:fH) (o:Nat) (K:Int->Option R):Option R:=(J.ld p o).bind fun w=>(AV.aX .i64 w).bind K
noncomputable def gO (J:AH O) (p:fH) (o:Nat) (K:Int->Option R):Option R:=(J.ld p o).bind fun w=>(AV.aX .u64 w).bind K
noncomputable def aV (J:AH O) (p:fH) (o:Nat) (K:SA × Nat->Option R):Option R:=(J.ld p o).bind fun w=>(AV.dF w).bind K
noncomputable def cD (J:AH O) (p:fH) (o:Nat) (K:Option (fH × Nat)->Option R):Option R:=(J.ld p o).bind fun w=>(AV.bD w).bind K
noncomputable def aq (c:List AV) (i:Nat) (K:Int->Option R):Option R:=(AV.aX .i64 (c.getD i .u)).bind K
noncomputable def cV (c:List AV) (i:Nat) (K:Int->Option R):Option R:=(AV.aX .u64 (c.getD i .u)).bind K
noncomputable def dx (c:List AV) (i:Nat) (K:SA × Nat->Option R):Option R:=(AV.dF (c.getD i .u)).bind K
theorem dK {J:AH O} {p:fH} {o:Nat} {K:Int->Option R}:aj J p o K=(J.ld p o).bind fun w=>(AV.aX .i64 w).bind K:=rfl
theorem dL {J:AH O} {p:fH} {o:Nat} {K:Int->Option R}:gO J p o K=(J.ld p o).bind fun w=>(AV.aX .u64 w).bind K:=rfl
theorem dM {J:AH O} {p:fH} {o:Nat} {K:SA × Nat->Option R}:aV J p o K=(J.ld p o).bind fun w=>(AV.dF w).bind K:=rfl
theorem dN {J:AH O} {p:fH} {o:Nat} {K:Option (fH × Nat)->Option R}:cD J p o K=(J.ld p o).bind fun w=>(AV.bD w).bind K:=rfl
theorem dO {c:List AV} {i:Nat} {K:Int->Option R}:aq c i K=(AV.aX .i64 (c.getD i .u)).bind K:=rfl
theorem dQ {c:List AV} {i:Nat} {K:Int->Option R}:cV c i K=(AV.aX .u64 (c.getD i .u)).bind K:=rfl
theorem dS {c:List AV} {i:Nat} {K:SA × Nat->Option R}:dx c i K=(AV.dF (c.getD i .u)).bind K:=rfl
end Go.Abs
