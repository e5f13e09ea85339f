/-
  Short words for what stands often in printed functions: a load with its kind, a cell of an aggregate. No conditions.
-/
import Derived.Test.YtncohicmiihjiaaGreatAbsCore
set_option linter.unusedVariables false
set_option linter.unusedSimpArgs false
set_option linter.constructorNameAsVariable false
namespace Go.Abs
open Go
variable {O R:Type}
noncomputable def ai (J:AH O) (p:fJ) (o:Nat) (K:Int->Option R):Option R:=(J.ld p o).bind fun w=>(AV.aX .i64 w).bind K
noncomputable def cQ (J:AH O) (p:fJ) (o:Nat) (K:Int->Option R):Option R:=(J.ld p o).bind fun w=>(AV.aX .u64 w).bind K
noncomputable def aV (J:AH O) (p:fJ) (o:Nat) (K:SA × Nat->Option R):Option R:=(J.ld p o).bind fun w=>(AV.eG w).bind K
noncomputable def cV (J:AH O) (p:fJ) (o:Nat) (K:Option (fJ × Nat)->Option R):Option R:=(J.ld p o).bind fun w=>(AV.bH w).bind K
noncomputable def au (c:List AV) (i:Nat) (K:Int->Option R):Option R:=(AV.aX .i64 (c.getD i .u)).bind K
noncomputable def cf (c:List AV) (i:Nat) (K:Int->Option R):Option R:=(AV.aX .u64 (c.getD i .u)).bind K
noncomputable def cT (c:List AV) (i:Nat) (K:SA × Nat->Option R):Option R:=(AV.eG (c.getD i .u)).bind K
theorem cY {J:AH O} {p:fJ} {o:Nat} {K:Int->Option R}:ai J p o K=(J.ld p o).bind fun w=>(AV.aX .i64 w).bind K:=rfl
theorem cZ {J:AH O} {p:fJ} {o:Nat} {K:Int->Option R}:cQ J p o K=(J.ld p o).bind fun w=>(AV.aX .u64 w).bind K:=rfl
theorem db {J:AH O} {p:fJ} {o:Nat} {K:SA × Nat->Option R}:aV J p o K=(J.ld p o).bind fun w=>(AV.eG w).bind K:=rfl
theorem dd {J:AH O} {p:fJ} {o:Nat} {K:Option (fJ × Nat)->Option R}:cV J p o K=(J.ld p o).bind fun w=>(AV.bH w).bind K:=rfl
theorem dp {c:List AV} {i:Nat} {K:Int->Option R}:au c i K=(AV.aX .i64 (c.getD i .u)).bind K:=rfl
theorem dq {c:List AV} {i:Nat} {K:Int->Option R}:cf c i K=(AV.aX .u64 (c.getD i .u)).bind K:=rfl
theorem du {c:List AV} {i:Nat} {K:SA × Nat->Option R}:cT c i K=(AV.eG (c.getD i .u)).bind K:=rfl
end Go.Abs
