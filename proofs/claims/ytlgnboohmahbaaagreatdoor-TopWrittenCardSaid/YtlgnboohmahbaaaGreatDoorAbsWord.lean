/-
  Short words for what stands often in printed functions: a load with its kind, a cell of an aggregate. No conditions.
-/
import Derived.Test.YtlgnboohmahbaaaGreatDoorAbsCore
set_option linter.unusedVariables false
set_option linter.unusedSimpArgs false
set_option linter.constructorNameAsVariable false
namespace Go.Abs
open Go
variable {O R:Type}
noncomputable def bI (σ:AH O) (p:jJ) (o:Nat) (K:Int → Option R):Option R:=(σ.ld p o).bind fun w=>(AV.ag .i64 w).bind K
noncomputable def ldU (σ:AH O) (p:jJ) (o:Nat) (K:Int → Option R):Option R:=(σ.ld p o).bind fun w=>(AV.ag .u64 w).bind K
noncomputable def cJ (σ:AH O) (p:jJ) (o:Nat) (K:SA × Nat → Option R):Option R:=(σ.ld p o).bind fun w=>(AV.aG w).bind K
noncomputable def ldP (σ:AH O) (p:jJ) (o:Nat) (K:Option (jJ × Nat) → Option R):Option R:=(σ.ld p o).bind fun w=>(AV.aT w).bind K
noncomputable def kG (c:List AV) (i:Nat) (K:Int → Option R):Option R:=(AV.ag .i64 (c.getD i .u)).bind K
noncomputable def Vk (c:List AV) (i:Nat) (K:Int → Option R):Option R:=(AV.ag .u64 (c.getD i .u)).bind K
noncomputable def kH (c:List AV) (i:Nat) (K:SA × Nat → Option R):Option R:=(AV.aG (c.getD i .u)).bind K
theorem ak {σ:AH O} {p:jJ} {o:Nat} {K:Int → Option R}:bI σ p o K=(σ.ld p o).bind fun w=>(AV.ag .i64 w).bind K:=rfl
theorem ao {σ:AH O} {p:jJ} {o:Nat} {K:Int → Option R}:ldU σ p o K=(σ.ld p o).bind fun w=>(AV.ag .u64 w).bind K:=rfl
theorem au {σ:AH O} {p:jJ} {o:Nat} {K:SA × Nat → Option R}:cJ σ p o K=(σ.ld p o).bind fun w=>(AV.aG w).bind K:=rfl
theorem aw {σ:AH O} {p:jJ} {o:Nat} {K:Option (jJ × Nat) → Option R}:ldP σ p o K=(σ.ld p o).bind fun w=>(AV.aT w).bind K:=rfl
theorem ax {c:List AV} {i:Nat} {K:Int → Option R}:kG c i K=(AV.ag .i64 (c.getD i .u)).bind K:=rfl
theorem ay {c:List AV} {i:Nat} {K:Int → Option R}:Vk c i K=(AV.ag .u64 (c.getD i .u)).bind K:=rfl
theorem az {c:List AV} {i:Nat} {K:SA × Nat → Option R}:kH c i K=(AV.aG (c.getD i .u)).bind K:=rfl
end Go.Abs
