/-
  Short words for what stands often in printed functions: a load with its kind, a cell of an aggregate. No conditions.
-/
import Derived.Test.YtlgnboohmahbaaaGreatAbsCore
set_option linter.unusedVariables false
set_option linter.unusedSimpArgs false
set_option linter.constructorNameAsVariable false
namespace Go.Abs
open Go
variable {O R : Type}
noncomputable def ldI (σ : AH O) (p : Bid) (o : Nat) (K : Int → Option R) : Option R := (σ.ld p o).bind fun w => (AV.asI .i64 w).bind K
noncomputable def ldU (σ : AH O) (p : Bid) (o : Nat) (K : Int → Option R) : Option R := (σ.ld p o).bind fun w => (AV.asI .u64 w).bind K
noncomputable def ldS (σ : AH O) (p : Bid) (o : Nat) (K : SA × Nat → Option R) : Option R := (σ.ld p o).bind fun w => (AV.asSl w).bind K
noncomputable def ldP (σ : AH O) (p : Bid) (o : Nat) (K : Option (Bid × Nat) → Option R) : Option R := (σ.ld p o).bind fun w => (AV.asP w).bind K
noncomputable def gtI (c : List AV) (i : Nat) (K : Int → Option R) : Option R := (AV.asI .i64 (c.getD i .u)).bind K
noncomputable def gtU (c : List AV) (i : Nat) (K : Int → Option R) : Option R := (AV.asI .u64 (c.getD i .u)).bind K
noncomputable def gtS (c : List AV) (i : Nat) (K : SA × Nat → Option R) : Option R := (AV.asSl (c.getD i .u)).bind K
theorem s_ldI {σ : AH O} {p : Bid} {o : Nat} {K : Int → Option R} : ldI σ p o K = (σ.ld p o).bind fun w => (AV.asI .i64 w).bind K := rfl
theorem s_ldU {σ : AH O} {p : Bid} {o : Nat} {K : Int → Option R} : ldU σ p o K = (σ.ld p o).bind fun w => (AV.asI .u64 w).bind K := rfl
theorem s_ldS {σ : AH O} {p : Bid} {o : Nat} {K : SA × Nat → Option R} : ldS σ p o K = (σ.ld p o).bind fun w => (AV.asSl w).bind K := rfl
theorem s_ldP {σ : AH O} {p : Bid} {o : Nat} {K : Option (Bid × Nat) → Option R} : ldP σ p o K = (σ.ld p o).bind fun w => (AV.asP w).bind K := rfl
theorem s_gtI {c : List AV} {i : Nat} {K : Int → Option R} : gtI c i K = (AV.asI .i64 (c.getD i .u)).bind K := rfl
theorem s_gtU {c : List AV} {i : Nat} {K : Int → Option R} : gtU c i K = (AV.asI .u64 (c.getD i .u)).bind K := rfl
theorem s_gtS {c : List AV} {i : Nat} {K : SA × Nat → Option R} : gtS c i K = (AV.asSl (c.getD i .u)).bind K := rfl
end Go.Abs
