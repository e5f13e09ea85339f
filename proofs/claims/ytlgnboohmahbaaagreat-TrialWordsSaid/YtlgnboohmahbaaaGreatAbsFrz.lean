/-
  AbsFrz: what a function gives back is never written again: it is then its own name (a value without blocks).
-/
import Derived.Test.YtlgnboohmahbaaaGreatAbsRun
set_option linter.unusedVariables false
set_option linter.unusedSimpArgs false
set_option linter.constructorNameAsVariable false
namespace Go.Abs
open Go
variable {O : Type} {RO : O → Loc → (Nat → Option Obj) → Prop} {P : Program}
def frzL (F : AH O → AV → Option (AV × AH O)) : List AV → AH O → Option (List AV × AH O)
 | [], σ => some ([], σ)
 | v :: vs, σ => (F σ v).bind fun r => (frzL F vs r.2).bind fun q => some (r.1 :: q.1, q.2)
def frzV : Nat → AH O → AV → Option (AV × AH O)
 | 0, _, _ => none
 | d + 1, σ, v =>
  match v with
  | .sl (.loc (.n b) o es) n =>
   match σ.blk b with
   | some (.cells true _ cs) => bif Nat.ble (o + n * es) cs.length then (frzL (frzV d) ((cs.drop o).take (n * es)) (σ.kill b)).bind fun r => some (.sl (.loc (.f r.1) 0 es) n, r.2) else none
   | _ => none
  | .p (some (.n b, o)) =>
   match σ.blk b with
   | some (.cells true _ cs) => (frzL (frzV d) cs (σ.kill b)).bind fun r => some (.p (some (.f r.1, o)), r.2)
   | _ => none
  | .agg cs => (frzL (frzV d) cs σ).bind fun r => some (.agg r.1, r.2)
  | .tup cs => (frzL (frzV d) cs σ).bind fun r => some (.tup r.1, r.2)
  | v => some (v, σ)
def AV.flt : AV → Bool
 | .sl (.loc (.n _) _ _) _ => false
 | .agg cs => flts cs
 | .tup cs => flts cs
 | _ => true
where flts : List AV → Bool
 | [] => true
 | v :: vs => v.flt && flts vs
end Go.Abs
