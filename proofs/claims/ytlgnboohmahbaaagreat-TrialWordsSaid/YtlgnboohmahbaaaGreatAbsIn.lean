/-
  AbsIn: what comes in, decoded.
-/
import Derived.Test.YtlgnboohmahbaaaGreatAbsArgs
import Derived.Test.YtlgnboohmahbaaaGreatAbsSl
set_option linter.unusedVariables false
set_option linter.unusedSimpArgs false
set_option linter.constructorNameAsVariable false
namespace Go.Abs
open Go
variable {P : Program}
theorem in1 {t : TypeId} {xs : List AV} (h : ArgsAre P [t] xs) : ∃ x, xs = [x] ∧ ArgIs P t x := by
 match xs, h with
 | [x], h => exact ⟨x, rfl, h.1⟩
theorem ClsI {d : Nat} {t : TypeId} {k : IntKind} {cs : List AV} (hu : P.underlying t = some (.int k)) (h : Cls P d t cs) : ∃ n, cs = [.i k n] ∧ k.min ≤ n ∧ n ≤ k.max := by
 cases d with
 | zero => exact h.elim
 | succ d => unfold Cls at h; rw [hu] at h; exact h
theorem argI {t : TypeId} {k : IntKind} {x : AV} (hu : P.underlying t = some (.int k)) (h : ArgIs P t x) : ∃ n, x = .i k n ∧ k.min ≤ n ∧ n ≤ k.max := by
 unfold ArgIs at h; rw [hu] at h
 obtain ⟨n, e, hn⟩ := ClsI hu h
 exact ⟨n, by simpa using e, hn⟩
end Go.Abs
