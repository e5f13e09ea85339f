/-
  AbsIn: what comes in, decoded.
-/
import Derived.Test.YtgddikandbkmpaaDoorAbsArgs
import Derived.Test.YtgddikandbkmpaaDoorAbsSl
set_option linter.unusedVariables false
set_option linter.unusedSimpArgs false
set_option linter.constructorNameAsVariable false
namespace Go.Abs
open Go
variable {P : Program}
theorem in1 {t : TypeId} {xs : List AV} (h : ArgsAre P [t] xs) : ∃ x, xs = [x] ∧ ArgIs P t x := by
 match xs, h with
 | [x], h => exact ⟨x, rfl, h.1⟩
theorem ClsS {d : Nat} {t : TypeId} {cs : List AV} (hu : P.underlying t = some .string) (h : Cls P d t cs) : ∃ s, cs = [.s s] ∧ s.length ≤ maxLen := by
 cases d with
 | zero => exact h.elim
 | succ d => unfold Cls at h; rw [hu] at h; exact h
theorem argS {t : TypeId} {x : AV} (hu : P.underlying t = some .string) (h : ArgIs P t x) : ∃ s, x = .s s ∧ s.length ≤ maxLen := by
 unfold ArgIs at h; rw [hu] at h
 obtain ⟨n, e, hn⟩ := ClsS hu h
 exact ⟨n, by simpa using e, hn⟩
end Go.Abs
