/-
  AbsIn: what comes in, decoded.
-/
import Derived.Test.YtncohicmiihjiaaGreatAbsArgs
import Derived.Test.YtncohicmiihjiaaGreatAbsSl
set_option linter.unusedVariables false
set_option linter.unusedSimpArgs false
set_option linter.constructorNameAsVariable false
namespace Go.Abs
open Go
variable {P : Program}
theorem in2 {t u : TypeId} {xs : List AV} (h : ArgsAre P [t, u] xs) : ∃ x y, xs = [x, y] /\ ArgIs P t x /\ ArgIs P u y := by
 match xs, h with
 | [x, y], h => exact ⟨x, y, rfl, h.1, h.2.1⟩
theorem ClsI {d : Nat} {t : TypeId} {k : IntKind} {cs : List AV} (hu : P.underlying t = some (.int k)) (h : Cls P d t cs) : ∃ n, cs = [.i k n] /\ k.min <= n /\ n <= k.max := by
 cases d with
 | zero => exact h.elim
 | succ d => unfold Cls at h; rw [hu] at h; exact h
theorem argI {t : TypeId} {k : IntKind} {x : AV} (hu : P.underlying t = some (.int k)) (h : ArgIs P t x) : ∃ n, x = .i k n /\ k.min <= n /\ n <= k.max := by
 unfold ArgIs at h; rw [hu] at h
 obtain ⟨n, e, hn⟩ := ClsI hu h
 exact ⟨n, by simpa using e, hn⟩
theorem argSt {t : TypeId} {fs : Array Field} {x : AV} (hu : P.underlying t = some (.struct fs)) (h : ArgIs P t x) : ∃ cs, x = .agg cs /\ Cls P 12 t cs := by
 unfold ArgIs at h; rw [hu] at h; exact h
end Go.Abs
