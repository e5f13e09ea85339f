/-
  AbsIn: what comes in, decoded.
-/
import Derived.Test.YthkpjongjnjfgaaAbsArgs
import Derived.Test.YthkpjongjnjfgaaAbsSl
set_option linter.unusedVariables false
set_option linter.unusedSimpArgs false
set_option linter.constructorNameAsVariable false
namespace Go.Abs
open Go
variable {P : Program}
theorem in1 {t : TypeId} {xs : List AV} (h : ArgsAre P [t] xs) : ∃ x, xs = [x] /\ ArgIs P t x := by
 match xs, h with
 | [x], h => exact ⟨x, rfl, h.1⟩
theorem ClsI {d : Nat} {t : TypeId} {k : IntKind} {cs : List AV} (hu : P.underlying t = some (.int k)) (h : Cls P d t cs) : ∃ n, cs = [.i k n] /\ k.min <= n /\ n <= k.max := by
 cases d with
 | zero => exact h.elim
 | succ d => unfold Cls at h; rw [hu] at h; exact h
theorem ClsB {d : Nat} {t : TypeId} {cs : List AV} (hu : P.underlying t = some .bool) (h : Cls P d t cs) : ∃ x, cs = [.b x] := by
 cases d with
 | zero => exact h.elim
 | succ d => unfold Cls at h; rw [hu] at h; exact h
theorem flat_len' {es : Nat} : ∀ {els : List (List AV)}, (∀ el ∈ els, el.length = es) -> els.flatten.length = els.length * es
 | [], _ => by simp
 | e :: els, h => by
  have := flat_len' (es := es) (els := els) fun x hx => h x (List.mem_cons_of_mem _ hx)
  have := h e List.mem_cons_self
  simp only [List.flatten_cons, List.length_append, List.length_cons, Nat.succ_mul]; omega
theorem ClsSl {d : Nat} {t e : TypeId} {cs : List AV} (hu : P.underlying t = some (.slice e)) (h : Cls P (d + 1) t cs) (hl : ∀ el, Cls P d e el -> el.length = P.cellsOf e) :
  ∃ (sa : SA) (els : List (List AV)), cs = [.sl sa els.length] /\ els.length <= maxLen /\ Imm (P.cellsOf e) sa els.length els.flatten /\ ∀ el ∈ els, Cls P d e el := by
 unfold Cls at h; rw [hu] at h
 obtain ⟨els, sa, h1, h2, h3, h4⟩ := h
 refine ⟨sa, els, h1, h2, ?_, h3⟩
 rcases h4 with ⟨rfl, rfl⟩ | ⟨rfl, rfl⟩ | rfl
 ·exact Imm.nil _
 ·exact Imm.z _
 ·exact Imm.f (flat_len' fun el hel => hl el (h3 el hel))
theorem argSl {t e : TypeId} {x : AV} (hu : P.underlying t = some (.slice e)) (h : ArgIs P t x) : Cls P 12 t [x] := by
 unfold ArgIs at h; rw [hu] at h; exact h
end Go.Abs
