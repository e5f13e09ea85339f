/-
  What the functions of the program do, each as a function of Lean, and that it does so. No conditions.
-/
import Derived.Test.YtlcfoijebdljjaaGreatS7f3
import Derived.Test.YtlcfoijebdljjaaGreatAbsSim
import Derived.Test.YtlcfoijebdljjaaGreatAbsArgs
set_option linter.unusedVariables false
set_option linter.unusedSimpArgs false
set_option linter.constructorNameAsVariable false
set_option linter.unusedVariables false
set_option linter.unusedSimpArgs false
set_option maxRecDepth 100000
namespace Go.Abs.Tryz
open Go Go.Abs
variable {O : Type}
/-- the page's example -/
theorem awake39 : ∃ σ : AH O, law39_awake (O := O) [] startH = some (.b true, σ) := by
  have h : (law39_awake (O := O) [] startH).map (fun r => r.1) = some (.b true) := by kernel_rfl
  obtain ⟨⟨q, σ⟩, e, h⟩ := Option.map_eq_some_iff.1 h
  simp only at h
  subst h
  exact ⟨σ, e⟩
/-- the document's words and the code's are the same text -/
theorem words39 : audit_Kind__Word (O := O) = haymowref39_Word := rfl
/-- each kind has its word, and nothing is turned -/
theorem word39 (n : Int) (σ : AH O) : ∃ s, haymowref39_Word (O := O) [.i .i64 n] σ = some (.s s, σ) := by
  simp only [haymowref39_Word, haymowref39_Word_c, rsU, rsC]
  cases (n == 1) <;> cases (n == 2) <;> cases (n == 3) <;> cases (n == 4) <;> cases (n == 5) <;> cases (n == 6) <;> exact ⟨_, rfl⟩
theorem law39_AuditWords_ok (n : Int) : Ok (law39_AuditWords (O := O) [.i .i64 n] startH) fun r => r.1 = .b true := by
  obtain ⟨σ, ea⟩ := awake39 (O := O)
  obtain ⟨s, es⟩ := word39 (O := O) n σ
  simp only [law39_AuditWords, law39_AuditWords_c, words39, ea, es, rsU, rsC]
  exact Ok_some.2 (by simp)
end Go.Abs.Tryz
