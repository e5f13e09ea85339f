/-
  Each kind of a trial has its word: the law TrialWords. No conditions.
-/
import Derived.Test.YtlgnboohmahbaaaGreatS12f
import Derived.Test.YtlgnboohmahbaaaGreatAbsSim
import Derived.Test.YtlgnboohmahbaaaGreatAbsArgs
import Derived.KernelRfl
set_option linter.unusedVariables false
set_option linter.unusedSimpArgs false
set_option linter.constructorNameAsVariable false
set_option linter.unusedVariables false
set_option linter.unusedSimpArgs false
set_option maxRecDepth 100000
namespace Go.Abs.Tryz
open Go Go.Abs
variable {O : Type}
theorem awake45 : ∃ σ : AH O, law45_awake (O := O) 200 [] startH = some (.b true, σ) := by
 have h : (law45_awake (O := O) 200 [] startH).map (fun r => r.1) = some (.b true) := by kernel_rfl
 obtain ⟨⟨q, σ⟩, e, h⟩ := Option.map_eq_some_iff.1 h
 simp only at h
 subst h
 exact ⟨σ, e⟩
theorem Ok.to {A B : Type} {m : Option A} {k : A → Option B} {Q : B → Prop} {x : A} (h : m = some x) (hk : Ok (k x) Q) : Ok (m.bind k) Q := by subst h; exact hk
theorem Ok.cT {A : Type} {c : Bool} {x y : Option A} {Q : A → Prop} (h : c = true) (hx : Ok x Q) : Ok (bif c then x else y) Q := by subst h; exact hx
theorem Ok.cF {A : Type} {c : Bool} {x y : Option A} {Q : A → Prop} (h : c = false) (hx : Ok y Q) : Ok (bif c then x else y) Q := by subst h; exact hx
theorem in7 {n : Int} (h0 : ¬ n < 0) (h7 : n < 7) : n = 0 ∨ n = 1 ∨ n = 2 ∨ n = 3 ∨ n = 4 ∨ n = 5 ∨ n = 6 := by omega
def W45 : List (List UInt8) := [[119, 101, 108, 108], [97, 110, 115, 119, 101, 114, 115], [108, 105, 118, 101], [100, 101, 98, 116], [100, 101, 97, 114], [104, 101, 108, 100], [119, 114, 111, 110, 103]]
theorem words45 (n : Int) : ∃ s, (∀ σ : AH O, Ok (trial_Kind__Word [.i .i64 n] σ) fun r => r.1 = .s s) ∧ ∀ σ : AH O, Ok (haymowref45_Word [.i .i64 n] σ) fun r => r.1 = .s s := by
 by_cases h : n < 0
 ·have d : decide (n < 0) = true := decide_eq_true h
  refine ⟨[], fun σ => ?_, fun σ => ?_⟩
  ·simp -implicitDefEqProofs only [trial_Kind__Word, trial_Kind__Word_c, d, Nat.reduceAdd, Nat.reduceMul, Nat.reduceLT, Int.reduceToNat, Int.reduceAdd, Int.reduceSub, Int.reduceMul, rsU, s_ldI, s_ldU, s_ldS, s_ldP, s_gtI, s_gtU, s_gtS, s_bleD, Nat.reduceLeDiff, decide_true, decide_false]
   exact Ok_some.2 rfl
  ·simp -implicitDefEqProofs only [haymowref45_Word, haymowref45_Word_c, d, Nat.reduceAdd, Nat.reduceMul, Nat.reduceLT, Int.reduceToNat, Int.reduceAdd, Int.reduceSub, Int.reduceMul, rsU, s_ldI, s_ldU, s_ldS, s_ldP, s_gtI, s_gtU, s_gtS, s_bleD, Nat.reduceLeDiff, decide_true, decide_false]
   exact Ok_some.2 rfl
 ·have d : decide (n < 0) = false := decide_eq_false h
  by_cases h7 : n < 7
  ·refine ⟨W45.getD n.toNat [], fun σ => ?_, fun σ => ?_⟩
   ·rcases in7 h h7 with rfl | rfl | rfl | rfl | rfl | rfl | rfl
    all_goals
     simp (maxSteps := 2000000) -implicitDefEqProofs (disch := (first | omega | rfl | assumption | (simp only [rsD]; first | omega | assumption))) only [trial_Kind__Word, trial_Kind__Word_c, Nat.reduceAdd, Nat.reduceMul, Nat.reduceLT, Int.reduceToNat, Int.reduceAdd, Int.reduceSub, Int.reduceMul, rsU, rsC]
     exact Ok_some.2 rfl
   ·rcases in7 h h7 with rfl | rfl | rfl | rfl | rfl | rfl | rfl
    all_goals
     simp (maxSteps := 2000000) -implicitDefEqProofs (disch := (first | omega | rfl | assumption | (simp only [rsD]; first | omega | assumption))) only [haymowref45_Word, haymowref45_Word_c, Nat.reduceAdd, Nat.reduceMul, Nat.reduceLT, Int.reduceToNat, Int.reduceAdd, Int.reduceSub, Int.reduceMul, rsU, rsC]
     exact Ok_some.2 rfl
  ·have d2 : decide (n ≥ 7) = true := decide_eq_true (by omega)
   have d3 : decide (n > 6) = true := decide_eq_true (by omega)
   refine ⟨[], fun σ => ?_, fun σ => ?_⟩
   ·simp -implicitDefEqProofs only [trial_Kind__Word, trial_Kind__Word_c, d, d2, Nat.reduceAdd, Nat.reduceMul, Nat.reduceLT, Int.reduceToNat, Int.reduceAdd, Int.reduceSub, Int.reduceMul, rsU, s_ldI, s_ldU, s_ldS, s_ldP, s_gtI, s_gtU, s_gtS, s_bleD, Nat.reduceLeDiff, decide_true, decide_false]
    exact Ok_some.2 rfl
   ·simp -implicitDefEqProofs only [haymowref45_Word, haymowref45_Word_c, d, d3, Nat.reduceAdd, Nat.reduceMul, Nat.reduceLT, Int.reduceToNat, Int.reduceAdd, Int.reduceSub, Int.reduceMul, rsU, s_ldI, s_ldU, s_ldS, s_ldP, s_gtI, s_gtU, s_gtS, s_bleD, Nat.reduceLeDiff, decide_true, decide_false]
    exact Ok_some.2 rfl
theorem trialWords_ok (n : Int) : Ok (law45_TrialWords (O := O) 200 [.i .i64 n] startH) fun r => r.1 = .b true := by
 obtain ⟨σ, ea⟩ := awake45 (O := O)
 obtain ⟨s, g1, g2⟩ := words45 (O := O) n
 unfold law45_TrialWords law45_TrialWords_c
 refine Ok.cT rfl ?_
 refine Ok.to (x := n) rfl ?_
 refine Ok.to ea ?_
 refine Ok.to (x := true) rfl ?_
 refine Ok.cF rfl ?_
 refine Ok.step (g1 _) ?_
 rintro ⟨v, σ1⟩ v1
 simp only at v1
 subst v1
 refine Ok.to (x := s) rfl ?_
 refine Ok.step (g2 _) ?_
 rintro ⟨v, σ2⟩ v1
 simp only at v1
 subst v1
 refine Ok.to (x := s) rfl ?_
 exact Ok_some.2 (by rw [beq_self_eq_true])
end Go.Abs.Tryz
