/-
  The law's own helpers. No conditions.
-/
import Derived.Test.YteklninbijohcaaF13
set_option linter.unusedVariables false
set_option linter.unusedSimpArgs false
set_option linter.constructorNameAsVariable false
set_option linter.unusedSimpArgs false
set_option linter.unusedVariables false
set_option linter.unusedSectionVars false
set_option maxHeartbeats 1000000
namespace Go.Abs.Try
open Go Go.Abs
variable {O : Type}

theorem few_ok {σ : AH O} {F : FV} {v : AV} (hF : F.At v) : Ok (law47_few [v] σ) fun r => ∃ t, r.1 = .b t ∧ (t = true → F.few ∧ F.nodes.length ≤ 20) ∧ Ext σ r.2 := by
  obtain ⟨a, b, c, rfl, iN, iR, iW⟩ := hF.it
  simp (config := { maxSteps := 2000000 }) -implicitDefEqProofs (disch := (first | omega | rfl | assumption | (simp only [rsD]; first | omega | assumption))) only [law47_few, law47_few_c, Nat.reduceAdd, Nat.reduceMul, Nat.reduceLT, Int.reduceToNat, Int.reduceAdd, Int.reduceSub, Int.reduceMul, rsU, rsC]
  generalize hs : AH.put (AH.bump σ 1) _ _ = s1
  have b1 : s1.blk σ.next = some (.cells true T_canon_Form [.sl a F.nodes.length, .sl b F.roots.length, .sl c F.weak.length]) := by rw [← hs]; ((try simp only [rsD] at *); simp -implicitDefEqProofs (disch := (first | omega | rfl | assumption | (simp only [rsD]; first | omega | assumption))) only [s_bs, s_bn, s_kn, bump_blk])
  have E1 : Ext σ s1 := by rw [← hs]; exact (ext_of (by (try simp only [rsD] at *); omega) (fun b hb => by (try simp only [rsD] at *); simp -implicitDefEqProofs (disch := (first | omega | rfl | assumption | (simp only [rsD]; first | omega | assumption))) only [s_bn, s_kn, bump_blk]))
  refine Ok.bindS (Q := fun r => (r = .inl ([], s1) ∧ ∀ k x, k < 20 → F.nodes[k]? = some x → x.few) ∨ r = .inr (.b false, s1)) ?_ ?_ ?_
  · refine Ok.count (min F.nodes.length 20) (fun k st => st = ([.i .i64 (k : Int)], s1) ∧ ∀ j x, j < k → F.nodes[j]? = some x → x.few) ?_ ?_ ⟨rfl, fun j x h => by omega⟩
    · rintro k st hk ⟨rfl, ih⟩
      obtain ⟨x, hx⟩ : ∃ x, F.nodes[k]? = some x := ⟨_, List.getElem?_eq_getElem (by omega)⟩
      obtain ⟨u, o, p, q, rfl, hp, hq, ld⟩ := iN.node hx
      obtain ⟨_, _, _, _, _, d5, d6⟩ := ld O s1
      have di := decide_eq_true (show (k : Int) < (F.nodes.length : Int) by omega)
      have dj := decide_eq_true (show (k : Int) < 20 by omega)
      by_cases e1 : (x.P.length : Int) > 20
      · have q1 := decide_eq_true e1
        simp (config := { maxSteps := 2000000 }) -implicitDefEqProofs (disch := (first | omega | rfl | assumption | (simp only [rsD]; first | omega | assumption))) only [law47_few_L1, b1, di, dj, d5, q1, Nat.reduceAdd, Nat.reduceMul, Nat.reduceLT, Int.reduceToNat, Int.reduceAdd, Int.reduceSub, Int.reduceMul, rsU, rsC]
        exact Ok_some.2 (.inr rfl)
      have q1 := decide_eq_false e1
      by_cases e2 : (x.R.length : Int) > 20
      · have q2 := decide_eq_true e2
        simp (config := { maxSteps := 2000000 }) -implicitDefEqProofs (disch := (first | omega | rfl | assumption | (simp only [rsD]; first | omega | assumption))) only [law47_few_L1, b1, di, dj, d5, d6, q1, q2, Nat.reduceAdd, Nat.reduceMul, Nat.reduceLT, Int.reduceToNat, Int.reduceAdd, Int.reduceSub, Int.reduceMul, rsU, rsC]
        exact Ok_some.2 (.inr rfl)
      have q2 := decide_eq_false e2
      simp (config := { maxSteps := 2000000 }) -implicitDefEqProofs (disch := (first | omega | rfl | assumption | (simp only [rsD]; first | omega | assumption))) only [law47_few_L1, b1, di, dj, d5, d6, q1, q2, Nat.reduceAdd, Nat.reduceMul, Nat.reduceLT, Int.reduceToNat, Int.reduceAdd, Int.reduceSub, Int.reduceMul, rsU, rsC]
      refine Ok_some.2 ⟨by simp, fun j y hj hy => ?_⟩
      by_cases ej : j = k
      · subst ej; rw [hx] at hy; cases hy; exact ⟨by omega, by omega⟩
      · exact ih j y (by omega) hy
    · rintro st ⟨rfl, ih⟩
      by_cases e : F.nodes.length ≤ 20
      · have di := decide_eq_false (show ¬ ((min F.nodes.length 20 : Nat) : Int) < (F.nodes.length : Int) by omega)
        simp (config := { maxSteps := 2000000 }) -implicitDefEqProofs (disch := (first | omega | rfl | assumption | (simp only [rsD]; first | omega | assumption))) only [law47_few_L1, b1, di, Nat.reduceAdd, Nat.reduceMul, Nat.reduceLT, Int.reduceToNat, Int.reduceAdd, Int.reduceSub, Int.reduceMul, rsU, rsC]
        exact Ok_some.2 (.inl ⟨rfl, fun k x hk hx => ih k x (by have := (List.getElem?_eq_some_iff.1 hx).1; omega) hx⟩)
      · have di := decide_eq_true (show ((min F.nodes.length 20 : Nat) : Int) < (F.nodes.length : Int) by omega)
        have dj := decide_eq_false (show ¬ ((min F.nodes.length 20 : Nat) : Int) < 20 by omega)
        simp (config := { maxSteps := 2000000 }) -implicitDefEqProofs (disch := (first | omega | rfl | assumption | (simp only [rsD]; first | omega | assumption))) only [law47_few_L1, b1, di, dj, Nat.reduceAdd, Nat.reduceMul, Nat.reduceLT, Int.reduceToNat, Int.reduceAdd, Int.reduceSub, Int.reduceMul, rsU, rsC]
        exact Ok_some.2 (.inl ⟨rfl, fun k x hk hx => ih k x (by omega) hx⟩)
  · rintro _ (⟨e, ih⟩ | e)
    · cases e
      by_cases e1 : F.nodes.length ≤ 20
      · have q1 := decide_eq_true (show (F.nodes.length : Int) ≤ 20 by omega)
        by_cases e2 : F.roots.length ≤ 20
        · have q2 := decide_eq_true (show (F.roots.length : Int) ≤ 20 by omega)
          simp (config := { maxSteps := 2000000 }) -implicitDefEqProofs (disch := (first | omega | rfl | assumption | (simp only [rsD]; first | omega | assumption))) only [b1, q1, q2, Nat.reduceAdd, Nat.reduceMul, Nat.reduceLT, Int.reduceToNat, Int.reduceAdd, Int.reduceSub, Int.reduceMul, rsU, rsC]
          refine Ok_some.2 ⟨_, rfl, fun h => ⟨⟨by omega, fun x hx => ?_, by omega, by have := of_decide_eq_true h; omega⟩, e1⟩, E1⟩
          obtain ⟨k, hk, rfl⟩ := List.getElem_of_mem hx
          exact ih k _ (by omega) (List.getElem?_eq_getElem hk)
        · have q2 := decide_eq_false (show ¬ (F.roots.length : Int) ≤ 20 by omega)
          simp (config := { maxSteps := 2000000 }) -implicitDefEqProofs (disch := (first | omega | rfl | assumption | (simp only [rsD]; first | omega | assumption))) only [b1, q1, q2, Nat.reduceAdd, Nat.reduceMul, Nat.reduceLT, Int.reduceToNat, Int.reduceAdd, Int.reduceSub, Int.reduceMul, rsU, rsC]
          exact Ok_some.2 ⟨false, rfl, by simp, E1⟩
      · have q1 := decide_eq_false (show ¬ (F.nodes.length : Int) ≤ 20 by omega)
        simp (config := { maxSteps := 2000000 }) -implicitDefEqProofs (disch := (first | omega | rfl | assumption | (simp only [rsD]; first | omega | assumption))) only [b1, q1, Nat.reduceAdd, Nat.reduceMul, Nat.reduceLT, Int.reduceToNat, Int.reduceAdd, Int.reduceSub, Int.reduceMul, rsU, rsC]
        exact Ok_some.2 ⟨false, rfl, by simp, E1⟩
    · cases e
  · rintro _ (⟨e, ih⟩ | e)
    · cases e
    · cases e; exact ⟨false, rfl, by simp, E1⟩
end Go.Abs.Try
