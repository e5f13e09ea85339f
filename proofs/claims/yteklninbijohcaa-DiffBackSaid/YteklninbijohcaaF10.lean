/-
  One change is applied: all kinds. No conditions.
-/
import Derived.Test.YteklninbijohcaaF9
set_option linter.unusedVariables false
set_option linter.unusedSimpArgs false
set_option linter.constructorNameAsVariable false
set_option linter.unusedSimpArgs false
set_option linter.unusedVariables false
set_option linter.unusedSectionVars false
set_option maxHeartbeats 1000000
namespace Go.Abs.Try
open Go Go.Abs
variable {O : Type}

theorem one_ok {σ : AH O} {fb base : Nat} {F : FV} {c : CV} {p q r : SA} (W : WF σ fb base F) (hF : F.nodes.length ≤ 10000000) (hp : Ints .i64 p c.whole.P) (hq : Ints .u64 q c.whole.R) (hr : Ints .i64 r c.list) (fc : c.few) : Ok (diff_one [.p (some (.n fb, 0)), .agg (c.cells p q r)] σ) fun s => s.1 = .i .i64 (one F c).1 ∧ WF s.2 fb base (one F c).2 ∧ Only σ s.2 fb base := by
  obtain ⟨kind, at_, slot, to, word, whole, list⟩ := c
  have W0 : WF ((σ.bump 1).put σ.next (.cells true T_diff_Change (CV.cells ⟨kind, at_, slot, to, word, whole, list⟩ p q r))) fb base F := W.keep (by simp) (by have := W.lt; have := W.le; ((try simp only [rsD] at *); simp -implicitDefEqProofs (disch := (first | omega | rfl | assumption | (simp only [rsD]; first | omega | assumption))) only [s_bs, s_bn, s_kn, bump_blk])) fun x h1 h2 => by ((try simp only [rsD] at *); simp -implicitDefEqProofs (disch := (first | omega | rfl | assumption | (simp only [rsD]; first | omega | assumption))) only [s_bs, s_bn, s_kn, bump_blk])
  have O0 : Only σ ((σ.bump 1).put σ.next (.cells true T_diff_Change (CV.cells ⟨kind, at_, slot, to, word, whole, list⟩ p q r))) fb base := ⟨by simp, fun x h1 h2 => by have := W.le; ((try simp only [rsD] at *); simp -implicitDefEqProofs (disch := (first | omega | rfl | assumption | (simp only [rsD]; first | omega | assumption))) only [s_bs, s_bn, s_kn, bump_blk])⟩
  have hno := W.lt
  have hle := W.le
  simp only at hp hq hr fc
  unfold CV.cells at W0 O0
  simp only at W0 O0
  by_cases k0 : kind = 0
  · have d0 := s_eqT k0
    simp (config := { maxSteps := 2000000 }) -implicitDefEqProofs (disch := (first | omega | rfl | assumption | (simp only [rsD]; first | omega | assumption))) only [diff_one, diff_one_c, CV.cells, d0, Nat.reduceAdd, Nat.reduceMul, Nat.reduceLT, Int.reduceToNat, Int.reduceAdd, Int.reduceSub, Int.reduceMul, rsU, rsC]
    refine Ok.step (size_ok W0 (n := to)) fun r hr => ?_
    obtain ⟨z, σ2⟩ := r
    unfold one
    rw [if_pos k0]
    simp only at hr ⊢
    split at hr
    · rename_i c
      rw [if_pos c]
      cases hr
      simp (config := { maxSteps := 2000000 }) -implicitDefEqProofs (disch := (first | omega | rfl | assumption | (simp only [rsD]; first | omega | assumption))) only [Nat.reduceAdd, Nat.reduceMul, Nat.reduceLT, Int.reduceToNat, Int.reduceAdd, Int.reduceSub, Int.reduceMul, rsU, rsC]
      exact Ok_some.2 ⟨rfl, W0, O0⟩
    · rename_i c
      rw [if_neg c]
      obtain ⟨g1, g2, g3⟩ := hr
      subst g1
      simp (config := { maxSteps := 2000000 }) -implicitDefEqProofs (disch := (first | omega | rfl | assumption | (simp only [rsD]; first | omega | assumption))) only [Nat.reduceAdd, Nat.reduceMul, Nat.reduceLT, Int.reduceToNat, Int.reduceAdd, Int.reduceSub, Int.reduceMul, rsU, rsC]
      exact Ok_some.2 ⟨rfl, g2, O0.trans g3⟩
  have d0 := s_eqF k0
  by_cases k4 : kind = 4
  · have d4 := s_eqT k4
    obtain ⟨l1, l2, a, b, c, A, B, C, h1, P⟩ := W0
    simp (config := { maxSteps := 2000000 }) -implicitDefEqProofs (disch := (first | omega | rfl | assumption | (simp only [rsD]; first | omega | assumption))) only [diff_one, diff_one_c, CV.cells, d0, d4, Nat.reduceAdd, Nat.reduceMul, Nat.reduceLT, Int.reduceToNat, Int.reduceAdd, Int.reduceSub, Int.reduceMul, rsU, rsC]
    refine Ok.step (clone_i hr fc.l) fun r ⟨a', g1, g2, g3⟩ => ?_
    obtain ⟨z, σ2⟩ := r
    simp only at g1 g2
    subst g1
    have h2 := (g2.e.blk fb (by simp; omega)).trans h1
    simp (config := { maxSteps := 2000000 }) -implicitDefEqProofs (disch := (first | omega | rfl | assumption | (simp only [rsD]; first | omega | assumption))) only [h2, Nat.reduceAdd, Nat.reduceMul, Nat.reduceLT, Int.reduceToNat, Int.reduceAdd, Int.reduceSub, Int.reduceMul, rsU, rsC]
    have n2 := g2.e.next
    simp only [rsD] at n2
    obtain ⟨E2, L, o2, hL⟩ := g2
    simp only [rsD] at hL
    have o2 := owl_one o2
    · have eo : one F ⟨kind, at_, slot, to, word, whole, list⟩ = (0, ⟨F.nodes, list, F.weak⟩) := by unfold one; rw [if_neg k0, if_pos k4]
      rw [eo]
      have no : ∀ x, base ≤ x → x ≠ fb := fun x h => by omega
      have lt1 := P.n.lt
      have lt3 := P.w.lt
      simp only [rsD] at lt1 lt3
      refine Ok_some.2 ⟨rfl, ⟨l1, by show base ≤ σ2.next; omega, a, a', c, A, L, C, s_bs, ⟨?_, ?_, ?_, ?_, ?_, P.lC⟩⟩, ⟨by show σ.next ≤ σ2.next; omega, fun x h1 h2 => ?_⟩⟩
      · exact (P.n.of E2.next fun x hx => E2.blk x (P.n.lt x hx)).of (Nat.le_refl _) fun x hx => s_bn (no x (P.lA x hx).1)
      · exact ow_put o2 fun hm => by have := hL _ hm; omega
      · exact ow_put (P.w.of E2.next fun x hx => E2.blk x (P.w.lt x hx)) fun hm => by have := P.lC _ hm; omega
      · exact fun x hx => ⟨(P.lA x hx).1, fun hm => by have := hL x hm; have := lt1 x hx; omega, (P.lA x hx).2.2⟩
      · exact fun x hx => ⟨by have := hL x hx; omega, fun hm => by have := hL x hx; have := lt3 x hm; omega⟩
      · rw [s_bn h2, E2.blk x (by simp; omega)]; exact O0.o x h1 h2
  have d4 := s_eqF k4
  by_cases k5 : kind = 5
  · have d5 := s_eqT k5
    obtain ⟨l1, l2, a, b, c, A, B, C, h1, P⟩ := W0
    simp (config := { maxSteps := 2000000 }) -implicitDefEqProofs (disch := (first | omega | rfl | assumption | (simp only [rsD]; first | omega | assumption))) only [diff_one, diff_one_c, CV.cells, d0, d4, d5, Nat.reduceAdd, Nat.reduceMul, Nat.reduceLT, Int.reduceToNat, Int.reduceAdd, Int.reduceSub, Int.reduceMul, rsU, rsC]
    refine Ok.step (clone_i hr fc.l) fun r ⟨a', g1, g2, g3⟩ => ?_
    obtain ⟨z, σ2⟩ := r
    simp only at g1 g2
    subst g1
    have h2 := (g2.e.blk fb (by simp; omega)).trans h1
    simp (config := { maxSteps := 2000000 }) -implicitDefEqProofs (disch := (first | omega | rfl | assumption | (simp only [rsD]; first | omega | assumption))) only [h2, Nat.reduceAdd, Nat.reduceMul, Nat.reduceLT, Int.reduceToNat, Int.reduceAdd, Int.reduceSub, Int.reduceMul, rsU, rsC]
    have n2 := g2.e.next
    simp only [rsD] at n2
    obtain ⟨E2, L, o2, hL⟩ := g2
    simp only [rsD] at hL
    have o2 := owl_one o2
    · have eo : one F ⟨kind, at_, slot, to, word, whole, list⟩ = (0, ⟨F.nodes, F.roots, list⟩) := by unfold one; rw [if_neg k0, if_neg k4, if_pos k5]
      rw [eo]
      have no : ∀ x, base ≤ x → x ≠ fb := fun x h => by omega
      have lt1 := P.n.lt
      have lt3 := P.r.lt
      simp only [rsD] at lt1 lt3
      refine Ok_some.2 ⟨rfl, ⟨l1, by show base ≤ σ2.next; omega, a, b, a', A, B, L, s_bs, ⟨?_, ?_, ?_, ?_, ?_, ?_⟩⟩, ⟨by show σ.next ≤ σ2.next; omega, fun x h1 h2 => ?_⟩⟩
      · exact (P.n.of E2.next fun x hx => E2.blk x (P.n.lt x hx)).of (Nat.le_refl _) fun x hx => s_bn (no x (P.lA x hx).1)
      · exact ow_put (P.r.of E2.next fun x hx => E2.blk x (P.r.lt x hx)) fun hm => by have := (P.lB _ hm).1; omega
      · exact ow_put o2 fun hm => by have := hL _ hm; omega
      · exact fun x hx => ⟨(P.lA x hx).1, (P.lA x hx).2.1, fun hm => by have := hL x hm; have := lt1 x hx; omega⟩
      · exact fun x hx => ⟨(P.lB x hx).1, fun hm => by have := hL x hm; have := lt3 x hx; omega⟩
      · exact fun x hx => by have := hL x hx; omega
      · rw [s_bn h2, E2.blk x (by simp; omega)]; exact O0.o x h1 h2
  exact one_deep W hF hp hq hr fc k0 k4 k5
end Go.Abs.Try
