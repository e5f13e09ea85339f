/-
  PoolLinks: entries that are taken are linked by two of their words, in order. No conditions.
-/
import Derived.Test.YtkbkdbjneeineaaM10w
import Derived.Test.YtkbkdbjneeineaaM10h
set_option linter.unusedVariables false
set_option linter.unusedSimpArgs false
set_option linter.constructorNameAsVariable false
set_option linter.unusedSimpArgs false
set_option linter.unusedVariables false
set_option linter.unusedSectionVars false
set_option maxHeartbeats 2000000
namespace Go.Abs.Try
open Go Go.Abs
variable {O : Type}

theorem pspace_ok {σ : AH O} {pb mb : Nat} {M : MemS} {S : PoolS} {w : List Int} {X : List Nat} (h : PoolAt σ pb mb M S w X) : pool_Pool__Space [.p (some (.n pb, 0))] σ = some (.i .i64 S.id, σ) := by
  have hb := h.b
  simp only [PoolS.cells] at hb
  simp (config := { maxSteps := 2000000 }) -implicitDefEqProofs (disch := (first | omega | rfl | assumption | (simp only [rsD]; first | omega | assumption))) only [pool_Pool__Space, pool_Pool__Space_c, hb, Nat.reduceAdd, Nat.reduceMul, Nat.reduceLT, Int.reduceToNat, Int.reduceAdd, Int.reduceSub, Int.reduceMul, rsU, rsC]
theorem made10x {σ : AH O} {X : List Nat} (hX : ∀ b ∈ X, b < σ.next) {n : Nat} (hn : 1 ≤ n ∧ n ≤ 60) : Ok (law10_made [.i .i64 (n : Int)] σ) fun r => ∃ mb pb M id, r.1 = .tup [.p (some (.n mb, 0)), .p (some (.n pb, 0)), .b true] ∧ PoolAt r.2 pb mb M ⟨id, n, 0, [], [], 0⟩ [] X ∧ M.met.r = 0 ∧ M.met.w = 0 ∧ M.sp = [(true, [])] ∧ id = 0 ∧ Keep X σ r.2 := by
  simp (config := { maxSteps := 2000000 }) -implicitDefEqProofs (disch := (first | omega | rfl | assumption | (simp only [rsD]; first | omega | assumption))) only [law10_made, law10_made_c, Nat.reduceAdd, Nat.reduceMul, Nat.reduceLT, Int.reduceToNat, Int.reduceAdd, Int.reduceSub, Int.reduceMul, rsU, rsC]
  refine Ok.step (newX (X := X) hX) fun r ⟨g1, g2, g3⟩ => ?_
  obtain ⟨q, σ1⟩ := r
  simp only at g1 g2 g3
  subst g1
  simp (config := { maxSteps := 2000000 }) -implicitDefEqProofs (disch := (first | omega | rfl | assumption | (simp only [rsD]; first | omega | assumption))) only [Option.isNone_some, Nat.reduceAdd, Nat.reduceMul, Nat.reduceLT, Int.reduceToNat, Int.reduceAdd, Int.reduceSub, Int.reduceMul, rsU, rsC]
  refine Ok.step (pnew_ok g2 ⟨by decide, by decide⟩ (by decide) hn) fun r ⟨pb, k1, k2, _, k3⟩ => ?_
  obtain ⟨q, σ2⟩ := r
  simp only at k1 k2 k3
  subst k1
  simp (config := { maxSteps := 2000000 }) -implicitDefEqProofs (disch := (first | omega | rfl | assumption | (simp only [rsD]; first | omega | assumption))) only [Option.isNone_some, beq_self_eq_true, Nat.reduceAdd, Nat.reduceMul, Nat.reduceLT, Int.reduceToNat, Int.reduceAdd, Int.reduceSub, Int.reduceMul, rsU, rsC]
  exact Ok_some.2 ⟨_, pb, _, _, rfl, k2, rfl, rfl, rfl, rfl, Keep.trans ⟨g3.next, fun b hb => g3.blk b (hX b hb)⟩ k3⟩
theorem awake10x {σ : AH O} {X : List Nat} (hX : ∀ b ∈ X, b < σ.next) : Ok (law10_awake [] σ) fun r => r.1 = .b true ∧ Keep X σ r.2 := by
  simp (config := { maxSteps := 2000000 }) -implicitDefEqProofs (disch := (first | omega | rfl | assumption | (simp only [rsD]; first | omega | assumption))) only [law10_awake, law10_awake_c, Nat.reduceAdd, Nat.reduceMul, Nat.reduceLT, Int.reduceToNat, Int.reduceAdd, Int.reduceSub, Int.reduceMul, rsU, rsC]
  refine Ok.step (made10x hX (n := 2) ⟨by decide, by decide⟩) fun r ⟨mb, pb, M, id, g1, g2, g3, g4, g5, g6, g7⟩ => ?_
  obtain ⟨q, σ1⟩ := r
  simp only at g1 g2 g7
  subst g1
  subst g6
  simp (config := { maxSteps := 2000000 }) -implicitDefEqProofs (disch := (first | omega | rfl | assumption | (simp only [rsD]; first | omega | assumption))) only [Nat.reduceAdd, Nat.reduceMul, Nat.reduceLT, Int.reduceToNat, Int.reduceAdd, Int.reduceSub, Int.reduceMul, rsU, rsC]
  refine Ok.step (ptake_new g2 ⟨by omega, by omega⟩ rfl (by decide) (by decide) (by omega)) fun r ⟨k1, M2, w2, k2, k3, k4⟩ => ?_
  obtain ⟨q, σ2⟩ := r
  simp only at k1 k2 k4
  subst k1
  have r2 := k3.r
  have t2 := k3.w
  simp (config := { maxSteps := 2000000 }) -implicitDefEqProofs (disch := (first | omega | rfl | assumption | (simp only [rsD]; first | omega | assumption))) only [Nat.reduceAdd, Nat.reduceMul, Nat.reduceLT, Int.reduceToNat, Int.reduceAdd, Int.reduceSub, Int.reduceMul, rsU, rsC]
  refine Ok.step (ptake_new k2 ⟨by omega, by omega⟩ rfl (by decide) (by decide) (by omega)) fun r ⟨l1, M3, w3, l2, l3, l4⟩ => ?_
  obtain ⟨q, σ3⟩ := r
  simp only at l1 l2 l4
  subst l1
  have r3 := l3.r
  have t3 := l3.w
  have c0 : ((0 : Nat) : Int) + 1 = 1 := rfl
  have c1 : ((1 : Nat) : Int) + 1 = 2 := rfl
  simp (config := { maxSteps := 2000000 }) -implicitDefEqProofs (disch := (first | omega | rfl | assumption | (simp only [rsD]; first | omega | assumption))) only [Nat.reduceAdd, Nat.reduceMul, Nat.reduceLT, Int.reduceToNat, Int.reduceAdd, Int.reduceSub, Int.reduceMul, rsU, rsC]
  have g := pgive_ok l2 ⟨by omega, by omega⟩ (i := 0) (e := PE.fresh 2) rfl rfl (by decide) ⟨by omega, by omega⟩
  rw [c0] at g
  refine Ok.step g fun r ⟨m1, M4, w4, m2, m3, m4⟩ => ?_
  obtain ⟨q, σ4⟩ := r
  simp only at m1 m2 m4
  subst m1
  have r4 := m3.r
  have t4 := m3.w
  simp (config := { maxSteps := 2000000 }) -implicitDefEqProofs (disch := (first | omega | rfl | assumption | (simp only [rsD]; first | omega | assumption))) only [Nat.reduceAdd, Nat.reduceMul, Nat.reduceLT, Int.reduceToNat, Int.reduceAdd, Int.reduceSub, Int.reduceMul, rsU, rsC]
  have g := pgive_ok m2 ⟨by omega, by omega⟩ (i := 1) (e := PE.fresh 2) rfl rfl (by decide) ⟨by omega, by omega⟩
  rw [c1] at g
  refine Ok.step g fun r ⟨n1, M5, w5, n2, n3, n4⟩ => ?_
  obtain ⟨q, σ5⟩ := r
  simp only at n1 n2 n4
  subst n1
  have r5 := n3.r
  have t5 := n3.w
  simp (config := { maxSteps := 2000000 }) -implicitDefEqProofs (disch := (first | omega | rfl | assumption | (simp only [rsD]; first | omega | assumption))) only [Nat.reduceAdd, Nat.reduceMul, Nat.reduceLT, Int.reduceToNat, Int.reduceAdd, Int.reduceSub, Int.reduceMul, rsU, rsC]
  obtain ⟨e6, a1, a2, a3⟩ := ptake_old n2 ⟨by omega, by omega⟩ (i := 1) (r := [1]) rfl ⟨by omega, by omega⟩
  cases a1
  refine Ok.step a3 fun r ⟨o1, M6, w6, o2, o3, o4⟩ => ?_
  obtain ⟨q, σ6⟩ := r
  simp only at o1 o2 o4
  rw [c1] at o1
  subst o1
  have r6 := o3.r
  have t6 : M6.met.w = M5.met.w + (1 + 2) := o3.w
  have b1 : ((1 : Int) == 1) = true := rfl
  have b2 : ((2 : Int) == 2) = true := rfl
  have b3 : ((0 : Int) == 0) = true := rfl
  have b4 : ((((([] : List PE).length : Nat) : Int) + 1) == 1) = true := rfl
  have b5 : (((((([] : List PE) ++ [PE.fresh 2]).length : Nat) : Int) + 1) == 2) = true := rfl
  simp -implicitDefEqProofs only [b1, b2, b3, b4, b5, Nat.reduceAdd, Nat.reduceMul, Nat.reduceLT, Int.reduceToNat, Int.reduceAdd, Int.reduceSub, Int.reduceMul, rsU, s_bleD, Nat.reduceLeDiff, decide_true, decide_false]
  have g := pgen_ok o2 ⟨by omega, by omega⟩ (i := 1) (e := ⟨true, 1, [0, 0]⟩) rfl
  rw [c1] at g
  refine Ok.step g fun r ⟨p1, M7, p2, p3, p4⟩ => ?_
  obtain ⟨q, σ7⟩ := r
  simp only at p1 p2 p4
  subst p1
  have r7 := p3.r
  have t7 := p3.w
  simp -implicitDefEqProofs only [show (((1 : Nat) : Int) == 1) = true from rfl, Nat.reduceAdd, Nat.reduceMul, Nat.reduceLT, Int.reduceToNat, Int.reduceAdd, Int.reduceSub, Int.reduceMul, rsU, s_bleD, Nat.reduceLeDiff, decide_true, decide_false]
  have g := ptaken_ok p2 ⟨by omega, by omega⟩ (i := 1) (e := ⟨true, 1, [0, 0]⟩) rfl
  rw [c1] at g
  refine Ok.step g fun r ⟨q1, M8, q2, q3, q4⟩ => ?_
  obtain ⟨q, σ8⟩ := r
  simp only at q1 q2 q4
  subst q1
  have r8 := q3.r
  have t8 := q3.w
  simp (config := { maxSteps := 2000000 }) -implicitDefEqProofs (disch := (first | omega | rfl | assumption | (simp only [rsD]; first | omega | assumption))) only [Nat.reduceAdd, Nat.reduceMul, Nat.reduceLT, Int.reduceToNat, Int.reduceAdd, Int.reduceSub, Int.reduceMul, rsU, rsC]
  have g := ptaken_ok q2 ⟨by omega, by omega⟩ (i := 0) (e := ⟨false, 1, [0, 0]⟩) rfl
  rw [c0] at g
  refine Ok.step g fun r ⟨s1, M9, s2, s3, s4⟩ => ?_
  obtain ⟨q, σ9⟩ := r
  simp only at s1 s2 s4
  subst s1
  simp (config := { maxSteps := 2000000 }) -implicitDefEqProofs (disch := (first | omega | rfl | assumption | (simp only [rsD]; first | omega | assumption))) only [Nat.reduceAdd, Nat.reduceMul, Nat.reduceLT, Int.reduceToNat, Int.reduceAdd, Int.reduceSub, Int.reduceMul, rsU, rsC]
  exact Ok_some.2 ⟨rfl, (((((((g7.trans k4).trans l4).trans m4).trans n4).trans o4).trans p4).trans q4).trans s4⟩
end Go.Abs.Try
