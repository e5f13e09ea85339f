/-
  Layer 44: the script of a churn, in the document's words. No conditions.
-/
import Derived.Test.YteklninbijohcaaG7
set_option linter.unusedVariables false
set_option linter.unusedSimpArgs false
set_option linter.constructorNameAsVariable false
set_option linter.unusedSimpArgs false
set_option linter.unusedVariables false
set_option linter.unusedSectionVars false
set_option maxHeartbeats 1000000
namespace Go.Abs.Try
open Go Go.Abs
variable {O : Type}

/-- a record more, written out -/
theorem snoc_lit {σ0 σ σ3 : AH O} {a : SA} {L : List (List Int)} {r : List Int} {n : Nat} (B : BldO σ0.next σ 24 1 rrow a L) (E0 : Ext σ0 σ) (E : Ext σ σ3) (hn : n = r.length) :
    Ok ((((σ3.bump 3).put σ3.next (.cells true 3 (r.map (AV.i .i64)))).put (σ3.next + 1) (.cells true 24 [.sl (.loc (.n σ3.next) 0 1) n])).appSl (σ3.next + 1 + 1) 24 1 a L.length 1 [.sl (.loc (.n σ3.next) 0 1) n]) fun q => ∃ a', q.1 = .sl a' (L.length + 1) ∧ BldO σ0.next q.2 24 1 rrow a' (L ++ [r]) ∧ Ext σ0 q.2 := by
  have h1 := E0.next
  have h2 := E.next
  have hbk := B.bk
  refine (B.app' (m := [r]) h1 (by simp; omega) (fun b _ hb => by ((have x0 := (E).next); (try simp only [rsD] at *); simp -implicitDefEqProofs (disch := (first | omega | rfl | assumption | (simp only [rsD]; first | omega | assumption))) only [s_bs, s_bn, s_kn, bump_blk, s_ext (E)])) ⟨[σ3.next], (Lits.cons (r := r) (by ((try simp only [rsD] at *); simp -implicitDefEqProofs (disch := (first | omega | rfl | assumption | (simp only [rsD]; first | omega | assumption))) only [s_bs, s_bn, s_kn, bump_blk])) (by simp) hn .nil).ow (by simp), by simp <;> omega⟩ (by omega) (by simp)).mono ?_
  rintro ⟨z, σ4⟩ ⟨a', g1, g2, g3, g4, g5⟩
  simp only at g1 g2 g3 g4
  refine ⟨a', g1, g2, ⟨by show σ0.next ≤ σ4.next; rw [g3]; simp; omega, fun b hb => ?_⟩⟩
  show σ4.blk b = _
  rw [g4 b (by omega) (fun hm => by have := hbk b hm; omega)]; ((have x0 := (E).next); (have x1 := (E0).next); (try simp only [rsD] at *); simp -implicitDefEqProofs (disch := (first | omega | rfl | assumption | (simp only [rsD]; first | omega | assumption))) only [s_bs, s_bn, s_kn, bump_blk, s_ext (E), s_ext (E0)])
theorem rchurn_step {σ0 σ : AH O} {a : SA} {L : List (List Int)} {h s : Int} {k n : Nat} (hh : 1 ≤ h ∧ h ≤ 200) (hs : 0 ≤ s ∧ s < 18446744073709551616) (hk : k < n) (hn : n ≤ 200) (hL : L.length ≤ 1000) (B : BldO σ0.next σ 24 1 rrow a L) (E0 : Ext σ0 σ) :
    Ok (haymowref44_Churn_L2 (n : Int) h haymowref44_numbers ([.i .u64 s, .sl a L.length, .i .i64 (k : Int)], σ)) fun r => ∃ a' σ', r = .inl ([.i .u64 (churn1 h s).2, .sl a' (L.length + 1), .i .i64 ((k + 1 : Nat) : Int)], σ') ∧ BldO σ0.next σ' 24 1 rrow a' (L ++ [(churn1 h s).1]) ∧ Ext σ0 σ' := by
  have rd3 : ∀ (σ : AH O) (x y z : Int), Rd ((σ.bump 1).put σ.next (.cells true 3 [.i .i64 x, .i .i64 y, .i .i64 z])) 1 (.loc (.n σ.next) 0 1) [x, y, z].length ([x, y, z].map (AV.i .i64)) := fun σ x y z => (OwnS.new (el := 3) rfl s_bs (by simp)).rd
  have rd1 : ∀ (σ : AH O) (x : Int), Rd ((σ.bump 1).put σ.next (.cells true 3 [.i .i64 x])) 1 (.loc (.n σ.next) 0 1) [x].length ([x].map (AV.i .i64)) := fun σ x => (OwnS.new (el := 3) rfl s_bs (by simp)).rd
  have r3 := nxt_rng (nxt (nxt s))
  simp (config := { maxSteps := 2000000 }) -implicitDefEqProofs (disch := (first | omega | rfl | assumption | (simp only [rsD]; first | omega | assumption))) only [haymowref44_Churn_L2, Nat.reduceAdd, Nat.reduceMul, Nat.reduceLT, Int.reduceToNat, Int.reduceAdd, Int.reduceSub, Int.reduceMul, rsU, rsC]
  refine Ok.step (rnums (bs := [h, h, 8]) (rd3 σ h h 8) (by simp [SA.bk]) (by simp) (by simp; omega) hs) fun r ⟨⟨o, g1, g2⟩, g3⟩ => ?_
  obtain ⟨z, σ1⟩ := r
  simp only at g1 g3
  subst g1
  obtain ⟨b1, o1, rfl, l0⟩ := g2.at (i := 0) (x := below (nxt s) h) rfl
  obtain ⟨b1', o1', e1, l1⟩ := g2.at (i := 1) (x := below (nxt (nxt s)) h) rfl
  cases e1
  obtain ⟨b1', o1', e1, l2⟩ := g2.at (i := 2) (x := below (nxt (nxt (nxt s))) 8) rfl
  cases e1
  simp only [Nat.add_zero] at l0
  have n2 : (nums s [h, h, 8]).2 = nxt (nxt (nxt s)) := rfl
  have E1 : Ext σ σ1 := (ext_of (by (have x0 := (g3).next); (try simp only [rsD] at *); omega) (fun b hb => by (have x0 := (g3).next); (try simp only [rsD] at *); simp -implicitDefEqProofs (disch := (first | omega | rfl | assumption | (simp only [rsD]; first | omega | assumption))) only [s_bn, s_kn, bump_blk, s_ext (g3)]))
  have hE1 := E1.next
  have hl3 : ([h, h, 8] : List Int).length = 3 := rfl
  unfold churn1
  generalize ht : below (nxt (nxt (nxt s))) 8 = t at *
  by_cases c1 : t = 0 ∨ t = 1 ∨ t = 2
  · rw [if_pos c1]
    have q : (bif t == 0 then (t == 0) else bif t == 1 then (t == 1) else (t == 2)) = true := by rcases c1 with rfl | rfl | rfl <;> rfl
    simp (config := { maxSteps := 2000000 }) -implicitDefEqProofs (disch := (first | omega | rfl | assumption | (simp only [rsD]; first | omega | assumption))) only [hl3, l2, n2, q, Nat.reduceAdd, Nat.reduceMul, Nat.reduceLT, Int.reduceToNat, Int.reduceAdd, Int.reduceSub, Int.reduceMul, rsU, rsC]
    refine Ok.step (rnums (bs := [4, 12, 4]) (rd3 σ1 4 12 4) (by simp [SA.bk]) (by decide) (by decide) r3) fun r ⟨⟨o2, g1, g4⟩, g5⟩ => ?_
    obtain ⟨z, σ2⟩ := r
    simp only at g1 g5
    subst g1
    obtain ⟨b2, o2, rfl, m0⟩ := g4.at (i := 0) (x := below (nxt (nxt (nxt (nxt s)))) 4) rfl
    obtain ⟨b2', o2', e2, m1⟩ := g4.at (i := 1) (x := below (nxt (nxt (nxt (nxt (nxt s))))) 12) rfl
    cases e2
    obtain ⟨b2', o2', e2, m2⟩ := g4.at (i := 2) (x := below (nxt (nxt (nxt (nxt (nxt (nxt s)))))) 4) rfl
    cases e2
    simp only [Nat.add_zero] at m0
    have n3 : (nums (nxt (nxt (nxt s))) [4, 12, 4]).2 = nxt (nxt (nxt (nxt (nxt (nxt s))))) := rfl
    have hl4 : ([4, 12, 4] : List Int).length = 3 := rfl
    have E2 : Ext σ σ2 := (ext_of (by (have x0 := (g5).next); (have x1 := (E1).next); (try simp only [rsD] at *); omega) (fun b hb => by (have x0 := (g5).next); (have x1 := (E1).next); (try simp only [rsD] at *); simp -implicitDefEqProofs (disch := (first | omega | rfl | assumption | (simp only [rsD]; first | omega | assumption))) only [s_bn, s_kn, bump_blk, s_ext (g5), s_ext (E1)]))
    simp (config := { maxSteps := 2000000 }) -implicitDefEqProofs (disch := (first | omega | rfl | assumption | (simp only [rsD]; first | omega | assumption))) only [hl4, l0, m0, m1, m2, n3, Nat.reduceAdd, Nat.reduceMul, Nat.reduceLT, Int.reduceToNat, Int.reduceAdd, Int.reduceSub, Int.reduceMul, rsU, rsC]
    refine Ok.step (snoc_lit (r := [0, below (nxt s) h, below (nxt (nxt (nxt (nxt s)))) 4, below (nxt (nxt (nxt (nxt (nxt s))))) 12, below (nxt (nxt (nxt (nxt (nxt (nxt s)))))) 4]) B E0 E2 rfl) fun r ⟨a', h1, h2, h3⟩ => ?_
    obtain ⟨z, σ3⟩ := r
    simp only at h1 h2 h3
    subst h1
    simp (config := { maxSteps := 2000000 }) -implicitDefEqProofs (disch := (first | omega | rfl | assumption | (simp only [rsD]; first | omega | assumption))) only [Nat.reduceAdd, Nat.reduceMul, Nat.reduceLT, Int.reduceToNat, Int.reduceAdd, Int.reduceSub, Int.reduceMul, rsU, rsC]
    exact Ok_some.2 ⟨a', σ3, by simp, h2, h3⟩
  · rw [if_neg c1]
    have q : (bif t == 0 then (t == 0) else bif t == 1 then (t == 1) else (t == 2)) = false := by
      rw [s_eqF (show t ≠ 0 by omega), s_eqF (show t ≠ 1 by omega), s_eqF (show t ≠ 2 by omega)]; rfl
    by_cases c2 : t = 3 ∨ t = 4
    · rw [if_pos c2]
      have q2 : (bif t == 3 then (t == 3) else (t == 4)) = true := by rcases c2 with rfl | rfl <;> rfl
      simp (config := { maxSteps := 2000000 }) -implicitDefEqProofs (disch := (first | omega | rfl | assumption | (simp only [rsD]; first | omega | assumption))) only [hl3, l2, n2, q, q2, Nat.reduceAdd, Nat.reduceMul, Nat.reduceLT, Int.reduceToNat, Int.reduceAdd, Int.reduceSub, Int.reduceMul, rsU, rsC]
      refine Ok.step (rnums (bs := [3]) (rd1 σ1 3) (by simp [SA.bk]) (by decide) (by decide) r3) fun r ⟨⟨o2, g1, g4⟩, g5⟩ => ?_
      obtain ⟨z, σ2⟩ := r
      simp only at g1 g5
      subst g1
      obtain ⟨b2, o2, rfl, m0⟩ := g4.at (i := 0) (x := below (nxt (nxt (nxt (nxt s)))) 3) rfl
      simp only [Nat.add_zero] at m0
      have n3 : (nums (nxt (nxt (nxt s))) [3]).2 = nxt (nxt (nxt (nxt s))) := rfl
      have hl4 : ([3] : List Int).length = 1 := rfl
      have E2 : Ext σ σ2 := (ext_of (by (have x0 := (g5).next); (have x1 := (E1).next); (try simp only [rsD] at *); omega) (fun b hb => by (have x0 := (g5).next); (have x1 := (E1).next); (try simp only [rsD] at *); simp -implicitDefEqProofs (disch := (first | omega | rfl | assumption | (simp only [rsD]; first | omega | assumption))) only [s_bn, s_kn, bump_blk, s_ext (g5), s_ext (E1)]))
      simp (config := { maxSteps := 2000000 }) -implicitDefEqProofs (disch := (first | omega | rfl | assumption | (simp only [rsD]; first | omega | assumption))) only [hl4, l0, l1, m0, n3, Nat.reduceAdd, Nat.reduceMul, Nat.reduceLT, Int.reduceToNat, Int.reduceAdd, Int.reduceSub, Int.reduceMul, rsU, rsC]
      refine Ok.step (snoc_lit (r := [11, below (nxt s) h, below (nxt (nxt (nxt (nxt s)))) 3, below (nxt (nxt s)) h]) B E0 E2 rfl) fun r ⟨a', h1, h2, h3⟩ => ?_
      obtain ⟨z, σ3⟩ := r
      simp only at h1 h2 h3
      subst h1
      simp (config := { maxSteps := 2000000 }) -implicitDefEqProofs (disch := (first | omega | rfl | assumption | (simp only [rsD]; first | omega | assumption))) only [Nat.reduceAdd, Nat.reduceMul, Nat.reduceLT, Int.reduceToNat, Int.reduceAdd, Int.reduceSub, Int.reduceMul, rsU, rsC]
      exact Ok_some.2 ⟨a', σ3, by simp, h2, h3⟩
    · rw [if_neg c2]
      have q2 : (bif t == 3 then (t == 3) else (t == 4)) = false := by
        rw [s_eqF (show t ≠ 3 by omega), s_eqF (show t ≠ 4 by omega)]; rfl
      by_cases c3 : t = 5
      · rw [if_pos c3]
        have q3 := s_eqT c3
        simp (config := { maxSteps := 2000000 }) -implicitDefEqProofs (disch := (first | omega | rfl | assumption | (simp only [rsD]; first | omega | assumption))) only [hl3, l2, n2, q, q2, q3, Nat.reduceAdd, Nat.reduceMul, Nat.reduceLT, Int.reduceToNat, Int.reduceAdd, Int.reduceSub, Int.reduceMul, rsU, rsC]
        refine Ok.step (rnums (bs := [3]) (rd1 σ1 3) (by simp [SA.bk]) (by decide) (by decide) r3) fun r ⟨⟨o2, g1, g4⟩, g5⟩ => ?_
        obtain ⟨z, σ2⟩ := r
        simp only at g1 g5
        subst g1
        obtain ⟨b2, o2, rfl, m0⟩ := g4.at (i := 0) (x := below (nxt (nxt (nxt (nxt s)))) 3) rfl
        simp only [Nat.add_zero] at m0
        have n3 : (nums (nxt (nxt (nxt s))) [3]).2 = nxt (nxt (nxt (nxt s))) := rfl
        have hl4 : ([3] : List Int).length = 1 := rfl
        have E2 : Ext σ σ2 := (ext_of (by (have x0 := (g5).next); (have x1 := (E1).next); (try simp only [rsD] at *); omega) (fun b hb => by (have x0 := (g5).next); (have x1 := (E1).next); (try simp only [rsD] at *); simp -implicitDefEqProofs (disch := (first | omega | rfl | assumption | (simp only [rsD]; first | omega | assumption))) only [s_bn, s_kn, bump_blk, s_ext (g5), s_ext (E1)]))
        simp (config := { maxSteps := 2000000 }) -implicitDefEqProofs (disch := (first | omega | rfl | assumption | (simp only [rsD]; first | omega | assumption))) only [hl4, l0, l1, m0, n3, Nat.reduceAdd, Nat.reduceMul, Nat.reduceLT, Int.reduceToNat, Int.reduceAdd, Int.reduceSub, Int.reduceMul, rsU, rsC]
        refine Ok.step (snoc_lit (r := [10, below (nxt s) h, below (nxt (nxt s)) h, below (nxt (nxt (nxt (nxt s)))) 3]) B E0 E2 rfl) fun r ⟨a', h1, h2, h3⟩ => ?_
        obtain ⟨z, σ3⟩ := r
        simp only at h1 h2 h3
        subst h1
        simp (config := { maxSteps := 2000000 }) -implicitDefEqProofs (disch := (first | omega | rfl | assumption | (simp only [rsD]; first | omega | assumption))) only [Nat.reduceAdd, Nat.reduceMul, Nat.reduceLT, Int.reduceToNat, Int.reduceAdd, Int.reduceSub, Int.reduceMul, rsU, rsC]
        exact Ok_some.2 ⟨a', σ3, by simp, h2, h3⟩
      · rw [if_neg c3]
        have q3 := s_eqF c3
        by_cases c4 : t = 6
        · rw [if_pos c4]
          have q4 := s_eqT c4
          simp (config := { maxSteps := 2000000 }) -implicitDefEqProofs (disch := (first | omega | rfl | assumption | (simp only [rsD]; first | omega | assumption))) only [hl3, l0, l1, l2, n2, q, q2, q3, q4, Nat.reduceAdd, Nat.reduceMul, Nat.reduceLT, Int.reduceToNat, Int.reduceAdd, Int.reduceSub, Int.reduceMul, rsU, rsC]
          refine Ok.step (snoc_lit (r := [8, below (nxt s) h, below (nxt (nxt s)) h]) B E0 E1 rfl) fun r ⟨a', h1, h2, h3⟩ => ?_
          obtain ⟨z, σ3⟩ := r
          simp only at h1 h2 h3
          subst h1
          simp (config := { maxSteps := 2000000 }) -implicitDefEqProofs (disch := (first | omega | rfl | assumption | (simp only [rsD]; first | omega | assumption))) only [Nat.reduceAdd, Nat.reduceMul, Nat.reduceLT, Int.reduceToNat, Int.reduceAdd, Int.reduceSub, Int.reduceMul, rsU, rsC]
          exact Ok_some.2 ⟨a', σ3, by simp, h2, h3⟩
        · rw [if_neg c4]
          have q4 := s_eqF c4
          simp (config := { maxSteps := 2000000 }) -implicitDefEqProofs (disch := (first | omega | rfl | assumption | (simp only [rsD]; first | omega | assumption))) only [hl3, l0, l1, l2, n2, q, q2, q3, q4, Nat.reduceAdd, Nat.reduceMul, Nat.reduceLT, Int.reduceToNat, Int.reduceAdd, Int.reduceSub, Int.reduceMul, rsU, rsC]
          refine Ok.step (snoc_lit (r := [9, below (nxt s) h]) B E0 E1 rfl) fun r ⟨a', h1, h2, h3⟩ => ?_
          obtain ⟨z, σ3⟩ := r
          simp only at h1 h2 h3
          subst h1
          simp (config := { maxSteps := 2000000 }) -implicitDefEqProofs (disch := (first | omega | rfl | assumption | (simp only [rsD]; first | omega | assumption))) only [Nat.reduceAdd, Nat.reduceMul, Nat.reduceLT, Int.reduceToNat, Int.reduceAdd, Int.reduceSub, Int.reduceMul, rsU, rsC]
          exact Ok_some.2 ⟨a', σ3, by simp, h2, h3⟩
theorem rep_snoc (m : Nat) : (List.replicate (m + 1) [1] : List (List Int)) = List.replicate m [1] ++ [[1]] := by rw [List.replicate_succ']
theorem rchurn_ok {σ : AH O} {s h n : Int} (hs : 0 ≤ s ∧ s < 18446744073709551616) : Ok (haymowref44_Churn [.i .u64 s, .i .i64 h, .i .i64 n] σ) fun r => Script r.1 (churn_ s h n) ∧ Ext σ r.2 := by
  have fin : Ok (haymowref44_Churn [.i .u64 s, .i .i64 h, .i .i64 n] σ) fun r => Im (.sl 24 1 (churn_ s h n).length ((churn_ s h n).flatMap rrow)) r.1 ∧ Ext σ r.2 := by
    refine frz_sl (recs_deep _ _ _ 5 _) ?_
    by_cases c : h < 1 ∨ h > 200 ∨ n < 0 ∨ n > 200
    · have e : churn_ s h n = [] := if_pos c
      rw [e]
      have cc := churn_out c
      simp (config := { maxSteps := 2000000 }) -implicitDefEqProofs (disch := (first | omega | rfl | assumption | (simp only [rsD]; first | omega | assumption))) only [haymowref44_Churn_c, cc, Nat.reduceAdd, Nat.reduceMul, Nat.reduceLT, Int.reduceToNat, Int.reduceAdd, Int.reduceSub, Int.reduceMul, rsU, rsC]
      exact Ok_some.2 ((BldO.nil σ.next σ 24 rrow_len).out (Ext.refl σ) (Nat.le_refl _))
    · obtain ⟨m, rfl⟩ : ∃ m : Nat, h = m := ⟨h.toNat, by omega⟩
      obtain ⟨k, rfl⟩ : ∃ k : Nat, n = k := ⟨n.toNat, by omega⟩
      have e : churn_ s m k = List.replicate m [1] ++ (churnL m s k).1 := by unfold churn_; rw [if_neg c, Int.toNat_natCast, Int.toNat_natCast]
      have c1 := decide_eq_false (show ¬ ((m : Int) < 1) by omega)
      have c2 := decide_eq_false (show ¬ ((m : Int) > 200) by omega)
      have c3 := decide_eq_false (show ¬ ((k : Int) < 0) by omega)
      have c4 := decide_eq_false (show ¬ ((k : Int) > 200) by omega)
      simp (config := { maxSteps := 2000000 }) -implicitDefEqProofs (disch := (first | omega | rfl | assumption | (simp only [rsD]; first | omega | assumption))) only [haymowref44_Churn_c, c1, c2, c3, c4, Nat.reduceAdd, Nat.reduceMul, Nat.reduceLT, Int.reduceToNat, Int.reduceAdd, Int.reduceSub, Int.reduceMul, rsU, rsC]
      have lp : Ok (loopF (S := List AV × AH O) (T := List AV × AH O) (haymowref44_Churn_L1 (m : Int)) ([.sl .nil 0, .i .i64 0], σ)) fun r => ∃ a σ', r = ([.sl a m], σ') ∧ BldO σ.next σ' 24 1 rrow a (List.replicate m [1]) ∧ Ext σ σ' := by
        refine Ok.count m (fun j st => ∃ a σ', st = ([.sl a j, .i .i64 (j : Int)], σ') ∧ BldO σ.next σ' 24 1 rrow a (List.replicate j [1]) ∧ Ext σ σ') ?_ ?_ ⟨.nil, σ, rfl, BldO.nil _ _ _ rrow_len, Ext.refl σ⟩
        · rintro j st hj ⟨a, σ1, rfl, B, E⟩
          have app := snoc_lit (r := [1]) B E (Ext.refl σ1) rfl
          rw [List.length_replicate] at app
          rw [rep_snoc]
          simp (config := { maxSteps := 2000000 }) -implicitDefEqProofs (disch := (first | omega | rfl | assumption | (simp only [rsD]; first | omega | assumption))) only [haymowref44_Churn_L1, Nat.reduceAdd, Nat.reduceMul, Nat.reduceLT, Int.reduceToNat, Int.reduceAdd, Int.reduceSub, Int.reduceMul, rsU, rsC]
          refine Ok.step app fun r ⟨a', h1, h2, h3⟩ => ?_
          obtain ⟨z, σ3⟩ := r
          simp only at h1 h2 h3
          subst h1
          simp (config := { maxSteps := 2000000 }) -implicitDefEqProofs (disch := (first | omega | rfl | assumption | (simp only [rsD]; first | omega | assumption))) only [Nat.reduceAdd, Nat.reduceMul, Nat.reduceLT, Int.reduceToNat, Int.reduceAdd, Int.reduceSub, Int.reduceMul, rsU, rsC]
          exact Ok_some.2 ⟨a', σ3, by simp, h2, h3⟩
        · rintro st ⟨a, σ1, rfl, B, E⟩
          simp (config := { maxSteps := 2000000 }) -implicitDefEqProofs (disch := (first | omega | rfl | assumption | (simp only [rsD]; first | omega | assumption))) only [haymowref44_Churn_L1, Nat.reduceAdd, Nat.reduceMul, Nat.reduceLT, Int.reduceToNat, Int.reduceAdd, Int.reduceSub, Int.reduceMul, rsU, rsC]
          exact Ok_some.2 ⟨a, σ1, rfl, B, E⟩
      refine Ok.step lp ?_
      rintro _ ⟨a, σ1, rfl, B, E⟩
      simp (config := { maxSteps := 2000000 }) -implicitDefEqProofs (disch := (first | omega | rfl | assumption | (simp only [rsD]; first | omega | assumption))) only [Nat.reduceAdd, Nat.reduceMul, Nat.reduceLT, Int.reduceToNat, Int.reduceAdd, Int.reduceSub, Int.reduceMul, rsU, rsC]
      have lp2 : Ok (loopF (S := List AV × AH O) (T := List AV × AH O) (haymowref44_Churn_L2 (k : Int) (m : Int) haymowref44_numbers) ([.i .u64 s, .sl a m, .i .i64 0], σ1)) fun r => ∃ a' σ', r = ([.sl a' (List.replicate m [1] ++ (churnL m s k).1).length], σ') ∧ BldO σ.next σ' 24 1 rrow a' (List.replicate m [1] ++ (churnL m s k).1) ∧ Ext σ σ' := by
        refine Ok.count k (fun j st => ∃ a' σ', st = ([.i .u64 (churnL m s j).2, .sl a' (List.replicate m [1] ++ (churnL m s j).1).length, .i .i64 (j : Int)], σ') ∧ BldO σ.next σ' 24 1 rrow a' (List.replicate m [1] ++ (churnL m s j).1) ∧ Ext σ σ') ?_ ?_ ⟨a, σ1, by simp [churnL], by simpa [churnL] using B, E⟩
        · rintro j st hj ⟨a1, σ2, rfl, B, E⟩
          have hl : (List.replicate m [1] ++ (churnL m s j).1).length ≤ 1000 := by rw [List.length_append, List.length_replicate, churnL_len]; omega
          refine (rchurn_step (by omega) (churnL_rng hs j) hj (by omega) hl B E).mono ?_
          rintro _ ⟨a', σ3, rfl, h2, h3⟩
          refine ⟨a', σ3, by simp [churnL, Nat.add_assoc], ?_, h3⟩
          simpa [churnL] using h2
        · rintro st ⟨a1, σ2, rfl, B, E⟩
          simp (config := { maxSteps := 2000000 }) -implicitDefEqProofs (disch := (first | omega | rfl | assumption | (simp only [rsD]; first | omega | assumption))) only [haymowref44_Churn_L2, Nat.reduceAdd, Nat.reduceMul, Nat.reduceLT, Int.reduceToNat, Int.reduceAdd, Int.reduceSub, Int.reduceMul, rsU, rsC]
          exact Ok_some.2 ⟨a1, σ2, by simp, B, E⟩
      refine Ok.step lp2 ?_
      rintro _ ⟨a', σ2, rfl, B, E⟩
      rw [← e] at B ⊢
      simp (config := { maxSteps := 2000000 }) -implicitDefEqProofs (disch := (first | omega | rfl | assumption | (simp only [rsD]; first | omega | assumption))) only [Nat.reduceAdd, Nat.reduceMul, Nat.reduceLT, Int.reduceToNat, Int.reduceAdd, Int.reduceSub, Int.reduceMul, rsU, rsC]
      exact Ok_some.2 (B.out E (Nat.le_refl _))
  refine fin.mono ?_
  rintro ⟨v, σ'⟩ ⟨h1, h2⟩
  obtain ⟨a, g1, g2⟩ := Row.of rrow_len h1 rfl
  exact ⟨⟨a, g1, g2⟩, h2⟩
end Go.Abs.Try
