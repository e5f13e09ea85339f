/-
  Layer 44: the script of a tree. No conditions.
-/
import Derived.Test.YteklninbijohcaaG4
set_option linter.unusedVariables false
set_option linter.unusedSimpArgs false
set_option linter.constructorNameAsVariable false
set_option linter.unusedSimpArgs false
set_option linter.unusedVariables false
set_option linter.unusedSectionVars false
set_option maxHeartbeats 1000000
namespace Go.Abs.Try
open Go Go.Abs
variable {O : Type}

def tree_ (site : Int) : Nat → Int → List (List Int)
  | 0, slot => [[9, -1 - slot]]
  | d + 1, slot => tree_ site d (slot + 1) ++ tree_ site d (slot + 2) ++ [[0, -1 - slot, 2, 1, site], [13, -1 - slot, 0, (d : Int) + 1], [11, -1 - slot, 0, -1 - slot - 1], [11, -1 - slot, 1, -1 - slot - 2]]
theorem tree_len (site : Int) : ∀ (d : Nat) (slot : Int), (tree_ site d slot).length + 4 = 5 * 2 ^ d
  | 0, slot => rfl
  | d + 1, slot => by
    have h1 := tree_len site d (slot + 1)
    have h2 := tree_len site d (slot + 2)
    simp only [tree_, List.length_append, List.length_cons, List.length_nil, Nat.pow_succ]
    omega
theorem pow_le7 {d : Nat} (h : d ≤ 7) : 2 ^ d ≤ 128 := Nat.pow_le_pow_right (n := 2) (by decide) h
theorem tree_small (site : Int) {d : Nat} (h : d ≤ 7) (slot : Int) : (tree_ site d slot).length ≤ 636 := by
  have := tree_len site d slot
  have := pow_le7 h
  omega
theorem slot_ok {σ : AH O} {n : Int} (h : 0 ≤ n ∧ n ≤ 100000) : roots_Slot [.i .i64 n] σ = some (.i .i64 (-1 - n), σ) := by
  simp (config := { maxSteps := 2000000 }) -implicitDefEqProofs (disch := (first | omega | rfl | assumption | (simp only [rsD]; first | omega | assumption))) only [roots_Slot, roots_Slot_c, Nat.reduceAdd, Nat.reduceMul, Nat.reduceLT, Int.reduceToNat, Int.reduceAdd, Int.reduceSub, Int.reduceMul, rsU, rsC]
theorem tree_step (F : Nat) (xs : List AV) (σ : AH O) : load_maker__tree (F + 1) xs σ = load_maker__tree_c roots_Slot load_maker__add (load_maker__tree F) xs σ := rfl
theorem rtree_step (F : Nat) (xs : List AV) (σ : AH O) : haymowref44_tree (F + 1) xs σ = haymowref44_tree_c (haymowref44_tree F) xs σ := rfl
theorem ltree_ok {mb base : Nat} {site : Int} : ∀ (d : Nat), d ≤ 7 → ∀ (F : Nat), d < F → ∀ (slot : Int), 0 ≤ slot ∧ slot ≤ 1000 + 2 * (7 - d) → ∀ (σ : AH O) (L : List (List Int)), Mk base σ mb L → L.length + 700 * 2 ^ d ≤ 200000 →
    Ok (load_maker__tree F [.p (some (.n mb, 0)), .i .i64 (d : Int), .i .i64 slot, .i .i64 site] σ) fun r => r.1 = .tup [] ∧ Made base σ mb (L ++ tree_ site d slot) r.2
  | 0, _, F + 1, _, slot, hs, σ, L, M, hl => by
    have s0 := slot_ok (σ := σ) (n := slot) (by omega)
    have z0 : (((0 : Nat) : Int) == 0) = true := rfl
    rw [tree_step]
    simp (config := { maxSteps := 2000000 }) -implicitDefEqProofs (disch := (first | omega | rfl | assumption | (simp only [rsD]; first | omega | assumption))) only [load_maker__tree_c, s0, z0, Nat.reduceAdd, Nat.reduceMul, Nat.reduceLT, Int.reduceToNat, Int.reduceAdd, Int.reduceSub, Int.reduceMul, rsU, rsC]
    refine Ok.step (add_new (args := [-1 - slot]) M (by omega) (by simp) rfl) fun r ⟨g1, g2⟩ => ?_
    obtain ⟨q, σ1⟩ := r
    simp only at g1 g2
    subst g1
    simp (config := { maxSteps := 2000000 }) -implicitDefEqProofs (disch := (first | omega | rfl | assumption | (simp only [rsD]; first | omega | assumption))) only [Nat.reduceAdd, Nat.reduceMul, Nat.reduceLT, Int.reduceToNat, Int.reduceAdd, Int.reduceSub, Int.reduceMul, rsU, rsC]
    exact Ok_some.2 ⟨rfl, g2⟩
  | d + 1, hd, F + 1, hF, slot, hs, σ, L, M, hl => by
    have s0 := slot_ok (σ := σ) (n := slot) (by omega)
    have z0 : ((((d + 1 : Nat) : Int)) == 0) = false := s_eqF (by omega)
    have v0 : (((d + 1 : Nat) : Int)) - 1 = (d : Int) := by omega
    have hp : 700 * 2 ^ (d + 1) = 700 * 2 ^ d + 700 * 2 ^ d := by rw [Nat.pow_succ]; omega
    have t1 := tree_small site (d := d) (by omega) (slot + 1)
    have t2 := tree_small site (d := d) (by omega) (slot + 2)
    have h1d : 1 ≤ 2 ^ d := Nat.one_le_two_pow
    rw [tree_step]
    simp (config := { maxSteps := 2000000 }) -implicitDefEqProofs (disch := (first | omega | rfl | assumption | (simp only [rsD]; first | omega | assumption))) only [load_maker__tree_c, s0, z0, v0, Nat.reduceAdd, Nat.reduceMul, Nat.reduceLT, Int.reduceToNat, Int.reduceAdd, Int.reduceSub, Int.reduceMul, rsU, rsC]
    refine Ok.step (ltree_ok d (by omega) F (by omega) (slot + 1) (by omega) σ L M (by omega)) fun r ⟨g1, g2⟩ => ?_
    obtain ⟨q, σ1⟩ := r
    simp only at g1 g2
    subst g1
    simp (config := { maxSteps := 2000000 }) -implicitDefEqProofs (disch := (first | omega | rfl | assumption | (simp only [rsD]; first | omega | assumption))) only [Nat.reduceAdd, Nat.reduceMul, Nat.reduceLT, Int.reduceToNat, Int.reduceAdd, Int.reduceSub, Int.reduceMul, rsU, rsC]
    refine Ok.step (ltree_ok d (by omega) F (by omega) (slot + 2) (by omega) σ1 _ g2.m (by rw [List.length_append]; omega)) fun r ⟨g1, g3⟩ => ?_
    obtain ⟨q, σ2⟩ := r
    simp only at g1 g3
    subst g1
    have eq : L ++ tree_ site (d + 1) slot = L ++ tree_ site d (slot + 1) ++ tree_ site d (slot + 2) ++ [[0, -1 - slot, 2, 1, site]] ++ [[13, -1 - slot, 0, (d : Int) + 1]] ++ [[11, -1 - slot, 0, -1 - slot - 1]] ++ [[11, -1 - slot, 1, -1 - slot - 2]] := by simp [tree_]
    have hL : (L ++ tree_ site d (slot + 1) ++ tree_ site d (slot + 2)).length ≤ 300000 := by rw [List.length_append, List.length_append]; omega
    have g23 := g2.trans g3
    rw [eq]
    clear eq g2
    generalize L ++ tree_ site d (slot + 1) ++ tree_ site d (slot + 2) = L2 at *
    simp (config := { maxSteps := 2000000 }) -implicitDefEqProofs (disch := (first | omega | rfl | assumption | (simp only [rsD]; first | omega | assumption))) only [Nat.reduceAdd, Nat.reduceMul, Nat.reduceLT, Int.reduceToNat, Int.reduceAdd, Int.reduceSub, Int.reduceMul, rsU, rsC]
    refine Ok.step (add_new (args := [-1 - slot, 2, 1, site]) g3.m (by omega) (by simp) rfl) fun r ⟨g1, g4⟩ => ?_
    obtain ⟨q, σ3⟩ := r
    simp only at g1 g4
    subst g1
    have v1 : ((d + 1 : Nat) : Int) = (d : Int) + 1 := by omega
    simp (config := { maxSteps := 2000000 }) -implicitDefEqProofs (disch := (first | omega | rfl | assumption | (simp only [rsD]; first | omega | assumption))) only [v1, Nat.reduceAdd, Nat.reduceMul, Nat.reduceLT, Int.reduceToNat, Int.reduceAdd, Int.reduceSub, Int.reduceMul, rsU, rsC]
    refine Ok.step (add_new (args := [-1 - slot, 0, (d : Int) + 1]) g4.m (by simp; omega) (by simp) rfl) fun r ⟨g1, g5⟩ => ?_
    obtain ⟨q, σ4⟩ := r
    simp only at g1 g5
    subst g1
    have s1 := slot_ok (σ := σ4.bump 1) (n := slot + 1) (by omega)
    have e1 : -1 - (slot + 1) = -1 - slot - 1 := by omega
    rw [e1] at s1
    simp (config := { maxSteps := 2000000 }) -implicitDefEqProofs (disch := (first | omega | rfl | assumption | (simp only [rsD]; first | omega | assumption))) only [s1, Nat.reduceAdd, Nat.reduceMul, Nat.reduceLT, Int.reduceToNat, Int.reduceAdd, Int.reduceSub, Int.reduceMul, rsU, rsC]
    refine Ok.step (add_new (args := [-1 - slot, 0, -1 - slot - 1]) g5.m (by simp; omega) (by simp) rfl) fun r ⟨g1, g6⟩ => ?_
    obtain ⟨q, σ5⟩ := r
    simp only at g1 g6
    subst g1
    have s2 := slot_ok (σ := σ5.bump 1) (n := slot + 2) (by omega)
    have e2 : -1 - (slot + 2) = -1 - slot - 2 := by omega
    rw [e2] at s2
    simp (config := { maxSteps := 2000000 }) -implicitDefEqProofs (disch := (first | omega | rfl | assumption | (simp only [rsD]; first | omega | assumption))) only [s2, Nat.reduceAdd, Nat.reduceMul, Nat.reduceLT, Int.reduceToNat, Int.reduceAdd, Int.reduceSub, Int.reduceMul, rsU, rsC]
    refine Ok.step (add_new (args := [-1 - slot, 1, -1 - slot - 2]) g6.m (by simp; omega) (by simp) rfl) fun r ⟨g1, g7⟩ => ?_
    obtain ⟨q, σ6⟩ := r
    simp only at g1 g7
    subst g1
    simp (config := { maxSteps := 2000000 }) -implicitDefEqProofs (disch := (first | omega | rfl | assumption | (simp only [rsD]; first | omega | assumption))) only [Nat.reduceAdd, Nat.reduceMul, Nat.reduceLT, Int.reduceToNat, Int.reduceAdd, Int.reduceSub, Int.reduceMul, rsU, rsC]
    exact Ok_some.2 ⟨rfl, g23.trans (g4.trans (g5.trans (g6.trans g7)))⟩
theorem rtree_ok {site : Int} : ∀ (d : Nat), d ≤ 7 → ∀ (F : Nat), d < F → ∀ (slot : Int), 0 ≤ slot ∧ slot ≤ 1000 + 2 * (7 - d) → ∀ (σ : AH O),
    Ok (haymowref44_tree F [.i .i64 (d : Int), .i .i64 slot, .i .i64 site] σ) fun r => ∃ a, r.1 = .sl a (tree_ site d slot).length ∧ BldO σ.next r.2 24 1 rrow a (tree_ site d slot) ∧ Ext σ r.2
  | 0, _, F + 1, _, slot, hs, σ => by
    have z0 : (((0 : Nat) : Int) == 0) = true := rfl
    rw [rtree_step]
    simp (config := { maxSteps := 2000000 }) -implicitDefEqProofs (disch := (first | omega | rfl | assumption | (simp only [rsD]; first | omega | assumption))) only [haymowref44_tree_c, z0, Nat.reduceAdd, Nat.reduceMul, Nat.reduceLT, Int.reduceToNat, Int.reduceAdd, Int.reduceSub, Int.reduceMul, rsU, rsC]
    refine Ok_some.2 ⟨_, rfl, (Lits.cons (r := [9, -1 - slot]) (b := σ.next) ?_ ?_ rfl .nil).bld (n := 0) (by simp) s_bs (by simp) (by simp) ⟨by omega, by simp⟩, (ext_of (by (try simp only [rsD] at *); omega) (fun b hb => by (try simp only [rsD] at *); simp -implicitDefEqProofs (disch := (first | omega | rfl | assumption | (simp only [rsD]; first | omega | assumption))) only [s_bn, s_kn, bump_blk]))⟩
    · ((try simp only [rsD] at *); simp -implicitDefEqProofs (disch := (first | omega | rfl | assumption | (simp only [rsD]; first | omega | assumption))) only [s_bs, s_bn, s_kn, bump_blk]); rfl
    · simp
  | d + 1, hd, F + 1, hF, slot, hs, σ => by
    have z0 : ((((d + 1 : Nat) : Int)) == 0) = false := s_eqF (by omega)
    have v0 : (((d + 1 : Nat) : Int)) - 1 = (d : Int) := by omega
    have v1 : ((d + 1 : Nat) : Int) = (d : Int) + 1 := by omega
    have t1 := tree_small site (d := d) (by omega) (slot + 1)
    have t2 := tree_small site (d := d) (by omega) (slot + 2)
    rw [rtree_step]
    simp (config := { maxSteps := 2000000 }) -implicitDefEqProofs (disch := (first | omega | rfl | assumption | (simp only [rsD]; first | omega | assumption))) only [haymowref44_tree_c, z0, v0, Nat.reduceAdd, Nat.reduceMul, Nat.reduceLT, Int.reduceToNat, Int.reduceAdd, Int.reduceSub, Int.reduceMul, rsU, rsC]
    refine Ok.step (rtree_ok d (by omega) F (by omega) (slot + 1) (by omega) (σ.bump 1)) fun r ⟨a1, g1, B1, E1⟩ => ?_
    obtain ⟨q, σ1⟩ := r
    simp only at g1 B1 E1
    subst g1
    simp (config := { maxSteps := 2000000 }) -implicitDefEqProofs (disch := (first | omega | rfl | assumption | (simp only [rsD]; first | omega | assumption))) only [Nat.reduceAdd, Nat.reduceMul, Nat.reduceLT, Int.reduceToNat, Int.reduceAdd, Int.reduceSub, Int.reduceMul, rsU, rsC]
    refine Ok.step (rtree_ok d (by omega) F (by omega) (slot + 2) (by omega) σ1) fun r ⟨a2, g1, B2, E2⟩ => ?_
    obtain ⟨q, σ2⟩ := r
    simp only at g1 B2 E2
    subst g1
    have n1 := E1.next
    have n2 := E2.next
    simp only [rsD] at n1
    obtain ⟨vs, K, w1, w2, w3⟩ := B2.all
    have eq : tree_ site (d + 1) slot = tree_ site d (slot + 1) ++ tree_ site d (slot + 2) ++ [[0, -1 - slot, 2, 1, site], [13, -1 - slot, 0, (d : Int) + 1], [11, -1 - slot, 0, -1 - slot - 1], [11, -1 - slot, 1, -1 - slot - 2]] := rfl
    rw [eq]
    clear eq
    generalize tree_ site d (slot + 1) = T1 at *
    generalize tree_ site d (slot + 2) = T2 at *
    simp (config := { maxSteps := 2000000 }) -implicitDefEqProofs (disch := (first | omega | rfl | assumption | (simp only [rsD]; first | omega | assumption))) only [w1, Nat.reduceAdd, Nat.reduceMul, Nat.reduceLT, Int.reduceToNat, Int.reduceAdd, Int.reduceSub, Int.reduceMul, rsU, rsC]
    refine Ok.step (B1.appR (base0 := σ.next) (m := T2) (by simp) (by omega) n1 n2 (fun b _ hb => E2.blk b hb) ⟨K, w2, fun b hb => by have := w3 b hb; omega⟩ (.inl (by simp)) (by omega)) fun r ⟨a3, h1, B3, h3, h4, h5⟩ => ?_
    obtain ⟨z, σ3⟩ := r
    simp only at h1 B3 h3 h4
    subst h1
    have hbk := B1.bk
    have E3 : Ext σ σ3 := ⟨by omega, fun b hb => by rw [h4 b (by omega) (fun hm => by have := hbk b hm; simp only [rsD] at this; omega), E2.blk b (by omega)]; ((have x0 := (E1).next); (try simp only [rsD] at *); simp -implicitDefEqProofs (disch := (first | omega | rfl | assumption | (simp only [rsD]; first | omega | assumption))) only [s_bs, s_bn, s_kn, bump_blk, s_ext (E1)])⟩
    have h3' := E3.next
    have hlT : (T1 ++ T2).length ≤ 2000 := by rw [List.length_append]; omega
    rw [← List.length_append]
    generalize T1 ++ T2 = T at *
    simp (config := { maxSteps := 2000000 }) -implicitDefEqProofs (disch := (first | omega | rfl | assumption | (simp only [rsD]; first | omega | assumption))) only [v1, Nat.reduceAdd, Nat.reduceMul, Nat.reduceLT, Int.reduceToNat, Int.reduceAdd, Int.reduceSub, Int.reduceMul, rsU, rsC]
    generalize hσ : AH.put _ (σ3.next + 1 + 1 + 1 + 1) _ = σ4
    have E4 : Ext σ3 σ4 := by rw [← hσ]; exact (ext_of (by (try simp only [rsD] at *); omega) (fun b hb => by (try simp only [rsD] at *); simp -implicitDefEqProofs (disch := (first | omega | rfl | assumption | (simp only [rsD]; first | omega | assumption))) only [s_bn, s_kn, bump_blk]))
    have n4 : σ4.next = σ3.next + 6 := by rw [← hσ]; rfl
    have hL : Lits σ4 [σ3.next, σ3.next + 1, σ3.next + 1 + 1, σ3.next + 1 + 1 + 1] [[0, -1 - slot, 2, 1, site], [13, -1 - slot, 0, (d : Int) + 1], [11, -1 - slot, 0, -1 - slot - 1], [11, -1 - slot, 1, -1 - slot - 2]] [.sl (.loc (.n σ3.next) 0 1) 5, .sl (.loc (.n (σ3.next + 1)) 0 1) 4, .sl (.loc (.n (σ3.next + 1 + 1)) 0 1) 4, .sl (.loc (.n (σ3.next + 1 + 1 + 1)) 0 1) 4] := by
      subst hσ
      refine .cons ?_ (by omega) rfl (.cons ?_ (by omega) rfl (.cons ?_ (by omega) rfl (.cons ?_ (by omega) rfl .nil)))
      all_goals (((try simp only [rsD] at *); simp -implicitDefEqProofs (disch := (first | omega | rfl | assumption | (simp only [rsD]; first | omega | assumption))) only [s_bs, s_bn, s_kn, bump_blk]); try rfl)
    have hk : σ4.blk (σ3.next + 1 + 1 + 1 + 1) = some (.cells true 24 [.sl (.loc (.n σ3.next) 0 1) 5, .sl (.loc (.n (σ3.next + 1)) 0 1) 4, .sl (.loc (.n (σ3.next + 1 + 1)) 0 1) 4, .sl (.loc (.n (σ3.next + 1 + 1 + 1)) 0 1) 4]) := by rw [← hσ]; exact s_bs
    clear hσ
    try simp (config := { maxSteps := 2000000 }) -implicitDefEqProofs (disch := (first | omega | rfl | assumption | (simp only [rsD]; first | omega | assumption))) only [hk, Nat.reduceAdd, Nat.reduceMul, Nat.reduceLT, Int.reduceToNat, Int.reduceAdd, Int.reduceSub, Int.reduceMul, rsU, rsC]
    refine Ok.step (B3.app' (m := [[0, -1 - slot, 2, 1, site], [13, -1 - slot, 0, (d : Int) + 1], [11, -1 - slot, 0, -1 - slot - 1], [11, -1 - slot, 1, -1 - slot - 2]]) h3' (by omega) (fun b _ hb => E4.blk b hb) ⟨_, hL.ow (by simp; omega), by simp; omega⟩ (by omega) (by omega)) fun r ⟨a5, h6, B5, h7, h8, h9⟩ => ?_
    obtain ⟨z, σ5⟩ := r
    simp only at h6 B5 h7 h8
    subst h6
    have hbk3 := B3.bk
    simp (config := { maxSteps := 2000000 }) -implicitDefEqProofs (disch := (first | omega | rfl | assumption | (simp only [rsD]; first | omega | assumption))) only [Nat.reduceAdd, Nat.reduceMul, Nat.reduceLT, Int.reduceToNat, Int.reduceAdd, Int.reduceSub, Int.reduceMul, rsU, rsC]
    exact Ok_some.2 ⟨a5, by simp, B5, ⟨by show σ.next ≤ σ5.next; omega, fun b hb => by show σ5.blk b = _; rw [h8 b (by omega) (fun hm => by have := hbk3 b hm; omega), E4.blk b (by omega), E3.blk b hb]⟩⟩
end Go.Abs.Try
