/-
  The statement DiffBack: what is unlike in two forms makes the one of the other. No conditions.
-/
import Derived.Test.YteklninbijohcaaF16
set_option linter.unusedVariables false
set_option linter.unusedSimpArgs false
set_option linter.constructorNameAsVariable false
set_option linter.unusedSimpArgs false
set_option linter.unusedVariables false
set_option linter.unusedSectionVars false
set_option maxHeartbeats 4000000
set_option maxRecDepth 100000
namespace Go.Abs.Try
open Go Go.Abs
variable {O : Type}

theorem diffBack_ok {σ : AH O} {F G : FV} {v w : AV} (hF : F.At v) (hG : G.At w) : Ok (law47_DiffBack [v, w] σ) fun r => r.1 = .b true := by
  obtain ⟨a1, b1, c1, rfl, i1, i2, i3⟩ := hF.it
  obtain ⟨a2, b2, c2, rfl, j1, j2, j3⟩ := hG.it
  have zz : ((([] : List CV).length : Nat) : Int) = 0 := rfl
  simp (config := { maxSteps := 2000000 }) -implicitDefEqProofs (disch := (first | omega | rfl | assumption | (simp only [rsD]; first | omega | assumption))) only [law47_DiffBack, law47_DiffBack_c, Nat.reduceAdd, Nat.reduceMul, Nat.reduceLT, Int.reduceToNat, Int.reduceAdd, Int.reduceSub, Int.reduceMul, rsU, rsC]
  refine Ok.step awake_ok fun r ⟨g, E1⟩ => ?_
  obtain ⟨z, σ1⟩ := r
  simp only at g E1
  subst g
  have n1 := E1.next
  simp only [rsD] at n1
  have x0 : σ1.blk σ.next = some (.cells true T_canon_Form [.sl a1 F.nodes.length, .sl b1 F.roots.length, .sl c1 F.weak.length]) := by ((have x0 := (E1).next); (try simp only [rsD] at *); simp -implicitDefEqProofs (disch := (first | omega | rfl | assumption | (simp only [rsD]; first | omega | assumption))) only [s_bs, s_bn, s_kn, bump_blk, s_ext (E1)])
  have x1 : σ1.blk (σ.next + 1) = some (.cells true T_canon_Form [.sl a2 G.nodes.length, .sl b2 G.roots.length, .sl c2 G.weak.length]) := by ((have x0 := (E1).next); (try simp only [rsD] at *); simp -implicitDefEqProofs (disch := (first | omega | rfl | assumption | (simp only [rsD]; first | omega | assumption))) only [s_bs, s_bn, s_kn, bump_blk, s_ext (E1)])
  simp (config := { maxSteps := 2000000 }) -implicitDefEqProofs (disch := (first | omega | rfl | assumption | (simp only [rsD]; first | omega | assumption))) only [x0, x1, Nat.reduceAdd, Nat.reduceMul, Nat.reduceLT, Int.reduceToNat, Int.reduceAdd, Int.reduceSub, Int.reduceMul, rsU, rsC]
  refine Ok.step (few_ok hF) fun r ⟨t, g, ht, E2⟩ => ?_
  obtain ⟨z, σ2⟩ := r
  simp only at g E2
  subst g
  have n2 := E2.next
  cases t with
  | false => simp (config := { maxSteps := 2000000 }) -implicitDefEqProofs (disch := (first | omega | rfl | assumption | (simp only [rsD]; first | omega | assumption))) only [Nat.reduceAdd, Nat.reduceMul, Nat.reduceLT, Int.reduceToNat, Int.reduceAdd, Int.reduceSub, Int.reduceMul, rsU, rsC]; exact Ok_some.2 rfl
  | true =>
  have y0 := (E2.blk σ.next (by omega)).trans x0
  have y1 := (E2.blk (σ.next + 1) (by omega)).trans x1
  simp (config := { maxSteps := 2000000 }) -implicitDefEqProofs (disch := (first | omega | rfl | assumption | (simp only [rsD]; first | omega | assumption))) only [y0, y1, Nat.reduceAdd, Nat.reduceMul, Nat.reduceLT, Int.reduceToNat, Int.reduceAdd, Int.reduceSub, Int.reduceMul, rsU, rsC]
  refine Ok.step (few_ok hG) fun r ⟨t, g, hu, E3⟩ => ?_
  obtain ⟨z, σ3⟩ := r
  simp only at g E3
  subst g
  have n3 := E3.next
  cases t with
  | false => simp (config := { maxSteps := 2000000 }) -implicitDefEqProofs (disch := (first | omega | rfl | assumption | (simp only [rsD]; first | omega | assumption))) only [Nat.reduceAdd, Nat.reduceMul, Nat.reduceLT, Int.reduceToNat, Int.reduceAdd, Int.reduceSub, Int.reduceMul, rsU, rsC]; exact Ok_some.2 rfl
  | true =>
  obtain ⟨fF, lF⟩ := ht rfl
  obtain ⟨fG, lG⟩ := hu rfl
  have z0 := (E3.blk σ.next (by omega)).trans y0
  have z1 := (E3.blk (σ.next + 1) (by omega)).trans y1
  simp (config := { maxSteps := 2000000 }) -implicitDefEqProofs (disch := (first | omega | rfl | assumption | (simp only [rsD]; first | omega | assumption))) only [z0, z1, Nat.reduceAdd, Nat.reduceMul, Nat.reduceLT, Int.reduceToNat, Int.reduceAdd, Int.reduceSub, Int.reduceMul, rsU, rsC]
  refine Ok.step (of_ok hF hG fF fG) fun r ⟨⟨e, g, R⟩, E4⟩ => ?_
  obtain ⟨z, σ4⟩ := r
  simp only at g E4
  subst g
  have n4 := E4.next
  simp only [rsD] at n4
  have w0 : σ4.blk σ.next = _ := (by ((have x0 := (E4).next); (try simp only [rsD] at *); simp -implicitDefEqProofs (disch := (first | omega | rfl | assumption | (simp only [rsD]; first | omega | assumption))) only [s_bs, s_bn, s_kn, bump_blk, s_ext (E4)]); exact z0 : σ4.blk σ.next = _)
  have w1 : σ4.blk (σ.next + 1) = _ := (by ((have x0 := (E4).next); (try simp only [rsD] at *); simp -implicitDefEqProofs (disch := (first | omega | rfl | assumption | (simp only [rsD]; first | omega | assumption))) only [s_bs, s_bn, s_kn, bump_blk, s_ext (E4)]); exact z1 : σ4.blk (σ.next + 1) = _)
  simp (config := { maxSteps := 2000000 }) -implicitDefEqProofs (disch := (first | omega | rfl | assumption | (simp only [rsD]; first | omega | assumption))) only [w0, w1, Nat.reduceAdd, Nat.reduceMul, Nat.reduceLT, Int.reduceToNat, Int.reduceAdd, Int.reduceSub, Int.reduceMul, rsU, rsC]
  refine Ok.step (apply_ok hF fF R (dOf_few fG) (dOf_len fG lG) (upto_dOf F G (by omega))) fun r ⟨⟨vs, g, I⟩, E5⟩ => ?_
  obtain ⟨z, σ5⟩ := r
  simp only at g E5
  subst g
  have hc := FV.row_at I
  obtain ⟨a3, b3, c3, e3, k1, k2, k3⟩ := hc.it
  cases e3
  have n5 := E5.next
  have v0 := (E5.blk σ.next (by omega)).trans w0
  have v1 := (E5.blk (σ.next + 1) (by omega)).trans w1
  simp (config := { maxSteps := 2000000 }) -implicitDefEqProofs (disch := (first | omega | rfl | assumption | (simp only [rsD]; first | omega | assumption))) only [v0, v1, Nat.reduceAdd, Nat.reduceMul, Nat.reduceLT, Int.reduceToNat, Int.reduceAdd, Int.reduceSub, Int.reduceMul, rsU, rsC]
  refine Ok.step (of_ok hG hF fG fF) fun r ⟨⟨e', g, R'⟩, E6⟩ => ?_
  obtain ⟨z, σ6⟩ := r
  simp only at g E6
  subst g
  have n6 := E6.next
  simp only [rsD] at n6
  have u0 : σ6.blk σ.next = _ := (by ((have x0 := (E6).next); (try simp only [rsD] at *); simp -implicitDefEqProofs (disch := (first | omega | rfl | assumption | (simp only [rsD]; first | omega | assumption))) only [s_bs, s_bn, s_kn, bump_blk, s_ext (E6)]); exact v0 : σ6.blk σ.next = _)
  have u1 : σ6.blk (σ.next + 1) = _ := (by ((have x0 := (E6).next); (try simp only [rsD] at *); simp -implicitDefEqProofs (disch := (first | omega | rfl | assumption | (simp only [rsD]; first | omega | assumption))) only [s_bs, s_bn, s_kn, bump_blk, s_ext (E6)]); exact v1 : σ6.blk (σ.next + 1) = _)
  have u2 : σ6.blk σ3.next = some (.cells true T_canon_Form [.sl a3 G.nodes.length, .sl b3 G.roots.length, .sl c3 G.weak.length]) := by ((have x0 := (E6).next); (try simp only [rsD] at *); simp -implicitDefEqProofs (disch := (first | omega | rfl | assumption | (simp only [rsD]; first | omega | assumption))) only [s_bs, s_bn, s_kn, bump_blk, s_ext (E6)])
  simp (config := { maxSteps := 2000000 }) -implicitDefEqProofs (disch := (first | omega | rfl | assumption | (simp only [rsD]; first | omega | assumption))) only [u0, u1, u2, Nat.reduceAdd, Nat.reduceMul, Nat.reduceLT, Int.reduceToNat, Int.reduceAdd, Int.reduceSub, Int.reduceMul, rsU, rsC]
  refine Ok.step (apply_ok hG fG R' (dOf_few fF) (dOf_len fF lF) (upto_dOf G F (by omega))) fun r ⟨⟨vs, g, I'⟩, E7⟩ => ?_
  obtain ⟨z, σ7⟩ := r
  simp only at g E7
  subst g
  have hd := FV.row_at I'
  obtain ⟨a4, b4, c4, e4, l1, l2, l3⟩ := hd.it
  cases e4
  have n7 := E7.next
  have s0 := (E7.blk σ.next (by omega)).trans u0
  have s1 := (E7.blk (σ.next + 1) (by omega)).trans u1
  have s2 := (E7.blk σ3.next (by omega)).trans u2
  simp (config := { maxSteps := 2000000 }) -implicitDefEqProofs (disch := (first | omega | rfl | assumption | (simp only [rsD]; first | omega | assumption))) only [s0, s1, s2, Nat.reduceAdd, Nat.reduceMul, Nat.reduceLT, Int.reduceToNat, Int.reduceAdd, Int.reduceSub, Int.reduceMul, rsU, rsC]
  have m0 : (σ7.put σ5.next (.cells true T_canon_Form [.sl a4 F.nodes.length, .sl b4 F.roots.length, .sl c4 F.weak.length])).blk σ.next = _ := (s_bn (by omega)).trans s0
  have m1 : (σ7.put σ5.next (.cells true T_canon_Form [.sl a4 F.nodes.length, .sl b4 F.roots.length, .sl c4 F.weak.length])).blk (σ.next + 1) = _ := (s_bn (by omega)).trans s1
  have m2 : (σ7.put σ5.next (.cells true T_canon_Form [.sl a4 F.nodes.length, .sl b4 F.roots.length, .sl c4 F.weak.length])).blk σ3.next = _ := (s_bn (by omega)).trans s2
  have m3 : (σ7.put σ5.next (.cells true T_canon_Form [.sl a4 F.nodes.length, .sl b4 F.roots.length, .sl c4 F.weak.length])).blk σ5.next = _ := s_bs
  have n7' : (σ7.put σ5.next (.cells true T_canon_Form [.sl a4 F.nodes.length, .sl b4 F.roots.length, .sl c4 F.weak.length])).next = σ7.next := rfl
  generalize σ7.put σ5.next _ = σ7' at *
  refine Ok.step (csame hc hG fG fG) fun r ⟨g, E8⟩ => ?_
  obtain ⟨z, σ8⟩ := r
  simp only [decide_true] at g E8
  subst g
  have n8 := E8.next
  have p0 := (E8.blk σ.next (by omega)).trans m0
  have p1 := (E8.blk (σ.next + 1) (by omega)).trans m1
  have p2 := (E8.blk σ3.next (by omega)).trans m2
  have p3 := (E8.blk σ5.next (by omega)).trans m3
  simp (config := { maxSteps := 2000000 }) -implicitDefEqProofs (disch := (first | omega | rfl | assumption | (simp only [rsD]; first | omega | assumption))) only [p0, p1, p2, p3, Nat.reduceAdd, Nat.reduceMul, Nat.reduceLT, Int.reduceToNat, Int.reduceAdd, Int.reduceSub, Int.reduceMul, rsU, rsC]
  refine Ok.step (csame hd hF fF fF) fun r ⟨g, E9⟩ => ?_
  obtain ⟨z, σ9⟩ := r
  simp only [decide_true] at g E9
  subst g
  have n9 := E9.next
  have q0 := (E9.blk σ.next (by omega)).trans p0
  have q1 := (E9.blk (σ.next + 1) (by omega)).trans p1
  have q2 := (E9.blk σ3.next (by omega)).trans p2
  have q3 := (E9.blk σ5.next (by omega)).trans p3
  simp (config := { maxSteps := 2000000 }) -implicitDefEqProofs (disch := (first | omega | rfl | assumption | (simp only [rsD]; first | omega | assumption))) only [q0, q1, q2, q3, Nat.reduceAdd, Nat.reduceMul, Nat.reduceLT, Int.reduceToNat, Int.reduceAdd, Int.reduceSub, Int.reduceMul, rsU, rsC]
  refine Ok.step (of_ok hc hG fG fG) fun r ⟨⟨e1, g, _⟩, E10⟩ => ?_
  obtain ⟨z, σ10⟩ := r
  simp only at g E10
  rw [dOf_self] at g
  subst g
  have n10 := E10.next
  have r0 := (E10.blk σ.next (by omega)).trans q0
  have r1 := (E10.blk (σ.next + 1) (by omega)).trans q1
  have r2 := (E10.blk σ3.next (by omega)).trans q2
  have r3 := (E10.blk σ5.next (by omega)).trans q3
  simp (config := { maxSteps := 2000000 }) -implicitDefEqProofs (disch := (first | omega | rfl | assumption | (simp only [rsD]; first | omega | assumption))) only [r0, r1, r2, r3, zz, Nat.reduceAdd, Nat.reduceMul, Nat.reduceLT, Int.reduceToNat, Int.reduceAdd, Int.reduceSub, Int.reduceMul, rsU, rsC]
  refine Ok.step (of_ok hF hF fF fF) fun r ⟨⟨e2, g, _⟩, E11⟩ => ?_
  obtain ⟨z, σ11⟩ := r
  simp only at g E11
  rw [dOf_self] at g
  subst g
  have n11 := E11.next
  have t0 := (E11.blk σ.next (by omega)).trans r0
  have t1 := (E11.blk (σ.next + 1) (by omega)).trans r1
  simp (config := { maxSteps := 2000000 }) -implicitDefEqProofs (disch := (first | omega | rfl | assumption | (simp only [rsD]; first | omega | assumption))) only [t0, t1, zz, Nat.reduceAdd, Nat.reduceMul, Nat.reduceLT, Int.reduceToNat, Int.reduceAdd, Int.reduceSub, Int.reduceMul, rsU, rsC]
  refine Ok.step (of_ok hF hG fF fG) fun r ⟨⟨e3, g, _⟩, E12⟩ => ?_
  obtain ⟨z, σ12⟩ := r
  simp only at g E12
  subst g
  have n12 := E12.next
  have h0 := (E12.blk σ.next (by omega)).trans t0
  have h1 := (E12.blk (σ.next + 1) (by omega)).trans t1
  simp (config := { maxSteps := 2000000 }) -implicitDefEqProofs (disch := (first | omega | rfl | assumption | (simp only [rsD]; first | omega | assumption))) only [h0, h1, zz, Nat.reduceAdd, Nat.reduceMul, Nat.reduceLT, Int.reduceToNat, Int.reduceAdd, Int.reduceSub, Int.reduceMul, rsU, rsC]
  refine Ok.step (csame hF hG fF fG) fun r ⟨g, E13⟩ => ?_
  obtain ⟨z, σ13⟩ := r
  simp only at g E13
  subst g
  have qq : (((dOf F G).length : Int) == 0) = decide (F = G) := by
    have := dOf_nil (a := F) (b := G) (by omega)
    by_cases e : F = G
    · rw [decide_eq_true e, this.2 e]; rfl
    · rw [decide_eq_false e]
      exact s_eqF fun h => e (this.1 (List.eq_nil_of_length_eq_zero (by omega)))
  simp (config := { maxSteps := 2000000 }) -implicitDefEqProofs (disch := (first | omega | rfl | assumption | (simp only [rsD]; first | omega | assumption))) only [qq, Nat.reduceAdd, Nat.reduceMul, Nat.reduceLT, Int.reduceToNat, Int.reduceAdd, Int.reduceSub, Int.reduceMul, rsU, rsC]
  refine Ok_some.2 ?_
  simp
end Go.Abs.Try
