/-
  The document's answer for layers 1 and 7, as it is run. No conditions.
-/
import Derived.Test.YtjfblnpolgoojaaM7
set_option linter.unusedVariables false
set_option linter.unusedSimpArgs false
set_option linter.constructorNameAsVariable false
set_option linter.unusedSimpArgs false
set_option linter.unusedVariables false
set_option maxHeartbeats 1000000
namespace Go.Abs.Try
open Go Go.Abs
variable {O : Type}

/-- parts of 32 bits -/
def p32 (a : Int) : List AV := [.i .u64 (a % 4294967296), .i .u64 (a / 4294967296 % 4294967296), .i .u64 (a / 18446744073709551616 % 4294967296), .i .u64 (a / 79228162514264337593543950336), .i .u64 0, .i .u64 0]
theorem parts_ok {a : Int} {σ : AH O} (h0 : 0 ≤ a) (h0' : a < 340282366920938463463374607431768211456) : Ok (haymowref01_Parts [.agg (wcs a)] σ) fun r => r.1 = .agg (p32 a) ∧ Ext σ r.2 := by
  simp (config := { maxSteps := 2000000 }) -implicitDefEqProofs (disch := (first | omega | rfl | assumption | (simp only [rsD]; first | omega | assumption))) only [haymowref01_Parts, haymowref01_Parts_c, wcs, s_tmod, s_tdiv, Nat.reduceAdd, Nat.reduceMul, Nat.reduceLT, Int.reduceToNat, Int.reduceAdd, Int.reduceSub, Int.reduceMul, rsU, rsC]
  refine Ok_some.2 ⟨?_, (ext_of (by simp only [put_next, bump_next, kill_next]; omega) (fun b hb => by simp -implicitDefEqProofs (disch := (first | omega | rfl | assumption | (simp only [rsD]; first | omega | assumption))) only [s_bn, s_kn, bump_blk, s_ext]))⟩
  have e1 : a % 18446744073709551616 % 4294967296 = a % 4294967296 := by omega
  have e2 : a % 18446744073709551616 / 4294967296 = a / 4294967296 % 4294967296 := by omega
  have e3 : a / 18446744073709551616 / 4294967296 = a / 79228162514264337593543950336 := by omega
  rw [p32, e1, e2, e3]
theorem whole_ok {a b c d : Int} {σ : AH O} (ha : 0 ≤ a ∧ a < 4294967296) (hb : 0 ≤ b ∧ b < 4294967296) (hc : 0 ≤ c ∧ c < 4294967296) (hd : 0 ≤ d ∧ d < 4294967296) :
    Ok (haymowref01_Whole [.agg [.i .u64 a, .i .u64 b, .i .u64 c, .i .u64 d, .i .u64 0, .i .u64 0]] σ) fun r => r.1 = .tup [.agg [.i .u64 (d * 4294967296 + c), .i .u64 (b * 4294967296 + a)], .b true] ∧ Ext σ r.2 := by
  simp (config := { maxSteps := 2000000 }) -implicitDefEqProofs (disch := (first | omega | rfl | assumption | (simp only [rsD]; first | omega | assumption))) only [haymowref01_Whole, haymowref01_Whole_c, Nat.reduceAdd, Nat.reduceMul, Nat.reduceLT, Int.reduceToNat, Int.reduceAdd, Int.reduceSub, Int.reduceMul, rsU, rsC]
  exact Ok_some.2 ⟨rfl, (ext_of (by simp only [put_next, bump_next, kill_next]; omega) (fun b hb => by simp -implicitDefEqProofs (disch := (first | omega | rfl | assumption | (simp only [rsD]; first | omega | assumption))) only [s_bn, s_kn, bump_blk, s_ext]))⟩
theorem add_loop {σ9 σ38 σ3 : AH O} {X Z e1 e2 e3 : Nat} {x0 x1 x2 x3 y0 y1 y2 y3 : Int} (hX : σ9.next = X) (hZ : σ38.next = Z) (n1 : Z ≠ X) (n2 : Z ≠ X + 1)
    (bX : σ3.blk X = some (.cells true e1 [.i .u64 x0, .i .u64 x1, .i .u64 x2, .i .u64 x3, .i .u64 0, .i .u64 0])) (bY : σ3.blk (X + 1) = some (.cells true e2 [.i .u64 y0, .i .u64 y1, .i .u64 y2, .i .u64 y3, .i .u64 0, .i .u64 0]))
    (bZ : σ3.blk Z = some (.cells true e3 [.i .u64 0, .i .u64 0, .i .u64 0, .i .u64 0, .i .u64 0, .i .u64 0]))
    (xa : 0 ≤ x0 ∧ x0 < 4294967296) (xb : 0 ≤ x1 ∧ x1 < 4294967296) (xc : 0 ≤ x2 ∧ x2 < 4294967296) (xd : 0 ≤ x3 ∧ x3 < 4294967296) (ya : 0 ≤ y0 ∧ y0 < 4294967296) (yb : 0 ≤ y1 ∧ y1 < 4294967296) (yc : 0 ≤ y2 ∧ y2 < 4294967296) (yd : 0 ≤ y3 ∧ y3 < 4294967296) :
    ∃ z0 z1 z2 z3 z4 : Int, loopF (haymowref01_Add_L1 σ9 σ38) ([.i .u64 0, .i .i64 0], σ3) = some ([], σ3.put Z (.cells true e3 [.i .u64 z0, .i .u64 z1, .i .u64 z2, .i .u64 z3, .i .u64 z4, .i .u64 0])) ∧ (0 ≤ z0 ∧ z0 < 4294967296) ∧ (0 ≤ z1 ∧ z1 < 4294967296) ∧ (0 ≤ z2 ∧ z2 < 4294967296) ∧ (0 ≤ z3 ∧ z3 < 4294967296) ∧ 0 ≤ z4 ∧
      z0 + z1 * 4294967296 + z2 * 18446744073709551616 + z3 * 79228162514264337593543950336 + z4 * 340282366920938463463374607431768211456 = (x0 + x1 * 4294967296 + x2 * 18446744073709551616 + x3 * 79228162514264337593543950336) + (y0 + y1 * 4294967296 + y2 * 18446744073709551616 + y3 * 79228162514264337593543950336) := by
  have c0 : 0 ≤ (x0 + y0 + 0) / 4294967296 ∧ (x0 + y0 + 0) / 4294967296 ≤ 1 := by omega
  have d0 : 0 ≤ (x0 + y0 + 0) % 4294967296 ∧ (x0 + y0 + 0) % 4294967296 < 4294967296 ∧ (x0 + y0 + 0) % 4294967296 + (x0 + y0 + 0) / 4294967296 * 4294967296 = x0 + y0 := by omega
  rw [loopF_eq]
  simp (config := { maxSteps := 2000000 }) -implicitDefEqProofs (disch := (first | omega | rfl | assumption | (simp only [rsD]; first | omega | assumption))) only [haymowref01_Add_L1, hX, hZ, bX, bY, bZ, s_tmod, s_tdiv, Nat.reduceAdd, Nat.reduceMul, Nat.reduceLT, Int.reduceToNat, Int.reduceAdd, Int.reduceSub, Int.reduceMul, rsU, rsC]
  generalize (x0 + y0 + 0) / 4294967296 = u1 at *
  generalize (x0 + y0 + 0) % 4294967296 = z0 at *
  have c1 : 0 ≤ (x1 + y1 + u1) / 4294967296 ∧ (x1 + y1 + u1) / 4294967296 ≤ 1 := by omega
  have d1 : 0 ≤ (x1 + y1 + u1) % 4294967296 ∧ (x1 + y1 + u1) % 4294967296 < 4294967296 ∧ (x1 + y1 + u1) % 4294967296 + (x1 + y1 + u1) / 4294967296 * 4294967296 = x1 + y1 + u1 := by omega
  rw [loopF_eq]
  simp (config := { maxSteps := 2000000 }) -implicitDefEqProofs (disch := (first | omega | rfl | assumption | (simp only [rsD]; first | omega | assumption))) only [haymowref01_Add_L1, hX, hZ, bX, bY, bZ, s_tmod, s_tdiv, Nat.reduceAdd, Nat.reduceMul, Nat.reduceLT, Int.reduceToNat, Int.reduceAdd, Int.reduceSub, Int.reduceMul, rsU, rsC]
  generalize (x1 + y1 + u1) / 4294967296 = u2 at *
  generalize (x1 + y1 + u1) % 4294967296 = z1 at *
  have c2 : 0 ≤ (x2 + y2 + u2) / 4294967296 ∧ (x2 + y2 + u2) / 4294967296 ≤ 1 := by omega
  have d2 : 0 ≤ (x2 + y2 + u2) % 4294967296 ∧ (x2 + y2 + u2) % 4294967296 < 4294967296 ∧ (x2 + y2 + u2) % 4294967296 + (x2 + y2 + u2) / 4294967296 * 4294967296 = x2 + y2 + u2 := by omega
  rw [loopF_eq]
  simp (config := { maxSteps := 2000000 }) -implicitDefEqProofs (disch := (first | omega | rfl | assumption | (simp only [rsD]; first | omega | assumption))) only [haymowref01_Add_L1, hX, hZ, bX, bY, bZ, s_tmod, s_tdiv, Nat.reduceAdd, Nat.reduceMul, Nat.reduceLT, Int.reduceToNat, Int.reduceAdd, Int.reduceSub, Int.reduceMul, rsU, rsC]
  generalize (x2 + y2 + u2) / 4294967296 = u3 at *
  generalize (x2 + y2 + u2) % 4294967296 = z2 at *
  have c3 : 0 ≤ (x3 + y3 + u3) / 4294967296 ∧ (x3 + y3 + u3) / 4294967296 ≤ 1 := by omega
  have d3 : 0 ≤ (x3 + y3 + u3) % 4294967296 ∧ (x3 + y3 + u3) % 4294967296 < 4294967296 ∧ (x3 + y3 + u3) % 4294967296 + (x3 + y3 + u3) / 4294967296 * 4294967296 = x3 + y3 + u3 := by omega
  rw [loopF_eq]
  simp (config := { maxSteps := 2000000 }) -implicitDefEqProofs (disch := (first | omega | rfl | assumption | (simp only [rsD]; first | omega | assumption))) only [haymowref01_Add_L1, hX, hZ, bX, bY, bZ, s_tmod, s_tdiv, Nat.reduceAdd, Nat.reduceMul, Nat.reduceLT, Int.reduceToNat, Int.reduceAdd, Int.reduceSub, Int.reduceMul, rsU, rsC]
  generalize (x3 + y3 + u3) / 4294967296 = u4 at *
  generalize (x3 + y3 + u3) % 4294967296 = z3 at *
  have c4 : (0 + 0 + u4) / 4294967296 = 0 ∧ (0 + 0 + u4) % 4294967296 = u4 := by omega
  rw [loopF_eq]
  simp (config := { maxSteps := 2000000 }) -implicitDefEqProofs (disch := (first | omega | rfl | assumption | (simp only [rsD]; first | omega | assumption))) only [haymowref01_Add_L1, hX, hZ, bX, bY, bZ, s_tmod, s_tdiv, Nat.reduceAdd, Nat.reduceMul, Nat.reduceLT, Int.reduceToNat, Int.reduceAdd, Int.reduceSub, Int.reduceMul, rsU, rsC]
  rw [loopF_eq]
  simp (config := { maxSteps := 2000000 }) -implicitDefEqProofs (disch := (first | omega | rfl | assumption | (simp only [rsD]; first | omega | assumption))) only [haymowref01_Add_L1, hX, hZ, bX, bY, bZ, s_tmod, s_tdiv, Nat.reduceAdd, Nat.reduceMul, Nat.reduceLT, Int.reduceToNat, Int.reduceAdd, Int.reduceSub, Int.reduceMul, rsU, rsC]
  refine ⟨z0, z1, z2, z3, _, rfl, ⟨d0.1, d0.2.1⟩, ⟨d1.1, d1.2.1⟩, ⟨d2.1, d2.2.1⟩, ⟨d3.1, d3.2.1⟩, ?_, ?_⟩
  · omega
  · have e : (0 + 0 + u4) % 4294967296 = u4 := c4.2
    omega
theorem radd_ok {a b : Int} {σ : AH O} (h1 : 0 ≤ a) (h2 : 0 ≤ b) (h : a + b < 340282366920938463463374607431768211456) :
    Ok (haymowref01_Add [.agg (wcs a), .agg (wcs b)] σ) fun r => r.1 = .tup [.agg (wcs (a + b)), .b true] ∧ Ext σ r.2 := by
  simp (config := { maxSteps := 2000000 }) -implicitDefEqProofs (disch := (first | omega | rfl | assumption | (simp only [rsD]; first | omega | assumption))) only [haymowref01_Add, haymowref01_Add_c, wcs, Nat.reduceAdd, Nat.reduceMul, Nat.reduceLT, Int.reduceToNat, Int.reduceAdd, Int.reduceSub, Int.reduceMul, rsU, rsC]
  generalize hσ0 : (((σ.bump 3).put σ.next _).put (σ.next + 1) _).put (σ.next + 1 + 1) _ = σ0
  have E0 : Ext σ σ0 := by rw [← hσ0]; exact (ext_of (by simp only [put_next, bump_next, kill_next]; omega) (fun b hb => by simp -implicitDefEqProofs (disch := (first | omega | rfl | assumption | (simp only [rsD]; first | omega | assumption))) only [s_bn, s_kn, bump_blk, s_ext]))
  have n0 : σ0.next = σ.next + 3 := by rw [← hσ0]; rfl
  have b0 : σ0.blk (σ.next + 1) = some (.cells true T_api_Wide [.i .u64 (b / 18446744073709551616), .i .u64 (b % 18446744073709551616)]) := by rw [← hσ0, s_bn (by omega), s_bs]
  have b00 : ∃ el, σ0.blk (σ.next + 1 + 1) = some (.cells true el [.i .u64 0, .i .u64 0]) := by rw [← hσ0, s_bs]; exact ⟨_, rfl⟩
  obtain ⟨el0, b00⟩ := b00
  clear hσ0
  have hpa := parts_ok (σ := σ0.bump 2) h1 (by omega)
  simp only [wcs] at hpa
  refine Ok.step hpa fun r ⟨g1, g2⟩ => ?_
  obtain ⟨q, σ1⟩ := r
  simp only at g1 g2
  subst g1
  have n1 := g2.next
  simp only [bump_next] at n1
  have hb1 := (g2.blk (σ.next + 1) (by simp only [bump_next]; omega)).trans b0
  simp (config := { maxSteps := 2000000 }) -implicitDefEqProofs (disch := (first | omega | rfl | assumption | (simp only [rsD]; first | omega | assumption))) only [p32, hb1, Nat.reduceAdd, Nat.reduceMul, Nat.reduceLT, Int.reduceToNat, Int.reduceAdd, Int.reduceSub, Int.reduceMul, rsU, rsC]
  have hpb := parts_ok (σ := σ1) h2 (by omega)
  simp only [wcs] at hpb
  refine Ok.step hpb fun r ⟨g3, g4⟩ => ?_
  obtain ⟨q, σ2⟩ := r
  simp only at g3 g4
  subst g3
  have n2 := g4.next
  simp (config := { maxSteps := 2000000 }) -implicitDefEqProofs (disch := (first | omega | rfl | assumption | (simp only [rsD]; first | omega | assumption))) only [p32, Nat.reduceAdd, Nat.reduceMul, Nat.reduceLT, Int.reduceToNat, Int.reduceAdd, Int.reduceSub, Int.reduceMul, rsU, rsC]
  have E2 : Ext σ0 σ2 := ((Ext.refl σ0).bump 2).trans (g2.trans g4)
  have hb22 := (E2.blk (σ.next + 1 + 1) (by omega)).trans b00
  -- the parts
  have xa : 0 ≤ a % 4294967296 ∧ a % 4294967296 < 4294967296 := by omega
  have xb : 0 ≤ a / 4294967296 % 4294967296 ∧ a / 4294967296 % 4294967296 < 4294967296 := by omega
  have xc : 0 ≤ a / 18446744073709551616 % 4294967296 ∧ a / 18446744073709551616 % 4294967296 < 4294967296 := by omega
  have xd : 0 ≤ a / 79228162514264337593543950336 ∧ a / 79228162514264337593543950336 < 4294967296 := by omega
  have xs : a = a % 4294967296 + a / 4294967296 % 4294967296 * 4294967296 + a / 18446744073709551616 % 4294967296 * 18446744073709551616 + a / 79228162514264337593543950336 * 79228162514264337593543950336 := by omega
  have ya : 0 ≤ b % 4294967296 ∧ b % 4294967296 < 4294967296 := by omega
  have yb : 0 ≤ b / 4294967296 % 4294967296 ∧ b / 4294967296 % 4294967296 < 4294967296 := by omega
  have yc : 0 ≤ b / 18446744073709551616 % 4294967296 ∧ b / 18446744073709551616 % 4294967296 < 4294967296 := by omega
  have yd : 0 ≤ b / 79228162514264337593543950336 ∧ b / 79228162514264337593543950336 < 4294967296 := by omega
  have ys : b = b % 4294967296 + b / 4294967296 % 4294967296 * 4294967296 + b / 18446744073709551616 % 4294967296 * 18446744073709551616 + b / 79228162514264337593543950336 * 79228162514264337593543950336 := by omega
  generalize a % 4294967296 = x0 at *
  generalize a / 4294967296 % 4294967296 = x1 at *
  generalize a / 18446744073709551616 % 4294967296 = x2 at *
  generalize a / 79228162514264337593543950336 = x3 at *
  generalize b % 4294967296 = y0 at *
  generalize b / 4294967296 % 4294967296 = y1 at *
  generalize b / 18446744073709551616 % 4294967296 = y2 at *
  generalize b / 79228162514264337593543950336 = y3 at *
  generalize hσ3 : ((((((σ2.put (σ.next + 3) _).put (σ.next + 3 + 1) _).put (σ.next + 3) _).put (σ.next + 3 + 1) _).bump 1).put σ2.next _) = σ3
  have bX : ∃ e, σ3.blk (σ.next + 3) = some (.cells true e [.i .u64 x0, .i .u64 x1, .i .u64 x2, .i .u64 x3, .i .u64 0, .i .u64 0]) := by
    rw [← hσ3, s_bn (by omega), bump_blk, s_bn (by omega), s_bs]; exact ⟨_, rfl⟩
  have bY : ∃ e, σ3.blk (σ.next + 3 + 1) = some (.cells true e [.i .u64 y0, .i .u64 y1, .i .u64 y2, .i .u64 y3, .i .u64 0, .i .u64 0]) := by
    rw [← hσ3, s_bn (by omega), bump_blk, s_bs]; exact ⟨_, rfl⟩
  have bZ : ∃ e, σ3.blk σ2.next = some (.cells true e [.i .u64 0, .i .u64 0, .i .u64 0, .i .u64 0, .i .u64 0, .i .u64 0]) := by
    rw [← hσ3, s_bs]; exact ⟨_, rfl⟩
  have bW : σ3.blk (σ.next + 1 + 1) = some (.cells true el0 [.i .u64 0, .i .u64 0]) := by
    rw [← hσ3, s_bn (by omega), bump_blk, s_bn (by omega), s_bn (by omega), s_bn (by omega), s_bn (by omega)]; exact hb22
  have E3 : Ext σ σ3 := by
    have E := E0.trans E2
    rw [← hσ3]
    refine ext_of (by simp only [put_next, bump_next]; have := E.next; omega) fun c hc => ?_
    rw [s_bn (by omega), bump_blk, s_bn (by omega), s_bn (by omega), s_bn (by omega), s_bn (by omega)]; exact E.blk c hc
  obtain ⟨e1, bX⟩ := bX
  obtain ⟨e2, bY⟩ := bY
  obtain ⟨e3, bZ⟩ := bZ
  obtain ⟨z0, z1, z2, z3, z4, hloop, d0, d1, d2, d3, d4, hsum⟩ := add_loop (σ9 := σ0) (σ38 := (((σ2.put (σ.next + 3) (.cells true T_haymowref01_Four [.i .u64 0, .i .u64 0, .i .u64 0, .i .u64 0, .i .u64 0, .i .u64 0])).put (σ.next + 3 + 1) (.cells true T_haymowref01_Four [.i .u64 0, .i .u64 0, .i .u64 0, .i .u64 0, .i .u64 0, .i .u64 0])).put (σ.next + 3) (.cells true T_haymowref01_Four [.i .u64 x0, .i .u64 x1, .i .u64 x2, .i .u64 x3, .i .u64 0, .i .u64 0])).put (σ.next + 3 + 1) (.cells true T_haymowref01_Four [.i .u64 y0, .i .u64 y1, .i .u64 y2, .i .u64 y3, .i .u64 0, .i .u64 0])) n0 (Z := σ2.next) rfl (by omega) (by omega) bX bY bZ xa xb xc xd ya yb yc yd
  rw [hloop]
  obtain rfl : z4 = 0 := by omega
  simp (config := { maxSteps := 2000000 }) -implicitDefEqProofs (disch := (first | omega | rfl | assumption | (simp only [rsD]; first | omega | assumption))) only [Nat.reduceAdd, Nat.reduceMul, Nat.reduceLT, Int.reduceToNat, Int.reduceAdd, Int.reduceSub, Int.reduceMul, rsU, rsC]
  refine Ok.step (whole_ok d0 d1 d2 d3) fun r ⟨g5, g6⟩ => ?_
  obtain ⟨q, σ4⟩ := r
  simp only at g5 g6
  subst g5
  have n3 := E3.next
  have n4 := g6.next
  simp only [put_next] at n4
  have hn3 : σ3.next = σ2.next + 1 := by rw [← hσ3]; rfl
  have bW4 : σ4.blk (σ.next + 1 + 1) = some (.cells true el0 [.i .u64 0, .i .u64 0]) := by
    rw [g6.blk _ (by simp only [put_next]; omega), s_bn (by omega)]; exact bW
  simp (config := { maxSteps := 2000000 }) -implicitDefEqProofs (disch := (first | omega | rfl | assumption | (simp only [rsD]; first | omega | assumption))) only [bW4, Nat.reduceAdd, Nat.reduceMul, Nat.reduceLT, Int.reduceToNat, Int.reduceAdd, Int.reduceSub, Int.reduceMul, rsU, rsC]
  have f1 : (a + b) / 18446744073709551616 = z3 * 4294967296 + z2 := by omega
  have f2 : (a + b) % 18446744073709551616 = z1 * 4294967296 + z0 := by omega
  refine Ok_some.2 ⟨by simp only [f1, f2], ?_⟩
  refine ext_of (by simp only [put_next]; omega) fun c hc => ?_
  rw [s_bn (by omega), g6.blk c (by simp only [put_next]; omega), s_bn (by omega)]
  exact E3.blk c hc

/-! ### Layer 7 -/
theorem r7_hold {m : Met} {n : Int} {σ : AH O} (h1 : 0 ≤ m.held) (h2 : m.held ≤ 281474976710656) (hn : 0 ≤ n) (hh : m.held + n ≤ 281474976710656) : Ok (haymowref07_Hold [.agg m.cells, .i .i64 n] σ) fun r => r.1 = .tup [.agg (m.hold n).cells, .i .i64 0] ∧ Ext σ r.2 := by
  by_cases hc : m.held + n > m.high
  · simp (config := { maxSteps := 2000000 }) -implicitDefEqProofs (disch := (first | omega | rfl | assumption | (simp only [rsD]; first | omega | assumption))) only [haymowref07_Hold, haymowref07_Hold_c, Met.cells, Met.hold, Nat.reduceAdd, Nat.reduceMul, Nat.reduceLT, Int.reduceToNat, Int.reduceAdd, Int.reduceSub, Int.reduceMul, rsU, rsC]
    exact Ok_some.2 ⟨by rw [Int.max_eq_right (by omega)], (ext_of (by simp only [put_next, bump_next, kill_next]; omega) (fun b hb => by simp -implicitDefEqProofs (disch := (first | omega | rfl | assumption | (simp only [rsD]; first | omega | assumption))) only [s_bn, s_kn, bump_blk, s_ext]))⟩
  · simp (config := { maxSteps := 2000000 }) -implicitDefEqProofs (disch := (first | omega | rfl | assumption | (simp only [rsD]; first | omega | assumption))) only [haymowref07_Hold, haymowref07_Hold_c, Met.cells, Met.hold, Nat.reduceAdd, Nat.reduceMul, Nat.reduceLT, Int.reduceToNat, Int.reduceAdd, Int.reduceSub, Int.reduceMul, rsU, rsC]
    exact Ok_some.2 ⟨by rw [Int.max_eq_left (by omega)], (ext_of (by simp only [put_next, bump_next, kill_next]; omega) (fun b hb => by simp -implicitDefEqProofs (disch := (first | omega | rfl | assumption | (simp only [rsD]; first | omega | assumption))) only [s_bn, s_kn, bump_blk, s_ext]))⟩
theorem r7_free {m : Met} {n : Int} {σ : AH O} (h1 : 0 ≤ m.held) (h2 : m.held ≤ 281474976710656) (hn : 0 ≤ n) (hh : n ≤ m.held) : Ok (haymowref07_Free [.agg m.cells, .i .i64 n] σ) fun r => r.1 = .tup [.agg (m.free n).cells, .i .i64 0] ∧ Ext σ r.2 := by
  simp (config := { maxSteps := 2000000 }) -implicitDefEqProofs (disch := (first | omega | rfl | assumption | (simp only [rsD]; first | omega | assumption))) only [haymowref07_Free, haymowref07_Free_c, Met.cells, Met.free, Nat.reduceAdd, Nat.reduceMul, Nat.reduceLT, Int.reduceToNat, Int.reduceAdd, Int.reduceSub, Int.reduceMul, rsU, rsC]
  exact Ok_some.2 ⟨rfl, (ext_of (by simp only [put_next, bump_next, kill_next]; omega) (fun b hb => by simp -implicitDefEqProofs (disch := (first | omega | rfl | assumption | (simp only [rsD]; first | omega | assumption))) only [s_bn, s_kn, bump_blk, s_ext]))⟩
theorem wcs_small {n : Int} (h : 0 ≤ n ∧ n < 18446744073709551616) : [AV.i .u64 0, .i .u64 n] = wcs n := by
  have e1 : n / 18446744073709551616 = 0 := by omega
  have e2 : n % 18446744073709551616 = n := by omega
  rw [wcs, e1, e2]
theorem r7_step_r {m : Met} {n : Int} {σ : AH O} (h1 : 0 ≤ m.r ∧ m.r < 170141183460469231731687303715884105728) (hn : 0 ≤ n ∧ n ≤ 9223372036854775807) : Ok (haymowref07_Step [.agg m.cells, .i .i64 0, .i .i64 n] σ) fun r => r.1 = .agg ({ m with r := m.r + n } : Met).cells ∧ Ext σ r.2 := by
  by_cases hz : n = 0
  · subst hz
    simp (config := { maxSteps := 2000000 }) -implicitDefEqProofs (disch := (first | omega | rfl | assumption | (simp only [rsD]; first | omega | assumption))) only [haymowref07_Step, haymowref07_Step_c, Met.cells, Nat.reduceAdd, Nat.reduceMul, Nat.reduceLT, Int.reduceToNat, Int.reduceAdd, Int.reduceSub, Int.reduceMul, rsU, rsC]
    exact Ok_some.2 ⟨by simp, (ext_of (by simp only [put_next, bump_next, kill_next]; omega) (fun b hb => by simp -implicitDefEqProofs (disch := (first | omega | rfl | assumption | (simp only [rsD]; first | omega | assumption))) only [s_bn, s_kn, bump_blk, s_ext]))⟩
  · simp (config := { maxSteps := 2000000 }) -implicitDefEqProofs (disch := (first | omega | rfl | assumption | (simp only [rsD]; first | omega | assumption))) only [haymowref07_Step, haymowref07_Step_c, Met.cells, Nat.zero_mul, Nat.reduceAdd, Nat.reduceMul, Nat.reduceLT, Int.reduceToNat, Int.reduceAdd, Int.reduceSub, Int.reduceMul, rsU, rsC]
    rw [wcs_small (n := n) (by omega)]
    generalize hσ1 : ((σ.bump 2).put σ.next _).put (σ.next + 1) _ = σ1
    have E1 : Ext σ σ1 := by rw [← hσ1]; exact (ext_of (by simp only [put_next, bump_next, kill_next]; omega) (fun b hb => by simp -implicitDefEqProofs (disch := (first | omega | rfl | assumption | (simp only [rsD]; first | omega | assumption))) only [s_bn, s_kn, bump_blk, s_ext]))
    have b1 : ∃ e, σ1.blk σ.next = some (.cells true e m.cells) := by rw [← hσ1, s_bn (by omega), s_bs]; exact ⟨_, rfl⟩
    have c1 : ∃ e, σ1.blk (σ.next + 1) = some (.cells true e [.i .u64 0, .i .u64 0, .i .u64 0, .i .u64 0, .i .i64 0, .i .i64 0]) := by rw [← hσ1, s_bs]; exact ⟨_, rfl⟩
    have n1 : σ1.next = σ.next + 2 := by rw [← hσ1]; rfl
    obtain ⟨e1, b1⟩ := b1
    obtain ⟨e2, c1⟩ := c1
    clear hσ1
    have := radd_ok (σ := σ1) h1.1 hn.1 (by omega)
    rw [show (wcs m.r) = [.i .u64 (m.r / 18446744073709551616), .i .u64 (m.r % 18446744073709551616)] from rfl] at this
    refine Ok.step this fun r ⟨g1, g2⟩ => ?_
    obtain ⟨q, σ2⟩ := r
    simp only at g1 g2
    subst g1
    have n2 := g2.next
    have b2 := (g2.blk σ.next (by omega)).trans b1
    have c2 := (g2.blk (σ.next + 1) (by omega)).trans c1
    simp (config := { maxSteps := 2000000 }) -implicitDefEqProofs (disch := (first | omega | rfl | assumption | (simp only [rsD]; first | omega | assumption))) only [wcs, b2, c2, Met.cells, Nat.zero_mul, Nat.reduceAdd, Nat.reduceMul, Nat.reduceLT, Int.reduceToNat, Int.reduceAdd, Int.reduceSub, Int.reduceMul, rsU, rsC]
    have E := E1.trans g2
    exact Ok_some.2 ⟨rfl, (ext_of (by simp only [put_next, bump_next, kill_next]; omega) (fun b hb => by simp -implicitDefEqProofs (disch := (first | omega | rfl | assumption | (simp only [rsD]; first | omega | assumption))) only [s_bn, s_kn, bump_blk, s_ext]))⟩
theorem r7_step_w {m : Met} {n : Int} {σ : AH O} (h1 : 0 ≤ m.w ∧ m.w < 170141183460469231731687303715884105728) (hn : 0 ≤ n ∧ n ≤ 9223372036854775807) : Ok (haymowref07_Step [.agg m.cells, .i .i64 1, .i .i64 n] σ) fun r => r.1 = .agg ({ m with w := m.w + n } : Met).cells ∧ Ext σ r.2 := by
  have t1 : (1 : Int).toNat = 1 := rfl
  by_cases hz : n = 0
  · subst hz
    simp (config := { maxSteps := 2000000 }) -implicitDefEqProofs (disch := (first | omega | rfl | assumption | (simp only [rsD]; first | omega | assumption))) only [haymowref07_Step, haymowref07_Step_c, Met.cells, Nat.reduceAdd, Nat.reduceMul, Nat.reduceLT, Int.reduceToNat, Int.reduceAdd, Int.reduceSub, Int.reduceMul, rsU, rsC]
    exact Ok_some.2 ⟨by simp, (ext_of (by simp only [put_next, bump_next, kill_next]; omega) (fun b hb => by simp -implicitDefEqProofs (disch := (first | omega | rfl | assumption | (simp only [rsD]; first | omega | assumption))) only [s_bn, s_kn, bump_blk, s_ext]))⟩
  · simp (config := { maxSteps := 2000000 }) -implicitDefEqProofs (disch := (first | omega | rfl | assumption | (simp only [rsD]; first | omega | assumption))) only [haymowref07_Step, haymowref07_Step_c, Met.cells, Nat.one_mul, t1, Nat.reduceAdd, Nat.reduceMul, Nat.reduceLT, Int.reduceToNat, Int.reduceAdd, Int.reduceSub, Int.reduceMul, rsU, rsC]
    rw [wcs_small (n := n) (by omega)]
    generalize hσ1 : ((σ.bump 2).put σ.next _).put (σ.next + 1) _ = σ1
    have E1 : Ext σ σ1 := by rw [← hσ1]; exact (ext_of (by simp only [put_next, bump_next, kill_next]; omega) (fun b hb => by simp -implicitDefEqProofs (disch := (first | omega | rfl | assumption | (simp only [rsD]; first | omega | assumption))) only [s_bn, s_kn, bump_blk, s_ext]))
    have b1 : ∃ e, σ1.blk σ.next = some (.cells true e m.cells) := by rw [← hσ1, s_bn (by omega), s_bs]; exact ⟨_, rfl⟩
    have c1 : ∃ e, σ1.blk (σ.next + 1) = some (.cells true e [.i .u64 0, .i .u64 0, .i .u64 0, .i .u64 0, .i .i64 0, .i .i64 0]) := by rw [← hσ1, s_bs]; exact ⟨_, rfl⟩
    have n1 : σ1.next = σ.next + 2 := by rw [← hσ1]; rfl
    obtain ⟨e1, b1⟩ := b1
    obtain ⟨e2, c1⟩ := c1
    clear hσ1
    have := radd_ok (σ := σ1) h1.1 hn.1 (by omega)
    rw [show (wcs m.w) = [.i .u64 (m.w / 18446744073709551616), .i .u64 (m.w % 18446744073709551616)] from rfl] at this
    refine Ok.step this fun r ⟨g1, g2⟩ => ?_
    obtain ⟨q, σ2⟩ := r
    simp only at g1 g2
    subst g1
    have n2 := g2.next
    have b2 := (g2.blk σ.next (by omega)).trans b1
    have c2 := (g2.blk (σ.next + 1) (by omega)).trans c1
    simp (config := { maxSteps := 2000000 }) -implicitDefEqProofs (disch := (first | omega | rfl | assumption | (simp only [rsD]; first | omega | assumption))) only [wcs, b2, c2, Met.cells, Nat.one_mul, t1, Nat.reduceAdd, Nat.reduceMul, Nat.reduceLT, Int.reduceToNat, Int.reduceAdd, Int.reduceSub, Int.reduceMul, rsU, rsC]
    have E := E1.trans g2
    exact Ok_some.2 ⟨rfl, (ext_of (by simp only [put_next, bump_next, kill_next]; omega) (fun b hb => by simp -implicitDefEqProofs (disch := (first | omega | rfl | assumption | (simp only [rsD]; first | omega | assumption))) only [s_bn, s_kn, bump_blk, s_ext]))⟩
end Go.Abs.Try
