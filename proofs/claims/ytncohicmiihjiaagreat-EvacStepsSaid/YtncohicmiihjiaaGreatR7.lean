/-
  The document's answer for layers 1 and 7, as it is run. No conditions.
-/
import Derived.Test.YtncohicmiihjiaaGreatM7
set_option linter.unusedVariables false
set_option linter.unusedSimpArgs false
set_option linter.constructorNameAsVariable false
set_option linter.unusedSimpArgs false
set_option linter.unusedVariables false
set_option maxHeartbeats 1000000
namespace Go.Abs.Tryz
open Go Go.Abs
variable {O : Type}
end Go.Abs.Tryz
namespace Go.Abs.Tryz
open Go Go.Abs
variable {O : Type}
abbrev W128 : Int := 340282366920938463463374607431768211456
theorem wcmp_ok {a b : Int} {J : AH O} (ha : 0 <= a /\ a < W128) (hb : 0 <= b /\ b < W128) : Ok (wide_Cmp [.agg (wcs a), .agg (wcs b)] J) fun r => r.1 = .i .i64 (if a < b then -1 else if a = b then 0 else 1) /\ Ext J r.2 := by
 unfold W128 at ha hb
 by_cases h1 : a / 18446744073709551616 = b / 18446744073709551616
 ·have q1 := s_eqT h1
  have l1 : decide (a / 18446744073709551616 < b / 18446744073709551616) = false := decide_eq_false (by omega)
  by_cases h2 : a % 18446744073709551616 = b % 18446744073709551616
  ·have q2 := s_eqT h2
   simp (maxSteps := 2000000) -implicitDefEqProofs (disch := (first | omega | rfl | assumption | (simp only [rsD]; first | omega | assumption))) only [wide_Cmp, wide_Cmp_c, wcs, q1, q2, Nat.reduceAdd, Nat.reduceMul, Nat.reduceLT, Int.reduceToNat, Int.reduceAdd, Int.reduceSub, Int.reduceMul, rsU, rsC]
   refine Ok_some.2 ⟨?_, (ext_of (by simp only [put_next, bump_next, kill_next]; omega) (fun b hb => by simp -implicitDefEqProofs (disch := (first | omega | rfl | assumption | (simp only [rsD]; first | omega | assumption))) only [s_bn, s_kn, bump_blk, s_ext]))⟩
   rw [if_neg (by omega), if_pos (by omega)]
  ·have q2 := s_eqF h2
   by_cases h3 : a % 18446744073709551616 < b % 18446744073709551616
   ·have l2 := decide_eq_true h3
    simp (maxSteps := 2000000) -implicitDefEqProofs (disch := (first | omega | rfl | assumption | (simp only [rsD]; first | omega | assumption))) only [wide_Cmp, wide_Cmp_c, wcs, q1, q2, l1, l2, beq_self_eq_true, Nat.reduceAdd, Nat.reduceMul, Nat.reduceLT, Int.reduceToNat, Int.reduceAdd, Int.reduceSub, Int.reduceMul, rsU, rsC]
    refine Ok_some.2 ⟨?_, (ext_of (by simp only [put_next, bump_next, kill_next]; omega) (fun b hb => by simp -implicitDefEqProofs (disch := (first | omega | rfl | assumption | (simp only [rsD]; first | omega | assumption))) only [s_bn, s_kn, bump_blk, s_ext]))⟩
    rw [if_pos (by omega)]
   ·have l2 := decide_eq_false h3
    simp (maxSteps := 2000000) -implicitDefEqProofs (disch := (first | omega | rfl | assumption | (simp only [rsD]; first | omega | assumption))) only [wide_Cmp, wide_Cmp_c, wcs, q1, q2, l1, l2, beq_self_eq_true, Nat.reduceAdd, Nat.reduceMul, Nat.reduceLT, Int.reduceToNat, Int.reduceAdd, Int.reduceSub, Int.reduceMul, rsU, rsC]
    refine Ok_some.2 ⟨?_, (ext_of (by simp only [put_next, bump_next, kill_next]; omega) (fun b hb => by simp -implicitDefEqProofs (disch := (first | omega | rfl | assumption | (simp only [rsD]; first | omega | assumption))) only [s_bn, s_kn, bump_blk, s_ext]))⟩
    rw [if_neg (by omega), if_neg (by omega)]
 ·have q1 := s_eqF h1
  have q3 : (false == true) = false := rfl
  have q4 : (true == false) = false := rfl
  by_cases h3 : a / 18446744073709551616 < b / 18446744073709551616
  ·have l1 := decide_eq_true h3
   simp (maxSteps := 2000000) -implicitDefEqProofs (disch := (first | omega | rfl | assumption | (simp only [rsD]; first | omega | assumption))) only [wide_Cmp, wide_Cmp_c, wcs, q1, l1, q3, q4, Nat.reduceAdd, Nat.reduceMul, Nat.reduceLT, Int.reduceToNat, Int.reduceAdd, Int.reduceSub, Int.reduceMul, rsU, rsC]
   refine Ok_some.2 ⟨?_, (ext_of (by simp only [put_next, bump_next, kill_next]; omega) (fun b hb => by simp -implicitDefEqProofs (disch := (first | omega | rfl | assumption | (simp only [rsD]; first | omega | assumption))) only [s_bn, s_kn, bump_blk, s_ext]))⟩
   rw [if_pos (by omega)]
  ·have l1 := decide_eq_false h3
   simp (maxSteps := 2000000) -implicitDefEqProofs (disch := (first | omega | rfl | assumption | (simp only [rsD]; first | omega | assumption))) only [wide_Cmp, wide_Cmp_c, wcs, q1, l1, q3, q4, beq_self_eq_true, Nat.reduceAdd, Nat.reduceMul, Nat.reduceLT, Int.reduceToNat, Int.reduceAdd, Int.reduceSub, Int.reduceMul, rsU, rsC]
   refine Ok_some.2 ⟨?_, (ext_of (by simp only [put_next, bump_next, kill_next]; omega) (fun b hb => by simp -implicitDefEqProofs (disch := (first | omega | rfl | assumption | (simp only [rsD]; first | omega | assumption))) only [s_bn, s_kn, bump_blk, s_ext]))⟩
   rw [if_neg (by omega), if_neg (by omega)]
theorem wless_ok {a b : Int} {J : AH O} (ha : 0 <= a /\ a < W128) (hb : 0 <= b /\ b < W128) : Ok (wide_Less [.agg (wcs a), .agg (wcs b)] J) fun r => r.1 = .b (decide (a < b)) /\ Ext J r.2 := by
 simp (maxSteps := 2000000) -implicitDefEqProofs (disch := (first | omega | rfl | assumption | (simp only [rsD]; first | omega | assumption))) only [wide_Less, wide_Less_c, wcs, Nat.reduceAdd, Nat.reduceMul, Nat.reduceLT, Int.reduceToNat, Int.reduceAdd, Int.reduceSub, Int.reduceMul, rsU, rsC]
 generalize hJ : AH.put _ (J.next + 1) _ = J1
 have E1 : Ext J J1 := by rw [<- hJ]; exact (ext_of (by simp only [put_next, bump_next, kill_next]; omega) (fun b hb => by simp -implicitDefEqProofs (disch := (first | omega | rfl | assumption | (simp only [rsD]; first | omega | assumption))) only [s_bn, s_kn, bump_blk, s_ext]))
 clear hJ
 have := wcmp_ok (J := J1) ha hb
 simp only [wcs] at this
 refine Ok.step this fun r ⟨g1, g2⟩ => ?_
 obtain ⟨q, J2⟩ := r
 simp only at g1 g2
 subst g1
 simp (maxSteps := 2000000) -implicitDefEqProofs (disch := (first | omega | rfl | assumption | (simp only [rsD]; first | omega | assumption))) only [Nat.reduceAdd, Nat.reduceMul, Nat.reduceLT, Int.reduceToNat, Int.reduceAdd, Int.reduceSub, Int.reduceMul, rsU, rsC]
 refine Ok_some.2 ⟨?_, E1.trans g2⟩
 by_cases c : a < b
 ·rw [if_pos c]; simp [c]
 ·rw [if_neg c]
  by_cases c2 : a = b
  ·rw [if_pos c2]; simp [c]
  ·rw [if_neg c2]; simp [c]
theorem sub64_eq {x y c : Int} {J : AH O} (hx : 0 <= x) (hy : 0 <= y /\ y < 18446744073709551616) (hc : 0 <= c /\ c <= 1) : bits_Sub64 [.i .u64 x, .i .u64 y, .i .u64 c] J = some (.tup [.i .u64 ((x - y - c) % 18446744073709551616), .i .u64 (if x < y + c then 1 else 0)], J) := by
 simp (maxSteps := 2000000) -implicitDefEqProofs (disch := (first | omega | rfl | assumption | (simp only [rsD]; first | omega | assumption))) only [bits_Sub64, Nat.reduceAdd, Nat.reduceMul, Nat.reduceLT, Int.reduceToNat, Int.reduceAdd, Int.reduceSub, Int.reduceMul, rsU, rsC]
theorem wsub_ok {a b : Int} {J : AH O} (hb : 0 <= b) (hab : b <= a) (ha : a < W128) : Ok (wide_Sub [.agg (wcs a), .agg (wcs b)] J) fun r => r.1 = .tup [.agg (wcs (a - b)), .b true] /\ Ext J r.2 := by
 unfold W128 at ha
 simp (maxSteps := 2000000) -implicitDefEqProofs (disch := (first | omega | rfl | assumption | (simp only [rsD]; first | omega | assumption))) only [wide_Sub, wide_Sub_c, wcs, Nat.reduceAdd, Nat.reduceMul, Nat.reduceLT, Int.reduceToNat, Int.reduceAdd, Int.reduceSub, Int.reduceMul, rsU, rsC]
 generalize hJ : AH.put _ (J.next + 1 + 1) _ = J1
 have E1 : Ext J J1 := by rw [<- hJ]; exact (ext_of (by simp only [put_next, bump_next, kill_next]; omega) (fun b hb => by simp -implicitDefEqProofs (disch := (first | omega | rfl | assumption | (simp only [rsD]; first | omega | assumption))) only [s_bn, s_kn, bump_blk, s_ext]))
 have n1 : J1.next = J.next + 3 := by rw [<- hJ]; rfl
 have b0 : ∃ el, J1.blk J.next = some (.cells true el [.i .u64 (a / 18446744073709551616), .i .u64 (a % 18446744073709551616)]) := by rw [<- hJ]; exact ⟨_, by rw [s_bn (by omega), s_bn (by omega)]; exact s_bs⟩
 have b1 : ∃ el, J1.blk (J.next + 1) = some (.cells true el [.i .u64 (b / 18446744073709551616), .i .u64 (b % 18446744073709551616)]) := by rw [<- hJ]; exact ⟨_, by rw [s_bn (by omega)]; exact s_bs⟩
 have b2 : ∃ el, J1.blk (J.next + 1 + 1) = some (.cells true el [.i .u64 0, .i .u64 0]) := by rw [<- hJ]; exact ⟨_, s_bs⟩
 clear hJ
 obtain ⟨x0, b0⟩ := b0
 obtain ⟨x1, b1⟩ := b1
 obtain ⟨x2, b2⟩ := b2
 have := wless_ok (J := J1) (a := a) (b := b) ⟨by omega, by unfold W128; omega⟩ ⟨by omega, by unfold W128; omega⟩
 simp only [wcs] at this
 refine Ok.step this fun r ⟨g1, g2⟩ => ?_
 obtain ⟨q, J2⟩ := r
 simp only at g1 g2
 subst g1
 have hd : decide (a < b) = false := decide_eq_false (by omega)
 have c0 : J2.blk J.next = _ := (g2.blk _ (by omega)).trans b0
 have c1 : J2.blk (J.next + 1) = _ := (g2.blk _ (by omega)).trans b1
 have c2 : J2.blk (J.next + 1 + 1) = _ := (g2.blk _ (by omega)).trans b2
 simp (maxSteps := 2000000) -implicitDefEqProofs (disch := (first | omega | rfl | assumption | (simp only [rsD]; first | omega | assumption))) only [hd, c0, c1, Nat.reduceAdd, Nat.reduceMul, Nat.reduceLT, Int.reduceToNat, Int.reduceAdd, Int.reduceSub, Int.reduceMul, rsU, rsC]
 rw [sub64_eq (by omega) (by omega) (by omega)]
 simp (maxSteps := 2000000) -implicitDefEqProofs (disch := (first | omega | rfl | assumption | (simp only [rsD]; first | omega | assumption))) only [c0, c1, Nat.reduceAdd, Nat.reduceMul, Nat.reduceLT, Int.reduceToNat, Int.reduceAdd, Int.reduceSub, Int.reduceMul, rsU, rsC]
 rw [sub64_eq (by omega) (by omega) (by split <;> omega)]
 simp (maxSteps := 2000000) -implicitDefEqProofs (disch := (first | omega | rfl | assumption | (simp only [rsD]; first | omega | assumption))) only [c2, Nat.reduceAdd, Nat.reduceMul, Nat.reduceLT, Int.reduceToNat, Int.reduceAdd, Int.reduceSub, Int.reduceMul, rsU, rsC]
 have E := E1.trans g2
 refine Ok_some.2 ⟨?_, ⟨by show J.next <= J2.next; exact E.next, fun q hq => ?_⟩⟩
 ·have e1 : (a / 18446744073709551616 - b / 18446744073709551616 - (if a % 18446744073709551616 < b % 18446744073709551616 + 0 then 1 else 0)) % 18446744073709551616 = (a - b) / 18446744073709551616 := by split <;> omega
  have e2 : (a % 18446744073709551616 - b % 18446744073709551616 - 0) % 18446744073709551616 = (a - b) % 18446744073709551616 := by omega
  rw [e1, e2]
 ·show (J2.put _ _).blk q = _
  rw [s_bn (by omega)]; exact E.blk q hq
theorem since_ok {J : AH O} {b : Nat} {m : Met} (h : MetAt J b m) (hm : m.ok) {s : Int} (h0 : 0 <= s) (hs : s <= m.r + m.w) : Ok (meter_Meter__Since [.p (some (.n b, 0)), .agg (wcs s)] J) fun r => r.1 = .agg (wcs (m.r + m.w - s)) /\ Ext J r.2 := by
 have hlt := h.lt
 have h1 := hm.r
 have h2 := hm.w
 simp (maxSteps := 2000000) -implicitDefEqProofs (disch := (first | omega | rfl | assumption | (simp only [rsD]; first | omega | assumption))) only [meter_Meter__Since, meter_Meter__Since_c, wcs, Nat.reduceAdd, Nat.reduceMul, Nat.reduceLT, Int.reduceToNat, Int.reduceAdd, Int.reduceSub, Int.reduceMul, rsU, rsC]
 generalize hJ : AH.bump _ 1 = J1
 have E1 : Ext J J1 := by rw [<- hJ]; exact (ext_of (by simp only [put_next, bump_next, kill_next]; omega) (fun b hb => by simp -implicitDefEqProofs (disch := (first | omega | rfl | assumption | (simp only [rsD]; first | omega | assumption))) only [s_bn, s_kn, bump_blk, s_ext]))
 have n1 : J1.next = J.next + 3 := by rw [<- hJ]; rfl
 have b0 : ∃ el, J1.blk J.next = some (.cells true el [.i .u64 (s / 18446744073709551616), .i .u64 (s % 18446744073709551616)]) := by rw [<- hJ]; exact ⟨_, by rw [bump_blk, s_bn (by omega)]; exact s_bs⟩
 have b1 : ∃ el, J1.blk (J.next + 1) = some (.cells true el [.i .u64 0, .i .u64 0]) := by rw [<- hJ]; exact ⟨_, s_bs⟩
 clear hJ
 obtain ⟨x0, b0⟩ := b0
 obtain ⟨x1, b1⟩ := b1
 have hM : MetAt J1 b m := h.of E1.next (E1.blk b hlt)
 refine Ok.step (steps_ok hM hm) fun r ⟨g1, g2⟩ => ?_
 obtain ⟨q, J2⟩ := r
 simp only at g1 g2
 subst g1
 have c0 : J2.blk J.next = _ := (g2.blk _ (by omega)).trans b0
 have c1 : J2.blk (J.next + 1) = _ := (g2.blk _ (by omega)).trans b1
 simp (maxSteps := 2000000) -implicitDefEqProofs (disch := (first | omega | rfl | assumption | (simp only [rsD]; first | omega | assumption))) only [c0, wcs, eq_self, Nat.reduceAdd, Nat.reduceMul, Nat.reduceLT, Int.reduceToNat, Int.reduceAdd, Int.reduceSub, Int.reduceMul, rsU, rsC]
 have := wsub_ok (J := J2) h0 hs (by unfold W128; omega)
 simp only [wcs] at this
 refine Ok.step this fun r ⟨g3, g4⟩ => ?_
 obtain ⟨q, J3⟩ := r
 simp only at g3 g4
 subst g3
 have n2 := g2.next
 have n3 := g4.next
 have d1 : J3.blk (J.next + 1) = _ := (g4.blk _ (by omega)).trans c1
 simp (maxSteps := 2000000) -implicitDefEqProofs (disch := (first | omega | rfl | assumption | (simp only [rsD]; first | omega | assumption))) only [d1, Nat.reduceAdd, Nat.reduceMul, Nat.reduceLT, Int.reduceToNat, Int.reduceAdd, Int.reduceSub, Int.reduceMul, rsU, rsC]
 have E := (E1.trans g2).trans g4
 refine Ok_some.2 ⟨rfl, ⟨by show J.next <= J3.next; exact E.next, fun q hq => ?_⟩⟩
 show AH.blk (AH.put (AH.put _ _ _) _ _) q = _
 rw [s_bn (by omega), s_bn (by omega)]; exact E.blk q hq
end Go.Abs.Tryz
