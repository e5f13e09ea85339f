/-
  The document's answer for layers 1 and 7, as it is run. No conditions.
-/
import Derived.Test.YtncohicmiihjiaaGreatM7
set_option linter.unusedVariables false
set_option linter.unusedSimpArgs false
set_option linter.constructorNameAsVariable false
set_option linter.unusedSimpArgs false
set_option linter.unusedVariables false
set_option maxHeartbeats 1000000
namespace Go.Abs.Tryz
open Go Go.Abs
variable {O : Type}
def p32 (a : Int) : List AV := [.i .u64 (a % 4294967296), .i .u64 (a / 4294967296 % 4294967296), .i .u64 (a / 18446744073709551616 % 4294967296), .i .u64 (a / 79228162514264337593543950336), .i .u64 0, .i .u64 0]
theorem parts_ok {a : Int} {J : AH O} (h0 : 0 <= a) (h0' : a < 340282366920938463463374607431768211456) : Ok (qsf [.agg (wcs a)] J) fun r => r.1 = .agg (p32 a) /\ Ext J r.2 := by
 simp (maxSteps := 2000000) -implicitDefEqProofs (disch := (first | omega | rfl | assumption | (simp only [rsD]; first | omega | assumption))) only [qsf, qse, wcs, s_tmod, s_tdiv, Nat.reduceAdd, Nat.reduceMul, Nat.reduceLT, Int.reduceToNat, Int.reduceAdd, Int.reduceSub, Int.reduceMul, rsU, rsC]
 refine Ok_some.2 ⟨?_, (ext_of (by simp only [put_next, bump_next, kill_next]; omega) (fun b hb => by simp -implicitDefEqProofs (disch := (first | omega | rfl | assumption | (simp only [rsD]; first | omega | assumption))) only [s_bn, s_kn, bump_blk, s_ext]))⟩
 have e1 : a % 18446744073709551616 % 4294967296 = a % 4294967296 := by omega
 have e2 : a % 18446744073709551616 / 4294967296 = a / 4294967296 % 4294967296 := by omega
 have e3 : a / 18446744073709551616 / 4294967296 = a / 79228162514264337593543950336 := by omega
 rw [p32, e1, e2, e3]
end Go.Abs.Tryz
namespace Go.Abs.Tryz
open Go Go.Abs
variable {O : Type}
abbrev W128 : Int := 340282366920938463463374607431768211456
theorem wcmp_ok {a b : Int} {J : AH O} (ha : 0 <= a /\ a < W128) (hb : 0 <= b /\ b < W128) : Ok (qrv [.agg (wcs a), .agg (wcs b)] J) fun r => r.1 = .i .i64 (if a < b then -1 else if a = b then 0 else 1) /\ Ext J r.2 := by
 unfold W128 at ha hb
 by_cases h1 : a / 18446744073709551616 = b / 18446744073709551616
 ·have q1 := s_eqT h1
  have l1 : decide (a / 18446744073709551616 < b / 18446744073709551616) = false := decide_eq_false (by omega)
  by_cases h2 : a % 18446744073709551616 = b % 18446744073709551616
  ·have q2 := s_eqT h2
   simp (maxSteps := 2000000) -implicitDefEqProofs (disch := (first | omega | rfl | assumption | (simp only [rsD]; first | omega | assumption))) only [qrv, qru, wcs, q1, q2, Nat.reduceAdd, Nat.reduceMul, Nat.reduceLT, Int.reduceToNat, Int.reduceAdd, Int.reduceSub, Int.reduceMul, rsU, rsC]
   refine Ok_some.2 ⟨?_, (ext_of (by simp only [put_next, bump_next, kill_next]; omega) (fun b hb => by simp -implicitDefEqProofs (disch := (first | omega | rfl | assumption | (simp only [rsD]; first | omega | assumption))) only [s_bn, s_kn, bump_blk, s_ext]))⟩
   rw [if_neg (by omega), if_pos (by omega)]
  ·have q2 := s_eqF h2
   by_cases h3 : a % 18446744073709551616 < b % 18446744073709551616
   ·have l2 := decide_eq_true h3
    simp (maxSteps := 2000000) -implicitDefEqProofs (disch := (first | omega | rfl | assumption | (simp only [rsD]; first | omega | assumption))) only [qrv, qru, wcs, q1, q2, l1, l2, beq_self_eq_true, Nat.reduceAdd, Nat.reduceMul, Nat.reduceLT, Int.reduceToNat, Int.reduceAdd, Int.reduceSub, Int.reduceMul, rsU, rsC]
    refine Ok_some.2 ⟨?_, (ext_of (by simp only [put_next, bump_next, kill_next]; omega) (fun b hb => by simp -implicitDefEqProofs (disch := (first | omega | rfl | assumption | (simp only [rsD]; first | omega | assumption))) only [s_bn, s_kn, bump_blk, s_ext]))⟩
    rw [if_pos (by omega)]
   ·have l2 := decide_eq_false h3
    simp (maxSteps := 2000000) -implicitDefEqProofs (disch := (first | omega | rfl | assumption | (simp only [rsD]; first | omega | assumption))) only [qrv, qru, wcs, q1, q2, l1, l2, beq_self_eq_true, Nat.reduceAdd, Nat.reduceMul, Nat.reduceLT, Int.reduceToNat, Int.reduceAdd, Int.reduceSub, Int.reduceMul, rsU, rsC]
    refine Ok_some.2 ⟨?_, (ext_of (by simp only [put_next, bump_next, kill_next]; omega) (fun b hb => by simp -implicitDefEqProofs (disch := (first | omega | rfl | assumption | (simp only [rsD]; first | omega | assumption))) only [s_bn, s_kn, bump_blk, s_ext]))⟩
    rw [if_neg (by omega), if_neg (by omega)]
 ·have q1 := s_eqF h1
  have q3 : (false == true) = false := rfl
  have q4 : (true == false) = false := rfl
  by_cases h3 : a / 18446744073709551616 < b / 18446744073709551616
  ·have l1 := decide_eq_true h3
   simp (maxSteps := 2000000) -implicitDefEqProofs (disch := (first | omega | rfl | assumption | (simp only [rsD]; first | omega | assumption))) only [qrv, qru, wcs, q1, l1, q3, q4, Nat.reduceAdd, Nat.reduceMul, Nat.reduceLT, Int.reduceToNat, Int.reduceAdd, Int.reduceSub, Int.reduceMul, rsU, rsC]
   refine Ok_some.2 ⟨?_, (ext_of (by simp only [put_next, bump_next, kill_next]; omega) (fun b hb => by simp -implicitDefEqProofs (disch := (first | omega | rfl | assumption | (simp only [rsD]; first | omega | assumption))) only [s_bn, s_kn, bump_blk, s_ext]))⟩
   rw [if_pos (by omega)]
  ·have l1 := decide_eq_false h3
   simp (maxSteps := 2000000) -implicitDefEqProofs (disch := (first | omega | rfl | assumption | (simp only [rsD]; first | omega | assumption))) only [qrv, qru, wcs, q1, l1, q3, q4, beq_self_eq_true, Nat.reduceAdd, Nat.reduceMul, Nat.reduceLT, Int.reduceToNat, Int.reduceAdd, Int.reduceSub, Int.reduceMul, rsU, rsC]
   refine Ok_some.2 ⟨?_, (ext_of (by simp only [put_next, bump_next, kill_next]; omega) (fun b hb => by simp -implicitDefEqProofs (disch := (first | omega | rfl | assumption | (simp only [rsD]; first | omega | assumption))) only [s_bn, s_kn, bump_blk, s_ext]))⟩
   rw [if_neg (by omega), if_neg (by omega)]
theorem wless_ok {a b : Int} {J : AH O} (ha : 0 <= a /\ a < W128) (hb : 0 <= b /\ b < W128) : Ok (qr0 [.agg (wcs a), .agg (wcs b)] J) fun r => r.1 = .b (decide (a < b)) /\ Ext J r.2 := by
 simp (maxSteps := 2000000) -implicitDefEqProofs (disch := (first | omega | rfl | assumption | (simp only [rsD]; first | omega | assumption))) only [qr0, qrz, wcs, Nat.reduceAdd, Nat.reduceMul, Nat.reduceLT, Int.reduceToNat, Int.reduceAdd, Int.reduceSub, Int.reduceMul, rsU, rsC]
 generalize hJ : AH.put _ (J.next + 1) _ = J1
 have E1 : Ext J J1 := by rw [<- hJ]; exact (ext_of (by simp only [put_next, bump_next, kill_next]; omega) (fun b hb => by simp -implicitDefEqProofs (disch := (first | omega | rfl | assumption | (simp only [rsD]; first | omega | assumption))) only [s_bn, s_kn, bump_blk, s_ext]))
 clear hJ
 have := wcmp_ok (J := J1) ha hb
 simp only [wcs] at this
 refine Ok.step this fun r ⟨g1, g2⟩ => ?_
 obtain ⟨q, J2⟩ := r
 simp only at g1 g2
 subst g1
 simp (maxSteps := 2000000) -implicitDefEqProofs (disch := (first | omega | rfl | assumption | (simp only [rsD]; first | omega | assumption))) only [Nat.reduceAdd, Nat.reduceMul, Nat.reduceLT, Int.reduceToNat, Int.reduceAdd, Int.reduceSub, Int.reduceMul, rsU, rsC]
 refine Ok_some.2 ⟨?_, E1.trans g2⟩
 by_cases c : a < b
 ·rw [if_pos c]; simp [c]
 ·rw [if_neg c]
  by_cases c2 : a = b
  ·rw [if_pos c2]; simp [c]
  ·rw [if_neg c2]; simp [c]
theorem sub64_eq {x y c : Int} {J : AH O} (hx : 0 <= x) (hy : 0 <= y /\ y < 18446744073709551616) (hc : 0 <= c /\ c <= 1) : bits_Sub64 [.i .u64 x, .i .u64 y, .i .u64 c] J = some (.tup [.i .u64 ((x - y - c) % 18446744073709551616), .i .u64 (if x < y + c then 1 else 0)], J) := by
 simp (maxSteps := 2000000) -implicitDefEqProofs (disch := (first | omega | rfl | assumption | (simp only [rsD]; first | omega | assumption))) only [bits_Sub64, Nat.reduceAdd, Nat.reduceMul, Nat.reduceLT, Int.reduceToNat, Int.reduceAdd, Int.reduceSub, Int.reduceMul, rsU, rsC]
theorem wsub_ok {a b : Int} {J : AH O} (hb : 0 <= b) (hab : b <= a) (ha : a < W128) : Ok (qr5 [.agg (wcs a), .agg (wcs b)] J) fun r => r.1 = .tup [.agg (wcs (a - b)), .b true] /\ Ext J r.2 := by
 unfold W128 at ha
 simp (maxSteps := 2000000) -implicitDefEqProofs (disch := (first | omega | rfl | assumption | (simp only [rsD]; first | omega | assumption))) only [qr5, qr4, wcs, Nat.reduceAdd, Nat.reduceMul, Nat.reduceLT, Int.reduceToNat, Int.reduceAdd, Int.reduceSub, Int.reduceMul, rsU, rsC]
 generalize hJ : AH.put _ (J.next + 1 + 1) _ = J1
 have E1 : Ext J J1 := by rw [<- hJ]; exact (ext_of (by simp only [put_next, bump_next, kill_next]; omega) (fun b hb => by simp -implicitDefEqProofs (disch := (first | omega | rfl | assumption | (simp only [rsD]; first | omega | assumption))) only [s_bn, s_kn, bump_blk, s_ext]))
 have n1 : J1.next = J.next + 3 := by rw [<- hJ]; rfl
 have b0 : ∃ el, J1.blk J.next = some (.cells true el [.i .u64 (a / 18446744073709551616), .i .u64 (a % 18446744073709551616)]) := by rw [<- hJ]; exact ⟨_, by rw [s_bn (by omega), s_bn (by omega)]; exact s_bs⟩
 have b1 : ∃ el, J1.blk (J.next + 1) = some (.cells true el [.i .u64 (b / 18446744073709551616), .i .u64 (b % 18446744073709551616)]) := by rw [<- hJ]; exact ⟨_, by rw [s_bn (by omega)]; exact s_bs⟩
 have b2 : ∃ el, J1.blk (J.next + 1 + 1) = some (.cells true el [.i .u64 0, .i .u64 0]) := by rw [<- hJ]; exact ⟨_, s_bs⟩
 clear hJ
 obtain ⟨x0, b0⟩ := b0
 obtain ⟨x1, b1⟩ := b1
 obtain ⟨x2, b2⟩ := b2
 have := wless_ok (J := J1) (a := a) (b := b) ⟨by omega, by unfold W128; omega⟩ ⟨by omega, by unfold W128; omega⟩
 simp only [wcs] at this
 refine Ok.step this fun r ⟨g1, g2⟩ => ?_
 obtain ⟨q, J2⟩ := r
 simp only at g1 g2
 subst g1
 have hd : decide (a < b) = false := decide_eq_false (by omega)
 have c0 : J2.blk J.next = _ := (g2.blk _ (by omega)).trans b0
 have c1 : J2.blk (J.next + 1) = _ := (g2.blk _ (by omega)).trans b1
 have c2 : J2.blk (J.next + 1 + 1) = _ := (g2.blk _ (by omega)).trans b2
 simp (maxSteps := 2000000) -implicitDefEqProofs (disch := (first | omega | rfl | assumption | (simp only [rsD]; first | omega | assumption))) only [hd, c0, c1, Nat.reduceAdd, Nat.reduceMul, Nat.reduceLT, Int.reduceToNat, Int.reduceAdd, Int.reduceSub, Int.reduceMul, rsU, rsC]
 rw [sub64_eq (by omega) (by omega) (by omega)]
 simp (maxSteps := 2000000) -implicitDefEqProofs (disch := (first | omega | rfl | assumption | (simp only [rsD]; first | omega | assumption))) only [c0, c1, Nat.reduceAdd, Nat.reduceMul, Nat.reduceLT, Int.reduceToNat, Int.reduceAdd, Int.reduceSub, Int.reduceMul, rsU, rsC]
 rw [sub64_eq (by omega) (by omega) (by split <;> omega)]
 simp (maxSteps := 2000000) -implicitDefEqProofs (disch := (first | omega | rfl | assumption | (simp only [rsD]; first | omega | assumption))) only [c2, Nat.reduceAdd, Nat.reduceMul, Nat.reduceLT, Int.reduceToNat, Int.reduceAdd, Int.reduceSub, Int.reduceMul, rsU, rsC]
 have E := E1.trans g2
 refine Ok_some.2 ⟨?_, ⟨by show J.next <= J2.next; exact E.next, fun q hq => ?_⟩⟩
 ·have e1 : (a / 18446744073709551616 - b / 18446744073709551616 - (if a % 18446744073709551616 < b % 18446744073709551616 + 0 then 1 else 0)) % 18446744073709551616 = (a - b) / 18446744073709551616 := by split <;> omega
  have e2 : (a % 18446744073709551616 - b % 18446744073709551616 - 0) % 18446744073709551616 = (a - b) % 18446744073709551616 := by omega
  rw [e1, e2]
 ·show (J2.put _ _).blk q = _
  rw [s_bn (by omega)]; exact E.blk q hq
theorem since_ok {J : AH O} {b : Nat} {m : Met} (h : MetAt J b m) (hm : m.ok) {s : Int} (h0 : 0 <= s) (hs : s <= m.r + m.w) : Ok (qsa [.p (some (.n b, 0)), .agg (wcs s)] J) fun r => r.1 = .agg (wcs (m.r + m.w - s)) /\ Ext J r.2 := by
 have hlt := h.lt
 have h1 := hm.r
 have h2 := hm.w
 simp (maxSteps := 2000000) -implicitDefEqProofs (disch := (first | omega | rfl | assumption | (simp only [rsD]; first | omega | assumption))) only [qsa, qr9, wcs, Nat.reduceAdd, Nat.reduceMul, Nat.reduceLT, Int.reduceToNat, Int.reduceAdd, Int.reduceSub, Int.reduceMul, rsU, rsC]
 generalize hJ : AH.bump _ 1 = J1
 have E1 : Ext J J1 := by rw [<- hJ]; exact (ext_of (by simp only [put_next, bump_next, kill_next]; omega) (fun b hb => by simp -implicitDefEqProofs (disch := (first | omega | rfl | assumption | (simp only [rsD]; first | omega | assumption))) only [s_bn, s_kn, bump_blk, s_ext]))
 have n1 : J1.next = J.next + 3 := by rw [<- hJ]; rfl
 have b0 : ∃ el, J1.blk J.next = some (.cells true el [.i .u64 (s / 18446744073709551616), .i .u64 (s % 18446744073709551616)]) := by rw [<- hJ]; exact ⟨_, by rw [bump_blk, s_bn (by omega)]; exact s_bs⟩
 have b1 : ∃ el, J1.blk (J.next + 1) = some (.cells true el [.i .u64 0, .i .u64 0]) := by rw [<- hJ]; exact ⟨_, s_bs⟩
 clear hJ
 obtain ⟨x0, b0⟩ := b0
 obtain ⟨x1, b1⟩ := b1
 have hM : MetAt J1 b m := h.of E1.next (E1.blk b hlt)
 refine Ok.step (steps_ok hM hm) fun r ⟨g1, g2⟩ => ?_
 obtain ⟨q, J2⟩ := r
 simp only at g1 g2
 subst g1
 have c0 : J2.blk J.next = _ := (g2.blk _ (by omega)).trans b0
 have c1 : J2.blk (J.next + 1) = _ := (g2.blk _ (by omega)).trans b1
 simp (maxSteps := 2000000) -implicitDefEqProofs (disch := (first | omega | rfl | assumption | (simp only [rsD]; first | omega | assumption))) only [c0, wcs, eq_self, Nat.reduceAdd, Nat.reduceMul, Nat.reduceLT, Int.reduceToNat, Int.reduceAdd, Int.reduceSub, Int.reduceMul, rsU, rsC]
 have := wsub_ok (J := J2) h0 hs (by unfold W128; omega)
 simp only [wcs] at this
 refine Ok.step this fun r ⟨g3, g4⟩ => ?_
 obtain ⟨q, J3⟩ := r
 simp only at g3 g4
 subst g3
 have n2 := g2.next
 have n3 := g4.next
 have d1 : J3.blk (J.next + 1) = _ := (g4.blk _ (by omega)).trans c1
 simp (maxSteps := 2000000) -implicitDefEqProofs (disch := (first | omega | rfl | assumption | (simp only [rsD]; first | omega | assumption))) only [d1, Nat.reduceAdd, Nat.reduceMul, Nat.reduceLT, Int.reduceToNat, Int.reduceAdd, Int.reduceSub, Int.reduceMul, rsU, rsC]
 have E := (E1.trans g2).trans g4
 refine Ok_some.2 ⟨rfl, ⟨by show J.next <= J3.next; exact E.next, fun q hq => ?_⟩⟩
 show AH.blk (AH.put (AH.put _ _ _) _ _) q = _
 rw [s_bn (by omega), s_bn (by omega)]; exact E.blk q hq
theorem rcmp_le {a b : Int} {J : AH O} (h0 : 0 <= a) (hab : a <= b) (hb : b < 4294967296) : Ok (qac [.agg (wcs a), .agg (wcs b)] J) fun r => (∃ n, r.1 = .i .i64 n /\ n <= 0) /\ Ext J r.2 := by
 simp (maxSteps := 2000000) -implicitDefEqProofs (disch := (first | omega | rfl | assumption | (simp only [rsD]; first | omega | assumption))) only [qac, qab, wcs, Nat.reduceAdd, Nat.reduceMul, Nat.reduceLT, Int.reduceToNat, Int.reduceAdd, Int.reduceSub, Int.reduceMul, rsU, rsC]
 generalize hJ : AH.bump _ 2 = J1
 have E1 : Ext J J1 := by rw [<- hJ]; exact (ext_of (by simp only [put_next, bump_next, kill_next]; omega) (fun b hb => by simp -implicitDefEqProofs (disch := (first | omega | rfl | assumption | (simp only [rsD]; first | omega | assumption))) only [s_bn, s_kn, bump_blk, s_ext]))
 have n1 : J1.next = J.next + 4 := by rw [<- hJ]; rfl
 have b1 : ∃ el, J1.blk (J.next + 1) = some (.cells true el [.i .u64 (b / 18446744073709551616), .i .u64 (b % 18446744073709551616)]) := by rw [<- hJ]; exact ⟨_, s_bs⟩
 clear hJ
 obtain ⟨x1, b1⟩ := b1
 have := parts_ok (J := J1) h0 (by omega)
 simp only [wcs] at this
 refine Ok.step this fun r ⟨g1, g2⟩ => ?_
 obtain ⟨q, J2⟩ := r
 simp only at g1 g2
 subst g1
 have c1 : J2.blk (J.next + 1) = _ := (g2.blk _ (by omega)).trans b1
 simp (maxSteps := 2000000) -implicitDefEqProofs (disch := (first | omega | rfl | assumption | (simp only [rsD]; first | omega | assumption))) only [c1, p32, eq_self, Nat.reduceAdd, Nat.reduceMul, Nat.reduceLT, Int.reduceToNat, Int.reduceAdd, Int.reduceSub, Int.reduceMul, rsU, rsC]
 have := parts_ok (J := J2) (a := b) (by omega) (by omega)
 simp only [wcs] at this
 refine Ok.step this fun r ⟨g3, g4⟩ => ?_
 obtain ⟨q, J3⟩ := r
 simp only at g3 g4
 subst g3
 have n2 := g2.next
 have n3 := g4.next
 simp (maxSteps := 2000000) -implicitDefEqProofs (disch := (first | omega | rfl | assumption | (simp only [rsD]; first | omega | assumption))) only [p32, Nat.reduceAdd, Nat.reduceMul, Nat.reduceLT, Int.reduceToNat, Int.reduceAdd, Int.reduceSub, Int.reduceMul, rsU, rsC]
 have z1 : a % 4294967296 = a := by omega
 have z2 : a / 4294967296 % 4294967296 = 0 := by omega
 have z3 : a / 18446744073709551616 % 4294967296 = 0 := by omega
 have z4 : a / 79228162514264337593543950336 = 0 := by omega
 have y1 : b % 4294967296 = b := by omega
 have y2 : b / 4294967296 % 4294967296 = 0 := by omega
 have y3 : b / 18446744073709551616 % 4294967296 = 0 := by omega
 have y4 : b / 79228162514264337593543950336 = 0 := by omega
 rw [z1, z2, z3, z4, y1, y2, y3, y4]
 generalize hJ : AH.put _ (J.next + 2 + 1) _ = J4
 have E4 : Ext J J4 := by
  have E := (E1.trans g2).trans g4
  refine ⟨by rw [<- hJ]; exact E.next, fun q hq => ?_⟩
  rw [<- hJ]; simp -implicitDefEqProofs (disch := omega) only [s_bn, s_bs, s_kn, bump_blk]; exact E.blk q hq
 have d0 : ∃ el, J4.blk (J.next + 2) = some (.cells true el [.i .u64 a, .i .u64 0, .i .u64 0, .i .u64 0, .i .u64 0, .i .u64 0]) := by rw [<- hJ]; exact ⟨_, by rw [s_bn (by omega)]; exact s_bs⟩
 have d1 : ∃ el, J4.blk (J.next + 2 + 1) = some (.cells true el [.i .u64 b, .i .u64 0, .i .u64 0, .i .u64 0, .i .u64 0, .i .u64 0]) := by rw [<- hJ]; exact ⟨_, s_bs⟩
 clear hJ
 obtain ⟨u0, d0⟩ := d0
 obtain ⟨u1, d1⟩ := d1
 have hN : ∀ x y : Blk O, (((J.bump 2).put J.next x).put (J.next + 1) y).next = J.next + 2 := fun _ _ => rfl
 rw [loopF_eq]
 simp (maxSteps := 2000000) -implicitDefEqProofs (disch := (first | omega | rfl | assumption | (simp only [rsD]; first | omega | assumption))) only [qaa, d0, d1, hN, Nat.reduceAdd, Nat.reduceMul, Nat.reduceLT, Int.reduceToNat, Int.reduceAdd, Int.reduceSub, Int.reduceMul, rsU, rsC]
 rw [loopF_eq]
 simp (maxSteps := 2000000) -implicitDefEqProofs (disch := (first | omega | rfl | assumption | (simp only [rsD]; first | omega | assumption))) only [qaa, d0, d1, hN, Nat.reduceAdd, Nat.reduceMul, Nat.reduceLT, Int.reduceToNat, Int.reduceAdd, Int.reduceSub, Int.reduceMul, rsU, rsC]
 rw [loopF_eq]
 simp (maxSteps := 2000000) -implicitDefEqProofs (disch := (first | omega | rfl | assumption | (simp only [rsD]; first | omega | assumption))) only [qaa, d0, d1, hN, Nat.reduceAdd, Nat.reduceMul, Nat.reduceLT, Int.reduceToNat, Int.reduceAdd, Int.reduceSub, Int.reduceMul, rsU, rsC]
 rw [loopF_eq]
 by_cases c : a < b
 ·have l1 := decide_eq_true c
  simp (maxSteps := 2000000) -implicitDefEqProofs (disch := (first | omega | rfl | assumption | (simp only [rsD]; first | omega | assumption))) only [qaa, d0, d1, hN, l1, Nat.reduceAdd, Nat.reduceMul, Nat.reduceLT, Int.reduceToNat, Int.reduceAdd, Int.reduceSub, Int.reduceMul, rsU, rsC]
  exact Ok_some.2 ⟨⟨_, rfl, by omega⟩, E4⟩
 ·have l1 := decide_eq_false c
  have l2 : decide (a > b) = false := decide_eq_false (by omega)
  simp (maxSteps := 2000000) -implicitDefEqProofs (disch := (first | omega | rfl | assumption | (simp only [rsD]; first | omega | assumption))) only [qaa, d0, d1, hN, l1, l2, Nat.reduceAdd, Nat.reduceMul, Nat.reduceLT, Int.reduceToNat, Int.reduceAdd, Int.reduceSub, Int.reduceMul, rsU, rsC]
  rw [loopF_eq]
  simp (maxSteps := 2000000) -implicitDefEqProofs (disch := (first | omega | rfl | assumption | (simp only [rsD]; first | omega | assumption))) only [qaa, d0, d1, hN, Nat.reduceAdd, Nat.reduceMul, Nat.reduceLT, Int.reduceToNat, Int.reduceAdd, Int.reduceSub, Int.reduceMul, rsU, rsC]
  exact Ok_some.2 ⟨⟨_, rfl, by omega⟩, E4⟩
end Go.Abs.Tryz
