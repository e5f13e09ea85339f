/-
  Layer 36: a call at both, and what is known of a node. No conditions.
-/
import Derived.Test.YthkpjongjnjfgaaM36
import Derived.Test.YthkpjongjnjfgaaAbsIn
import Derived.Test.YthkpjongjnjfgaaN1
import Derived.Test.YthkpjongjnjfgaaS8g
set_option linter.unusedVariables false
set_option linter.unusedSimpArgs false
set_option linter.constructorNameAsVariable false
set_option linter.unusedSimpArgs false
set_option linter.unusedVariables false
set_option linter.unusedSectionVars false
set_option maxHeartbeats 2000000
namespace Go.Abs.Try
open Go Go.Abs
variable {O : Type}
section kn
variable {J : AH O} {gb mb : Nat} {D : List DN} {N : Nat -> Nat}
theorem GAt.put (h : GAt J gb mb D N) {b : Nat} {x : Blk O} (hb : Free gb mb D N b) : GAt (J.put b x) gb mb D N := h.of (Nat.le_refl _) fun q _ hq => by
 by_cases c : q = b
 ·subst c; exact absurd hb hq
 ·exact s_bn c
theorem GAt.free (h : GAt J gb mb D N) {b : Nat} (hb : J.next <= b) : Free gb mb D N b := ⟨by have := h.gl; omega, by have := h.gl; have := h.o; omega, fun i hi => .inr (by have := (h.lo i hi).2; omega)⟩
theorem known_same (G : GAt J gb mb D N) (hs : Small36 D) {a : SA} (hd : DAt a D) {id i : Int} (hr : -9223372036854775808 <= id /\ id <= 9223372036854775807) :
  Ok (law36_known [.p (some (.n gb, 0)), .sl a D.length, .i .i64 id, .i .i64 i] J) fun r => r.1 = .b true /\ Ext J r.2 := by
 have hn := hs.n
 have t1 : (true == true) = true := rfl
 have t2 : (false == false) = true := rfl
 have fr := G.free (Nat.le_refl J.next)
 have G1 := G.ext (J' := J.bump 1) (ext_of (by simp only [put_next, bump_next, kill_next]; omega) (fun b hb => by simp -implicitDefEqProofs (disch := (first | omega | rfl | assumption | (simp only [rsD]; first | omega | assumption))) only [s_bn, s_kn, bump_blk, s_ext]))
 simp (maxSteps := 2000000) -implicitDefEqProofs (disch := (first | omega | rfl | assumption | (simp only [rsD]; first | omega | assumption))) only [law36_known, law36_known_c, Nat.reduceAdd, Nat.reduceMul, Nat.reduceLT, Int.reduceToNat, Int.reduceAdd, Int.reduceSub, Int.reduceMul, rsU, rsC]
 refine Ok.step (ghead_ok G1 (id := id)) fun q ⟨q1, q2⟩ => ?_
 obtain ⟨q, J1⟩ := q
 simp only at q1 q2
 subst q1
 have nx := q2.next
 simp only [rsD] at nx
 obtain ⟨hv, e, hq⟩ : ∃ (hv : HV) (e : Int), headV D id = .tup [.agg [.i .i64 hv.p, .i .i64 hv.r, .i .i64 hv.site, .i .i64 hv.age, .b hv.large], .i .i64 e] /\ (liveAt D id = none -> hv = ⟨0, 0, 0, 0, false⟩ /\ e = 4) /\ ∀ x, liveAt D id = some x -> hv = x.h /\ e = 0 := by
  unfold headV
  cases hl : liveAt D id with
  | none => exact ⟨⟨0, 0, 0, 0, false⟩, 4, rfl, fun _ => ⟨rfl, rfl⟩, fun x h => (by cases h)⟩
  | some x => exact ⟨x.h, 0, rfl, fun h => (by cases h), fun y h => by cases h; exact ⟨rfl, rfl⟩⟩
 rw [hq.1]
 have G2 : GAt (J1.put J.next (.cells true 53 [.i .i64 hv.p, .i .i64 hv.r, .i .i64 hv.site, .i .i64 hv.age, .b hv.large])) gb mb D N := (G1.ext q2).put fr
 simp (maxSteps := 2000000) -implicitDefEqProofs (disch := (first | omega | rfl | assumption | (simp only [rsD]; first | omega | assumption))) only [s_pp, Nat.reduceAdd, Nat.reduceMul, Nat.reduceLT, Int.reduceToNat, Int.reduceAdd, Int.reduceSub, Int.reduceMul, rsU, rsC]
 have P1 := gptr_ok G2 (id := id) (i := i)
 have R1 := graw_ok G2 (id := id) (i := i)
 have E2 : Ext J (J1.put J.next (.cells true 53 [.i .i64 hv.p, .i .i64 hv.r, .i .i64 hv.site, .i .i64 hv.age, .b hv.large])) := ⟨by show J.next <= J1.next; omega, fun b hb => by rw [s_bn (by omega), q2.blk b (by simp; omega)]; rfl⟩
 have bx : (J1.put J.next (.cells true 53 [.i .i64 hv.p, .i .i64 hv.r, .i .i64 hv.site, .i .i64 hv.age, .b hv.large])).blk J.next = some (.cells true 53 [.i .i64 hv.p, .i .i64 hv.r, .i .i64 hv.site, .i .i64 hv.age, .b hv.large]) := s_bs
 have n2 : (J1.put J.next (.cells true 53 [.i .i64 hv.p, .i .i64 hv.r, .i .i64 hv.site, .i .i64 hv.age, .b hv.large])).next = J1.next := rfl
 generalize AH.put J1 J.next _ = J2 at *
 have P2 := dptr_ok (J := J2) hd hs (id := id) (i := i) hr
 have R2 := draw_ok (J := J2) hd hs (id := id) (i := i) hr
 have bb : ∀ z : Int, (z == z) = true := fun z => by simp
 simp (maxSteps := 2000000) -implicitDefEqProofs (disch := (first | omega | rfl | assumption | (simp only [rsD]; first | omega | assumption))) only [P1, R1, P2, R2, bb, t2, Nat.reduceAdd, Nat.reduceMul, Nat.reduceLT, Int.reduceToNat, Int.reduceAdd, Int.reduceSub, Int.reduceMul, rsU, rsC]
 refine Ok.step (gedges_ok G2 hs (id := id)) fun q ⟨a1, q3, N1⟩ => ?_
 obtain ⟨q, J3⟩ := q
 simp only at q3 N1
 subst q3
 simp (maxSteps := 2000000) -implicitDefEqProofs (disch := (first | omega | rfl | assumption | (simp only [rsD]; first | omega | assumption))) only [Nat.reduceAdd, Nat.reduceMul, Nat.reduceLT, Int.reduceToNat, Int.reduceAdd, Int.reduceSub, Int.reduceMul, rsU, rsC]
 refine Ok.step (dedges_ok hd hs (id := id) hr) fun q ⟨a2, q3, N2⟩ => ?_
 obtain ⟨q, J4⟩ := q
 simp only at q3 N2
 subst q3
 simp (maxSteps := 2000000) -implicitDefEqProofs (disch := (first | omega | rfl | assumption | (simp only [rsD]; first | omega | assumption))) only [Nat.reduceAdd, Nat.reduceMul, Nat.reduceLT, Int.reduceToNat, Int.reduceAdd, Int.reduceSub, Int.reduceMul, rsU, rsC]
 have le : (edgesD D id).length <= 100000 := by
  unfold edgesD
  cases hl : liveAt D id with
  | none => simp
  | some x =>
   obtain ⟨k, _, hx, _⟩ := liveAt_some hl
   have := (hs.p x (List.mem_of_getElem? hx)).1
   have := List.length_filter_le nz x.P
   simp only; omega
 have r1 : Rd J4 1 a1 (edgesD D id).length ((edgesD D id).map (.i .i64)) := N1.rd.of fun b hb => N2.e.blk b (N1.o.lt b hb)
 refine Ok.step (same02r r1 N2.rd le le) fun q hq4 => ?_
 subst hq4
 have E4 : Ext J2 J4 := N1.e.trans N2.e
 have G4 := G2.ext E4
 have I1 := gis_ok G4 (id := id)
 have I2 := dis_ok (J := J4) hd hn hr
 have bx4 := (E4.blk J.next (by omega)).trans bx
 rw [decide_eq_true rfl]
 cases hl : liveAt D id with
 | none =>
  rw [hl] at I1 I2
  obtain ⟨rfl, rfl⟩ := hq.2.1 hl
  simp (maxSteps := 2000000) -implicitDefEqProofs (disch := (first | omega | rfl | assumption | (simp only [rsD]; first | omega | assumption))) only [I2, Option.isSome_none, I1, bx4, t1, bb, Nat.reduceAdd, Nat.reduceMul, Nat.reduceLT, Int.reduceToNat, Int.reduceAdd, Int.reduceSub, Int.reduceMul, rsU, rsC]
  exact Ok_some.2 ⟨rfl, E2.trans E4⟩
 | some x =>
  rw [hl] at I1 I2
  obtain ⟨rfl, rfl⟩ := hq.2.2 x hl
  obtain ⟨k, rfl, hx, hgn, hk⟩ := liveAt_some hl
  obtain ⟨b, o, c, d, rfl, _, _, ld⟩ := hd.node hx
  obtain ⟨w0, w1, w2, w3, w4, _⟩ := ld O J4
  have e1 : (k : Int) + 1 - 1 = k := by omega
  have bl : (x.h.large == x.h.large) = true := by simp
  simp (maxSteps := 2000000) -implicitDefEqProofs (disch := (first | omega | rfl | assumption | (simp only [rsD]; first | omega | assumption))) only [I2, Option.isSome_some, I1, bx4, t1, bb, e1, w0, w1, w2, w3, w4, bl, Nat.reduceAdd, Nat.reduceMul, Nat.reduceLT, Int.reduceToNat, Int.reduceAdd, Int.reduceSub, Int.reduceMul, rsU, rsC]
  exact Ok_some.2 ⟨rfl, E2.trans E4⟩
theorem dnil : DAt .nil [] := Row.nil DN.len
theorem small_nil : Small36 [] := ⟨by simp, fun x h => by simp at h⟩
theorem known_nil (G : GAt J gb mb D N) (hs : Small36 D) {id i : Int} (hr : -9223372036854775808 <= id /\ id <= 9223372036854775807) :
  Ok (law36_known [.p (some (.n gb, 0)), .sl .nil 0, .i .i64 id, .i .i64 i] J) fun r => (∃ ok, r.1 = .b ok) /\ Ext J r.2 := by
 cases hl : liveAt D id with
 | none =>
  have fr := G.free (Nat.le_refl J.next)
  have G1 := G.ext (J' := J.bump 1) (ext_of (by simp only [put_next, bump_next, kill_next]; omega) (fun b hb => by simp -implicitDefEqProofs (disch := (first | omega | rfl | assumption | (simp only [rsD]; first | omega | assumption))) only [s_bn, s_kn, bump_blk, s_ext]))
  have t1 : (true == true) = true := rfl
  have t2 : (false == false) = true := rfl
  have hq : headV D id = .tup [.agg [.i .i64 0, .i .i64 0, .i .i64 0, .i .i64 0, .b false], .i .i64 4] := by unfold headV; rw [hl]
  simp (maxSteps := 2000000) -implicitDefEqProofs (disch := (first | omega | rfl | assumption | (simp only [rsD]; first | omega | assumption))) only [law36_known, law36_known_c, Nat.reduceAdd, Nat.reduceMul, Nat.reduceLT, Int.reduceToNat, Int.reduceAdd, Int.reduceSub, Int.reduceMul, rsU, rsC]
  refine Ok.step (ghead_ok G1 (id := id)) fun q ⟨q1, q2⟩ => ?_
  obtain ⟨q, J1⟩ := q
  simp only at q1 q2
  subst q1
  have nx := q2.next
  simp only [rsD] at nx
  rw [hq]
  have G2 : GAt (J1.put J.next (.cells true 53 [.i .i64 0, .i .i64 0, .i .i64 0, .i .i64 0, .b false])) gb mb D N := (G1.ext q2).put fr
  simp (maxSteps := 2000000) -implicitDefEqProofs (disch := (first | omega | rfl | assumption | (simp only [rsD]; first | omega | assumption))) only [s_pp, Nat.reduceAdd, Nat.reduceMul, Nat.reduceLT, Int.reduceToNat, Int.reduceAdd, Int.reduceSub, Int.reduceMul, rsU, rsC]
  have P1 := gptr_ok G2 (id := id) (i := i)
  have R1 := graw_ok G2 (id := id) (i := i)
  have E2 : Ext J (J1.put J.next (.cells true 53 [.i .i64 0, .i .i64 0, .i .i64 0, .i .i64 0, .b false])) := ⟨by show J.next <= J1.next; omega, fun b hb => by rw [s_bn (by omega), q2.blk b (by simp; omega)]; rfl⟩
  have bx : (J1.put J.next (.cells true 53 [.i .i64 0, .i .i64 0, .i .i64 0, .i .i64 0, .b false])).blk J.next = some (.cells true 53 [.i .i64 0, .i .i64 0, .i .i64 0, .i .i64 0, .b false]) := s_bs
  have n2 : (J1.put J.next (.cells true 53 [.i .i64 0, .i .i64 0, .i .i64 0, .i .i64 0, .b false])).next = J1.next := rfl
  generalize AH.put J1 J.next _ = J2 at *
  have P2 := dptr_ok (J := J2) dnil small_nil (id := id) (i := i) hr
  have R2 := draw_ok (J := J2) dnil small_nil (id := id) (i := i) hr
  have ln : liveAt [] id = none := by unfold liveAt; split <;> simp
  unfold ptrD at P1 P2
  unfold rawD at R1 R2
  rw [hl] at P1 R1
  rw [ln] at P2 R2
  simp only [List.length_nil] at P1 R1 P2 R2
  simp (maxSteps := 2000000) -implicitDefEqProofs (disch := (first | omega | rfl | assumption | (simp only [rsD]; first | omega | assumption))) only [P1, R1, P2, R2, t2, Nat.reduceAdd, Nat.reduceMul, Nat.reduceLT, Int.reduceToNat, Int.reduceAdd, Int.reduceSub, Int.reduceMul, rsU, rsC]
  refine Ok.step (gedges_ok G2 hs (id := id)) fun q ⟨a1, q3, N1⟩ => ?_
  obtain ⟨q, J3⟩ := q
  simp only at q3 N1
  subst q3
  simp (maxSteps := 2000000) -implicitDefEqProofs (disch := (first | omega | rfl | assumption | (simp only [rsD]; first | omega | assumption))) only [Nat.reduceAdd, Nat.reduceMul, Nat.reduceLT, Int.reduceToNat, Int.reduceAdd, Int.reduceSub, Int.reduceMul, rsU, rsC]
  refine Ok.step (dedges_ok dnil small_nil (id := id) hr) fun q ⟨a2, q3, N2⟩ => ?_
  obtain ⟨q, J4⟩ := q
  simp only at q3 N2
  subst q3
  simp (maxSteps := 2000000) -implicitDefEqProofs (disch := (first | omega | rfl | assumption | (simp only [rsD]; first | omega | assumption))) only [Nat.reduceAdd, Nat.reduceMul, Nat.reduceLT, Int.reduceToNat, Int.reduceAdd, Int.reduceSub, Int.reduceMul, rsU, rsC]
  have d1 : edgesD D id = [] := by unfold edgesD; rw [hl]
  have d2 : edgesD [] id = [] := by unfold edgesD; rw [ln]
  rw [d1] at N1 ⊢
  rw [d2] at N2 ⊢
  have r1 : Rd J4 1 a1 0 ([].map (.i .i64)) := N1.rd.of fun b hb => N2.e.blk b (N1.o.lt b hb)
  refine Ok.step (same02r (l := []) (m := []) r1 N2.rd (by simp) (by simp)) fun q hq4 => ?_
  subst hq4
  have E4 : Ext J2 J4 := N1.e.trans N2.e
  have G4 := G2.ext E4
  have I1 := gis_ok G4 (id := id)
  have I2 := dis_ok (J := J4) dnil (by simp) hr
  have bx4 := (E4.blk J.next (by omega)).trans bx
  rw [hl] at I1
  rw [ln] at I2
  simp only [List.length_nil] at I2
  rw [decide_eq_true rfl]
  simp (maxSteps := 2000000) -implicitDefEqProofs (disch := (first | omega | rfl | assumption | (simp only [rsD]; first | omega | assumption))) only [I2, Option.isSome_none, I1, bx4, t1, Nat.reduceAdd, Nat.reduceMul, Nat.reduceLT, Int.reduceToNat, Int.reduceAdd, Int.reduceSub, Int.reduceMul, rsU, rsC]
  exact Ok_some.2 ⟨⟨_, rfl⟩, E2.trans E4⟩
 | some x =>
  have fr := G.free (Nat.le_refl J.next)
  have G1 := G.ext (J' := J.bump 1) (ext_of (by simp only [put_next, bump_next, kill_next]; omega) (fun b hb => by simp -implicitDefEqProofs (disch := (first | omega | rfl | assumption | (simp only [rsD]; first | omega | assumption))) only [s_bn, s_kn, bump_blk, s_ext]))
  have t1 : (true == true) = true := rfl
  have t2 : (false == false) = true := rfl
  have t3 : (true == false) = false := rfl
  have hq : headV D id = .tup [.agg x.h.cs, .i .i64 0] := by unfold headV; rw [hl]
  simp (maxSteps := 2000000) -implicitDefEqProofs (disch := (first | omega | rfl | assumption | (simp only [rsD]; first | omega | assumption))) only [law36_known, law36_known_c, Nat.reduceAdd, Nat.reduceMul, Nat.reduceLT, Int.reduceToNat, Int.reduceAdd, Int.reduceSub, Int.reduceMul, rsU, rsC]
  refine Ok.step (ghead_ok G1 (id := id)) fun q ⟨q1, q2⟩ => ?_
  obtain ⟨q, J1⟩ := q
  simp only at q1 q2
  subst q1
  have nx := q2.next
  simp only [rsD] at nx
  rw [hq]
  have G2 : GAt (J1.put J.next (.cells true 53 [.i .i64 x.h.p, .i .i64 x.h.r, .i .i64 x.h.site, .i .i64 x.h.age, .b x.h.large])) gb mb D N := (G1.ext q2).put fr
  simp (maxSteps := 2000000) -implicitDefEqProofs (disch := (first | omega | rfl | assumption | (simp only [rsD]; first | omega | assumption))) only [HV.cs, s_pp, Nat.reduceAdd, Nat.reduceMul, Nat.reduceLT, Int.reduceToNat, Int.reduceAdd, Int.reduceSub, Int.reduceMul, rsU, rsC]
  have P1 := gptr_ok G2 (id := id) (i := i)
  have R1 := graw_ok G2 (id := id) (i := i)
  have E2 : Ext J (J1.put J.next (.cells true 53 [.i .i64 x.h.p, .i .i64 x.h.r, .i .i64 x.h.site, .i .i64 x.h.age, .b x.h.large])) := ⟨by show J.next <= J1.next; omega, fun b hb => by rw [s_bn (by omega), q2.blk b (by simp; omega)]; rfl⟩
  generalize AH.put J1 J.next _ = J2 at *
  have P2 := dptr_ok (J := J2) dnil small_nil (id := id) (i := i) hr
  have R2 := draw_ok (J := J2) dnil small_nil (id := id) (i := i) hr
  have ln : liveAt [] id = none := by unfold liveAt; split <;> simp
  have pn : (ptrD D id i).2 ≠ 4 := by
   unfold ptrD; rw [hl]; simp only
   split <;> simp
  unfold ptrD at P2
  unfold rawD at R2
  rw [ln] at P2 R2
  simp only [List.length_nil] at P2 R2
  have f4 : ((ptrD D id i).2 == 4) = false := s_eqF pn
  by_cases c : (ptrD D id i).1 = 0
  ·have f0 := s_eqT c
   simp (maxSteps := 2000000) -implicitDefEqProofs (disch := (first | omega | rfl | assumption | (simp only [rsD]; first | omega | assumption))) only [P1, R1, P2, R2, f0, f4, t2, t3, Nat.reduceAdd, Nat.reduceMul, Nat.reduceLT, Int.reduceToNat, Int.reduceAdd, Int.reduceSub, Int.reduceMul, rsU, rsC]
   exact Ok_some.2 ⟨⟨_, rfl⟩, E2⟩
  ·have f0 := s_eqF c
   simp (maxSteps := 2000000) -implicitDefEqProofs (disch := (first | omega | rfl | assumption | (simp only [rsD]; first | omega | assumption))) only [P1, R1, P2, R2, f0, f4, t2, t3, Nat.reduceAdd, Nat.reduceMul, Nat.reduceLT, Int.reduceToNat, Int.reduceAdd, Int.reduceSub, Int.reduceMul, rsU, rsC]
   exact Ok_some.2 ⟨⟨_, rfl⟩, E2⟩
end kn
end Go.Abs.Try
namespace Go.Abs.Try
open Go Go.Abs
variable {O : Type}
structure OpV where
 k : Int
 a : Int
 b : Int
 c : Int
 h : HV
 w : Int
def OpV.cs (o : OpV) : List AV := [.i .i64 o.k, .i .i64 o.a, .i .i64 o.b, .i .i64 o.c, .i .i64 o.h.p, .i .i64 o.h.r, .i .i64 o.h.site, .i .i64 o.h.age, .b o.h.large, .i .u64 o.w]
def r64 (n : Int) : Prop := -9223372036854775808 <= n /\ n <= 9223372036854775807
structure OpV.ok (o : OpV) : Prop where
 a : r64 o.a
 c : r64 o.c
def stepD (D : List DN) (o : OpV) : List DN :=
 if o.k = 0 then (addD D o.h).1 else if o.k = 1 then (dropD D o.a).1 else if o.k = 2 then (growD D o.a).1 else if o.k = 3 then (linkD D o.a o.b o.c).1 else if o.k = 4 then (writeD D o.a o.b o.w).1 else D
def ages (D : List DN) : Prop := ∀ x ∈ D, 0 <= x.h.age /\ x.h.age <= 7
def DoTo (gb mb : Nat) (D E : List DN) (N : Nat -> Nat) (J : AH O) (o : OpV) (r : AV × AH O) : Prop :=
 (∃ a' ok, r.1 = .tup [.sl a' (stepD E o).length, .b ok] /\ DAt a' (stepD E o) /\ (D = E -> ok = true)) /\ ∃ N', GAt r.2 gb mb (stepD D o) N' /\ Gfr gb mb D N J r.2
section do_
variable {J : AH O} {gb mb : Nat} {D E : List DN} {N : Nat -> Nat}
theorem Gfr.ext_l {J' J'' : AH O} (e : Ext J J') (h : Gfr gb mb D N J' J'') : Gfr gb mb D N J J'' := ⟨Nat.le_trans e.next h.next, fun b hb f => (h.blk b (Nat.lt_of_lt_of_le hb e.next) f).trans (e.blk b hb)⟩
theorem Gfr.ext_r {J' J'' : AH O} (h : Gfr gb mb D N J J') (e : Ext J' J'') : Gfr gb mb D N J J'' := ⟨Nat.le_trans h.next e.next, fun b hb f => (e.blk b (Nat.lt_of_lt_of_le hb h.next)).trans (h.blk b hb f)⟩
theorem do36_ok (G : GAt J gb mb D N) (hs : Small36 D) (hw : ages D) {a : SA} (hd : DAt a E) (es : Small36 E) (ew : ages E) (hDE : D = E ∨ (E = [] /\ a = .nil)) {o : OpV} (ho : o.ok) :
  Ok (law36_Do [.p (some (.n gb, 0)), .sl a E.length, .agg o.cs] J) (DoTo gb mb D E N J o) := by
 obtain ⟨k, oa, ob, oc, ⟨hp, hr, hsi, ha, hla⟩, w⟩ := o
 obtain ⟨ra, rc⟩ := ho
 simp only at ra rc
 simp only [OpV.cs]
 have fr := G.free (Nat.le_refl J.next)
 have t1 : (true == true) = true := rfl
 have bb : ∀ z : Int, (z == z) = true := fun z => by simp
 have E1 : Ext J ((J.bump 1).put J.next (.cells true T_law36_Op [.i .i64 k, .i .i64 oa, .i .i64 ob, .i .i64 oc, .i .i64 hp, .i .i64 hr, .i .i64 hsi, .i .i64 ha, .b hla, .i .u64 w])) := (ext_of (by simp only [put_next, bump_next, kill_next]; omega) (fun b hb => by simp -implicitDefEqProofs (disch := (first | omega | rfl | assumption | (simp only [rsD]; first | omega | assumption))) only [s_bn, s_kn, bump_blk, s_ext]))
 have G1 := G.ext E1
 have bx : ((J.bump 1).put J.next (.cells true T_law36_Op [.i .i64 k, .i .i64 oa, .i .i64 ob, .i .i64 oc, .i .i64 hp, .i .i64 hr, .i .i64 hsi, .i .i64 ha, .b hla, .i .u64 w])).blk J.next = some (.cells true T_law36_Op [.i .i64 k, .i .i64 oa, .i .i64 ob, .i .i64 oc, .i .i64 hp, .i .i64 hr, .i .i64 hsi, .i .i64 ha, .b hla, .i .u64 w]) := s_bs
 have nx : ((J.bump 1).put J.next (.cells true T_law36_Op [.i .i64 k, .i .i64 oa, .i .i64 ob, .i .i64 oc, .i .i64 hp, .i .i64 hr, .i .i64 hsi, .i .i64 ha, .b hla, .i .u64 w])).next = J.next + 1 := rfl
 have fin : ∀ {D' E' : List DN} {J2 J3 : AH O} {N' : Nat -> Nat} {a' : SA} {ok : Bool}, stepD D ⟨k, oa, ob, oc, ⟨hp, hr, hsi, ha, hla⟩, w⟩ = D' -> stepD E ⟨k, oa, ob, oc, ⟨hp, hr, hsi, ha, hla⟩, w⟩ = E' -> GAt J2 gb mb D' N' -> Gfr gb mb D N ((J.bump 1).put J.next (.cells true T_law36_Op [.i .i64 k, .i .i64 oa, .i .i64 ob, .i .i64 oc, .i .i64 hp, .i .i64 hr, .i .i64 hsi, .i .i64 ha, .b hla, .i .u64 w])) J2 -> Ext J2 J3 -> DAt a' E' -> (D = E -> ok = true) ->
   DoTo gb mb D E N J ⟨k, oa, ob, oc, ⟨hp, hr, hsi, ha, hla⟩, w⟩ (.tup [.sl a' E'.length, .b ok], J3) := fun {D' E' J2 J3 N' a' ok} e1 e2 g f e d h => ⟨⟨a', ok, by rw [e2], by rw [e2]; exact d, h⟩, N', by rw [e1]; exact g.ext e, (Gfr.ext_l E1 f).ext_r e⟩
 by_cases k0 : k = 0
 ·have q0 := s_eqT k0
  simp (maxSteps := 2000000) -implicitDefEqProofs (disch := (first | omega | rfl | assumption | (simp only [rsD]; first | omega | assumption))) only [law36_Do, law36_Do_c, q0, Nat.reduceAdd, Nat.reduceMul, Nat.reduceLT, Int.reduceToNat, Int.reduceAdd, Int.reduceSub, Int.reduceMul, rsU, rsC]
  generalize hJ : AH.put (J.bump 1) J.next _ = J1 at *
  refine Ok.step (gadd_ok G1 hs.n ⟨hp, hr, hsi, ha, hla⟩) fun q ⟨q1, N2, q2, q3⟩ => ?_
  obtain ⟨q, J2⟩ := q
  simp only at q1 q2 q3
  subst q1
  have b2 := (q3.blk J.next (by omega) fr).trans bx
  simp (maxSteps := 2000000) -implicitDefEqProofs (disch := (first | omega | rfl | assumption | (simp only [rsD]; first | omega | assumption))) only [b2, Nat.reduceAdd, Nat.reduceMul, Nat.reduceLT, Int.reduceToNat, Int.reduceAdd, Int.reduceSub, Int.reduceMul, rsU, rsC]
  refine Ok.step (dadd_ok hd es ⟨hp, hr, hsi, ha, hla⟩) fun q ⟨⟨a', q4, q5⟩, q6⟩ => ?_
  obtain ⟨q, J3⟩ := q
  simp only at q4 q6
  subst q4
  simp (maxSteps := 2000000) -implicitDefEqProofs (disch := (first | omega | rfl | assumption | (simp only [rsD]; first | omega | assumption))) only [Nat.reduceAdd, Nat.reduceMul, Nat.reduceLT, Int.reduceToNat, Int.reduceAdd, Int.reduceSub, Int.reduceMul, rsU, rsC]
  by_cases c : (addD D ⟨hp, hr, hsi, ha, hla⟩).2.1 = (addD E ⟨hp, hr, hsi, ha, hla⟩).2.1
  ·have qc := s_eqT c
   simp (maxSteps := 2000000) -implicitDefEqProofs (disch := (first | omega | rfl | assumption | (simp only [rsD]; first | omega | assumption))) only [qc, t1, Nat.reduceAdd, Nat.reduceMul, Nat.reduceLT, Int.reduceToNat, Int.reduceAdd, Int.reduceSub, Int.reduceMul, rsU, rsC]
   exact Ok_some.2 (fin (by simp [stepD, k0]) (by simp [stepD, k0]) q2 q3 q6 q5 fun e => by subst e; simp)
  ·have qc := s_eqF c
   have t3 : (false == true) = false := rfl
   simp (maxSteps := 2000000) -implicitDefEqProofs (disch := (first | omega | rfl | assumption | (simp only [rsD]; first | omega | assumption))) only [qc, t3, Nat.reduceAdd, Nat.reduceMul, Nat.reduceLT, Int.reduceToNat, Int.reduceAdd, Int.reduceSub, Int.reduceMul, rsU, rsC]
   exact Ok_some.2 (fin (by simp [stepD, k0]) (by simp [stepD, k0]) q2 q3 q6 q5 fun e => by subst e; exact absurd rfl c)
 have z0 := s_eqF k0
 by_cases k1 : k = 1
 ·have q0 := s_eqT k1
  simp (maxSteps := 2000000) -implicitDefEqProofs (disch := (first | omega | rfl | assumption | (simp only [rsD]; first | omega | assumption))) only [law36_Do, law36_Do_c, z0, q0, Nat.reduceAdd, Nat.reduceMul, Nat.reduceLT, Int.reduceToNat, Int.reduceAdd, Int.reduceSub, Int.reduceMul, rsU, rsC]
  generalize hJ : AH.put (J.bump 1) J.next _ = J1 at *
  refine Ok.step (gdrop_ok G1 hs (id := oa)) fun q ⟨q1, N2, q2, q3⟩ => ?_
  obtain ⟨q, J2⟩ := q
  simp only at q1 q2 q3
  subst q1
  have b2 := (q3.blk J.next (by omega) fr).trans bx
  simp (maxSteps := 2000000) -implicitDefEqProofs (disch := (first | omega | rfl | assumption | (simp only [rsD]; first | omega | assumption))) only [b2, Nat.reduceAdd, Nat.reduceMul, Nat.reduceLT, Int.reduceToNat, Int.reduceAdd, Int.reduceSub, Int.reduceMul, rsU, rsC]
  refine Ok.step (ddrop_ok hd es (id := oa) ra) fun q ⟨⟨a', q4, q5⟩, q6⟩ => ?_
  obtain ⟨q, J3⟩ := q
  simp only at q4 q6
  subst q4
  simp (maxSteps := 2000000) -implicitDefEqProofs (disch := (first | omega | rfl | assumption | (simp only [rsD]; first | omega | assumption))) only [Nat.reduceAdd, Nat.reduceMul, Nat.reduceLT, Int.reduceToNat, Int.reduceAdd, Int.reduceSub, Int.reduceMul, rsU, rsC]
  exact Ok_some.2 (fin (by simp [stepD, k1]) (by simp [stepD, k1]) q2 q3 q6 q5 fun e => by subst e; simp)
 have z1 := s_eqF k1
 by_cases k2 : k = 2
 ·have q0 := s_eqT k2
  simp (maxSteps := 2000000) -implicitDefEqProofs (disch := (first | omega | rfl | assumption | (simp only [rsD]; first | omega | assumption))) only [law36_Do, law36_Do_c, z0, z1, q0, Nat.reduceAdd, Nat.reduceMul, Nat.reduceLT, Int.reduceToNat, Int.reduceAdd, Int.reduceSub, Int.reduceMul, rsU, rsC]
  generalize hJ : AH.put (J.bump 1) J.next _ = J1 at *
  refine Ok.step (ggrow_ok G1 hw (id := oa)) fun q ⟨q1, N2, q2, q3⟩ => ?_
  obtain ⟨q, J2⟩ := q
  simp only at q1 q2 q3
  subst q1
  have b2 := (q3.blk J.next (by omega) fr).trans bx
  simp (maxSteps := 2000000) -implicitDefEqProofs (disch := (first | omega | rfl | assumption | (simp only [rsD]; first | omega | assumption))) only [b2, Nat.reduceAdd, Nat.reduceMul, Nat.reduceLT, Int.reduceToNat, Int.reduceAdd, Int.reduceSub, Int.reduceMul, rsU, rsC]
  refine Ok.step (dgrow_ok hd es ew (id := oa) ra) fun q ⟨⟨a', q4, q5⟩, q6⟩ => ?_
  obtain ⟨q, J3⟩ := q
  simp only at q4 q6
  subst q4
  simp (maxSteps := 2000000) -implicitDefEqProofs (disch := (first | omega | rfl | assumption | (simp only [rsD]; first | omega | assumption))) only [Nat.reduceAdd, Nat.reduceMul, Nat.reduceLT, Int.reduceToNat, Int.reduceAdd, Int.reduceSub, Int.reduceMul, rsU, rsC]
  exact Ok_some.2 (fin (by simp [stepD, k2]) (by simp [stepD, k2]) q2 q3 q6 q5 fun e => by subst e; simp)
 have z2 := s_eqF k2
 by_cases k3 : k = 3
 ·have q0 := s_eqT k3
  simp (maxSteps := 2000000) -implicitDefEqProofs (disch := (first | omega | rfl | assumption | (simp only [rsD]; first | omega | assumption))) only [law36_Do, law36_Do_c, z0, z1, z2, q0, Nat.reduceAdd, Nat.reduceMul, Nat.reduceLT, Int.reduceToNat, Int.reduceAdd, Int.reduceSub, Int.reduceMul, rsU, rsC]
  generalize hJ : AH.put (J.bump 1) J.next _ = J1 at *
  refine Ok.step (glink_ok G1 (id := oa) (i := ob) (to := oc)) fun q ⟨q1, N2, q2, q3⟩ => ?_
  obtain ⟨q, J2⟩ := q
  simp only at q1 q2 q3
  subst q1
  have b2 := (q3.blk J.next (by omega) fr).trans bx
  simp (maxSteps := 2000000) -implicitDefEqProofs (disch := (first | omega | rfl | assumption | (simp only [rsD]; first | omega | assumption))) only [b2, Nat.reduceAdd, Nat.reduceMul, Nat.reduceLT, Int.reduceToNat, Int.reduceAdd, Int.reduceSub, Int.reduceMul, rsU, rsC]
  refine Ok.step (dlink_ok hd es (id := oa) (i := ob) (to := oc) ra rc) fun q ⟨⟨a', q4, q5⟩, q6⟩ => ?_
  obtain ⟨q, J3⟩ := q
  simp only at q4 q6
  subst q4
  simp (maxSteps := 2000000) -implicitDefEqProofs (disch := (first | omega | rfl | assumption | (simp only [rsD]; first | omega | assumption))) only [Nat.reduceAdd, Nat.reduceMul, Nat.reduceLT, Int.reduceToNat, Int.reduceAdd, Int.reduceSub, Int.reduceMul, rsU, rsC]
  exact Ok_some.2 (fin (by simp [stepD, k3]) (by simp [stepD, k3]) q2 q3 q6 q5 fun e => by subst e; simp)
 have z3 := s_eqF k3
 by_cases k4 : k = 4
 ·have q0 := s_eqT k4
  simp (maxSteps := 2000000) -implicitDefEqProofs (disch := (first | omega | rfl | assumption | (simp only [rsD]; first | omega | assumption))) only [law36_Do, law36_Do_c, z0, z1, z2, z3, q0, Nat.reduceAdd, Nat.reduceMul, Nat.reduceLT, Int.reduceToNat, Int.reduceAdd, Int.reduceSub, Int.reduceMul, rsU, rsC]
  generalize hJ : AH.put (J.bump 1) J.next _ = J1 at *
  refine Ok.step (gwrite_ok G1 (id := oa) (i := ob) (w := w)) fun q ⟨q1, N2, q2, q3⟩ => ?_
  obtain ⟨q, J2⟩ := q
  simp only at q1 q2 q3
  subst q1
  have b2 := (q3.blk J.next (by omega) fr).trans bx
  simp (maxSteps := 2000000) -implicitDefEqProofs (disch := (first | omega | rfl | assumption | (simp only [rsD]; first | omega | assumption))) only [b2, Nat.reduceAdd, Nat.reduceMul, Nat.reduceLT, Int.reduceToNat, Int.reduceAdd, Int.reduceSub, Int.reduceMul, rsU, rsC]
  refine Ok.step (dwrite_ok hd es (id := oa) (i := ob) (w := w) ra) fun q ⟨⟨a', q4, q5⟩, q6⟩ => ?_
  obtain ⟨q, J3⟩ := q
  simp only at q4 q6
  subst q4
  simp (maxSteps := 2000000) -implicitDefEqProofs (disch := (first | omega | rfl | assumption | (simp only [rsD]; first | omega | assumption))) only [Nat.reduceAdd, Nat.reduceMul, Nat.reduceLT, Int.reduceToNat, Int.reduceAdd, Int.reduceSub, Int.reduceMul, rsU, rsC]
  exact Ok_some.2 (fin (by simp [stepD, k4]) (by simp [stepD, k4]) q2 q3 q6 q5 fun e => by subst e; simp)
 have z4 := s_eqF k4
 have sD : ∀ D, stepD D ⟨k, oa, ob, oc, ⟨hp, hr, hsi, ha, hla⟩, w⟩ = D := fun D => by simp [stepD, k0, k1, k2, k3, k4]
 simp (maxSteps := 2000000) -implicitDefEqProofs (disch := (first | omega | rfl | assumption | (simp only [rsD]; first | omega | assumption))) only [law36_Do, law36_Do_c, z0, z1, z2, z3, z4, Nat.reduceAdd, Nat.reduceMul, Nat.reduceLT, Int.reduceToNat, Int.reduceAdd, Int.reduceSub, Int.reduceMul, rsU, rsC]
 generalize hJ : AH.put (J.bump 1) J.next _ = J1 at *
 have hDE' : D = E ∨ (D ≠ [] /\ E = [] /\ a = .nil) := by
  by_cases hn : D = []
  ·rcases hDE with h | ⟨h, _⟩
   ·exact .inl h
   ·exact .inl (hn.trans h.symm)
  ·rcases hDE with h | ⟨h, h2⟩
   ·exact .inl h
   ·exact .inr ⟨hn, h, h2⟩
 rcases hDE' with rfl | ⟨hn, rfl, rfl⟩
 ·refine Ok.step (known_same G1 hs hd (id := oa) (i := ob) ra) fun q ⟨q1, q2⟩ => ?_
  obtain ⟨q, J2⟩ := q
  simp only at q1 q2
  subst q1
  simp (maxSteps := 2000000) -implicitDefEqProofs (disch := (first | omega | rfl | assumption | (simp only [rsD]; first | omega | assumption))) only [Nat.reduceAdd, Nat.reduceMul, Nat.reduceLT, Int.reduceToNat, Int.reduceAdd, Int.reduceSub, Int.reduceMul, rsU, rsC]
  exact Ok_some.2 (fin (sD _) (sD _) G1 (Gfr.refl _ _ _ _ _) q2 hd fun _ => rfl)
 ·refine Ok.step (known_nil G1 hs (id := oa) (i := ob) ra) fun q ⟨⟨ok, q1⟩, q2⟩ => ?_
  obtain ⟨q, J2⟩ := q
  simp only at q1 q2
  subst q1
  simp (maxSteps := 2000000) -implicitDefEqProofs (disch := (first | omega | rfl | assumption | (simp only [rsD]; first | omega | assumption))) only [Nat.reduceAdd, Nat.reduceMul, Nat.reduceLT, Int.reduceToNat, Int.reduceAdd, Int.reduceSub, Int.reduceMul, rsU, rsC]
  exact Ok_some.2 (fin (sD _) (sD _) G1 (Gfr.refl _ _ _ _ _) q2 hd fun e => absurd e hn)
end do_
end Go.Abs.Try
namespace Go.Abs.Try
open Go Go.Abs
variable {O : Type}
structure Good (D : List DN) (n : Nat) : Prop where
 n : D.length <= n
 p : ∀ x ∈ D, x.P.length <= 5000 /\ x.R.length <= 5000
 a : ages D
theorem Good.small {D : List DN} {n : Nat} (h : Good D n) (hn : n <= 1000) : Small36 D := ⟨Nat.le_trans h.n hn, h.p⟩
theorem Good.nil : Good [] 0 := ⟨by simp, fun x h => by simp at h, fun x h => by simp at h⟩
theorem Good.mono {D : List DN} {n m : Nat} (h : Good D n) (hm : n <= m) : Good D m := ⟨Nat.le_trans h.n hm, h.p, h.a⟩
theorem Good.set {D : List DN} {n i : Nat} {y : DN} (h : Good D n) (hp : y.P.length <= 5000 /\ y.R.length <= 5000) (ha : 0 <= y.h.age /\ y.h.age <= 7) : Good (D.set i y) n :=
 ⟨by rw [List.length_set]; exact h.n, fun x hx => by
  rcases List.mem_or_eq_of_mem_set hx with h1 | h1
  ·exact h.p x h1
  ·subst h1; exact hp, fun x hx => by
  rcases List.mem_or_eq_of_mem_set hx with h1 | h1
  ·exact h.a x h1
  ·subst h1; exact ha⟩
theorem Good.step {D : List DN} {n : Nat} (h : Good D n) (o : OpV) : Good (stepD D o) (n + 1) := by
 unfold stepD
 split
 ·unfold addD
  split
  ·rename_i c
   have hh : (0 <= o.h.p /\ o.h.p <= 4095) /\ (0 <= o.h.r /\ o.h.r <= 4095) /\ (0 <= o.h.age /\ o.h.age <= 7) := by
    unfold chkOf at c
    split at c
    ·cases c
    ·split at c
     ·cases c
     ·split at c
      ·cases c
      ·omega
   refine ⟨by simp; exact h.n, fun x hx => ?_, fun x hx => ?_⟩
   ·rcases List.mem_append.1 hx with h1 | h1
    ·exact h.p x h1
    ·simp at h1; subst h1; simp; omega
   ·rcases List.mem_append.1 hx with h1 | h1
    ·exact h.a x h1
    ·simp at h1; subst h1; exact hh.2.2
  ·exact h.mono (Nat.le_succ n)
 split
 ·unfold dropD
  split
  ·exact h.mono (Nat.le_succ n)
  ·rename_i x hl
   obtain ⟨k, ek, hx, _, hk⟩ := liveAt_some hl
   have hs := h.set (i := (o.a - 1).toNat) (y := { x with gone := true }) (h.p x (List.mem_of_getElem? hx)) (h.a x (List.mem_of_getElem? hx))
   refine ⟨by simp only [List.length_map]; have := hs.n; omega, fun y hy => ?_, fun y hy => ?_⟩
   ·obtain ⟨z, hz, rfl⟩ := List.mem_map.1 hy
    have := hs.p z hz
    simpa [zeroD] using this
   ·obtain ⟨z, hz, rfl⟩ := List.mem_map.1 hy
    exact hs.a z hz
 split
 ·unfold growD
  split
  ·exact h.mono (Nat.le_succ n)
  ·rename_i x hl
   obtain ⟨k, ek, hx, _, hk⟩ := liveAt_some hl
   have ha := h.a x (List.mem_of_getElem? hx)
   refine (h.set (y := { x with h := olderV x.h }) (h.p x (List.mem_of_getElem? hx)) ?_).mono (Nat.le_succ n)
   simp only [olderV]
   split <;> omega
 split
 ·unfold linkD
  split
  ·exact h.mono (Nat.le_succ n)
  ·rename_i x hl
   obtain ⟨k, ek, hx, _, hk⟩ := liveAt_some hl
   split
   ·split
    ·exact h.mono (Nat.le_succ n)
    ·exact (h.set (y := { x with P := x.P.set o.b.toNat o.c }) (by simpa using h.p x (List.mem_of_getElem? hx)) (h.a x (List.mem_of_getElem? hx))).mono (Nat.le_succ n)
   ·exact h.mono (Nat.le_succ n)
 split
 ·unfold writeD
  split
  ·exact h.mono (Nat.le_succ n)
  ·rename_i x hl
   obtain ⟨k, ek, hx, _, hk⟩ := liveAt_some hl
   split
   ·exact (h.set (y := { x with R := x.R.set o.b.toNat o.w }) (by simpa using h.p x (List.mem_of_getElem? hx)) (h.a x (List.mem_of_getElem? hx))).mono (Nat.le_succ n)
   ·exact h.mono (Nat.le_succ n)
 ·exact h.mono (Nat.le_succ n)
structure OpsAt (a : SA) (l : List OpV) : Prop where
 i : Imm 10 a l.length (l.flatMap OpV.cs)
 ok : ∀ o ∈ l, o.ok
theorem OpV.len (o : OpV) : o.cs.length = 10 := rfl
theorem OpsAt.at_ {a : SA} {l : List OpV} (h : OpsAt a l) {i : Nat} {o : OpV} (ho : l[i]? = some o) : ∃ b p, a = .loc b p 10 /\ ∀ (O : Type) (J : AH O),
  J.ld b (p + i * 10) = some (.i .i64 o.k) /\ J.ld b (p + i * 10 + 1) = some (.i .i64 o.a) /\ J.ld b (p + i * 10 + 2) = some (.i .i64 o.b) /\ J.ld b (p + i * 10 + 3) = some (.i .i64 o.c) /\ J.ld b (p + i * 10 + 4) = some (.i .i64 o.h.p) /\ J.ld b (p + i * 10 + 5) = some (.i .i64 o.h.r) /\ J.ld b (p + i * 10 + 6) = some (.i .i64 o.h.site) /\ J.ld b (p + i * 10 + 7) = some (.i .i64 o.h.age) /\ J.ld b (p + i * 10 + 8) = some (.b o.h.large) /\ J.ld b (p + i * 10 + 9) = some (.i .u64 o.w) := by
 have hi := (List.getElem?_eq_some_iff.1 ho).1
 obtain ⟨b, p, rfl, _⟩ := (h.i Unit ⟨fun _ => none, 0⟩).ref (i := i) hi
 refine ⟨b, p, rfl, fun O J => ?_⟩
 obtain ⟨b', p', e, ld⟩ := (h.i O J).ref (i := i) hi
 cases e
 have get : ∀ j, j < 10 -> J.ld b (p + i * 10 + j) = o.cs[j]? := fun j hj => by rw [ld j hj, fm_get' OpV.len hj ho]
 exact ⟨get 0 (by decide), get 1 (by decide), get 2 (by decide), get 3 (by decide), get 4 (by decide), get 5 (by decide), get 6 (by decide), get 7 (by decide), get 8 (by decide), get 9 (by decide)⟩
theorem few36_ok {J : AH O} {a : SA} {l : List OpV} (h : OpsAt a l) : Ok (law36_Few [.sl a l.length] J) fun r => (∃ ok, r.1 = .b ok /\ (ok = true -> l.length <= 60)) /\ Ext J r.2 := by
 have t1 : (true == true) = true := rfl
 have t2 : (false == false) = true := rfl
 have t3 : (true == false) = false := rfl
 have t4 : (false == true) = false := rfl
 by_cases c : l.length <= 60
 ·have d0 : decide ((l.length : Int) > 60) = false := decide_eq_false (by omega)
  simp (maxSteps := 2000000) -implicitDefEqProofs (disch := (first | omega | rfl | assumption | (simp only [rsD]; first | omega | assumption))) only [law36_Few, law36_Few_c, d0, Nat.reduceAdd, Nat.reduceMul, Nat.reduceLT, Int.reduceToNat, Int.reduceAdd, Int.reduceSub, Int.reduceMul, rsU, rsC]
  refine Ok.bindS (Q := fun r => match r with | .inl s => ∃ J', s = ([], J') /\ Ext J J' | .inr r => (∃ ok, r.1 = .b ok /\ (ok = true -> l.length <= 60)) /\ Ext J r.2) (Ok.count l.length (fun k s => ∃ J', s = ([.i .i64 (k : Int)], J') /\ Ext J J') ?_ ?_ ?_) ?_ ?_
  ·rintro k s hk ⟨J', rfl, e⟩
   obtain ⟨o, ho⟩ : ∃ o, l[k]? = some o := ⟨_, List.getElem?_eq_getElem hk⟩
   obtain ⟨b, p, rfl, ld⟩ := h.at_ ho
   have w4 : ∀ J : AH O, J.ld b (p + k * 10 + 4) = some (.i .i64 o.h.p) := fun J => (ld O J).2.2.2.2.1
   have w5 : ∀ J : AH O, J.ld b (p + k * 10 + 5) = some (.i .i64 o.h.r) := fun J => (ld O J).2.2.2.2.2.1
   have dk := decide_eq_true (show (k : Int) < (l.length : Int) by omega)
   obtain ⟨A, hA⟩ : ∃ A : Bool, A = (decide (o.h.p > 300) && decide (o.h.p < 4096) || decide (o.h.r > 300) && decide (o.h.r < 4096)) := ⟨_, rfl⟩
   have E1 : Ext J' ((J'.bump 1).put J'.next (.cells true 51 [.i .i64 o.h.p, .i .i64 o.h.r])) := (ext_of (by simp only [put_next, bump_next, kill_next]; omega) (fun b hb => by simp -implicitDefEqProofs (disch := (first | omega | rfl | assumption | (simp only [rsD]; first | omega | assumption))) only [s_bn, s_kn, bump_blk, s_ext]))
   cases p1 : decide (o.h.p > 300) <;> cases p2 : decide (o.h.p < 4096) <;> cases p3 : decide (o.h.r > 300) <;> cases p4 : decide (o.h.r < 4096)
   all_goals
    simp (maxSteps := 2000000) -implicitDefEqProofs (disch := (first | omega | rfl | assumption | (simp only [rsD]; first | omega | assumption))) only [law36_Few_L1, dk, w4, w5, p1, p2, p3, p4, t1, t2, t3, t4, Nat.reduceAdd, Nat.reduceMul, Nat.reduceLT, Int.reduceToNat, Int.reduceAdd, Int.reduceSub, Int.reduceMul, rsU, rsC]
    first
    | exact Ok_some.2 ⟨⟨false, rfl, fun h => by cases h⟩, e.trans E1⟩
    | exact Ok_some.2 ⟨_, rfl, e.trans E1⟩
  ·rintro s ⟨J', rfl, e⟩
   simp (maxSteps := 2000000) -implicitDefEqProofs (disch := (first | omega | rfl | assumption | (simp only [rsD]; first | omega | assumption))) only [law36_Few_L1, Nat.reduceAdd, Nat.reduceMul, Nat.reduceLT, Int.reduceToNat, Int.reduceAdd, Int.reduceSub, Int.reduceMul, rsU, rsC]
   exact Ok_some.2 ⟨J', rfl, e⟩
  ·exact ⟨J, rfl, Ext.refl J⟩
  ·rintro s ⟨J', rfl, e⟩
   simp (maxSteps := 2000000) -implicitDefEqProofs (disch := (first | omega | rfl | assumption | (simp only [rsD]; first | omega | assumption))) only [Nat.reduceAdd, Nat.reduceMul, Nat.reduceLT, Int.reduceToNat, Int.reduceAdd, Int.reduceSub, Int.reduceMul, rsU, rsC]
   exact Ok_some.2 ⟨⟨true, rfl, fun _ => c⟩, e⟩
  ·rintro r h
   exact h
 ·have d0 : decide ((l.length : Int) > 60) = true := decide_eq_true (by omega)
  simp (maxSteps := 2000000) -implicitDefEqProofs (disch := (first | omega | rfl | assumption | (simp only [rsD]; first | omega | assumption))) only [law36_Few, law36_Few_c, d0, Nat.reduceAdd, Nat.reduceMul, Nat.reduceLT, Int.reduceToNat, Int.reduceAdd, Int.reduceSub, Int.reduceMul, rsU, rsC]
  exact Ok_some.2 ⟨⟨false, rfl, fun h => by cases h⟩, Ext.refl J⟩
end Go.Abs.Try
namespace Go.Abs.Try
open Go Go.Abs
variable {O : Type}
end Go.Abs.Try
set_option maxRecDepth 100000
namespace Go.Abs
open Go
variable {P : Program}
def R64 (n : Int) : Prop := -9223372036854775808 <= n /\ n <= 9223372036854775807
structure HV.rngA (h : HV) : Prop where
 p : R64 h.p
 r : R64 h.r
 site : R64 h.site
 age : R64 h.age
theorem ClsF {d : Nat} {t : TypeId} {fs : Array Field} {cs : List AV} (hu : P.underlying t = some (.struct fs)) (h : Cls P (d + 1) t cs) :
  ∃ parts : List (List AV), cs = parts.flatten /\ parts.length = fs.toList.length /\ ∀ (i : Nat) (f : Field) (part : List AV), fs.toList[i]? = some f -> parts[i]? = some part -> Cls P d f.type part := by
 unfold Cls at h; rw [hu] at h; exact h
end Go.Abs
namespace Go.Abs.Try
open Go Go.Abs Go.Proofs
theorem shape_in {d : Nat} {cs : List AV} (h : Cls Try.prog (d + 2) 51 cs) : ∃ p r, cs = [.i .i64 p, .i .i64 r] /\ R64 p /\ R64 r := by
 obtain ⟨parts, rfl, hl, hp⟩ := ClsF Try.underlying51 h
 match parts, hl, hp with
 | [p0, p1], _, hp =>
  obtain ⟨a, rfl, ha⟩ := ClsI (k := .i64) Try.underlying3 (hp 0 _ p0 rfl rfl)
  obtain ⟨b, rfl, hb⟩ := ClsI (k := .i64) Try.underlying3 (hp 1 _ p1 rfl rfl)
  exact ⟨a, b, rfl, ha, hb⟩
theorem header_in {d : Nat} {cs : List AV} (h : Cls Try.prog (d + 3) 53 cs) : ∃ x : HV, cs = x.cs /\ x.rngA := by
 obtain ⟨parts, rfl, hl, hp⟩ := ClsF Try.underlying53 h
 match parts, hl, hp with
 | [p0, p1, p2, p3], _, hp =>
  obtain ⟨p, r, rfl, ip, ir⟩ := shape_in (d := d) (hp 0 _ p0 rfl rfl)
  obtain ⟨a, rfl, ha⟩ := ClsI (k := .i64) Try.underlying3 (hp 1 _ p1 rfl rfl)
  obtain ⟨b, rfl, hb⟩ := ClsI (k := .i64) Try.underlying3 (hp 2 _ p2 rfl rfl)
  obtain ⟨c, rfl⟩ := ClsB Try.underlying4 (hp 3 _ p3 rfl rfl)
  exact ⟨⟨p, r, a, b, c⟩, rfl, ip, ir, ha, hb⟩
end Go.Abs.Try
namespace Go.Abs.Try
open Go Go.Abs Go.Proofs
theorem op_in {d : Nat} {cs : List AV} (h : Cls Try.prog (d + 4) 56 cs) : ∃ o : OpV, cs = o.cs /\ o.ok := by
 obtain ⟨parts, rfl, hl, hp⟩ := ClsF Try.underlying56 h
 match parts, hl, hp with
 | [p0, p1, p2, p3, p4, p5], _, hp =>
  obtain ⟨k, rfl, hk⟩ := ClsI (k := .i64) Try.underlying3 (hp 0 _ p0 rfl rfl)
  obtain ⟨a, rfl, ha⟩ := ClsI (k := .i64) Try.underlying3 (hp 1 _ p1 rfl rfl)
  obtain ⟨b, rfl, hb⟩ := ClsI (k := .i64) Try.underlying3 (hp 2 _ p2 rfl rfl)
  obtain ⟨c, rfl, hc⟩ := ClsI (k := .i64) Try.underlying3 (hp 3 _ p3 rfl rfl)
  obtain ⟨hv, rfl, ih⟩ := header_in (d := d) (hp 4 _ p4 rfl rfl)
  obtain ⟨w, rfl, hw⟩ := ClsI (k := .u64) Try.underlying54 (hp 5 _ p5 rfl rfl)
  exact ⟨⟨k, a, b, c, hv, w⟩, rfl, ⟨ha, hc⟩⟩
theorem ops_in {y : AV} (h : ArgIs Try.prog 46 y) : ∃ (a : SA) (l : List OpV), y = .sl a l.length /\ OpsAt a l := by
 have c56 : Try.prog.cellsOf 56 = 10 := by kernel_rfl
 obtain ⟨sa, els, e, hl, hi, hc⟩ := ClsSl (P := Try.prog) (d := 11) Try.underlying46 (argSl Try.underlying46 h) (fun el hel => by
  obtain ⟨o, rfl, _⟩ := op_in (d := 7) hel
  rw [c56]; rfl)
 simp only [List.cons.injEq, and_true] at e
 subst e
 rw [c56] at hi
 obtain ⟨l, rfl, hk⟩ : ∃ l : List OpV, els = l.map OpV.cs /\ ∀ o ∈ l, o.ok := by
  clear hi hl h
  induction els with
  | nil => exact ⟨[], rfl, by simp⟩
  | cons el els ih =>
   obtain ⟨l, e, hr⟩ := ih fun x hx => hc x (List.mem_cons_of_mem _ hx)
   obtain ⟨o, rfl, ho⟩ := op_in (d := 7) (hc el List.mem_cons_self)
   exact ⟨o :: l, by rw [e]; rfl, fun x hx => by
    rcases List.mem_cons.1 hx with rfl | hx
    ·exact ho
    ·exact hr x hx⟩
 rw [List.length_map] at hi ⊢
 exact ⟨sa, l, rfl, by simpa [List.flatMap_def] using hi, hk⟩
end Go.Abs.Try
namespace Go.Abs.Try
open Go Go.Abs
variable {O : Type}
def Val (D : List DN) : Prop := ∀ id x, liveAt D id = some x -> ∀ t ∈ x.P, t ≠ 0 -> (liveAt D t).isSome = true
theorem liveAt_set {D : List DN} {k : Nat} {x y : DN} (hx : D[k]? = some x) (hg : x.gone = false) (hy : y.gone = false) (id : Int) : liveAt (D.set k y) id = if id = (k : Int) + 1 then some y else liveAt D id := by
 have hk := (List.getElem?_eq_some_iff.1 hx).1
 by_cases c : id = (k : Int) + 1
 ·subst c
  rw [if_pos rfl, liveAt_of (by rw [List.getElem?_set, if_pos rfl, if_pos hk]) hy]
 ·rw [if_neg c]
  unfold liveAt
  by_cases c1 : 1 <= id
  ·rw [if_pos c1, if_pos c1, List.getElem?_set, if_neg (by omega)]
  ·rw [if_neg c1, if_neg c1]
theorem Val.set {D : List DN} {k : Nat} {x y : DN} (h : Val D) (hx : D[k]? = some x) (hg : x.gone = false) (hy : y.gone = false) (hP : ∀ t ∈ y.P, t ≠ 0 -> (liveAt D t).isSome = true) : Val (D.set k y) := by
 intro id z hz t ht h0
 rw [liveAt_set hx hg hy] at hz ⊢
 have : (liveAt D t).isSome = true := by
  split at hz
  ·cases hz; exact hP t ht h0
  ·exact h id z hz t ht h0
 split
 ·rfl
 ·exact this
theorem liveAt_drop {D : List DN} {k : Nat} {x : DN} (hx : D[k]? = some x) (n id : Int) : liveAt ((D.set k { x with gone := true }).map (zeroD n)) id = if id = (k : Int) + 1 then none else (liveAt D id).map (zeroD n) := by
 have hk := (List.getElem?_eq_some_iff.1 hx).1
 unfold liveAt
 by_cases c : id = (k : Int) + 1
 ·subst c
  rw [if_pos (by omega), if_pos rfl, show ((k : Int) + 1 - 1).toNat = k by omega, List.getElem?_map, List.getElem?_set, if_pos rfl, if_pos hk]
  rfl
 ·rw [if_neg c]
  by_cases c1 : 1 <= id
  ·rw [if_pos c1, if_pos c1, List.getElem?_map, List.getElem?_set, if_neg (by omega)]
   cases D[(id - 1).toNat]? with
   | none => rfl
   | some y =>
    cases hyg : y.gone <;> simp [zeroD, hyg]
  ·rw [if_neg c1, if_neg c1]; rfl
theorem liveAt_snoc {D : List DN} {y : DN} (hy : y.gone = false) (id : Int) : liveAt (D ++ [y]) id = if id = (D.length : Int) + 1 then some y else liveAt D id := by
 unfold liveAt
 by_cases c : id = (D.length : Int) + 1
 ·subst c
  rw [if_pos (by omega), if_pos rfl, show ((D.length : Int) + 1 - 1).toNat = D.length by omega, List.getElem?_append_right (Nat.le_refl _)]
  simp [hy]
 ·rw [if_neg c]
  by_cases c1 : 1 <= id
  ·rw [if_pos c1, if_pos c1]
   by_cases c2 : (id - 1).toNat < D.length
   ·rw [List.getElem?_append_left c2]
   ·rw [List.getElem?_eq_none (by simp; omega), List.getElem?_eq_none (by omega)]
  ·rw [if_neg c1, if_neg c1]
theorem Val.step {D : List DN} (h : Val D) (o : OpV) : Val (stepD D o) := by
 unfold stepD
 split
 ·unfold addD
  split
  ·intro id x hx t ht h0
   rw [liveAt_snoc rfl] at hx ⊢
   have : (liveAt D t).isSome = true := by
    split at hx
    ·cases hx
     have := List.eq_of_mem_replicate ht
     exact absurd this h0
    ·exact h id x hx t ht h0
   split
   ·rfl
   ·exact this
  ·exact h
 split
 ·unfold dropD
  split
  ·exact h
  ·rename_i x hl
   obtain ⟨k, ek, hx, hg, hk⟩ := liveAt_some hl
   rw [ek, show ((k : Int) + 1 - 1).toNat = k by omega]
   intro id z hz t ht h0
   rw [liveAt_drop hx] at hz ⊢
   split at hz
   ·cases hz
   ·obtain ⟨y, hy, rfl⟩ := Option.map_eq_some_iff.1 hz
    obtain ⟨s, hs, rfl⟩ := List.mem_map.1 (show t ∈ y.P.map (zN ((k : Int) + 1)) from ht)
    have hne : s ≠ (k : Int) + 1 := fun e => h0 (by simp [zN, e])
    have e1 : zN ((k : Int) + 1) s = s := by simp [zN, hne]
    rw [e1] at h0 ⊢
    rw [if_neg hne, Option.isSome_map]
    exact h id y hy s hs h0
 split
 ·unfold growD
  split
  ·exact h
  ·rename_i x hl
   obtain ⟨k, ek, hx, hg, hk⟩ := liveAt_some hl
   rw [ek] at hl ⊢
   rw [show ((k : Int) + 1 - 1).toNat = k by omega]
   exact h.set (y := { x with h := olderV x.h }) hx hg hg fun t ht h0 => h _ x hl t ht h0
 split
 ·unfold linkD
  split
  ·exact h
  ·rename_i x hl
   obtain ⟨k, ek, hx, hg, hk⟩ := liveAt_some hl
   split
   ·split
    ·exact h
    ·rename_i c c2
     rw [ek] at hl ⊢
     rw [show ((k : Int) + 1 - 1).toNat = k by omega]
     refine h.set (y := { x with P := x.P.set o.b.toNat o.c }) hx hg hg fun t ht h0 => ?_
     rcases List.mem_or_eq_of_mem_set ht with h1 | h1
     ·exact h _ x hl t h1 h0
     ·subst h1
      cases hc : liveAt D o.c with
      | none => exact absurd ⟨h0, hc⟩ c2
      | some y => rfl
   ·exact h
 split
 ·unfold writeD
  split
  ·exact h
  ·rename_i x hl
   obtain ⟨k, ek, hx, hg, hk⟩ := liveAt_some hl
   split
   ·rw [ek] at hl ⊢
    rw [show ((k : Int) + 1 - 1).toNat = k by omega]
    exact h.set (y := { x with R := x.R.set o.b.toNat o.w }) hx hg hg fun t ht h0 => h _ x hl t ht h0
   ·exact h
 ·exact h
theorem Val.nil : Val [] := fun id x hx => by
 unfold liveAt at hx
 split at hx <;> simp at hx
theorem edges_le {D : List DN} (hs : Small36 D) (id : Int) : (edgesD D id).length <= 5000 := by
 unfold edgesD
 cases hl : liveAt D id with
 | none => simp
 | some x =>
  obtain ⟨k, _, hx, _⟩ := liveAt_some hl
  have := (hs.p x (List.mem_of_getElem? hx)).1
  have := List.length_filter_le nz x.P
  simp only; omega
end Go.Abs.Try
