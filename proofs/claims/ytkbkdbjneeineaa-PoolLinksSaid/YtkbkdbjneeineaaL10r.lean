/-
  PoolLinks: what was linked is read back. No conditions.
-/
import Derived.Test.YtkbkdbjneeineaaL10q
set_option linter.unusedVariables false
set_option linter.unusedSimpArgs false
set_option linter.constructorNameAsVariable false
set_option linter.unusedSimpArgs false
set_option linter.unusedVariables false
set_option linter.unusedSectionVars false
set_option maxHeartbeats 2000000
namespace Go.Abs.Try
open Go Go.Abs
variable {O : Type}

theorem Hd.turn {σ σ' : AH O} {pb mb nx pv cb tb gb lb N k : Nat} {M M' : MemS} {S : PoolS} {w : List Int} {ai ag : SA} {B B' : Int} (h : Hd σ pb mb nx pv cb tb gb lb N k M S w ai ag B) (p : PoolAt σ' pb mb M' S w (tb :: gb :: lb :: (SA.bk ai ++ SA.bk ag))) (kp : Keep (tb :: gb :: lb :: (SA.bk ai ++ SA.bk ag)) σ σ') (hr : M'.met.r ≤ B' + k) (hw : M'.met.w ≤ B') : Hd σ' pb mb nx pv cb tb gb lb N k M' S w ai ag B' :=
  ⟨p, h.oi.of kp.next fun b hb => kp.blk b (by simp [hb]), h.og.of kp.next fun b hb => kp.blk b (by simp [hb]), (kp.blk gb (by simp)).trans h.bg, (kp.blk lb (by simp)).trans h.bl, (kp.blk tb (by simp)).trans h.bt, h.gl, h.tg, h.tl, h.xi, h.xg, h.ig, hr, hw⟩
theorem range_ok {σ : AH O} {pb mb nx pv cb tb gb lb N : Nat} {M : MemS} {S : PoolS} {w : List Int} {ai ag : SA} {B : Int} (h : Hd σ pb mb nx pv cb tb gb lb N 0 M S w ai ag B) (hB : 0 ≤ B ∧ B ≤ 1000) (hN : N ≤ 19) (h1 : nx < S.words) (h2 : pv < S.words) (hne : nx ≠ pv) (hL : Linked S.E nx pv (List.range N)) {el : TypeId} (hcb : σ.blk cb = some (.cells true el (chnc (List.range N)))) :
    Ok (chain_Table__All_1 law10_PoolLinks_R0 [.fn (some (.yield lb, [], [])), .p (some (.n cb, 0)), .p (some (.n tb, 0))] σ) fun r => r.1 = .tup [] ∧ ∃ M' ag', Hd r.2 pb mb nx pv cb tb gb lb N N M' S w ai ag' B := by
  have hlen : (List.range N).length = N := List.length_range
  have := tallr_ok (ky := law10_PoolLinks_R0) (b := lb) (pb := pb) (mb := mb) (nx := nx) (pv := pv) (S := S) (w := w) (C := List.range N) (cb := cb) (tb := tb) (fun k σ M => ∃ ag, Hd σ pb mb nx pv cb tb gb lb N k M S w ai ag B) h1 h2 hne hL (by rw [hlen]; omega)
    (fun k i σ M hk hI => by
      obtain ⟨ag, hI⟩ := hI
      have hkN : k < N := by have := (List.getElem?_eq_some_iff.1 hk).1; rwa [hlen] at this
      have hi : i = k := by rw [List.getElem?_range hkN] at hk; cases hk; rfl
      subst hi
      refine (round_ok hI hkN hN).mono fun r ⟨g1, ag', g2, g3, g4⟩ => ⟨g1, M, _, g2.p, ⟨by omega, by omega⟩, ⟨_, g2.bt⟩, fun σ' M'' p q kp => ⟨ag', g2.turn p kp (by have := q.r; push_cast; omega) (by have := q.w; omega)⟩⟩)
    h.p hcb ⟨ag, h⟩ (x := []) (y := [])
  rw [hlen] at this
  exact this.mono fun r ⟨g1, M', ag', g2⟩ => ⟨g1, M', ag', g2⟩
theorem same_own {σ : AH O} {a b : SA} {n : Nat} (ha : OwnS σ 3 1 a n (ids n)) (hb : OwnS σ 3 1 b n (ids n)) (hn : n ≤ 100000) : Ok (haymowref02_Same [.sl a n, .sl b n] σ) fun r => r = (.b true, σ) := by
  have q0 : ((n : Int) != (n : Int)) = false := by simp
  simp (config := { maxSteps := 2000000 }) -implicitDefEqProofs (disch := (first | omega | rfl | assumption | (simp only [rsD]; first | omega | assumption))) only [haymowref02_Same, haymowref02_Same_c, q0, Nat.reduceAdd, Nat.reduceMul, Nat.reduceLT, Int.reduceToNat, Int.reduceAdd, Int.reduceSub, Int.reduceMul, rsU, rsC]
  refine Ok.bindS (Q := fun r => r = .inl ([], σ)) ?_ ?_ (fun r h => by cases h)
  · refine Ok.count n (fun k s => s = ([.i .i64 (k : Int)], σ)) ?_ ?_ rfl
    · rintro k s hk rfl
      obtain ⟨b1, o1, e1, l1⟩ := ha.rd.ref hk
      obtain ⟨b2, o2, e2, l2⟩ := hb.rd.ref hk
      have r1 : SA.ref a = some (b1, o1) := by rw [e1]; rfl
      have r2 : SA.ref b = some (b2, o2) := by rw [e2]; rfl
      have l1 := (l1 0 (by omega)).trans (show (ids n)[k * 1 + 0]? = some (.i .i64 ((k : Int) + 1)) by rw [Nat.mul_one, Nat.add_zero]; exact ids_get hk)
      have l2 := (l2 0 (by omega)).trans (show (ids n)[k * 1 + 0]? = some (.i .i64 ((k : Int) + 1)) by rw [Nat.mul_one, Nat.add_zero]; exact ids_get hk)
      simp only [Nat.add_zero, Nat.mul_one] at l1 l2
      have q1 : ((k : Int) + 1 != (k : Int) + 1) = false := by simp
      simp (config := { maxSteps := 2000000 }) -implicitDefEqProofs (disch := (first | omega | rfl | assumption | (simp only [rsD]; first | omega | assumption))) only [haymowref02_Same_L1, r1, r2, l1, l2, q1, Nat.reduceAdd, Nat.reduceMul, Nat.reduceLT, Int.reduceToNat, Int.reduceAdd, Int.reduceSub, Int.reduceMul, rsU, rsC]
      exact Ok_some.2 (by simp)
    · rintro s rfl
      simp (config := { maxSteps := 2000000 }) -implicitDefEqProofs (disch := (first | omega | rfl | assumption | (simp only [rsD]; first | omega | assumption))) only [haymowref02_Same_L1, Nat.reduceAdd, Nat.reduceMul, Nat.reduceLT, Int.reduceToNat, Int.reduceAdd, Int.reduceSub, Int.reduceMul, rsU, rsC]
      exact Ok_some.2 rfl
  · rintro _ h
    cases h
    exact Ok_some.2 rfl
/-- what was linked is read back -/
theorem back_loop {σ : AH O} {pb mb nx pv N : Nat} {M : MemS} {S : PoolS} {w : List Int} {X : List Nat} {ai : SA} (p : PoolAt σ pb mb M S w X) (hai : OwnS σ 3 1 ai N (ids N)) (hX : ∀ b ∈ SA.bk ai, b ∈ X) (hN : N ≤ 19) (h1 : nx < S.words) (h2 : pv < S.words) (hL : Linked S.E nx pv (List.range N)) (hr : M.met.r ≤ 2000) (hw : M.met.w ≤ 2000)
    {n34 n36 n0 : Int} (e1 : Int.tmod (IntKind.i64.wrap n34) n0 = (nx : Int)) (e2 : Int.tmod (IntKind.i64.wrap n36) n0 = (pv : Int)) :
    Ok (loopF (S := List AV × AH O) (T := (List AV × AH O) ⊕ (AV × AH O)) (law10_PoolLinks_L2 (ai, N) pool_Pool__Get (some (.n pb, 0)) n34 n0 n36) ([.i .i64 0], σ)) fun r => ∃ σ' M', r = .inl ([], σ') ∧ PoolAt σ' pb mb M' S w X ∧ Keep X σ σ' := by
  have hlen : (List.range N).length = N := List.length_range
  refine Ok.count (N - 1) (fun k s => ∃ σ' M', s = ([.i .i64 (k : Int)], σ') ∧ PoolAt σ' pb mb M' S w X ∧ Keep X σ σ' ∧ M'.met.r ≤ 2000 + 4 * k ∧ M'.met.w ≤ 2000) ?_ ?_ ⟨σ, M, rfl, p, Keep.refl _ _, by omega, hw⟩
  · rintro k s hk ⟨σ1, M1, rfl, p1, k1, r1, w1⟩
    have hai1 := hai.of k1.next fun b hb => k1.blk b (hX b hb)
    have hk1 : (List.range N)[k]? = some k := List.getElem?_range (by omega)
    have hk2 : (List.range N)[k + 1]? = some (k + 1) := List.getElem?_range (by omega)
    obtain ⟨ea, ha, la⟩ := hL.at_ k k hk1
    obtain ⟨eb, hb, lb⟩ := hL.at_ (k + 1) (k + 1) hk2
    obtain ⟨b1, o1, x1, l1⟩ := hai1.rd.ref (show k < N by omega)
    obtain ⟨b2, o2, x2, l2⟩ := hai1.rd.ref (show k + 1 < N by omega)
    have f1 : SA.ref ai = some (b1, o1) := by rw [x1]; rfl
    have f2 : SA.ref ai = some (b2, o2) := by rw [x2]; rfl
    rw [f1] at f2
    cases f2
    have l1 := (l1 0 (by omega)).trans (show (ids N)[k * 1 + 0]? = some (.i .i64 ((k : Int) + 1)) by rw [Nat.mul_one, Nat.add_zero]; exact ids_get (by omega))
    have l2 := (l2 0 (by omega)).trans (show (ids N)[(k + 1) * 1 + 0]? = some (.i .i64 (((k + 1 : Nat) : Int) + 1)) by rw [Nat.mul_one, Nat.add_zero]; exact ids_get (by omega))
    simp only [Nat.add_zero, Nat.mul_one] at l1 l2
    have hn1 : ea.ws.getD nx 0 = (k : Int) + 1 + 1 := by
      rw [List.getD_eq_getElem?_getD, la.n, nid_some hk2]; simp
    have hn2 : eb.ws.getD pv 0 = (k : Int) + 1 := by
      rw [List.getD_eq_getElem?_getD, lb.p, pid_some hk1]; simp
    have c1 : ((k : Int) + 1).toNat = k + 1 := by omega
    have q1 : ((k : Int) + 1 + 1 != (k : Int) + 1 + 1) = false := by simp
    have q2 : ((k : Int) + 1 != (k : Int) + 1) = false := by simp
    have q3 : ((0 : Int) != 0) = false := rfl
    simp (config := { maxSteps := 2000000 }) -implicitDefEqProofs (disch := (first | omega | rfl | assumption | (simp only [rsD]; first | omega | assumption))) only [law10_PoolLinks_L2, f1, l1, e1, Nat.reduceAdd, Nat.reduceMul, Nat.reduceLT, Int.reduceToNat, Int.reduceAdd, Int.reduceSub, Int.reduceMul, rsU, rsC]
    refine Ok.step (pget_ok p1 ⟨by omega, by omega⟩ ha la.tk h1 (by omega)) fun r ⟨g1, M2, g2, g3, g4⟩ => ?_
    obtain ⟨q, σ2⟩ := r
    simp only at g1 g2 g4
    rw [hn1] at g1
    subst g1
    have r2 := g3.r
    have w2 := g3.w
    have hai2 := hai1.of g4.next fun b hb => g4.blk b (hX b hb)
    have m1 : σ2.ld b1 (o1 + k) = some (.i .i64 ((k : Int) + 1)) := by
      obtain ⟨b3, o3, x3, l3⟩ := hai2.rd.ref (show k < N by omega)
      rw [x1] at x3; cases x3
      have := (l3 0 (by omega)).trans (show (ids N)[k * 1 + 0]? = some (.i .i64 ((k : Int) + 1)) by rw [Nat.mul_one, Nat.add_zero]; exact ids_get (by omega))
      simpa only [Nat.add_zero, Nat.mul_one] using this
    have m2 : σ2.ld b1 (o1 + (k + 1)) = some (.i .i64 ((k : Int) + 1 + 1)) := by
      obtain ⟨b3, o3, x3, l3⟩ := hai2.rd.ref (show k + 1 < N by omega)
      rw [x1] at x3; cases x3
      have := (l3 0 (by omega)).trans (show (ids N)[(k + 1) * 1 + 0]? = some (.i .i64 (((k + 1 : Nat) : Int) + 1)) by rw [Nat.mul_one, Nat.add_zero]; exact ids_get (by omega))
      simpa only [Nat.add_zero, Nat.mul_one, Int.natCast_add, Int.cast_ofNat_Int] using this
    simp (config := { maxSteps := 2000000 }) -implicitDefEqProofs (disch := (first | omega | rfl | assumption | (simp only [rsD]; first | omega | assumption))) only [f1, m2, e2, c1, Nat.reduceAdd, Nat.reduceMul, Nat.reduceLT, Int.reduceToNat, Int.reduceAdd, Int.reduceSub, Int.reduceMul, rsU, rsC]
    have pg := pget_ok g2 ⟨by omega, by omega⟩ hb lb.tk h2 (by omega)
    rw [show ((k + 1 : Nat) : Int) = (k : Int) + 1 by simp] at pg
    refine Ok.step pg fun r ⟨g5, M3, g6, g7, g8⟩ => ?_
    obtain ⟨q, σ3⟩ := r
    simp only at g5 g6 g8
    rw [hn2] at g5
    subst g5
    have r3 := g7.r
    have w3 := g7.w
    have hai3 := hai2.of g8.next fun b hb => g8.blk b (hX b hb)
    have m3 : σ3.ld b1 (o1 + k) = some (.i .i64 ((k : Int) + 1)) := by
      obtain ⟨b3, o3, x3, l3⟩ := hai3.rd.ref (show k < N by omega)
      rw [x1] at x3; cases x3
      have := (l3 0 (by omega)).trans (show (ids N)[k * 1 + 0]? = some (.i .i64 ((k : Int) + 1)) by rw [Nat.mul_one, Nat.add_zero]; exact ids_get (by omega))
      simpa only [Nat.add_zero, Nat.mul_one] using this
    have m4 : σ3.ld b1 (o1 + (k + 1)) = some (.i .i64 ((k : Int) + 1 + 1)) := by
      obtain ⟨b3, o3, x3, l3⟩ := hai3.rd.ref (show k + 1 < N by omega)
      rw [x1] at x3; cases x3
      have := (l3 0 (by omega)).trans (show (ids N)[(k + 1) * 1 + 0]? = some (.i .i64 (((k + 1 : Nat) : Int) + 1)) by rw [Nat.mul_one, Nat.add_zero]; exact ids_get (by omega))
      simpa only [Nat.add_zero, Nat.mul_one, Int.natCast_add, Int.cast_ofNat_Int] using this
    simp (config := { maxSteps := 2000000 }) -implicitDefEqProofs (disch := (first | omega | rfl | assumption | (simp only [rsD]; first | omega | assumption))) only [f1, m3, m4, q1, q2, q3, c1, Nat.reduceAdd, Nat.reduceMul, Nat.reduceLT, Int.reduceToNat, Int.reduceAdd, Int.reduceSub, Int.reduceMul, rsU, rsC]
    exact Ok_some.2 ⟨σ3, M3, by simp, g6, (k1.trans g4).trans g8, by push_cast; omega, by omega⟩
  · rintro s ⟨σ1, M1, rfl, p1, k1, r1, w1⟩
    have c : decide (IntKind.i64.wrap (((N - 1 : Nat) : Int) + 1) < (N : Int)) = false := by rw [s_i64 (by omega)]; simp; omega
    simp (config := { maxSteps := 2000000 }) -implicitDefEqProofs (disch := (first | omega | rfl | assumption | (simp only [rsD]; first | omega | assumption))) only [law10_PoolLinks_L2, c, Nat.reduceAdd, Nat.reduceMul, Nat.reduceLT, Int.reduceToNat, Int.reduceAdd, Int.reduceSub, Int.reduceMul, rsU, rsC]
    exact Ok_some.2 ⟨σ1, M1, rfl, p1, k1⟩
end Go.Abs.Try
