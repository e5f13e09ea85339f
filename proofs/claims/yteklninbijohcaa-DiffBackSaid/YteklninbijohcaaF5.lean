/-
  What is unlike in two nodes, and in two forms. No conditions.
-/
import Derived.Test.YteklninbijohcaaF4
set_option linter.unusedVariables false
set_option linter.unusedSimpArgs false
set_option linter.constructorNameAsVariable false
set_option linter.unusedSimpArgs false
set_option linter.unusedVariables false
set_option linter.unusedSectionVars false
set_option maxHeartbeats 1000000
namespace Go.Abs.Try
open Go Go.Abs
variable {O : Type}

theorem nodes_l2 {σ σ1 : AH O} {n : Int} {x y : NV} {a c : SA} {e1 : Nat} (hx : x.few) (hy : y.few) (ha : Ints .u64 a x.R) (hc : Ints .u64 c y.R) (hlen : x.R.length = y.R.length) {k0 : SA} {pre : List CV} (hpre : pre.length ≤ 100000) {e0 : SA}
    (b0 : σ1.blk σ.next = some (.cells true e1 (x.cells k0 a))) (hn : σ.next + 2 ≤ σ1.next) (B0 : BldO (σ.next + 2) σ1 T_diff_Change 13 CV.row e0 pre) :
    Ok (loopF (S := List AV × AH O) (T := List AV × AH O) (diff_nodes_L2 (c, y.R.length) σ n) ([.sl e0 pre.length, .i .i64 0], σ1)) fun r => ∃ e σ', r = ([.sl e (pre ++ unlike (ch3 n) x.R y.R y.R.length).length], σ') ∧ BldO (σ.next + 2) σ' T_diff_Change 13 CV.row e (pre ++ unlike (ch3 n) x.R y.R y.R.length) ∧ σ1.next ≤ σ'.next ∧ ∀ b, b < σ.next + 2 → σ'.blk b = σ1.blk b := by
  refine Ok.count y.R.length (fun k s => NdI σ1 (σ.next + 2) (pre ++ unlike (ch3 n) x.R y.R k) k s) ?_ ?_ ⟨e0, σ1, by simp [unlike], by simpa [unlike] using B0, Nat.le_refl _, fun _ _ => rfl⟩
  · rintro k s hk ⟨e, σ2, rfl, B, hn2, ho⟩
    obtain ⟨u, hu⟩ : ∃ u, x.R[k]? = some u := ⟨_, List.getElem?_eq_getElem (by omega)⟩
    obtain ⟨w, hw⟩ : ∃ w, y.R[k]? = some w := ⟨_, List.getElem?_eq_getElem hk⟩
    obtain ⟨p1, o1, rfl, l1⟩ := ha.at hu
    obtain ⟨p2, o2, rfl, l2⟩ := hc.at hw
    have c0 := (ho σ.next (by omega)).trans b0
    have hl := unlike_len (ch3 n) x.R y.R k
    have hfew := hy.r
    have hle : (pre ++ unlike (ch3 n) x.R y.R k).length ≤ 200000 := by rw [List.length_append]; omega
    unfold NV.cells at c0
    by_cases q : u = w
    · have q1 := s_eqT q
      simp (config := { maxSteps := 2000000 }) -implicitDefEqProofs (disch := (first | omega | rfl | assumption | (simp only [rsD]; first | omega | assumption))) only [diff_nodes_L2, c0, l1, l2, q1, Nat.reduceAdd, Nat.reduceMul, Nat.reduceLT, Int.reduceToNat, Int.reduceAdd, Int.reduceSub, Int.reduceMul, rsU, rsC]
      refine Ok_some.2 ⟨e, σ2, ?_, ?_, hn2, ho⟩
      · rw [unlike_succ, hu, hw, q]; simp
      · rw [unlike_succ, hu, hw, q]; simpa using B
    · have q1 := s_eqF q
      simp (config := { maxSteps := 2000000 }) -implicitDefEqProofs (disch := (first | omega | rfl | assumption | (simp only [rsD]; first | omega | assumption))) only [diff_nodes_L2, c0, l1, l2, q1, Nat.reduceAdd, Nat.reduceMul, Nat.reduceLT, Int.reduceToNat, Int.reduceAdd, Int.reduceSub, Int.reduceMul, rsU, rsC]
      refine Ok.step (B.app1 (x := ch3 n k w) (σ2 := σ2) (by omega) (New.im (CV.mk_ (c := ch3 n k w) (a := .nil) (b := .nil) (d := .nil) (Row.nil (int1_len _)) (Row.nil (int1_len _)) (Row.nil (int1_len _))) (Ext.refl _)) (ext_of (by (try simp only [rsD] at *); omega) (fun b hb => by (try simp only [rsD] at *); simp -implicitDefEqProofs (disch := (first | omega | rfl | assumption | (simp only [rsD]; first | omega | assumption))) only [s_bn, s_kn, bump_blk])) (by omega) (by simp)) fun r ⟨e', g1, g2, g3, g4, g5⟩ => ?_
      obtain ⟨z, σ3⟩ := r
      simp only at g1 g2 g3 g4
      subst g1
      have hbk := B.bk
      simp (config := { maxSteps := 2000000 }) -implicitDefEqProofs (disch := (first | omega | rfl | assumption | (simp only [rsD]; first | omega | assumption))) only [Nat.reduceAdd, Nat.reduceMul, Nat.reduceLT, Int.reduceToNat, Int.reduceAdd, Int.reduceSub, Int.reduceMul, rsU, rsC]
      have eu : pre ++ unlike (ch3 n) x.R y.R (k + 1) = (pre ++ unlike (ch3 n) x.R y.R k) ++ [ch3 n k w] := by
        rw [unlike_succ, hu, hw, if_neg (by simpa using q)]; simp [hw]
      refine Ok_some.2 ⟨e', σ3, ?_, ?_, by rw [g3]; simp; omega, fun b hb => ?_⟩
      · rw [eu]; simp [Nat.add_assoc]
      · rw [eu]; exact g2
      · rw [g4 b (by omega) (fun hm => by have := hbk b hm; omega), ← ho b hb]; ((try simp only [rsD] at *); simp -implicitDefEqProofs (disch := (first | omega | rfl | assumption | (simp only [rsD]; first | omega | assumption))) only [s_bs, s_bn, s_kn, bump_blk])
  · rintro s ⟨e, σ2, rfl, B, hn2, ho⟩
    simp (config := { maxSteps := 2000000 }) -implicitDefEqProofs (disch := (first | omega | rfl | assumption | (simp only [rsD]; first | omega | assumption))) only [diff_nodes_L2, Nat.reduceAdd, Nat.reduceMul, Nat.reduceLT, Int.reduceToNat, Int.reduceAdd, Int.reduceSub, Int.reduceMul, rsU, rsC]
    exact Ok_some.2 ⟨e, σ2, rfl, B, hn2, ho⟩
theorem dnodes_len (n : Int) (x y : NV) (hy : y.few) : (dnodes n x y).length ≤ 200000 := by
  unfold dnodes
  have h1 := hy.p
  have h2 := hy.r
  have h3 := unlike_len (ch2 n) x.P y.P y.P.length
  have h4 := unlike_len (ch3 n) x.R y.R y.R.length
  split
  · simp
  · rw [List.length_append]; omega
theorem nodes_ok {σ : AH O} {n : Int} {x y : NV} {a b c d : SA} (hx : x.few) (hy : y.few) (ha : Ints .i64 a x.P) (hb : Ints .u64 b x.R) (hc : Ints .i64 c y.P) (hd : Ints .u64 d y.R) :
    Ok (diff_nodes [.i .i64 n, .agg (x.cells a b), .agg (y.cells c d)] σ) fun r => (∃ e, r.1 = .sl e (dnodes n x y).length ∧ Chgs e (dnodes n x y)) ∧ Ext σ r.2 := by
  have fin : Ok (diff_nodes [.i .i64 n, .agg (x.cells a b), .agg (y.cells c d)] σ) fun r => Im (.sl T_diff_Change 13 (dnodes n x y).length ((dnodes n x y).flatMap CV.row)) r.1 ∧ Ext σ r.2 := by
    refine frz_sl (rows_deep fun x => CV.deep x 5) ?_
    have q := hv_eq x.h y.h
    have hx1 := hx.p
    have hx2 := hx.r
    have hy1 := hy.p
    have hy2 := hy.r
    have bf : (false == false) = true := rfl
    have tf : (true == false) = false := rfl
    by_cases c0 : x.h ≠ y.h ∨ x.P.length ≠ y.P.length ∨ x.R.length ≠ y.R.length
    · have hd0 : dnodes n x y = [⟨1, n, 0, 0, 0, y, []⟩] := by unfold dnodes; rw [if_pos c0]
      rw [hd0]
      have key : ∀ σ1 : AH O, Ext σ σ1 → σ1.next = σ.next + 2 → Ok (diff_clone [.agg (y.cells c d)] (σ1.bump 1)) fun r => ∃ a' b', r.1 = .agg (y.cells a' b') ∧ New σ (r.2.put σ1.next (.cells true T_diff_Change ((⟨1, n, 0, 0, 0, y, []⟩ : CV).cells a' b' .nil))) [.sl T_diff_Change 13 1 ([(⟨1, n, 0, 0, 0, y, []⟩ : CV)].flatMap CV.row)] [.sl (.loc (.n σ1.next) 0 13) 1] := by
        intro σ1 E1 n1
        refine (dclone hc hd hy).mono ?_
        rintro ⟨z, σ2⟩ ⟨a', b', g1, g2, _⟩
        simp only at g1 g2
        subst g1
        refine ⟨a', b', rfl, ?_⟩
        have x2 := g2.e.next
        simp only [rsD] at x2
        refine New.sl (m := σ1.next + 1) (ext_of (by (have x0 := (g2.e).next); (have x1 := (E1).next); (try simp only [rsD] at *); omega) (fun b hb => by (have x0 := (g2.e).next); (have x1 := (E1).next); (try simp only [rsD] at *); simp -implicitDefEqProofs (disch := (first | omega | rfl | assumption | (simp only [rsD]; first | omega | assumption))) only [s_bn, s_kn, bump_blk, s_ext (g2.e), s_ext (E1)])) (OwnS.new (by simp [CV.cells]) s_bs (by simp; omega)).p ?_ (by simp [SA.bk]; omega) (by omega)
        have st := (New.lf (x := .i .i64 1) rfl (New.lf (x := .i .i64 n) rfl (New.lf (x := .i .i64 0) rfl (New.lf (x := .i .i64 0) rfl (New.lf (x := .i .u64 0) rfl (g2.app (New.im (.cons (ints_mk (Row.nil (int1_len .i64))) .nil) (Ext.refl _))))))))
        have := st.still (σ'' := σ2.put σ1.next (.cells true T_diff_Change ((⟨1, n, 0, 0, 0, y, []⟩ : CV).cells a' b' .nil))) (Nat.le_refl _) fun b h1 h2 => by simp only [rsD] at h1; ((try simp only [rsD] at *); simp -implicitDefEqProofs (disch := (first | omega | rfl | assumption | (simp only [rsD]; first | omega | assumption))) only [s_bs, s_bn, s_kn, bump_blk])
        simpa [CV.row, CV.cells, NV.cells, NV.row, HV.cs] using this
      simp only [NV.cells] at key
      by_cases e : x.h = y.h
      · rw [decide_eq_true e] at q
        by_cases e1 : x.P.length = y.P.length
        · have p1 := s_eqT (show (x.P.length : Int) = y.P.length by omega)
          have p2 := s_eqF (show ¬ (x.R.length : Int) = y.R.length by have := c0.resolve_left (fun h => h e); have := this.resolve_left (fun h => h e1); omega)
          simp (config := { maxSteps := 2000000 }) -implicitDefEqProofs (disch := (first | omega | rfl | assumption | (simp only [rsD]; first | omega | assumption))) only [diff_nodes_c, NV.cells, q, bf, tf, p1, p2, Nat.reduceAdd, Nat.reduceMul, Nat.reduceLT, Int.reduceToNat, Int.reduceAdd, Int.reduceSub, Int.reduceMul, rsU, rsC]
          refine Ok.step (key _ (ext_of (by (try simp only [rsD] at *); omega) (fun b hb => by (try simp only [rsD] at *); simp -implicitDefEqProofs (disch := (first | omega | rfl | assumption | (simp only [rsD]; first | omega | assumption))) only [s_bn, s_kn, bump_blk])) (by simp)) fun r ⟨a', b', g1, g2⟩ => ?_
          obtain ⟨z, σ2⟩ := r
          simp only at g1 g2
          subst g1
          simp (config := { maxSteps := 2000000 }) -implicitDefEqProofs (disch := (first | omega | rfl | assumption | (simp only [rsD]; first | omega | assumption))) only [Nat.reduceAdd, Nat.reduceMul, Nat.reduceLT, Int.reduceToNat, Int.reduceAdd, Int.reduceSub, Int.reduceMul, rsU, rsC]
          exact Ok_some.2 g2
        · have p1 := s_eqF (show ¬ (x.P.length : Int) = y.P.length by omega)
          simp (config := { maxSteps := 2000000 }) -implicitDefEqProofs (disch := (first | omega | rfl | assumption | (simp only [rsD]; first | omega | assumption))) only [diff_nodes_c, NV.cells, q, bf, tf, p1, Nat.reduceAdd, Nat.reduceMul, Nat.reduceLT, Int.reduceToNat, Int.reduceAdd, Int.reduceSub, Int.reduceMul, rsU, rsC]
          refine Ok.step (key _ (ext_of (by (try simp only [rsD] at *); omega) (fun b hb => by (try simp only [rsD] at *); simp -implicitDefEqProofs (disch := (first | omega | rfl | assumption | (simp only [rsD]; first | omega | assumption))) only [s_bn, s_kn, bump_blk])) (by simp)) fun r ⟨a', b', g1, g2⟩ => ?_
          obtain ⟨z, σ2⟩ := r
          simp only at g1 g2
          subst g1
          simp (config := { maxSteps := 2000000 }) -implicitDefEqProofs (disch := (first | omega | rfl | assumption | (simp only [rsD]; first | omega | assumption))) only [Nat.reduceAdd, Nat.reduceMul, Nat.reduceLT, Int.reduceToNat, Int.reduceAdd, Int.reduceSub, Int.reduceMul, rsU, rsC]
          exact Ok_some.2 g2
      · rw [decide_eq_false e] at q
        simp (config := { maxSteps := 2000000 }) -implicitDefEqProofs (disch := (first | omega | rfl | assumption | (simp only [rsD]; first | omega | assumption))) only [diff_nodes_c, NV.cells, q, bf, tf, Nat.reduceAdd, Nat.reduceMul, Nat.reduceLT, Int.reduceToNat, Int.reduceAdd, Int.reduceSub, Int.reduceMul, rsU, rsC]
        refine Ok.step (key _ (ext_of (by (try simp only [rsD] at *); omega) (fun b hb => by (try simp only [rsD] at *); simp -implicitDefEqProofs (disch := (first | omega | rfl | assumption | (simp only [rsD]; first | omega | assumption))) only [s_bn, s_kn, bump_blk])) (by simp)) fun r ⟨a', b', g1, g2⟩ => ?_
        obtain ⟨z, σ2⟩ := r
        simp only at g1 g2
        subst g1
        simp (config := { maxSteps := 2000000 }) -implicitDefEqProofs (disch := (first | omega | rfl | assumption | (simp only [rsD]; first | omega | assumption))) only [Nat.reduceAdd, Nat.reduceMul, Nat.reduceLT, Int.reduceToNat, Int.reduceAdd, Int.reduceSub, Int.reduceMul, rsU, rsC]
        exact Ok_some.2 g2
    · have e : x.h = y.h := Decidable.byContradiction fun h => c0 (.inl h)
      have e1 : x.P.length = y.P.length := Decidable.byContradiction fun h => c0 (.inr (.inl h))
      have e2 : x.R.length = y.R.length := Decidable.byContradiction fun h => c0 (.inr (.inr h))
      have hd0 : dnodes n x y = unlike (ch2 n) x.P y.P y.P.length ++ unlike (ch3 n) x.R y.R y.R.length := by unfold dnodes; rw [if_neg c0]
      rw [decide_eq_true e] at q
      have p1 := s_eqT (show (x.P.length : Int) = y.P.length by omega)
      have p2 := s_eqT (show (x.R.length : Int) = y.R.length by omega)
      simp (config := { maxSteps := 2000000 }) -implicitDefEqProofs (disch := (first | omega | rfl | assumption | (simp only [rsD]; first | omega | assumption))) only [diff_nodes_c, NV.cells, q, bf, tf, p1, p2, Nat.reduceAdd, Nat.reduceMul, Nat.reduceLT, Int.reduceToNat, Int.reduceAdd, Int.reduceSub, Int.reduceMul, rsU, rsC]
      refine Ok.step (nodes_l1 hx hy ha hc e1 (k0 := b) (k1 := d) (b' := d) (d' := d) (e2 := 0) (e1 := T_canon_Node) (by unfold NV.cells; ((try simp only [rsD] at *); simp -implicitDefEqProofs (disch := (first | omega | rfl | assumption | (simp only [rsD]; first | omega | assumption))) only [s_bs, s_bn, s_kn, bump_blk])) (by simp)) fun r ⟨e', σ2, g1, g2, g3, g4⟩ => ?_
      subst g1
      have l1 := unlike_len (ch2 n) x.P y.P y.P.length
      simp only [rsD] at g3
      have c0 := g4 σ.next (by omega)
      have c1 := g4 (σ.next + 1) (by omega)
      simp (config := { maxSteps := 2000000 }) -implicitDefEqProofs (disch := (first | omega | rfl | assumption | (simp only [rsD]; first | omega | assumption))) only [Nat.reduceAdd, Nat.reduceMul, Nat.reduceLT, Int.reduceToNat, Int.reduceAdd, Int.reduceSub, Int.reduceMul, rsU, rsC] at c0 c1
      simp (config := { maxSteps := 2000000 }) -implicitDefEqProofs (disch := (first | omega | rfl | assumption | (simp only [rsD]; first | omega | assumption))) only [c1, Nat.reduceAdd, Nat.reduceMul, Nat.reduceLT, Int.reduceToNat, Int.reduceAdd, Int.reduceSub, Int.reduceMul, rsU, rsC]
      refine Ok.step (nodes_l2 hx hy hb hd e2 (by omega) (k0 := a) (e1 := T_canon_Node) (by rw [c0]; rfl) g3 g2) fun r ⟨e3, σ3, h1, h2, h3, h4⟩ => ?_
      subst h1
      simp (config := { maxSteps := 2000000 }) -implicitDefEqProofs (disch := (first | omega | rfl | assumption | (simp only [rsD]; first | omega | assumption))) only [Nat.reduceAdd, Nat.reduceMul, Nat.reduceLT, Int.reduceToNat, Int.reduceAdd, Int.reduceSub, Int.reduceMul, rsU, rsC]
      refine Ok_some.2 ?_
      rw [← hd0] at h2 ⊢
      exact h2.out ⟨by show σ.next ≤ σ3.next; omega, fun b hb => by show σ3.blk b = _; rw [h4 b (by omega), g4 b (by omega)]; ((try simp only [rsD] at *); simp -implicitDefEqProofs (disch := (first | omega | rfl | assumption | (simp only [rsD]; first | omega | assumption))) only [s_bs, s_bn, s_kn, bump_blk])⟩ (by omega)
  refine fin.mono ?_
  rintro ⟨v, σ'⟩ ⟨h1, h2⟩
  exact ⟨Row.of CV.len h1 rfl, h2⟩
end Go.Abs.Try
