/-
  The statement PoolPlays: what is known of an entry. No conditions.
-/
import Derived.Test.YtjfblnpolgoojaaL10c
set_option linter.unusedVariables false
set_option linter.unusedSimpArgs false
set_option linter.constructorNameAsVariable false
set_option linter.unusedSimpArgs false
set_option linter.unusedVariables false
set_option linter.unusedSectionVars false
set_option maxHeartbeats 2000000
namespace Go.Abs.Try
open Go Go.Abs
variable {O : Type}

section
variable {σ : AH O} {pb mb : Nat} {M : MemS} {S : PoolS} {w : List Int} {X : List Nat} {D : DS} {k : Nat} {v : AV}
theorem do_ask (h : PoolAt σ pb mb M S w X) (hc : ∀ M' : MemS, M'.met.r ≤ M.met.r + 2 → M'.met.w = M.met.w → M'.calm) (sim : Sim D S) (bd : Bd k S) (hk : k < 80) (hv : D.at_ v) (hm : M.met.r ≤ 1000000 ∧ M.met.w ≤ 1000000) {q a b c : Int} (hr : -9223372036854775808 ≤ a ∧ a ≤ 9223372036854775807) (hq : q ≠ 0 ∧ q ≠ 1 ∧ q ≠ 2 ∧ q ≠ 3) :
    Ok (law10_do [.p (some (.n pb, 0)), v, .agg [.i .i64 q, .i .i64 a, .i .i64 b, .i .u64 c]] σ) (Did σ pb mb M D S X k) := by
  have hsm := sim.small bd (by omega)
  have hww := bd.w
  have hlen := sim.len
  have hE := bd.e
  obtain ⟨va, vb, rfl, ha, hb⟩ := id hv
  obtain ⟨sa, vas, rfl, ia, ca⟩ := Im.rd ha
  obtain ⟨sb, _, rfl, _, _⟩ := Im.rd hb
  have e1 := s_eqF hq.1
  have e2 := s_eqF hq.2.1
  have e3 := s_eqF hq.2.2.1
  have e4 := s_eqF hq.2.2.2
  have c0 := hc M (by omega) rfl
  rcases sim.ent (id := a) with ⟨hn, hno⟩ | ⟨i, d, e, rfl, hent, hdd, he, hi, q1, q2, q3, q4⟩
  · have dd : (decide (a ≥ 1) = true ∧ decide (a ≤ (D.L.length : Int)) = false) ∨ decide (a ≥ 1) = false := by
      by_cases c : a ≥ 1
      · exact .inl ⟨decide_eq_true c, decide_eq_false (by omega)⟩
      · exact .inr (decide_eq_false c)
    have pre : Ok (law10_do [.p (some (.n pb, 0)), .agg [.i .i64 D.words, .sl sa D.L.length, .sl sb D.free.length, .i .i64 D.room], .agg [.i .i64 q, .i .i64 a, .i .i64 b, .i .u64 c]] σ) (Did σ pb mb M D S X k) := by
      have hf : D.is a = false := by unfold DS.is; rw [hn]
      have main : ∀ (σ1 : AH O), PoolAt σ1 pb mb M S w (σ.next :: (σ.next + 1) :: (σ.next + 1 + 1) :: X) → Keep X σ σ1 → Ok (haymowref10_Is [.agg [.i .i64 D.words, .sl sa D.L.length, .sl sb D.free.length, .i .i64 D.room], .i .i64 a] σ1) fun r => r.1 = .b false ∧ r.2.blk σ.next = σ1.blk σ.next ∧ r.2.blk (σ.next + 1) = σ1.blk (σ.next + 1) ∧ r.2.blk (σ.next + 1 + 1) = σ1.blk (σ.next + 1 + 1) ∧ ∀ σ4 : AH O, σ4.next = r.2.next → (∀ b, b ≠ σ.next → b ≠ σ.next + 1 → b ≠ σ.next + 1 + 1 → σ4.blk b = r.2.blk b) → Did σ pb mb M D S X k (.tup [.agg [.i .i64 D.words, .sl sa D.L.length, .sl sb D.free.length, .i .i64 D.room], .i .u64 2, .b true], σ4) := by
        intro σ1 h1 k1
        refine (ris_ok hsm hv hr).mono ?_
        rintro ⟨z, σ3⟩ ⟨e, E3⟩
        simp only at e E3
        rw [hf] at e
        subst e
        have l0 := h1.mi.tail.lt
        exact ⟨rfl, E3.blk _ (l0 _ (by simp)), E3.blk _ (l0 _ (by simp)), E3.blk _ (l0 _ (by simp)), fun σ4 n4 o4 => did_of h k1 (Keep.refl _ _) E3 h1 (Wrt.refl h.now) (by omega) (by omega) (by omega) (by omega) sim bd.up rfl rfl hv n4 o4⟩
      rcases dd with ⟨d1, d2⟩ | d1
      all_goals
        simp (config := { maxSteps := 2000000 }) -implicitDefEqProofs (disch := (first | omega | rfl | assumption | (simp only [rsD]; first | omega | assumption))) only [law10_do, law10_do_c, e1, e2, e3, e4, d1, Nat.reduceAdd, Nat.reduceMul, Nat.reduceLT, Int.reduceToNat, Int.reduceAdd, Int.reduceSub, Int.reduceMul, rsU, rsC]
        obtain ⟨h1, k1⟩ := boxes h (.cells true 123 [.i .i64 D.words, .sl sa D.L.length, .sl sb D.free.length, .i .i64 D.room]) (.cells true 116 [.i .i64 q, .i .i64 a, .i .i64 b, .i .u64 c]) (.cells true 123 [.i .i64 0, .sl .nil 0, .sl .nil 0, .i .i64 0])
        generalize hσ : AH.put _ (σ.next + 1 + 1) _ = σ1 at *
        have b0 : σ1.blk σ.next = some (.cells true 123 [.i .i64 D.words, .sl sa D.L.length, .sl sb D.free.length, .i .i64 D.room]) := by rw [← hσ, s_bn (by omega), s_bn (by omega)]; exact s_bs
        have b1 : σ1.blk (σ.next + 1) = some (.cells true 116 [.i .i64 q, .i .i64 a, .i .i64 b, .i .u64 c]) := by rw [← hσ, s_bn (by omega)]; exact s_bs
        have b2 : σ1.blk (σ.next + 1 + 1) = some (.cells true 123 [.i .i64 0, .sl .nil 0, .sl .nil 0, .i .i64 0]) := by rw [← hσ]; exact s_bs
        clear hσ
        have pg := pgen_no h1 c0 hno
        have pt := ptaken_no h1 c0 hno
        first
          | simp (config := { maxSteps := 2000000 }) -implicitDefEqProofs (disch := (first | omega | rfl | assumption | (simp only [rsD]; first | omega | assumption))) only [d2, b0, b1, b2, pg, pt, beq_self_eq_true, eq_self, Nat.reduceAdd, Nat.reduceMul, Nat.reduceLT, Int.reduceToNat, Int.reduceAdd, Int.reduceSub, Int.reduceMul, rsU, rsC]
          | simp (config := { maxSteps := 2000000 }) -implicitDefEqProofs (disch := (first | omega | rfl | assumption | (simp only [rsD]; first | omega | assumption))) only [b0, b1, b2, pg, pt, beq_self_eq_true, eq_self, Nat.reduceAdd, Nat.reduceMul, Nat.reduceLT, Int.reduceToNat, Int.reduceAdd, Int.reduceSub, Int.reduceMul, rsU, rsC]
        refine Ok.step (main σ1 h1 k1) fun r ⟨g1, g2, g5, g3, g4⟩ => ?_
        obtain ⟨z, σ3⟩ := r
        simp only at g1 g2 g3 g4 g5
        subst g1
        rw [b0] at g2
        rw [b2] at g3
        rw [b1] at g5
        simp (config := { maxSteps := 2000000 }) -implicitDefEqProofs (disch := (first | omega | rfl | assumption | (simp only [rsD]; first | omega | assumption))) only [g2, g3, g5, beq_self_eq_true, eq_self, Nat.reduceAdd, Nat.reduceMul, Nat.reduceLT, Int.reduceToNat, Int.reduceAdd, Int.reduceSub, Int.reduceMul, rsU, rsC]
        exact Ok_some.2 (g4 _ rfl fun b x1 x2 x3 => by simp -implicitDefEqProofs (disch := omega) only [s_bn, s_bs, s_kn, bump_blk])
    exact pre
  · have d1 : decide ((i : Int) + 1 ≥ 1) = true := decide_eq_true (by omega)
    have d2 : decide ((i : Int) + 1 ≤ (D.L.length : Int)) = true := decide_eq_true (by omega)
    have v0 : (i : Int) + 1 - 1 = i := by omega
    have hf : D.is ((i : Int) + 1) = e.tk := by unfold DS.is; rw [hent]; exact q1
    have hl : i < D.L.length := (List.getElem?_eq_some_iff.1 hdd).1
    obtain ⟨_, y1, _⟩ := DS.cells_ ca hdd
    obtain ⟨bb, oo, rfl, _⟩ := (ia O σ).ref hl
    have hld : ∀ σ' : AH O, σ'.ld bb (oo + i * 3 + 1) = some (.i .i64 d.gen) := fun σ' => by
      obtain ⟨b2, o2, e2, hld⟩ := (ia O σ').ref hl
      cases e2
      rw [hld 1 (by decide), y1]
    simp (config := { maxSteps := 2000000 }) -implicitDefEqProofs (disch := (first | omega | rfl | assumption | (simp only [rsD]; first | omega | assumption))) only [law10_do, law10_do_c, e1, e2, e3, e4, d1, d2, v0, hld, Nat.reduceAdd, Nat.reduceMul, Nat.reduceLT, Int.reduceToNat, Int.reduceAdd, Int.reduceSub, Int.reduceMul, rsU, rsC]
    obtain ⟨h1, k1⟩ := boxes h (.cells true 123 [.i .i64 D.words, .sl (.loc bb oo 3) D.L.length, .sl sb D.free.length, .i .i64 D.room]) (.cells true 116 [.i .i64 q, .i .i64 ((i : Int) + 1), .i .i64 b, .i .u64 c]) (.cells true 123 [.i .i64 0, .sl .nil 0, .sl .nil 0, .i .i64 0])
    generalize hσ : AH.put _ (σ.next + 1 + 1) _ = σ1 at *
    have b0 : σ1.blk σ.next = some (.cells true 123 [.i .i64 D.words, .sl (.loc bb oo 3) D.L.length, .sl sb D.free.length, .i .i64 D.room]) := by rw [← hσ, s_bn (by omega), s_bn (by omega)]; exact s_bs
    have b1 : σ1.blk (σ.next + 1) = some (.cells true 116 [.i .i64 q, .i .i64 ((i : Int) + 1), .i .i64 b, .i .u64 c]) := by rw [← hσ, s_bn (by omega)]; exact s_bs
    have b2 : σ1.blk (σ.next + 1 + 1) = some (.cells true 123 [.i .i64 0, .sl .nil 0, .sl .nil 0, .i .i64 0]) := by rw [← hσ]; exact s_bs
    clear hσ
    try simp (config := { maxSteps := 2000000 }) -implicitDefEqProofs (disch := (first | omega | rfl | assumption | (simp only [rsD]; first | omega | assumption))) only [b0, b1, b2, hld, v0, Nat.reduceAdd, Nat.reduceMul, Nat.reduceLT, Int.reduceToNat, Int.reduceAdd, Int.reduceSub, Int.reduceMul, rsU, rsC]
    refine Ok.step (pgen_ok h1 c0 he) fun r ⟨p1, M1, p2, p3, p4⟩ => ?_
    obtain ⟨z, σ2⟩ := r
    simp only at p1 p2 p4
    subst p1
    have f0 : σ2.blk σ.next = _ := (p4.blk _ (by simp)).trans b0
    have f1 : σ2.blk (σ.next + 1) = _ := (p4.blk _ (by simp)).trans b1
    have f2 : σ2.blk (σ.next + 1 + 1) = _ := (p4.blk _ (by simp)).trans b2
    have eg : ((e.gen : Int) == d.gen) = true := s_eqT q2.symm
    simp (config := { maxSteps := 2000000 }) -implicitDefEqProofs (disch := (first | omega | rfl | assumption | (simp only [rsD]; first | omega | assumption))) only [f0, f1, eg, beq_self_eq_true, eq_self, Nat.reduceAdd, Nat.reduceMul, Nat.reduceLT, Int.reduceToNat, Int.reduceAdd, Int.reduceSub, Int.reduceMul, rsU, rsC]
    refine Ok.step (ptaken_ok p2 (hc M1 (by have := p3.r; omega) (by have := p3.w; omega)) he) fun r ⟨p5, M2, p6, p7, p8⟩ => ?_
    obtain ⟨z, σ3⟩ := r
    simp only at p5 p6 p8
    subst p5
    have j0 : σ3.blk σ.next = _ := (p8.blk _ (by simp)).trans f0
    have j1 : σ3.blk (σ.next + 1) = _ := (p8.blk _ (by simp)).trans f1
    have j2 : σ3.blk (σ.next + 1 + 1) = _ := (p8.blk _ (by simp)).trans f2
    simp (config := { maxSteps := 2000000 }) -implicitDefEqProofs (disch := (first | omega | rfl | assumption | (simp only [rsD]; first | omega | assumption))) only [j0, j1, beq_self_eq_true, eq_self, Nat.reduceAdd, Nat.reduceMul, Nat.reduceLT, Int.reduceToNat, Int.reduceAdd, Int.reduceSub, Int.reduceMul, rsU, rsC]
    refine Ok.step (ris_ok hsm hv hr) fun r ⟨e, E3⟩ => ?_
    obtain ⟨z, σ4⟩ := r
    simp only at e E3
    rw [hf] at e
    subst e
    have l0 := p6.mi.tail.lt
    have m0 : σ4.blk σ.next = _ := (E3.blk _ (l0 _ (by simp))).trans j0
    have m1 : σ4.blk (σ.next + 1) = _ := (E3.blk _ (l0 _ (by simp))).trans j1
    have m2 : σ4.blk (σ.next + 1 + 1) = _ := (E3.blk _ (l0 _ (by simp))).trans j2
    simp (config := { maxSteps := 2000000 }) -implicitDefEqProofs (disch := (first | omega | rfl | assumption | (simp only [rsD]; first | omega | assumption))) only [m0, m1, m2, beq_self_eq_true, eq_self, Nat.reduceAdd, Nat.reduceMul, Nat.reduceLT, Int.reduceToNat, Int.reduceAdd, Int.reduceSub, Int.reduceMul, rsU, rsC]
    exact Ok_some.2 (did_of h k1 (p4.trans p8) E3 p6 ((p3.trans p7).as (c := 2) (d := 0) rfl (by omega) (by omega)) (by omega) (by omega) (by omega) (by omega) sim bd.up rfl rfl hv rfl fun b x1 x2 x3 => by simp -implicitDefEqProofs (disch := omega) only [s_bn, s_bs, s_kn, bump_blk])
end
end Go.Abs.Try
