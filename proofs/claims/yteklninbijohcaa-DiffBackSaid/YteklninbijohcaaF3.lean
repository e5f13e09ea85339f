/-
  Nodes: cloned, compared. No conditions.
-/
import Derived.Test.YteklninbijohcaaF2
set_option linter.unusedVariables false
set_option linter.unusedSimpArgs false
set_option linter.constructorNameAsVariable false
set_option linter.unusedSimpArgs false
set_option linter.unusedVariables false
set_option linter.unusedSectionVars false
set_option maxHeartbeats 1000000
namespace Go.Abs.Try
open Go Go.Abs
variable {O : Type}

theorem dclone {σ : AH O} {x : NV} {a b : SA} (ha : Ints .i64 a x.P) (hb : Ints .u64 b x.R) (hx : x.few) : Ok (diff_clone [.agg (x.cells a b)] σ) fun r => ∃ a' b', r.1 = .agg (x.cells a' b') ∧ New σ r.2 x.row (x.cells a' b') ∧ (x.cells a' b').all AV.mine = true := by
  simp (config := { maxSteps := 2000000 }) -implicitDefEqProofs (disch := (first | omega | rfl | assumption | (simp only [rsD]; first | omega | assumption))) only [diff_clone, diff_clone_c, NV.cells, Nat.reduceAdd, Nat.reduceMul, Nat.reduceLT, Int.reduceToNat, Int.reduceAdd, Int.reduceSub, Int.reduceMul, rsU, rsC]
  refine Ok.step (clone_i ha hx.p) fun r ⟨a', g1, g2, m1⟩ => ?_
  obtain ⟨q, σ1⟩ := r
  simp only at g1 g2
  subst g1
  simp (config := { maxSteps := 2000000 }) -implicitDefEqProofs (disch := (first | omega | rfl | assumption | (simp only [rsD]; first | omega | assumption))) only [s_ext g2.e, eq_self, Nat.reduceAdd, Nat.reduceMul, Nat.reduceLT, Int.reduceToNat, Int.reduceAdd, Int.reduceSub, Int.reduceMul, rsU, rsC]
  refine Ok.step (clone_u hb hx.r) fun r ⟨b', g3, g4, m2⟩ => ?_
  obtain ⟨q, σ2⟩ := r
  simp only at g3 g4
  subst g3
  have n2 := g2.e.next
  have n4 := g4.e.next
  simp only [rsD] at n2
  simp (config := { maxSteps := 2000000 }) -implicitDefEqProofs (disch := (first | omega | rfl | assumption | (simp only [rsD]; first | omega | assumption))) only [s_ext g2.e, s_ext g4.e, eq_self, Nat.reduceAdd, Nat.reduceMul, Nat.reduceLT, Int.reduceToNat, Int.reduceAdd, Int.reduceSub, Int.reduceMul, rsU, rsC]
  refine Ok_some.2 ⟨a', b', rfl, ?_, by simp only [NV.cells, List.all_cons, m1, m2]; rfl⟩
  have n := g2.cons g4
  refine New.lf rfl (New.lf rfl (New.lf rfl (New.lf rfl (New.lf rfl (n.keep (by simp) (ext_of (by (have x0 := (g2.e).next); (have x1 := (g4.e).next); (try simp only [rsD] at *); omega) (fun b hb => by (have x0 := (g2.e).next); (have x1 := (g4.e).next); (try simp only [rsD] at *); simp -implicitDefEqProofs (disch := (first | omega | rfl | assumption | (simp only [rsD]; first | omega | assumption))) only [s_bn, s_kn, bump_blk, s_ext (g2.e), s_ext (g4.e)])) (Nat.le_refl _) fun c h1 h2 => ?_)))))
  simp only [rsD] at h1
  ((try simp only [rsD] at *); simp -implicitDefEqProofs (disch := (first | omega | rfl | assumption | (simp only [rsD]; first | omega | assumption))) only [s_bs, s_bn, s_kn, bump_blk])
theorem hv_eq (x y : HV) : (((x.p == y.p) && (x.r == y.r)) && ((x.site == y.site) && ((x.age == y.age) && (x.large == y.large)))) = decide (x = y) := by
  cases x; cases y
  rw [Bool.eq_iff_iff]
  simp only [Bool.and_eq_true, beq_iff_eq, decide_eq_true_eq, HV.mk.injEq, and_assoc]
theorem nsame {σ : AH O} {x y : NV} {a b c d : SA} (ha : Ints .i64 a x.P) (hb : Ints .u64 b x.R) (hx : x.few) (hc : Ints .i64 c y.P) (hd : Ints .u64 d y.R) (hy : y.few) : Ok (canon_Node__same [.agg (x.cells a b), .agg (y.cells c d)] σ) fun r => r.1 = .b (decide (x = y)) ∧ Ext σ r.2 := by
  have q := hv_eq x.h y.h
  by_cases e : x.h = y.h
  · rw [decide_eq_true e] at q
    simp (config := { maxSteps := 2000000 }) -implicitDefEqProofs (disch := (first | omega | rfl | assumption | (simp only [rsD]; first | omega | assumption))) only [canon_Node__same, canon_Node__same_c, NV.cells, q, Nat.reduceAdd, Nat.reduceMul, Nat.reduceLT, Int.reduceToNat, Int.reduceAdd, Int.reduceSub, Int.reduceMul, rsU, rsC]
    refine Ok.step (sequal_i ha hc hx.p hy.p) fun r g => ?_
    subst g
    by_cases e2 : x.P = y.P
    · have q2 := decide_eq_true e2
      simp (config := { maxSteps := 2000000 }) -implicitDefEqProofs (disch := (first | omega | rfl | assumption | (simp only [rsD]; first | omega | assumption))) only [q2, Nat.reduceAdd, Nat.reduceMul, Nat.reduceLT, Int.reduceToNat, Int.reduceAdd, Int.reduceSub, Int.reduceMul, rsU, rsC]
      refine Ok.step (sequal_u hb hd hx.r hy.r) fun r g => ?_
      subst g
      simp (config := { maxSteps := 2000000 }) -implicitDefEqProofs (disch := (first | omega | rfl | assumption | (simp only [rsD]; first | omega | assumption))) only [Nat.reduceAdd, Nat.reduceMul, Nat.reduceLT, Int.reduceToNat, Int.reduceAdd, Int.reduceSub, Int.reduceMul, rsU, rsC]
      refine Ok_some.2 ⟨?_, (ext_of (by (try simp only [rsD] at *); omega) (fun b hb => by (try simp only [rsD] at *); simp -implicitDefEqProofs (disch := (first | omega | rfl | assumption | (simp only [rsD]; first | omega | assumption))) only [s_bn, s_kn, bump_blk]))⟩
      have : (x.R = y.R) ↔ x = y := ⟨fun h => by cases x; cases y; simp_all, fun h => by rw [h]⟩
      simp only [this]
    · have q2 := decide_eq_false e2
      simp (config := { maxSteps := 2000000 }) -implicitDefEqProofs (disch := (first | omega | rfl | assumption | (simp only [rsD]; first | omega | assumption))) only [q2, Nat.reduceAdd, Nat.reduceMul, Nat.reduceLT, Int.reduceToNat, Int.reduceAdd, Int.reduceSub, Int.reduceMul, rsU, rsC]
      refine Ok_some.2 ⟨?_, (ext_of (by (try simp only [rsD] at *); omega) (fun b hb => by (try simp only [rsD] at *); simp -implicitDefEqProofs (disch := (first | omega | rfl | assumption | (simp only [rsD]; first | omega | assumption))) only [s_bn, s_kn, bump_blk]))⟩
      rw [decide_eq_false (fun h => e2 (by rw [h]))]
  · rw [decide_eq_false e] at q
    simp (config := { maxSteps := 2000000 }) -implicitDefEqProofs (disch := (first | omega | rfl | assumption | (simp only [rsD]; first | omega | assumption))) only [canon_Node__same, canon_Node__same_c, NV.cells, q, Nat.reduceAdd, Nat.reduceMul, Nat.reduceLT, Int.reduceToNat, Int.reduceAdd, Int.reduceSub, Int.reduceMul, rsU, rsC]
    refine Ok_some.2 ⟨?_, (ext_of (by (try simp only [rsD] at *); omega) (fun b hb => by (try simp only [rsD] at *); simp -implicitDefEqProofs (disch := (first | omega | rfl | assumption | (simp only [rsD]; first | omega | assumption))) only [s_bn, s_kn, bump_blk]))⟩
    rw [decide_eq_false (fun h => e (by rw [h]))]
theorem eqfunc {σ : AH O} {a b : SA} {l m : List NV} (ha : Nodes a l) (hb : Nodes b m) (hl : l.length ≤ 100000) (hm : m.length ≤ 100000) (fl : ∀ x ∈ l, x.few) (fm : ∀ x ∈ m, x.few) : Ok (slices_EqualFunc_canon_Node_ [.sl a l.length, .sl b m.length, .fn (some (.func 59, [], []))] σ) fun r => r.1 = .b (decide (l = m)) ∧ Ext σ r.2 := by
  by_cases c : l.length = m.length
  · have q0 : ((l.length : Int) == (m.length : Int)) = true := s_eqT (by omega)
    simp (config := { maxSteps := 2000000 }) -implicitDefEqProofs (disch := (first | omega | rfl | assumption | (simp only [rsD]; first | omega | assumption))) only [slices_EqualFunc_canon_Node_, slices_EqualFunc_canon_Node__c, q0, Nat.reduceAdd, Nat.reduceMul, Nat.reduceLT, Int.reduceToNat, Int.reduceAdd, Int.reduceSub, Int.reduceMul, rsU, rsC]
    refine Ok.bindS (Q := fun r => (l = m ∧ ∃ σ', r = .inl ([], σ') ∧ Ext σ σ') ∨ (l ≠ m ∧ ∃ σ', r = .inr (.b false, σ') ∧ Ext σ σ')) ?_ ?_ ?_
    · refine Ok.count l.length (fun k s => ∃ σ', s = ([.i .i64 (k : Int)], σ') ∧ Ext σ σ' ∧ ∀ j, j < k → l[j]? = m[j]?) ?_ ?_ ⟨σ, rfl, Ext.refl σ, fun j hj => by omega⟩
      · rintro k s hk ⟨σ1, rfl, E1, hj⟩
        obtain ⟨x, hx⟩ : ∃ x, l[k]? = some x := ⟨_, List.getElem?_eq_getElem hk⟩
        obtain ⟨y, hy⟩ : ∃ y, m[k]? = some y := ⟨_, List.getElem?_eq_getElem (by omega)⟩
        obtain ⟨b1, o1, c1, d1, rfl, ic, id, l1⟩ := ha.node hx
        obtain ⟨b2, o2, c2, d2, rfl, jc, jd, l2⟩ := hb.node hy
        simp (config := { maxSteps := 2000000 }) -implicitDefEqProofs (disch := (first | omega | rfl | assumption | (simp only [rsD]; first | omega | assumption))) only [slices_EqualFunc_canon_Node__L1, l1, l2, callV, getG, Nat.reduceAdd, Nat.reduceMul, Nat.reduceLT, Int.reduceToNat, Int.reduceAdd, Int.reduceSub, Int.reduceMul, rsU, rsC]
        refine Ok.step (nsame ic id (fl x (List.mem_of_getElem? hx)) jc jd (fm y (List.mem_of_getElem? hy))) fun r ⟨g1, g2⟩ => ?_
        obtain ⟨q, σ2⟩ := r
        simp only at g1 g2
        subst g1
        by_cases e : x = y
        · have q1 := decide_eq_true e
          simp (config := { maxSteps := 2000000 }) -implicitDefEqProofs (disch := (first | omega | rfl | assumption | (simp only [rsD]; first | omega | assumption))) only [q1, Nat.reduceAdd, Nat.reduceMul, Nat.reduceLT, Int.reduceToNat, Int.reduceAdd, Int.reduceSub, Int.reduceMul, rsU, rsC]
          refine Ok_some.2 ⟨σ2, by simp, (ext_of (by (have x0 := (g2).next); (have x1 := (E1).next); (try simp only [rsD] at *); omega) (fun b hb => by (have x0 := (g2).next); (have x1 := (E1).next); (try simp only [rsD] at *); simp -implicitDefEqProofs (disch := (first | omega | rfl | assumption | (simp only [rsD]; first | omega | assumption))) only [s_bn, s_kn, bump_blk, s_ext (g2), s_ext (E1)])), fun j hj2 => ?_⟩
          by_cases c : j = k
          · rw [c, hx, hy, e]
          · exact hj j (by omega)
        · have q1 := decide_eq_false e
          simp (config := { maxSteps := 2000000 }) -implicitDefEqProofs (disch := (first | omega | rfl | assumption | (simp only [rsD]; first | omega | assumption))) only [q1, Nat.reduceAdd, Nat.reduceMul, Nat.reduceLT, Int.reduceToNat, Int.reduceAdd, Int.reduceSub, Int.reduceMul, rsU, rsC]
          exact Ok_some.2 (.inr ⟨fun h => e (by rw [h, hy] at hx; simpa using hx.symm), σ2, rfl, (ext_of (by (have x0 := (g2).next); (have x1 := (E1).next); (try simp only [rsD] at *); omega) (fun b hb => by (have x0 := (g2).next); (have x1 := (E1).next); (try simp only [rsD] at *); simp -implicitDefEqProofs (disch := (first | omega | rfl | assumption | (simp only [rsD]; first | omega | assumption))) only [s_bn, s_kn, bump_blk, s_ext (g2), s_ext (E1)]))⟩)
      · rintro s ⟨σ1, rfl, E1, hj⟩
        simp (config := { maxSteps := 2000000 }) -implicitDefEqProofs (disch := (first | omega | rfl | assumption | (simp only [rsD]; first | omega | assumption))) only [slices_EqualFunc_canon_Node__L1, Nat.reduceAdd, Nat.reduceMul, Nat.reduceLT, Int.reduceToNat, Int.reduceAdd, Int.reduceSub, Int.reduceMul, rsU, rsC]
        refine Ok_some.2 (.inl ⟨List.ext_getElem? fun j => ?_, σ1, rfl, E1⟩)
        by_cases c : j < l.length
        · exact hj j c
        · rw [List.getElem?_eq_none (by omega), List.getElem?_eq_none (by omega)]
    · rintro s (⟨e, σ1, hs, E1⟩ | ⟨_, σ1, hs, _⟩)
      · cases hs
        exact Ok_some.2 ⟨by simp [e], E1⟩
      · cases hs
    · rintro r (⟨_, σ1, hs, _⟩ | ⟨e, σ1, hs, E1⟩)
      · cases hs
      · cases hs; exact ⟨by simp [e], E1⟩
  · have q0 : ((l.length : Int) == (m.length : Int)) = false := s_eqF (by omega)
    simp (config := { maxSteps := 2000000 }) -implicitDefEqProofs (disch := (first | omega | rfl | assumption | (simp only [rsD]; first | omega | assumption))) only [slices_EqualFunc_canon_Node_, slices_EqualFunc_canon_Node__c, q0, Nat.reduceAdd, Nat.reduceMul, Nat.reduceLT, Int.reduceToNat, Int.reduceAdd, Int.reduceSub, Int.reduceMul, rsU, rsC]
    exact Ok_some.2 ⟨by rw [decide_eq_false (fun e => c (by rw [e]))], Ext.refl σ⟩
theorem csame {σ : AH O} {F G : FV} {v w : AV} (hF : F.At v) (hG : G.At w) (fF : F.few) (fG : G.few) : Ok (canon_Same [v, w] σ) fun r => r.1 = .b (decide (F = G)) ∧ Ext σ r.2 := by
  obtain ⟨a1, b1, c1, rfl, i1, i2, i3⟩ := hF.it
  obtain ⟨a2, b2, c2, rfl, j1, j2, j3⟩ := hG.it
  simp (config := { maxSteps := 2000000 }) -implicitDefEqProofs (disch := (first | omega | rfl | assumption | (simp only [rsD]; first | omega | assumption))) only [canon_Same, canon_Same_c, Nat.reduceAdd, Nat.reduceMul, Nat.reduceLT, Int.reduceToNat, Int.reduceAdd, Int.reduceSub, Int.reduceMul, rsU, rsC]
  refine Ok.step (eqfunc i1 j1 fF.n fG.n fF.x fG.x) fun r ⟨g1, g2⟩ => ?_
  obtain ⟨q, σ1⟩ := r
  simp only at g1 g2
  subst g1
  by_cases e1 : F.nodes = G.nodes
  · have q1 := decide_eq_true e1
    simp (config := { maxSteps := 2000000 }) -implicitDefEqProofs (disch := (first | omega | rfl | assumption | (simp only [rsD]; first | omega | assumption))) only [q1, s_ext g2, Nat.reduceAdd, Nat.reduceMul, Nat.reduceLT, Int.reduceToNat, Int.reduceAdd, Int.reduceSub, Int.reduceMul, rsU, rsC]
    refine Ok.step (sequal_i i2 j2 fF.r fG.r) fun r g => ?_
    subst g
    by_cases e2 : F.roots = G.roots
    · have q2 := decide_eq_true e2
      simp (config := { maxSteps := 2000000 }) -implicitDefEqProofs (disch := (first | omega | rfl | assumption | (simp only [rsD]; first | omega | assumption))) only [q2, s_ext g2, Nat.reduceAdd, Nat.reduceMul, Nat.reduceLT, Int.reduceToNat, Int.reduceAdd, Int.reduceSub, Int.reduceMul, rsU, rsC]
      refine Ok.step (sequal_i i3 j3 fF.w fG.w) fun r g => ?_
      subst g
      simp (config := { maxSteps := 2000000 }) -implicitDefEqProofs (disch := (first | omega | rfl | assumption | (simp only [rsD]; first | omega | assumption))) only [Nat.reduceAdd, Nat.reduceMul, Nat.reduceLT, Int.reduceToNat, Int.reduceAdd, Int.reduceSub, Int.reduceMul, rsU, rsC]
      refine Ok_some.2 ⟨?_, (ext_of (by (have x0 := (g2).next); (try simp only [rsD] at *); omega) (fun b hb => by (have x0 := (g2).next); (try simp only [rsD] at *); simp -implicitDefEqProofs (disch := (first | omega | rfl | assumption | (simp only [rsD]; first | omega | assumption))) only [s_bn, s_kn, bump_blk, s_ext (g2)]))⟩
      have : (F.weak = G.weak) ↔ F = G := ⟨fun h => by cases F; cases G; simp_all, fun h => by rw [h]⟩
      simp only [this]
    · have q2 := decide_eq_false e2
      simp (config := { maxSteps := 2000000 }) -implicitDefEqProofs (disch := (first | omega | rfl | assumption | (simp only [rsD]; first | omega | assumption))) only [q2, Nat.reduceAdd, Nat.reduceMul, Nat.reduceLT, Int.reduceToNat, Int.reduceAdd, Int.reduceSub, Int.reduceMul, rsU, rsC]
      refine Ok_some.2 ⟨?_, (ext_of (by (have x0 := (g2).next); (try simp only [rsD] at *); omega) (fun b hb => by (have x0 := (g2).next); (try simp only [rsD] at *); simp -implicitDefEqProofs (disch := (first | omega | rfl | assumption | (simp only [rsD]; first | omega | assumption))) only [s_bn, s_kn, bump_blk, s_ext (g2)]))⟩
      rw [decide_eq_false (fun h => e2 (by rw [h]))]
  · have q1 := decide_eq_false e1
    simp (config := { maxSteps := 2000000 }) -implicitDefEqProofs (disch := (first | omega | rfl | assumption | (simp only [rsD]; first | omega | assumption))) only [q1, Nat.reduceAdd, Nat.reduceMul, Nat.reduceLT, Int.reduceToNat, Int.reduceAdd, Int.reduceSub, Int.reduceMul, rsU, rsC]
    refine Ok_some.2 ⟨?_, (ext_of (by (have x0 := (g2).next); (try simp only [rsD] at *); omega) (fun b hb => by (have x0 := (g2).next); (try simp only [rsD] at *); simp -implicitDefEqProofs (disch := (first | omega | rfl | assumption | (simp only [rsD]; first | omega | assumption))) only [s_bn, s_kn, bump_blk, s_ext (g2)]))⟩
    rw [decide_eq_false (fun h => e1 (by rw [h]))]
end Go.Abs.Try
