/-
  Lists of numbers compared, as the document does it. No conditions.
-/
import Derived.Test.YteklninbijohcaaF93
import Derived.Test.YteklninbijohcaaS4t
import Derived.Test.YteklninbijohcaaN90
set_option linter.unusedVariables false
set_option linter.unusedSimpArgs false
set_option linter.constructorNameAsVariable false
set_option linter.unusedSimpArgs false
set_option linter.unusedVariables false
set_option linter.unusedSectionVars false
set_option maxHeartbeats 1000000
namespace Go.Abs.Try
open Go Go.Abs
variable {O : Type}

theorem same02 {σ : AH O} {a b : SA} {l m : List Int} (ha : Ints .i64 a l) (hb : Ints .i64 b m) (hl : l.length ≤ 100000) (hm : m.length ≤ 100000) : Ok (haymowref02_Same [.sl a l.length, .sl b m.length] σ) fun r => r = (.b (decide (l = m)), σ) := by
  by_cases c : l.length = m.length
  · have q0 : ((l.length : Int) == (m.length : Int)) = true := s_eqT (by omega)
    simp (config := { maxSteps := 2000000 }) -implicitDefEqProofs (disch := (first | omega | rfl | assumption | (simp only [rsD]; first | omega | assumption))) only [haymowref02_Same, haymowref02_Same_c, q0, Nat.reduceAdd, Nat.reduceMul, Nat.reduceLT, Int.reduceToNat, Int.reduceAdd, Int.reduceSub, Int.reduceMul, rsU, rsC]
    refine Ok.bindS (Q := fun r => (l = m ∧ r = .inl ([], σ)) ∨ (l ≠ m ∧ r = .inr (.b false, σ))) ?_ ?_ ?_
    · refine eq_loop c (fun k s => s = ([.i .i64 (k : Int)], σ)) _ ?_ ?_ rfl
      · rintro k s hk rfl
        obtain ⟨x, hx⟩ : ∃ x, l[k]? = some x := ⟨_, List.getElem?_eq_getElem hk⟩
        obtain ⟨y, hy⟩ : ∃ y, m[k]? = some y := ⟨_, List.getElem?_eq_getElem (by omega)⟩
        obtain ⟨b1, o1, rfl, l1⟩ := ha.at hx
        obtain ⟨b2, o2, rfl, l2⟩ := hb.at hy
        rw [hx, hy]
        by_cases e : x = y
        · have q1 := s_eqT e
          simp (config := { maxSteps := 2000000 }) -implicitDefEqProofs (disch := (first | omega | rfl | assumption | (simp only [rsD]; first | omega | assumption))) only [haymowref02_Same_L1, l1, l2, q1, Nat.reduceAdd, Nat.reduceMul, Nat.reduceLT, Int.reduceToNat, Int.reduceAdd, Int.reduceSub, Int.reduceMul, rsU, rsC]
          exact Ok_some.2 (by rw [if_pos (by rw [e])]; simp)
        · have q1 := s_eqF e
          simp (config := { maxSteps := 2000000 }) -implicitDefEqProofs (disch := (first | omega | rfl | assumption | (simp only [rsD]; first | omega | assumption))) only [haymowref02_Same_L1, l1, l2, q1, Nat.reduceAdd, Nat.reduceMul, Nat.reduceLT, Int.reduceToNat, Int.reduceAdd, Int.reduceSub, Int.reduceMul, rsU, rsC]
          exact Ok_some.2 (by rw [if_neg (by simp [e])]; exact fun h => .inr ⟨h, rfl⟩)
      · rintro s rfl
        simp (config := { maxSteps := 2000000 }) -implicitDefEqProofs (disch := (first | omega | rfl | assumption | (simp only [rsD]; first | omega | assumption))) only [haymowref02_Same_L1, Nat.reduceAdd, Nat.reduceMul, Nat.reduceLT, Int.reduceToNat, Int.reduceAdd, Int.reduceSub, Int.reduceMul, rsU, rsC]
        exact Ok_some.2 fun h => .inl ⟨h, rfl⟩
    · rintro s (⟨e, hs⟩ | ⟨_, hs⟩)
      · cases hs
        exact Ok_some.2 (by simp [e])
      · cases hs
    · rintro r (⟨_, hs⟩ | ⟨e, hs⟩)
      · cases hs
      · cases hs; simp [e]
  · have q0 : ((l.length : Int) == (m.length : Int)) = false := s_eqF (by omega)
    simp (config := { maxSteps := 2000000 }) -implicitDefEqProofs (disch := (first | omega | rfl | assumption | (simp only [rsD]; first | omega | assumption))) only [haymowref02_Same, haymowref02_Same_c, q0, Nat.reduceAdd, Nat.reduceMul, Nat.reduceLT, Int.reduceToNat, Int.reduceAdd, Int.reduceSub, Int.reduceMul, rsU, rsC]
    exact Ok_some.2 (by rw [decide_eq_false (fun e => c (by rw [e]))])
theorem same47 {σ : AH O} {a b : SA} {l m : List Int} (ha : Ints .i64 a l) (hb : Ints .i64 b m) (hl : l.length ≤ 100000) (hm : m.length ≤ 100000) : Ok (haymowref47_same [.sl a l.length, .sl b m.length] σ) fun r => r = (.b (decide (l = m)), σ) := by
  by_cases c : l.length = m.length
  · have q0 : ((l.length : Int) == (m.length : Int)) = true := s_eqT (by omega)
    simp (config := { maxSteps := 2000000 }) -implicitDefEqProofs (disch := (first | omega | rfl | assumption | (simp only [rsD]; first | omega | assumption))) only [haymowref47_same, haymowref47_same_c, q0, Nat.reduceAdd, Nat.reduceMul, Nat.reduceLT, Int.reduceToNat, Int.reduceAdd, Int.reduceSub, Int.reduceMul, rsU, rsC]
    refine Ok.bindS (Q := fun r => (l = m ∧ r = .inl ([], σ)) ∨ (l ≠ m ∧ r = .inr (.b false, σ))) ?_ ?_ ?_
    · refine eq_loop c (fun k s => s = ([.i .i64 (k : Int)], σ)) _ ?_ ?_ rfl
      · rintro k s hk rfl
        obtain ⟨x, hx⟩ : ∃ x, l[k]? = some x := ⟨_, List.getElem?_eq_getElem hk⟩
        obtain ⟨y, hy⟩ : ∃ y, m[k]? = some y := ⟨_, List.getElem?_eq_getElem (by omega)⟩
        obtain ⟨b1, o1, rfl, l1⟩ := ha.at hx
        obtain ⟨b2, o2, rfl, l2⟩ := hb.at hy
        rw [hx, hy]
        by_cases e : x = y
        · have q1 := s_eqT e
          simp (config := { maxSteps := 2000000 }) -implicitDefEqProofs (disch := (first | omega | rfl | assumption | (simp only [rsD]; first | omega | assumption))) only [haymowref47_same_L1, l1, l2, q1, Nat.reduceAdd, Nat.reduceMul, Nat.reduceLT, Int.reduceToNat, Int.reduceAdd, Int.reduceSub, Int.reduceMul, rsU, rsC]
          exact Ok_some.2 (by rw [if_pos (by rw [e])]; simp)
        · have q1 := s_eqF e
          simp (config := { maxSteps := 2000000 }) -implicitDefEqProofs (disch := (first | omega | rfl | assumption | (simp only [rsD]; first | omega | assumption))) only [haymowref47_same_L1, l1, l2, q1, Nat.reduceAdd, Nat.reduceMul, Nat.reduceLT, Int.reduceToNat, Int.reduceAdd, Int.reduceSub, Int.reduceMul, rsU, rsC]
          exact Ok_some.2 (by rw [if_neg (by simp [e])]; exact fun h => .inr ⟨h, rfl⟩)
      · rintro s rfl
        simp (config := { maxSteps := 2000000 }) -implicitDefEqProofs (disch := (first | omega | rfl | assumption | (simp only [rsD]; first | omega | assumption))) only [haymowref47_same_L1, Nat.reduceAdd, Nat.reduceMul, Nat.reduceLT, Int.reduceToNat, Int.reduceAdd, Int.reduceSub, Int.reduceMul, rsU, rsC]
        exact Ok_some.2 fun h => .inl ⟨h, rfl⟩
    · rintro s (⟨e, hs⟩ | ⟨_, hs⟩)
      · cases hs
        exact Ok_some.2 (by simp [e])
      · cases hs
    · rintro r (⟨_, hs⟩ | ⟨e, hs⟩)
      · cases hs
      · cases hs; simp [e]
  · have q0 : ((l.length : Int) == (m.length : Int)) = false := s_eqF (by omega)
    simp (config := { maxSteps := 2000000 }) -implicitDefEqProofs (disch := (first | omega | rfl | assumption | (simp only [rsD]; first | omega | assumption))) only [haymowref47_same, haymowref47_same_c, q0, Nat.reduceAdd, Nat.reduceMul, Nat.reduceLT, Int.reduceToNat, Int.reduceAdd, Int.reduceSub, Int.reduceMul, rsU, rsC]
    exact Ok_some.2 (by rw [decide_eq_false (fun e => c (by rw [e]))])
theorem same05 {σ : AH O} {a b : SA} {l m : List Int} (ha : Ints .u64 a l) (hb : Ints .u64 b m) (hl : l.length ≤ 100000) (hm : m.length ≤ 100000) : Ok (haymowref05_Same [.sl a l.length, .sl b m.length] σ) fun r => r = (.b (decide (l = m)), σ) := by
  by_cases c : l.length = m.length
  · have q0 : ((l.length : Int) == (m.length : Int)) = true := s_eqT (by omega)
    simp (config := { maxSteps := 2000000 }) -implicitDefEqProofs (disch := (first | omega | rfl | assumption | (simp only [rsD]; first | omega | assumption))) only [haymowref05_Same, haymowref05_Same_c, q0, Nat.reduceAdd, Nat.reduceMul, Nat.reduceLT, Int.reduceToNat, Int.reduceAdd, Int.reduceSub, Int.reduceMul, rsU, rsC]
    refine Ok.bindS (Q := fun r => (l = m ∧ r = .inl ([], σ)) ∨ (l ≠ m ∧ r = .inr (.b false, σ))) ?_ ?_ ?_
    · refine eq_loop c (fun k s => s = ([.i .i64 (k : Int)], σ)) _ ?_ ?_ rfl
      · rintro k s hk rfl
        obtain ⟨x, hx⟩ : ∃ x, l[k]? = some x := ⟨_, List.getElem?_eq_getElem hk⟩
        obtain ⟨y, hy⟩ : ∃ y, m[k]? = some y := ⟨_, List.getElem?_eq_getElem (by omega)⟩
        obtain ⟨b1, o1, rfl, l1⟩ := ha.at hx
        obtain ⟨b2, o2, rfl, l2⟩ := hb.at hy
        rw [hx, hy]
        by_cases e : x = y
        · have q1 := s_eqT e
          simp (config := { maxSteps := 2000000 }) -implicitDefEqProofs (disch := (first | omega | rfl | assumption | (simp only [rsD]; first | omega | assumption))) only [haymowref05_Same_L1, l1, l2, q1, Nat.reduceAdd, Nat.reduceMul, Nat.reduceLT, Int.reduceToNat, Int.reduceAdd, Int.reduceSub, Int.reduceMul, rsU, rsC]
          exact Ok_some.2 (by rw [if_pos (by rw [e])]; simp)
        · have q1 := s_eqF e
          simp (config := { maxSteps := 2000000 }) -implicitDefEqProofs (disch := (first | omega | rfl | assumption | (simp only [rsD]; first | omega | assumption))) only [haymowref05_Same_L1, l1, l2, q1, Nat.reduceAdd, Nat.reduceMul, Nat.reduceLT, Int.reduceToNat, Int.reduceAdd, Int.reduceSub, Int.reduceMul, rsU, rsC]
          exact Ok_some.2 (by rw [if_neg (by simp [e])]; exact fun h => .inr ⟨h, rfl⟩)
      · rintro s rfl
        simp (config := { maxSteps := 2000000 }) -implicitDefEqProofs (disch := (first | omega | rfl | assumption | (simp only [rsD]; first | omega | assumption))) only [haymowref05_Same_L1, Nat.reduceAdd, Nat.reduceMul, Nat.reduceLT, Int.reduceToNat, Int.reduceAdd, Int.reduceSub, Int.reduceMul, rsU, rsC]
        exact Ok_some.2 fun h => .inl ⟨h, rfl⟩
    · rintro s (⟨e, hs⟩ | ⟨_, hs⟩)
      · cases hs
        exact Ok_some.2 (by simp [e])
      · cases hs
    · rintro r (⟨_, hs⟩ | ⟨e, hs⟩)
      · cases hs
      · cases hs; simp [e]
  · have q0 : ((l.length : Int) == (m.length : Int)) = false := s_eqF (by omega)
    simp (config := { maxSteps := 2000000 }) -implicitDefEqProofs (disch := (first | omega | rfl | assumption | (simp only [rsD]; first | omega | assumption))) only [haymowref05_Same, haymowref05_Same_c, q0, Nat.reduceAdd, Nat.reduceMul, Nat.reduceLT, Int.reduceToNat, Int.reduceAdd, Int.reduceSub, Int.reduceMul, rsU, rsC]
    exact Ok_some.2 (by rw [decide_eq_false (fun e => c (by rw [e]))])
end Go.Abs.Try
set_option linter.unusedSimpArgs false
set_option linter.unusedVariables false
set_option linter.unusedSectionVars false
set_option maxHeartbeats 2000000
set_option maxRecDepth 100000
namespace Go.Abs.Try
open Go Go.Abs
variable {O : Type}

theorem is_ok {σ : AH O} {F G : FV} {v w : AV} (hF : F.At v) (hG : G.At w) (fF : F.few) (fG : G.few) : Ok (law40_Is [v, w] σ) fun r => r.1 = .b (decide (F = G)) ∧ Ext σ r.2 := by
  obtain ⟨a1, b1, c1, rfl, i1, i2, i3⟩ := hF.it
  obtain ⟨a2, b2, c2, rfl, j1, j2, j3⟩ := hG.it
  have fn := fF.n
  have gn := fG.n
  obtain ⟨fN, fR, fW⟩ := F
  obtain ⟨gN, gR, gW⟩ := G
  simp only at *
  by_cases e0 : fN.length = gN.length
  · have q0 := s_eqT (show (fN.length : Int) = gN.length by omega)
    simp (config := { maxSteps := 2000000 }) -implicitDefEqProofs (disch := (first | omega | rfl | assumption | (simp only [rsD]; first | omega | assumption))) only [law40_Is, law40_Is_c, q0, Nat.reduceAdd, Nat.reduceMul, Nat.reduceLT, Int.reduceToNat, Int.reduceAdd, Int.reduceSub, Int.reduceMul, rsU, rsC]
    refine Ok.step (same02 i2 j2 fF.r fG.r) fun r g => ?_
    subst g
    by_cases e1 : fR = gR
    · have q1 := decide_eq_true e1
      simp (config := { maxSteps := 2000000 }) -implicitDefEqProofs (disch := (first | omega | rfl | assumption | (simp only [rsD]; first | omega | assumption))) only [q1, Nat.reduceAdd, Nat.reduceMul, Nat.reduceLT, Int.reduceToNat, Int.reduceAdd, Int.reduceSub, Int.reduceMul, rsU, rsC]
      refine Ok.step (same02 i3 j3 fF.w fG.w) fun r g => ?_
      subst g
      by_cases e2 : fW = gW
      · have q2 := decide_eq_true e2
        simp (config := { maxSteps := 2000000 }) -implicitDefEqProofs (disch := (first | omega | rfl | assumption | (simp only [rsD]; first | omega | assumption))) only [q2, Nat.reduceAdd, Nat.reduceMul, Nat.reduceLT, Int.reduceToNat, Int.reduceAdd, Int.reduceSub, Int.reduceMul, rsU, rsC]
        generalize hs : AH.put (AH.put _ _ _) (σ.next + 1) _ = s1
        have x0 : s1.blk σ.next = some (.cells true T_canon_Form [.sl a1 fN.length, .sl b1 fR.length, .sl c1 fW.length]) := by rw [← hs]; ((try simp only [rsD] at *); simp -implicitDefEqProofs (disch := (first | omega | rfl | assumption | (simp only [rsD]; first | omega | assumption))) only [s_bs, s_bn, s_kn, bump_blk])
        have x1 : s1.blk (σ.next + 1) = some (.cells true T_haymowref40_Form [.sl a2 gN.length, .sl b2 gR.length, .sl c2 gW.length]) := by rw [← hs]; ((try simp only [rsD] at *); simp -implicitDefEqProofs (disch := (first | omega | rfl | assumption | (simp only [rsD]; first | omega | assumption))) only [s_bs, s_bn, s_kn, bump_blk])
        have E : Ext σ s1 := by rw [← hs]; exact (ext_of (by (try simp only [rsD] at *); omega) (fun b hb => by (try simp only [rsD] at *); simp -implicitDefEqProofs (disch := (first | omega | rfl | assumption | (simp only [rsD]; first | omega | assumption))) only [s_bn, s_kn, bump_blk]))
        clear hs
        refine Ok.bindS (Q := fun r => (r = .inl ([], s1) ∧ ∀ k, k < gN.length → fN[k]? = gN[k]?) ∨ (fN ≠ gN ∧ r = .inr (.b false, s1))) ?_ ?_ ?_
        · refine Ok.count gN.length (fun k s => s = ([.i .i64 (k : Int)], s1) ∧ ∀ j, j < k → fN[j]? = gN[j]?) ?_ ?_ ⟨rfl, fun j h => by omega⟩
          · rintro k s hk ⟨rfl, ih⟩
            obtain ⟨x, hx⟩ : ∃ x, fN[k]? = some x := ⟨_, List.getElem?_eq_getElem (by omega)⟩
            obtain ⟨y, hy⟩ : ∃ y, gN[k]? = some y := ⟨_, List.getElem?_eq_getElem hk⟩
            obtain ⟨u1, o1, p1, q1', rfl, hp1, hq1, l1⟩ := i1.node hx
            obtain ⟨u2, o2, p2, q2', rfl, hp2, hq2, l2⟩ := j1.node hy
            have fx := fF.x x (List.mem_of_getElem? hx)
            have fy := fG.x y (List.mem_of_getElem? hy)
            have q := hv_eq x.h y.h
            have bf : (false == false) = true := rfl
            have bt : (true == false) = false := rfl
            have no : x ≠ y → fN ≠ gN := fun h e => h (by rw [e, hy] at hx; cases hx; rfl)
            by_cases h1 : x.h = y.h
            · rw [decide_eq_true h1] at q
              simp (config := { maxSteps := 2000000 }) -implicitDefEqProofs (disch := (first | omega | rfl | assumption | (simp only [rsD]; first | omega | assumption))) only [law40_Is_L1, x0, x1, l1, l2, q, bf, bt, Nat.reduceAdd, Nat.reduceMul, Nat.reduceLT, Int.reduceToNat, Int.reduceAdd, Int.reduceSub, Int.reduceMul, rsU, rsC]
              refine Ok.step (same02 hp1 hp2 fx.p fy.p) fun r g => ?_
              subst g
              by_cases h2 : x.P = y.P
              · have d2 := decide_eq_true h2
                simp (config := { maxSteps := 2000000 }) -implicitDefEqProofs (disch := (first | omega | rfl | assumption | (simp only [rsD]; first | omega | assumption))) only [x0, x1, l1, l2, d2, bf, bt, Nat.reduceAdd, Nat.reduceMul, Nat.reduceLT, Int.reduceToNat, Int.reduceAdd, Int.reduceSub, Int.reduceMul, rsU, rsC]
                refine Ok.step (same05 hq1 hq2 fx.r fy.r) fun r g => ?_
                subst g
                by_cases h3 : x.R = y.R
                · have d3 := decide_eq_true h3
                  simp (config := { maxSteps := 2000000 }) -implicitDefEqProofs (disch := (first | omega | rfl | assumption | (simp only [rsD]; first | omega | assumption))) only [d3, Nat.reduceAdd, Nat.reduceMul, Nat.reduceLT, Int.reduceToNat, Int.reduceAdd, Int.reduceSub, Int.reduceMul, rsU, rsC]
                  refine Ok_some.2 ⟨by simp, fun j hj => ?_⟩
                  by_cases ej : j = k
                  · subst ej; rw [hx, hy]; obtain ⟨xh, xP, xR⟩ := x; obtain ⟨yh, yP, yR⟩ := y; simp only at h1 h2 h3; rw [h1, h2, h3]
                  · exact ih j (by omega)
                · have d3 := decide_eq_false h3
                  simp (config := { maxSteps := 2000000 }) -implicitDefEqProofs (disch := (first | omega | rfl | assumption | (simp only [rsD]; first | omega | assumption))) only [d3, Nat.reduceAdd, Nat.reduceMul, Nat.reduceLT, Int.reduceToNat, Int.reduceAdd, Int.reduceSub, Int.reduceMul, rsU, rsC]
                  exact Ok_some.2 (.inr ⟨no fun e => h3 (by rw [e]), rfl⟩)
              · have d2 := decide_eq_false h2
                simp (config := { maxSteps := 2000000 }) -implicitDefEqProofs (disch := (first | omega | rfl | assumption | (simp only [rsD]; first | omega | assumption))) only [d2, bf, bt, Nat.reduceAdd, Nat.reduceMul, Nat.reduceLT, Int.reduceToNat, Int.reduceAdd, Int.reduceSub, Int.reduceMul, rsU, rsC]
                exact Ok_some.2 (.inr ⟨no fun e => h2 (by rw [e]), rfl⟩)
            · rw [decide_eq_false h1] at q
              simp (config := { maxSteps := 2000000 }) -implicitDefEqProofs (disch := (first | omega | rfl | assumption | (simp only [rsD]; first | omega | assumption))) only [law40_Is_L1, x0, x1, l1, l2, q, bf, bt, Nat.reduceAdd, Nat.reduceMul, Nat.reduceLT, Int.reduceToNat, Int.reduceAdd, Int.reduceSub, Int.reduceMul, rsU, rsC]
              exact Ok_some.2 (.inr ⟨no fun e => h1 (by rw [e]), rfl⟩)
          · rintro s ⟨rfl, ih⟩
            simp (config := { maxSteps := 2000000 }) -implicitDefEqProofs (disch := (first | omega | rfl | assumption | (simp only [rsD]; first | omega | assumption))) only [law40_Is_L1, x0, x1, Nat.reduceAdd, Nat.reduceMul, Nat.reduceLT, Int.reduceToNat, Int.reduceAdd, Int.reduceSub, Int.reduceMul, rsU, rsC]
            exact Ok_some.2 (.inl ⟨rfl, ih⟩)
        · rintro _ (⟨e, ih⟩ | ⟨_, e⟩)
          · cases e
            have e3 : fN = gN := List.ext_getElem? fun k => by
              by_cases c : k < gN.length
              · exact ih k c
              · rw [List.getElem?_eq_none (by omega), List.getElem?_eq_none (by omega)]
            exact Ok_some.2 ⟨by simp [e1, e2, e3], E⟩
          · cases e
        · rintro _ (⟨e, ih⟩ | ⟨no, e⟩)
          · cases e
          · cases e; exact ⟨by simp [no], E⟩
      · have q2 := decide_eq_false e2
        simp (config := { maxSteps := 2000000 }) -implicitDefEqProofs (disch := (first | omega | rfl | assumption | (simp only [rsD]; first | omega | assumption))) only [q2, Nat.reduceAdd, Nat.reduceMul, Nat.reduceLT, Int.reduceToNat, Int.reduceAdd, Int.reduceSub, Int.reduceMul, rsU, rsC]
        exact Ok_some.2 ⟨by simp [e2], (ext_of (by (try simp only [rsD] at *); omega) (fun b hb => by (try simp only [rsD] at *); simp -implicitDefEqProofs (disch := (first | omega | rfl | assumption | (simp only [rsD]; first | omega | assumption))) only [s_bn, s_kn, bump_blk]))⟩
    · have q1 := decide_eq_false e1
      simp (config := { maxSteps := 2000000 }) -implicitDefEqProofs (disch := (first | omega | rfl | assumption | (simp only [rsD]; first | omega | assumption))) only [q1, Nat.reduceAdd, Nat.reduceMul, Nat.reduceLT, Int.reduceToNat, Int.reduceAdd, Int.reduceSub, Int.reduceMul, rsU, rsC]
      exact Ok_some.2 ⟨by simp [e1], (ext_of (by (try simp only [rsD] at *); omega) (fun b hb => by (try simp only [rsD] at *); simp -implicitDefEqProofs (disch := (first | omega | rfl | assumption | (simp only [rsD]; first | omega | assumption))) only [s_bn, s_kn, bump_blk]))⟩
  · have q0 := s_eqF (show ¬ (fN.length : Int) = gN.length by omega)
    simp (config := { maxSteps := 2000000 }) -implicitDefEqProofs (disch := (first | omega | rfl | assumption | (simp only [rsD]; first | omega | assumption))) only [law40_Is, law40_Is_c, q0, Nat.reduceAdd, Nat.reduceMul, Nat.reduceLT, Int.reduceToNat, Int.reduceAdd, Int.reduceSub, Int.reduceMul, rsU, rsC]
    exact Ok_some.2 ⟨by rw [decide_eq_false (fun e => by cases e; exact e0 rfl)], (ext_of (by (try simp only [rsD] at *); omega) (fun b hb => by (try simp only [rsD] at *); simp -implicitDefEqProofs (disch := (first | omega | rfl | assumption | (simp only [rsD]; first | omega | assumption))) only [s_bn, s_kn, bump_blk]))⟩
end Go.Abs.Try
set_option linter.unusedSimpArgs false
set_option linter.unusedVariables false
set_option linter.unusedSectionVars false
set_option maxHeartbeats 2000000
set_option maxRecDepth 100000
namespace Go.Abs.Try
open Go Go.Abs
variable {O : Type}

def _root_.Go.Abs.FV.rowE (el : Nat) (F : FV) : List TV := [.sl el 7 F.nodes.length (F.nodes.flatMap NV.row), ints .i64 F.roots, ints .i64 F.weak]
theorem _root_.Go.Abs.FV.rowE_at {el : Nat} {F : FV} {vs : List AV} (h : ImL (F.rowE el) vs) : F.At (.agg vs) := by
  unfold FV.rowE at h
  cases h with
  | cons h0 h => cases h with
  | cons h1 h => cases h with
  | cons h2 h => cases h with
  | nil =>
    obtain ⟨a, rfl, ia⟩ := Row.of NV.len h0 rfl
    obtain ⟨b, rfl, ib⟩ := ints_un h1
    obtain ⟨c, rfl, ic⟩ := ints_un h2
    exact ⟨a, b, c, rfl, ia, ib, ic⟩
theorem _root_.Go.Abs.FV.deepE {el : Nat} (G : FV) {d : Nat} : ∀ t ∈ G.rowE el, t.deep (d + 2) := by
  intro t ht
  simp only [FV.rowE, List.mem_cons, List.not_mem_nil, or_false] at ht
  rcases ht with rfl | rfl | rfl
  · exact rows_deep fun x => NV.deep x d
  · exact ints_deep _ _ _
  · exact ints_deep _ _ _
theorem NV.im7 {x : NV} {c d : SA} (hc : Ints .i64 c x.P) (hd : Ints .u64 d x.R) : ImL x.row [.i .i64 x.h.p, .i .i64 x.h.r, .i .i64 x.h.site, .i .i64 x.h.age, .b x.h.large, .sl c x.P.length, .sl d x.R.length] := NV.mk_ hc hd
theorem lref_ok {σ : AH O} {F : FV} {v : AV} (hF : F.At v) (fF : F.few) : Ok (law40_Ref [v] σ) fun r => F.At r.1 ∧ Ext σ r.2 := by
  have fin : Ok (law40_Ref [v] σ) fun r => (∃ vs, r.1 = .agg vs ∧ ImL (F.rowE T_haymowref40_Node) vs) ∧ Ext σ r.2 := by
    refine frz_agg (F.deepE (d := 4)) ?_
    obtain ⟨a, b, c, rfl, iN, iR, iW⟩ := hF.it
    have fn := fF.n
    simp (config := { maxSteps := 2000000 }) -implicitDefEqProofs (disch := (first | omega | rfl | assumption | (simp only [rsD]; first | omega | assumption))) only [law40_Ref_c, Nat.reduceAdd, Nat.reduceMul, Nat.reduceLT, Int.reduceToNat, Int.reduceAdd, Int.reduceSub, Int.reduceMul, rsU, rsC]
    generalize hs : AH.put _ (σ.next + 2) _ = s1
    have n1 : s1.next = σ.next + 3 := by rw [← hs]; rfl
    have x0 : s1.blk σ.next = some (.cells true T_canon_Form [.sl a F.nodes.length, .sl b F.roots.length, .sl c F.weak.length]) := by rw [← hs]; ((try simp only [rsD] at *); simp -implicitDefEqProofs (disch := (first | omega | rfl | assumption | (simp only [rsD]; first | omega | assumption))) only [s_bs, s_bn, s_kn, bump_blk])
    have x1 : s1.blk (σ.next + 1) = some (.cells true T_haymowref40_Form [.sl .nil 0, .sl .nil 0, .sl .nil 0]) := by rw [← hs]; ((try simp only [rsD] at *); simp -implicitDefEqProofs (disch := (first | omega | rfl | assumption | (simp only [rsD]; first | omega | assumption))) only [s_bs, s_bn, s_kn, bump_blk])
    have x2 : s1.blk (σ.next + 2) = some (.cells true T_haymowref40_Form [.sl .nil 0, .sl b F.roots.length, .sl c F.weak.length]) := by rw [← hs]; ((try simp only [rsD] at *); simp -implicitDefEqProofs (disch := (first | omega | rfl | assumption | (simp only [rsD]; first | omega | assumption))) only [s_bs, s_bn, s_kn, bump_blk])
    have lo : ∀ y, y < σ.next → s1.blk y = σ.blk y := fun y hy => by rw [← hs]; ((try simp only [rsD] at *); simp -implicitDefEqProofs (disch := (first | omega | rfl | assumption | (simp only [rsD]; first | omega | assumption))) only [s_bs, s_bn, s_kn, bump_blk])
    clear hs
    generalize hs6 : AH.put (AH.put (AH.bump σ 2) _ _) _ _ = s6
    have n6 : s6.next = σ.next + 2 := by rw [← hs6]; rfl
    refine Ok.step (Q := fun r => ∃ e σ', r = ([], σ') ∧ BldO (σ.next + 3) σ' T_haymowref40_Node 7 NV.row e F.nodes ∧ σ.next + 3 ≤ σ'.next ∧ (∀ y, y < σ.next + 2 → σ'.blk y = s1.blk y) ∧ σ'.blk (σ.next + 2) = some (.cells true T_haymowref40_Form [.sl e F.nodes.length, .sl b F.roots.length, .sl c F.weak.length])) ?_ ?_
    · refine Ok.count F.nodes.length (fun k st => ∃ e σ', st = ([.i .i64 (k : Int)], σ') ∧ BldO (σ.next + 3) σ' T_haymowref40_Node 7 NV.row e (F.nodes.take k) ∧ σ.next + 3 ≤ σ'.next ∧ (∀ y, y < σ.next + 2 → σ'.blk y = s1.blk y) ∧ σ'.blk (σ.next + 2) = some (.cells true T_haymowref40_Form [.sl e k, .sl b F.roots.length, .sl c F.weak.length])) ?_ ?_
        ⟨.nil, s1, rfl, BldO.nil _ _ _ NV.len, by omega, fun _ _ => rfl, x2⟩
      · rintro k st hk ⟨e, σ', rfl, B, hn, ho, hx⟩
        obtain ⟨x, hx0⟩ : ∃ x, F.nodes[k]? = some x := ⟨_, List.getElem?_eq_getElem hk⟩
        obtain ⟨u, o, p, q, rfl, hp, hq, l1⟩ := iN.node hx0
        have y0 := (ho σ.next (by omega)).trans x0
        have tk : (F.nodes.take k).length = k := by simp; omega
        have tk1 : F.nodes.take (k + 1) = F.nodes.take k ++ [x] := by rw [List.take_add_one, hx0]; rfl
        simp (config := { maxSteps := 2000000 }) -implicitDefEqProofs (disch := (first | omega | rfl | assumption | (simp only [rsD]; first | omega | assumption))) only [law40_Ref_L1, n6, y0, hx, l1, Nat.reduceAdd, Nat.reduceMul, Nat.reduceLT, Int.reduceToNat, Int.reduceAdd, Int.reduceSub, Int.reduceMul, rsU, rsC]
        have pu := B.push (σ3 := (σ'.bump 2).put σ'.next (.cells true T_haymowref40_Node [.i .i64 x.h.p, .i .i64 x.h.r, .i .i64 x.h.site, .i .i64 x.h.age, .b x.h.large, .sl p x.P.length, .sl q x.R.length])) (x := x) (nid := σ'.next + 1) (by omega) (by simp) (fun y h1 h2 => by ((try simp only [rsD] at *); simp -implicitDefEqProofs (disch := (first | omega | rfl | assumption | (simp only [rsD]; first | omega | assumption))) only [s_bs, s_bn, s_kn, bump_blk])) (NV.im7 hp hq) (by omega) (by simp)
        rw [tk, ← tk1] at pu
        refine Ok.step pu fun r ⟨e', g1, g2, g3, g4⟩ => ?_
        obtain ⟨z, σ2⟩ := r
        simp only at g1 g2 g3 g4
        subst g1
        simp only [rsD] at g3
        have hx2 : σ2.blk (σ.next + 2) = some (.cells true T_haymowref40_Form [.sl e k, .sl b F.roots.length, .sl c F.weak.length]) := by rw [g4 _ (by omega)]; ((try simp only [rsD] at *); simp -implicitDefEqProofs (disch := (first | omega | rfl | assumption | (simp only [rsD]; first | omega | assumption))) only [s_bs, s_bn, s_kn, bump_blk]); exact hx
        simp (config := { maxSteps := 2000000 }) -implicitDefEqProofs (disch := (first | omega | rfl | assumption | (simp only [rsD]; first | omega | assumption))) only [hx2, Nat.reduceAdd, Nat.reduceMul, Nat.reduceLT, Int.reduceToNat, Int.reduceAdd, Int.reduceSub, Int.reduceMul, rsU, rsC]
        refine Ok_some.2 ⟨e', _, rfl, g2.keep (by simp) (fun y h1 h2 => by ((try simp only [rsD] at *); simp -implicitDefEqProofs (disch := (first | omega | rfl | assumption | (simp only [rsD]; first | omega | assumption))) only [s_bs, s_bn, s_kn, bump_blk])), by simp; omega, fun y hy => ?_, s_bs⟩
        rw [s_bn (by omega), g4 _ (by omega), s_bn (by omega)]
        exact ho y hy
      · rintro st ⟨e, σ', rfl, B, hn, ho, hx⟩
        have y0 := (ho σ.next (by omega)).trans x0
        simp (config := { maxSteps := 2000000 }) -implicitDefEqProofs (disch := (first | omega | rfl | assumption | (simp only [rsD]; first | omega | assumption))) only [law40_Ref_L1, y0, Nat.reduceAdd, Nat.reduceMul, Nat.reduceLT, Int.reduceToNat, Int.reduceAdd, Int.reduceSub, Int.reduceMul, rsU, rsC]
        rw [List.take_length] at B
        exact Ok_some.2 ⟨e, σ', rfl, B, hn, ho, hx⟩
    rintro _ ⟨e, σ', rfl, B, hn, ho, hx⟩
    have y1 := (ho (σ.next + 1) (by omega)).trans x1
    simp (config := { maxSteps := 2000000 }) -implicitDefEqProofs (disch := (first | omega | rfl | assumption | (simp only [rsD]; first | omega | assumption))) only [n6, hx, y1, Nat.reduceAdd, Nat.reduceMul, Nat.reduceLT, Int.reduceToNat, Int.reduceAdd, Int.reduceSub, Int.reduceMul, rsU, rsC]
    have B2 := B.keep (σ' := σ'.put (σ.next + 1) (.cells true T_haymowref40_Form [.sl e F.nodes.length, .sl b F.roots.length, .sl c F.weak.length])) (Nat.le_refl _) fun y h1 h2 => s_bn (by omega)
    refine Ok_some.2 ⟨_, rfl, (B2.out (σ0 := σ) ⟨by simp; omega, fun y hy => ?_⟩ (by omega)).app (New.im (.cons (ints_mk iR) (.cons (ints_mk iW) .nil)) (Ext.refl _))⟩
    rw [s_bn (by omega), ho y (by omega)]; exact lo y hy
  refine fin.mono ?_
  rintro ⟨z, σ'⟩ ⟨⟨vs, h1, h2⟩, h3⟩
  simp only at h1
  subst h1
  exact ⟨FV.rowE_at h2, h3⟩
end Go.Abs.Try
