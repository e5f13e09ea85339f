/-
  The statement DiffApplies. No conditions.
-/
import Derived.Test.YteklninbijohcaaE94
import Derived.Test.YteklninbijohcaaE96
import Derived.Test.YteklninbijohcaaD2
set_option linter.unusedVariables false
set_option linter.unusedSimpArgs false
set_option linter.constructorNameAsVariable false
set_option linter.unusedSimpArgs false
set_option linter.unusedVariables false
set_option linter.unusedSectionVars false
set_option maxHeartbeats 4000000
set_option maxRecDepth 100000
namespace Go.Abs.Try
open Go Go.Abs
variable {O : Type}

structure _root_.Go.Abs.FV.bfew (F : FV) : Prop where
  n : F.nodes.length ≤ 10000000
  x : ∀ x ∈ F.nodes, x.few
  r : F.roots.length ≤ 100000
  w : F.weak.length ≤ 100000
theorem FV.few.b {F : FV} (h : F.few) : F.bfew := ⟨by have := h.n; omega, h.x, h.r, h.w⟩
theorem one_bfew {F : FV} {c : CV} (h : F.bfew) (hc : c.few) : (one F c).2.bfew := by
  have m := one_med (F := F) (c := c) ⟨h.n, h.x⟩ hc
  have hr := h.r
  have hw := h.w
  have hl := hc.l
  refine ⟨m.n, m.x, ?_, ?_⟩
  · unfold one
    split
    · split <;> exact hr
    · split
      · exact hl
      · split
        · exact hr
        · split
          · exact hr
          · split
            · exact hr
            · split
              · exact hr
              · split
                · exact hr
                · split
                  · exact hr
                  · split <;> exact hr
  · unfold one
    split
    · split <;> exact hw
    · split
      · exact hw
      · split
        · exact hl
        · split
          · exact hw
          · split
            · exact hw
            · split
              · exact hw
              · split
                · exact hw
                · split
                  · exact hw
                  · split <;> exact hw
theorem appl_bfew : ∀ {F : FV} {l : List CV} (n : Nat), F.bfew → (∀ c ∈ l, c.few) → (appl F n l).1.bfew
  | F, [], n, h, _ => h
  | F, c :: l, n, h, hl => by
    unfold appl
    split
    · exact appl_bfew (n + 1) (one_bfew h (hl c List.mem_cons_self)) fun x hx => hl x (List.mem_cons_of_mem _ hx)
    · exact ⟨by simp [FV.zero], by simp [FV.zero], by simp [FV.zero], by simp [FV.zero]⟩
theorem is_okw {σ : AH O} {F G : FV} {v w : AV} (hF : F.At v) (hG : G.At w) (fF : F.bfew) (fG : G.bfew) : Ok (law40_Is [v, w] σ) fun r => r.1 = .b (decide (F = G)) ∧ Ext σ r.2 := by
  obtain ⟨a1, b1, c1, rfl, i1, i2, i3⟩ := hF.it
  obtain ⟨a2, b2, c2, rfl, j1, j2, j3⟩ := hG.it
  have fn := fF.n
  have gn := fG.n
  obtain ⟨fN, fR, fW⟩ := F
  obtain ⟨gN, gR, gW⟩ := G
  simp only at *
  by_cases e0 : fN.length = gN.length
  · have q0 := s_eqT (show (fN.length : Int) = gN.length by omega)
    simp (config := { maxSteps := 2000000 }) -implicitDefEqProofs (disch := (first | omega | rfl | assumption | (simp only [rsD]; first | omega | assumption))) only [law40_Is, law40_Is_c, q0, Nat.reduceAdd, Nat.reduceMul, Nat.reduceLT, Int.reduceToNat, Int.reduceAdd, Int.reduceSub, Int.reduceMul, rsU, rsC]
    refine Ok.step (same02 i2 j2 fF.r fG.r) fun r g => ?_
    subst g
    by_cases e1 : fR = gR
    · have q1 := decide_eq_true e1
      simp (config := { maxSteps := 2000000 }) -implicitDefEqProofs (disch := (first | omega | rfl | assumption | (simp only [rsD]; first | omega | assumption))) only [q1, Nat.reduceAdd, Nat.reduceMul, Nat.reduceLT, Int.reduceToNat, Int.reduceAdd, Int.reduceSub, Int.reduceMul, rsU, rsC]
      refine Ok.step (same02 i3 j3 fF.w fG.w) fun r g => ?_
      subst g
      by_cases e2 : fW = gW
      · have q2 := decide_eq_true e2
        simp (config := { maxSteps := 2000000 }) -implicitDefEqProofs (disch := (first | omega | rfl | assumption | (simp only [rsD]; first | omega | assumption))) only [q2, Nat.reduceAdd, Nat.reduceMul, Nat.reduceLT, Int.reduceToNat, Int.reduceAdd, Int.reduceSub, Int.reduceMul, rsU, rsC]
        generalize hs : AH.put (AH.put _ _ _) (σ.next + 1) _ = s1
        have x0 : s1.blk σ.next = some (.cells true T_canon_Form [.sl a1 fN.length, .sl b1 fR.length, .sl c1 fW.length]) := by rw [← hs]; ((try simp only [rsD] at *); simp -implicitDefEqProofs (disch := (first | omega | rfl | assumption | (simp only [rsD]; first | omega | assumption))) only [s_bs, s_bn, s_kn, bump_blk])
        have x1 : s1.blk (σ.next + 1) = some (.cells true T_haymowref40_Form [.sl a2 gN.length, .sl b2 gR.length, .sl c2 gW.length]) := by rw [← hs]; ((try simp only [rsD] at *); simp -implicitDefEqProofs (disch := (first | omega | rfl | assumption | (simp only [rsD]; first | omega | assumption))) only [s_bs, s_bn, s_kn, bump_blk])
        have E : Ext σ s1 := by rw [← hs]; exact (ext_of (by (try simp only [rsD] at *); omega) (fun b hb => by (try simp only [rsD] at *); simp -implicitDefEqProofs (disch := (first | omega | rfl | assumption | (simp only [rsD]; first | omega | assumption))) only [s_bn, s_kn, bump_blk]))
        clear hs
        refine Ok.bindS (Q := fun r => (r = .inl ([], s1) ∧ ∀ k, k < gN.length → fN[k]? = gN[k]?) ∨ (fN ≠ gN ∧ r = .inr (.b false, s1))) ?_ ?_ ?_
        · refine Ok.count gN.length (fun k s => s = ([.i .i64 (k : Int)], s1) ∧ ∀ j, j < k → fN[j]? = gN[j]?) ?_ ?_ ⟨rfl, fun j h => by omega⟩
          · rintro k s hk ⟨rfl, ih⟩
            obtain ⟨x, hx⟩ : ∃ x, fN[k]? = some x := ⟨_, List.getElem?_eq_getElem (by omega)⟩
            obtain ⟨y, hy⟩ : ∃ y, gN[k]? = some y := ⟨_, List.getElem?_eq_getElem hk⟩
            obtain ⟨u1, o1, p1, q1', rfl, hp1, hq1, l1⟩ := i1.node hx
            obtain ⟨u2, o2, p2, q2', rfl, hp2, hq2, l2⟩ := j1.node hy
            have fx := fF.x x (List.mem_of_getElem? hx)
            have fy := fG.x y (List.mem_of_getElem? hy)
            have q := hv_eq x.h y.h
            have bf : (false == false) = true := rfl
            have bt : (true == false) = false := rfl
            have no : x ≠ y → fN ≠ gN := fun h e => h (by rw [e, hy] at hx; cases hx; rfl)
            by_cases h1 : x.h = y.h
            · rw [decide_eq_true h1] at q
              simp (config := { maxSteps := 2000000 }) -implicitDefEqProofs (disch := (first | omega | rfl | assumption | (simp only [rsD]; first | omega | assumption))) only [law40_Is_L1, x0, x1, l1, l2, q, bf, bt, Nat.reduceAdd, Nat.reduceMul, Nat.reduceLT, Int.reduceToNat, Int.reduceAdd, Int.reduceSub, Int.reduceMul, rsU, rsC]
              refine Ok.step (same02 hp1 hp2 fx.p fy.p) fun r g => ?_
              subst g
              by_cases h2 : x.P = y.P
              · have d2 := decide_eq_true h2
                simp (config := { maxSteps := 2000000 }) -implicitDefEqProofs (disch := (first | omega | rfl | assumption | (simp only [rsD]; first | omega | assumption))) only [x0, x1, l1, l2, d2, bf, bt, Nat.reduceAdd, Nat.reduceMul, Nat.reduceLT, Int.reduceToNat, Int.reduceAdd, Int.reduceSub, Int.reduceMul, rsU, rsC]
                refine Ok.step (same05 hq1 hq2 fx.r fy.r) fun r g => ?_
                subst g
                by_cases h3 : x.R = y.R
                · have d3 := decide_eq_true h3
                  simp (config := { maxSteps := 2000000 }) -implicitDefEqProofs (disch := (first | omega | rfl | assumption | (simp only [rsD]; first | omega | assumption))) only [d3, Nat.reduceAdd, Nat.reduceMul, Nat.reduceLT, Int.reduceToNat, Int.reduceAdd, Int.reduceSub, Int.reduceMul, rsU, rsC]
                  refine Ok_some.2 ⟨by simp, fun j hj => ?_⟩
                  by_cases ej : j = k
                  · subst ej; rw [hx, hy]; obtain ⟨xh, xP, xR⟩ := x; obtain ⟨yh, yP, yR⟩ := y; simp only at h1 h2 h3; rw [h1, h2, h3]
                  · exact ih j (by omega)
                · have d3 := decide_eq_false h3
                  simp (config := { maxSteps := 2000000 }) -implicitDefEqProofs (disch := (first | omega | rfl | assumption | (simp only [rsD]; first | omega | assumption))) only [d3, Nat.reduceAdd, Nat.reduceMul, Nat.reduceLT, Int.reduceToNat, Int.reduceAdd, Int.reduceSub, Int.reduceMul, rsU, rsC]
                  exact Ok_some.2 (.inr ⟨no fun e => h3 (by rw [e]), rfl⟩)
              · have d2 := decide_eq_false h2
                simp (config := { maxSteps := 2000000 }) -implicitDefEqProofs (disch := (first | omega | rfl | assumption | (simp only [rsD]; first | omega | assumption))) only [d2, bf, bt, Nat.reduceAdd, Nat.reduceMul, Nat.reduceLT, Int.reduceToNat, Int.reduceAdd, Int.reduceSub, Int.reduceMul, rsU, rsC]
                exact Ok_some.2 (.inr ⟨no fun e => h2 (by rw [e]), rfl⟩)
            · rw [decide_eq_false h1] at q
              simp (config := { maxSteps := 2000000 }) -implicitDefEqProofs (disch := (first | omega | rfl | assumption | (simp only [rsD]; first | omega | assumption))) only [law40_Is_L1, x0, x1, l1, l2, q, bf, bt, Nat.reduceAdd, Nat.reduceMul, Nat.reduceLT, Int.reduceToNat, Int.reduceAdd, Int.reduceSub, Int.reduceMul, rsU, rsC]
              exact Ok_some.2 (.inr ⟨no fun e => h1 (by rw [e]), rfl⟩)
          · rintro s ⟨rfl, ih⟩
            simp (config := { maxSteps := 2000000 }) -implicitDefEqProofs (disch := (first | omega | rfl | assumption | (simp only [rsD]; first | omega | assumption))) only [law40_Is_L1, x0, x1, Nat.reduceAdd, Nat.reduceMul, Nat.reduceLT, Int.reduceToNat, Int.reduceAdd, Int.reduceSub, Int.reduceMul, rsU, rsC]
            exact Ok_some.2 (.inl ⟨rfl, ih⟩)
        · rintro _ (⟨e, ih⟩ | ⟨_, e⟩)
          · cases e
            have e3 : fN = gN := List.ext_getElem? fun k => by
              by_cases c : k < gN.length
              · exact ih k c
              · rw [List.getElem?_eq_none (by omega), List.getElem?_eq_none (by omega)]
            exact Ok_some.2 ⟨by simp [e1, e2, e3], E⟩
          · cases e
        · rintro _ (⟨e, ih⟩ | ⟨no, e⟩)
          · cases e
          · cases e; exact ⟨by simp [no], E⟩
      · have q2 := decide_eq_false e2
        simp (config := { maxSteps := 2000000 }) -implicitDefEqProofs (disch := (first | omega | rfl | assumption | (simp only [rsD]; first | omega | assumption))) only [q2, Nat.reduceAdd, Nat.reduceMul, Nat.reduceLT, Int.reduceToNat, Int.reduceAdd, Int.reduceSub, Int.reduceMul, rsU, rsC]
        exact Ok_some.2 ⟨by simp [e2], (ext_of (by (try simp only [rsD] at *); omega) (fun b hb => by (try simp only [rsD] at *); simp -implicitDefEqProofs (disch := (first | omega | rfl | assumption | (simp only [rsD]; first | omega | assumption))) only [s_bn, s_kn, bump_blk]))⟩
    · have q1 := decide_eq_false e1
      simp (config := { maxSteps := 2000000 }) -implicitDefEqProofs (disch := (first | omega | rfl | assumption | (simp only [rsD]; first | omega | assumption))) only [q1, Nat.reduceAdd, Nat.reduceMul, Nat.reduceLT, Int.reduceToNat, Int.reduceAdd, Int.reduceSub, Int.reduceMul, rsU, rsC]
      exact Ok_some.2 ⟨by simp [e1], (ext_of (by (try simp only [rsD] at *); omega) (fun b hb => by (try simp only [rsD] at *); simp -implicitDefEqProofs (disch := (first | omega | rfl | assumption | (simp only [rsD]; first | omega | assumption))) only [s_bn, s_kn, bump_blk]))⟩
  · have q0 := s_eqF (show ¬ (fN.length : Int) = gN.length by omega)
    simp (config := { maxSteps := 2000000 }) -implicitDefEqProofs (disch := (first | omega | rfl | assumption | (simp only [rsD]; first | omega | assumption))) only [law40_Is, law40_Is_c, q0, Nat.reduceAdd, Nat.reduceMul, Nat.reduceLT, Int.reduceToNat, Int.reduceAdd, Int.reduceSub, Int.reduceMul, rsU, rsC]
    exact Ok_some.2 ⟨by rw [decide_eq_false (fun e => by cases e; exact e0 rfl)], (ext_of (by (try simp only [rsD] at *); omega) (fun b hb => by (try simp only [rsD] at *); simp -implicitDefEqProofs (disch := (first | omega | rfl | assumption | (simp only [rsD]; first | omega | assumption))) only [s_bn, s_kn, bump_blk]))⟩
theorem applies_l1 {σ : AH O} {a : SA} {l : List CV} (hl : Chgs a l) (hn : l.length ≤ 100000000) :
    Ok (loopF (S := List AV × AH O) (T := (List AV × AH O) ⊕ (AV × AH O)) (law47_DiffApplies_L1 (a, l.length) (fza law47_few)) ([.i .i64 0], σ)) fun r => (∃ σ', r = .inl ([], σ') ∧ Ext σ σ' ∧ ∀ c ∈ l, c.few) ∨ ∃ σ', r = .inr (.b true, σ') := by
  refine Ok.count l.length (fun k st => ∃ σ', st = ([.i .i64 (k : Int)], σ') ∧ Ext σ σ' ∧ ∀ j c, j < k → l[j]? = some c → c.few) ?_ ?_ ⟨σ, rfl, Ext.refl _, fun j c h => by omega⟩
  · rintro k st hk ⟨σ', rfl, E, ih⟩
    obtain ⟨c, hc⟩ : ∃ c, l[k]? = some c := ⟨_, List.getElem?_eq_getElem hk⟩
    obtain ⟨b, o, p, q, r, rfl, hp, hq, hr, ld⟩ := chg_at hl hc
    have di := decide_eq_true (show (k : Int) < (l.length : Int) by omega)
    have d0 := ld O (σ'.bump 1) 0 (by decide)
    have d1 := ld O (σ'.bump 1) 1 (by decide)
    have d2 := ld O (σ'.bump 1) 2 (by decide)
    have d3 := ld O (σ'.bump 1) 3 (by decide)
    have d4 := ld O (σ'.bump 1) 4 (by decide)
    have d5 := ld O (σ'.bump 1) 5 (by decide)
    have d6 := ld O (σ'.bump 1) 6 (by decide)
    have d7 := ld O (σ'.bump 1) 7 (by decide)
    have d8 := ld O (σ'.bump 1) 8 (by decide)
    have d9 := ld O (σ'.bump 1) 9 (by decide)
    have d10 := ld O (σ'.bump 1) 10 (by decide)
    have d11 := ld O (σ'.bump 1) 11 (by decide)
    have d12 := ld O (σ'.bump 1) 12 (by decide)
    simp only [Nat.add_zero, CV.cells, List.getElem?_cons_zero, List.getElem?_cons_succ] at d0 d1 d2 d3 d4 d5 d6 d7 d8 d9 d10 d11 d12
    simp (config := { maxSteps := 2000000 }) -implicitDefEqProofs (disch := (first | omega | rfl | assumption | (simp only [rsD]; first | omega | assumption))) only [law47_DiffApplies_L1, di, d0, d1, d2, d3, d4, d5, d6, d7, d8, d9, d10, d11, d12, Nat.reduceAdd, Nat.reduceMul, Nat.reduceLT, Int.reduceToNat, Int.reduceAdd, Int.reduceSub, Int.reduceMul, rsU, rsC]
    by_cases hL : c.list.length ≤ 30
    · have dL := decide_eq_false (show ¬ (c.list.length : Int) > 30 by omega)
      rw [dL]
      generalize (bif bif c.kind == 0 then decide (c.to > 100) else false then decide (c.to ≤ 1048576) else false) = B
      cases B with
      | true =>
        simp (config := { maxSteps := 2000000 }) -implicitDefEqProofs (disch := (first | omega | rfl | assumption | (simp only [rsD]; first | omega | assumption))) only [Nat.reduceAdd, Nat.reduceMul, Nat.reduceLT, Int.reduceToNat, Int.reduceAdd, Int.reduceSub, Int.reduceMul, rsU, rsC]
        exact Ok_some.2 (.inr ⟨_, rfl⟩)
      | false =>
        simp (config := { maxSteps := 2000000 }) -implicitDefEqProofs (disch := (first | omega | rfl | assumption | (simp only [rsD]; first | omega | assumption))) only [Nat.reduceAdd, Nat.reduceMul, Nat.reduceLT, Int.reduceToNat, Int.reduceAdd, Int.reduceSub, Int.reduceMul, rsU, rsC]
        have fz : fza (law47_few (O := O)) [.agg [.sl (.loc (.n σ'.next) 0 7) 1, .sl .nil 0, .sl .nil 0]] ((σ'.bump 1).put σ'.next (.cells true T_canon_Node [.i .i64 c.whole.h.p, .i .i64 c.whole.h.r, .i .i64 c.whole.h.site, .i .i64 c.whole.h.age, .b c.whole.h.large, .sl p c.whole.P.length, .sl q c.whole.R.length])) = law47_few _ _ := fza_eq (frzL_step (node_frz hp hq s_bs) rfl)
        rw [fz]
        refine Ok.step (few_ok (node_at hp hq)) fun t ⟨t', g, ht, E2⟩ => ?_
        obtain ⟨z, σ2⟩ := t
        simp only at g E2
        subst g
        cases t' with
        | false =>
          simp (config := { maxSteps := 2000000 }) -implicitDefEqProofs (disch := (first | omega | rfl | assumption | (simp only [rsD]; first | omega | assumption))) only [Nat.reduceAdd, Nat.reduceMul, Nat.reduceLT, Int.reduceToNat, Int.reduceAdd, Int.reduceSub, Int.reduceMul, rsU, rsC]
          exact Ok_some.2 (.inr ⟨_, rfl⟩)
        | true =>
          simp (config := { maxSteps := 2000000 }) -implicitDefEqProofs (disch := (first | omega | rfl | assumption | (simp only [rsD]; first | omega | assumption))) only [Nat.reduceAdd, Nat.reduceMul, Nat.reduceLT, Int.reduceToNat, Int.reduceAdd, Int.reduceSub, Int.reduceMul, rsU, rsC]
          have n2 := E2.next
          simp only [rsD] at n2
          refine Ok_some.2 ⟨σ2, by simp, ⟨by have := E.next; omega, fun y hy => ?_⟩, fun j y hj hy => ?_⟩
          · have := E.next
            rw [E2.blk y (by simp only [rsD]; omega), s_bn (by omega), s_kn (by omega), s_bn (by omega)]
            exact E.blk y hy
          · by_cases ej : j = k
            · subst ej; rw [hc] at hy; cases hy
              exact ⟨(ht rfl).1.x _ (by simp), by omega⟩
            · exact ih j y (by omega) hy
    · have dL := decide_eq_true (show (c.list.length : Int) > 30 by omega)
      rw [dL]
      generalize (bif bif c.kind == 0 then decide (c.to > 100) else false then decide (c.to ≤ 1048576) else false) = B
      cases B with
      | true => simp (config := { maxSteps := 2000000 }) -implicitDefEqProofs (disch := (first | omega | rfl | assumption | (simp only [rsD]; first | omega | assumption))) only [Nat.reduceAdd, Nat.reduceMul, Nat.reduceLT, Int.reduceToNat, Int.reduceAdd, Int.reduceSub, Int.reduceMul, rsU, rsC]; exact Ok_some.2 (.inr ⟨_, rfl⟩)
      | false => simp (config := { maxSteps := 2000000 }) -implicitDefEqProofs (disch := (first | omega | rfl | assumption | (simp only [rsD]; first | omega | assumption))) only [Nat.reduceAdd, Nat.reduceMul, Nat.reduceLT, Int.reduceToNat, Int.reduceAdd, Int.reduceSub, Int.reduceMul, rsU, rsC]; exact Ok_some.2 (.inr ⟨_, rfl⟩)
  · rintro st ⟨σ', rfl, E, ih⟩
    simp (config := { maxSteps := 2000000 }) -implicitDefEqProofs (disch := (first | omega | rfl | assumption | (simp only [rsD]; first | omega | assumption))) only [law47_DiffApplies_L1, Nat.reduceAdd, Nat.reduceMul, Nat.reduceLT, Int.reduceToNat, Int.reduceAdd, Int.reduceSub, Int.reduceMul, rsU, rsC]
    refine Ok_some.2 (.inl ⟨σ', rfl, E, fun c hc => ?_⟩)
    obtain ⟨j, hj, rfl⟩ := List.getElem_of_mem hc
    exact ih j _ hj (List.getElem?_eq_getElem hj)
theorem zero_at : FV.zero.At (.agg [.sl .nil 0, .sl .nil 0, .sl .nil 0]) := ⟨.nil, .nil, .nil, rfl, Row.nil NV.len, nil_ints _, nil_ints _⟩
theorem zero_few' : FV.zero.few := ⟨by simp [FV.zero], by simp [FV.zero], by simp [FV.zero], by simp [FV.zero]⟩
theorem diffApplies_ok {σ : AH O} {F : FV} {v : AV} {a : SA} {l : List CV} (hF : F.At v) (hl : Chgs a l) : Ok (law47_DiffApplies [v, .sl a l.length] σ) fun r => r.1 = .b true := by
  obtain ⟨a1, b1, c1, rfl, i1, i2, i3⟩ := hF.it
  simp (config := { maxSteps := 2000000 }) -implicitDefEqProofs (disch := (first | omega | rfl | assumption | (simp only [rsD]; first | omega | assumption))) only [law47_DiffApplies, law47_DiffApplies_c, Nat.reduceAdd, Nat.reduceMul, Nat.reduceLT, Int.reduceToNat, Int.reduceAdd, Int.reduceSub, Int.reduceMul, rsU, rsC]
  refine Ok.step awake_ok fun r ⟨g, E1⟩ => ?_
  obtain ⟨z, σ1⟩ := r
  simp only at g E1
  subst g
  have n1 := E1.next
  simp only [rsD] at n1
  have x0 : σ1.blk σ.next = some (.cells true T_canon_Form [.sl a1 F.nodes.length, .sl b1 F.roots.length, .sl c1 F.weak.length]) := by ((have x0 := (E1).next); (try simp only [rsD] at *); simp -implicitDefEqProofs (disch := (first | omega | rfl | assumption | (simp only [rsD]; first | omega | assumption))) only [s_bs, s_bn, s_kn, bump_blk, s_ext (E1)])
  simp (config := { maxSteps := 2000000 }) -implicitDefEqProofs (disch := (first | omega | rfl | assumption | (simp only [rsD]; first | omega | assumption))) only [x0, Nat.reduceAdd, Nat.reduceMul, Nat.reduceLT, Int.reduceToNat, Int.reduceAdd, Int.reduceSub, Int.reduceMul, rsU, rsC]
  have fz : fza (law47_few (O := O)) [.agg [.sl a1 F.nodes.length, .sl b1 F.roots.length, .sl c1 F.weak.length]] σ1 = law47_few [.agg [.sl a1 F.nodes.length, .sl b1 F.roots.length, .sl c1 F.weak.length]] σ1 := fza_eq (frzL_step (frzA_flt (form_flt i1 i2 i3)) rfl)
  rw [fz]
  refine Ok.step (few_ok hF) fun r ⟨t, g, ht, E2⟩ => ?_
  obtain ⟨z, σ2⟩ := r
  simp only at g E2
  subst g
  have n2 := E2.next
  cases t with
  | false => simp (config := { maxSteps := 2000000 }) -implicitDefEqProofs (disch := (first | omega | rfl | assumption | (simp only [rsD]; first | omega | assumption))) only [Nat.reduceAdd, Nat.reduceMul, Nat.reduceLT, Int.reduceToNat, Int.reduceAdd, Int.reduceSub, Int.reduceMul, rsU, rsC]; exact Ok_some.2 rfl
  | true =>
  obtain ⟨fF, lF⟩ := ht rfl
  have x2 := (E2.blk σ.next (by omega)).trans x0
  by_cases hn : l.length > 20
  · have q1 := decide_eq_true (show (l.length : Int) > 20 by omega)
    simp (config := { maxSteps := 2000000 }) -implicitDefEqProofs (disch := (first | omega | rfl | assumption | (simp only [rsD]; first | omega | assumption))) only [q1, Nat.reduceAdd, Nat.reduceMul, Nat.reduceLT, Int.reduceToNat, Int.reduceAdd, Int.reduceSub, Int.reduceMul, rsU, rsC]
    exact Ok_some.2 rfl
  have q1 := decide_eq_false (show ¬ (l.length : Int) > 20 by omega)
  simp (config := { maxSteps := 2000000 }) -implicitDefEqProofs (disch := (first | omega | rfl | assumption | (simp only [rsD]; first | omega | assumption))) only [q1, Nat.reduceAdd, Nat.reduceMul, Nat.reduceLT, Int.reduceToNat, Int.reduceAdd, Int.reduceSub, Int.reduceMul, rsU, rsC]
  refine Ok.bindS (applies_l1 hl (by omega)) ?_ ?_
  rotate_left
  · rintro r (⟨_, e, _⟩ | ⟨σ', e⟩)
    · cases e
    · cases e; rfl
  rintro _ (⟨σ3, e, E3, fl⟩ | ⟨_, e⟩)
  rotate_left
  · cases e
  cases e
  have n3 := E3.next
  have x3 := (E3.blk σ.next (by omega)).trans x2
  have mF : F.med := ⟨by omega, fF.x⟩
  simp (config := { maxSteps := 2000000 }) -implicitDefEqProofs (disch := (first | omega | rfl | assumption | (simp only [rsD]; first | omega | assumption))) only [x3, Nat.reduceAdd, Nat.reduceMul, Nat.reduceLT, Int.reduceToNat, Int.reduceAdd, Int.reduceSub, Int.reduceMul, rsU, rsC]
  refine Ok.step (lref_ok hF fF) fun r ⟨hF1, E4⟩ => ?_
  obtain ⟨z, σ4⟩ := r
  simp only at hF1 E4
  obtain ⟨a2, b2, c2, rfl, j1, j2, j3⟩ := hF1.it
  have n4 := E4.next
  have x4 := (E4.blk σ.next (by omega)).trans x3
  simp (config := { maxSteps := 2000000 }) -implicitDefEqProofs (disch := (first | omega | rfl | assumption | (simp only [rsD]; first | omega | assumption))) only [Nat.reduceAdd, Nat.reduceMul, Nat.reduceLT, Int.reduceToNat, Int.reduceAdd, Int.reduceSub, Int.reduceMul, rsU, rsC]
  refine Ok.step (rof_ok zero_at hF1 zero_few' fF) fun r ⟨⟨e1, g, _⟩, E5⟩ => ?_
  obtain ⟨z, σ5⟩ := r
  simp only at g E5
  subst g
  have n5 := E5.next
  have x5 := (E5.blk σ.next (by omega)).trans x4
  simp (config := { maxSteps := 2000000 }) -implicitDefEqProofs (disch := (first | omega | rfl | assumption | (simp only [rsD]; first | omega | assumption))) only [x5, Nat.reduceAdd, Nat.reduceMul, Nat.reduceLT, Int.reduceToNat, Int.reduceAdd, Int.reduceSub, Int.reduceMul, rsU, rsC]
  refine Ok.step (apply_all (σ := σ5.bump 1) hF fF hl fl (by omega)) fun r ⟨⟨vs, g, I⟩, E6⟩ => ?_
  obtain ⟨z, σ6⟩ := r
  simp only at g E6
  subst g
  have n6 := E6.next
  simp only [rsD] at n6
  have hc := FV.row_at I
  obtain ⟨a3, b3, c3, e3, k1, k2, k3⟩ := hc.it
  cases e3
  have x6 : σ6.blk σ.next = _ := (E6.blk σ.next (by simp only [rsD]; omega)).trans x5
  simp (config := { maxSteps := 2000000 }) -implicitDefEqProofs (disch := (first | omega | rfl | assumption | (simp only [rsD]; first | omega | assumption))) only [x6, Nat.reduceAdd, Nat.reduceMul, Nat.reduceLT, Int.reduceToNat, Int.reduceAdd, Int.reduceSub, Int.reduceMul, rsU, rsC]
  generalize hs : AH.put σ6 σ5.next _ = s6
  have m6 : s6.next = σ6.next := by rw [← hs]; rfl
  have y6 : s6.blk σ.next = some (.cells true T_canon_Form [.sl a1 F.nodes.length, .sl b1 F.roots.length, .sl c1 F.weak.length]) := by rw [← hs, s_bn (by omega)]; exact x6
  have w6 : s6.blk σ5.next = some (.cells true T_canon_Form [.sl a3 (appl F 0 l).1.nodes.length, .sl b3 (appl F 0 l).1.roots.length, .sl c3 (appl F 0 l).1.weak.length]) := by rw [← hs]; exact s_bs
  clear hs
  refine Ok.step (lref_ok (σ := s6.bump 1) hF fF) fun r ⟨hF2, E7⟩ => ?_
  obtain ⟨z, σ7⟩ := r
  simp only at hF2 E7
  obtain ⟨a4, b4, c4, rfl, m1, m2, m3⟩ := hF2.it
  have n7 := E7.next
  simp only [rsD] at n7
  have y7 : σ7.blk σ.next = _ := (E7.blk σ.next (by simp only [rsD]; omega)).trans y6
  have w7 : σ7.blk σ5.next = _ := (E7.blk σ5.next (by simp only [rsD]; omega)).trans w6
  simp (config := { maxSteps := 2000000 }) -implicitDefEqProofs (disch := (first | omega | rfl | assumption | (simp only [rsD]; first | omega | assumption))) only [Nat.reduceAdd, Nat.reduceMul, Nat.reduceLT, Int.reduceToNat, Int.reduceAdd, Int.reduceSub, Int.reduceMul, rsU, rsC]
  refine Ok.step (lrefs_ok hl fl (by omega)) fun r ⟨⟨e2, g, R2⟩, E8⟩ => ?_
  obtain ⟨z, σ8⟩ := r
  simp only at g E8
  subst g
  have n8 := E8.next
  have y8 := (E8.blk σ.next (by omega)).trans y7
  have w8 := (E8.blk σ5.next (by omega)).trans w7
  simp (config := { maxSteps := 2000000 }) -implicitDefEqProofs (disch := (first | omega | rfl | assumption | (simp only [rsD]; first | omega | assumption))) only [Nat.reduceAdd, Nat.reduceMul, Nat.reduceLT, Int.reduceToNat, Int.reduceAdd, Int.reduceSub, Int.reduceMul, rsU, rsC]
  refine Ok.step (rapply_ok hF2 mF R2 fl (by omega)) fun r ⟨⟨w, g, hW⟩, E9⟩ => ?_
  obtain ⟨z, σ9⟩ := r
  simp only at g E9
  subst g
  obtain ⟨a5, b5, c5, rfl, p1, p2, p3⟩ := hW.it
  have n9 := E9.next
  have y9 := (E9.blk σ.next (by omega)).trans y8
  have w9 := (E9.blk σ5.next (by omega)).trans w8
  simp (config := { maxSteps := 2000000 }) -implicitDefEqProofs (disch := (first | omega | rfl | assumption | (simp only [rsD]; first | omega | assumption))) only [y9, Nat.reduceAdd, Nat.reduceMul, Nat.reduceLT, Int.reduceToNat, Int.reduceAdd, Int.reduceSub, Int.reduceMul, rsU, rsC]
  generalize hs : AH.put σ9 σ6.next _ = s9
  have m9 : s9.next = σ9.next := by rw [← hs]; rfl
  have y10 : s9.blk σ.next = some (.cells true T_canon_Form [.sl a1 F.nodes.length, .sl b1 F.roots.length, .sl c1 F.weak.length]) := by rw [← hs, s_bn (by omega)]; exact y9
  have w10 : s9.blk σ5.next = some (.cells true T_canon_Form [.sl a3 (appl F 0 l).1.nodes.length, .sl b3 (appl F 0 l).1.roots.length, .sl c3 (appl F 0 l).1.weak.length]) := by rw [← hs, s_bn (by omega)]; exact w9
  have v10 : s9.blk σ6.next = some (.cells true T_haymowref40_Form [.sl a5 (appl F 0 l).1.nodes.length, .sl b5 (appl F 0 l).1.roots.length, .sl c5 (appl F 0 l).1.weak.length]) := by rw [← hs]; exact s_bs
  clear hs
  refine Ok.step (lref_ok hF fF) fun r ⟨hF3, E10⟩ => ?_
  obtain ⟨z, σ10⟩ := r
  simp only at hF3 E10
  obtain ⟨a6, b6, c6, rfl, q1', q2', q3'⟩ := hF3.it
  have n10 := E10.next
  have w11 := (E10.blk σ5.next (by omega)).trans w10
  have v11 := (E10.blk σ6.next (by omega)).trans v10
  simp (config := { maxSteps := 2000000 }) -implicitDefEqProofs (disch := (first | omega | rfl | assumption | (simp only [rsD]; first | omega | assumption))) only [Nat.reduceAdd, Nat.reduceMul, Nat.reduceLT, Int.reduceToNat, Int.reduceAdd, Int.reduceSub, Int.reduceMul, rsU, rsC]
  refine Ok.step (rof_ok zero_at hF3 zero_few' fF) fun r ⟨⟨e4, g, _⟩, E11⟩ => ?_
  obtain ⟨z, σ11⟩ := r
  simp only at g E11
  subst g
  have n11 := E11.next
  have w12 := (E11.blk σ5.next (by omega)).trans w11
  have v12 := (E11.blk σ6.next (by omega)).trans v11
  have s1 := s_eqT (show ((dOf FV.zero F).length : Int) = (dOf FV.zero F).length from rfl)
  have s2 := s_eqT (show (appl F 0 l).2.1 = (appl F 0 l).2.1 from rfl)
  have s3 := s_eqT (show (appl F 0 l).2.2 = (appl F 0 l).2.2 from rfl)
  simp (config := { maxSteps := 2000000 }) -implicitDefEqProofs (disch := (first | omega | rfl | assumption | (simp only [rsD]; first | omega | assumption))) only [s1, s2, s3, w12, v12, Nat.reduceAdd, Nat.reduceMul, Nat.reduceLT, Int.reduceToNat, Int.reduceAdd, Int.reduceSub, Int.reduceMul, rsU, rsC]
  have bf := appl_bfew (F := F) (l := l) 0 (FV.few.b fF) fl
  refine Ok.step (is_okw ⟨a3, b3, c3, rfl, k1, k2, k3⟩ ⟨a5, b5, c5, rfl, p1, p2, p3⟩ bf bf) fun r ⟨g, E12⟩ => ?_
  obtain ⟨z, σ12⟩ := r
  simp only [decide_true] at g E12
  subst g
  simp (config := { maxSteps := 2000000 }) -implicitDefEqProofs (disch := (first | omega | rfl | assumption | (simp only [rsD]; first | omega | assumption))) only [Nat.reduceAdd, Nat.reduceMul, Nat.reduceLT, Int.reduceToNat, Int.reduceAdd, Int.reduceSub, Int.reduceMul, rsU, rsC]
  refine Ok.step (dtouched_ok hl (by omega)) fun r ⟨⟨t1, g, I1⟩, _⟩ => ?_
  obtain ⟨z, σ13⟩ := r
  simp only at g
  subst g
  simp (config := { maxSteps := 2000000 }) -implicitDefEqProofs (disch := (first | omega | rfl | assumption | (simp only [rsD]; first | omega | assumption))) only [Nat.reduceAdd, Nat.reduceMul, Nat.reduceLT, Int.reduceToNat, Int.reduceAdd, Int.reduceSub, Int.reduceMul, rsU, rsC]
  refine Ok.step (lrefs_ok hl fl (by omega)) fun r ⟨⟨e5, g, R3⟩, _⟩ => ?_
  obtain ⟨z, σ14⟩ := r
  simp only at g
  subst g
  simp (config := { maxSteps := 2000000 }) -implicitDefEqProofs (disch := (first | omega | rfl | assumption | (simp only [rsD]; first | omega | assumption))) only [Nat.reduceAdd, Nat.reduceMul, Nat.reduceLT, Int.reduceToNat, Int.reduceAdd, Int.reduceSub, Int.reduceMul, rsU, rsC]
  refine Ok.step (rtouched_ok R3 (by omega)) fun r ⟨⟨t2, g, I2⟩, _⟩ => ?_
  obtain ⟨z, σ15⟩ := r
  simp only at g
  subst g
  simp (config := { maxSteps := 2000000 }) -implicitDefEqProofs (disch := (first | omega | rfl | assumption | (simp only [rsD]; first | omega | assumption))) only [Nat.reduceAdd, Nat.reduceMul, Nat.reduceLT, Int.reduceToNat, Int.reduceAdd, Int.reduceSub, Int.reduceMul, rsU, rsC]
  have tl := touched_len l
  refine Ok.step (same02w I1 I2 (by omega) (by omega)) fun r g => ?_
  subst g
  simp (config := { maxSteps := 2000000 }) -implicitDefEqProofs (disch := (first | omega | rfl | assumption | (simp only [rsD]; first | omega | assumption))) only [decide_true, Nat.reduceAdd, Nat.reduceMul, Nat.reduceLT, Int.reduceToNat, Int.reduceAdd, Int.reduceSub, Int.reduceMul, rsU, rsC]
  exact Ok_some.2 rfl
end Go.Abs.Try
set_option maxRecDepth 100000
namespace Go.Abs.Try
open Go Go.Abs Go.Proofs
theorem diffApplies_all {O : Type} {x y : AV} {σ : AH O} {t : Nat} (hu : Try.prog.underlying t = some (.slice 76)) (hx : ArgIs Try.prog 39 x) (hy : ArgIs Try.prog t y) : Ok (law47_DiffApplies [x, y] σ) fun r => r.1 = .b true := by
  obtain ⟨F, hF, _⟩ := form_in hx
  obtain ⟨a, l, rfl, hl⟩ := list_in hu hy
  exact diffApplies_ok hF hl
end Go.Abs.Try
